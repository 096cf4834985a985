/- StoreWanted. -/
import Derived.Test.YtafnbbehmbmchaaDoorQh
import Derived.Test.YtafnbbehmbmchaaDoorSn
namespace Go.Proofs.YtafnbbehmbmchaaDoor
open Go Go.V Go.RowKit
set_option linter.unusedVariables false
set_option linter.unusedSimpArgs false

def keyJ (i : Nat) : KY := (2, [UInt8.ofNat (97 + i)])
theorem keyJ_ok {i : Nat} (h : i < 26) : keyOk (keyJ i) ∧ (keyJ i).2 ≠ star := by
  have h1 : ∀ i, i < 26 → keyOk (keyJ i) ∧ (keyJ i).2 ≠ star := by decide +kernel
  exact h1 i h
theorem keyJ_inj {i j : Nat} (hi : i < 26) (hj : j < 26) (h : keyJ i = keyJ j) : i = j := by
  have h1 : ∀ i, i < 26 → ∀ j, j < 26 → keyJ i = keyJ j → i = j := by decide +kernel
  exact h1 i hi j hj h
theorem keyJ_short (i : Nat) : (keyJ i).2.length ≤ 9223372036854775807 := by simp [keyJ]
def resJ (i : Nat) : RD := ((keyJ i).1, (keyJ i).2, 1, false, [])
theorem resJ_ok {i : Nat} (h : i < 26) : rightOk (resJ i) := ⟨(keyJ_ok h).1, (keyJ_ok h).2, Nat.zero_le _, fun h => rfl, Nat.le_refl 1, by show 1 ≤ 4611686018427387904; decide⟩
def keyZ : KY := (1, [122])
def resZ : RD := (1, [122], 1, false, [])
theorem resZ_ok : rightOk resZ := ⟨by decide +kernel, by decide +kernel, Nat.zero_le _, fun h => rfl, by decide, by decide⟩
theorem rangeJ_nodup {n : Nat} (h : n ≤ 26) : ((List.range n).map keyJ).Nodup := by
  have h1 : ∀ n, n ≤ 26 → ((List.range n).map keyJ).Nodup := by decide +kernel
  exact h1 n h
theorem rangeJ_not {i n : Nat} (hn : n ≤ i) (hi : i < 26) : keyJ i ∉ (List.range n).map keyJ := by
  intro h
  obtain ⟨j, hj, e⟩ := List.mem_map.1 h
  have hj' := List.mem_range.1 hj
  have := keyJ_inj (by omega) hi e
  omega
theorem zJ_not (n : Nat) : keyZ ∉ (List.range n).map keyJ := by
  intro h
  obtain ⟨j, hj, e⟩ := List.mem_map.1 h
  exact absurd (show (2 : Int) = 1 from congrArg Prod.fst e) (by decide)
def bitW (wd i : Nat) : Bool := decide (wd / 2 ^ i % 2 = 1)
def cnt (wd i : Nat) : Nat := ((List.range i).filter (bitW wd)).length
theorem cnt_succ (wd i : Nat) : cnt wd (i + 1) = cnt wd i + if bitW wd i = true then 1 else 0 := by
  unfold cnt
  rw [List.range_succ, List.filter_append, List.length_append]
  by_cases h : bitW wd i = true
  · simp [h]
  · simp [h]
theorem cnt_le (wd i : Nat) : cnt wd i ≤ i := by
  have := List.length_filter_le (bitW wd) (List.range i)
  simpa [cnt] using this
theorem cnt_all {wd n : Nat} (h : cnt wd n = n) {j : Nat} (hj : j < n) : bitW wd j = true := by
  have h1 : ((List.range n).filter (bitW wd)).length = (List.range n).length := by simpa [cnt] using h
  have h2 := List.length_filter_eq_length_iff.1 h1
  exact h2 j (List.mem_range.2 hj)
theorem cnt_some : ∀ {wd n : Nat}, cnt wd n < n → ∃ j, j < n ∧ bitW wd j = false := by
  intro wd n h
  refine Classical.byContradiction fun hc => ?_
  have h1 : (List.range n).filter (bitW wd) = List.range n := List.filter_eq_self.2 fun j hj => by
    cases hb : bitW wd j with
    | true => rfl
    | false => exact absurd ⟨j, List.mem_range.1 hj, hb⟩ hc
  unfold cnt at h
  rw [h1] at h
  simp at h
/-- Who is wanted, of the first i. -/
structure WJ (wd i : Nat) (W : KY → Int) : Prop where
  at' : ∀ j, j < 12 → W (keyJ j) = if j < i ∧ bitW wd j = true then 1 else 0
  star2 : W (2, star) = 0
  z : W keyZ = 0
  star1 : W (1, star) = 0
theorem WJ.want {wd i j : Nat} {W : KY → Int} (h : WJ wd i W) (hj : j < 12) : wantP W (keyJ j) = if j < i ∧ bitW wd j = true then 1 else 0 := by
  unfold wantP
  rw [if_pos (keyJ_ok (by omega)).1, if_neg (keyJ_ok (show j < 26 by omega)).2, h.at' j hj, show ((keyJ j).1, star) = (2, star) from rfl, h.star2]
  omega
theorem WJ.wantZ {wd i : Nat} {W : KY → Int} (h : WJ wd i W) : wantP W keyZ = 0 := by
  unfold wantP
  rw [if_pos (by decide +kernel), if_neg (by decide), h.z, show (keyZ.1, star) = (1, star) from rfl, h.star1]
  rfl
theorem WJ.skip {wd i : Nat} {W : KY → Int} (h : WJ wd i W) (hb : bitW wd i = false) : WJ wd (i + 1) W :=
  ⟨fun j hj => by
    rw [h.at' j hj]
    by_cases hji : j = i
    · subst hji; simp [hb]
    · have : j < i + 1 ↔ j < i := by omega
      simp only [this], h.star2, h.z, h.star1⟩
theorem WJ.step {wd i : Nat} {W : KY → Int} (h : WJ wd i W) (hi : i < 12) (hb : bitW wd i = true) : WJ wd (i + 1) (setW W (keyJ i) (W (keyJ i) + 1)) := by
  have hs := (keyJ_ok (show i < 26 by omega)).2
  refine ⟨fun j hj => ?_, ?_, ?_, ?_⟩
  · unfold setW
    by_cases hji : j = i
    · subst hji
      rw [if_pos rfl, h.at' j hj]; simp [hb]
    · rw [if_neg (fun e => hji (keyJ_inj (by omega) (by omega) e)), h.at' j hj]
      have : j < i + 1 ↔ j < i := by omega
      simp only [this]
  · unfold setW
    rw [if_neg (fun e => hs (congrArg Prod.snd e).symm), h.star2]
  · unfold setW
    rw [if_neg (fun e => absurd (show (1 : Int) = 2 from congrArg Prod.fst e) (by decide)), h.z]
  · unfold setW
    rw [if_neg (fun e => absurd (show (1 : Int) = 2 from congrArg Prod.fst e) (by decide)), h.star1]
def entJ (wd i : Nat) : EN := (resJ i, !bitW wd i, 0)
def KJ (wd i : Nat) (K : KL) : Prop := K.map (fun x => (x.1, x.2.2)) = (List.range i).map fun j => (keyJ j, entJ wd j)
theorem KJ.keys {w i : Nat} {K : KL} (h : KJ w i K) : K.map (·.1) = (List.range i).map keyJ := by
  have := congrArg (List.map Prod.fst) h
  rw [List.map_map, List.map_map] at this
  exact this
theorem KJ.of {w i : Nat} {K : KL} (h : KJ w i K) {x : KY × PE} (hx : x ∈ K) : ∃ j, j < i ∧ x.1 = keyJ j ∧ x.2.2 = entJ w j := by
  have h1 : (x.1, x.2.2) ∈ K.map (fun x => (x.1, x.2.2)) := List.mem_map.2 ⟨x, hx, rfl⟩
  rw [h] at h1
  obtain ⟨j, hj, e⟩ := List.mem_map.1 h1
  exact ⟨j, List.mem_range.1 hj, (congrArg Prod.fst e).symm, (congrArg Prod.snd e).symm⟩
theorem KJ.has {w i j : Nat} {K : KL} (h : KJ w i K) (hj : j < i) : ∃ x ∈ K, x.1 = keyJ j ∧ x.2.2 = entJ w j := by
  have h1 : (keyJ j, entJ w j) ∈ (List.range i).map fun j => (keyJ j, entJ w j) := List.mem_map.2 ⟨j, List.mem_range.2 hj, rfl⟩
  rw [← h] at h1
  obtain ⟨x, hx, e⟩ := List.mem_map.1 h1
  exact ⟨x, hx, congrArg Prod.fst e, congrArg Prod.snd e⟩
theorem KJ.len {w i : Nat} {K : KL} (h : KJ w i K) : K.length = i := by
  have := congrArg List.length h
  simpa using this
theorem KJ.put {w i : Nat} {K : KL} (h : KJ w i K) (hi : i < 26) (g : Nat) (e : EN) (he : e = entJ w i) : KJ w (i + 1) (putL K (keyJ i) (g, e)) := by
  have hnk : keyJ i ∉ K.map (·.1) := by rw [h.keys]; exact rangeJ_not (Nat.le_refl _) hi
  unfold KJ at h ⊢
  rw [putL_new _ hnk, List.map_append, h, List.range_succ, List.map_append, he]; rfl
/-- What is kept before a sweep. -/
structure Fit (n : Nat) (K : KL) : Prop where
  nd : (K.map (·.1)).Nodup
  key : ∀ x ∈ K, x.1 = keyR x.2.2.1
  len : ∀ x ∈ K, x.1.2.length ≤ 9223372036854775807
  sin : ∀ x ∈ K, x.2.2.2.2 ≤ 1
  le : K.length ≤ n
def sweptK (W : KY → Int) (now : Nat) (G : List KY) (K : KL) : KL := (K.map (updX W now)).filter fun x => decide (x.1 ∉ G)
theorem swept_keys {W : KY → Int} {now : Nat} {G : List KY} {K : KL} {k : KY} : k ∈ (sweptK W now G K).map (·.1) ↔ k ∈ K.map (·.1) ∧ k ∉ G := by
  unfold sweptK
  simp only [List.mem_map, List.mem_filter]
  constructor
  · rintro ⟨x, ⟨⟨y, hy, rfl⟩, hg⟩, rfl⟩
    exact ⟨⟨y, hy, rfl⟩, by simpa using hg⟩
  · rintro ⟨⟨y, hy, rfl⟩, hg⟩
    exact ⟨updX W now y, ⟨⟨y, hy, rfl⟩, by simpa [updX] using hg⟩, rfl⟩
theorem swept_of {W : KY → Int} {now : Nat} {G : List KY} {K : KL} {x : KY × PE} (h : x ∈ sweptK W now G K) : x.1 ∉ G ∧ ∃ y ∈ K, x = updX W now y := by
  unfold sweptK at h
  obtain ⟨h1, h2⟩ := List.mem_filter.1 h
  obtain ⟨y, hy, rfl⟩ := List.mem_map.1 h1
  exact ⟨by simpa using h2, y, hy, rfl⟩
theorem swept_len {W : KY → Int} {now : Nat} {G : List KY} {K : KL} : (sweptK W now G K).length ≤ K.length := by
  have := List.length_filter_le (fun x : KY × PE => decide (x.1 ∉ G)) (K.map (updX W now))
  simpa [sweptK] using this
theorem Fit.swept {n : Nat} {W : KY → Int} {G : List KY} {K : KL} (h : Fit n K) : Fit n (sweptK W 1 G K) where
  nd := by
    have h1 : ((K.map (updX W 1)).map (·.1)).Nodup := by rw [List.map_map]; exact h.nd
    exact h1.sublist (List.filter_sublist.map _)
  key := fun x hx => by
    obtain ⟨_, y, hy, rfl⟩ := swept_of hx
    exact h.key y hy
  len := fun x hx => by
    obtain ⟨_, y, hy, rfl⟩ := swept_of hx
    exact h.len y hy
  sin := fun x hx => by
    obtain ⟨_, y, hy, rfl⟩ := swept_of hx
    have := h.sin y hy
    show sinceX W 1 y ≤ 1
    unfold sinceX
    split
    · exact this
    · split
      · exact this
      · exact Nat.le_refl _
  le := Nat.le_trans swept_len h.le
theorem gone_mem {W : KY → Int} {g now : Nat} {K : KL} {k : KY} : k ∈ K.filterMap (goneX W g now) ↔ ∃ x ∈ K, x.1 = k ∧ ¬ 0 < wantP W x.1 ∧ sinceX W now x ≤ now ∧ g ≤ now - sinceX W now x := by
  rw [List.mem_filterMap]
  constructor
  · rintro ⟨x, hx, h⟩
    unfold goneX at h
    split at h
    · rename_i hc
      exact ⟨x, hx, Option.some.inj h, hc⟩
    · cases h
  · rintro ⟨x, hx, rfl, hc⟩
    exact ⟨x, hx, by unfold goneX; rw [if_pos hc]⟩
/-- Behind both sweeps just those that are wanted are left. -/
theorem left {n g : Nat} {W : KY → Int} {G1 G2 : List KY} {K : KL} (h : Fit n K) (h1 : G1.Perm (K.filterMap (goneX W g 1))) (h2 : G2.Perm ((sweptK W 1 G1 K).filterMap (goneX W g (g + 1)))) (k : KY) :
    k ∈ (sweptK W (g + 1) G2 (sweptK W 1 G1 K)).map (·.1) ↔ k ∈ K.map (·.1) ∧ 0 < wantP W k := by
  rw [swept_keys, swept_keys]
  constructor
  · rintro ⟨⟨hk, hg1⟩, hg2⟩
    refine ⟨hk, Classical.byContradiction fun hw => hg2 ?_⟩
    obtain ⟨x, hx, rfl⟩ := List.mem_map.1 (swept_keys.2 ⟨hk, hg1⟩)
    rw [h2.mem_iff, gone_mem]
    refine ⟨x, hx, rfl, hw, ?_⟩
    have hs := h.swept.sin x hx
    have hi : x.2.2.2.1 = true := by
      obtain ⟨_, y, hy, rfl⟩ := swept_of hx
      exact decide_eq_true hw
    unfold sinceX
    rw [if_neg hw, if_pos hi]
    omega
  · rintro ⟨hk, hw⟩
    refine ⟨⟨hk, fun hg => ?_⟩, fun hg => ?_⟩
    · obtain ⟨x, _, rfl, hc, _⟩ := gone_mem.1 (h1.mem_iff.1 hg)
      exact hc hw
    · obtain ⟨x, _, rfl, hc, _⟩ := gone_mem.1 (h2.mem_iff.1 hg)
      exact hc hw
theorem left_len {n wd : Nat} {W : KY → Int} {K : KL} (hnd : (K.map (·.1)).Nodup) (hn : n ≤ 12) (h : ∀ k, k ∈ K.map (·.1) ↔ ∃ j, j < n ∧ bitW wd j = true ∧ k = keyJ j) : K.length = cnt wd n := by
  have h1 : ((List.range n).filter (bitW wd)).map keyJ |>.Nodup := (rangeJ_nodup (by omega : n ≤ 26)).sublist (List.filter_sublist.map _)
  have h2 := (List.perm_ext_iff_of_nodup hnd h1).2 fun k => by
    rw [h k, List.mem_map]
    constructor
    · rintro ⟨j, hj, hb, rfl⟩
      exact ⟨j, List.mem_filter.2 ⟨List.mem_range.2 hj, hb⟩, rfl⟩
    · rintro ⟨j, hj, rfl⟩
      have := List.mem_filter.1 hj
      exact ⟨j, List.mem_range.1 this.1, this.2, rfl⟩
  have := h2.length_eq
  rw [List.length_map, List.length_map] at this
  exact this
theorem isSome_iff {β : Type} {L : List (KY × β)} {k : KY} : (getL L k).isSome = decide (k ∈ L.map (·.1)) := by
  by_cases h : k ∈ L.map (·.1)
  · rw [getL_some h, decide_eq_true h]
  · rw [getL_none h, decide_eq_false h]; rfl
end Go.Proofs.YtafnbbehmbmchaaDoor
