/- ParentRound: plain facts. -/
import Derived.Test.YthjpgkefifkhjaaDoorTu
import Derived.Test.YthjpgkefifkhjaaDoorTy
namespace Go.Proofs.YthjpgkefifkhjaaDoor
open Go Go.V Go.RowKit
set_option linter.unusedVariables false
set_option linter.unusedSimpArgs false

def SaneN (T : List ND) (n : ND) : Prop := n.par = 0 ∨ (n.up = true ∧ n.par ∈ n.cands ∧ upT T n.par = true)
def Sane (T : List ND) : Prop := ∀ (k : Nat) (n : ND), T[k]? = some n → SaneN T n
theorem SaneN.choose (T : List ND) (n : ND) : SaneN T (chooseN T n) := by
  unfold SaneN chooseN
  dsimp only
  by_cases hu : n.up = true
  · rw [if_pos hu]
    cases hf : n.cands.find? (okC T n) with
    | none => exact .inl rfl
    | some c =>
      have h1 := List.find?_some hf
      unfold okC at h1
      rw [Bool.and_eq_true] at h1
      exact .inr ⟨hu, List.mem_of_find?_eq_some hf, h1.1⟩
  · rw [if_neg hu]; exact .inl rfl
theorem SaneN.mono {T T' : List ND} {n : ND} (h : SaneN T n) (hu : n.par ≠ 0 → upT T n.par = true → upT T' n.par = true) : SaneN T' n := by
  rcases h with h | ⟨h1, h2, h3⟩
  · exact .inl h
  · by_cases h0 : n.par = 0
    · exact .inl h0
    · exact .inr ⟨h1, h2, hu h0 h3⟩
theorem Sane.choose {T : List ND} (h : Sane T) (j : Nat) : Sane (chooseT T j) := fun k n hk => by
  rw [chooseT_get] at hk
  cases hm : T[k]? with
  | none => rw [hm] at hk; cases hk
  | some m =>
    rw [hm] at hk
    simp only [Option.map_some, Option.some.injEq] at hk
    subst hk
    split
    · exact (SaneN.choose T m).mono fun _ hu => by rw [upT_choose]; exact hu
    · exact (h k m hm).mono fun _ hu => by rw [upT_choose]; exact hu
theorem Sane.setD {T : List ND} (h : Sane T) {i : Nat} {n' : ND} (hn : ∀ n, T[i]? = some n → n'.up = n.up ∧ n'.par = n.par ∧ n'.cands = n.cands) : Sane (T.set i n') := by
  by_cases hl : i < T.length
  · have hi : T[i]? = some T[i] := by simp [hl]
    obtain ⟨e1, e2, e3⟩ := hn _ hi
    intro k n hk
    by_cases hik : i = k
    · subst hik
      rw [List.getElem?_set_self hl] at hk
      cases hk
      have := h i _ hi
      unfold SaneN at this ⊢
      rw [e1, e2, e3, upT_set (n' := n') hi e1]
      exact this
    · rw [List.getElem?_set_ne hik] at hk
      exact (h k n hk).mono fun _ hu => by rw [upT_set (n' := n') hi e1]; exact hu
  · rw [List.set_eq_of_length_le (by omega)]; exact h
theorem Sane.step {T : List ND} (h : Sane T) (id : Int) (k : Nat) : Sane (stepR id T k) := by
  unfold stepR
  dsimp only
  have h1 : Sane (T.set k (unDoubt id (T.getD k ndZ))) := h.setD fun n hn => by rw [getD_of hn]; exact ⟨rfl, rfl, rfl⟩
  split
  · exact h1.choose k
  · exact h1
theorem Sane.foldR (id : Int) (l : List Nat) : ∀ {T : List ND}, Sane T → Sane (l.foldl (stepR id) T) := by
  induction l with
  | nil => exact fun h => h
  | cons j l ih => exact fun h => ih (h.step id j)
theorem Sane.rise {T : List ND} (h : Sane T) (id : Int) : Sane (riseF T id) := by
  unfold riseF
  split
  · rename_i hc
    obtain ⟨i, rfl⟩ := Int.eq_ofNat_of_zero_le (show 0 ≤ id by have := hc.1; unfold inT at this; omega)
    have hin := hc.1
    unfold inT at hin
    have hl : i < T.length := by omega
    have hn : T[i]? = some T[i] := by simp [hl]
    rw [Int.toNat_natCast]
    unfold riseT
    rw [getD_of hn]
    have hup : T[i].up = false := by
      have := hc.2
      unfold upT at this
      rw [if_pos hc.1, ndAt_of (n := T[i]) (by rw [Int.toNat_natCast]; exact hn)] at this
      exact this
    have h1 : Sane (T.set i (riseN T[i])) := fun k n hk => by
      by_cases hik : i = k
      · subst hik
        rw [List.getElem?_set_self hl] at hk
        cases hk
        rcases h i _ hn with e | ⟨e, _⟩
        · exact .inl e
        · rw [hup] at e; cases e
      · rw [List.getElem?_set_ne hik] at hk
        exact (h k n hk).mono fun _ hu => by rw [upT_setN hn (by omega)]; split; rfl; exact hu
    exact Sane.foldR _ _ (h1.choose i)
  · exact h
theorem Sane.fall {T : List ND} (h : Sane T) (hZ : Z0 T) (id : Int) : Sane (fallF T id) := by
  unfold fallF
  split
  · rename_i hc
    obtain ⟨i, rfl⟩ := Int.eq_ofNat_of_zero_le (show 0 ≤ id by have := hc.1; unfold inT at this; omega)
    have hin := hc.1
    unfold inT at hin
    have hl : i < T.length := by omega
    have hn : T[i]? = some T[i] := by simp [hl]
    rw [Int.toNat_natCast]
    unfold fallT
    rw [getD_of hn]
    have hu1 : ∀ c, upT (T.set i (downN T[i])) c = if c = (i : Int) then false else upT T c := fun c => by rw [upT_setN hn (by omega)]; rfl
    generalize hT1 : T.set i (downN T[i]) = T1 at *
    have huF : ∀ c, upT ((belowN T i T.length).foldl chooseT (chooseT T1 i)) c = upT T1 c := fun c => by rw [upT_fold, upT_choose]
    intro k n hk
    rw [fold_get, chooseT_get] at hk
    cases hm : T1[k]? with
    | none => rw [hm] at hk; cases hk
    | some m =>
      rw [hm] at hk
      have hcc : ∀ n, chooseN (chooseT T1 i) n = chooseN T1 n := chooseN_congr (upT_choose T1 i)
      simp only [Option.map_some, Option.some.injEq, hcc] at hk
      have hch : SaneN ((belowN T i T.length).foldl chooseT (chooseT T1 i)) (chooseN T1 m) := (SaneN.choose T1 m).mono fun _ hu => by rw [huF]; exact hu
      by_cases hki : k = i
      · rw [if_pos hki] at hk
        split at hk <;> (subst hk; exact hch)
      · rw [if_neg hki] at hk
        by_cases hkb : k ∈ belowN T i T.length
        · rw [if_pos hkb] at hk
          subst hk
          exact hch
        · rw [if_neg hkb] at hk
          subst hk
          rw [← hT1, List.getElem?_set_ne (fun e => hki e.symm)] at hm
          refine (h k m hm).mono fun h0 hu => ?_
          rw [huF, hu1]
          have hk0 : 0 < k := by
            rcases Nat.eq_zero_or_pos k with e0 | hp
            · subst e0
              unfold Z0 at hZ
              rw [hZ] at hm
              cases hm
              exact absurd rfl h0
            · exact hp
          have hne : m.par ≠ (i : Int) := fun e => hkb (by
            have hkl := (List.getElem?_eq_some_iff.1 hm).1
            have hpk : parAt T k = (i : Int) := by unfold parAt; rw [getD_of hm, e]
            unfold belowN
            simp [hkl, hk0, hpk]
            omega)
          rw [if_neg hne]
          exact hu
  · exact h
theorem Sane.doubt {T : List ND} (h : Sane T) (id of : Int) : Sane (doubtF T id of) := by
  unfold doubtF
  split
  · unfold doubtT
    dsimp only
    have h1 : Sane (T.set id.toNat (doubtN of (T.getD id.toNat ndZ))) := h.setD fun n hn => by rw [getD_of hn]; exact ⟨rfl, rfl, rfl⟩
    split
    · refine Sane.choose (Sane.setD (h1.choose _) fun n hn => ?_) _
      rw [getD_of hn]; exact ⟨rfl, rfl, rfl⟩
    · exact h1.choose _
  · exact h
theorem upT_setD {T : List ND} {i : Nat} {n' : ND} (hn : ∀ n, T[i]? = some n → n'.up = n.up) (c : Int) : upT (T.set i n') c = upT T c := by
  by_cases hl : i < T.length
  · have hi : T[i]? = some T[i] := by simp [hl]
    exact upT_set (n' := n') hi (hn _ hi) c
  · rw [List.set_eq_of_length_le (by omega)]
theorem upT_doubt (T : List ND) (id of c : Int) : upT (doubtF T id of) c = upT T c := by
  unfold doubtF
  split
  · unfold doubtT
    dsimp only
    have h1 : upT (T.set id.toNat (doubtN of (T.getD id.toNat ndZ))) c = upT T c := upT_setD (fun n hn => by rw [getD_of hn]; rfl) c
    split
    · rw [upT_choose, upT_setD (fun n hn => by rw [getD_of hn]; rfl), upT_choose, h1]
    · rw [upT_choose, h1]
  · rfl
theorem SameSh.doubt (T : List ND) (id of : Int) : SameSh T (doubtF T id of) := by
  unfold doubtF
  split
  · unfold doubtT
    dsimp only
    have h1 : SameSh T (T.set id.toNat (doubtN of (T.getD id.toNat ndZ))) := SameSh.set fun n h => by rw [getD_of h]; exact ⟨rfl, rfl⟩
    split
    · exact ((h1.trans (SameSh.choose _ _)).trans (SameSh.set fun n h => by rw [getD_of h]; exact ⟨rfl, rfl⟩)).trans (SameSh.choose _ _)
    · exact h1.trans (SameSh.choose _ _)
  · exact SameSh.refl T
theorem Z0.doubt {T : List ND} (h : Z0 T) (id of : Int) : Z0 (doubtF T id of) := by
  unfold doubtF
  split
  · rename_i hc
    have h0 : id.toNat ≠ 0 := by have := hc.1; unfold inT at this; omega
    unfold doubtT
    dsimp only
    split
    · exact Z0.choose (Z0.set (Z0.choose (Z0.set h h0 _) _) h0 _) _
    · exact Z0.choose (Z0.set h h0 _) _
  · exact h
theorem setD_wf {T : List ND} {X : List NL} (h : WFT T X) {i : Nat} {n' : ND} (hn : ∀ n, T[i]? = some n → n'.cands = n.cands) : WFT (T.set i n') X := by
  by_cases hl : i < T.length
  · have hi : T[i]? = some T[i] := by simp [hl]
    exact h.set hi (hn _ hi)
  · rw [List.set_eq_of_length_le (by omega)]; exact h
theorem doubtF_wf {T : List ND} {X : List NL} (h : WFT T X) (id of : Int) : WFT (doubtF T id of) X := by
  unfold doubtF
  split
  · unfold doubtT
    dsimp only
    have h1 : WFT (T.set id.toNat (doubtN of (T.getD id.toNat ndZ))) X := setD_wf h fun n hn => by rw [getD_of hn]; rfl
    split
    · exact chooseT_wf (setD_wf (chooseT_wf h1 _) fun n hn => by rw [getD_of hn]; rfl) _
    · exact chooseT_wf h1 _
  · exact h
/-- What is so of the tree whatever is done. -/
structure Ok5 (N : List NG) (X : List NL) (T : List ND) : Prop where
  wf : WFT T X
  z : Z0 T
  sane : Sane T
  sh : SameSh (newT N) T
  xl : X.length = T.length
  root : upT T 1 = true
theorem Ok5.len {N : List NG} {X : List NL} {T : List ND} (h : Ok5 N X T) : T.length = N.length + 1 := by rw [h.sh.len, newT_len]
theorem Ok5.new {N : List NG} {X : List NL} (h1 : 1 ≤ N.length) (h : WFT (newT N) X) (hx : X.length = (newT N).length) : Ok5 N X (newT N) :=
  ⟨h, newT_Z N, fun k n hk => by
    have hp := (calm_new N).par hk
    rw [hp.symm.symm] at hp
    have := SaneN.choose (newT N) n
    rw [(calm_new N).fix k n hk] at this
    exact this, SameSh.refl _, hx, by rw [upT_new, decide_eq_true]; omega⟩
theorem Ok5.fall {N : List NG} {X : List NL} {T : List ND} (h : Ok5 N X T) (id : Int) : Ok5 N X (fallF T id) :=
  ⟨(fallF_wf h.wf id).1, h.z.fall id, h.sane.fall h.z id, h.sh.trans (SameSh.fall T id), by rw [h.xl, (fallF_wf h.wf id).2], by
    by_cases hc : inT T id ∧ id ≠ 1
    · rw [upT_fallF hc.1 hc.2, if_neg (fun e => hc.2 e.symm)]; exact h.root
    · rw [show fallF T id = T from if_neg (fun g => hc ⟨g.1, g.2.1⟩)]; exact h.root⟩
theorem Ok5.rise {N : List NG} {X : List NL} {T : List ND} (h : Ok5 N X T) (id : Int) : Ok5 N X (riseF T id) :=
  ⟨(riseF_wf h.wf id).1, h.z.rise id, h.sane.rise id, h.sh.trans (SameSh.rise T id), by rw [h.xl, (riseF_wf h.wf id).2], by
    by_cases hc : inT T id
    · rw [upT_riseF hc]; split; rfl; exact h.root
    · rw [show riseF T id = T from if_neg (fun g => hc g.1)]; exact h.root⟩
theorem Ok5.doubt {N : List NG} {X : List NL} {T : List ND} (h : Ok5 N X T) (id of : Int) : Ok5 N X (doubtF T id of) :=
  ⟨doubtF_wf h.wf id of, h.z.doubt id of, h.sane.doubt id of, h.sh.trans (SameSh.doubt T id of), by rw [h.xl, (SameSh.doubt T id of).len], by rw [upT_doubt]; exact h.root⟩
/-- A node, by what was given. -/
theorem Ok5.node {N : List NG} {X : List NL} {T : List ND} (h : Ok5 N X T) {k : Nat} {n : NG} (hn : N[k]? = some n) :
    inT T ((k : Int) + 1) ∧ (parT T ((k : Int) + 1) = 0 ∨ (upT T ((k : Int) + 1) = true ∧ parT T ((k : Int) + 1) ∈ n.2 ∧ upT T (parT T ((k : Int) + 1)) = true)) := by
  obtain ⟨m0, hm0, hd, hc, _⟩ := newT_get hn
  have hl := (List.getElem?_eq_some_iff.1 hm0).1
  have hl' : k + 1 < T.length := by rw [h.sh.len]; exact hl
  have hm : T[k + 1]? = some T[k + 1] := by simp [hl']
  obtain ⟨e1, e2⟩ := h.sh.el _ _ _ hm0 hm
  have hin : inT T ((k : Int) + 1) := by unfold inT; omega
  have hnd : ndAt T ((k : Int) + 1) = T[k + 1] := ndAt_of (by rw [show ((k : Int) + 1).toNat = k + 1 by omega]; exact hm)
  refine ⟨hin, ?_⟩
  unfold parT
  rw [if_pos hin, hnd]
  rcases h.sane _ _ hm with e | ⟨s1, s2, s3⟩
  · exact .inl e
  · exact .inr ⟨by unfold upT; rw [if_pos hin, hnd]; exact s1, by rw [← hc, ← e2]; exact s2, s3⟩
theorem pathL_ok (T : List ND) : ∀ (f : Nat) (id : Int), (pathL T f id).2 = decide ((pathL T f id).1.getLast? = some 1)
  | 0, id => rfl
  | f + 1, id => by
    unfold pathL
    split
    · split
      · rfl
      · rename_i h1
        have ih := pathL_ok T f (parT T id)
        dsimp only
        rw [ih]
        cases hp : (pathL T f (parT T id)).1 with
        | nil => simp [h1]
        | cons y l => simp [List.getLast?_cons_cons]
    · rfl
theorem pathL_le {T : List ND} (h : ∀ id, upT T id = true → id ≠ 1 → (parT T id).toNat < id.toNat) (h0 : upT T 0 = false) : ∀ (f : Nat) (id : Int), (pathL T f id).1.length ≤ id.toNat
  | 0, id => Nat.zero_le _
  | f + 1, id => by
    unfold pathL
    split
    · rename_i hu
      split
      · rename_i h1; subst h1; exact Nat.le_refl _
      · rename_i h1
        have ih := pathL_le h h0 f (parT T id)
        have := h id hu h1
        show (pathL T f (parT T id)).1.length + 1 ≤ _
        omega
    · exact Nat.zero_le _
theorem Ok5.mu {N : List NG} {X : List NL} {T : List ND} (h : Ok5 N X T) (hD : DrawnP N) (id : Int) (hu : upT T id = true) (h1 : id ≠ 1) : (parT T id).toNat < id.toNat := by
  have hin : inT T id := by
    by_cases g : inT T id
    · exact g
    · unfold upT at hu; rw [if_neg g] at hu; cases hu
  have hin' := hin
  unfold inT at hin'
  have hlen := h.len
  obtain ⟨k, rfl⟩ : ∃ k : Nat, id = (k : Int) + 1 := ⟨(id - 1).toNat, by omega⟩
  have hkl : k < N.length := by omega
  have hn : N[k]? = some N[k] := by simp [hkl]
  obtain ⟨_, e | ⟨_, e, _⟩⟩ := h.node hn
  · rw [e]; simp
  · have := (hD.ok k _ (by omega) hn).2.2.2 _ e
    omega
end Go.Proofs.YthjpgkefifkhjaaDoor
