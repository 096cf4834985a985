/- StoreLists. -/
import Derived.Test.YtafnbbehmbmchaaDoorSp
import Derived.Test.YtafnbbehmbmchaaDoorSn
namespace Go.Proofs.YtafnbbehmbmchaaDoor
open Go Go.V Go.RowKit
set_option linter.unusedVariables false
set_option linter.unusedSimpArgs false

/-- What is kept is kept under its own key, of a few. -/
def KOk (K : KL) : Prop := ∀ x ∈ K, x.1 = keyR x.2.2.1 ∧ 1 ≤ x.1.1 ∧ x.1.1 ≤ 5 ∧ x.1.2 ∈ wordTab
theorem KOk_put {K : KL} (h : KOk K) {r : RD} (h1 : 1 ≤ r.1) (h5 : r.1 ≤ 5) (hn : r.2.1 ∈ wordTab) (g : Nat) (b : Bool) (n : Nat) : KOk (putL K (keyR r) (g, (r, b, n))) := by
  intro x hx
  rcases mem_putL hx with rfl | hx
  · exact ⟨rfl, h1, h5, hn⟩
  · exact h x hx
theorem word_len {x : TT} (h : x ∈ wordTab) : x.length ≤ 9223372036854775807 := by
  have : ∀ x ∈ wordTab, x.length ≤ 10 := by decide +kernel
  have := this x h
  omega
theorem listR_le {K : KL} (hn : (K.map (·.1)).Nodup) (h : KOk K) (kind : Int) : (listR K kind).length ≤ 6 := by
  have h1 : ((K.filter fun x => x.1.1 = kind).map fun x => wordTab.idxOf x.1.2).Nodup := by
    unfold List.Nodup at hn ⊢
    rw [List.pairwise_map] at hn ⊢
    refine (hn.sublist List.filter_sublist).imp_of_mem ?_
    intro a b ha hb hab e
    have ha' := List.mem_filter.1 ha
    have hb' := List.mem_filter.1 hb
    simp at ha' hb'
    have h1 := (h a ha'.1).2.2.2
    have h2 := (h b hb'.1).2.2.2
    refine hab (Prod.ext (ha'.2.trans hb'.2.symm) ?_)
    have e1 : wordTab[wordTab.idxOf a.1.2]? = some a.1.2 := by
      have : ∀ x ∈ wordTab, wordTab[wordTab.idxOf x]? = some x := by decide +kernel
      exact this _ h1
    have e2 : wordTab[wordTab.idxOf b.1.2]? = some b.1.2 := by
      have : ∀ x ∈ wordTab, wordTab[wordTab.idxOf x]? = some x := by decide +kernel
      exact this _ h2
    rw [e, e2] at e1
    exact (Option.some.inj e1).symm
  have h2 := nodup_le 6 _ h1 (fun i hi => by
    obtain ⟨x, hx, rfl⟩ := List.mem_map.1 hi
    have h1 := (h x (List.mem_filter.1 hx).1).2.2.2
    have : ∀ x ∈ wordTab, wordTab.idxOf x < 6 := by decide +kernel
    exact this _ h1)
  rw [List.length_map] at h2
  unfold listR
  rw [List.length_map]
  exact h2
def belowK (K : KL) (kind : Int) : Nat := (K.filter fun x => decide (x.1.1 < kind)).length
theorem below_succ (K : KL) (kind : Int) : belowK K (kind + 1) = belowK K kind + (listR K kind).length := by
  unfold belowK listR
  rw [List.length_map]
  induction K with
  | nil => rfl
  | cons x K ih =>
    simp only [List.filter_cons]
    by_cases h1 : x.1.1 < kind
    · have h2 : x.1.1 < kind + 1 := by omega
      have h3 : ¬ x.1.1 = kind := by omega
      simp only [h1, h2, h3, decide_true, decide_false, if_true, List.length_cons, Bool.false_eq_true, if_false]
      omega
    · by_cases h3 : x.1.1 = kind
      · have h2 : x.1.1 < kind + 1 := by omega
        simp only [h1, h2, h3, decide_true, decide_false, if_true, List.length_cons, Bool.false_eq_true, if_false]
        have h4 : ¬ kind < kind := by omega
        have h5 : kind < kind + 1 := by omega
        simp only [h4, h5, decide_true, decide_false, if_true, List.length_cons, Bool.false_eq_true, if_false]
        omega
      · have h2 : ¬ x.1.1 < kind + 1 := by omega
        simp only [h1, h2, h3, decide_true, decide_false, if_true, List.length_cons, Bool.false_eq_true, if_false]
        omega
theorem below_one {K : KL} (h : KOk K) : belowK K 1 = 0 := by
  unfold belowK
  rw [List.length_eq_zero_iff, List.filter_eq_nil_iff]
  intro x hx
  have := (h x hx).2.1
  simp; omega
theorem below_all {K : KL} (h : KOk K) : belowK K 6 = K.length := by
  unfold belowK
  rw [List.filter_eq_self.2]
  intro x hx
  have := (h x hx).2.2.1
  simp; omega
theorem listR_zero {K : KL} (h : KOk K) : listR K 0 = [] := by
  unfold listR
  rw [List.map_eq_nil_iff, List.filter_eq_nil_iff]
  intro x hx
  have := (h x hx).2.1
  simp; omega
theorem getL_of_mem {β : Type} : ∀ {L : List (KY × β)} {k : KY} {y : β}, (L.map (·.1)).Nodup → (k, y) ∈ L → getL L k = some y
  | [], k, y, _, h => by simp at h
  | p :: L, k, y, hn, h => by
    simp only [List.map_cons, List.nodup_cons] at hn
    unfold getL
    rw [List.find?_cons]
    rcases List.mem_cons.1 h with h | h
    · subst h; simp
    · have hp : ¬ p.1 = k := fun e => hn.1 (e ▸ List.mem_map.2 ⟨_, h, rfl⟩)
      have := getL_of_mem hn.2 h
      unfold getL at this
      simpa [hp] using this
theorem listR_mem {K : KL} (hn : (K.map (·.1)).Nodup) (h : KOk K) {kind : Int} {r : RD} (hr : r ∈ listR K kind) : r.1 = kind ∧ ∃ y : Nat × EN, getL K (keyR r) = some y ∧ y.2.1 = r := by
  obtain ⟨x, hx, rfl⟩ := List.mem_map.1 hr
  have hx' := List.mem_filter.1 hx
  simp at hx'
  have h1 := (h x hx'.1).1
  refine ⟨?_, x.2, ?_, rfl⟩
  · have := congrArg Prod.fst h1
    exact this.symm.trans hx'.2
  · rw [← h1]
    exact getL_of_mem hn hx'.1
theorem listR_nodup {K : KL} (hn : (K.map (·.1)).Nodup) (h : KOk K) (kind : Int) : ((listR K kind).map keyR).Nodup := by
  unfold listR
  unfold List.Nodup at hn ⊢
  rw [List.pairwise_map] at hn
  rw [List.pairwise_map, List.pairwise_map]
  refine (hn.sublist List.filter_sublist).imp_of_mem ?_
  intro a b ha hb hab e
  have h1 := (h a (List.mem_filter.1 ha).1).1
  have h2 := (h b (List.mem_filter.1 hb).1).1
  exact hab (h1.trans (e.trans h2.symm))
/-- Of two behind one another the names rise. -/
theorem names_rise {K : KL} (hn : (K.map (·.1)).Nodup) (h : KOk K) {kind : Int} {l : List RD} (hp : l.Perm (listR K kind)) (hs : SortedR l) {i : Nat} {a b : RD} (ha : l[i]? = some a) (hb : l[i + 1]? = some b) : a.2.1 < b.2.1 := by
  obtain ⟨hia, rfl⟩ := List.getElem?_eq_some_iff.1 ha
  obtain ⟨hib, rfl⟩ := List.getElem?_eq_some_iff.1 hb
  have h1 := List.pairwise_iff_getElem.1 hs i (i + 1) hia hib (by omega)
  have h2 : (l.map keyR).Nodup := (hp.map keyR).nodup_iff.2 (listR_nodup hn h kind)
  unfold List.Nodup at h2
  rw [List.pairwise_map] at h2
  have h3 := List.pairwise_iff_getElem.1 h2 i (i + 1) hia hib (by omega)
  have t1 := (listR_mem hn h (hp.mem_iff.1 (List.getElem_mem hia))).1
  have t2 := (listR_mem hn h (hp.mem_iff.1 (List.getElem_mem hib))).1
  have h4 : ¬ (l[i + 1]).2.1 < (l[i]).2.1 := fun e => h1 (.inr ⟨t2.trans t1.symm, e⟩)
  have h5 : (l[i]).2.1 ≠ (l[i + 1]).2.1 := fun e => h3 (Prod.ext (t1.trans t2.symm) e)
  exact Classical.byContradiction fun hc => h5 (bytesLt_tri _ _ hc h4)
theorem thP_few (x : TH) : 1 ≤ (thP x).1 ∧ (thP x).1 ≤ 5 ∧ (thP x).2.1 ∈ wordTab := by
  refine ⟨?_, ?_, word_mem _⟩
  · show 1 ≤ 1 + x.1.1 % 18446744073709551616 % 5
    omega
  · show 1 + x.1.1 % 18446744073709551616 % 5 ≤ 5
    omega
end Go.Proofs.YtafnbbehmbmchaaDoor
