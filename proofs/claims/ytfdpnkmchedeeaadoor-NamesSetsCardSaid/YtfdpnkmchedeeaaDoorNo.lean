/- norialaw09.few. -/
import Derived.Test.YtfdpnkmchedeeaaDoorNm
namespace Go.Proofs.YtfdpnkmchedeeaaDoor
open Go Go.V Go.RowKit
set_option linter.unusedVariables false
set_option linter.unusedSimpArgs false

def IB (l : List Nat) : List Value := l.map fun x => .int .u8 ((x : Nat) : Int)
theorem IB_len (l : List Nat) : (IB l).length = l.length := by simp [IB]
def fewTab : TX := [[97], [98], [99], [100], [101], [102, 47, 103], [42], [88], [], [104, 45, 49]]
def fewOf (x : Nat) : TT := fewTab.getD (x % 10) []
def fewF (l : List Nat) : TX := (l.take 20).map fewOf
theorem fewF_le (l : List Nat) : (fewF l).length ≤ 20 := by simp [fewF]; omega
theorem fewF_ok (l : List Nat) : ∀ x ∈ fewF l, x.length ≤ 9223372036854775807 := by
  intro x hx
  simp only [fewF, List.mem_map] at hx
  obtain ⟨k, _, rfl⟩ := hx
  have h : ∀ i, i < 10 → (fewTab.getD i []).length ≤ 9223372036854775807 := by decide
  exact h (k % 10) (Nat.mod_lt _ (by decide))
set_option maxRecDepth 100000 in
set_option maxHeartbeats 2000000 in
theorem few_ca (l : List Nat) (sl : Value) (w : World) (hsl : SlR w 1 sl l.length (IB l)) (hb8 : ∀ x ∈ l, x < 256) :
    Ca Tryd.prog 10 #[sl] w fun v w' => w'.ownsRow w.heap.size 9 1 v (fewF l).length (SL (fewF l)) ∧ Keeps NoB w w' := by
  obtain ⟨a, c, rfl, hc, hat⟩ := hsl.shape
  refine ca_of_body (args := [.slice a l.length c]) Tryd.func10 rfl (by kernel_rfl) ?_
  (repeat first | (apply wr_assign; exact rfl; with_reducible (conv => enter [6, 3]; whnf)) | apply wr_end | apply wc_seq | apply wc_region | apply wc_block)
  refine wc_loopL (α := Nat × Value) (fun p => [(0, .slice a l.length c), (3, p.2), (4, .int .i64 (p.1 : Int))])
    (fun p ds w' => ds = [] ∧ p.1 ≤ l.length ∧ p.1 ≤ 20 ∧ w'.ownsRow w.heap.size 9 1 p.2 p.1 (SL ((l.take p.1).map fewOf)) ∧ Keeps NoB w w') (fun p => l.length - p.1) (0, .slice none 0 0)
    ⟨rfl, Nat.zero_le _, Nat.zero_le _, own_nil _ _ _ _, Keeps.refl _ _⟩ ⟨rfl, rfl, rfl, trivial⟩ ?_
  rintro ⟨i, v⟩ ds f0 w1 ⟨rfl, hi, hi20, ho, hk⟩
  dsimp only at hi hi20 ho ⊢
  have hend : ∀ {j}, (j = l.length ∨ j = 20) → j ≤ 20 → (l.take j).map fewOf = fewF l := by
    intro j h hj
    unfold fewF
    rcases h with h | h
    · rw [h, List.take_length, List.take_of_length_le (by omega)]
    · rw [h]
  by_cases hlt : i < l.length
  rotate_left
  · have h1 := hend (j := i) (.inl (by omega)) hi20
    rw [h1] at ho
    have h2 : i = (fewF l).length := by have := ho.1; rw [SL_len] at this; omega
    subst h2
    (repeat first | (apply wr_move; exact rfl; with_reducible (conv => enter [6, 3]; whnf)) | (apply wr_assign; exact rfl; with_reducible (conv => enter [6, 3]; whnf)) | apply wr_end | apply wc_seq | apply wc_region | (apply wr_len_slice; iterate 2 exact rfl) | (apply wr_cmp; (iterate 3 exact rfl); exact cmpF (by dsimp only [cmpN]; first | done | omega)) | (apply wr_pick (t := false); (iterate 2 exact rfl); with_reducible (conv => enter [6, 3]; whnf)) | (apply wc_false; exact rfl) | (apply wc_exit; try simp only [thenE, inBlockE, bodyQ, ↓reduceIte, Nat.reduceEqDiff]) | (apply wc_ret; try simp only [thenE, inBlockE, bodyQ]) | (apply wr_skip; exact rfl))
    exact leave1 (v := v) rfl rfl ⟨ho, hk⟩
  by_cases hlt2 : i < 20
  rotate_left
  · have h1 := hend (j := i) (.inr (by omega)) hi20
    rw [h1] at ho
    have h2 : i = (fewF l).length := by have := ho.1; rw [SL_len] at this; omega
    subst h2
    (repeat first | (apply wr_move; exact rfl; with_reducible (conv => enter [6, 3]; whnf)) | (apply wr_assign; exact rfl; with_reducible (conv => enter [6, 3]; whnf)) | apply wr_end | apply wc_seq | apply wc_region | (apply wr_len_slice; iterate 2 exact rfl) | (apply wr_cmp; (iterate 3 exact rfl); exact cmpT (by dsimp only [cmpP]; first | done | omega)) | (apply wr_cmp; (iterate 3 exact rfl); exact cmpF (by dsimp only [cmpN]; first | done | omega)) | (apply wr_pick (t := true); (iterate 2 exact rfl); with_reducible (conv => enter [6, 3]; whnf)) | (apply wc_false; exact rfl) | (apply wc_exit; try simp only [thenE, inBlockE, bodyQ, ↓reduceIte, Nat.reduceEqDiff]) | (apply wc_ret; try simp only [thenE, inBlockE, bodyQ]))
    exact leave1 (v := v) rfl rfl ⟨ho, hk⟩
  obtain ⟨b, o, rfl, cur, e, fr, hb, hr⟩ := hat (by omega)
  obtain ⟨x, hx⟩ : ∃ x, l[i]? = some x := ⟨l[i], by simp [hlt]⟩
  have hx8 := hb8 x (List.mem_of_getElem? hx)
  have hcell : cur[o + i * 1]? = some (.int .u8 (x : Int)) := by rw [Nat.mul_one, hr i (by omega)]; simp [IB, hx]
  have hb1 := hk.heap hb (fun h => h)
  (repeat first | (apply wr_move; exact rfl; with_reducible (conv => enter [6, 3]; whnf)) | apply wr_end | apply wc_seq | apply wc_region | apply wc_skip | apply wc_block | (apply wr_len_slice; iterate 2 exact rfl) | (apply wr_cmp; (iterate 3 exact rfl); exact cmpT (by dsimp only [cmpP]; first | done | omega)) | (apply wr_pick (t := true); (iterate 2 exact rfl); with_reducible (conv => enter [6, 3]; whnf)) | (apply wc_true; exact rfl))
  refine wr_buildSlice (vs := fewTab.map S) rfl rfl (by intro v hv; simp [fewTab] at hv; rcases hv with rfl | rfl | rfl | rfl | rfl | rfl | rfl | rfl | rfl | rfl <;> rfl) rfl (by decide) (by decide) (by decide) ?_
  refine wr_name ?_
  intro w2 hw2
  have hk2 : Keeps NoB w1 w2 := by rw [hw2]; exact (Keeps.refl NoB w1).alloc _
  have hc2 : w2.heap[w1.heap.size]? = some (.cells (fewTab.map S).toArray 9 (0, 0)) := by rw [hw2]; exact heap_alloc_same _ _
  have hb2 := hk2.heap hb1 (fun h => h)
  have ho2 := own_keep ho hk2 (fun _ _ h => h)
  clear hw2
  (repeat first | (apply wr_move; exact rfl; with_reducible (conv => enter [6, 3]; whnf)))
  refine wr_indexAddr (i := i) rfl rfl rfl hlt ?_
  refine wr_load (v := .int .u8 (x : Int)) rfl rfl rfl hb2 hcell ?_
  refine wr_remN (n := x) (m := 10) rfl rfl rfl (by omega) ?_
  have hm : x % 10 < 10 := Nat.mod_lt _ (by decide)
  refine wr_indexAddr (i := x % 10) rfl rfl rfl hm ?_
  have hv : (fewTab.map S).toArray[0 + x % 10 * 1]? = some (S (fewOf x)) := by
    unfold fewOf
    have h : ∀ j, j < 10 → (fewTab.map S).toArray[0 + j * 1]? = some (S (fewTab.getD j [])) := by
      intro j hj
      have : (fewTab.map S).length = 10 := rfl
      rw [Nat.zero_add, Nat.mul_one, List.getElem?_toArray, List.getElem?_map, List.getD_eq_getElem?_getD]
      have h2 : j < fewTab.length := hj
      simp [h2]
    exact h _ hm
  refine wr_load (v := S (fewOf x)) rfl rfl rfl hc2 hv ?_
  refine wr_buildSlice (vs := [S (fewOf x)]) rfl rfl (by intro v hv; simp at hv; subst hv; rfl) rfl (by decide) (by decide) (by decide) ?_
  refine wr_name ?_
  intro w3 hw3
  have hk3 : Keeps NoB w2 w3 := by rw [hw3]; exact (Keeps.refl NoB w2).alloc _
  have hc3 : w3.heap[w2.heap.size]? = some (.cells [S (fewOf x)].toArray 9 (0, 0)) := by rw [hw3]; exact heap_alloc_same _ _
  have ho3 := own_keep ho2 hk3 (fun _ _ h => h)
  clear hw3
  skip
  refine wr_append (v := v) (base := w.heap.size) (n := i) (m := 1) (xs := SL ((l.take i).map fewOf)) (news := [S (fewOf x)]) rfl rfl ho3 rfl hc3 rfl (by intro u hu; simp at hu; subst hu; rfl) rfl (by decide) (by omega) (by omega) (by have := hk.size; have := hk2.size; have := hk3.size; omega) ?_
  intro v4 w4 ho4 hk4 _
  (repeat first | (apply wr_move; exact rfl; with_reducible (conv => enter [6, 3]; whnf)) | (apply wr_assign; exact rfl; with_reducible (conv => enter [6, 3]; whnf)) | apply wr_end | apply wc_region | (apply wr_add; (iterate 3 exact rfl); exact w_fit (by dsimp only [kIn]; first | done | omega)) | (apply wr_nil; try simp only [thenE, inBlockE, bodyQ]))
  refine ⟨(i + 1, v4), by dsimp only; omega, ⟨by trivial, hlt, hlt2, ?_, ?_⟩, rfl, rfl, by simp, trivial⟩
  · have e : SL ((l.take (i + 1)).map fewOf) = SL ((l.take i).map fewOf) ++ [S (fewOf x)] := by
      rw [List.take_add_one, hx]
      simp [SL]
    dsimp only
    rw [e]
    exact ho4
  · exact ((hk.trans hk2).trans hk3).trans' hk4 (fun j hj e => by have := own_ge ho3 e; omega)
end Go.Proofs.YtfdpnkmchedeeaaDoor
