/- slices.Contains of texts; what is no name. -/
import Derived.Test.YtajajahofkialaaGreatDoorNe
import Derived.Test.YtajajahofkialaaGreatDoorNg
namespace Go.Proofs.YtajajahofkialaaGreatDoor
open Go Go.V Go.RowKit
set_option linter.unusedVariables false
set_option linter.unusedSimpArgs false

theorem idxS_mem (l : TX) (x : List UInt8) : decide (0 ≤ idxS l x) = decide (x ∈ l) := by
  unfold idxS
  cases hf : l.findIdx? (· == x) with
  | none =>
    rw [List.findIdx?_eq_none_iff] at hf
    rw [decide_eq_false (show ¬ ((0 : Int) ≤ -1) by omega), decide_eq_false]
    intro h
    have := hf x h
    simp at this
  | some i =>
    rw [List.findIdx?_eq_some_iff_getElem] at hf
    obtain ⟨hi, he, _⟩ := hf
    rw [decide_eq_true (show (0 : Int) ≤ (i : Int) by omega), decide_eq_true]
    simp at he
    rw [← he]
    exact List.getElem_mem hi
set_option maxRecDepth 100000 in
set_option maxHeartbeats 1000000 in
theorem contains_ca (l : TX) (x : List UInt8) (sl : Value) (w : World) (hsl : SlR w 1 sl l.length (SL l)) (hlen : l.length ≤ 8796093022000) :
    Ca Tryz.prog 55 #[sl, S x] w fun v w' => v = .bool (decide (x ∈ l)) ∧ Keeps NoB w w' := by
  refine ca_of_body (args := [sl, S x]) Tryz.func55 rfl (by kernel_rfl) ?_
  (repeat first | (apply wr_move; exact rfl; with_reducible (conv => enter [6, 3]; whnf)) | (apply wr_assign; exact rfl; with_reducible (conv => enter [6, 3]; whnf)) | apply wr_end | apply wc_seq | apply wc_region)
  refine wr_call (vs := [sl, S x]) rfl (indexS_ca l x sl w hsl (by omega)) rfl ?_
  rintro v w2 ⟨rfl, hk⟩
  (repeat first | (apply wr_assign; exact rfl; with_reducible (conv => enter [6, 3]; whnf)) | apply wr_end | (apply wr_cmp; (iterate 3 exact rfl); exact cmp_le _ _) | (apply wc_ret; try simp only [thenE, inBlockE, bodyQ]))
  exact leave1 (v := .bool (decide (0 ≤ idxS l x))) rfl rfl ⟨by rw [idxS_mem], hk⟩
set_option maxRecDepth 100000 in
set_option maxHeartbeats 1000000 in
theorem wrong_ca (s : List UInt8) (w : World) (hs : s.length ≤ 9223372036854775807) : Ca Tryz.prog 53 #[S s] w fun v w' => v = .bool (!decide (nameOk s)) ∧ Keeps NoB w w' := by
  refine ca_of_body (args := [S s]) Tryz.func53 rfl (by kernel_rfl) ?_
  (repeat first | (apply wr_move; exact rfl; with_reducible (conv => enter [6, 3]; whnf)) | (apply wr_assign; exact rfl; with_reducible (conv => enter [6, 3]; whnf)) | apply wr_end | apply wc_seq | apply wc_region)
  refine wr_call (vs := [S s]) rfl (name_ca s w hs) rfl ?_
  rintro v w2 ⟨rfl, hk⟩
  (repeat first | (apply wr_assign; exact rfl; with_reducible (conv => enter [6, 3]; whnf)) | apply wr_end | (apply wr_not; iterate 2 exact rfl) | (apply wc_ret; try simp only [thenE, inBlockE, bodyQ]))
  exact leave1 (v := .bool (!decide (nameOk s))) rfl rfl ⟨rfl, hk⟩
end Go.Proofs.YtajajahofkialaaGreatDoor
