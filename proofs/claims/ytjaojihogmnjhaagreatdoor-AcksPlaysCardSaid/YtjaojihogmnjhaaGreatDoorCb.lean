/- strings.Trim, check.Name. -/
import Derived.Test.YtjaojihogmnjhaaGreatDoorCa
namespace Go.Proofs.YtjaojihogmnjhaaGreatDoor
open Go Go.V Go.RowKit
set_option linter.unusedVariables false
set_option linter.unusedSimpArgs false

def nameSet : List UInt8 := [97, 98, 99, 100, 101, 102, 103, 104, 105, 106, 107, 108, 109, 110, 111, 112, 113, 114, 115, 116, 117, 118, 119, 120, 121, 122, 48, 49, 50, 51, 52, 53, 54, 55, 56, 57, 45, 46, 47]
def trimN (s : List UInt8) : List UInt8 := (trimR nameSet s).dropWhile nameSet.contains
abbrev zeroSet : Value := .agg (Array.replicate 256 (.bool false))
instance infoSet : Info Tryz.prog 153 zeroSet 256 256 := ⟨by kernel_rfl⟩
theorem mkSet_ca (w : World) : Ca Tryz.prog 89 #[S nameSet] w fun v w' => v = .tuple #[.agg (Lib.setCells nameSet), .bool true] ∧ Keeps NoB w w' :=
  Ca.of_calls (Tryz.strings_makeASCIISet (fun w => by kernel_rfl) ⟨nameSet.toArray⟩ w (by decide) (by
    have : ∀ b ∈ nameSet, b.toNat < 128 := by decide
    exact fun j b hb => this b (List.mem_of_getElem? hb))) (fun e w' ⟨h1, h2⟩ => ⟨_, h1, rfl, by rw [h2]; exact (Keeps.refl NoB w).alloc _⟩)
set_option maxRecDepth 100000 in
set_option maxHeartbeats 1000000 in
theorem trim_ca (s : List UInt8) (w : World) (hs : s.length ≤ 64) (h0 : s ≠ []) :
    Ca Tryz.prog 82 #[S s, S nameSet] w fun v w' => v = S (trimN s) ∧ Keeps NoB w w' := by
  refine ca_of_body (args := [S s, S nameSet]) Tryz.func82 rfl (by kernel_rfl) ?_
  have hn0 : nameSet ≠ [] := by decide
  (repeat first | (apply wr_move; exact rfl; with_reducible (conv => enter [6, 3]; whnf)) | (apply wr_assign; exact rfl; with_reducible (conv => enter [6, 3]; whnf)) | apply wr_end | apply wc_seq | apply wc_region | apply wc_skip | (apply wr_len_str; iterate 2 exact rfl) | (apply wr_cmp; (iterate 3 exact rfl); exact cmp_eq _ _) | (apply wr_pick (t := false); (iterate 2 exact rfl); with_reducible (conv => enter [6, 3]; whnf)) | (apply wr_streqc; (iterate 3 exact rfl); (first | exact decide_eq_true (by with_reducible assumption) | exact decide_eq_false (by with_reducible assumption) | exact decide_eq_true rfl | exact rfl)) | (apply wc_false; exact rfl) | (apply wr_skip; exact rfl))
  refine wr_call (vs := [S nameSet]) rfl (mkSet_ca w) rfl ?_
  rintro v w1 ⟨rfl, hk1⟩
  obtain ⟨cs, hcs⟩ : ∃ cs : List Value, cs = (Lib.setCells nameSet).toList := ⟨_, rfl⟩
  have hca : Lib.setCells nameSet = cs.toArray := by rw [hcs]
  have hcl : cs.length = 256 := by rw [hcs, Array.length_toList, Lib.setCells_size]
  rw [hca]
  (repeat first | (apply wr_move; exact rfl; with_reducible (conv => enter [6, 3]; whnf)) | (apply wr_alloc; exact rfl) | (apply wr_extract; (iterate 3 exact rfl); with_reducible (conv => enter [6, 3]; whnf)))
  refine wr_storeAll (cs := cs) rfl rfl rfl (by
    intro u hu
    rw [hcs] at hu
    obtain ⟨i, hi⟩ := List.getElem?_of_mem hu
    have hil := (List.getElem?_eq_some_iff.1 hi).1
    rw [Array.length_toList, Lib.setCells_size] at hil
    have := Lib.setCells_at nameSet (UInt8.ofNat i)
    rw [show (UInt8.ofNat i).toNat = i by simp; omega] at this
    have h2 : (Lib.setCells nameSet)[i]? = some u := by simpa using hi
    rw [this] at h2
    cases h2
    rfl) (heap_alloc_same _ _) hcl (by simp [Value.cells]) ?_
  obtain ⟨w2, hw2⟩ : ∃ w2, w2 = (w1.alloc (.cells zeroSet.cells 153)).putObj w1.heap.size (.cells cs.toArray 153 (0, 0)) := ⟨_, rfl⟩
  obtain ⟨ab, hab⟩ : ∃ ab, ab = w1.heap.size := ⟨_, rfl⟩
  have hk2 : Keeps NoB w1 w2 := by rw [hw2]; exact ((Keeps.refl NoB w1).alloc _).put _ (fun h => by omega)
  have hc2 : w2.heap[ab]? = some (.cells (Lib.setCells nameSet) 153 (0, 0)) := by rw [hca, hw2, hab]; exact World.putObj_heap_same (by simp)
  rw [← hw2, ← hab]
  clear hw2
  (repeat first | (apply wr_move; exact rfl; with_reducible (conv => enter [6, 3]; whnf)) | (apply wr_assign; exact rfl; with_reducible (conv => enter [6, 3]; whnf)) | apply wr_end | apply wc_seq | apply wc_region | (apply wc_true; exact rfl))
  refine wr_call (vs := [S s, .pointer (some ⟨ab, 0, none⟩)]) rfl (trimR_ca nameSet s ab w2 (by omega) hc2) rfl ?_
  rintro v w3 ⟨rfl, rfl⟩
  refine wr_call (vs := [S (trimR nameSet s), .pointer (some ⟨ab, 0, none⟩)]) rfl (trimL_ca nameSet (trimR nameSet s) ab w3 hc2) rfl ?_
  rintro v w4 ⟨rfl, rfl⟩
  (repeat first | (apply wr_assign; exact rfl; with_reducible (conv => enter [6, 3]; whnf)) | apply wr_end | (apply wc_ret; try simp only [thenE, inBlockE, bodyQ]))
  exact leave1 (v := S (trimN s)) rfl rfl ⟨rfl, hk1.trans hk2⟩
/-- What may be a name. -/
def nameOk (s : List UInt8) : Prop := s ≠ [] ∧ s.length ≤ 64 ∧ trimN s = []
instance (s : List UInt8) : Decidable (nameOk s) := by unfold nameOk; infer_instance
set_option maxRecDepth 100000 in
set_option maxHeartbeats 1000000 in
theorem name_ca (s : List UInt8) (w : World) (hs : s.length ≤ 9223372036854775807) : Ca Tryz.prog 71 #[S s] w fun v w' => v = .bool (decide (nameOk s)) ∧ Keeps NoB w w' := by
  refine ca_of_body (args := [S s]) Tryz.func71 rfl (by kernel_rfl) ?_
  by_cases h0 : s = []
  · rw [decide_eq_false (fun h => h.1 h0)]
    (repeat first | (apply wr_move; exact rfl; with_reducible (conv => enter [6, 3]; whnf)) | (apply wr_assign; exact rfl; with_reducible (conv => enter [6, 3]; whnf)) | apply wr_end | apply wc_seq | apply wc_region | (apply wr_pick (t := false); (iterate 2 exact rfl); with_reducible (conv => enter [6, 3]; whnf)) | (apply wr_strnec; (iterate 3 exact rfl); (first | exact decide_eq_true (by with_reducible assumption) | exact decide_eq_false (by with_reducible assumption) | exact decide_eq_true rfl | exact rfl); with_reducible (conv => enter [6, 3]; whnf)) | (apply wc_ret; try simp only [thenE, inBlockE, bodyQ]) | (apply wr_skip; exact rfl))
    exact leave1 (v := .bool false) rfl rfl ⟨rfl, Keeps.refl _ _⟩
  by_cases h1 : s.length ≤ 64
  rotate_left
  · rw [decide_eq_false (fun h => h1 h.2.1)]
    (repeat first | (apply wr_move; exact rfl; with_reducible (conv => enter [6, 3]; whnf)) | (apply wr_assign; exact rfl; with_reducible (conv => enter [6, 3]; whnf)) | apply wr_end | apply wc_seq | apply wc_region | (apply wr_len_str; iterate 2 exact rfl) | (apply wr_cmp; (iterate 3 exact rfl); exact cmpF (by dsimp only [cmpN]; first | done | omega)) | (apply wr_pick (t := true); (iterate 2 exact rfl); with_reducible (conv => enter [6, 3]; whnf)) | (apply wr_pick (t := false); (iterate 2 exact rfl); with_reducible (conv => enter [6, 3]; whnf)) | (apply wr_strnec; (iterate 3 exact rfl); (first | exact decide_eq_true (by with_reducible assumption) | exact decide_eq_false (by with_reducible assumption) | exact decide_eq_true rfl | exact rfl); with_reducible (conv => enter [6, 3]; whnf)) | (apply wc_ret; try simp only [thenE, inBlockE, bodyQ]) | (apply wr_skip; exact rfl))
    exact leave1 (v := .bool false) rfl rfl ⟨rfl, Keeps.refl _ _⟩
  (repeat first | (apply wr_move; exact rfl; with_reducible (conv => enter [6, 3]; whnf)) | (apply wr_assign; exact rfl; with_reducible (conv => enter [6, 3]; whnf)) | apply wr_end | apply wc_seq | apply wc_region | (apply wr_len_str; iterate 2 exact rfl) | (apply wr_cmp; (iterate 3 exact rfl); exact cmpT (by dsimp only [cmpP]; first | done | omega)) | (apply wr_pick (t := true); (iterate 2 exact rfl); with_reducible (conv => enter [6, 3]; whnf)) | (apply wr_strnec; (iterate 3 exact rfl); (first | exact decide_eq_true (by with_reducible assumption) | exact decide_eq_false (by with_reducible assumption) | exact decide_eq_true rfl | exact rfl); with_reducible (conv => enter [6, 3]; whnf)))
  refine wr_call (vs := [S s, S nameSet]) rfl (trim_ca s w h1 h0) rfl ?_
  rintro v w2 ⟨rfl, hk⟩
  by_cases h2 : trimN s = []
  · rw [decide_eq_true ⟨h0, h1, h2⟩]
    (repeat first | (apply wr_assign; exact rfl; with_reducible (conv => enter [6, 3]; whnf)) | apply wr_end | (apply wr_pick (t := true); (iterate 2 exact rfl); with_reducible (conv => enter [6, 3]; whnf)) | (apply wr_streqc; (iterate 3 exact rfl); (first | exact decide_eq_true (by with_reducible assumption) | exact decide_eq_false (by with_reducible assumption) | exact decide_eq_true rfl | exact rfl)) | (apply wc_ret; try simp only [thenE, inBlockE, bodyQ]))
    exact leave1 (v := .bool true) rfl rfl ⟨rfl, hk⟩
  · rw [decide_eq_false (fun h => h2 h.2.2)]
    (repeat first | (apply wr_assign; exact rfl; with_reducible (conv => enter [6, 3]; whnf)) | apply wr_end | (apply wr_pick (t := true); (iterate 2 exact rfl); with_reducible (conv => enter [6, 3]; whnf)) | (apply wr_streqc; (iterate 3 exact rfl); (first | exact decide_eq_true (by with_reducible assumption) | exact decide_eq_false (by with_reducible assumption) | exact decide_eq_true rfl | exact rfl)) | (apply wc_ret; try simp only [thenE, inBlockE, bodyQ]))
    exact leave1 (v := .bool false) rfl rfl ⟨rfl, hk⟩
end Go.Proofs.YtjaojihogmnjhaaGreatDoor
