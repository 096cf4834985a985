/- errors.As: the walk. -/
import Derived.Test.YtahlhldkcekbfaaGreatDoorGb
import Derived.Test.YtahlhldkcekbfaaGreatDoorNm
import Derived.Test.YtahlhldkcekbfaaGreatDoorNp
namespace Go.Proofs.YtahlhldkcekbfaaGreatDoor
open Go Go.V Go.RowKit Go.Extern Go.Extern.Rtype Go.Extern.Stop Go.Stop
set_option linter.unusedVariables false
set_option linter.unusedSimpArgs false

set_option maxRecDepth 100000 in
set_option maxHeartbeats 2000000 in
theorem asHitI_ca (s : Int) (tg : Value) (b tb : Nat) (old : Value) {w : World} (hb : w.heap[b]? = some (.cells #[.pointer (some ⟨tb, 0, none⟩)] 128 (0, 0))) (htb : w.heap[tb]? = some (.cells #[old] 124 (0, 0))) :
    Ca Tryz.prog 87 #[Wrong s, tg, RVl 128 ⟨b, 0, none⟩ 150, RTI 124] w fun v w' => v = .bool true ∧ w'.heap[tb]? = some (.cells #[(Value.int .i64 s)] 124 (0, 0)) ∧ Keeps (· = tb) w w' := by
  refine ca_of_body (args := [Wrong s, tg, RVl 128 ⟨b, 0, none⟩ 150, RTI 124]) Tryz.func87 rfl (by kernel_rfl) ?_
  apply wc_seq
  apply wc_region
  refine wr_box (v := RVl 128 ⟨b, 0, none⟩ 150) rfl rfl ?_
  obtain ⟨w1, hw1⟩ : ∃ w1, w1 = w.alloc (.cells (RVl 128 ⟨b, 0, none⟩ 150).cells 142) := ⟨_, rfl⟩
  obtain ⟨b1, hb1⟩ : ∃ b, b = w.heap.size := ⟨_, rfl⟩
  have hk1 : Keeps NoB w w1 := by rw [hw1]; exact (Keeps.refl NoB w).alloc _
  have hc1 : w1.heap[b1]? = some (.cells #[.pointer (some ⟨4, 128, none⟩), .pointer (some ⟨b, 0, none⟩), .int .u64 150] 142 (0, 0)) := by rw [hw1, hb1]; exact heap_alloc_same _ _
  rw [← hw1, ← hb1]
  clear hw1
  (repeat first | (apply wr_assign; exact rfl; with_reducible (conv => enter [6, 3]; whnf)) | apply wr_end | apply wc_block)
  refine wc_loopL (α := Unit) (fun _ => [(0, Wrong s), (1, tg), (3, RTI 124), (6, .pointer (some ⟨b1, 0, none⟩))]) (fun _ ds w' => ds = [] ∧ w' = w1) (fun _ => 0) () ⟨rfl, rfl⟩ ⟨rfl, rfl, rfl, rfl, trivial⟩ ?_
  rintro _ ds f0 w2 ⟨rfl, rfl⟩
  (repeat first | (apply wr_move; exact rfl; with_reducible (conv => enter [6, 3]; whnf)) | apply wc_seq | apply wc_region | apply wc_block)
  refine wr_callX (vs := [Wrong s]) rfl (cTypeOfW _ _) rfl ?_
  (repeat first | (apply wr_move; exact rfl; with_reducible (conv => enter [6, 3]; whnf)))
  refine wr_invokeX (vs := [RTI 124]) rfl rfl (mAssignableTo _ _) (cAssignrefused _) rfl ?_
  (repeat first | apply wr_end | apply wc_seq | apply wc_region | (apply wc_true; exact rfl))
  have hb2 := hk1.heap hb (fun h => h)
  have htb2 := hk1.heap htb (fun h => h)
  refine wr_loadAll (cs := [.pointer (some ⟨4, 128, none⟩), .pointer (some ⟨b, 0, none⟩), .int .u64 150]) rfl rfl rfl hc1 rfl ?_
  refine wr_callX (vs := [RVl 128 ⟨b, 0, none⟩ 150]) rfl (cElemVW _ ⟨tb, 0, none⟩ _ (cell_of_heap hb2 rfl)) rfl ?_
  (repeat first | (apply wr_move; exact rfl; with_reducible (conv => enter [6, 3]; whnf)))
  refine wr_callXW (vs := [Wrong s]) rfl (cValueOfW _ _) rfl ?_
  obtain ⟨w3, hw3⟩ : ∃ w3, w3 = w2.alloc (.cells #[(Value.int .i64 s)] 124) := ⟨_, rfl⟩
  obtain ⟨b3, hb3⟩ : ∃ b, b = w2.heap.size := ⟨_, rfl⟩
  have hk3 : Keeps NoB w2 w3 := by rw [hw3]; exact (Keeps.refl NoB w2).alloc _
  have hc3 : w3.heap[b3]? = some (.cells #[(Value.int .i64 s)] 124 (0, 0)) := by rw [hw3, hb3]; exact heap_alloc_same _ _
  rw [← hw3, ← hb3]
  clear hw3
  have htb3 := hk3.heap htb2 (fun h => h)
  refine wr_callXW (w' := w3.setCell ⟨tb, 0, none⟩ ((Value.int .i64 s))) (vs := [RVl 124 ⟨tb, 0, none⟩ 409, RVl 124 ⟨b3, 0, none⟩ 153]) rfl (cSetW ⟨tb, 0, none⟩ b3 s old _ (cell_of_heap hc3 rfl) (cell_of_heap htb3 rfl) (by simp [World.frozen?, htb3])) rfl ?_
  rw [set_of_heap ((Value.int .i64 s)) htb3]
  (repeat first | (apply wr_assign; exact rfl; with_reducible (conv => enter [6, 3]; whnf)) | apply wr_end | apply wc_seq | apply wc_region | (apply wc_ret; try simp only [thenE, inBlockE, bodyQ]))
  refine leave1 (v := .bool true) rfl rfl ⟨rfl, ?_, (hk1.trans hk3).upD.put _ (fun _ => rfl)⟩
  rw [World.putObj_heap_same (lt_of_heap htb3)]; rfl
set_option maxRecDepth 100000 in
set_option maxHeartbeats 2000000 in
theorem asHit_ca (s : Int) (tb : Nat) (old : Value) {w : World} (hE : ErrT w) (htb : w.heap[tb]? = some (.cells #[old] 124 (0, 0))) :
    Ca Tryz.prog 69 #[Wrong s, .iface 128 (.pointer (some ⟨tb, 0, none⟩))] w fun v w' => v = .bool true ∧ w'.heap[tb]? = some (.cells #[(Value.int .i64 s)] 124 (0, 0)) ∧ Keeps (· = tb) w w' := by
  refine ca_of_body (args := [Wrong s, .iface 128 (.pointer (some ⟨tb, 0, none⟩))]) Tryz.func69 rfl (by kernel_rfl) ?_
  (repeat first | (apply wr_move; exact rfl; with_reducible (conv => enter [6, 3]; whnf)) | (apply wr_assign; exact rfl; with_reducible (conv => enter [6, 3]; whnf)) | apply wr_end | apply wc_seq | apply wc_region | apply wc_skip | (apply wr_eqnil_f; iterate 2 exact rfl) | (apply wc_false; exact rfl))
  refine wr_callXW (vs := [.iface 128 (.pointer (some ⟨tb, 0, none⟩))]) rfl (cValueOfrefused _ _) rfl ?_
  obtain ⟨w1, hw1⟩ : ∃ w1, w1 = w.alloc (.cells #[.pointer (some ⟨tb, 0, none⟩)] 128) := ⟨_, rfl⟩
  obtain ⟨b1, hb1⟩ : ∃ b, b = w.heap.size := ⟨_, rfl⟩
  have hk1 : Keeps NoB w w1 := by rw [hw1]; exact (Keeps.refl NoB w).alloc _
  have hc1 : w1.heap[b1]? = some (.cells #[.pointer (some ⟨tb, 0, none⟩)] 128 (0, 0)) := by rw [hw1, hb1]; exact heap_alloc_same _ _
  rw [← hw1, ← hb1]
  clear hw1
  (repeat first | (apply wr_alloc; exact rfl))
  refine wr_storeAll (cs := [.pointer (some ⟨4, 128, none⟩), .pointer (some ⟨b1, 0, none⟩), .int .u64 150]) rfl rfl rfl (by intro u hu; simp at hu; rcases hu with rfl | rfl | rfl <;> rfl) (heap_alloc_same _ _) rfl rfl ?_
  refine wr_name ?_
  intro w2 hw2
  obtain ⟨b2, hb2⟩ : ∃ b, b = w1.heap.size := ⟨_, rfl⟩
  have hk2 : Keeps NoB w1 w2 := by rw [hw2]; exact ((Keeps.refl NoB w1).alloc _).put _ (fun h => by omega)
  have hc2 : w2.heap[b2]? = some (.cells #[.pointer (some ⟨4, 128, none⟩), .pointer (some ⟨b1, 0, none⟩), .int .u64 150] 142 (0, 0)) := by rw [hw2, hb2]; exact World.putObj_heap_same (by simp)
  rw [← hb2]
  clear hw2
  have hkw2 := hk1.trans hk2
  have hc12 := hk2.heap hc1 (fun h => h)
  have hE2 := hE.keep hkw2
  obtain ⟨eT, eF, hE2⟩ := hE2
  (repeat first | apply wr_end | apply wc_seq | apply wc_region)
  refine wr_loadAll (cs := [.pointer (some ⟨4, 128, none⟩), .pointer (some ⟨b1, 0, none⟩), .int .u64 150]) rfl rfl rfl hc2 rfl ?_
  refine wr_callX (vs := [RVl 128 ⟨b1, 0, none⟩ 150]) rfl (cTyperefused _ _) rfl ?_
  (repeat first | (apply wr_move; exact rfl; with_reducible (conv => enter [6, 3]; whnf)) | (apply wr_assign; exact rfl; with_reducible (conv => enter [6, 3]; whnf)) | apply wr_end | apply wc_seq | apply wc_region)
  refine wr_invokeX (vs := []) rfl rfl (mKind _ _) (cKindPrefused _) rfl ?_
  (repeat first | (apply wr_move; exact rfl; with_reducible (conv => enter [6, 3]; whnf)) | (apply wr_cmp; (iterate 3 exact rfl); exact cmpF (by dsimp only [cmpN]; first | done | omega)))
  refine wr_loadAll (cs := [.pointer (some ⟨4, 128, none⟩), .pointer (some ⟨b1, 0, none⟩), .int .u64 150]) rfl rfl rfl hc2 rfl ?_
  refine wr_callX (vs := [RVl 128 ⟨b1, 0, none⟩ 150]) rfl (cIsNilrefused _ ⟨tb, 0, none⟩ _ (cell_of_heap hc12 rfl)) rfl ?_
  (repeat first | (apply wr_move; exact rfl; with_reducible (conv => enter [6, 3]; whnf)) | apply wr_end | apply wc_seq | apply wc_region | apply wc_skip | (apply wr_pick (t := false); (iterate 2 exact rfl); with_reducible (conv => enter [6, 3]; whnf)) | (apply wc_false; exact rfl))
  refine wr_invokeX (vs := []) rfl rfl (mElem _ _) (cElemrefused _) rfl ?_
  (repeat first | (apply wr_move; exact rfl; with_reducible (conv => enter [6, 3]; whnf)) | (apply wr_assign; exact rfl; with_reducible (conv => enter [6, 3]; whnf)) | apply wr_end | apply wc_seq | apply wc_region)
  refine wr_invokeX (vs := []) rfl rfl (mKind _ _) (cKindrefused _) rfl ?_
  (repeat first | (apply wr_move; exact rfl; with_reducible (conv => enter [6, 3]; whnf)) | (apply wr_load; (iterate 3 exact rfl); (focus repeat first | with_reducible assumption | exact heap_alloc_same _ _ | exact World.putObj_heap_same (by first | omega | (simp only [World.size_alloc, World.putObj_size, ne_eq]; omega)) | ((first | refine hAl ?_ ?_ | refine hPu ?_ ?_); focus first | omega | (simp only [World.size_alloc, World.putObj_size, ne_eq]; omega))); exact rfl; conv => enter [6, 3]; whnf) | (apply wr_cmp; (iterate 3 exact rfl); exact cmpT (by dsimp only [cmpP]; first | done | omega)))
  refine wr_invokeX (vs := [RTI 97]) rfl rfl (mImplements _ _) (cImplrefused _) rfl ?_
  (repeat first | (apply wr_move; exact rfl; with_reducible (conv => enter [6, 3]; whnf)) | apply wr_end | apply wc_seq | apply wc_region | apply wc_skip | (apply wr_not; iterate 2 exact rfl) | (apply wr_pick (t := true); (iterate 2 exact rfl); with_reducible (conv => enter [6, 3]; whnf)) | (apply wc_false; exact rfl))
  refine wr_loadAll (cs := [.pointer (some ⟨4, 128, none⟩), .pointer (some ⟨b1, 0, none⟩), .int .u64 150]) rfl rfl rfl hc2 rfl ?_
  (repeat first | (apply wr_move; exact rfl; with_reducible (conv => enter [6, 3]; whnf)))
  refine wr_call (vs := [Wrong s, .iface 128 (.pointer (some ⟨tb, 0, none⟩)), RVl 128 ⟨b1, 0, none⟩ 150, RTI 124]) rfl (asHitI_ca s _ b1 tb old hc12 (hkw2.heap htb (fun h => h))) rfl ?_
  rintro v w3 ⟨rfl, htb3, hk3⟩
  (repeat first | (apply wr_assign; exact rfl; with_reducible (conv => enter [6, 3]; whnf)) | apply wr_end | (apply wc_ret; try simp only [thenE, inBlockE, bodyQ]))
  exact leave1 (v := .bool true) rfl rfl ⟨rfl, htb3, hkw2.upD.trans hk3⟩
set_option maxRecDepth 100000 in
theorem asNil_ca (t : Value) (w : World) : Ca Tryz.prog 69 #[.nilIface, t] w fun v w' => v = .bool false ∧ w' = w := by
  refine ca_of_body (args := [.nilIface, t]) Tryz.func69 rfl (by kernel_rfl) ?_
  (repeat first | (apply wr_move; exact rfl; with_reducible (conv => enter [6, 3]; whnf)) | (apply wr_assign; exact rfl; with_reducible (conv => enter [6, 3]; whnf)) | apply wr_end | apply wc_seq | apply wc_region | (apply wr_eqnil_t; iterate 2 exact rfl) | (apply wc_true; exact rfl) | (apply wc_ret; try simp only [thenE, inBlockE, bodyQ]))
  exact leave1 (v := .bool false) rfl rfl ⟨rfl, by trivial⟩
end Go.Proofs.YtahlhldkcekbfaaGreatDoor
