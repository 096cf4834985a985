/- The store: New, Cut, Reset. -/
import Derived.Test.YtafnbbehmbmchaaDoorSc
namespace Go.Proofs.YtafnbbehmbmchaaDoor
open Go Go.V Go.RowKit
set_option linter.unusedVariables false
set_option linter.unusedSimpArgs false

set_option maxRecDepth 100000 in
set_option maxHeartbeats 2000000 in
theorem cut_ca {sb kb wb : Nat} {room : Int} {grace : Nat} {K : KL} {W : KY → Int} {w : World} (h : St w sb kb wb room grace K W) (k : KY) :
    Ca Tryd.prog 21 #[.pointer (some ⟨sb, 0, none⟩), encK k] w fun v w' => v = .bool (getL K k).isSome ∧ St w' sb kb wb room grace (delL K k) W ∧ Keeps (· = kb) w w' := by
  refine ca_of_body (args := [.pointer (some ⟨sb, 0, none⟩), encK k]) Tryd.func21 rfl (by kernel_rfl) ?_
  apply wc_seq
  apply wc_region
  refine wr_box (v := .agg #[.int .i64 k.1, S k.2]) rfl rfl ?_
  refine wr_name ?_
  intro w1 hw1
  obtain ⟨b1, hb1⟩ : ∃ b1, b1 = w.heap.size := ⟨_, rfl⟩
  have hk1 : Keeps NoB w w1 := by rw [hw1]; exact (Keeps.refl NoB w).alloc _
  have hc1 : w1.heap[b1]? = some (.cells #[.int .i64 k.1, S k.2] 28 (0, 0)) := by rw [hw1, hb1]; exact heap_alloc_same _ _
  rw [← hb1]
  clear hw1
  have h1 := (h.keep hk1).drew
  have hs1 := h1.cells
  have hc1d : w1.drew.heap[b1]? = _ := hc1
  (repeat first | (apply wr_assign; exact rfl; with_reducible (conv => enter [6, 3]; whnf)) | apply wr_end | apply wc_seq)
  refine wc_drawS (l := _) (S := fun w' => w' = w1.drew) (by kernel_rfl) (by kernel_rfl) rfl ?_
  repeat
    apply ch_step
    focus
      intro w' hS
      subst hS
      (repeat first | (apply wr_move; exact rfl; with_reducible (conv => enter [6, 3]; whnf)) | (apply wr_fieldAddr; iterate 2 exact rfl) | (apply wr_nilCheck; iterate 2 exact rfl) | (apply wr_load; (iterate 3 exact rfl); (focus repeat first | with_reducible assumption | exact heap_alloc_same _ _ | exact World.putObj_heap_same (by first | omega | (simp only [World.size_alloc, World.putObj_size, ne_eq]; omega)) | ((first | refine hAl ?_ ?_ | refine hPu ?_ ?_); focus first | omega | (simp only [World.size_alloc, World.putObj_size, ne_eq]; omega))); exact rfl; conv => enter [6, 3]; whnf) | (apply wr_nil; try simp only [thenE, inBlockE, bodyQ]))
      exact ⟨rfl, by trivial⟩
  apply ch_step
  focus
    intro w' hS
    subst hS
    refine wr_loadAll (cs := [.int .i64 k.1, S k.2]) rfl rfl rfl hc1d rfl ?_
    apply wr_nil
    exact ⟨rfl, rfl⟩
  apply ch_step
  focus
    intro w' hS
    subst hS
    refine wr_lookupOk (l := mapL ptrE K) (a := k) rfl rfl h1.kept rfl ?_
    apply wr_nil
    exact ⟨rfl, rfl⟩
  rw [getL_map, Option.isSome_map]
  repeat
    apply ch_step
    focus
      intro w' hS
      subst hS
      (repeat first | (apply wr_move; exact rfl; with_reducible (conv => enter [6, 3]; whnf)) | (apply wr_assign; exact rfl; with_reducible (conv => enter [6, 3]; whnf)) | (apply wr_extract; (iterate 3 exact rfl); with_reducible (conv => enter [6, 3]; whnf)) | (apply wr_nil; try simp only [thenE, inBlockE, bodyQ]))
      exact ⟨rfl, by trivial⟩
  refine ch_nil ?_
  intro w' hS
  subst hS
  obtain ⟨w2, hw2⟩ : ∃ w2, w2 = w1.drew := ⟨_, rfl⟩
  have hk2 : Keeps NoB w w2 := by rw [hw2]; exact hk1.drew
  rw [← hw2] at hc1d hs1 h1 ⊢
  clear hw2
  have hk0 : ∀ {w'}, Keeps NoB w2.drew w' → Keeps NoB w2 w' := fun hk => (Keeps.refl NoB w2).drew.trans hk
  (repeat first | apply wc_seq)
  refine wc_drawP (l := _) 5 _ (by kernel_rfl) (by kernel_rfl) rfl (by kernel_rfl) (by kernel_rfl) (by decide) ?_
  apply chP_pure
  focus
    intro xx w' hk hF
    apply wr_move; exact rfl; with_reducible (conv => enter [6, 3]; whnf)
    apply wr_nil
    exact ⟨rfl, Keeps.refl _ _⟩
  focus (intro xx yy h; rfl)
  focus kernel_rfl
  apply chP_pure
  focus
    intro xx w' hk hF
    refine wr_nilCheck rfl rfl ?_
    apply wr_nil
    exact ⟨rfl, Keeps.refl _ _⟩
  focus (intro xx yy h; rfl)
  focus kernel_rfl
  apply chP_pure
  focus
    intro xx w' hk hF
    refine wr_fieldAddr rfl rfl ?_
    apply wr_nil
    exact ⟨rfl, Keeps.refl _ _⟩
  focus (intro xx yy h; rfl)
  focus kernel_rfl
  apply chP_pure
  focus
    intro xx w' hk hF
    refine wr_load (v := .map (some kb)) rfl rfl rfl ((hk0 hk).heap hs1 (fun h => h)) rfl ?_
    apply wr_nil
    exact ⟨rfl, Keeps.refl _ _⟩
  focus (intro xx yy h; rfl)
  focus kernel_rfl
  apply chP_pure
  focus
    intro xx w' hk hF
    refine wr_loadAll (cs := [.int .i64 k.1, S k.2]) rfl rfl rfl ((hk0 hk).heap hc1d (fun h => h)) rfl ?_
    apply wr_nil
    exact ⟨rfl, Keeps.refl _ _⟩
  focus (intro xx yy h; rfl)
  focus kernel_rfl
  refine chP_nil ?_
  intro xx w3 hk3' hF
  have hk3 := hk0 hk3'
  have h3 := h1.keep hk3
  refine wr_delete (l := mapL ptrE K) (a := k) rfl rfl h3.kept rfl ?_
  intro w4 hM4 hk4
  rw [← delL_map] at hM4
  (repeat first | (apply wr_move; exact rfl; with_reducible (conv => enter [6, 3]; whnf)) | (apply wr_assign; exact rfl; with_reducible (conv => enter [6, 3]; whnf)) | apply wr_end | apply wc_seq | apply wc_region | (apply wc_ret; try simp only [thenE, inBlockE, bodyQ]))
  refine leave1 (v := .bool (getL K k).isSome) rfl rfl ⟨rfl, h3.kept_upd hM4 hk4 (fun x hx => (List.mem_filter.1 hx).1), (hk2.trans hk3).upD.trans hk4⟩
set_option maxRecDepth 100000 in
theorem reset_ca {sb kb wb : Nat} {room : Int} {grace : Nat} {K : KL} {W : KY → Int} {w : World} (h : St w sb kb wb room grace K W) :
    Ca Tryd.prog 22 #[.pointer (some ⟨sb, 0, none⟩)] w fun v w' => v = .tuple #[] ∧ St w' sb kb wb room grace [] W ∧ Keeps (· = kb) w w' := by
  have hs := h.cells
  refine ca_of_body (args := [.pointer (some ⟨sb, 0, none⟩)]) Tryd.func22 rfl (by kernel_rfl) ?_
  (repeat first | (apply wr_move; exact rfl; with_reducible (conv => enter [6, 3]; whnf)) | apply wc_region | (apply wr_fieldAddr; iterate 2 exact rfl) | (apply wr_nilCheck; iterate 2 exact rfl) | (apply wr_load; (iterate 3 exact rfl); (focus repeat first | with_reducible assumption | exact heap_alloc_same _ _ | exact World.putObj_heap_same (by first | omega | (simp only [World.size_alloc, World.putObj_size, ne_eq]; omega)) | ((first | refine hAl ?_ ?_ | refine hPu ?_ ?_); focus first | omega | (simp only [World.size_alloc, World.putObj_size, ne_eq]; omega))); exact rfl; conv => enter [6, 3]; whnf))
  refine wr_clear (l := mapL ptrE K) rfl rfl h.kept ?_
  intro w2 hM2 hk2
  (repeat first | (apply wr_nil; try simp only [thenE, inBlockE, bodyQ]))
  try unfold bodyQ
  exact leave0 rfl ⟨rfl, h.kept_upd hM2 hk2 (fun x hx => by cases hx), hk2⟩
set_option maxRecDepth 100000 in
set_option maxHeartbeats 2000000 in
theorem new_ca (room : Int) (hr : -9223372036854775808 ≤ room ∧ room ≤ 9223372036854775807) (grace : Nat) (w : World) :
    Ca Tryd.prog 10 #[.int .i64 room, .int .u64 ((grace : Nat) : Int)] w fun v w' => ∃ sb kb wb, v = .pointer (some ⟨sb, 0, none⟩) ∧ St w' sb kb wb (roomOf room) grace [] (fun _ => 0) ∧ Keeps NoB w w' ∧ w.heap.size ≤ sb ∧ w.heap.size ≤ kb ∧ w.heap.size ≤ wb := by
  refine ca_of_body (args := [.int .i64 room, .int .u64 ((grace : Nat) : Int)]) Tryd.func10 rfl (by kernel_rfl) ?_
  (repeat first | (apply wr_assign; exact rfl; with_reducible (conv => enter [6, 3]; whnf)) | apply wr_end | apply wc_seq | apply wc_region)
  refine wr_makeMap rfl ?_
  refine wr_name ?_
  intro w1 hw1
  obtain ⟨kb, hkb⟩ : ∃ b, b = w.heap.size := ⟨_, rfl⟩
  have hk1 : Keeps NoB w w1 := by rw [hw1]; exact (Keeps.refl NoB w).alloc _
  have hM1 : MapAt w1 encK kb ([] : List (KY × Value)) := by rw [hw1, hkb]; exact MapAt.new w encK
  rw [← hkb]
  clear hw1
  refine wr_makeMap rfl ?_
  refine wr_name ?_
  intro w2 hw2
  obtain ⟨wb, hwb⟩ : ∃ b, b = w1.heap.size := ⟨_, rfl⟩
  have hk2 : Keeps NoB w1 w2 := by rw [hw2]; exact (Keeps.refl NoB w1).alloc _
  have hM2 : MapAt w2 encK wb ([] : List (KY × Value)) := by rw [hw2, hwb]; exact MapAt.new w1 encK
  rw [← hwb]
  clear hw2
  have hlk := hM1.lt
  have hlw := hM2.lt
  (repeat first | (apply wr_move; exact rfl; with_reducible (conv => enter [6, 3]; whnf)))
  refine wr_max (c := max room 1) rfl rfl rfl (by split <;> omega) ?_
  refine wr_min (c := roomOf room) rfl rfl rfl (by unfold roomOf; split <;> omega) ?_
  (repeat first | (apply wr_move; exact rfl; with_reducible (conv => enter [6, 3]; whnf)))
  refine wr_build (ps := [(0, .map (some kb)), (1, .map (some wb)), (2, .int .i64 (roomOf room)), (3, .int .u64 ((grace : Nat) : Int))]) (cs := [.map (some kb), .map (some wb), .int .i64 (roomOf room), .int .u64 ((grace : Nat) : Int)]) rfl rfl rfl rfl ?_
  refine wr_box (v := .agg #[.map (some kb), .map (some wb), .int .i64 (roomOf room), .int .u64 ((grace : Nat) : Int)]) rfl rfl ?_
  refine wr_name ?_
  intro w3 hw3
  obtain ⟨sb, hsb⟩ : ∃ b, b = w2.heap.size := ⟨_, rfl⟩
  have hk3 : Keeps NoB w2 w3 := by rw [hw3]; exact (Keeps.refl NoB w2).alloc _
  have hc3 : w3.heap[sb]? = some (.cells #[.map (some kb), .map (some wb), .int .i64 (roomOf room), .int .u64 ((grace : Nat) : Int)] 60 (0, 0)) := by rw [hw3, hsb]; exact heap_alloc_same _ _
  rw [← hsb]
  clear hw3
  have hs1 := hk1.size
  have hs2 := hk2.size
  (repeat first | (apply wr_assign; exact rfl; with_reducible (conv => enter [6, 3]; whnf)) | apply wr_end | (apply wc_ret; try simp only [thenE, inBlockE, bodyQ]))
  exact leave1 (v := .pointer (some ⟨sb, 0, none⟩)) rfl rfl ⟨sb, kb, wb, rfl, ⟨hc3, (hM1.keep hk2 (fun h => h)).keep hk3 (fun h => h), ⟨[], hM2.keep hk3 (fun h => h), fun k => rfl⟩, (fun x hx => by cases hx), by omega, (fun k => by omega)⟩, (hk1.trans hk2).trans hk3, by omega, by omega, by omega⟩
end Go.Proofs.YtafnbbehmbmchaaDoor
