/- The store: idle and space, with room, or with everybody wanted. -/
import Derived.Test.YtafnbbehmbmchaaDoorSd
namespace Go.Proofs.YtafnbbehmbmchaaDoor
open Go Go.V Go.RowKit
set_option linter.unusedVariables false
set_option linter.unusedSimpArgs false

theorem nodup_le : ∀ (n : Nat) (l : List Nat), l.Nodup → (∀ x ∈ l, x < n) → l.length ≤ n
  | 0, [], _, _ => Nat.le_refl _
  | 0, x :: l, _, h => absurd (h x (by simp)) (by omega)
  | n + 1, l, hn, h => by
    by_cases hm : n ∈ l
    · have h1 := nodup_le n (l.erase n) (hn.erase n) (fun x hx => by
        have h2 := (List.Nodup.mem_erase_iff hn).1 hx
        have := h x h2.2
        have := h2.1
        omega)
      rw [List.length_erase_of_mem hm] at h1
      omega
    · have := nodup_le n l hn (fun x hx => by
        have h1 := h x hx
        have : x ≠ n := fun e => hm (e ▸ hx)
        omega)
      omega
theorem iter_len {w : World} {r mb : Nat} {M : List (KY × Value)} {idx : List Nat} (h : IterAt w encK r mb M idx) : idx.length ≤ M.length := by
  obtain ⟨es, c, since, last, seen, h1, h2, h3, h4, h5, h6, h7, h7', h8, h9, h10, h11⟩ := h
  exact nodup_le _ _ h10 h11
section ops
variable {P : Program} {ops : Array Oper} {Q : Post} {ds : List Deferred} {f : Env} {w w' : World} {rest : List Oper}
variable {d : Option Nat} {ty : TypeId} {pos : String} {af : Array Edge} {g : Option (Nat × Bool)}
theorem wr_buildSlice0 {t e : TypeId} {z : Value} {size by' : Nat} [U : Und P t (.slice e)] [I : Info P e z size by'] (hw : wantedE ops f ⟨d, .buildSlice t 0 #[], ty, pos, af, g⟩ = true)
    (kk : Wr P ops Q ds rest (setO f d (.slice (some ⟨w.heap.size, 0, none⟩) 0 0)) (w.alloc (.cells #[] e))) : Wr P ops Q ds (⟨d, .buildSlice t 0 #[], ty, pos, af, g⟩ :: rest) f w := by
  refine wr_val (v := .slice (some ⟨w.heap.size, 0, none⟩) 0 0) (w' := w.alloc (.cells #[] e)) hw ?_ kk
  simp only [execOp, Instr.buildSlice, Sem.run_bind, run_und U, Result.andThen_ok, run_sizeOf' I]
  rw [if_neg (by omega)]
  simp only [Sem.run_pure, Result.andThen_ok]
  rw [if_pos (by omega)]
  simp only [Sem.run_bind, Sem.run_pure, Result.andThen_ok, Instr.fill, newRow, run_newObj]
  simp [Instr.fill, newRow]
  rw [show Array.map (fun x => (default : Value)) (Array.range 0) = #[] from by apply Array.toList_inj.1; simp]
end ops
theorem mLen (b : Nat) (w : World) : (Go.method (Tryd.prog.types.size + Made.depth) 85 (.pointer (some ⟨b, 0, none⟩)) "Len").run Tryd.prog w = (do let v ← loadVar 87 ⟨b, 0, none⟩; pure (109, v) : Sem (FuncId × Value)).run Tryd.prog w := by kernel_rfl
theorem mLenAt {b : Nat} {w : World} {v : Value} {T : TypeId} {fr : Nat × Nat} (h : w.heap[b]? = some (.cells #[v] T fr)) : (Go.method (Tryd.prog.types.size + Made.depth) 85 (.pointer (some ⟨b, 0, none⟩)) "Len").run Tryd.prog w = .ok (109, v) w := by
  rw [mLen]
  have h1 : (loadVar 87 ⟨b, 0, none⟩).run Tryd.prog w = .ok v w := run_load1 (P := Tryd.prog) (t := 87) inferInstance rfl (cell_of_heap h rfl)
  simp only [Sem.run_bind, h1, Result.andThen_ok, Sem.run_pure]
theorem lenI_ca (a : Option Addr) (n c : Nat) (w : World) : Ca Tryd.prog 109 #[.slice a n c] w fun v w' => v = .int .i64 (n : Int) ∧ w' = w := by
  refine ca_of_body (args := [.slice a n c]) Tryd.func109 rfl (by kernel_rfl) ?_
  (repeat first | (apply wr_move; exact rfl; with_reducible (conv => enter [6, 3]; whnf)) | (apply wr_assign; exact rfl; with_reducible (conv => enter [6, 3]; whnf)) | apply wr_end | apply wc_seq | apply wc_region | (apply wr_len_slice; iterate 2 exact rfl) | (apply wc_ret; try simp only [thenE, inBlockE, bodyQ]))
  exact leave1 (v := .int .i64 (n : Int)) rfl rfl ⟨rfl, by trivial⟩
set_option maxRecDepth 100000 in
theorem init0_ca {b c : Nat} {a : Option Addr} {T : TypeId} {fr : Nat × Nat} {w : World} (h : w.heap[b]? = some (.cells #[.slice a 0 c] T fr)) :
    Ca Tryd.prog 40 #[.iface 85 (.pointer (some ⟨b, 0, none⟩))] w fun v w' => v = .tuple #[] ∧ w' = w := by
  refine ca_of_body (args := [.iface 85 (.pointer (some ⟨b, 0, none⟩))]) Tryd.func40 rfl (by kernel_rfl) ?_
  (repeat first | (apply wr_move; exact rfl; with_reducible (conv => enter [6, 3]; whnf)) | apply wc_seq | apply wc_region)
  refine wr_invoke (vs := []) rfl (mLenAt h) (lenI_ca a 0 c w) rfl rfl ?_
  rintro v w1 ⟨rfl, rfl⟩
  (repeat first | (apply wr_move; exact rfl; with_reducible (conv => enter [6, 3]; whnf)) | (apply wr_assign; exact rfl; with_reducible (conv => enter [6, 3]; whnf)) | apply wr_end | apply wc_seq | apply wc_region)
  refine wr_quo (c := 0) rfl rfl rfl (by decide) (by decide) ?_
  (repeat first | (apply wr_assign; exact rfl; with_reducible (conv => enter [6, 3]; whnf)) | apply wr_end | apply wc_block | (apply wr_sub; (iterate 3 exact rfl); exact w_fit (by dsimp only [kIn]; first | done | omega)))
  refine wc_loopL (α := Unit) (fun _ => [(3, .int .i64 (-1))]) (fun _ ds w' => ds = [] ∧ w' = w1) (fun _ => 0) () ⟨rfl, rfl⟩ ⟨rfl, trivial⟩ ?_
  rintro _ ds f0 w2 ⟨rfl, rfl⟩
  (repeat first | (apply wr_move; exact rfl; with_reducible (conv => enter [6, 3]; whnf)) | apply wr_end | apply wc_seq | apply wc_region | (apply wr_cmp; (iterate 3 exact rfl); exact cmpF (by dsimp only [cmpN]; first | done | omega)) | (apply wc_false; exact rfl) | (apply wc_exit; try simp only [thenE, inBlockE, bodyQ, ↓reduceIte, Nat.reduceEqDiff]))
  try unfold bodyQ
  exact leave0 rfl ⟨rfl, rfl⟩
/-- Everybody that is kept is wanted. -/
def AllWanted (K : KL) (W : KY → Int) : Prop := ∀ x ∈ K, 0 < wantP W x.1
set_option maxRecDepth 100000 in
set_option maxHeartbeats 4000000 in
theorem idleNone_ca {sb kb wb : Nat} {room : Int} {grace : Nat} {K : KL} {W : KY → Int} {w : World} (h : St w sb kb wb room grace K W) (hall : AllWanted K W) (hkl : ∀ x ∈ K, x.1.2.length ≤ 9223372036854775807) (now : Nat) :
    Ca Tryd.prog 31 #[.pointer (some ⟨sb, 0, none⟩), .int .u64 ((now : Nat) : Int)] w fun v w' => ∃ b c T fr, v = .iface 85 (.pointer (some ⟨b, 0, none⟩)) ∧ w'.heap[b]? = some (.cells #[.slice (some ⟨c, 0, none⟩) 0 0] T fr) ∧ Keeps NoB w w' := by
  refine ca_of_body (args := [.pointer (some ⟨sb, 0, none⟩), .int .u64 ((now : Nat) : Int)]) Tryd.func31 rfl (by kernel_rfl) ?_
  (repeat first | (apply wr_assign; exact rfl; with_reducible (conv => enter [6, 3]; whnf)) | apply wr_end | apply wc_seq | apply wc_region)
  refine wr_buildSlice0 rfl ?_
  refine wr_name ?_
  intro w1 hw1
  obtain ⟨c1, hc1⟩ : ∃ b, b = w.heap.size := ⟨_, rfl⟩
  have hk1 : Keeps NoB w w1 := by rw [hw1]; exact (Keeps.refl NoB w).alloc _
  rw [← hc1]
  clear hw1
  refine wr_box (v := .slice (some ⟨c1, 0, none⟩) 0 0) rfl rfl ?_
  refine wr_name ?_
  intro w2 hw2
  obtain ⟨b2, hb2⟩ : ∃ b, b = w1.heap.size := ⟨_, rfl⟩
  have hk2 : Keeps NoB w1 w2 := by rw [hw2]; exact (Keeps.refl NoB w1).alloc _
  have hc2 : w2.heap[b2]? = some (.cells #[.slice (some ⟨c1, 0, none⟩) 0 0] 87 (0, 0)) := by rw [hw2, hb2]; exact heap_alloc_same _ _
  rw [← hb2]
  clear hw2
  have h2 := h.keep (hk1.trans hk2)
  have hs2 := h2.cells
  (repeat first | (apply wr_move; exact rfl; with_reducible (conv => enter [6, 3]; whnf)) | (apply wr_assign; exact rfl; with_reducible (conv => enter [6, 3]; whnf)) | apply wr_end | apply wc_seq | apply wc_region | (apply wr_fieldAddr; iterate 2 exact rfl) | (apply wr_nilCheck; iterate 2 exact rfl) | (apply wr_load; (iterate 3 exact rfl); (focus repeat first | with_reducible assumption | exact heap_alloc_same _ _ | exact World.putObj_heap_same (by first | omega | (simp only [World.size_alloc, World.putObj_size, ne_eq]; omega)) | ((first | refine hAl ?_ ?_ | refine hPu ?_ ?_); focus first | omega | (simp only [World.size_alloc, World.putObj_size, ne_eq]; omega))); exact rfl; conv => enter [6, 3]; whnf))
  refine wr_rangeM rfl rfl h2.kept ?_
  intro w3 hI3 hk3
  obtain ⟨r, hr⟩ : ∃ b, b = w2.heap.size := ⟨_, rfl⟩
  rw [← hr] at hI3 ⊢
  have hkw3 := (hk1.trans hk2).trans hk3
  have hlr : r < w3.heap.size := by
    obtain ⟨es, c, since, last, seen, h1, h2, h3, h4, h5, h6, h7, h7', h8, h9⟩ := hI3
    exact lt_of_heap h8
  have hsz3 := hkw3.size
  have hs12 := hk1.size
  have hs23 := hk2.size
  have hln : (mapL ptrE K).length = K.length := by simp [mapL]
  (repeat first | apply wr_end | apply wc_block)
  refine wc_loopL (α := List Nat) (fun _ => [(0, .pointer (some ⟨sb, 0, none⟩)), (5, .pointer (some ⟨b2, 0, none⟩)), (15, .pointer (some ⟨r, 0, none⟩))])
    (fun idx ds w' => ds = [] ∧ IterAt w' encK r kb (mapL ptrE K) idx ∧ Keeps (· = r) w3 w') (fun idx => K.length - idx.length) [] ⟨rfl, hI3, Keeps.refl _ _⟩ ⟨rfl, rfl, rfl, trivial⟩ ?_
  rintro idx ds f0 w4 ⟨rfl, hI4, hk4⟩
  have hkw4 : Keeps NoB w w4 := Keeps.trans' hkw3 hk4 (fun i hi e => by omega)
  (repeat first | apply wc_seq | apply wc_region)
  refine wr_nextM rfl rfl hI4 ?_ ?_
  · intro w5 _ hk5
    have hc5 := hk5.heap (hk4.heap (hk3.heap hc2 (fun h => h)) (fun e => by have := lt_of_heap hc2; omega)) (fun h => h)
    (repeat first | (apply wr_move; exact rfl; with_reducible (conv => enter [6, 3]; whnf)) | apply wr_end | apply wc_seq | apply wc_region | (apply wr_extract; (iterate 3 exact rfl); with_reducible (conv => enter [6, 3]; whnf)) | (apply wc_false; exact rfl) | (apply wc_exit; try simp only [thenE, inBlockE, bodyQ, ↓reduceIte, Nat.reduceEqDiff]))
    refine wr_makeIface (v := .pointer (some ⟨b2, 0, none⟩)) rfl rfl rfl ?_
    refine wr_call (vs := [.iface 85 (.pointer (some ⟨b2, 0, none⟩))]) rfl (init0_ca hc5) rfl ?_
    rintro v w6 ⟨rfl, rfl⟩
    (repeat first | (apply wr_move; exact rfl; with_reducible (conv => enter [6, 3]; whnf)) | apply wr_end | apply wc_seq | apply wc_region)
    refine wr_makeIface (v := .pointer (some ⟨b2, 0, none⟩)) rfl rfl rfl ?_
    (repeat first | (apply wr_assign; exact rfl; with_reducible (conv => enter [6, 3]; whnf)) | apply wr_end | (apply wc_ret; try simp only [thenE, inBlockE, bodyQ]))
    exact leave1 (v := .iface 85 (.pointer (some ⟨b2, 0, none⟩))) rfl rfl ⟨b2, c1, _, _, rfl, hc5, hkw4.trans hk5⟩
  · intro w5 i p hi hp hI5 hE5 hk5
    have hp' : ∃ x ∈ K, p = (x.1, ptrE x.2) := by
      have := List.mem_of_getElem? hp
      simp only [mapL, List.mem_map] at this
      obtain ⟨x, hx, rfl⟩ := this
      exact ⟨x, hx, rfl⟩
    obtain ⟨x, hxK, rfl⟩ := hp'
    have hwx := hall x hxK
    have hkx := hkl x hxK
    have hlen5 := iter_len hI5
    rw [List.length_append, hln] at hlen5
    simp only [List.length_singleton] at hlen5
    (repeat first | apply wr_end | apply wc_seq | apply wc_region | apply wc_skip | apply wc_block | (apply wr_extract; (iterate 3 exact rfl); with_reducible (conv => enter [6, 3]; whnf)) | (apply wc_true; exact rfl))
    refine wr_entryM rfl rfl hE5 ?_
    (repeat first | (apply wr_alloc; exact rfl) | (apply wr_extract; (iterate 3 exact rfl); with_reducible (conv => enter [6, 3]; whnf)))
    refine wr_storeAll (cs := [.int .i64 x.1.1, S x.1.2]) rfl rfl rfl (by intro u hu; simp at hu; rcases hu with rfl | rfl <;> rfl) (heap_alloc_same _ _) rfl rfl ?_
    refine wr_name ?_
    intro w6 hw6
    obtain ⟨b6, hb6⟩ : ∃ b, b = w5.heap.size := ⟨_, rfl⟩
    have hk6 : Keeps NoB w5 w6 := by rw [hw6]; exact ((Keeps.refl NoB w5).alloc _).put _ (fun h => by omega)
    have hc6 : w6.heap[b6]? = some (.cells #[.int .i64 x.1.1, S x.1.2] 28 (0, 0)) := by rw [hw6, hb6]; exact World.putObj_heap_same (by simp)
    rw [← hb6]
    clear hw6
    have hkw6 : Keeps NoB w w6 := (Keeps.trans' hkw4 hk5 (fun i hi e => by omega)).trans hk6
    (repeat first | (apply wr_move; exact rfl; with_reducible (conv => enter [6, 3]; whnf)) | (apply wr_assign; exact rfl; with_reducible (conv => enter [6, 3]; whnf)) | apply wr_end | apply wc_seq | apply wc_region)
    refine wr_loadAll (cs := [.int .i64 x.1.1, S x.1.2]) rfl rfl rfl hc6 rfl ?_
    refine wr_call (vs := [.pointer (some ⟨sb, 0, none⟩), encK x.1]) rfl (wanted_ca (h.keep hkw6) x.1 hkx) rfl ?_
    rintro v w7 ⟨rfl, hk7⟩
    (repeat first | apply wr_end | (apply wr_cmp; (iterate 3 exact rfl); exact cmpT (by dsimp only [cmpP]; first | done | omega)) | (apply wc_true; exact rfl) | (apply wc_exit; try simp only [thenE, inBlockE, bodyQ, ↓reduceIte, Nat.reduceEqDiff]))
    refine ⟨idx ++ [i], by simp only [List.length_append, List.length_singleton]; omega, ⟨by trivial, (hI5.keep hk6 (fun h => h) (fun h => h)).keep hk7 (fun h => h) (fun h => h), (hk4.trans hk5).trans (hk6.trans hk7).upD⟩, rfl, rfl, rfl, trivial⟩
set_option maxRecDepth 100000 in
set_option maxHeartbeats 2000000 in
/-- There is room, or everybody is wanted. -/
theorem space_ca {sb kb wb : Nat} {room : Int} {grace : Nat} {K : KL} {W : KY → Int} {w : World} (h : St w sb kb wb room grace K W) (hroom : (K.length : Int) < room ∨ AllWanted K W) (hkl : ∀ x ∈ K, x.1.2.length ≤ 9223372036854775807) (now : Nat) :
    Ca Tryd.prog 25 #[.pointer (some ⟨sb, 0, none⟩), .int .u64 ((now : Nat) : Int)] w fun v w' => v = .bool (decide ((K.length : Int) < room)) ∧ Keeps NoB w w' := by
  refine ca_of_body (args := [.pointer (some ⟨sb, 0, none⟩), .int .u64 ((now : Nat) : Int)]) Tryd.func25 rfl (by kernel_rfl) ?_
  have h1 := h.drew
  have hs1 := h1.cells
  have hln : (mapL ptrE K).length = K.length := by simp [mapL]
  (repeat first | (apply wr_assign; exact rfl; with_reducible (conv => enter [6, 3]; whnf)) | apply wr_end | apply wc_seq | apply wc_region)
  refine wc_drawS (l := _) (S := fun w' => w' = w.drew) (by kernel_rfl) (by kernel_rfl) rfl ?_
  repeat
    apply ch_step
    focus
      intro w' hS
      subst hS
      (repeat first | (apply wr_move; exact rfl; with_reducible (conv => enter [6, 3]; whnf)) | (apply wr_fieldAddr; iterate 2 exact rfl) | (apply wr_nilCheck; iterate 2 exact rfl) | (apply wr_load; (iterate 3 exact rfl); (focus repeat first | with_reducible assumption | exact heap_alloc_same _ _ | exact World.putObj_heap_same (by first | omega | (simp only [World.size_alloc, World.putObj_size, ne_eq]; omega)) | ((first | refine hAl ?_ ?_ | refine hPu ?_ ?_); focus first | omega | (simp only [World.size_alloc, World.putObj_size, ne_eq]; omega))); exact rfl; conv => enter [6, 3]; whnf) | (apply wr_nil; try simp only [thenE, inBlockE, bodyQ]))
      exact ⟨rfl, by trivial⟩
  apply ch_step
  focus
    intro w' hS
    subst hS
    refine wr_len_map (l := mapL ptrE K) rfl rfl h1.kept ?_
    apply wr_nil
    exact ⟨rfl, rfl⟩
  rw [hln]
  repeat
    apply ch_step
    focus
      intro w' hS
      subst hS
      (repeat first | (apply wr_move; exact rfl; with_reducible (conv => enter [6, 3]; whnf)) | (apply wr_fieldAddr; iterate 2 exact rfl) | (apply wr_nilCheck; iterate 2 exact rfl) | (apply wr_load; (iterate 3 exact rfl); (focus repeat first | with_reducible assumption | exact heap_alloc_same _ _ | exact World.putObj_heap_same (by first | omega | (simp only [World.size_alloc, World.putObj_size, ne_eq]; omega)) | ((first | refine hAl ?_ ?_ | refine hPu ?_ ?_); focus first | omega | (simp only [World.size_alloc, World.putObj_size, ne_eq]; omega))); exact rfl; conv => enter [6, 3]; whnf) | (apply wr_cmp; (iterate 3 exact rfl); exact cmp_lt _ _) | (apply wr_nil; try simp only [thenE, inBlockE, bodyQ]))
      exact ⟨rfl, by trivial⟩
  refine ch_nil ?_
  intro w' hS
  subst hS
  by_cases hlt : (K.length : Int) < room
  · rw [decide_eq_true hlt]
    (repeat first | (apply wr_assign; exact rfl; with_reducible (conv => enter [6, 3]; whnf)) | apply wr_end | apply wc_seq | apply wc_region | (apply wc_true; exact rfl) | (apply wc_ret; try simp only [thenE, inBlockE, bodyQ]))
    exact leave1 (v := .bool true) rfl rfl ⟨rfl, (Keeps.refl NoB w).drew⟩
  · rw [decide_eq_false hlt]
    (repeat first | (apply wr_move; exact rfl; with_reducible (conv => enter [6, 3]; whnf)) | apply wc_seq | apply wc_region | apply wc_skip | (apply wc_false; exact rfl))
    refine wr_call (vs := [.pointer (some ⟨sb, 0, none⟩), .int .u64 ((now : Nat) : Int)]) rfl (idleNone_ca h1 (hroom.resolve_left hlt) hkl now) rfl ?_
    rintro v w2 ⟨b, c, T, fr, rfl, hb, hk2⟩
    (repeat first | (apply wr_move; exact rfl; with_reducible (conv => enter [6, 3]; whnf)) | (apply wr_assign; exact rfl; with_reducible (conv => enter [6, 3]; whnf)) | apply wr_end | apply wc_seq | apply wc_region)
    refine wr_invoke (vs := []) rfl (mLenAt hb) (lenI_ca _ 0 0 w2) rfl rfl ?_
    rintro v w3 ⟨rfl, rfl⟩
    (repeat first | (apply wr_assign; exact rfl; with_reducible (conv => enter [6, 3]; whnf)) | apply wr_end | apply wc_seq | apply wc_region | (apply wr_cmp; (iterate 3 exact rfl); exact cmpT (by dsimp only [cmpP]; first | done | omega)) | (apply wc_true; exact rfl) | (apply wc_ret; try simp only [thenE, inBlockE, bodyQ]))
    exact leave1 (v := .bool false) rfl rfl ⟨rfl, (Keeps.refl NoB w).drew.trans hk2⟩
end Go.Proofs.YtafnbbehmbmchaaDoor
