/- Keys as a map's keys; check.Key. -/
import Derived.Test.YtjaojihogmnjhaaGreatDoorMf
import Derived.Test.YtjaojihogmnjhaaGreatDoorCb
namespace Go.Proofs.YtjaojihogmnjhaaGreatDoor
open Go Go.V Go.RowKit
set_option linter.unusedVariables false
set_option linter.unusedSimpArgs false

theorem wr_name {P : Program} {ops : Array Oper} {Q : Post} {ds : List Deferred} {l : List Oper} {f : Env} {w : World} (kk : ∀ w', w' = w → Wr P ops Q ds l f w') : Wr P ops Q ds l f w := kk w rfl
abbrev TT := List UInt8
/-- A key: type, name. -/
abbrev KY := Int × TT
def encK (k : KY) : Value := .agg #[.int .i64 k.1, S k.2]
theorem key_stood : Tryz.prog.stoodInHeld 36 = false := by kernel_rfl
theorem key_eqIn (n : Nat) (x y : KY) (w : World) : (Op.equalIn (n + 2) 36 (encK x) (encK y)).run Tryz.prog w = .ok (decide (x = y)) w := by
  have h := run_structEq (n := n + 1) (w := w) (xs := #[.int .i64 x.1, S x.2]) (ys := #[.int .i64 y.1, S y.2]) Tryz.underlying36 key_stood
    (rs := [decide (x.1 = y.1), decide (x.2 = y.2)])
    ⟨⟨by decide, _, _, run_part1 Tryz.underlying3 rfl rfl, run_part1 Tryz.underlying3 rfl rfl, equalIn_int n inferInstance _ _ _⟩,
     ⟨by decide, _, _, run_part1 Tryz.underlying9 rfl rfl, run_part1 Tryz.underlying9 rfl rfl, equalIn_str n inferInstance _ _ _⟩, trivial⟩
  have e : ([decide (x.1 = y.1), decide (x.2 = y.2)].all id) = decide (x = y) := by
    obtain ⟨a, b⟩ := x
    obtain ⟨c, d⟩ := y
    simp [Prod.mk.injEq, Bool.decide_and]
  rw [e] at h
  exact h
instance keyKey : MKey Tryz.prog 36 encK where
  chk := fun e a w => by
    show (Instr.checkKey e (9999 + 1) 36 (.agg #[.int .i64 a.1, S a.2])).run Tryz.prog w = .ok () w
    unfold Instr.checkKey
    simp only [underlying, Sem.run_bind, run_program, Result.andThen_ok, Tryz.underlying36, Sem.run_pure]
    have h1 : (part 3 #[.int .i64 a.1, S a.2] 0).run Tryz.prog w = .ok (.int .i64 a.1) w := run_part1 Tryz.underlying3 rfl rfl
    have h2 : (part 9 #[.int .i64 a.1, S a.2] 1).run Tryz.prog w = .ok (S a.2) w := run_part1 Tryz.underlying9 rfl rfl
    have h3 := chk_int 9998 (P := Tryz.prog) (K := 3) (k := .i64) inferInstance e a.1 w
    have h4 := chk_str 9998 (P := Tryz.prog) (K := 9) inferInstance e a.2 w
    simp [h1, h2, h3, h4]
  eq := fun a b w => key_eqIn 9998 a b w
  now := ⟨_, Tryz.underlying36, .inr fun a b => rfl⟩
  bits := fun a => by simp [encK, Instr.sameBits, S_beq]
abbrev star : TT := [42]
def keyOk (k : KY) : Prop := 1 ≤ k.1 ∧ k.1 ≤ 5 ∧ (k.2 = star ∨ nameOk k.2)
instance (k : KY) : Decidable (keyOk k) := by unfold keyOk; infer_instance
set_option maxRecDepth 100000 in
theorem key_ca (k : KY) (w : World) (hk : k.2.length ≤ 9223372036854775807) : Ca Tryz.prog 48 #[encK k] w fun v w' => v = .bool (decide (keyOk k)) ∧ Keeps NoB w w' := by
  obtain ⟨t, n⟩ := k
  refine ca_of_body (args := [encK (t, n)]) Tryz.func48 rfl (by kernel_rfl) ?_
  apply wc_seq
  apply wc_region
  refine wr_box (v := .agg #[.int .i64 t, S n]) rfl rfl ?_
  refine wr_name ?_
  intro w1 hw1
  obtain ⟨b1, hb1⟩ : ∃ b1, b1 = w.heap.size := ⟨_, rfl⟩
  have hk1 : Keeps NoB w w1 := by rw [hw1]; exact (Keeps.refl NoB w).alloc _
  have hc1 : w1.heap[b1]? = some (.cells #[.int .i64 t, S n] 36 (0, 0)) := by rw [hw1, hb1]; exact heap_alloc_same _ _
  rw [← hb1]
  clear hw1
  dsimp only at hk
  by_cases h1 : 1 ≤ t
  rotate_left
  · (repeat first | (apply wr_move; exact rfl; with_reducible (conv => enter [6, 3]; whnf)) | (apply wr_assign; exact rfl; with_reducible (conv => enter [6, 3]; whnf)) | apply wr_end | apply wc_seq | apply wc_region | (apply wr_fieldAddr; iterate 2 exact rfl) | (apply wr_load; (iterate 3 exact rfl); (focus repeat first | with_reducible assumption | exact heap_alloc_same _ _ | exact World.putObj_heap_same (by first | omega | (simp only [World.size_alloc, World.putObj_size, ne_eq]; omega)) | ((first | refine hAl ?_ ?_ | refine hPu ?_ ?_); focus first | omega | (simp only [World.size_alloc, World.putObj_size, ne_eq]; omega))); exact rfl; conv => enter [6, 3]; whnf) | (apply wr_cmp; (iterate 3 exact rfl); exact cmpF (by dsimp only [cmpN]; first | done | omega)) | (apply wr_pick (t := false); (iterate 2 exact rfl); with_reducible (conv => enter [6, 3]; whnf)) | (apply wc_ret; try simp only [thenE, inBlockE, bodyQ]) | (apply wr_skip; exact rfl))
    exact leave1 (v := .bool false) rfl rfl ⟨by rw [decide_eq_false (show ¬ keyOk (t, n) from fun h => h1 h.1)], hk1⟩
  by_cases h5 : t ≤ 5
  rotate_left
  · (repeat first | (apply wr_move; exact rfl; with_reducible (conv => enter [6, 3]; whnf)) | (apply wr_assign; exact rfl; with_reducible (conv => enter [6, 3]; whnf)) | apply wr_end | apply wc_seq | apply wc_region | (apply wr_fieldAddr; iterate 2 exact rfl) | (apply wr_load; (iterate 3 exact rfl); (focus repeat first | with_reducible assumption | exact heap_alloc_same _ _ | exact World.putObj_heap_same (by first | omega | (simp only [World.size_alloc, World.putObj_size, ne_eq]; omega)) | ((first | refine hAl ?_ ?_ | refine hPu ?_ ?_); focus first | omega | (simp only [World.size_alloc, World.putObj_size, ne_eq]; omega))); exact rfl; conv => enter [6, 3]; whnf) | (apply wr_cmp; (iterate 3 exact rfl); exact cmpT (by dsimp only [cmpP]; first | done | omega)) | (apply wr_cmp; (iterate 3 exact rfl); exact cmpF (by dsimp only [cmpN]; first | done | omega)) | (apply wr_pick (t := true); (iterate 2 exact rfl); with_reducible (conv => enter [6, 3]; whnf)) | (apply wr_pick (t := false); (iterate 2 exact rfl); with_reducible (conv => enter [6, 3]; whnf)) | (apply wc_ret; try simp only [thenE, inBlockE, bodyQ]) | (apply wr_skip; exact rfl))
    exact leave1 (v := .bool false) rfl rfl ⟨by rw [decide_eq_false (show ¬ keyOk (t, n) from fun h => h5 h.2.1)], hk1⟩
  by_cases hs : n = [42]
  · (repeat first | (apply wr_move; exact rfl; with_reducible (conv => enter [6, 3]; whnf)) | (apply wr_assign; exact rfl; with_reducible (conv => enter [6, 3]; whnf)) | apply wr_end | apply wc_seq | apply wc_region | (apply wr_fieldAddr; iterate 2 exact rfl) | (apply wr_load; (iterate 3 exact rfl); (focus repeat first | with_reducible assumption | exact heap_alloc_same _ _ | exact World.putObj_heap_same (by first | omega | (simp only [World.size_alloc, World.putObj_size, ne_eq]; omega)) | ((first | refine hAl ?_ ?_ | refine hPu ?_ ?_); focus first | omega | (simp only [World.size_alloc, World.putObj_size, ne_eq]; omega))); exact rfl; conv => enter [6, 3]; whnf) | (apply wr_cmp; (iterate 3 exact rfl); exact cmpT (by dsimp only [cmpP]; first | done | omega)) | (apply wr_pick (t := true); (iterate 2 exact rfl); with_reducible (conv => enter [6, 3]; whnf)) | (apply wr_streqc; (iterate 3 exact rfl); (first | exact decide_eq_true (by with_reducible assumption) | exact decide_eq_false (by with_reducible assumption) | exact decide_eq_true rfl | exact rfl)) | (apply wc_ret; try simp only [thenE, inBlockE, bodyQ]) | (apply wr_skip; exact rfl))
    exact leave1 (v := .bool true) rfl rfl ⟨by rw [decide_eq_true (show keyOk (t, n) from ⟨h1, h5, .inl hs⟩)], hk1⟩
  · (repeat first | (apply wr_move; exact rfl; with_reducible (conv => enter [6, 3]; whnf)) | (apply wr_assign; exact rfl; with_reducible (conv => enter [6, 3]; whnf)) | apply wr_end | apply wc_seq | apply wc_region | (apply wr_fieldAddr; iterate 2 exact rfl) | (apply wr_load; (iterate 3 exact rfl); (focus repeat first | with_reducible assumption | exact heap_alloc_same _ _ | exact World.putObj_heap_same (by first | omega | (simp only [World.size_alloc, World.putObj_size, ne_eq]; omega)) | ((first | refine hAl ?_ ?_ | refine hPu ?_ ?_); focus first | omega | (simp only [World.size_alloc, World.putObj_size, ne_eq]; omega))); exact rfl; conv => enter [6, 3]; whnf) | (apply wr_cmp; (iterate 3 exact rfl); exact cmpT (by dsimp only [cmpP]; first | done | omega)) | (apply wr_pick (t := true); (iterate 2 exact rfl); with_reducible (conv => enter [6, 3]; whnf)) | (apply wr_streqc; (iterate 3 exact rfl); (first | exact decide_eq_true (by with_reducible assumption) | exact decide_eq_false (by with_reducible assumption) | exact decide_eq_true rfl | exact rfl)))
    refine wr_call (vs := [S n]) rfl (name_ca n w1 hk) rfl ?_
    rintro v w2 ⟨rfl, hk2⟩
    (repeat first | (apply wr_assign; exact rfl; with_reducible (conv => enter [6, 3]; whnf)) | apply wr_end | (apply wr_pick (t := true); (iterate 2 exact rfl); with_reducible (conv => enter [6, 3]; whnf)) | (apply wr_pick (t := false); (iterate 2 exact rfl); with_reducible (conv => enter [6, 3]; whnf)) | (apply wc_ret; try simp only [thenE, inBlockE, bodyQ]))
    exact leave1 (v := .bool (decide (nameOk n))) rfl rfl ⟨by rw [show decide (keyOk (t, n)) = decide (nameOk n) from decide_eq_decide.2 ⟨fun h => h.2.2.resolve_left hs, fun h => ⟨h1, h5, .inr h⟩⟩], hk1.trans hk2⟩
end Go.Proofs.YtjaojihogmnjhaaGreatDoor
