/- A field among the arguments: what is read. -/
import Derived.Test.YtpilcnkgpgkboaaDoorRa
namespace Go.Proofs.YtpilcnkgpgkboaaDoor
open Go Go.V Go.RowKit Go.ChangeShapes Go.WideShapes Go.ChangeAt
set_option linter.unusedVariables false

theorem cellsF : Tryd.prog.cellsOf 29 = 4 := by kernel_rfl
theorem cellsI : Tryd.prog.cellsOf 3 = 1 := by kernel_rfl
theorem cellsU : Tryd.prog.cellsOf 22 = 1 := by kernel_rfl
set_option maxRecDepth 100000 in
theorem trod_wf {H : Type} {enc : TypeId × Value → H} {W : World} {base : Nat} {sp : Nat → Bool} {held : Bool} {fuel : Nat} {cs : List Value} {x : DataW H × List MemPlace} (h : DataW.trod enc Tryd.prog W base sp held fuel 29 cs = some x) :
    ∃ (a b n : Int) (s : ByteArray), cs = [.int .i64 a, .int .i64 b, .int .u64 n, .string s] ∧ x = (.agg [.lit (.int .i64 a), .lit (.int .i64 b), .lit (.int .u64 n), .lit (.string s.data.toList)], []) ∧
      (Lit.int .i64 a).wf = true ∧ (Lit.int .i64 b).wf = true ∧ (Lit.int .u64 n).wf = true ∧ s.size ≤ maxLen := by
  obtain ⟨xs, m, rfl, hx, hl, hxl, hf⟩ := DataW.trod_struct Tryd.underlying29 h
  rw [cellsF] at hl
  match cs, hl with
  | [c0, c1, c2, c3], _ =>
    match xs, hxl with
    | [y0, y1, y2, y3], _ =>
      have u0 := hf 0 ⟨"Num", 3, 0, false, "", "", 0⟩ rfl
      have u1 := hf 1 ⟨"Kind", 3, 1, false, "", "", 8⟩ rfl
      have u2 := hf 2 ⟨"N", 22, 2, false, "", "", 16⟩ rfl
      have u3 := hf 3 ⟨"S", 9, 3, false, "", "", 24⟩ rfl
      dsimp only at u0 u1 u2 u3
      rw [cellsI] at u0 u1
      rw [cellsU] at u2
      rw [cellsS] at u3
      simp only [List.drop, List.take, List.getElem?_cons_zero, List.getElem?_cons_succ] at u0 u1 u2 u3
      obtain ⟨a, h0, e0, w0⟩ := DataW.trod_int Tryd.underlying3 u0
      obtain ⟨b, h1, e1, w1⟩ := DataW.trod_int Tryd.underlying3 u1
      obtain ⟨n, h2, e2, w2⟩ := DataW.trod_int Tryd.underlying22 u2
      obtain ⟨s, h3, e3, w3⟩ := DataW.trod_string Tryd.underlying9 u3
      simp only [List.cons.injEq, and_true] at h0 h1 h2 h3
      subst h0 h1 h2 h3
      refine ⟨a, b, n, s, rfl, ?_, w0, w1, w2, w3⟩
      rw [hx, e0, e1, e2, e3]; rfl
set_option maxRecDepth 100000 in
theorem open_wf {H : Type} {enc : TypeId × Value → H} {W : World} {base : Nat} {v : Value} {d : DataW H} {ps : List MemPlace} (hok : Value.okWide Tryd.prog W .any base 29 v) (hT : DataW.Trod enc Tryd.prog W 0 (fun _ => true) true 29 v d ps) :
    ∃ (a b n : Int) (s : ByteArray), v = .agg #[.int .i64 a, .int .i64 b, .int .u64 n, .string s] ∧ d = .agg [.lit (.int .i64 a), .lit (.int .i64 b), .lit (.int .u64 n), .lit (.string s.data.toList)] ∧ ps = [] ∧
      (Lit.int .i64 a).wf = true ∧ (Lit.int .i64 b).wf = true ∧ (Lit.int .u64 n).wf = true ∧ s.size ≤ maxLen := by
  obtain ⟨cs, rfl, hsz⟩ := okWide_struct Tryd.underlying29 hok
  obtain ⟨fuel, hv⟩ := hT
  obtain ⟨a, b, n, s, hcs, hx, w⟩ := trod_wf hv
  refine ⟨a, b, n, s, ?_, (Prod.mk.inj hx).1, (Prod.mk.inj hx).2, w⟩
  congr 1
  exact Array.toList_inj.1 hcs
end Go.Proofs.YtpilcnkgpgkboaaDoor
