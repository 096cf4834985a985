/- The calculus, fifth text: loops over named slots; how a body ends; ends of regions. -/
import Derived.Test.YthlbgeonobicbaaDoorV4
namespace Go.V
open Go.RowKit
set_option linter.unusedVariables false
set_option linter.unusedSimpArgs false

def Slots (f : Env) : List (Nat × Value) → Prop
  | [] => True
  | (d, v) :: l => f d = v ∧ Slots f l
theorem Slots.all {f : Env} : ∀ {l : List (Nat × Value)}, Slots f l → ∀ p ∈ l, f p.1 = p.2
  | [], _, p, h => by cases h
  | (d, v) :: l, ⟨h1, h2⟩, p, h => by
    rcases List.mem_cons.1 h with rfl | h
    · exact h1
    · exact Slots.all h2 p h
section
variable {r : Option Nat} {P : Program} {n : Nat} {Q : Post} {ds : List Deferred} {f : Env} {w : World} {ops : Array Oper}
theorem wc_keep {c : Code} (l : List (Nat × Value)) (hl : Slots f l) (h : ∀ f0, Wc r P n c Q ds (setL f0 l) w) : Wc r P n c Q ds f w := wc_forget l hl.all h
theorem wr_keep {l : List Oper} (sl : List (Nat × Value)) (hl : Slots f sl) (h : ∀ f0, Wr P ops Q ds l (setL f0 sl) w) : Wr P ops Q ds l f w := wr_forget sl hl.all h
theorem wc_loopL {c : Code} {α : Type} (sl : α → List (Nat × Value)) (I : α → List Deferred → World → Prop) (μ : α → Nat) (x0 : α) (h0 : I x0 ds w) (hs0 : Slots f (sl x0))
    (round : ∀ x ds f0 w, I x ds w → Wc r P n c (thenE (fun ds' f' w' => ∃ x', μ x' < μ x ∧ I x' ds' w' ∧ Slots f' (sl x')) Q) ds (setL f0 (sl x)) w) : Wc r P n (.loop c) Q ds f w := by
  refine wc_loop (fun m ds f w => ∃ x, μ x = m ∧ I x ds w ∧ Slots f (sl x)) (μ x0) ⟨x0, rfl, h0, hs0⟩ ?_
  rintro m ds f w ⟨x, rfl, hI, hs⟩
  have := round x ds f w hI
  rw [setL_self f (sl x) hs.all] at this
  refine this.mono ?_
  intro e ds' f' w' hq
  cases e with
  | normal =>
    obtain ⟨x', h1, h2, h3⟩ := hq
    exact ⟨μ x', h1, x', rfl, h2, h3⟩
  | _ => exact hq
/-- A sequence, cut: what holds between. -/
theorem wc_seqCut {x y : Code} (J : List Deferred → Env → World → Prop) (h1 : Wc r P n x (thenE J Q) ds f w) (h2 : ∀ ds f w, J ds f w → Wc r P n y Q ds f w) : Wc r P n (.seq x y) Q ds f w :=
  wc_seq (h1.mono fun e ds f w hq => by cases e <;> first | exact h2 _ _ _ hq | exact hq)
theorem wr_end {K : List Deferred → Env → World → Prop} (h : K ds f w) : Wr P ops (thenE K Q) ds [] f w := wr_nil (Q := thenE K Q) h
variable {fn : Func} {R : Value → World → Prop}
theorem leave0 (h : fn.results.toList = []) (hR : R (.tuple #[]) w) : Leave P fn R [] f w := ⟨[], by rw [h]; trivial, hR⟩
theorem leave1 {t : Nat} {v : Value} (h : fn.results.toList = [.tmp t]) (hv : f t = v) (hR : R v w) : Leave P fn R [] f w := ⟨[v], by rw [h]; exact ⟨hv, trivial⟩, hR⟩
theorem leave2 {t1 t2 : Nat} {v1 v2 : Value} (h : fn.results.toList = [.tmp t1, .tmp t2]) (h1 : f t1 = v1) (h2 : f t2 = v2) (hR : R (.tuple #[v1, v2]) w) : Leave P fn R [] f w :=
  ⟨[v1, v2], by rw [h]; exact ⟨h1, h2, trivial⟩, hR⟩
theorem leave3 {t1 t2 t3 : Nat} {v1 v2 v3 : Value} (h : fn.results.toList = [.tmp t1, .tmp t2, .tmp t3]) (h1 : f t1 = v1) (h2 : f t2 = v2) (h3 : f t3 = v3) (hR : R (.tuple #[v1, v2, v3]) w) : Leave P fn R [] f w :=
  ⟨[v1, v2, v3], by rw [h]; exact ⟨h1, h2, h3, trivial⟩, hR⟩
theorem leave4 {t1 t2 t3 t4 : Nat} {v1 v2 v3 v4 : Value} (h : fn.results.toList = [.tmp t1, .tmp t2, .tmp t3, .tmp t4]) (h1 : f t1 = v1) (h2 : f t2 = v2) (h3 : f t3 = v3) (h4 : f t4 = v4) (hR : R (.tuple #[v1, v2, v3, v4]) w) : Leave P fn R [] f w :=
  ⟨[v1, v2, v3, v4], by rw [h]; exact ⟨h1, h2, h3, h4, trivial⟩, hR⟩
end
theorem w_i64 {n : Int} (h : -9223372036854775808 ≤ n ∧ n ≤ 9223372036854775807) : IntKind.i64.wrap n = n := IntWalk.i64_in n h
theorem w_u64 {n : Int} (h : 0 ≤ n ∧ n ≤ 18446744073709551615) : IntKind.u64.wrap n = n := IntWalk.u64_in n h
theorem w_i32 {n : Int} (h : -2147483648 ≤ n ∧ n ≤ 2147483647) : IntKind.i32.wrap n = n := IntWalk.i32_in n h
theorem w_u32 {n : Int} (h : 0 ≤ n ∧ n ≤ 4294967295) : IntKind.u32.wrap n = n := IntWalk.u32_in n h
theorem w_u16 {n : Int} (h : 0 ≤ n ∧ n ≤ 65535) : IntKind.u16.wrap n = n := IntWalk.u16_in n h
theorem w_u8 {n : Int} (h : 0 ≤ n ∧ n ≤ 255) : IntKind.u8.wrap n = n := IntWalk.u8_in n h
theorem m_u8 (n : Int) : IntKind.u8.wrap n = n % 256 := IntKind.wrap_u8' n
theorem q_i64 {x y : Int} (h : 0 ≤ x ∧ x ≤ 9223372036854775807 ∧ 1 ≤ y) : IntKind.i64.wrap (x.tdiv y) = x / y := IntWalk.i64_quo x y h
theorem q_u64 {x y : Int} (h : 0 ≤ x ∧ x ≤ 18446744073709551615 ∧ 1 ≤ y) : IntKind.u64.wrap (x.tdiv y) = x / y := IntWalk.u64_quo x y h
theorem q_u8 {x y : Int} (h : 0 ≤ x ∧ x ≤ 255 ∧ 1 ≤ y) : IntKind.u8.wrap (x.tdiv y) = x / y := IntWalk.u8_quo x y h
end Go.V
