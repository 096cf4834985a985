/- The calculus, sixteenth text: arrays built and compared; two interface values of one type compared. -/
import Derived.Test.YthlbgeonobicbaaDoorVF
namespace Go.V
open Go.RowKit
set_option linter.unusedVariables false
set_option linter.unusedSimpArgs false

section
variable {P : Program} {w : World}
theorem equalIn_if_same {t t1 : TypeId} {v1 v2 : Value} {ms : Array (String × TypeId)} {r : Bool} (n : Nat) (U : P.underlying t = some (.interface ms)) (hc : (P.info? t1).map (·.comparable) = some true)
    (h : (Op.equalIn n t1 v1 v2).run P w = .ok r w) : (Op.equalIn (n + 1) t (.iface t1 v1) (.iface t1 v2)).run P w = .ok r w := by
  obtain ⟨i, hi, hc'⟩ := Option.map_eq_some_iff.1 hc
  unfold Op.equalIn
  simp only [underlying, typeInfo, Sem.run_bind, run_program, Result.andThen_ok, U, Sem.run_pure, ne_eq, not_true_eq_false, if_false, hi, hc', Bool.not_true, Bool.false_eq_true, h]
theorem run_eqElems {elem n : Nat} {xs ys : Array Value} {rs : Nat → Bool} : ∀ (l : List Nat), (∀ i ∈ l, ∃ a b, (part elem xs (i * 1)).run P w = .ok a w ∧ (part elem ys (i * 1)).run P w = .ok b w ∧ (Op.equalIn n elem a b).run P w = .ok (rs i) w) →
    ((forIn l (none, ()) fun i (__s : Option Bool × Unit) => (do
        let a ← part elem xs (i * 1)
        let b ← part elem ys (i * 1)
        let r ← Op.equalIn n elem a b
        if (!r) = true then pure (ForInStep.done (some false, ())) else pure (ForInStep.yield (none, ())) : Sem (ForInStep (Option Bool × Unit)))) : Sem (Option Bool × Unit)).run P w = .ok (if l.all rs then (none, ()) else (some false, ())) w
  | [], _ => by simp
  | i :: l, h => by
    obtain ⟨a, b, h1, h2, h3⟩ := h i (by simp)
    simp only [List.forIn_cons, Sem.run_bind, h1, h2, h3, Result.andThen_ok, List.all_cons]
    have ih := run_eqElems l (fun i hi => h i (by simp [hi]))
    by_cases hr : rs i = true
    · simp only [hr, Bool.not_true, Bool.false_eq_true, if_false, Sem.run_pure, Result.andThen_ok, ih, Bool.true_and]
    · simp only [Bool.not_eq_true] at hr
      simp [hr]
/-- Two arrays whose elements have a cell each. -/
theorem run_arrEq {t elem : TypeId} {len n by' : Nat} {z : Value} {xs ys : Array Value} {rs : Nat → Bool} (U : P.underlying t = some (.array len elem)) (I : Info P elem z 1 by')
    (h : ∀ i, i < len → ∃ a b, (part elem xs i).run P w = .ok a w ∧ (part elem ys i).run P w = .ok b w ∧ (Op.equalIn n elem a b).run P w = .ok (rs i) w) :
    (Op.equalIn (n + 1) t (.agg xs) (.agg ys)).run P w = .ok ((List.range len).all rs) w := by
  unfold Op.equalIn
  simp only [underlying, Sem.run_bind, run_program, Result.andThen_ok, U, Sem.run_pure, run_sizeOf' I]
  have hf := run_eqElems (P := P) (w := w) (n := n) (elem := elem) (xs := xs) (ys := ys) (rs := rs) (List.range' 0 len) (fun i hi => by
    rw [Nat.mul_one]; exact h i (by simpa using hi))
  rw [Std.Legacy.Range.forIn_eq_forIn_range']
  simp only [Std.Legacy.Range.size, Nat.sub_zero, Nat.add_sub_cancel, Nat.div_one]
  rw [hf, List.range_eq_range']
  cases (List.range' 0 len).all rs <;> simp
end
section ops
variable {P : Program} {ops : Array Oper} {Q : Post} {ds : List Deferred} {f : Env} {w w' : World} {rest : List Oper}
variable {d : Option Nat} {ty : TypeId} {pos : String} {af : Array Edge} {g : Option (Nat × Bool)}
theorem wr_buildArr {t e : TypeId} {z ze : Value} {n by' size by2 len : Nat} {parts : Array (Nat × Operand)} {vs : List Value} [I : Info P t z n by'] [U : Und P t (.array len e)] [E : Info P e ze size by2] (hw : wantedE ops f ⟨d, .build t parts, ty, pos, af, g⟩ = true)
    (hp : parts.toList.map (fun p => (p.1, ev f p.2)) = (vs.zipIdx 0).map fun p => (p.2, p.1)) (hv : ∀ v ∈ vs, v.cells.size = size) (hlen : vs.length * size = z.cells.size)
    (kk : Wr P ops Q ds rest (setO f d (.agg (vs.flatMap (fun v => v.cells.toList)).toArray)) w) : Wr P ops Q ds (⟨d, .build t parts, ty, pos, af, g⟩ :: rest) f w := by
  have hpl : ∀ F : Nat × Operand → Nat × Value, (∀ p, F p = (p.1, ev f p.2)) → (parts.map F).toList = (vs.zipIdx 0).map fun p => (p.2, p.1) := fun F hF => by
    rw [← hp, Array.toList_map]; exact List.map_congr_left fun p _ => hF p
  obtain ⟨cs', e1, e2⟩ := fill_parts size vs 0 z.cells hv (by simp [hlen])
  have e3 : cs' = (vs.flatMap (fun v => v.cells.toList)).toArray := by
    apply Array.toList_inj.1
    rw [e2]
    simp only [Nat.zero_mul, List.take_zero, List.nil_append, Nat.zero_add, hlen]
    rw [List.drop_of_length_le (by simp)]; simp
  refine wr_val (v := .agg (vs.flatMap (fun v => v.cells.toList)).toArray) hw ?_ kk
  simp only [execOp, Instr.build, Sem.run_bind, run_zero I, Result.andThen_ok, underlying, run_program, U.h, Sem.run_pure, run_sizeOf' E]
  rw [hpl _ (fun p => rfl)]
  simp only [e1, e3, Sem.run_pure, Result.andThen_ok]
theorem wr_arrEq {t t' elem : TypeId} {x y : Operand} {len by' : Nat} {z : Value} {xs ys : Array Value} {rs : Nat → Bool} {c : Bool} [U : Und P t (.array len elem)] [I : Info P elem z 1 by'] (hw : wantedE ops f ⟨d, .binOp .eql t x y t', ty, pos, af, g⟩ = true) (hx : ev f x = .agg xs) (hy : ev f y = .agg ys)
    (hg : P.eqGuardType P.depth t = false) (h : ∀ i, i < len → ∃ a b, (part elem xs i).run P w = .ok a w ∧ (part elem ys i).run P w = .ok b w ∧ (Op.equalIn 9999 elem a b).run P w = .ok (rs i) w) (hc : (List.range len).all rs = c)
    (kk : Wr P ops Q ds rest (setO f d (.bool c)) w) : Wr P ops Q ds (⟨d, .binOp .eql t x y t', ty, pos, af, g⟩ :: rest) f w :=
  wr_bin hw hx hy (run_eqGuardAgg hg) (by
    have : (Op.equal t (.agg xs) (.agg ys)).run P w = .ok ((List.range len).all rs) w := run_arrEq U.h I h
    show ((do pure (Value.bool (← Op.equal t (.agg xs) (.agg ys))) : Sem Value)).run P w = _
    simp only [Sem.run_bind, this, Result.andThen_ok, ← hc]; rfl) kk
end ops
end Go.V
