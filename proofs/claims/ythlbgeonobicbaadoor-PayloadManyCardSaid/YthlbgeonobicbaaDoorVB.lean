/- The calculus, eleventh text: structs compared. -/
import Derived.Test.YthlbgeonobicbaaDoorVA
namespace Go.V
open Go.RowKit
set_option linter.unusedVariables false
set_option linter.unusedSimpArgs false

/-- Field by field: what the comparison of two structs finds. -/
def EqOk (P : Program) (w : World) (n : Nat) (xs ys : Array Value) : List Field → List Bool → Prop
  | [], [] => True
  | f :: fs, r :: rs => (f.name ≠ "_" ∧ ∃ a b, (part f.type xs f.offset).run P w = .ok a w ∧ (part f.type ys f.offset).run P w = .ok b w ∧ (Op.equalIn n f.type a b).run P w = .ok r w) ∧ EqOk P w n xs ys fs rs
  | _, _ => False
theorem run_eqFields {P : Program} {w : World} {n : Nat} {xs ys : Array Value} : ∀ (fs : List Field) (rs : List Bool), EqOk P w n xs ys fs rs →
    ((forIn fs (none, ()) fun f (__s : Option Bool × Unit) => (if f.name ≠ "_" then do
        let a ← part f.type xs f.offset
        let b ← part f.type ys f.offset
        let r ← Op.equalIn n f.type a b
        if (!r) = true then pure (ForInStep.done (some false, ())) else pure (ForInStep.yield (none, ()))
      else pure (ForInStep.yield (none, ())) : Sem (ForInStep (Option Bool × Unit)))) : Sem (Option Bool × Unit)).run P w = .ok (if rs.all id then (none, ()) else (some false, ())) w
  | [], [], _ => by simp
  | [], _ :: _, h => h.elim
  | _ :: _, [], h => h.elim
  | f :: fs, r :: rs, h => by
    obtain ⟨⟨h0, a, b, h1, h2, h3⟩, h4⟩ := h
    simp only [List.forIn_cons, if_pos h0, Sem.run_bind, h1, h2, h3, Result.andThen_ok]
    cases r with
    | false => simp
    | true =>
      simp only [Bool.not_true, Bool.false_eq_true, if_false, Sem.run_pure, Result.andThen_ok, run_eqFields fs rs h4]
      simp
theorem run_structEq {P : Program} {w : World} {t : TypeId} {fs : Array Field} {n : Nat} {xs ys : Array Value} {rs : List Bool} (U : P.underlying t = some (.struct fs)) (hso : P.stoodInHeld t = false) (h : EqOk P w n xs ys fs.toList rs) :
    (Op.equalIn (n + 1) t (.agg xs) (.agg ys)).run P w = .ok (rs.all id) w := by
  unfold Op.equalIn
  simp only [underlying, Sem.run_bind, run_program, Result.andThen_ok, U, hso, Bool.false_eq_true, if_false, Sem.run_pure]
  have hf := run_eqFields fs.toList rs h
  rw [Array.forIn_toList] at hf
  rw [hf]
  cases rs.all id <;> simp
theorem run_part1 {P : Program} {w : World} {t : TypeId} {D : TypeDesc} {cs : Array Value} {o : Nat} {v : Value} (U : P.underlying t = some D) (hD : isAggD D = false) (hv : cs[o]? = some v) : (part t cs o).run P w = .ok v w := by
  unfold part
  have := run_isAgg' (P := P) (w := w) (t := t) (d := D) ⟨U⟩
  simp only [Sem.run_bind, this, Result.andThen_ok, hD, Bool.false_eq_true, if_false, hv, Sem.run_pure]
section ops
variable {P : Program} {ops : Array Oper} {Q : Post} {ds : List Deferred} {f : Env} {w w' : World} {rest : List Oper}
variable {d : Option Nat} {ty : TypeId} {pos : String} {af : Array Edge} {g : Option (Nat × Bool)}
theorem run_eqGuardAgg {op : BinOp} {t : TypeId} {x y : Operand} {xs ys : Array Value} (h : P.eqGuardType P.depth t = false) : (eqGuard op t x y (.agg xs) (.agg ys)).run P w = .ok () w := by
  unfold eqGuard
  cases op <;> simp [h]
theorem wr_structNe {t t' : TypeId} {x y : Operand} {fs : Array Field} {xs ys : Array Value} {rs : List Bool} {c : Bool} [U : Und P t (.struct fs)] (hw : wantedE ops f ⟨d, .binOp .neq t x y t', ty, pos, af, g⟩ = true) (hx : ev f x = .agg xs) (hy : ev f y = .agg ys)
    (hso : P.stoodInHeld t = false) (hg : P.eqGuardType P.depth t = false) (h : EqOk P w 9999 xs ys fs.toList rs) (hc : (!(rs.all id)) = c)
    (kk : Wr P ops Q ds rest (setO f d (.bool c)) w) : Wr P ops Q ds (⟨d, .binOp .neq t x y t', ty, pos, af, g⟩ :: rest) f w :=
  wr_bin hw hx hy (run_eqGuardAgg hg) (by
    have : (Op.equal t (.agg xs) (.agg ys)).run P w = .ok (rs.all id) w := run_structEq U.h hso h
    show ((do pure (Value.bool (!(← Op.equal t (.agg xs) (.agg ys)))) : Sem Value)).run P w = _
    simp only [Sem.run_bind, this, Result.andThen_ok, ← hc]; rfl) kk
theorem wr_structEq {t t' : TypeId} {x y : Operand} {fs : Array Field} {xs ys : Array Value} {rs : List Bool} {c : Bool} [U : Und P t (.struct fs)] (hw : wantedE ops f ⟨d, .binOp .eql t x y t', ty, pos, af, g⟩ = true) (hx : ev f x = .agg xs) (hy : ev f y = .agg ys)
    (hso : P.stoodInHeld t = false) (hg : P.eqGuardType P.depth t = false) (h : EqOk P w 9999 xs ys fs.toList rs) (hc : rs.all id = c)
    (kk : Wr P ops Q ds rest (setO f d (.bool c)) w) : Wr P ops Q ds (⟨d, .binOp .eql t x y t', ty, pos, af, g⟩ :: rest) f w :=
  wr_bin hw hx hy (run_eqGuardAgg hg) (by
    have : (Op.equal t (.agg xs) (.agg ys)).run P w = .ok (rs.all id) w := run_structEq U.h hso h
    show ((do pure (Value.bool (← Op.equal t (.agg xs) (.agg ys))) : Sem Value)).run P w = _
    simp only [Sem.run_bind, this, Result.andThen_ok, ← hc]; rfl) kk
end ops
end Go.V
