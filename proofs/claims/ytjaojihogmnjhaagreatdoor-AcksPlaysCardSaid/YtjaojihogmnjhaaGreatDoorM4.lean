/- The calculus, tenth text: a range over a function, the loop's record hidden. -/
import Derived.Test.YtjaojihogmnjhaaGreatDoorM3
namespace Go.V
open Go.RowKit
set_option linter.unusedVariables false
set_option linter.unusedSimpArgs false

theorem heap_alloc_at (w : World) (o : Obj) {b : Nat} (h : b = w.heap.size) : (w.alloc o).heap[b]? = some o := by subst h; exact heap_alloc_same _ _
theorem own_one {w : World} {base : Nat} {e : TypeId} {sz n : Nat} {v : Value} {xs : List Value} (h : w.ownsRow base e sz v n xs) : v.oneCell' = true := by
  rcases h.2 with ⟨rfl, _⟩ | ⟨g, cap, cur, rfl, _⟩ <;> rfl
theorem equalIn_bool {P : Program} {w : World} {t : TypeId} (n : Nat) (U : P.underlying t = some .bool) (a b : Bool) : (Op.equalIn (n + 1) t (.bool a) (.bool b)).run P w = .ok (a == b) w := by
  simp only [Op.equalIn, underlying, Sem.run_bind, run_program, Result.andThen_ok, U, Sem.run_pure]
theorem run_boolEq {P : Program} {w : World} {t : TypeId} (U : Und P t .bool) (a b : Bool) : (Op.equal t (.bool a) (.bool b)).run P w = .ok (a == b) w := equalIn_bool 9999 U.h a b
section bools
variable {P : Program} {ops : Array Oper} {Q : Post} {ds : List Deferred} {f : Env} {w w' : World} {rest : List Oper}
variable {d : Option Nat} {ty : TypeId} {pos : String} {af : Array Edge} {g : Option (Nat × Bool)}
theorem wr_boolEq {t t' : TypeId} {x y : Operand} {a b c : Bool} [U : Und P t .bool] (hw : wantedE ops f ⟨d, .binOp .eql t x y t', ty, pos, af, g⟩ = true) (hx : ev f x = .bool a) (hy : ev f y = .bool b) (hc : (a == b) = c)
    (kk : Wr P ops Q ds rest (setO f d (.bool c)) w) : Wr P ops Q ds (⟨d, .binOp .eql t x y t', ty, pos, af, g⟩ :: rest) f w :=
  wr_bin hw hx hy (by simp [eqGuard]) (by
    show ((do pure (Value.bool (← Op.equal t (.bool a) (.bool b))) : Sem Value)).run P w = _
    simp only [Sem.run_bind, run_boolEq U, Result.andThen_ok, hc]; rfl) kk
theorem wr_boolNe {t t' : TypeId} {x y : Operand} {a b c : Bool} [U : Und P t .bool] (hw : wantedE ops f ⟨d, .binOp .neq t x y t', ty, pos, af, g⟩ = true) (hx : ev f x = .bool a) (hy : ev f y = .bool b) (hc : (!(a == b)) = c)
    (kk : Wr P ops Q ds rest (setO f d (.bool c)) w) : Wr P ops Q ds (⟨d, .binOp .neq t x y t', ty, pos, af, g⟩ :: rest) f w :=
  wr_bin hw hx hy (by simp [eqGuard]) (by
    show ((do pure (Value.bool (!(← Op.equal t (.bool a) (.bool b)))) : Sem Value)).run P w = _
    simp only [Sem.run_bind, run_boolEq U, Result.andThen_ok, ← hc]; rfl) kk
end bools
structure LoopC where
  fn : FuncId
  tmps : Array Value
  params : Array Tmp
  assign : Code
  body : Code
  defers : Nat
def LoopC.at (c : LoopC) (st : LoopState) (pe : Option Code) : Loop := { state := st, pending := pe, fn := c.fn, tmps := c.tmps, params := c.params, assign := c.assign, body := c.body, defers := c.defers }
/-- Where a round's body is left. -/
def Ypost (l : Nat) (c : LoopC) (R : Value → World → Prop) : Post
  | .normal, _, _, w => w.heap[l]? = some (.loop (c.at .busy none)) ∧ R (.bool true) (w.putObj l (.loop (c.at .ready none)))
  | .ret, _, _, w => w.heap[l]? = some (.loop (c.at .busy none)) ∧ R (.bool false) (w.putObj l (.loop (c.at .done (some .ret))))
  | .exit id, _, _, w => w.heap[l]? = some (.loop (c.at .busy none)) ∧ R (.bool false) (w.putObj l (.loop (c.at .done (some (.exit id)))))
  | _, _, _, _ => False
theorem callV_yieldC {P : Program} {n : Nat} {l : Nat} {c : LoopC} {args : List Value} {w : World} {R : Value → World → Prop} {f : Env} {f' : Env}
    (hl : w.heap[l]? = some (.loop (c.at .ready none))) (hsz : args.length = c.params.size) (hrp : Rp n [] ⟨c.tmps, []⟩ f) (hps : c.params.toList.all (Nat.blt · n) = true)
    (hok : codeOk n c.assign = true ∧ codeOk n c.body = true) (hf' : (c.params.toList.zip args).foldl (fun (f : Env) p => f.set p.1 p.2) f = f')
    (h : Wc (some l) P n c.assign (thenE (fun ds f w' => w'.heap[l]? = some (.loop (c.at .ready none)) ∧ Wc (some l) P n c.body (Ypost l c R) ds f (w'.putObj l (.loop (c.at .busy none)))) (fun _ _ _ _ => False)) [] f' w) : CallV P (yieldV l) args.toArray w R := by
  refine callV_yield (rec := c.at .ready none) hl hsz hrp hps hok hf' (h.mono ?_)
  intro e ds f w' hq
  cases e with
  | normal =>
    obtain ⟨h1, h2⟩ := hq
    refine ⟨_, h1, rfl, h2.mono ?_⟩
    intro e ds f w'' hq
    cases e with
    | normal => exact ⟨_, hq.1, hq.2⟩
    | ret => exact ⟨_, hq.1, hq.2⟩
    | exit id => exact ⟨_, hq.1, hq.2⟩
    | _ => exact hq.elim
  | _ => exact hq.elim
abbrev markD (b : Nat) : Deferred := { target := .collected b, args := #[] }
theorem wc_rangeC {P : Program} {n : Nat} {Q : Post} {ds : List Deferred} {f : Env} {w : World} {x : Operand} {ps : Array Tmp} {assign body : Code} {gf : FuncId} {cap : Array Value} [E : Ent P gf]
    (hx : ev f x = .func (.func gf) #[] cap)
    (h : ∀ (c : LoopC) (w2 : World), c.params = ps → c.assign = assign → c.body = body → Rp n [] ⟨c.tmps, []⟩ f → codeOk n c.assign = true ∧ codeOk n c.body = true ∧ c.params.toList.all (Nat.blt · n) = true →
      w2.heap[w.heap.size]? = some (.deferred (some [])) → w2.heap[w.heap.size + 1]? = some (.loop (c.at .ready none)) → Keeps NoB w w2 → w2.heap.size = w.heap.size + 2 →
      Ca P gf (#[yieldV (w.heap.size + 1)] ++ cap) w2 fun _ w' =>
        (w'.heap[w.heap.size + 1]? = some (.loop (c.at .ready none)) ∧ Q .normal (markD w.heap.size :: ds) f (w'.putObj (w.heap.size + 1) (.loop (c.at .exhausted none)))) ∨
        (∃ pc, w'.heap[w.heap.size + 1]? = some (.loop (c.at .done (some pc))) ∧ codeOk n pc = true ∧ Wc none P n pc Q (markD w.heap.size :: ds) f (w'.putObj (w.heap.size + 1) (.loop (c.at .exhausted (some pc)))))) :
    Wc none P n (.rangeFunc x ps assign body) Q ds f w := by
  refine wc_rangeFunc hx ?_
  intro fn tm hrp hok
  have h1 := h ⟨fn, tm, ps, assign, body, w.heap.size⟩ ((w.alloc (.deferred (some []))).alloc (.loop (LoopC.at ⟨fn, tm, ps, assign, body, w.heap.size⟩ .ready none))) rfl rfl rfl hrp hok
    ((heap_alloc_ne _ _ (by simp)).trans (heap_alloc_same _ _)) (by have := heap_alloc_same (w.alloc (.deferred (some []))) (.loop (LoopC.at ⟨fn, tm, ps, assign, body, w.heap.size⟩ .ready none)); simpa using this) (((Keeps.refl NoB w).alloc _).alloc _) (by simp)
  refine h1.mono ?_
  rintro v w' (⟨h2, h3⟩ | ⟨pc, h2, h3, h4⟩)
  · exact ⟨_, h2, by simp [LoopC.at], h3⟩
  · exact ⟨_, h2, by simp [LoopC.at], h3, h4⟩
end Go.V

namespace Go.V
open Go.RowKit
set_option linter.unusedVariables false
set_option linter.unusedSimpArgs false

/-- Field by field: what the comparison of two structs finds. -/
def EqOk (P : Program) (w : World) (n : Nat) (xs ys : Array Value) : List Field → List Bool → Prop
  | [], [] => True
  | f :: fs, r :: rs => (f.name ≠ "_" ∧ ∃ a b, (part f.type xs f.offset).run P w = .ok a w ∧ (part f.type ys f.offset).run P w = .ok b w ∧ (Op.equalIn n f.type a b).run P w = .ok r w) ∧ EqOk P w n xs ys fs rs
  | _, _ => False
theorem run_eqFields {P : Program} {w : World} {n : Nat} {xs ys : Array Value} : ∀ (fs : List Field) (rs : List Bool), EqOk P w n xs ys fs rs →
    ((forIn fs (none, ()) fun f (__s : Option Bool × Unit) => (if f.name ≠ "_" then do
        let a ← part f.type xs f.offset
        let b ← part f.type ys f.offset
        let r ← Op.equalIn n f.type a b
        if (!r) = true then pure (ForInStep.done (some false, ())) else pure (ForInStep.yield (none, ()))
      else pure (ForInStep.yield (none, ())) : Sem (ForInStep (Option Bool × Unit)))) : Sem (Option Bool × Unit)).run P w = .ok (if rs.all id then (none, ()) else (some false, ())) w
  | [], [], _ => by simp
  | [], _ :: _, h => h.elim
  | _ :: _, [], h => h.elim
  | f :: fs, r :: rs, h => by
    obtain ⟨⟨h0, a, b, h1, h2, h3⟩, h4⟩ := h
    simp only [List.forIn_cons, if_pos h0, Sem.run_bind, h1, h2, h3, Result.andThen_ok]
    cases r with
    | false => simp
    | true =>
      simp only [Bool.not_true, Bool.false_eq_true, if_false, Sem.run_pure, Result.andThen_ok, run_eqFields fs rs h4]
      simp
theorem run_structEq {P : Program} {w : World} {t : TypeId} {fs : Array Field} {n : Nat} {xs ys : Array Value} {rs : List Bool} (U : P.underlying t = some (.struct fs)) (hso : P.stoodInHeld t = false) (h : EqOk P w n xs ys fs.toList rs) :
    (Op.equalIn (n + 1) t (.agg xs) (.agg ys)).run P w = .ok (rs.all id) w := by
  unfold Op.equalIn
  simp only [underlying, Sem.run_bind, run_program, Result.andThen_ok, U, hso, Bool.false_eq_true, if_false, Sem.run_pure]
  have hf := run_eqFields fs.toList rs h
  rw [Array.forIn_toList] at hf
  rw [hf]
  cases rs.all id <;> simp
theorem run_part1 {P : Program} {w : World} {t : TypeId} {D : TypeDesc} {cs : Array Value} {o : Nat} {v : Value} (U : P.underlying t = some D) (hD : isAggD D = false) (hv : cs[o]? = some v) : (part t cs o).run P w = .ok v w := by
  unfold part
  have := run_isAgg' (P := P) (w := w) (t := t) (d := D) ⟨U⟩
  simp only [Sem.run_bind, this, Result.andThen_ok, hD, Bool.false_eq_true, if_false, hv, Sem.run_pure]
section ops
variable {P : Program} {ops : Array Oper} {Q : Post} {ds : List Deferred} {f : Env} {w w' : World} {rest : List Oper}
variable {d : Option Nat} {ty : TypeId} {pos : String} {af : Array Edge} {g : Option (Nat × Bool)}
theorem run_eqGuardAgg {op : BinOp} {t : TypeId} {x y : Operand} {xs ys : Array Value} (h : P.eqGuardType P.depth t = false) : (eqGuard op t x y (.agg xs) (.agg ys)).run P w = .ok () w := by
  unfold eqGuard
  cases op <;> simp [h]
theorem wr_structNe {t t' : TypeId} {x y : Operand} {fs : Array Field} {xs ys : Array Value} {rs : List Bool} {c : Bool} [U : Und P t (.struct fs)] (hw : wantedE ops f ⟨d, .binOp .neq t x y t', ty, pos, af, g⟩ = true) (hx : ev f x = .agg xs) (hy : ev f y = .agg ys)
    (hso : P.stoodInHeld t = false) (hg : P.eqGuardType P.depth t = false) (h : EqOk P w 9999 xs ys fs.toList rs) (hc : (!(rs.all id)) = c)
    (kk : Wr P ops Q ds rest (setO f d (.bool c)) w) : Wr P ops Q ds (⟨d, .binOp .neq t x y t', ty, pos, af, g⟩ :: rest) f w :=
  wr_bin hw hx hy (run_eqGuardAgg hg) (by
    have : (Op.equal t (.agg xs) (.agg ys)).run P w = .ok (rs.all id) w := run_structEq U.h hso h
    show ((do pure (Value.bool (!(← Op.equal t (.agg xs) (.agg ys)))) : Sem Value)).run P w = _
    simp only [Sem.run_bind, this, Result.andThen_ok, ← hc]; rfl) kk
theorem wr_structEq {t t' : TypeId} {x y : Operand} {fs : Array Field} {xs ys : Array Value} {rs : List Bool} {c : Bool} [U : Und P t (.struct fs)] (hw : wantedE ops f ⟨d, .binOp .eql t x y t', ty, pos, af, g⟩ = true) (hx : ev f x = .agg xs) (hy : ev f y = .agg ys)
    (hso : P.stoodInHeld t = false) (hg : P.eqGuardType P.depth t = false) (h : EqOk P w 9999 xs ys fs.toList rs) (hc : rs.all id = c)
    (kk : Wr P ops Q ds rest (setO f d (.bool c)) w) : Wr P ops Q ds (⟨d, .binOp .eql t x y t', ty, pos, af, g⟩ :: rest) f w :=
  wr_bin hw hx hy (run_eqGuardAgg hg) (by
    have : (Op.equal t (.agg xs) (.agg ys)).run P w = .ok (rs.all id) w := run_structEq U.h hso h
    show ((do pure (Value.bool (← Op.equal t (.agg xs) (.agg ys))) : Sem Value)).run P w = _
    simp only [Sem.run_bind, this, Result.andThen_ok, ← hc]; rfl) kk
end ops
end Go.V
