/- A calculus over the walk's own rules: frames as functions from slots to values; a region's operations one by one; calls of functions and of function values; loops; a range over a function. Nothing of a program stands here. -/
import Derived.RangeFuncLeaves
import Derived.RangeFuncRecord
import Derived.Below
import Derived.KernelRfl
import Derived.Orders
namespace Go.V
open Go.RowKit
set_option linter.unusedVariables false
set_option linter.unusedSimpArgs false

abbrev Env := Nat → Value
@[reducible] def Env.set (f : Env) (d : Nat) (v : Value) : Env := fun i => match Nat.beq i d with
  | true => v
  | false => f i
@[reducible] def pickB (t : Bool) (a b : Value) : Value := match t with
  | true => a
  | false => b
@[reducible] def setO (f : Env) : Option Nat → Value → Env
  | none, _ => f
  | some d, v => f.set d v
@[reducible] def ev (f : Env) : Operand → Value
  | .tmp t => f t
  | .const v => v
  | .global g => .pointer (some ⟨g, 0, none⟩)
  | .func g => .func (.func g) #[] #[]
theorem Env.set_same (f : Env) (d : Nat) (v : Value) : f.set d v d = v := by
  have : Nat.beq d d = true := Nat.beq_refl d
  simp only [Env.set, this]
theorem Env.set_ne (f : Env) {d i : Nat} (v : Value) (h : i ≠ d) : f.set d v i = f i := by
  have : Nat.beq i d = false := by
    cases hb : Nat.beq i d with
    | false => rfl
    | true => exact absurd (Nat.eq_of_beq_eq_true hb) h
  simp only [Env.set, this]
theorem Env.set_self (f : Env) (d : Nat) : f.set d (f d) = f := by
  funext i
  by_cases h : i = d
  · subst h; exact Env.set_same _ _ _
  · exact Env.set_ne _ _ h
/-- A frame with some of its slots named, over one of which nothing is known. -/
@[reducible] def setL (f : Env) : List (Nat × Value) → Env
  | [] => f
  | (d, v) :: l => (setL f l).set d v
theorem setL_self (f : Env) : ∀ l : List (Nat × Value), (∀ p ∈ l, f p.1 = p.2) → setL f l = f
  | [], _ => rfl
  | (d, v) :: l, h => by
    have h1 : f d = v := h (d, v) (by simp)
    show (setL f l).set d v = f
    rw [setL_self f l (fun p hp => h p (by simp [hp])), ← h1, Env.set_self]

abbrev F0 (r : Option Nat) : Fence := { Fence.wide with round := r }

def opdOk (n : Nat) : Operand → Bool
  | .tmp t => Nat.blt t n
  | _ => true
def dstOk (n : Nat) : Option Nat → Bool
  | some d => Nat.blt d n
  | none => true
def opOk : Op → Bool
  | .defer _ | .go _ | .select .. => false
  | _ => true
def operOk (n : Nat) (o : Oper) : Bool := o.op.operands.toList.all (opdOk n) && (dstOk n o.dst && opOk o.op)
def codeOk (n : Nat) : Code → Bool
  | .region _ ops _ => ops.toList.all (operOk n)
  | .seq a b => codeOk n a && codeOk n b
  | .cond c a b => opdOk n c && (codeOk n a && codeOk n b)
  | .block _ c | .loop c | .scope c => codeOk n c
  | .rangeFunc g ps a b => opdOk n g && (ps.toList.all (Nat.blt · n) && (codeOk n a && codeOk n b))
  | _ => true

structure Rp (n : Nat) (ds : List Deferred) (a : Act) (f : Env) : Prop where
  size : a.tmps.size = n
  dfr : a.defers = ds
  get : ∀ i, i < n → a.tmps.getD i undef = f i
theorem Rp.eval {n : Nat} {ds : List Deferred} {a : Act} {f : Env} (h : Rp n ds a f) {x : Operand} (hx : opdOk n x = true) : a.eval x = ev f x := by
  cases x with
  | tmp t => exact h.get t (by simpa [opdOk] using hx)
  | const v => rfl
  | global g => rfl
  | func g => rfl
theorem Rp.put {n : Nat} {ds : List Deferred} {a : Act} {f : Env} (h : Rp n ds a f) {d : Option Nat} (hd : dstOk n d = true) (v : Value) : Rp n ds (a.put d v) (setO f d v) := by
  cases d with
  | none => exact h
  | some d =>
    have hd' : d < n := by simpa [dstOk] using hd
    refine ⟨by simpa [Act.put] using h.size, h.dfr, fun i hi => ?_⟩
    have hs := h.size
    simp only [Act.put, setO]
    by_cases e : i = d
    · subst e
      rw [Env.set_same]; simp [Array.getD_eq_getD_getElem?, hs, hi]
    · rw [Env.set_ne _ _ e, ← h.get i hi]
      simp [Array.getD_eq_getD_getElem?, Array.getElem?_setIfInBounds, Ne.symm e]

abbrev Post := Exit → List Deferred → Env → World → Prop
def QA (n : Nat) (Q : Post) : Exit → Act → World → Prop := fun e a w => ∃ ds f, Rp n ds a f ∧ Q e ds f w
def thenE (K : List Deferred → Env → World → Prop) (Q : Post) : Post
  | .normal, ds, f, w => K ds f w
  | e, ds, f, w => Q e ds f w
def inBlockE (id : Nat) (Q : Post) : Post
  | .exit id', ds, f, w => if id' = id then Q .normal ds f w else Q (.exit id') ds f w
  | e, ds, f, w => Q e ds f w

/-- The walk of a piece of code from a frame read as a function. -/
def Wc (r : Option Nat) (P : Program) (n : Nat) (c : Code) (Q : Post) (ds : List Deferred) (f : Env) (w : World) : Prop :=
  codeOk n c = true → ∀ a, Rp n ds a f → c.wpIn (F0 r) 0 P (QA n Q) a w

theorem Wc.up {r : Option Nat} {P : Program} {n : Nat} {c : Code} {Q : Post} {ds : List Deferred} {f : Env} {w : World} (h : Wc r P n c Q ds f w) (hok : codeOk n c = true) (a : Act) (ha : Rp n ds a f) : c.wpIn (F0 r) 0 P (QA n Q) a w := h hok a ha
theorem Wc.mk {r : Option Nat} {P : Program} {n : Nat} {c : Code} {Q : Post} {ds : List Deferred} {f : Env} {w : World} (h : codeOk n c = true → ∀ a, Rp n ds a f → c.wpIn (F0 r) 0 P (QA n Q) a w) : Wc r P n c Q ds f w := h
section rules
variable {r : Option Nat} {P : Program} {n : Nat} {Q : Post} {ds : List Deferred} {f : Env} {w : World}
theorem Wc.mono {c : Code} {Q' : Post} (h : Wc r P n c Q ds f w) (hq : ∀ e ds f w, Q e ds f w → Q' e ds f w) : Wc r P n c Q' ds f w :=
  fun hok a ha => wpIn_mono (h hok a ha) fun _ _ _ ⟨ds', f', hr, q⟩ => ⟨ds', f', hr, hq _ _ _ _ q⟩
theorem wc_skip (h : Q .normal ds f w) : Wc r P n .skip Q ds f w := fun _ a ha => wpIn_skip ⟨ds, f, ha, h⟩
theorem wc_label {l : Nat} (h : Q .normal ds f w) : Wc r P n (.label l) Q ds f w := fun _ a ha => wpIn_label ⟨ds, f, ha, h⟩
theorem wc_exit {id : Nat} (h : Q (.exit id) ds f w) : Wc r P n (.exit id) Q ds f w := fun _ a ha => wpIn_exit ⟨ds, f, ha, h⟩
theorem wc_ret (h : Q .ret ds f w) : Wc r P n .ret Q ds f w := fun _ a ha => wpIn_ret ⟨ds, f, ha, h⟩
theorem wc_seq {x y : Code} (h : Wc r P n x (thenE (Wc r P n y Q) Q) ds f w) : Wc r P n (.seq x y) Q ds f w := by
  intro hok a ha
  simp only [codeOk, Bool.and_eq_true] at hok
  refine wpIn_seq (wpIn_mono (h hok.1 a ha) ?_)
  rintro e a' w' ⟨ds', f', hr, hq⟩
  cases e with
  | normal => exact hq hok.2 a' hr
  | _ => exact ⟨ds', f', hr, hq⟩
theorem wc_cond {c : Operand} {x y : Code} {t : Bool} (hc : ev f c = .bool t) (h : Wc r P n (bif t then x else y) Q ds f w) :
    Wc r P n (.cond c x y) Q ds f w := by
  intro hok a ha
  simp only [codeOk, Bool.and_eq_true] at hok
  refine wpIn_cond (t := t) ((ha.eval hok.1).trans hc) ?_
  cases t
  · exact h hok.2.2 a ha
  · exact h hok.2.1 a ha
theorem wc_true {c : Operand} {x y : Code} (hc : ev f c = .bool true) (h : Wc r P n x Q ds f w) : Wc r P n (.cond c x y) Q ds f w := wc_cond hc h
theorem wc_false {c : Operand} {x y : Code} (hc : ev f c = .bool false) (h : Wc r P n y Q ds f w) : Wc r P n (.cond c x y) Q ds f w := wc_cond hc h
theorem wc_split {c : Operand} {x y : Code} {t : Bool} (hc : ev f c = .bool t) (h1 : t = true → Wc r P n x Q ds f w) (h2 : t = false → Wc r P n y Q ds f w) :
    Wc r P n (.cond c x y) Q ds f w := by
  cases t
  · exact wc_false hc (h2 rfl)
  · exact wc_true hc (h1 rfl)
/-- A test of a decided proposition. -/
theorem wc_if {c : Operand} {x y : Code} {p : Prop} [Decidable p] (hc : ev f c = .bool (decide p)) (h1 : p → Wc r P n x Q ds f w) (h2 : ¬ p → Wc r P n y Q ds f w) :
    Wc r P n (.cond c x y) Q ds f w :=
  wc_split hc (fun h => h1 (of_decide_eq_true h)) (fun h => h2 (of_decide_eq_false h))
theorem wc_block {id : Nat} {c : Code} (h : Wc r P n c (inBlockE id Q) ds f w) : Wc r P n (.block id c) Q ds f w := by
  intro hok a ha
  refine wpIn_block (wpIn_mono (h hok a ha) ?_)
  rintro e a' w' ⟨ds', f', hr, hq⟩
  cases e with
  | exit id' =>
    simp only [inBlockE] at hq
    simp only [Exit.inBlock]
    split
    · rename_i e; rw [if_pos e] at hq; exact ⟨ds', f', hr, hq⟩
    · rename_i e; rw [if_neg e] at hq; exact ⟨ds', f', hr, hq⟩
  | _ => exact ⟨ds', f', hr, hq⟩
theorem wc_loop {c : Code} (I : Nat → List Deferred → Env → World → Prop) (m0 : Nat) (h0 : I m0 ds f w)
    (round : ∀ m ds f w, I m ds f w → Wc r P n c (thenE (fun ds' f' w' => ∃ m', m' < m ∧ I m' ds' f' w') Q) ds f w) : Wc r P n (.loop c) Q ds f w := by
  intro hok a ha b k cs hro hb hr
  have key : ∀ j ds f a w, Rp n ds a f → I j ds f w →
      ∃ e a' w', QA n Q e a' w' ∧ ArrivesIn (Machine.fenced P (F0 r)) P (lone (b.atR a (.code c :: .inLoop c :: k)) cs w) b k cs e a' w' := by
    intro j
    induction j using Nat.strongRecOn with
    | _ j ih =>
      intro ds f a w ha hI
      obtain ⟨e, a₁, w₁, ⟨ds', f', hr', hq⟩, harr⟩ := round j ds f w hI hok a ha b (.inLoop c :: k) cs hro hb hr
      cases e with
      | normal =>
        obtain ⟨m', hlt, hI₁⟩ := hq
        obtain ⟨e₂, a₂, w₂, hq₂, harr₂⟩ := ih m' hlt ds' f' a₁ w₁ hr' hI₁
        exact ⟨e₂, a₂, w₂, hq₂, .of_steps (StepsIn.trans harr (.one (fenced_calm hb hr rfl) stepR_inLoop)) harr₂⟩
      | exit id => exact ⟨_, a₁, w₁, ⟨ds', f', hr', hq⟩, .pass (x := .inLoop c) rfl (fun _ _ => .inl (by simp)) harr⟩
      | goto l => exact ⟨_, a₁, w₁, ⟨ds', f', hr', hq⟩, .pass (x := .inLoop c) rfl (fun _ _ => .inl (by simp)) harr⟩
      | ret => exact ⟨_, a₁, w₁, ⟨ds', f', hr', hq⟩, .pass (x := .inLoop c) rfl (fun _ _ => .inl (by simp)) harr⟩
      | panic ch => exact ⟨_, a₁, w₁, ⟨ds', f', hr', hq⟩, .pass (x := .inLoop c) rfl (fun _ _ => .inl (by simp)) harr⟩
      | outgrown => exact ⟨_, a₁, w₁, ⟨ds', f', hr', hq⟩, .pass (x := .inLoop c) rfl (fun _ _ => .inl (by simp)) harr⟩
  obtain ⟨e, a', w', hq, harr⟩ := key m0 ds f a w ha h0
  exact ⟨e, a', w', hq, .of_steps (.one (fenced_calm hb hr rfl) stepR_loop) harr⟩
/-- Of a frame only what is named is kept. -/
theorem wc_forget {c : Code} (l : List (Nat × Value)) (hl : ∀ p ∈ l, f p.1 = p.2) (h : ∀ f0, Wc r P n c Q ds (setL f0 l) w) : Wc r P n c Q ds f w := by
  have := h f
  rwa [setL_self f l hl] at this
end rules

/-! ### Operations -/
def wantedE (ops : Array Oper) (f : Env) (o : Oper) : Bool :=
  match o.guard with
  | none => true
  | some (j, want) =>
    match (ops[j]?).bind (·.dst) with
    | some t => (match f t with | .bool b => b == want | _ => false)
    | none => false
def upE (P : Program) (next : Value → World → Prop) : Result Next → Prop
  | .ok (.value v) w' => next v w'
  | .ok .skip w' => next undef w'
  | .ok (.enter g args) w' => CallsIn Fence.wide 0 P g args w' fun
      | .returned v, w'' => next v w''
      | _, _ => False
  | .ok (.round l g tmps assign body) w' => RoundIn Fence.wide 0 P l g tmps assign body w' fun
      | .returned v, w'' => next v w''
      | _, _ => False
  | _ => False
theorem upE_mono {P : Program} {next next' : Value → World → Prop} (hn : ∀ v w, next v w → next' v w) : ∀ {x : Result Next}, upE P next x → upE P next' x := by
  intro x h
  unfold upE at h ⊢
  split at h
  · exact hn _ _ h
  · exact hn _ _ h
  · refine CallsIn.mono h ?_
    intro e w'; cases e with
    | returned v => exact hn _ _
    | _ => exact fun h => h
  · refine RoundIn.mono h ?_
    intro e w'; cases e with
    | returned v => exact hn _ _
    | _ => exact fun h => h
  · exact h.elim
def Wr (P : Program) (ops : Array Oper) (Q : Post) (ds : List Deferred) : List Oper → Env → World → Prop
  | [], f, w => Q .normal ds f w
  | o :: rest, f, w =>
    bif wantedE ops f o then upE P (fun v w' => Wr P ops Q ds rest (setO f o.dst v) w') ((execOp (ev f) o).run P w) else Wr P ops Q ds rest (setO f o.dst undef) w

theorem wanted_eq {n : Nat} {ds : List Deferred} {a : Act} {f : Env} (h : Rp n ds a f) {ops : Array Oper} (hops : ops.toList.all (operOk n) = true) (o : Oper) :
    Region.wanted o (yielded ops a.tmps) = wantedE ops f o := by
  unfold Region.wanted wantedE
  cases o.guard with
  | none => rfl
  | some p =>
    obtain ⟨j, want⟩ := p
    simp only [yielded]
    cases hj : ops[j]? with
    | none => rfl
    | some oj =>
      simp only [Option.bind_some]
      cases hd : oj.dst with
      | none => rfl
      | some t =>
        simp only [Option.bind_some]
        have hmem : oj ∈ ops.toList := by
          obtain ⟨hlt, he⟩ := Array.getElem?_eq_some_iff.1 hj
          rw [← he]; exact Array.getElem_mem_toList hlt
        have hok := List.all_eq_true.1 hops oj hmem
        simp only [operOk, Bool.and_eq_true, hd, dstOk] at hok
        have ht : t < n := by simpa using hok.2.1
        have hg := h.get t ht
        have hs := h.size
        have : a.tmps[t]? = some (f t) := by
          rw [← hg]; simp [Array.getD_eq_getD_getElem?, hs, ht]
        rw [this]
        cases f t <;> simp
theorem exec_eq {n : Nat} {ds : List Deferred} {a : Act} {f : Env} (h : Rp n ds a f) {o : Oper} (ho : operOk n o = true) (r : Option Nat) :
    o.semAt r a.eval = execOp (ev f) o := by
  simp only [operOk, Bool.and_eq_true] at ho
  obtain ⟨h1, _, h3⟩ := ho
  rw [Oper.semAt_eq r a.eval o (fun c hc => by rw [hc] at h3; cases h3)]
  exact execOp_congr o (fun cs b hc => by rw [hc] at h3; cases h3) fun x hx => h.eval (List.all_eq_true.1 h1 x (by simpa using hx))

theorem wr_sound {r : Option Nat} {P : Program} {n : Nat} {Q : Post} {ops : Array Oper} (hops : ops.toList.all (operOk n) = true) :
    ∀ (is : List Nat) (ds : List Deferred) (a : Act) (f : Env) (w : World), Rp n ds a f → Wr P ops Q ds (is.filterMap (ops[·]?)) f w → wpOpsIn (F0 r) 0 P ops (QA n Q) is a w := by
  intro is
  induction is with
  | nil => intro ds a f w ha h; exact ⟨ds, f, ha, h⟩
  | cons i is ih =>
    intro ds a f w ha h
    simp only [wpOpsIn]
    cases ho : ops[i]? with
    | none =>
      simp only [List.filterMap_cons, ho] at h
      exact ih ds a f w ha h
    | some o =>
      simp only [List.filterMap_cons, ho, Wr] at h
      have hmem : o ∈ ops.toList := by
        obtain ⟨hlt, he⟩ := Array.getElem?_eq_some_iff.1 ho
        rw [← he]; exact Array.getElem_mem_toList hlt
      have hok := List.all_eq_true.1 hops o hmem
      have hd : dstOk n o.dst = true := by simp only [operOk, Bool.and_eq_true] at hok; exact hok.2.1
      dsimp only
      rw [wanted_eq ha hops o]
      cases hw : wantedE ops f o with
      | false =>
        rw [hw] at h
        exact ⟨fun _ _ => trivial, ih ds _ _ w (ha.put hd _) h⟩
      | true =>
        rw [hw] at h
        simp only [cond_true] at h
        refine ⟨fun _ _ => trivial, ?_⟩
        rw [exec_eq ha hok]
        generalize (execOp (ev f) o).run P w = x at h
        unfold upE at h
        split at h
        · exact ih ds _ _ _ (ha.put hd _) h
        · exact ih ds _ _ _ (ha.put hd _) h
        · refine ⟨(fun h => by cases h), CallsIn.mono h ?_⟩
          intro e w''; cases e with
          | returned v => exact fun h => ih ds _ _ _ (ha.put hd _) h
          | _ => exact fun h => h.elim
        · refine ⟨(fun h => by cases h), RoundIn.mono h ?_⟩
          intro e w''; cases e with
          | returned v => exact fun h => ih ds _ _ _ (ha.put hd _) h
          | _ => exact fun h => h.elim
        · exact h.elim

section regions
variable {r : Option Nat} {P : Program} {n : Nat} {Q : Post} {ds : List Deferred} {f : Env} {w : World}
theorem fm_aux : ∀ (l pre : List Oper), (List.range' pre.length l.length).filterMap ((pre ++ l)[·]?) = l
  | [], _ => rfl
  | o :: l, pre => by
    have h0 : (pre ++ o :: l)[pre.length]? = some o := by simp
    simp only [List.length_cons, List.range'_succ, List.filterMap_cons, h0]
    have := fm_aux l (pre ++ [o])
    simp only [List.length_append, List.length_cons, List.length_nil, List.append_assoc, List.cons_append, List.nil_append, Nat.zero_add] at this
    rw [this]
theorem fm_range (l : List Oper) : (List.range l.toArray.size).filterMap (l.toArray[·]?) = l := by
  have := fm_aux l []
  simp only [List.length_nil, List.nil_append] at this
  rw [List.range_eq_range']
  simpa using this
theorem wc_region {id : Nat} {l : List Oper} (h : Wr P l.toArray Q ds l f w) : Wc r P n (.region id l.toArray false) Q ds f w := by
  intro hok a ha
  refine wpIn_region (wr_sound (by simpa [codeOk] using hok) _ ds a f w ha ?_)
  rw [fm_range]; exact h
theorem wc_draw {id : Nat} {ops : Array Oper} (h : ∀ t, Wr P ops Q ds ((Region.schedule (P.follows .mixedOrders) ops t).filterMap (ops[·]?)) f w.drew) : Wc r P n (.region id ops true) Q ds f w := by
  intro hok a ha
  exact wpIn_region_draw fun t => wr_sound (by simpa [codeOk] using hok) _ ds a f _ ha (h t)
end regions

/-! ### Calls -/
/-- A function that the machine enters as it stands. -/
def enterable (P : Program) (g : FuncId) : Bool :=
  match P.funcs[g]? with
  | some fn => !(fn.name == "runtime.NumGoroutine") && fn.body.isSome
  | none => false
class Ent (P : Program) (g : FuncId) : Prop where
  h : enterable P g = true
theorem callFunc_run {P : Program} {g : FuncId} (h : enterable P g = true) (args : Array Value) (w : World) : (callFunc g args).run P w = .ok (.enter g args) w := by
  unfold enterable at h
  split at h
  · rename_i fn hf
    simp only [Bool.and_eq_true, Bool.not_eq_true'] at h
    have hb : fn.body.isNone = false := by cases hb : fn.body <;> simp_all
    simp only [callFunc, Sem.run_bind, run_program, Result.andThen_ok, hf]
    simp [h.1, hb]
  · cases h
/-- The contract of a function: it returns, and its result and the world behind it are as R says. -/
def Ca (P : Program) (g : FuncId) (args : Array Value) (w : World) (R : Value → World → Prop) : Prop :=
  Calls P g args w fun
    | .returned v, w' => R v w'
    | _, _ => False
theorem Ca.mono {P : Program} {g : FuncId} {args : Array Value} {w : World} {R R' : Value → World → Prop} (h : Ca P g args w R) (hr : ∀ v w', R v w' → R' v w') : Ca P g args w R' :=
  Calls.mono h fun e w' => by cases e with
    | returned v => exact hr v w'
    | _ => exact fun h => h
theorem Ca.of_calls {P : Program} {g : FuncId} {args : Array Value} {w : World} {R : Ending → World → Prop} {R' : Value → World → Prop} (h : Calls P g args w R) (hr : ∀ e w', R e w' → ∃ v, e = .returned v ∧ R' v w') : Ca P g args w R' :=
  Calls.mono h fun e w' hR => by obtain ⟨v, rfl, h'⟩ := hr e w' hR; exact h'
theorem Ca.calls {P : Program} {g : FuncId} {args : Array Value} {w : World} {R : Value → World → Prop} (h : Ca P g args w R) : Calls P g args w fun e w' => ∃ v, e = .returned v ∧ R v w' :=
  Calls.mono h fun e w' => by cases e with
    | returned v => exact fun h => ⟨v, rfl, h⟩
    | _ => exact fun h => h.elim
theorem Ca.inn {P : Program} {g : FuncId} {args : Array Value} {w : World} {R : Value → World → Prop} (h : Ca P g args w R) (next : Value → World → Prop) (hn : ∀ v w', R v w' → next v w') :
    CallsIn Fence.wide 0 P g args w (fun
      | .returned v, w'' => next v w''
      | _, _ => False) :=
  callsIn_wide.2 (Ca.mono h hn)
theorem Ca.inn' {P : Program} {g : FuncId} {args : Array Value} {w : World} {R : Value → World → Prop} (h : Ca P g args w R) (R' : Ending → World → Prop) (hn : ∀ v w', R v w' → R' (.returned v) w') : CallsIn Fence.wide 0 P g args w R' :=
  callsIn_wide.2 (Calls.mono h fun e w' => by cases e with
    | returned v => exact hn v w'
    | _ => exact fun h => h.elim)
/-- What a call of a function VALUE comes to. -/
def CallV (P : Program) (fv : Value) (args : Array Value) (w : World) (R : Value → World → Prop) : Prop :=
  upE P R ((do let d ← Deferred.ofValue fv args; invoke d.target d.args : Sem Next).run P w)
theorem CallV.mono {P : Program} {fv : Value} {args : Array Value} {w : World} {R R' : Value → World → Prop} (h : CallV P fv args w R) (hr : ∀ v w', R v w' → R' v w') : CallV P fv args w R' := upE_mono hr h
theorem CallV.up {P : Program} {fv : Value} {args : Array Value} {w : World} {R : Value → World → Prop} (h : CallV P fv args w R) : upE P R ((do let d ← Deferred.ofValue fv args; invoke d.target d.args : Sem Next).run P w) := h
theorem CallV.mk {P : Program} {fv : Value} {args : Array Value} {w : World} {R : Value → World → Prop} (h : upE P R ((do let d ← Deferred.ofValue fv args; invoke d.target d.args : Sem Next).run P w)) : CallV P fv args w R := h
theorem callV_func {P : Program} {g : FuncId} {first cap args : Array Value} {w : World} {R : Value → World → Prop} (he : enterable P g = true) (h : Ca P g (first ++ args ++ cap) w R) : CallV P (.func (.func g) first cap) args w R := by
  unfold CallV
  simp only [Deferred.ofValue, Sem.run_bind, Sem.run_pure, Result.andThen_ok, invoke, callFunc_run he]
  exact h.inn _ fun _ _ h => h

@[reducible] def argEnv (args : List Value) : Env := fun i => args.getD i undef
/-- What a function's result variables hold. -/
def ResV (P : Program) (f : Env) (w : World) : List ResultVar → List Value → Prop
  | [], [] => True
  | .tmp t :: rs, v :: vs => f t = v ∧ ResV P f w rs vs
  | .cell a t :: rs, v :: vs => (∃ ad, f a = .pointer (some ad) ∧ (loadVar t ad).run P w = .ok v w) ∧ ResV P f w rs vs
  | _, _ => False
def packV (vs : List Value) : Value := if h : vs.length = 1 then vs[0] else .tuple vs.toArray
def resOk (n : Nat) : ResultVar → Bool
  | .tmp t => Nat.blt t n
  | .cell a _ => Nat.blt a n
def resF (tmps : Array Value) : ResultVar → Sem Value
  | .tmp t => pure (tmps.getD t undef)
  | .cell a t => do loadVar t (← asAddr (tmps.getD a undef))
theorem resV_run {P : Program} {n : Nat} {f : Env} {w : World} {tmps : Array Value} (hg : ∀ i, i < n → tmps.getD i undef = f i) :
    ∀ (rs : List ResultVar) (vs : List Value), rs.all (resOk n) = true → ResV P f w rs vs → (rs.mapM (resF tmps)).run P w = .ok vs w
  | [], [], _, _ => by simp [List.mapM_nil]
  | [], _ :: _, _, h => h.elim
  | .tmp t :: rs, [], _, h => h.elim
  | .cell a t :: rs, [], _, h => h.elim
  | .tmp t :: rs, v :: vs, hok, h => by
    simp only [List.all_cons, Bool.and_eq_true, resOk] at hok
    have ht : t < n := by simpa using hok.1
    have ih := resV_run hg rs vs hok.2 h.2
    simp only [List.mapM_cons, resF, Sem.run_bind, Sem.run_pure, Result.andThen_ok, ih]
    rw [hg t ht, h.1]
  | .cell a t :: rs, v :: vs, hok, h => by
    simp only [List.all_cons, Bool.and_eq_true, resOk] at hok
    have ht : a < n := by simpa using hok.1
    have ih := resV_run hg rs vs hok.2 h.2
    obtain ⟨⟨ad, h1, h2⟩, _⟩ := h
    simp only [List.mapM_cons, resF, Sem.run_bind, hg a ht, h1, asAddr, Sem.run_pure, Result.andThen_ok, h2, ih]
theorem results_eq (fn : Func) (tmps : Array Value) : results fn tmps = (do let vs ← fn.results.mapM (resF tmps); pure (if h : vs.size = 1 then vs[0] else .tuple vs)) := by
  unfold results
  have : (fun x => match x with
    | .tmp t => pure (tmps.getD t undef)
    | .cell a t => do loadVar t (← asAddr (tmps.getD a undef)) : ResultVar → Sem Value) = resF tmps := by
    funext x; cases x <;> rfl
  rw [← this]
  rfl
theorem results_run {P : Program} {n : Nat} {f : Env} {w : World} {tmps : Array Value} {fn : Func} {vs : List Value} (hg : ∀ i, i < n → tmps.getD i undef = f i)
    (hok : fn.results.toList.all (resOk n) = true) (h : ResV P f w fn.results.toList vs) : (results fn tmps).run P w = .ok (packV vs) w := by
  rw [results_eq, Array.mapM_eq_mapM_toList]
  simp only [Sem.run_bind, Sem.run_map, resV_run hg _ vs hok h, Result.andThen_ok, Sem.run_pure]
  rfl

/-- What is asked where a function's body is left: the marks of its ranges over functions are taken off; its results are as R says. -/
def Leave (P : Program) (fn : Func) (R : Value → World → Prop) : List Deferred → Env → World → Prop
  | [], f, w => ∃ vs, ResV P f w fn.results.toList vs ∧ R (packV vs) w
  | d :: ds, f, w => ∃ b, d.target = .collected b ∧ w.heap[b]? = some (.deferred (some [])) ∧ Leave P fn R ds f (w.putObj b (.deferred none))
def bodyQ (P : Program) (fn : Func) (R : Value → World → Prop) : Post
  | .normal, ds, f, w => Leave P fn R ds f w
  | .ret, ds, f, w => Leave P fn R ds f w
  | _, _, _, _ => False
theorem leavesM_of {P : Program} {fn : Func} {R : Value → World → Prop} {f : Env} {tmps : Array Value} (hg : ∀ i, i < fn.ntmps → tmps.getD i undef = f i)
    (hok : fn.results.toList.all (resOk fn.ntmps) = true) : ∀ (ds : List Deferred) (w : World), Leave P fn R ds f w → LeavesInM Fence.wide 0 P fn tmps (fun
      | .returned v, w' => R v w'
      | _, _ => False) ds .returning w
  | [], w, h => by
    obtain ⟨vs, h1, h2⟩ := h
    exact ⟨packV vs, results_run hg hok h1, h2⟩
  | d :: ds, w, h => by
    obtain ⟨b, h1, h2, h3⟩ := h
    exact ⟨by simp, .inl ⟨b, _, h1, run_takeDeferred h2, leavesM_of hg hok ds _ h3⟩⟩
def funcOk (fn : Func) (k : Nat) : Bool := (match fn.body with | some c => codeOk fn.ntmps c | none => false) && (fn.results.toList.all (resOk fn.ntmps) && Nat.ble k fn.ntmps)
/-- A FUNCTION's CONTRACT FROM ITS BODY. -/
theorem ca_of_body {P : Program} {g : FuncId} {fn : Func} {c : Code} {args : List Value} {w : World} {R : Value → World → Prop}
    (hf : P.funcs[g]? = some fn) (hb : fn.body = some c) (hok : funcOk fn args.length = true)
    (h : Wc none P fn.ntmps c (bodyQ P fn R) [] (argEnv args) w) : Ca P g args.toArray w R := by
  simp only [funcOk, hb, Bool.and_eq_true] at hok
  obtain ⟨hc, hr, hk⟩ := hok
  have hk' : args.length ≤ fn.ntmps := by simpa using hk
  refine callsIn_wide.1 (callsIn_of_wp_marks (F := Fence.wide) (n := 0) hf hb trivial ?_)
  have hrp : Rp fn.ntmps [] { tmps := args.toArray ++ Array.replicate (fn.ntmps - args.toArray.size) undef, defers := [] } (argEnv args) := by
    refine ⟨by simp; omega, rfl, fun i hi => ?_⟩
    simp only [argEnv, Array.getD_eq_getD_getElem?, List.getD_eq_getElem?_getD, Array.getElem?_append, List.size_toArray]
    split
    · simp
    · rename_i hge
      rw [List.getElem?_eq_none (by omega)]
      simp only [Array.getElem?_replicate]
      split <;> rfl
  refine wpIn_mono (h hc _ hrp) ?_
  rintro e a' w' ⟨ds', f', hr', hq⟩
  cases e with
  | normal =>
    have hl := leavesM_of (fun i hi => hr'.get i hi) hr ds' w' hq
    rw [← hr'.dfr] at hl; exact hl
  | ret =>
    have hl := leavesM_of (fun i hi => hr'.get i hi) hr ds' w' hq
    rw [← hr'.dfr] at hl; exact hl
  | _ => exact hq.elim

/-! ### The steps of a region -/
section steps
variable {P : Program} {ops : Array Oper} {Q : Post} {ds : List Deferred} {f : Env} {w w' : World} {rest : List Oper} {o : Oper} {v : Value}
theorem wr_nil (h : Q .normal ds f w) : Wr P ops Q ds [] f w := h
theorem wr_step (hw : wantedE ops f o = true) (h : upE P (fun v w' => Wr P ops Q ds rest (setO f o.dst v) w') ((execOp (ev f) o).run P w)) : Wr P ops Q ds (o :: rest) f w := by
  show (bif wantedE ops f o then _ else _)
  rw [hw]; exact h
theorem wr_skip {d : Option Nat} {op : Op} {ty : TypeId} {pos : String} {af : Array Edge} {g : Option (Nat × Bool)} (hw : wantedE ops f ⟨d, op, ty, pos, af, g⟩ = false) (k : Wr P ops Q ds rest (setO f d undef) w) : Wr P ops Q ds (⟨d, op, ty, pos, af, g⟩ :: rest) f w := by
  show (bif wantedE ops f ⟨d, op, ty, pos, af, g⟩ then _ else _)
  rw [hw]; exact k
theorem wr_val (hw : wantedE ops f o = true) (h : (execOp (ev f) o).run P w = .ok (.value v) w') (k : Wr P ops Q ds rest (setO f o.dst v) w') : Wr P ops Q ds (o :: rest) f w :=
  wr_step hw (by rw [h]; exact k)
theorem wr_eff (hw : wantedE ops f o = true) (h : (execOp (ev f) o).run P w = .ok .skip w') (k : Wr P ops Q ds rest (setO f o.dst undef) w') : Wr P ops Q ds (o :: rest) f w :=
  wr_step hw (by rw [h]; exact k)
/-- The middle of a region: what holds there. -/
theorem wr_cut (l1 : List Oper) {l2 : List Oper} (J : Env → World → Prop) (h1 : Wr P ops (fun e ds' f' w' => match e with | .normal => ds' = ds ∧ J f' w' | _ => False) ds l1 f w)
    (h2 : ∀ f' w', J f' w' → Wr P ops Q ds l2 f' w') : Wr P ops Q ds (l1 ++ l2) f w := by
  induction l1 generalizing f w with
  | nil => exact h2 _ _ h1.2
  | cons o l1 ih =>
    show (bif wantedE ops f o then _ else _)
    have h1' : (bif wantedE ops f o then _ else _) := h1
    cases hw : wantedE ops f o with
    | false => rw [hw] at h1'; exact ih h1'
    | true => rw [hw] at h1'; exact upE_mono (fun v w h => ih h) h1'
theorem wr_forget {l : List Oper} (sl : List (Nat × Value)) (hl : ∀ p ∈ sl, f p.1 = p.2) (h : ∀ f0, Wr P ops Q ds l (setL f0 sl) w) : Wr P ops Q ds l f w := by
  have := h f
  rwa [setL_self f sl hl] at this
end steps
attribute [irreducible] Wr Wc CallV Ca
end Go.V
