/- A calculus over the walk's own rules: frames as functions from slots to values; a region's operations one by one; calls of functions and of function values; loops; a range over a function. Nothing of a program stands here. -/
import Derived.RangeFuncLeaves
import Derived.RangeFuncRecord
import Derived.Below
import Derived.KernelRfl
import Derived.Orders
import Derived.IntWalk
import Derived.Laws.BitsAllLaws
import Derived.Laws.World
import Derived.Laws.Strings
import Derived.Laws.Append
import Derived.Laws.AppendOwn
import Derived.Laws.AppendOwnNone
import Derived.Laws.MakeOwn
import Derived.Laws.OwnMore
import Derived.Laws.BytesString
import Derived.Laws.Strings2
import Derived.Laws.Strings3
import Derived.Laws.Concat
import Derived.Laws.Cells
import Derived.Laws.CopyRow
import Derived.WalkArith
namespace Go.V
open Go.RowKit
set_option linter.unusedVariables false
set_option linter.unusedSimpArgs false

abbrev Env := Nat → Value
@[reducible] def Env.set (f : Env) (d : Nat) (v : Value) : Env := fun i => match Nat.beq i d with
  | true => v
  | false => f i
@[reducible] def pickB (t : Bool) (a b : Value) : Value := match t with
  | true => a
  | false => b
@[reducible] def setO (f : Env) : Option Nat → Value → Env
  | none, _ => f
  | some d, v => f.set d v
@[reducible] def ev (f : Env) : Operand → Value
  | .tmp t => f t
  | .const v => v
  | .global g => .pointer (some ⟨g, 0, none⟩)
  | .func g => .func (.func g) #[] #[]
theorem Env.set_same (f : Env) (d : Nat) (v : Value) : f.set d v d = v := by
  have : Nat.beq d d = true := Nat.beq_refl d
  simp only [Env.set, this]
theorem Env.set_ne (f : Env) {d i : Nat} (v : Value) (h : i ≠ d) : f.set d v i = f i := by
  have : Nat.beq i d = false := by
    cases hb : Nat.beq i d with
    | false => rfl
    | true => exact absurd (Nat.eq_of_beq_eq_true hb) h
  simp only [Env.set, this]
theorem Env.set_self (f : Env) (d : Nat) : f.set d (f d) = f := by
  funext i
  by_cases h : i = d
  · subst h; exact Env.set_same _ _ _
  · exact Env.set_ne _ _ h
/-- A frame with some of its slots named, over one of which nothing is known. -/
@[reducible] def setL (f : Env) : List (Nat × Value) → Env
  | [] => f
  | (d, v) :: l => (setL f l).set d v
theorem setL_self (f : Env) : ∀ l : List (Nat × Value), (∀ p ∈ l, f p.1 = p.2) → setL f l = f
  | [], _ => rfl
  | (d, v) :: l, h => by
    have h1 : f d = v := h (d, v) (by simp)
    show (setL f l).set d v = f
    rw [setL_self f l (fun p hp => h p (by simp [hp])), ← h1, Env.set_self]

abbrev F0 (r : Option Nat) : Fence := { Fence.wide with round := r }

def opdOk (n : Nat) : Operand → Bool
  | .tmp t => Nat.blt t n
  | _ => true
def dstOk (n : Nat) : Option Nat → Bool
  | some d => Nat.blt d n
  | none => true
def opOk : Op → Bool
  | .defer _ | .go _ | .select .. => false
  | _ => true
def operOk (n : Nat) (o : Oper) : Bool := o.op.operands.toList.all (opdOk n) && (dstOk n o.dst && opOk o.op)
def codeOk (n : Nat) : Code → Bool
  | .region _ ops _ => ops.toList.all (operOk n)
  | .seq a b => codeOk n a && codeOk n b
  | .cond c a b => opdOk n c && (codeOk n a && codeOk n b)
  | .block _ c | .loop c | .scope c => codeOk n c
  | .rangeFunc g ps a b => opdOk n g && (ps.toList.all (Nat.blt · n) && (codeOk n a && codeOk n b))
  | _ => true

structure Rp (n : Nat) (ds : List Deferred) (a : Act) (f : Env) : Prop where
  size : a.tmps.size = n
  dfr : a.defers = ds
  get : ∀ i, i < n → a.tmps.getD i undef = f i
theorem Rp.eval {n : Nat} {ds : List Deferred} {a : Act} {f : Env} (h : Rp n ds a f) {x : Operand} (hx : opdOk n x = true) : a.eval x = ev f x := by
  cases x with
  | tmp t => exact h.get t (by simpa [opdOk] using hx)
  | const v => rfl
  | global g => rfl
  | func g => rfl
theorem Rp.put {n : Nat} {ds : List Deferred} {a : Act} {f : Env} (h : Rp n ds a f) {d : Option Nat} (hd : dstOk n d = true) (v : Value) : Rp n ds (a.put d v) (setO f d v) := by
  cases d with
  | none => exact h
  | some d =>
    have hd' : d < n := by simpa [dstOk] using hd
    refine ⟨by simpa [Act.put] using h.size, h.dfr, fun i hi => ?_⟩
    have hs := h.size
    simp only [Act.put, setO]
    by_cases e : i = d
    · subst e
      rw [Env.set_same]; simp [Array.getD_eq_getD_getElem?, hs, hi]
    · rw [Env.set_ne _ _ e, ← h.get i hi]
      simp [Array.getD_eq_getD_getElem?, Array.getElem?_setIfInBounds, Ne.symm e]

abbrev Post := Exit → List Deferred → Env → World → Prop
def QA (n : Nat) (Q : Post) : Exit → Act → World → Prop := fun e a w => ∃ ds f, Rp n ds a f ∧ Q e ds f w
def thenE (K : List Deferred → Env → World → Prop) (Q : Post) : Post
  | .normal, ds, f, w => K ds f w
  | e, ds, f, w => Q e ds f w
def inBlockE (id : Nat) (Q : Post) : Post
  | .exit id', ds, f, w => if id' = id then Q .normal ds f w else Q (.exit id') ds f w
  | e, ds, f, w => Q e ds f w

/-- The walk of a piece of code from a frame read as a function. -/
def Wc (r : Option Nat) (P : Program) (n : Nat) (c : Code) (Q : Post) (ds : List Deferred) (f : Env) (w : World) : Prop :=
  codeOk n c = true → ∀ a, Rp n ds a f → c.wpIn (F0 r) 0 P (QA n Q) a w

theorem Wc.up {r : Option Nat} {P : Program} {n : Nat} {c : Code} {Q : Post} {ds : List Deferred} {f : Env} {w : World} (h : Wc r P n c Q ds f w) (hok : codeOk n c = true) (a : Act) (ha : Rp n ds a f) : c.wpIn (F0 r) 0 P (QA n Q) a w := h hok a ha
theorem Wc.mk {r : Option Nat} {P : Program} {n : Nat} {c : Code} {Q : Post} {ds : List Deferred} {f : Env} {w : World} (h : codeOk n c = true → ∀ a, Rp n ds a f → c.wpIn (F0 r) 0 P (QA n Q) a w) : Wc r P n c Q ds f w := h
section rules
variable {r : Option Nat} {P : Program} {n : Nat} {Q : Post} {ds : List Deferred} {f : Env} {w : World}
theorem Wc.mono {c : Code} {Q' : Post} (h : Wc r P n c Q ds f w) (hq : ∀ e ds f w, Q e ds f w → Q' e ds f w) : Wc r P n c Q' ds f w :=
  fun hok a ha => wpIn_mono (h hok a ha) fun _ _ _ ⟨ds', f', hr, q⟩ => ⟨ds', f', hr, hq _ _ _ _ q⟩
theorem wc_skip (h : Q .normal ds f w) : Wc r P n .skip Q ds f w := fun _ a ha => wpIn_skip ⟨ds, f, ha, h⟩
theorem wc_label {l : Nat} (h : Q .normal ds f w) : Wc r P n (.label l) Q ds f w := fun _ a ha => wpIn_label ⟨ds, f, ha, h⟩
theorem wc_exit {id : Nat} (h : Q (.exit id) ds f w) : Wc r P n (.exit id) Q ds f w := fun _ a ha => wpIn_exit ⟨ds, f, ha, h⟩
theorem wc_ret (h : Q .ret ds f w) : Wc r P n .ret Q ds f w := fun _ a ha => wpIn_ret ⟨ds, f, ha, h⟩
theorem wc_seq {x y : Code} (h : Wc r P n x (thenE (Wc r P n y Q) Q) ds f w) : Wc r P n (.seq x y) Q ds f w := by
  intro hok a ha
  simp only [codeOk, Bool.and_eq_true] at hok
  refine wpIn_seq (wpIn_mono (h hok.1 a ha) ?_)
  rintro e a' w' ⟨ds', f', hr, hq⟩
  cases e with
  | normal => exact hq hok.2 a' hr
  | _ => exact ⟨ds', f', hr, hq⟩
theorem wc_cond {c : Operand} {x y : Code} {t : Bool} (hc : ev f c = .bool t) (h : Wc r P n (bif t then x else y) Q ds f w) :
    Wc r P n (.cond c x y) Q ds f w := by
  intro hok a ha
  simp only [codeOk, Bool.and_eq_true] at hok
  refine wpIn_cond (t := t) ((ha.eval hok.1).trans hc) ?_
  cases t
  · exact h hok.2.2 a ha
  · exact h hok.2.1 a ha
theorem wc_true {c : Operand} {x y : Code} (hc : ev f c = .bool true) (h : Wc r P n x Q ds f w) : Wc r P n (.cond c x y) Q ds f w := wc_cond hc h
theorem wc_false {c : Operand} {x y : Code} (hc : ev f c = .bool false) (h : Wc r P n y Q ds f w) : Wc r P n (.cond c x y) Q ds f w := wc_cond hc h
theorem wc_split {c : Operand} {x y : Code} {t : Bool} (hc : ev f c = .bool t) (h1 : t = true → Wc r P n x Q ds f w) (h2 : t = false → Wc r P n y Q ds f w) :
    Wc r P n (.cond c x y) Q ds f w := by
  cases t
  · exact wc_false hc (h2 rfl)
  · exact wc_true hc (h1 rfl)
/-- A test of a decided proposition. -/
theorem wc_if {c : Operand} {x y : Code} {p : Prop} [Decidable p] (hc : ev f c = .bool (decide p)) (h1 : p → Wc r P n x Q ds f w) (h2 : ¬ p → Wc r P n y Q ds f w) :
    Wc r P n (.cond c x y) Q ds f w :=
  wc_split hc (fun h => h1 (of_decide_eq_true h)) (fun h => h2 (of_decide_eq_false h))
theorem wc_block {id : Nat} {c : Code} (h : Wc r P n c (inBlockE id Q) ds f w) : Wc r P n (.block id c) Q ds f w := by
  intro hok a ha
  refine wpIn_block (wpIn_mono (h hok a ha) ?_)
  rintro e a' w' ⟨ds', f', hr, hq⟩
  cases e with
  | exit id' =>
    simp only [inBlockE] at hq
    simp only [Exit.inBlock]
    split
    · rename_i e; rw [if_pos e] at hq; exact ⟨ds', f', hr, hq⟩
    · rename_i e; rw [if_neg e] at hq; exact ⟨ds', f', hr, hq⟩
  | _ => exact ⟨ds', f', hr, hq⟩
theorem wc_loop {c : Code} (I : Nat → List Deferred → Env → World → Prop) (m0 : Nat) (h0 : I m0 ds f w)
    (round : ∀ m ds f w, I m ds f w → Wc r P n c (thenE (fun ds' f' w' => ∃ m', m' < m ∧ I m' ds' f' w') Q) ds f w) : Wc r P n (.loop c) Q ds f w := by
  intro hok a ha b k cs hro hb hr
  have key : ∀ j ds f a w, Rp n ds a f → I j ds f w →
      ∃ e a' w', QA n Q e a' w' ∧ ArrivesIn (Machine.fenced P (F0 r)) P (lone (b.atR a (.code c :: .inLoop c :: k)) cs w) b k cs e a' w' := by
    intro j
    induction j using Nat.strongRecOn with
    | _ j ih =>
      intro ds f a w ha hI
      obtain ⟨e, a₁, w₁, ⟨ds', f', hr', hq⟩, harr⟩ := round j ds f w hI hok a ha b (.inLoop c :: k) cs hro hb hr
      cases e with
      | normal =>
        obtain ⟨m', hlt, hI₁⟩ := hq
        obtain ⟨e₂, a₂, w₂, hq₂, harr₂⟩ := ih m' hlt ds' f' a₁ w₁ hr' hI₁
        exact ⟨e₂, a₂, w₂, hq₂, .of_steps (StepsIn.trans harr (.one (fenced_calm hb hr rfl) stepR_inLoop)) harr₂⟩
      | exit id => exact ⟨_, a₁, w₁, ⟨ds', f', hr', hq⟩, .pass (x := .inLoop c) rfl (fun _ _ => .inl (by simp)) harr⟩
      | goto l => exact ⟨_, a₁, w₁, ⟨ds', f', hr', hq⟩, .pass (x := .inLoop c) rfl (fun _ _ => .inl (by simp)) harr⟩
      | ret => exact ⟨_, a₁, w₁, ⟨ds', f', hr', hq⟩, .pass (x := .inLoop c) rfl (fun _ _ => .inl (by simp)) harr⟩
      | panic ch => exact ⟨_, a₁, w₁, ⟨ds', f', hr', hq⟩, .pass (x := .inLoop c) rfl (fun _ _ => .inl (by simp)) harr⟩
      | outgrown => exact ⟨_, a₁, w₁, ⟨ds', f', hr', hq⟩, .pass (x := .inLoop c) rfl (fun _ _ => .inl (by simp)) harr⟩
  obtain ⟨e, a', w', hq, harr⟩ := key m0 ds f a w ha h0
  exact ⟨e, a', w', hq, .of_steps (.one (fenced_calm hb hr rfl) stepR_loop) harr⟩
/-- Of a frame only what is named is kept. -/
theorem wc_forget {c : Code} (l : List (Nat × Value)) (hl : ∀ p ∈ l, f p.1 = p.2) (h : ∀ f0, Wc r P n c Q ds (setL f0 l) w) : Wc r P n c Q ds f w := by
  have := h f
  rwa [setL_self f l hl] at this
end rules

/-! ### Operations -/
def wantedE (ops : Array Oper) (f : Env) (o : Oper) : Bool :=
  match o.guard with
  | none => true
  | some (j, want) =>
    match (ops[j]?).bind (·.dst) with
    | some t => (match f t with | .bool b => b == want | _ => false)
    | none => false
def upE (P : Program) (next : Value → World → Prop) : Result Next → Prop
  | .ok (.value v) w' => next v w'
  | .ok .skip w' => next undef w'
  | .ok (.enter g args) w' => CallsIn Fence.wide 0 P g args w' fun
      | .returned v, w'' => next v w''
      | _, _ => False
  | .ok (.round l g tmps assign body) w' => RoundIn Fence.wide 0 P l g tmps assign body w' fun
      | .returned v, w'' => next v w''
      | _, _ => False
  | _ => False
theorem upE_mono {P : Program} {next next' : Value → World → Prop} (hn : ∀ v w, next v w → next' v w) : ∀ {x : Result Next}, upE P next x → upE P next' x := by
  intro x h
  unfold upE at h ⊢
  split at h
  · exact hn _ _ h
  · exact hn _ _ h
  · refine CallsIn.mono h ?_
    intro e w'; cases e with
    | returned v => exact hn _ _
    | _ => exact fun h => h
  · refine RoundIn.mono h ?_
    intro e w'; cases e with
    | returned v => exact hn _ _
    | _ => exact fun h => h
  · exact h.elim
def Wr (P : Program) (ops : Array Oper) (Q : Post) (ds : List Deferred) : List Oper → Env → World → Prop
  | [], f, w => Q .normal ds f w
  | o :: rest, f, w =>
    bif wantedE ops f o then upE P (fun v w' => Wr P ops Q ds rest (setO f o.dst v) w') ((execOp (ev f) o).run P w) else Wr P ops Q ds rest (setO f o.dst undef) w

theorem wanted_eq {n : Nat} {ds : List Deferred} {a : Act} {f : Env} (h : Rp n ds a f) {ops : Array Oper} (hops : ops.toList.all (operOk n) = true) (o : Oper) :
    Region.wanted o (yielded ops a.tmps) = wantedE ops f o := by
  unfold Region.wanted wantedE
  cases o.guard with
  | none => rfl
  | some p =>
    obtain ⟨j, want⟩ := p
    simp only [yielded]
    cases hj : ops[j]? with
    | none => rfl
    | some oj =>
      simp only [Option.bind_some]
      cases hd : oj.dst with
      | none => rfl
      | some t =>
        simp only [Option.bind_some]
        have hmem : oj ∈ ops.toList := by
          obtain ⟨hlt, he⟩ := Array.getElem?_eq_some_iff.1 hj
          rw [← he]; exact Array.getElem_mem_toList hlt
        have hok := List.all_eq_true.1 hops oj hmem
        simp only [operOk, Bool.and_eq_true, hd, dstOk] at hok
        have ht : t < n := by simpa using hok.2.1
        have hg := h.get t ht
        have hs := h.size
        have : a.tmps[t]? = some (f t) := by
          rw [← hg]; simp [Array.getD_eq_getD_getElem?, hs, ht]
        rw [this]
        cases f t <;> simp
theorem exec_eq {n : Nat} {ds : List Deferred} {a : Act} {f : Env} (h : Rp n ds a f) {o : Oper} (ho : operOk n o = true) (r : Option Nat) :
    o.semAt r a.eval = execOp (ev f) o := by
  simp only [operOk, Bool.and_eq_true] at ho
  obtain ⟨h1, _, h3⟩ := ho
  rw [Oper.semAt_eq r a.eval o (fun c hc => by rw [hc] at h3; cases h3)]
  exact execOp_congr o (fun cs b hc => by rw [hc] at h3; cases h3) fun x hx => h.eval (List.all_eq_true.1 h1 x (by simpa using hx))

theorem wr_sound {r : Option Nat} {P : Program} {n : Nat} {Q : Post} {ops : Array Oper} (hops : ops.toList.all (operOk n) = true) :
    ∀ (is : List Nat) (ds : List Deferred) (a : Act) (f : Env) (w : World), Rp n ds a f → Wr P ops Q ds (is.filterMap (ops[·]?)) f w → wpOpsIn (F0 r) 0 P ops (QA n Q) is a w := by
  intro is
  induction is with
  | nil => intro ds a f w ha h; exact ⟨ds, f, ha, h⟩
  | cons i is ih =>
    intro ds a f w ha h
    simp only [wpOpsIn]
    cases ho : ops[i]? with
    | none =>
      simp only [List.filterMap_cons, ho] at h
      exact ih ds a f w ha h
    | some o =>
      simp only [List.filterMap_cons, ho, Wr] at h
      have hmem : o ∈ ops.toList := by
        obtain ⟨hlt, he⟩ := Array.getElem?_eq_some_iff.1 ho
        rw [← he]; exact Array.getElem_mem_toList hlt
      have hok := List.all_eq_true.1 hops o hmem
      have hd : dstOk n o.dst = true := by simp only [operOk, Bool.and_eq_true] at hok; exact hok.2.1
      dsimp only
      rw [wanted_eq ha hops o]
      cases hw : wantedE ops f o with
      | false =>
        rw [hw] at h
        exact ⟨fun _ _ => trivial, ih ds _ _ w (ha.put hd _) h⟩
      | true =>
        rw [hw] at h
        simp only [cond_true] at h
        refine ⟨fun _ _ => trivial, ?_⟩
        rw [exec_eq ha hok]
        generalize (execOp (ev f) o).run P w = x at h
        unfold upE at h
        split at h
        · exact ih ds _ _ _ (ha.put hd _) h
        · exact ih ds _ _ _ (ha.put hd _) h
        · refine ⟨(fun h => by cases h), CallsIn.mono h ?_⟩
          intro e w''; cases e with
          | returned v => exact fun h => ih ds _ _ _ (ha.put hd _) h
          | _ => exact fun h => h.elim
        · refine ⟨(fun h => by cases h), RoundIn.mono h ?_⟩
          intro e w''; cases e with
          | returned v => exact fun h => ih ds _ _ _ (ha.put hd _) h
          | _ => exact fun h => h.elim
        · exact h.elim

section regions
variable {r : Option Nat} {P : Program} {n : Nat} {Q : Post} {ds : List Deferred} {f : Env} {w : World}
theorem fm_aux : ∀ (l pre : List Oper), (List.range' pre.length l.length).filterMap ((pre ++ l)[·]?) = l
  | [], _ => rfl
  | o :: l, pre => by
    have h0 : (pre ++ o :: l)[pre.length]? = some o := by simp
    simp only [List.length_cons, List.range'_succ, List.filterMap_cons, h0]
    have := fm_aux l (pre ++ [o])
    simp only [List.length_append, List.length_cons, List.length_nil, List.append_assoc, List.cons_append, List.nil_append, Nat.zero_add] at this
    rw [this]
theorem fm_range (l : List Oper) : (List.range l.toArray.size).filterMap (l.toArray[·]?) = l := by
  have := fm_aux l []
  simp only [List.length_nil, List.nil_append] at this
  rw [List.range_eq_range']
  simpa using this
theorem wc_region {id : Nat} {l : List Oper} (h : Wr P l.toArray Q ds l f w) : Wc r P n (.region id l.toArray false) Q ds f w := by
  intro hok a ha
  refine wpIn_region (wr_sound (by simpa [codeOk] using hok) _ ds a f w ha ?_)
  rw [fm_range]; exact h
theorem wc_draw {id : Nat} {ops : Array Oper} (h : ∀ t, Wr P ops Q ds ((Region.schedule (P.follows .mixedOrders) ops t).filterMap (ops[·]?)) f w.drew) : Wc r P n (.region id ops true) Q ds f w := by
  intro hok a ha
  exact wpIn_region_draw fun t => wr_sound (by simpa [codeOk] using hok) _ ds a f _ ha (h t)
end regions

/-! ### Calls -/
/-- A function that the machine enters as it stands. -/
def enterable (P : Program) (g : FuncId) : Bool :=
  match P.funcs[g]? with
  | some fn => !(fn.name == "runtime.NumGoroutine") && fn.body.isSome
  | none => false
class Ent (P : Program) (g : FuncId) : Prop where
  h : enterable P g = true
theorem callFunc_run {P : Program} {g : FuncId} (h : enterable P g = true) (args : Array Value) (w : World) : (callFunc g args).run P w = .ok (.enter g args) w := by
  unfold enterable at h
  split at h
  · rename_i fn hf
    simp only [Bool.and_eq_true, Bool.not_eq_true'] at h
    have hb : fn.body.isNone = false := by cases hb : fn.body <;> simp_all
    simp only [callFunc, Sem.run_bind, run_program, Result.andThen_ok, hf]
    simp [h.1, hb]
  · cases h
/-- The contract of a function: it returns, and its result and the world behind it are as R says. -/
def Ca (P : Program) (g : FuncId) (args : Array Value) (w : World) (R : Value → World → Prop) : Prop :=
  Calls P g args w fun
    | .returned v, w' => R v w'
    | _, _ => False
theorem Ca.mono {P : Program} {g : FuncId} {args : Array Value} {w : World} {R R' : Value → World → Prop} (h : Ca P g args w R) (hr : ∀ v w', R v w' → R' v w') : Ca P g args w R' :=
  Calls.mono h fun e w' => by cases e with
    | returned v => exact hr v w'
    | _ => exact fun h => h
theorem Ca.of_calls {P : Program} {g : FuncId} {args : Array Value} {w : World} {R : Ending → World → Prop} {R' : Value → World → Prop} (h : Calls P g args w R) (hr : ∀ e w', R e w' → ∃ v, e = .returned v ∧ R' v w') : Ca P g args w R' :=
  Calls.mono h fun e w' hR => by obtain ⟨v, rfl, h'⟩ := hr e w' hR; exact h'
theorem Ca.calls {P : Program} {g : FuncId} {args : Array Value} {w : World} {R : Value → World → Prop} (h : Ca P g args w R) : Calls P g args w fun e w' => ∃ v, e = .returned v ∧ R v w' :=
  Calls.mono h fun e w' => by cases e with
    | returned v => exact fun h => ⟨v, rfl, h⟩
    | _ => exact fun h => h.elim
theorem Ca.inn {P : Program} {g : FuncId} {args : Array Value} {w : World} {R : Value → World → Prop} (h : Ca P g args w R) (next : Value → World → Prop) (hn : ∀ v w', R v w' → next v w') :
    CallsIn Fence.wide 0 P g args w (fun
      | .returned v, w'' => next v w''
      | _, _ => False) :=
  callsIn_wide.2 (Ca.mono h hn)
theorem Ca.inn' {P : Program} {g : FuncId} {args : Array Value} {w : World} {R : Value → World → Prop} (h : Ca P g args w R) (R' : Ending → World → Prop) (hn : ∀ v w', R v w' → R' (.returned v) w') : CallsIn Fence.wide 0 P g args w R' :=
  callsIn_wide.2 (Calls.mono h fun e w' => by cases e with
    | returned v => exact hn v w'
    | _ => exact fun h => h.elim)
/-- What a call of a function VALUE comes to. -/
def CallV (P : Program) (fv : Value) (args : Array Value) (w : World) (R : Value → World → Prop) : Prop :=
  upE P R ((do let d ← Deferred.ofValue fv args; invoke d.target d.args : Sem Next).run P w)
theorem CallV.mono {P : Program} {fv : Value} {args : Array Value} {w : World} {R R' : Value → World → Prop} (h : CallV P fv args w R) (hr : ∀ v w', R v w' → R' v w') : CallV P fv args w R' := upE_mono hr h
theorem CallV.up {P : Program} {fv : Value} {args : Array Value} {w : World} {R : Value → World → Prop} (h : CallV P fv args w R) : upE P R ((do let d ← Deferred.ofValue fv args; invoke d.target d.args : Sem Next).run P w) := h
theorem CallV.mk {P : Program} {fv : Value} {args : Array Value} {w : World} {R : Value → World → Prop} (h : upE P R ((do let d ← Deferred.ofValue fv args; invoke d.target d.args : Sem Next).run P w)) : CallV P fv args w R := h
theorem callV_func {P : Program} {g : FuncId} {first cap args : Array Value} {w : World} {R : Value → World → Prop} (he : enterable P g = true) (h : Ca P g (first ++ args ++ cap) w R) : CallV P (.func (.func g) first cap) args w R := by
  unfold CallV
  simp only [Deferred.ofValue, Sem.run_bind, Sem.run_pure, Result.andThen_ok, invoke, callFunc_run he]
  exact h.inn _ fun _ _ h => h

@[reducible] def argEnv (args : List Value) : Env := fun i => args.getD i undef
/-- What a function's result variables hold. -/
def ResV (P : Program) (f : Env) (w : World) : List ResultVar → List Value → Prop
  | [], [] => True
  | .tmp t :: rs, v :: vs => f t = v ∧ ResV P f w rs vs
  | .cell a t :: rs, v :: vs => (∃ ad, f a = .pointer (some ad) ∧ (loadVar t ad).run P w = .ok v w) ∧ ResV P f w rs vs
  | _, _ => False
def packV (vs : List Value) : Value := if h : vs.length = 1 then vs[0] else .tuple vs.toArray
def resOk (n : Nat) : ResultVar → Bool
  | .tmp t => Nat.blt t n
  | .cell a _ => Nat.blt a n
def resF (tmps : Array Value) : ResultVar → Sem Value
  | .tmp t => pure (tmps.getD t undef)
  | .cell a t => do loadVar t (← asAddr (tmps.getD a undef))
theorem resV_run {P : Program} {n : Nat} {f : Env} {w : World} {tmps : Array Value} (hg : ∀ i, i < n → tmps.getD i undef = f i) :
    ∀ (rs : List ResultVar) (vs : List Value), rs.all (resOk n) = true → ResV P f w rs vs → (rs.mapM (resF tmps)).run P w = .ok vs w
  | [], [], _, _ => by simp [List.mapM_nil]
  | [], _ :: _, _, h => h.elim
  | .tmp t :: rs, [], _, h => h.elim
  | .cell a t :: rs, [], _, h => h.elim
  | .tmp t :: rs, v :: vs, hok, h => by
    simp only [List.all_cons, Bool.and_eq_true, resOk] at hok
    have ht : t < n := by simpa using hok.1
    have ih := resV_run hg rs vs hok.2 h.2
    simp only [List.mapM_cons, resF, Sem.run_bind, Sem.run_pure, Result.andThen_ok, ih]
    rw [hg t ht, h.1]
  | .cell a t :: rs, v :: vs, hok, h => by
    simp only [List.all_cons, Bool.and_eq_true, resOk] at hok
    have ht : a < n := by simpa using hok.1
    have ih := resV_run hg rs vs hok.2 h.2
    obtain ⟨⟨ad, h1, h2⟩, _⟩ := h
    simp only [List.mapM_cons, resF, Sem.run_bind, hg a ht, h1, asAddr, Sem.run_pure, Result.andThen_ok, h2, ih]
theorem results_eq (fn : Func) (tmps : Array Value) : results fn tmps = (do let vs ← fn.results.mapM (resF tmps); pure (if h : vs.size = 1 then vs[0] else .tuple vs)) := by
  unfold results
  have : (fun x => match x with
    | .tmp t => pure (tmps.getD t undef)
    | .cell a t => do loadVar t (← asAddr (tmps.getD a undef)) : ResultVar → Sem Value) = resF tmps := by
    funext x; cases x <;> rfl
  rw [← this]
  rfl
theorem results_run {P : Program} {n : Nat} {f : Env} {w : World} {tmps : Array Value} {fn : Func} {vs : List Value} (hg : ∀ i, i < n → tmps.getD i undef = f i)
    (hok : fn.results.toList.all (resOk n) = true) (h : ResV P f w fn.results.toList vs) : (results fn tmps).run P w = .ok (packV vs) w := by
  rw [results_eq, Array.mapM_eq_mapM_toList]
  simp only [Sem.run_bind, Sem.run_map, resV_run hg _ vs hok h, Result.andThen_ok, Sem.run_pure]
  rfl

/-- What is asked where a function's body is left: the marks of its ranges over functions are taken off; its results are as R says. -/
def Leave (P : Program) (fn : Func) (R : Value → World → Prop) : List Deferred → Env → World → Prop
  | [], f, w => ∃ vs, ResV P f w fn.results.toList vs ∧ R (packV vs) w
  | d :: ds, f, w => ∃ b, d.target = .collected b ∧ w.heap[b]? = some (.deferred (some [])) ∧ Leave P fn R ds f (w.putObj b (.deferred none))
def bodyQ (P : Program) (fn : Func) (R : Value → World → Prop) : Post
  | .normal, ds, f, w => Leave P fn R ds f w
  | .ret, ds, f, w => Leave P fn R ds f w
  | _, _, _, _ => False
theorem leavesM_of {P : Program} {fn : Func} {R : Value → World → Prop} {f : Env} {tmps : Array Value} (hg : ∀ i, i < fn.ntmps → tmps.getD i undef = f i)
    (hok : fn.results.toList.all (resOk fn.ntmps) = true) : ∀ (ds : List Deferred) (w : World), Leave P fn R ds f w → LeavesInM Fence.wide 0 P fn tmps (fun
      | .returned v, w' => R v w'
      | _, _ => False) ds .returning w
  | [], w, h => by
    obtain ⟨vs, h1, h2⟩ := h
    exact ⟨packV vs, results_run hg hok h1, h2⟩
  | d :: ds, w, h => by
    obtain ⟨b, h1, h2, h3⟩ := h
    exact ⟨by simp, .inl ⟨b, _, h1, run_takeDeferred h2, leavesM_of hg hok ds _ h3⟩⟩
def funcOk (fn : Func) (k : Nat) : Bool := (match fn.body with | some c => codeOk fn.ntmps c | none => false) && (fn.results.toList.all (resOk fn.ntmps) && Nat.ble k fn.ntmps)
/-- A FUNCTION's CONTRACT FROM ITS BODY. -/
theorem ca_of_body {P : Program} {g : FuncId} {fn : Func} {c : Code} {args : List Value} {w : World} {R : Value → World → Prop}
    (hf : P.funcs[g]? = some fn) (hb : fn.body = some c) (hok : funcOk fn args.length = true)
    (h : Wc none P fn.ntmps c (bodyQ P fn R) [] (argEnv args) w) : Ca P g args.toArray w R := by
  simp only [funcOk, hb, Bool.and_eq_true] at hok
  obtain ⟨hc, hr, hk⟩ := hok
  have hk' : args.length ≤ fn.ntmps := by simpa using hk
  refine callsIn_wide.1 (callsIn_of_wp_marks (F := Fence.wide) (n := 0) hf hb trivial ?_)
  have hrp : Rp fn.ntmps [] { tmps := args.toArray ++ Array.replicate (fn.ntmps - args.toArray.size) undef, defers := [] } (argEnv args) := by
    refine ⟨by simp; omega, rfl, fun i hi => ?_⟩
    simp only [argEnv, Array.getD_eq_getD_getElem?, List.getD_eq_getElem?_getD, Array.getElem?_append, List.size_toArray]
    split
    · simp
    · rename_i hge
      rw [List.getElem?_eq_none (by omega)]
      simp only [Array.getElem?_replicate]
      split <;> rfl
  refine wpIn_mono (h hc _ hrp) ?_
  rintro e a' w' ⟨ds', f', hr', hq⟩
  cases e with
  | normal =>
    have hl := leavesM_of (fun i hi => hr'.get i hi) hr ds' w' hq
    rw [← hr'.dfr] at hl; exact hl
  | ret =>
    have hl := leavesM_of (fun i hi => hr'.get i hi) hr ds' w' hq
    rw [← hr'.dfr] at hl; exact hl
  | _ => exact hq.elim

/-! ### The steps of a region -/
section steps
variable {P : Program} {ops : Array Oper} {Q : Post} {ds : List Deferred} {f : Env} {w w' : World} {rest : List Oper} {o : Oper} {v : Value}
theorem wr_nil (h : Q .normal ds f w) : Wr P ops Q ds [] f w := h
theorem wr_step (hw : wantedE ops f o = true) (h : upE P (fun v w' => Wr P ops Q ds rest (setO f o.dst v) w') ((execOp (ev f) o).run P w)) : Wr P ops Q ds (o :: rest) f w := by
  show (bif wantedE ops f o then _ else _)
  rw [hw]; exact h
theorem wr_skip {d : Option Nat} {op : Op} {ty : TypeId} {pos : String} {af : Array Edge} {g : Option (Nat × Bool)} (hw : wantedE ops f ⟨d, op, ty, pos, af, g⟩ = false) (k : Wr P ops Q ds rest (setO f d undef) w) : Wr P ops Q ds (⟨d, op, ty, pos, af, g⟩ :: rest) f w := by
  show (bif wantedE ops f ⟨d, op, ty, pos, af, g⟩ then _ else _)
  rw [hw]; exact k
theorem wr_val (hw : wantedE ops f o = true) (h : (execOp (ev f) o).run P w = .ok (.value v) w') (k : Wr P ops Q ds rest (setO f o.dst v) w') : Wr P ops Q ds (o :: rest) f w :=
  wr_step hw (by rw [h]; exact k)
theorem wr_eff (hw : wantedE ops f o = true) (h : (execOp (ev f) o).run P w = .ok .skip w') (k : Wr P ops Q ds rest (setO f o.dst undef) w') : Wr P ops Q ds (o :: rest) f w :=
  wr_step hw (by rw [h]; exact k)
/-- The middle of a region: what holds there. -/
theorem wr_cut (l1 : List Oper) {l2 : List Oper} (J : Env → World → Prop) (h1 : Wr P ops (fun e ds' f' w' => match e with | .normal => ds' = ds ∧ J f' w' | _ => False) ds l1 f w)
    (h2 : ∀ f' w', J f' w' → Wr P ops Q ds l2 f' w') : Wr P ops Q ds (l1 ++ l2) f w := by
  induction l1 generalizing f w with
  | nil => exact h2 _ _ h1.2
  | cons o l1 ih =>
    show (bif wantedE ops f o then _ else _)
    have h1' : (bif wantedE ops f o then _ else _) := h1
    cases hw : wantedE ops f o with
    | false => rw [hw] at h1'; exact ih h1'
    | true => rw [hw] at h1'; exact upE_mono (fun v w h => ih h) h1'
theorem wr_forget {l : List Oper} (sl : List (Nat × Value)) (hl : ∀ p ∈ sl, f p.1 = p.2) (h : ∀ f0, Wr P ops Q ds l (setL f0 sl) w) : Wr P ops Q ds l f w := by
  have := h f
  rwa [setL_self f sl hl] at this
end steps
attribute [irreducible] Wr Wc CallV Ca
end Go.V

namespace Go.V
open Go.RowKit
set_option linter.unusedVariables false
set_option linter.unusedSimpArgs false

/-- A string out of its bytes. -/
abbrev S (l : List UInt8) : Value := .string ⟨l.toArray⟩
theorem string_S (s : ByteArray) : Value.string s = S s.data.toList := rfl

/-- Types, looked up once in the program's table. -/
class Und (P : Program) (t : TypeId) (d : outParam TypeDesc) : Prop where
  h : P.underlying t = some d
class Info (P : Program) (t : TypeId) (z : outParam Value) (size bytes : outParam Nat) : Prop where
  h : (P.info? t).map (fun i => (i.zero, i.size, i.bytes)) = some (some z, size, bytes)
/-- Field i of struct type t: it begins k cells behind the struct's own place, and takes m cells, more than none. -/
class Fld (P : Program) (t i : Nat) (k : outParam Nat) (ft : outParam TypeId) (m : outParam Nat) : Prop where
  h : ∃ fs fl, P.underlying t = some (.struct fs) ∧ fs[i]? = some fl ∧ fl.offset = k ∧ fl.type = ft ∧ P.cellsOf ft = m ∧ ((P.info? ft).map (·.size)) = some m ∧ m ≠ 0
def isAggD : TypeDesc → Bool
  | .struct _ | .array _ _ => true
  | _ => false
theorem Info.parts {P : Program} {t : TypeId} {z : Value} {size bytes : Nat} (I : Info P t z size bytes) : ∃ i, P.info? t = some i ∧ i.zero = some z ∧ i.size = size ∧ i.bytes = bytes := by
  have h := I.h
  cases hi : P.info? t with
  | none => rw [hi] at h; cases h
  | some i => rw [hi] at h; simp at h; exact ⟨i, rfl, h.1, h.2.1, h.2.2⟩
section sem
variable {P : Program} {w : World}
theorem run_und {t : TypeId} {d : TypeDesc} (U : Und P t d) : (underlying t).run P w = .ok d w := by simp [underlying, U.h]
theorem run_sizeOf' {t : TypeId} {z : Value} {s b : Nat} (I : Info P t z s b) : (sizeOf t).run P w = .ok s w := by
  obtain ⟨i, h1, h2, h3, h4⟩ := I.parts
  simp [sizeOf, typeInfo, h1, h3]
theorem run_zero {t : TypeId} {z : Value} {s b : Nat} (I : Info P t z s b) : (zeroValue t).run P w = .ok z w := by
  obtain ⟨i, h1, h2, h3, h4⟩ := I.parts
  simp [zeroValue, typeInfo, h1, h2]
theorem run_isAgg' {t : TypeId} {d : TypeDesc} (U : Und P t d) : (isAgg t).run P w = .ok (isAggD d) w := by
  simp only [isAgg, Sem.run_bind, run_und U, Result.andThen_ok]
  cases d <;> rfl
end sem

/-! ### Blocks -/
theorem heap_alloc_same (w : World) (o : Obj) : (w.alloc o).heap[w.heap.size]? = some o := w.alloc_heap_new o
theorem heap_alloc_ne (w : World) (o : Obj) {b : Nat} (h : b ≠ w.heap.size) : (w.alloc o).heap[b]? = w.heap[b]? := by
  show (w.heap.push o)[b]? = _
  rw [Array.getElem?_push, if_neg h]
theorem lt_of_heap {w : World} {b : Nat} {o : Obj} (h : w.heap[b]? = some o) : b < w.heap.size := (Array.getElem?_eq_some_iff.1 h).1
theorem heap_put_same {w : World} {b : Nat} {o o' : Obj} (h : w.heap[b]? = some o') : (w.putObj b o).heap[b]? = some o := World.putObj_heap_same (lt_of_heap h)
theorem heap_put_ne (w : World) {b c : Nat} (o : Obj) (h : c ≠ b) : (w.putObj b o).heap[c]? = w.heap[c]? := World.putObj_heap_other h
theorem cell_of_heap {w : World} {b o : Nat} {c : Array Value} {e : TypeId} {fr : Nat × Nat} {v : Value} (h : w.heap[b]? = some (.cells c e fr)) (hv : c[o]? = some v) : w.cell? ⟨b, o, none⟩ = some v := by
  simp [World.cell?, h, hv]
theorem set_of_heap {w : World} {b o : Nat} {c : Array Value} {e : TypeId} {fr : Nat × Nat} (v : Value) (h : w.heap[b]? = some (.cells c e fr)) :
    w.setCell ⟨b, o, none⟩ v = w.putObj b (.cells (c.setIfInBounds o v) e fr) := by
  obtain ⟨hb, hw⟩ := Array.getElem?_eq_some_iff.1 h
  unfold World.setCell World.putObj
  congr 1
  apply Array.ext_getElem?
  intro i
  rw [Array.getElem?_modify, Array.getElem?_setIfInBounds]
  by_cases e : b = i
  · subst e; simp [hb, hw]
  · simp [e]
theorem frozen_of_heap {w : World} {b o : Nat} {c : Array Value} {e : TypeId} (h : w.heap[b]? = some (.cells c e (0, 0))) : w.frozen? ⟨b, o, none⟩ = false := by
  simp [World.frozen?, h]

/-! ### Worlds behind a call -/
/-- All blocks but those of D lie as they lay; nothing else has turned; no block has gone. -/
structure Keeps (D : Nat → Prop) (w w' : World) : Prop where
  os : w'.os = w.os
  tape : w'.tape = w.tape
  output : w'.output = w.output
  size : w.heap.size ≤ w'.heap.size
  block : ∀ k, k < w.heap.size → ¬ D k → w'.heap[k]? = w.heap[k]?
abbrev NoB : Nat → Prop := fun _ => False
theorem Keeps.refl (D : Nat → Prop) (w : World) : Keeps D w w := ⟨rfl, rfl, rfl, Nat.le_refl _, fun _ _ _ => rfl⟩
theorem Keeps.trans {D : Nat → Prop} {a b c : World} (h : Keeps D a b) (k : Keeps D b c) : Keeps D a c :=
  ⟨k.os.trans h.os, k.tape.trans h.tape, k.output.trans h.output, Nat.le_trans h.size k.size, fun i hi hd => (k.block i (Nat.lt_of_lt_of_le hi h.size) hd).trans (h.block i hi hd)⟩
theorem Keeps.mono {D D' : Nat → Prop} {a b : World} (h : Keeps D a b) (hd : ∀ k, k < a.heap.size → D k → D' k) : Keeps D' a b :=
  ⟨h.os, h.tape, h.output, h.size, fun i hi h' => h.block i hi fun hD => h' (hd i hi hD)⟩
/-- Behind what D says of the new world's own blocks nothing is asked. -/
theorem Keeps.trans' {D D' : Nat → Prop} {a b c : World} (h : Keeps D a b) (k : Keeps D' b c) (hd : ∀ i, i < a.heap.size → D' i → D i) : Keeps D a c :=
  ⟨k.os.trans h.os, k.tape.trans h.tape, k.output.trans h.output, Nat.le_trans h.size k.size, fun i hi hn => (k.block i (Nat.lt_of_lt_of_le hi h.size) fun hD' => hn (hd i hi hD')).trans (h.block i hi hn)⟩
theorem Keeps.alloc {D : Nat → Prop} {a w : World} (h : Keeps D a w) (o : Obj) : Keeps D a (w.alloc o) :=
  ⟨h.os, h.tape, h.output, Nat.le_trans h.size (by simp), fun i hi hd => (heap_alloc_ne w o (by have := h.size; omega)).trans (h.block i hi hd)⟩
theorem Keeps.drew {D : Nat → Prop} {a w : World} (h : Keeps D a w) : Keeps D a w.drew := ⟨h.os, h.tape, h.output, h.size, h.block⟩
theorem Keeps.put {D : Nat → Prop} {a w : World} (h : Keeps D a w) {b : Nat} (o : Obj) (hb : b < a.heap.size → D b) : Keeps D a (w.putObj b o) :=
  ⟨h.os, h.tape, h.output, by simpa using h.size, fun i hi hd => (heap_put_ne w o (fun e => hd (by subst e; exact hb hi))).trans (h.block i hi hd)⟩
theorem Keeps.below {a w : World} (h : Keeps NoB a w) : Below a.heap.size a w := ⟨h.os, h.tape, h.output, h.size, fun k hk => h.block k hk fun h => h⟩
theorem Keeps.of_below {a w : World} (h : Below a.heap.size a w) : Keeps NoB a w := ⟨h.os, h.tape, h.output, h.size, fun k hk _ => h.block k hk⟩
theorem Keeps.heap {D : Nat → Prop} {a w : World} (h : Keeps D a w) {b : Nat} {o : Obj} (hb : a.heap[b]? = some o) (hd : ¬ D b) : w.heap[b]? = some o := (h.block b (lt_of_heap hb) hd).trans hb

section ops
variable {P : Program} {ops : Array Oper} {Q : Post} {ds : List Deferred} {f : Env} {w w' : World} {rest : List Oper}
variable {d : Option Nat} {ty : TypeId} {pos : String} {af : Array Edge} {g : Option (Nat × Bool)}
theorem wr_v {op : Op} {v : Value} (s : Sem Value) (hw : wantedE ops f ⟨d, op, ty, pos, af, g⟩ = true) (he : execOp (ev f) ⟨d, op, ty, pos, af, g⟩ = (do pure (Next.value (← s)))) (hs : s.run P w = .ok v w')
    (k : Wr P ops Q ds rest (setO f d v) w') : Wr P ops Q ds (⟨d, op, ty, pos, af, g⟩ :: rest) f w :=
  wr_val hw (by rw [he]; simp [hs]) k
theorem wr_u {op : Op} (s : Sem Unit) (hw : wantedE ops f ⟨d, op, ty, pos, af, g⟩ = true) (he : execOp (ev f) ⟨d, op, ty, pos, af, g⟩ = (do s; pure .skip)) (hs : s.run P w = .ok () w')
    (k : Wr P ops Q ds rest (setO f d undef) w') : Wr P ops Q ds (⟨d, op, ty, pos, af, g⟩ :: rest) f w :=
  wr_eff hw (by rw [he]; simp [hs]) k

theorem wr_move {x : Operand} (hw : wantedE ops f ⟨d, .move x, ty, pos, af, g⟩ = true) (k : Wr P ops Q ds rest (setO f d (ev f x)) w) : Wr P ops Q ds (⟨d, .move x, ty, pos, af, g⟩ :: rest) f w := wr_val hw rfl k
theorem wr_assign {x : Operand} (hw : wantedE ops f ⟨d, .assign x, ty, pos, af, g⟩ = true) (k : Wr P ops Q ds rest (setO f d (ev f x)) w) : Wr P ops Q ds (⟨d, .assign x, ty, pos, af, g⟩ :: rest) f w := wr_val hw rfl k
theorem wr_pick {c x y : Operand} {t : Bool} (hw : wantedE ops f ⟨d, .pick c x y, ty, pos, af, g⟩ = true) (hc : ev f c = .bool t) (k : Wr P ops Q ds rest (setO f d (pickB t (ev f x) (ev f y))) w) :
    Wr P ops Q ds (⟨d, .pick c x y, ty, pos, af, g⟩ :: rest) f w := by
  refine wr_val (v := pickB t (ev f x) (ev f y)) hw ?_ k
  show ((do let b ← asBool (ev f c); pure (Next.value (if b = true then ev f x else ev f y)) : Sem Next)).run P w = _
  rw [hc]; cases t <;> rfl
theorem wr_pick_or {c x y : Operand} {t u : Bool} (hw : wantedE ops f ⟨d, .pick c x y, ty, pos, af, g⟩ = true) (hc : ev f c = .bool t) (hx : ev f x = .bool true) (hy : t = false → ev f y = .bool u)
    (k : Wr P ops Q ds rest (setO f d (.bool (t || u))) w) : Wr P ops Q ds (⟨d, .pick c x y, ty, pos, af, g⟩ :: rest) f w := by
  refine wr_pick hw hc ?_
  cases t
  · simpa [hy rfl] using k
  · simpa [hx] using k
theorem wr_pick_and {c x y : Operand} {t u : Bool} (hw : wantedE ops f ⟨d, .pick c x y, ty, pos, af, g⟩ = true) (hc : ev f c = .bool t) (hy : ev f y = .bool false) (hx : t = true → ev f x = .bool u)
    (k : Wr P ops Q ds rest (setO f d (.bool (t && u))) w) : Wr P ops Q ds (⟨d, .pick c x y, ty, pos, af, g⟩ :: rest) f w := by
  refine wr_pick hw hc ?_
  cases t
  · simpa [hy] using k
  · simpa [hx rfl] using k

/-! #### Numbers -/
theorem run_int2 {op : BinOp} {t : TypeId} {x y : Operand} {k : IntKind} {a b : Int} {v : Value} (hx : ev f x = .int k a) (hy : ev f y = .int k b)
    (h : (binOp op t (.int k a) (.int k b)).run P w = .ok v w) : (do eqGuard op t x y (ev f x) (ev f y); binOp op t (ev f x) (ev f y) : Sem Value).run P w = .ok v w := by
  rw [hx, hy]
  have : (eqGuard op t x y (.int k a) (.int k b)).run P w = .ok () w := by cases op <;> rfl
  simp only [Sem.run_bind, this, Result.andThen_ok, h]
theorem wr_int2 {op : BinOp} {t t' : TypeId} {x y : Operand} {k : IntKind} {a b : Int} {v : Value} (hw : wantedE ops f ⟨d, .binOp op t x y t', ty, pos, af, g⟩ = true) (hx : ev f x = .int k a) (hy : ev f y = .int k b)
    (h : (binOp op t (.int k a) (.int k b)).run P w = .ok v w) (kk : Wr P ops Q ds rest (setO f d v) w) : Wr P ops Q ds (⟨d, .binOp op t x y t', ty, pos, af, g⟩ :: rest) f w :=
  wr_v (s := do eqGuard op t x y (ev f x) (ev f y); binOp op t (ev f x) (ev f y)) hw rfl (run_int2 hx hy h) kk
theorem wr_add {t t' : TypeId} {x y : Operand} {k : IntKind} {a b c : Int} (hw : wantedE ops f ⟨d, .binOp .add t x y t', ty, pos, af, g⟩ = true) (hx : ev f x = .int k a) (hy : ev f y = .int k b)
    (hc : k.wrap (a + b) = c) (kk : Wr P ops Q ds rest (setO f d (.int k c)) w) : Wr P ops Q ds (⟨d, .binOp .add t x y t', ty, pos, af, g⟩ :: rest) f w :=
  wr_int2 hw hx hy (by subst hc; simp [binOp, Op.intArith]) kk
theorem wr_sub {t t' : TypeId} {x y : Operand} {k : IntKind} {a b c : Int} (hw : wantedE ops f ⟨d, .binOp .sub t x y t', ty, pos, af, g⟩ = true) (hx : ev f x = .int k a) (hy : ev f y = .int k b)
    (hc : k.wrap (a - b) = c) (kk : Wr P ops Q ds rest (setO f d (.int k c)) w) : Wr P ops Q ds (⟨d, .binOp .sub t x y t', ty, pos, af, g⟩ :: rest) f w :=
  wr_int2 hw hx hy (by subst hc; simp [binOp, Op.intArith]) kk
theorem wr_mul {t t' : TypeId} {x y : Operand} {k : IntKind} {a b c : Int} (hw : wantedE ops f ⟨d, .binOp .mul t x y t', ty, pos, af, g⟩ = true) (hx : ev f x = .int k a) (hy : ev f y = .int k b)
    (hc : k.wrap (a * b) = c) (kk : Wr P ops Q ds rest (setO f d (.int k c)) w) : Wr P ops Q ds (⟨d, .binOp .mul t x y t', ty, pos, af, g⟩ :: rest) f w :=
  wr_int2 hw hx hy (by subst hc; simp [binOp, Op.intArith]) kk
theorem wr_quo {t t' : TypeId} {x y : Operand} {k : IntKind} {a b c : Int} (hw : wantedE ops f ⟨d, .binOp .quo t x y t', ty, pos, af, g⟩ = true) (hx : ev f x = .int k a) (hy : ev f y = .int k b) (hb : b ≠ 0)
    (hc : k.wrap (a.tdiv b) = c) (kk : Wr P ops Q ds rest (setO f d (.int k c)) w) : Wr P ops Q ds (⟨d, .binOp .quo t x y t', ty, pos, af, g⟩ :: rest) f w :=
  wr_int2 hw hx hy (by subst hc; simp [binOp, Op.intDiv, hb]) kk
theorem wr_rem {t t' : TypeId} {x y : Operand} {k : IntKind} {a b c : Int} (hw : wantedE ops f ⟨d, .binOp .rem t x y t', ty, pos, af, g⟩ = true) (hx : ev f x = .int k a) (hy : ev f y = .int k b) (hb : b ≠ 0)
    (hc : a.tmod b = c) (kk : Wr P ops Q ds rest (setO f d (.int k c)) w) : Wr P ops Q ds (⟨d, .binOp .rem t x y t', ty, pos, af, g⟩ :: rest) f w :=
  wr_int2 hw hx hy (by subst hc; simp [binOp, Op.intDiv, hb]) kk
theorem wr_bits {op : BinOp} {t t' : TypeId} {x y : Operand} {k : IntKind} {a b c : Int} (hw : wantedE ops f ⟨d, .binOp op t x y t', ty, pos, af, g⟩ = true) (hop : op = .and ∨ op = .or ∨ op = .xor ∨ op = .andNot) (hx : ev f x = .int k a) (hy : ev f y = .int k b)
    (hc : bits op k a b = c) (kk : Wr P ops Q ds rest (setO f d (.int k c)) w) : Wr P ops Q ds (⟨d, .binOp op t x y t', ty, pos, af, g⟩ :: rest) f w :=
  wr_int2 hw hx hy (by subst hc; rcases hop with rfl | rfl | rfl | rfl <;> simp [binOp, Op.intBits, bits]) kk
theorem wr_cmp {op : BinOp} {t t' : TypeId} {x y : Operand} {k : IntKind} {a b : Int} {c : Bool} (hw : wantedE ops f ⟨d, .binOp op t x y t', ty, pos, af, g⟩ = true) (hx : ev f x = .int k a) (hy : ev f y = .int k b)
    (hc : (Op.intCmp op a b : Sem Value) = pure (.bool c)) (kk : Wr P ops Q ds rest (setO f d (.bool c)) w) : Wr P ops Q ds (⟨d, .binOp op t x y t', ty, pos, af, g⟩ :: rest) f w :=
  wr_int2 hw hx hy (by cases op <;> first | (simp only [binOp, ne_eq, not_true_eq_false, if_false, hc, Sem.run_pure]; done) | (simp only [binOp, ne_eq, not_true_eq_false, if_false, hc]; rfl) | exact nomatch hc) kk
theorem cmp_lt (a b : Int) : (Op.intCmp .lss a b : Sem Value) = pure (.bool (decide (a < b))) := rfl
theorem cmp_le (a b : Int) : (Op.intCmp .leq a b : Sem Value) = pure (.bool (decide (a ≤ b))) := rfl
theorem cmp_gt (a b : Int) : (Op.intCmp .gtr a b : Sem Value) = pure (.bool (decide (b < a))) := rfl
theorem cmp_ge (a b : Int) : (Op.intCmp .geq a b : Sem Value) = pure (.bool (decide (b ≤ a))) := rfl
theorem cmp_eq (a b : Int) : (Op.intCmp .eql a b : Sem Value) = pure (.bool (decide (a = b))) := by
  simp only [Op.intCmp]; rfl
theorem cmp_ne (a b : Int) : (Op.intCmp .neq a b : Sem Value) = pure (.bool (decide (a ≠ b))) := by
  simp only [Op.intCmp]
  congr 2
  by_cases h : a = b <;> simp [h]
theorem cmp_lt_t {a b : Int} (h : a < b) : (Op.intCmp .lss a b : Sem Value) = pure (.bool true) := by rw [cmp_lt, decide_eq_true h]
theorem cmp_lt_f {a b : Int} (h : b ≤ a) : (Op.intCmp .lss a b : Sem Value) = pure (.bool false) := by rw [cmp_lt, decide_eq_false (by omega)]
theorem cmp_le_t {a b : Int} (h : a ≤ b) : (Op.intCmp .leq a b : Sem Value) = pure (.bool true) := by rw [cmp_le, decide_eq_true h]
theorem cmp_le_f {a b : Int} (h : b < a) : (Op.intCmp .leq a b : Sem Value) = pure (.bool false) := by rw [cmp_le, decide_eq_false (by omega)]
theorem cmp_gt_t {a b : Int} (h : b < a) : (Op.intCmp .gtr a b : Sem Value) = pure (.bool true) := by rw [cmp_gt, decide_eq_true h]
theorem cmp_gt_f {a b : Int} (h : a ≤ b) : (Op.intCmp .gtr a b : Sem Value) = pure (.bool false) := by rw [cmp_gt, decide_eq_false (by omega)]
theorem cmp_ge_t {a b : Int} (h : b ≤ a) : (Op.intCmp .geq a b : Sem Value) = pure (.bool true) := by rw [cmp_ge, decide_eq_true h]
theorem cmp_ge_f {a b : Int} (h : a < b) : (Op.intCmp .geq a b : Sem Value) = pure (.bool false) := by rw [cmp_ge, decide_eq_false (by omega)]
theorem cmp_eq_t {a b : Int} (h : a = b) : (Op.intCmp .eql a b : Sem Value) = pure (.bool true) := by rw [cmp_eq, decide_eq_true h]
theorem cmp_eq_f {a b : Int} (h : a ≠ b) : (Op.intCmp .eql a b : Sem Value) = pure (.bool false) := by rw [cmp_eq, decide_eq_false h]
theorem cmp_ne_t {a b : Int} (h : a ≠ b) : (Op.intCmp .neq a b : Sem Value) = pure (.bool true) := by rw [cmp_ne, decide_eq_true h]
theorem cmp_ne_f {a b : Int} (h : a = b) : (Op.intCmp .neq a b : Sem Value) = pure (.bool false) := by rw [cmp_ne, decide_eq_false (by simpa using h)]
theorem wr_shl {t t' : TypeId} {x y : Operand} {k k' : IntKind} {a b c : Int} (hw : wantedE ops f ⟨d, .binOp .shl t x y t', ty, pos, af, g⟩ = true) (hx : ev f x = .int k a) (hy : ev f y = .int k' b) (hb : 0 ≤ b)
    (hc : k.wrap (a * 2 ^ (min b.toNat k.bits)) = c) (kk : Wr P ops Q ds rest (setO f d (.int k c)) w) : Wr P ops Q ds (⟨d, .binOp .shl t x y t', ty, pos, af, g⟩ :: rest) f w := by
  refine wr_v (s := do eqGuard .shl t x y (ev f x) (ev f y); binOp .shl t (ev f x) (ev f y)) (v := .int k c) hw rfl ?_ kk
  rw [hx, hy]; subst hc
  simp [eqGuard, binOp, Op.shift, show ¬ b < 0 by omega]
theorem wr_shr {t t' : TypeId} {x y : Operand} {k k' : IntKind} {a b c : Int} (hw : wantedE ops f ⟨d, .binOp .shr t x y t', ty, pos, af, g⟩ = true) (hx : ev f x = .int k a) (hy : ev f y = .int k' b) (hb : 0 ≤ b)
    (hc : a.fdiv (2 ^ (min b.toNat k.bits)) = c) (kk : Wr P ops Q ds rest (setO f d (.int k c)) w) : Wr P ops Q ds (⟨d, .binOp .shr t x y t', ty, pos, af, g⟩ :: rest) f w := by
  refine wr_v (s := do eqGuard .shr t x y (ev f x) (ev f y); binOp .shr t (ev f x) (ev f y)) (v := .int k c) hw rfl ?_ kk
  rw [hx, hy]; subst hc
  simp [eqGuard, binOp, Op.shift, show ¬ b < 0 by omega]
theorem wr_shrN {t t' : TypeId} {x y : Operand} {k k' : IntKind} {n : Nat} (s : Nat) (hw : wantedE ops f ⟨d, .binOp .shr t x y t', ty, pos, af, g⟩ = true) (hx : ev f x = .int k (n : Int)) (hy : ev f y = .int k' (s : Int)) (hs : s ≤ k.bits)
    (kk : Wr P ops Q ds rest (setO f d (.int k ((n / 2 ^ s : Nat) : Int))) w) : Wr P ops Q ds (⟨d, .binOp .shr t x y t', ty, pos, af, g⟩ :: rest) f w := by
  refine wr_shr hw hx hy (by omega) ?_ kk
  rw [Int.toNat_natCast, Nat.min_eq_left hs, Int.fdiv_eq_ediv_of_nonneg _ (Int.le_of_lt (Int.pow_pos (by decide)))]
  simp
theorem wr_shlN {t t' : TypeId} {x y : Operand} {k k' : IntKind} {n : Nat} {c : Int} (s : Nat) (hw : wantedE ops f ⟨d, .binOp .shl t x y t', ty, pos, af, g⟩ = true) (hx : ev f x = .int k (n : Int)) (hy : ev f y = .int k' (s : Int)) (hs : s ≤ k.bits)
    (hc : k.wrap ((n * 2 ^ s : Nat) : Int) = c) (kk : Wr P ops Q ds rest (setO f d (.int k c)) w) : Wr P ops Q ds (⟨d, .binOp .shl t x y t', ty, pos, af, g⟩ :: rest) f w := by
  refine wr_shl hw hx hy (by omega) ?_ kk
  rw [Int.toNat_natCast, Nat.min_eq_left hs, ← hc]
  simp
theorem wr_conv {s t : TypeId} {x : Operand} {k k' : IntKind} {a c : Int} {sd : TypeDesc} [U : Und P s sd] [V : Und P t (.int k)] (hw : wantedE ops f ⟨d, .convert s t x, ty, pos, af, g⟩ = true) (hx : ev f x = .int k' a)
    (hc : k.wrap a = c) (kk : Wr P ops Q ds rest (setO f d (.int k c)) w) : Wr P ops Q ds (⟨d, .convert s t x, ty, pos, af, g⟩ :: rest) f w := by
  refine wr_v (s := convert s t (ev f x)) (v := .int k c) hw rfl ?_ kk
  rw [hx]; subst hc
  simp only [convert, Sem.run_bind, run_und U, run_und V, Result.andThen_ok]
  cases sd <;> rfl
theorem wr_not {t : TypeId} {x : Operand} {b : Bool} (hw : wantedE ops f ⟨d, .unOp .not t x, ty, pos, af, g⟩ = true) (hx : ev f x = .bool b) (kk : Wr P ops Q ds rest (setO f d (.bool (!b))) w) :
    Wr P ops Q ds (⟨d, .unOp .not t x, ty, pos, af, g⟩ :: rest) f w :=
  wr_v (s := Op.unary .not (ev f x)) hw rfl (by rw [hx]; rfl) kk
theorem wr_extract {x : Operand} {i : Nat} {vs : Array Value} {v : Value} (hw : wantedE ops f ⟨d, .extract x i, ty, pos, af, g⟩ = true) (hx : ev f x = .tuple vs) (hv : vs[i]? = some v) (kk : Wr P ops Q ds rest (setO f d v) w) :
    Wr P ops Q ds (⟨d, .extract x i, ty, pos, af, g⟩ :: rest) f w :=
  wr_v (s := Instr.extract (ev f x) i) hw rfl (by rw [hx]; simp [Instr.extract, hv]) kk
end ops
end Go.V

namespace Go.V
open Go.RowKit
set_option linter.unusedVariables false
set_option linter.unusedSimpArgs false

section ops
variable {P : Program} {ops : Array Oper} {Q : Post} {ds : List Deferred} {f : Env} {w w' : World} {rest : List Oper}
variable {d : Option Nat} {ty : TypeId} {pos : String} {af : Array Edge} {g : Option (Nat × Bool)}

/-! #### Strings -/
theorem S_size (l : List UInt8) : (⟨l.toArray⟩ : ByteArray).size = l.length := by simp [ByteArray.size]
theorem S_get (l : List UInt8) (i : Nat) : (⟨l.toArray⟩ : ByteArray)[i]? = l[i]? := by
  by_cases h : i < l.length
  · rw [ByteArray.getElem?_lt' _ _ (by rw [S_size]; exact h), List.getElem?_eq_getElem h]; rfl
  · rw [ByteArray.getElem?_ge' _ _ (by rw [S_size]; exact h), List.getElem?_eq_none (by omega)]
theorem run_str2 {op : BinOp} {t : TypeId} {x y : Operand} {a b : List UInt8} {v : Value} (hx : ev f x = S a) (hy : ev f y = S b)
    (h : (Op.stringOp op ⟨a.toArray⟩ ⟨b.toArray⟩).run P w = .ok v w) : (do eqGuard op t x y (ev f x) (ev f y); binOp op t (ev f x) (ev f y) : Sem Value).run P w = .ok v w := by
  rw [hx, hy]
  have h1 : (eqGuard op t x y (S a) (S b)).run P w = .ok () w := by cases op <;> rfl
  have h2 : binOp op t (S a) (S b) = Op.stringOp op ⟨a.toArray⟩ ⟨b.toArray⟩ := by cases op <;> rfl
  simp only [Sem.run_bind, h1, Result.andThen_ok, h2, h]
theorem wr_str2 {op : BinOp} {t t' : TypeId} {x y : Operand} {a b : List UInt8} {v : Value} (hw : wantedE ops f ⟨d, .binOp op t x y t', ty, pos, af, g⟩ = true) (hx : ev f x = S a) (hy : ev f y = S b)
    (h : (Op.stringOp op ⟨a.toArray⟩ ⟨b.toArray⟩).run P w = .ok v w) (kk : Wr P ops Q ds rest (setO f d v) w) : Wr P ops Q ds (⟨d, .binOp op t x y t', ty, pos, af, g⟩ :: rest) f w :=
  wr_v (s := do eqGuard op t x y (ev f x) (ev f y); binOp op t (ev f x) (ev f y)) hw rfl (run_str2 hx hy h) kk
theorem wr_cat {t t' : TypeId} {x y : Operand} {a b : List UInt8} (hw : wantedE ops f ⟨d, .binOp .add t x y t', ty, pos, af, g⟩ = true) (hx : ev f x = S a) (hy : ev f y = S b)
    (h : a.length + b.length ≤ 9223372036854775807) (kk : Wr P ops Q ds rest (setO f d (S (a ++ b))) w) : Wr P ops Q ds (⟨d, .binOp .add t x y t', ty, pos, af, g⟩ :: rest) f w :=
  wr_str2 hw hx hy (by rw [run_string_add_sum _ _ _ (by rw [S_size, S_size]; exact h), ByteArray.mk_append_mk]) kk
theorem wr_streq {t t' : TypeId} {x y : Operand} {a b : List UInt8} (hw : wantedE ops f ⟨d, .binOp .eql t x y t', ty, pos, af, g⟩ = true) (hx : ev f x = S a) (hy : ev f y = S b)
    (kk : Wr P ops Q ds rest (setO f d (.bool (decide (a = b)))) w) : Wr P ops Q ds (⟨d, .binOp .eql t x y t', ty, pos, af, g⟩ :: rest) f w := by
  refine wr_str2 (v := .bool (decide (a = b))) hw hx hy ?_ kk
  simp only [Op.stringOp, ByteArray.toList_mk, Sem.run_pure]
  congr 2
  by_cases h : a = b <;> simp [h]
theorem wr_strne {t t' : TypeId} {x y : Operand} {a b : List UInt8} (hw : wantedE ops f ⟨d, .binOp .neq t x y t', ty, pos, af, g⟩ = true) (hx : ev f x = S a) (hy : ev f y = S b)
    (kk : Wr P ops Q ds rest (setO f d (.bool (decide (a ≠ b)))) w) : Wr P ops Q ds (⟨d, .binOp .neq t x y t', ty, pos, af, g⟩ :: rest) f w := by
  refine wr_str2 (v := .bool (decide (a ≠ b))) hw hx hy ?_ kk
  simp only [Op.stringOp, ByteArray.toList_mk, Sem.run_pure]
  congr 2
  by_cases h : a = b <;> simp [h]
theorem wr_streqc {t t' : TypeId} {x y : Operand} {a b : List UInt8} {c : Bool} (hw : wantedE ops f ⟨d, .binOp .eql t x y t', ty, pos, af, g⟩ = true) (hx : ev f x = S a) (hy : ev f y = S b) (hc : decide (a = b) = c)
    (kk : Wr P ops Q ds rest (setO f d (.bool c)) w) : Wr P ops Q ds (⟨d, .binOp .eql t x y t', ty, pos, af, g⟩ :: rest) f w := by
  subst hc; exact wr_streq hw hx hy kk
theorem wr_strnec {t t' : TypeId} {x y : Operand} {a b : List UInt8} {c : Bool} (hw : wantedE ops f ⟨d, .binOp .neq t x y t', ty, pos, af, g⟩ = true) (hx : ev f x = S a) (hy : ev f y = S b) (hc : decide (a = b) = c)
    (kk : Wr P ops Q ds rest (setO f d (.bool (!c))) w) : Wr P ops Q ds (⟨d, .binOp .neq t x y t', ty, pos, af, g⟩ :: rest) f w := by
  subst hc; refine wr_strne hw hx hy ?_
  rw [show decide (a ≠ b) = !decide (a = b) by by_cases h : a = b <;> simp [h]]; exact kk
theorem wr_strcmp {op : BinOp} {t t' : TypeId} {x y : Operand} {a b : List UInt8} {c : Bool} (hw : wantedE ops f ⟨d, .binOp op t x y t', ty, pos, af, g⟩ = true) (hx : ev f x = S a) (hy : ev f y = S b)
    (hc : (op = .lss ∧ c = Op.bytesLess a b) ∨ (op = .leq ∧ c = (Op.bytesLess a b || a == b)) ∨ (op = .gtr ∧ c = !(Op.bytesLess a b || a == b)) ∨ (op = .geq ∧ c = !Op.bytesLess a b))
    (kk : Wr P ops Q ds rest (setO f d (.bool c)) w) : Wr P ops Q ds (⟨d, .binOp op t x y t', ty, pos, af, g⟩ :: rest) f w := by
  refine wr_str2 (v := .bool c) hw hx hy ?_ kk
  rcases hc with ⟨rfl, rfl⟩ | ⟨rfl, rfl⟩ | ⟨rfl, rfl⟩ | ⟨rfl, rfl⟩ <;> simp only [Op.stringOp, ByteArray.toList_mk, Sem.run_pure]
theorem wr_len_str {t : TypeId} {x : Operand} {l : List UInt8} [U : Und P t .string] (hw : wantedE ops f ⟨d, .call { callee := .builtin .len, args := #[x], argTypes := #[t] }, ty, pos, af, g⟩ = true) (hx : ev f x = S l)
    (kk : Wr P ops Q ds rest (setO f d (.int .i64 (l.length : Int))) w) : Wr P ops Q ds (⟨d, .call { callee := .builtin .len, args := #[x], argTypes := #[t] }, ty, pos, af, g⟩ :: rest) f w := by
  refine wr_val (v := .int .i64 (l.length : Int)) hw ?_ kk
  simp [execOp, resolve, invoke, builtin, Builtin.len_, hx, run_und U, goInt, S_size, -ByteArray.size_data]
theorem wr_len_slice {t e : TypeId} {x : Operand} {a : Option Addr} {n c : Nat} [U : Und P t (.slice e)] (hw : wantedE ops f ⟨d, .call { callee := .builtin .len, args := #[x], argTypes := #[t] }, ty, pos, af, g⟩ = true) (hx : ev f x = .slice a n c)
    (kk : Wr P ops Q ds rest (setO f d (.int .i64 (n : Int))) w) : Wr P ops Q ds (⟨d, .call { callee := .builtin .len, args := #[x], argTypes := #[t] }, ty, pos, af, g⟩ :: rest) f w := by
  refine wr_val (v := .int .i64 (n : Int)) hw ?_ kk
  simp [execOp, resolve, invoke, builtin, Builtin.len_, hx, run_und U, goInt]
theorem wr_min {t t' : TypeId} {x y : Operand} {k : IntKind} {a b c : Int} (hw : wantedE ops f ⟨d, .call { callee := .builtin .min, args := #[x, y], argTypes := #[t, t'] }, ty, pos, af, g⟩ = true) (hx : ev f x = .int k a) (hy : ev f y = .int k b)
    (hc : (if b < a then b else a) = c) (kk : Wr P ops Q ds rest (setO f d (.int k c)) w) : Wr P ops Q ds (⟨d, .call { callee := .builtin .min, args := #[x, y], argTypes := #[t, t'] }, ty, pos, af, g⟩ :: rest) f w := by
  refine wr_val (v := .int k c) hw ?_ kk
  subst hc
  simp [execOp, resolve, invoke, builtin, Builtin.min_, Builtin.min2, hx, hy]
theorem wr_max {t t' : TypeId} {x y : Operand} {k : IntKind} {a b c : Int} (hw : wantedE ops f ⟨d, .call { callee := .builtin .max, args := #[x, y], argTypes := #[t, t'] }, ty, pos, af, g⟩ = true) (hx : ev f x = .int k a) (hy : ev f y = .int k b)
    (hc : (if b > a then b else a) = c) (kk : Wr P ops Q ds rest (setO f d (.int k c)) w) : Wr P ops Q ds (⟨d, .call { callee := .builtin .max, args := #[x, y], argTypes := #[t, t'] }, ty, pos, af, g⟩ :: rest) f w := by
  refine wr_val (v := .int k c) hw ?_ kk
  subst hc
  simp [execOp, resolve, invoke, builtin, Builtin.max_, Builtin.max2, hx, hy]
theorem wr_index_str {t : TypeId} {x y : Operand} {l : List UInt8} {k : IntKind} {i : Int} {b : UInt8} [U : Und P t .string] (hw : wantedE ops f ⟨d, .index t x y, ty, pos, af, g⟩ = true) (hx : ev f x = S l) (hy : ev f y = .int k i)
    (h0 : 0 ≤ i) (hb : l[i.toNat]? = some b) (kk : Wr P ops Q ds rest (setO f d (.int .u8 (b.toNat : Int))) w) : Wr P ops Q ds (⟨d, .index t x y, ty, pos, af, g⟩ :: rest) f w := by
  refine wr_v (s := Instr.index t (ev f x) (ev f y)) (v := .int .u8 (b.toNat : Int)) hw rfl ?_ kk
  simp only [Instr.index, hx, hy, asIntOf, Sem.run_bind, Sem.run_pure, Result.andThen_ok, run_und U, if_pos h0, S_get, hb]
/-- s[lo:hi] of a string. -/
theorem run_sl_str {t : TypeId} {l : List UInt8} {lo hi : Option Value} {i j : Nat} (U : Und P t .string) (hj : hi = none ∧ j = l.length ∨ ∃ k, hi = some (.int k (j : Int)) ∧ j ≤ l.length) (hi' : lo = none ∧ i = 0 ∨ ∃ k, lo = some (.int k (i : Int)) ∧ i ≤ j) :
    (Instr.sliceAt t (S l) lo hi none).run P w = .ok (S ((l.drop i).take (j - i))) w := by
  have hb : ∀ (k : IntKind) (n y : Nat) (c : BoundsCode), n ≤ y → (Instr.sliceBound (.int k (n : Int)) y c).run P w = .ok n w := fun k n y c h => by
    simp only [Instr.sliceBound, asIntOf, Sem.run_bind, Sem.run_pure, Result.andThen_ok]
    rw [if_pos ⟨by omega, by omega⟩]; simp
  have hs : (Instr.sliceBounds false (⟨l.toArray⟩ : ByteArray).size (⟨l.toArray⟩ : ByteArray).size lo hi none).run P w = .ok (i, j, l.length) w := by
    rw [S_size]
    rcases hj with ⟨rfl, rfl⟩ | ⟨k, rfl, hj⟩ <;> rcases hi' with ⟨rfl, rfl⟩ | ⟨k', rfl, hi'⟩ <;> simp only [Instr.sliceBounds, Sem.run_bind, Sem.run_pure, Result.andThen_ok]
    · rw [hb k' i _ _ hi']; simp
    · rw [hb k j _ _ (by simpa using hj)]; simp
    · rw [hb k j _ _ (by simpa using hj)]; simp only [Result.andThen_ok]; rw [hb k' i _ _ hi']; simp
  simp only [Instr.sliceAt, Instr.slice, Sem.run_bind, run_und U, Result.andThen_ok, Option.isSome_none, Bool.false_eq_true, if_false, hs, Sem.run_pure]
  rw [ByteArray.extract_mk]
theorem wr_sl_str {t : TypeId} {x : Operand} {lo hi : Option Operand} {l : List UInt8} {i j : Nat} [U : Und P t .string] (hw : wantedE ops f ⟨d, .slice t x lo hi none, ty, pos, af, g⟩ = true) (hx : ev f x = S l)
    (hj : hi.map (ev f) = none ∧ j = l.length ∨ ∃ k, hi.map (ev f) = some (.int k (j : Int)) ∧ j ≤ l.length) (hi' : lo.map (ev f) = none ∧ i = 0 ∨ ∃ k, lo.map (ev f) = some (.int k (i : Int)) ∧ i ≤ j)
    (kk : Wr P ops Q ds rest (setO f d (S ((l.drop i).take (j - i)))) w) : Wr P ops Q ds (⟨d, .slice t x lo hi none, ty, pos, af, g⟩ :: rest) f w :=
  wr_v (s := Instr.sliceAt t (ev f x) (lo.map (ev f)) (hi.map (ev f)) none) hw rfl (by rw [hx]; exact run_sl_str U hj hi') kk

/-! #### Memory -/
theorem wr_alloc {t : TypeId} {z : Value} {s b : Nat} [I : Info P t z s b] (hw : wantedE ops f ⟨d, .alloc t, ty, pos, af, g⟩ = true)
    (kk : Wr P ops Q ds rest (setO f d (.pointer (some ⟨w.heap.size, 0, none⟩))) (w.alloc (.cells z.cells t))) : Wr P ops Q ds (⟨d, .alloc t, ty, pos, af, g⟩ :: rest) f w := by
  refine wr_v (s := Instr.alloc t true (.tuple #[])) (v := .pointer (some ⟨w.heap.size, 0, none⟩)) (w' := w.alloc (.cells z.cells t)) hw rfl ?_ kk
  simp only [Instr.alloc, Sem.run_bind, run_zero I, Result.andThen_ok, newVar, newRow, run_newObj, Sem.run_pure]; rfl
theorem wr_box {t : TypeId} {x : Operand} {v : Value} (hw : wantedE ops f ⟨d, .box t x, ty, pos, af, g⟩ = true) (hx : ev f x = v)
    (kk : Wr P ops Q ds rest (setO f d (.pointer (some ⟨w.heap.size, 0, none⟩))) (w.alloc (.cells v.cells t))) : Wr P ops Q ds (⟨d, .box t x, ty, pos, af, g⟩ :: rest) f w := by
  refine wr_v (s := Instr.box t (ev f x)) (v := .pointer (some ⟨w.heap.size, 0, none⟩)) (w' := w.alloc (.cells v.cells t)) hw rfl ?_ kk
  subst hx
  simp only [Instr.box, Sem.run_bind, Result.andThen_ok, newVar, newRow, run_newObj, Sem.run_pure]; rfl
theorem run_fieldPlace {t i : Nat} {k m : Nat} {ft : TypeId} (F : Fld P t i k ft m) (b o : Nat) : (Instr.fieldAt t (.pointer (some ⟨b, o, none⟩)) i).run P w = .ok (.pointer (some ⟨b, o + k, none⟩)) w := by
  obtain ⟨fs, fl, h1, h2, h3, h4, h5, h6, h7⟩ := F.h
  have hsz : (sizeOf ft).run P w = .ok m w := by
    cases hi : P.info? ft with
    | none => rw [hi] at h6; cases h6
    | some inf => rw [hi] at h6; simp at h6; simp [sizeOf, typeInfo, hi, h6]
  simp only [Instr.fieldAt, underlying, Sem.run_bind, run_program, Result.andThen_ok, h1, Sem.run_pure, h2, Instr.sureAddr, fieldPlace, h4, hsz]
  rw [if_neg h7]
  simp only [Sem.run_pure, Result.andThen_ok, h3, Addr.add]
  split
  · rename_i e; subst e; rfl
  · rfl
theorem wr_fieldAddr {t i : Nat} {x : Operand} {k m b o : Nat} {ft : TypeId} [F : Fld P t i k ft m] (hw : wantedE ops f ⟨d, .fieldAddr t x i, ty, pos, af, g⟩ = true) (hx : ev f x = .pointer (some ⟨b, o, none⟩))
    (kk : Wr P ops Q ds rest (setO f d (.pointer (some ⟨b, o + k, none⟩))) w) : Wr P ops Q ds (⟨d, .fieldAddr t x i, ty, pos, af, g⟩ :: rest) f w :=
  wr_v (s := Instr.fieldAt t (ev f x) i) hw rfl (by rw [hx]; exact run_fieldPlace F b o) kk
theorem run_load1 {t : TypeId} {D : TypeDesc} (U : Und P t D) (hD : isAggD D = false) {b o : Nat} {v : Value} (hv : w.cell? ⟨b, o, none⟩ = some v) : (loadVar t ⟨b, o, none⟩).run P w = .ok v w := by
  simp only [loadVar, Sem.run_bind, run_isAgg' U, Result.andThen_ok, hD, Bool.false_eq_true, if_false, run_load, hv]
theorem wr_load {t : TypeId} {D : TypeDesc} {x : Operand} {b o : Nat} {c : Array Value} {e : TypeId} {fr : Nat × Nat} {v : Value} [U : Und P t D] (hw : wantedE ops f ⟨d, .load t x, ty, pos, af, g⟩ = true) (hD : isAggD D = false) (hx : ev f x = .pointer (some ⟨b, o, none⟩))
    (hb : w.heap[b]? = some (.cells c e fr)) (hv : c[o]? = some v) (kk : Wr P ops Q ds rest (setO f d v) w) : Wr P ops Q ds (⟨d, .load t x, ty, pos, af, g⟩ :: rest) f w :=
  wr_v (s := Instr.loadAt t (ev f x)) hw rfl (by rw [hx]; simp only [Instr.loadAt, Instr.sureAddr, Sem.run_bind, Sem.run_pure, Result.andThen_ok]; exact run_load1 U hD (cell_of_heap hb hv)) kk
theorem addr_add (b o k : Nat) : (⟨b, o, none⟩ : Addr).add k = ⟨b, o + k, none⟩ := by
  unfold Addr.add; split
  · rename_i e; subst e; rfl
  · rfl
theorem run_loadAgg {t : TypeId} {D : TypeDesc} {z : Value} {n by' : Nat} (U : Und P t D) (I : Info P t z n by') (hD : isAggD D = true) {b o : Nat} {cs : List Value} (hl : cs.length = n)
    (hv : ∀ j u, cs[j]? = some u → w.cell? ⟨b, o + j, none⟩ = some u) : (loadVar t ⟨b, o, none⟩).run P w = .ok (.agg cs.toArray) w := by
  have hc : (loadCells ⟨b, o, none⟩ n).run P w = .ok cs.toArray w := by
    rw [← hl]; exact run_loadCells_list w _ cs (fun j v h => by rw [addr_add]; exact hv j v h)
  simp only [loadVar, Sem.run_bind, run_isAgg' U, Result.andThen_ok, hD, if_true, run_sizeOf' I, hc, Sem.run_pure]
theorem wr_loadAgg {t : TypeId} {D : TypeDesc} {z : Value} {n by' : Nat} {x : Operand} {b o : Nat} {cs : List Value} [U : Und P t D] [I : Info P t z n by'] (hw : wantedE ops f ⟨d, .load t x, ty, pos, af, g⟩ = true) (hD : isAggD D = true) (hx : ev f x = .pointer (some ⟨b, o, none⟩))
    (hl : cs.length = n) (hv : ∀ j u, cs[j]? = some u → w.cell? ⟨b, o + j, none⟩ = some u) (kk : Wr P ops Q ds rest (setO f d (.agg cs.toArray)) w) : Wr P ops Q ds (⟨d, .load t x, ty, pos, af, g⟩ :: rest) f w :=
  wr_v (s := Instr.loadAt t (ev f x)) hw rfl (by rw [hx]; simp only [Instr.loadAt, Instr.sureAddr, Sem.run_bind, Sem.run_pure, Result.andThen_ok]; exact run_loadAgg U I hD hl hv) kk
/-- A whole variable of a struct or array type. -/
theorem wr_loadAll {t : TypeId} {D : TypeDesc} {z : Value} {n by' : Nat} {x : Operand} {b : Nat} {cs : List Value} {e : TypeId} {fr : Nat × Nat} [U : Und P t D] [I : Info P t z n by'] (hw : wantedE ops f ⟨d, .load t x, ty, pos, af, g⟩ = true) (hD : isAggD D = true) (hx : ev f x = .pointer (some ⟨b, 0, none⟩))
    (hb : w.heap[b]? = some (.cells cs.toArray e fr)) (hl : cs.length = n) (kk : Wr P ops Q ds rest (setO f d (.agg cs.toArray)) w) : Wr P ops Q ds (⟨d, .load t x, ty, pos, af, g⟩ :: rest) f w :=
  wr_loadAgg hw hD hx hl (fun j u h => cell_of_heap hb (by simpa using h)) kk
theorem wr_store {t : TypeId} {z : Value} {by' : Nat} {x y : Operand} {b o : Nat} {c : Array Value} {e : TypeId} {u v : Value} [I : Info P t z 1 by'] (hw : wantedE ops f ⟨d, .store t x y, ty, pos, af, g⟩ = true) (hx : ev f x = .pointer (some ⟨b, o, none⟩)) (hy : ev f y = v)
    (h1 : v.oneCell' = true) (hb : w.heap[b]? = some (.cells c e (0, 0))) (hu : c[o]? = some u) (kk : Wr P ops Q ds rest (setO f d undef) (w.putObj b (.cells (c.setIfInBounds o v) e (0, 0)))) : Wr P ops Q ds (⟨d, .store t x y, ty, pos, af, g⟩ :: rest) f w := by
  refine wr_u (s := Instr.storeAt t (ev f x) (ev f y)) (w' := w.putObj b (.cells (c.setIfInBounds o v) e (0, 0))) hw rfl ?_ kk
  have hcells : v.cells = #[v] := by cases v <;> first | rfl | simp [Value.oneCell'] at h1
  rw [hx, hy]
  simp only [Instr.storeAt, Instr.sureAddr, storeVar, Sem.run_bind, Sem.run_pure, Result.andThen_ok, run_sizeOf' I, hcells]
  simp only [List.size_toArray, List.length_cons, List.length_nil, Nat.zero_add, ne_eq, not_true_eq_false, if_false, Sem.run_pure, Result.andThen_ok, storeCells, Sem.run_bind, addr_add, Nat.add_zero]
  rw [run_store P w ⟨b, o, none⟩ v .plain h1, cell_of_heap hb hu]
  simp only [frozen_of_heap hb, Bool.false_eq_true, if_false, Result.andThen_ok, set_of_heap v hb]
/-- A whole variable of a struct or array type is written. -/
theorem wr_storeAll {t : TypeId} {z : Value} {n by' : Nat} {x y : Operand} {b : Nat} {c : Array Value} {e : TypeId} {cs : List Value} [I : Info P t z n by'] (hw : wantedE ops f ⟨d, .store t x y, ty, pos, af, g⟩ = true) (hx : ev f x = .pointer (some ⟨b, 0, none⟩)) (hy : ev f y = .agg cs.toArray)
    (h1 : ∀ u ∈ cs, u.oneCell' = true) (hb : w.heap[b]? = some (.cells c e (0, 0))) (hl : cs.length = n) (hc : c.size = n) (kk : Wr P ops Q ds rest (setO f d undef) (w.putObj b (.cells cs.toArray e (0, 0)))) : Wr P ops Q ds (⟨d, .store t x y, ty, pos, af, g⟩ :: rest) f w := by
  refine wr_u (s := Instr.storeAt t (ev f x) (ev f y)) (w' := w.putObj b (.cells cs.toArray e (0, 0))) hw rfl ?_ kk
  rw [hx, hy]
  simp only [Instr.storeAt, Instr.sureAddr, storeVar, Sem.run_bind, Sem.run_pure, Result.andThen_ok, run_sizeOf' I, Value.cells, List.size_toArray, hl, ne_eq, not_true_eq_false, if_false]
  have hst := run_storeCells_at P b 0 e cs 0 c w hb (by omega) h1
  rw [hst]
  have hd' : c.toList.drop (0 + 0 + cs.length) = [] := List.drop_eq_nil_of_le (by simp [hl, hc])
  rw [hd']
  simp only [Nat.add_zero, List.take_zero, List.nil_append, List.append_nil]
  congr 1
  obtain ⟨hlt, hwb⟩ := Array.getElem?_eq_some_iff.1 hb
  unfold World.setRow World.putObj
  congr 1
  apply Array.ext_getElem?
  intro i
  rw [Array.getElem?_modify, Array.getElem?_setIfInBounds]
  by_cases e : b = i
  · subst e; simp [hlt, hwb]
  · simp [e]

/-! #### Calls -/
theorem wr_call {h : FuncId} [E : Ent P h] {args : Array Operand} {ats : Array TypeId} {vs : List Value} {R : Value → World → Prop} (hw : wantedE ops f ⟨d, .call { callee := .value (.func h), args := args, argTypes := ats }, ty, pos, af, g⟩ = true)
    (hc : Ca P h vs.toArray w R) (hargs : args.toList.map (ev f) = vs) (kk : ∀ v w', R v w' → Wr P ops Q ds rest (setO f d v) w') : Wr P ops Q ds (⟨d, .call { callee := .value (.func h), args := args, argTypes := ats }, ty, pos, af, g⟩ :: rest) f w := by
  refine wr_step hw ?_
  have hm : args.map (ev f) = vs.toArray := by
    rw [← hargs]; apply Array.toList_inj.1; simp
  have : (execOp (ev f) ⟨d, .call { callee := .value (.func h), args := args, argTypes := ats }, ty, pos, af, g⟩).run P w = .ok (.enter h vs.toArray) w := by
    simp only [execOp, resolve, hm, ev, Deferred.ofValue, Sem.run_bind, Sem.run_pure, Result.andThen_ok, invoke, Array.empty_append, Array.append_empty]
    exact callFunc_run E.h _ _
  rw [this]
  exact hc.inn _ kk
/-- A call of a function value. -/
theorem wr_callv {x : Operand} {args : Array Operand} {ats : Array TypeId} {fv : Value} {vs : List Value} {R : Value → World → Prop} (hw : wantedE ops f ⟨d, .call { callee := .value x, args := args, argTypes := ats }, ty, pos, af, g⟩ = true)
    (hc : CallV P fv vs.toArray w R) (hx : ev f x = fv) (hargs : args.toList.map (ev f) = vs) (kk : ∀ v w', R v w' → Wr P ops Q ds rest (setO f d v) w') : Wr P ops Q ds (⟨d, .call { callee := .value x, args := args, argTypes := ats }, ty, pos, af, g⟩ :: rest) f w := by
  refine wr_step hw ?_
  have hm : args.map (ev f) = vs.toArray := by
    rw [← hargs]; apply Array.toList_inj.1; simp
  have : execOp (ev f) ⟨d, .call { callee := .value x, args := args, argTypes := ats }, ty, pos, af, g⟩ = (do let d ← Deferred.ofValue fv vs.toArray; invoke d.target d.args) := by
    simp only [execOp, resolve, hm, hx]
  rw [this]
  exact upE_mono kk hc.up
theorem wr_makeFunc {fn : Fn} {fi ca : Array Operand} {v1 v2 : List Value} (hw : wantedE ops f ⟨d, .makeFunc fn fi ca, ty, pos, af, g⟩ = true) (h1 : fi.toList.map (ev f) = v1) (h2 : ca.toList.map (ev f) = v2)
    (kk : Wr P ops Q ds rest (setO f d (.func fn v1.toArray v2.toArray)) w) : Wr P ops Q ds (⟨d, .makeFunc fn fi ca, ty, pos, af, g⟩ :: rest) f w :=
  wr_v (s := Instr.makeFunc fn (fi.map (ev f)) (ca.map (ev f))) hw rfl (by
    have e1 : fi.map (ev f) = v1.toArray := by rw [← h1]; apply Array.toList_inj.1; simp
    have e2 : ca.map (ev f) = v2.toArray := by rw [← h2]; apply Array.toList_inj.1; simp
    rw [e1, e2]; rfl) kk
theorem wr_makeIface {t : TypeId} {x : Operand} {D : TypeDesc} {v : Value} [U : Und P t D] (hw : wantedE ops f ⟨d, .makeInterface t x, ty, pos, af, g⟩ = true) (hD : (match D with | .interface _ => false | _ => true) = true) (hx : ev f x = v)
    (kk : Wr P ops Q ds rest (setO f d (.iface t v)) w) : Wr P ops Q ds (⟨d, .makeInterface t x, ty, pos, af, g⟩ :: rest) f w := by
  refine wr_v (s := Instr.makeInterface t (ev f x)) (v := .iface t v) hw rfl ?_ kk
  simp only [Instr.makeInterface, Sem.run_bind, run_und U, Result.andThen_ok, hx]
  cases D <;> first | rfl | cases hD
end ops
end Go.V

namespace Go.V
open Go.RowKit
set_option linter.unusedVariables false
set_option linter.unusedSimpArgs false

/-! ### A literal's cells -/
theorem zipIdx_fold (off : Nat) : ∀ (vs : List Value) (k : Nat) (cs : Array Value), off + k + vs.length ≤ cs.size →
    ((vs.zipIdx k).foldl (fun cs (p : Value × Nat) => cs.setIfInBounds (off + p.2) p.1) cs).toList = cs.toList.take (off + k) ++ vs ++ cs.toList.drop (off + k + vs.length)
  | [], k, cs, _ => by simp
  | v :: vs, k, cs, h => by
    simp only [List.length_cons] at h
    simp only [List.zipIdx_cons, List.foldl_cons]
    rw [zipIdx_fold off vs (k + 1) _ (by simp; omega)]
    have e := list_seg_step cs.toList (off + k) v vs (by simp; omega)
    simpa [Array.toList_setIfInBounds, Nat.add_assoc] using e
theorem zipIdx_toList_fold {α β : Type} (a : Array α) (g : β → α × Nat → β) (b : β) : a.zipIdx.foldl g b = (a.toList.zipIdx).foldl g b := by
  rw [← Array.foldl_toList]; simp
theorem fill_parts (size : Nat) : ∀ (vs : List Value) (k : Nat) (cs : Array Value), (∀ v ∈ vs, v.cells.size = size) → (k + vs.length) * size ≤ cs.size →
    ∃ cs', Instr.fill (fun i => some (i * size, size)) cs ((vs.zipIdx k).map fun p => (p.2, p.1)) = some cs' ∧
      cs'.toList = cs.toList.take (k * size) ++ vs.flatMap (fun v => v.cells.toList) ++ cs.toList.drop ((k + vs.length) * size)
  | [], k, cs, _, _ => ⟨cs, rfl, by simp⟩
  | v :: vs, k, cs, hv, h => by
    have h1 : v.cells.size = size := hv v (by simp)
    simp only [List.length_cons] at h
    have hm : (k + (vs.length + 1)) * size = k * size + size + vs.length * size := by rw [Nat.add_mul, Nat.add_mul]; omega
    have hk : k * size + size = (k + 1) * size := by rw [Nat.add_mul, Nat.one_mul]
    have hfold := zipIdx_fold (k * size) v.cells.toList 0 cs (by simp [h1]; omega)
    obtain ⟨cs', e1, e2⟩ := fill_parts size vs (k + 1) (v.cells.zipIdx.foldl (fun cs (c, j) => cs.setIfInBounds (k * size + j) c) cs) (fun u hu => hv u (by simp [hu])) (by
      have hsz : (v.cells.zipIdx.foldl (fun cs (c, j) => cs.setIfInBounds (k * size + j) c) cs).size = cs.size := by
        rw [← Array.length_toList, zipIdx_toList_fold, hfold]; simp [h1]; omega
      rw [hsz, Nat.add_assoc, Nat.add_comm 1]; exact h)
    refine ⟨cs', ?_, ?_⟩
    · simp only [List.zipIdx_cons, List.map_cons, Instr.fill]
      rw [if_neg (by simp [h1]; omega)]
      exact e1
    · rw [e2, zipIdx_toList_fold, hfold]
      simp only [Nat.add_zero, Array.length_toList, h1, List.flatMap_cons, List.length_cons]
      have hT : (cs.toList.take (k * size) ++ v.cells.toList).length = k * size + size := by simp [h1]; omega
      generalize hTd : cs.toList.take (k * size) ++ v.cells.toList = T at *
      rw [← hk, show (k + 1 + vs.length) * size = (k * size + size) + vs.length * size by rw [Nat.add_mul, ← hk]]
      rw [List.take_left' hT, ← List.drop_drop, List.drop_left' hT, List.drop_drop, hm, ← hTd]
      simp [List.append_assoc]

/-! ### Slices that are read -/
/-- v is a slice of n elements of sz cells each, that reads cs. -/
def SlR (w : World) (sz : Nat) (v : Value) (n : Nat) (cs : List Value) : Prop :=
  cs.length = n * sz ∧ ∃ a c, v = .slice a n c ∧ n ≤ c ∧
    ((n = 0 ∧ (a = none → c = 0)) ∨ ∃ b o cur e fr, a = some ⟨b, o, none⟩ ∧ w.heap[b]? = some (.cells cur e fr) ∧ ∀ j, j < n * sz → cur[o + j]? = cs[j]?)
theorem SlR.keep {D : Nat → Prop} {w w' : World} {sz n : Nat} {v : Value} {cs : List Value} (h : SlR w sz v n cs) (k : Keeps D w w') (hd : ∀ b, v.ownBlock = some b → ¬ D b) : SlR w' sz v n cs := by
  obtain ⟨hl, a, c, rfl, hc, h⟩ := h
  refine ⟨hl, a, c, rfl, hc, ?_⟩
  rcases h with h | ⟨b, o, cur, e, fr, rfl, hb, hr⟩
  · exact .inl h
  · exact .inr ⟨b, o, cur, e, fr, rfl, k.heap hb (hd b (by simp [Value.ownBlock])), hr⟩
theorem SlR.of_own {w : World} {base : Nat} {e : TypeId} {sz n : Nat} {v : Value} {xs : List Value} (h : w.ownsRow base e sz v n xs) : SlR w sz v n xs := by
  obtain ⟨hl, h⟩ := h
  rcases h with ⟨rfl, rfl⟩ | ⟨g, cap, cur, rfl, hb, hg, hn, hm, hs, ht⟩
  · exact ⟨hl, none, 0, rfl, Nat.le_refl _, .inl ⟨rfl, fun _ => rfl⟩⟩
  · refine ⟨hl, _, cap, rfl, hn, .inr ⟨g, 0, cur, e, (0, 0), rfl, hg, fun j hj => ?_⟩⟩
    rw [← ht, List.getElem?_take_of_lt hj, Nat.zero_add]; simp

theorem Keeps.of_grownBy {w w' : World} {row : Option Nat} (h : w.grownBy w' row) : Keeps (fun k => row = some k) w w' :=
  ⟨h.os, h.tape, h.output, h.size, fun k hk hd => h.block k hk fun e => hd e.symm⟩
theorem own_keep {D : Nat → Prop} {w w' : World} {base : Nat} {e : TypeId} {sz n : Nat} {v : Value} {xs : List Value} (h : w.ownsRow base e sz v n xs) (k : Keeps D w w') (hd : ∀ b, v.ownBlock = some b → ¬ D b) : w'.ownsRow base e sz v n xs := by
  refine ⟨h.1, ?_⟩
  rcases h.2 with hn | ⟨g, cap, cur, rfl, hb, hg, hr⟩
  · exact .inl hn
  · exact .inr ⟨g, cap, cur, rfl, hb, k.heap hg (hd g (by simp [Value.ownBlock])), hr⟩

section ops
variable {P : Program} {ops : Array Oper} {Q : Post} {ds : List Deferred} {f : Env} {w w' : World} {rest : List Oper}
variable {d : Option Nat} {ty : TypeId} {pos : String} {af : Array Edge} {g : Option (Nat × Bool)}
theorem wr_buildSlice {t e : TypeId} {z : Value} {size by' len : Nat} {parts : Array (Nat × Operand)} {vs : List Value} [U : Und P t (.slice e)] [I : Info P e z size by'] (hw : wantedE ops f ⟨d, .buildSlice t len parts, ty, pos, af, g⟩ = true)
    (hp : parts.toList.map (fun p => (p.1, ev f p.2)) = (vs.zipIdx 0).map fun p => (p.2, p.1)) (hv : ∀ v ∈ vs, v.cells.size = size) (hlen : vs.length = len) (hs : 0 < len * size) (hm : len * size ≤ 16777216) (hz : 0 < z.cells.size)
    (kk : Wr P ops Q ds rest (setO f d (.slice (some ⟨w.heap.size, 0, none⟩) len len)) (w.alloc (.cells (vs.flatMap (fun v => v.cells.toList)).toArray e))) : Wr P ops Q ds (⟨d, .buildSlice t len parts, ty, pos, af, g⟩ :: rest) f w := by
  have hpl : ∀ F : Nat × Operand → Nat × Value, (∀ p, F p = (p.1, ev f p.2)) → (parts.map F).toList = (vs.zipIdx 0).map fun p => (p.2, p.1) := fun F hF => by
    rw [← hp, Array.toList_map]; exact List.map_congr_left fun p _ => hF p
  obtain ⟨cs', e1, e2⟩ := fill_parts size vs 0 ((Array.range (len * size)).map (z.cells[· % z.cells.size]!)) hv (by simp [hlen])
  have e3 : cs' = (vs.flatMap (fun v => v.cells.toList)).toArray := by
    apply Array.toList_inj.1
    rw [e2]
    simp only [Nat.zero_mul, List.take_zero, List.nil_append, Nat.zero_add, hlen]
    rw [List.drop_of_length_le (by simp)]; simp
  refine wr_val (v := .slice (some ⟨w.heap.size, 0, none⟩) len len) (w' := w.alloc (.cells (vs.flatMap (fun v => v.cells.toList)).toArray e)) hw ?_ kk
  simp only [execOp, Instr.buildSlice, Sem.run_bind, run_und U, Result.andThen_ok, run_sizeOf' I]
  rw [if_neg (by omega)]
  simp only [Sem.run_pure, Result.andThen_ok]
  rw [if_neg (by omega)]
  simp only [Sem.run_bind, run_zero I, Result.andThen_ok, Sem.run_pure]
  rw [hpl _ (fun p => rfl)]
  simp only [e1, e3, newRow, Sem.run_bind, run_newObj, Result.andThen_ok, Sem.run_pure]
  rfl
/-- An append of the elements of a new block to a slice of the call's own. -/
theorem wr_append {t e : TypeId} {z : Value} {size by' : Nat} {x y : Operand} {base n m c b : Nat} {v : Value} {xs news : List Value} {e' : TypeId} {fr : Nat × Nat} [U : Und P t (.slice e)] [I : Info P e z size by']
    (hw : wantedE ops f ⟨d, .call { callee := .builtin .append, args := #[x, y], argTypes := #[t, t] }, ty, pos, af, g⟩ = true) (hx : ev f x = v) (hown : w.ownsRow base e size v n xs) (hy : ev f y = .slice (some ⟨b, 0, none⟩) m c)
    (hb : w.heap[b]? = some (.cells news.toArray e' fr)) (hl : news.length = m * size) (h1 : ∀ u ∈ news, u.oneCell' = true) (hzs : z.cells.size = size) (hsz : 0 < size) (h63 : n + m ≤ 9223372036854775807) (hbytes : (n + m) * by' ≤ 140737488355328) (hbase : base ≤ w.heap.size)
    (kk : ∀ v' w', w'.ownsRow base e size v' (n + m) (xs ++ news) → Keeps (fun k => v.ownBlock = some k) w w' → (v' = .slice none 0 0 ↔ v = .slice none 0 0 ∧ m = 0) → Wr P ops Q ds rest (setO f d v') w') :
    Wr P ops Q ds (⟨d, .call { callee := .builtin .append, args := #[x, y], argTypes := #[t, t] }, ty, pos, af, g⟩ :: rest) f w := by
  obtain ⟨i, hi, hz, hs, hby⟩ := I.parts
  obtain ⟨v', w', hr, ho, hg, hn⟩ := run_append_own (P := P) w base t ty e i z size by' U.h hi hz hs hby hzs hsz v n xs hown ⟨b, 0, none⟩ m c news hl (fun j u hj => by rw [addr_add]; exact cell_of_heap hb (by simpa using hj)) h1 (by unfold maxLen; exact h63) hbytes hbase
  refine wr_val (v := v') (w' := w') hw ?_ (kk v' w' ho (Keeps.of_grownBy hg) hn)
  simp only [execOp, resolve, invoke, builtin, Sem.run_bind, Sem.run_pure, Result.andThen_ok, List.map_toArray, List.map_cons, List.map_nil, hx, hy, hr]
/-- append(s, more...): what is appended is read, wherever it lies. -/
theorem wr_appendR {t e : TypeId} {z : Value} {size by' : Nat} {x y : Operand} {base n m : Nat} {v u : Value} {xs news : List Value} [U : Und P t (.slice e)] [I : Info P e z size by']
    (hw : wantedE ops f ⟨d, .call { callee := .builtin .append, args := #[x, y], argTypes := #[t, t] }, ty, pos, af, g⟩ = true) (hx : ev f x = v) (hown : w.ownsRow base e size v n xs) (hy : ev f y = u)
    (hu : SlR w size u m news) (h1 : ∀ u ∈ news, u.oneCell' = true) (hzs : z.cells.size = size) (hsz : 0 < size) (h63 : n + m ≤ 9223372036854775807) (hbytes : (n + m) * by' ≤ 140737488355328) (hbase : base ≤ w.heap.size)
    (kk : ∀ v' w', w'.ownsRow base e size v' (n + m) (xs ++ news) → Keeps (fun k => v.ownBlock = some k) w w' → (v' = .slice none 0 0 ↔ v = .slice none 0 0 ∧ m = 0) → Wr P ops Q ds rest (setO f d v') w') :
    Wr P ops Q ds (⟨d, .call { callee := .builtin .append, args := #[x, y], argTypes := #[t, t] }, ty, pos, af, g⟩ :: rest) f w := by
  obtain ⟨i, hi, hz, hs, hby⟩ := I.parts
  obtain ⟨hl, a, c, rfl, hc, hu⟩ := hu
  rcases hu with ⟨rfl, hac⟩ | ⟨b, o, cur, e', fr, rfl, hb, hr⟩
  · have hnil : news = [] := List.eq_nil_of_length_eq_zero (by simpa using hl)
    subst hnil
    cases a with
    | none =>
      have := hac rfl
      subst this
      have hr := run_append_owned_none (P := P) w base t ty e i size U.h hi v n xs hown
      refine wr_val (v := v) (w' := w) hw ?_ (kk v w (by simpa using hown) (Keeps.refl _ _) (by simp))
      simp only [execOp, resolve, invoke, builtin, Sem.run_bind, Sem.run_pure, Result.andThen_ok, List.map_toArray, List.map_cons, List.map_nil, hx, hy, hr]
    | some ad =>
      obtain ⟨v', w', hr', ho, hg, hn⟩ := run_append_own (P := P) w base t ty e i z size by' U.h hi hz hs hby hzs hsz v n xs hown ad 0 c [] (by simp) (fun j u hj => by simp at hj) h1 (by unfold maxLen; exact h63) hbytes hbase
      refine wr_val (v := v') (w' := w') hw ?_ (kk v' w' ho (Keeps.of_grownBy hg) hn)
      simp only [execOp, resolve, invoke, builtin, Sem.run_bind, Sem.run_pure, Result.andThen_ok, List.map_toArray, List.map_cons, List.map_nil, hx, hy, hr']
  · obtain ⟨v', w', hr', ho, hg, hn⟩ := run_append_own (P := P) w base t ty e i z size by' U.h hi hz hs hby hzs hsz v n xs hown ⟨b, o, none⟩ m c news hl (fun j u hj => by
      rw [addr_add]; refine cell_of_heap hb ((hr j ?_).trans hj)
      have := (List.getElem?_eq_some_iff.1 hj).1; omega) h1 (by unfold maxLen; exact h63) hbytes hbase
    refine wr_val (v := v') (w' := w') hw ?_ (kk v' w' ho (Keeps.of_grownBy hg) hn)
    simp only [execOp, resolve, invoke, builtin, Sem.run_bind, Sem.run_pure, Result.andThen_ok, List.map_toArray, List.map_cons, List.map_nil, hx, hy, hr']
theorem wr_make0 {t e : TypeId} {z : Value} {size by' : Nat} {l c : Operand} {cap : Nat} {kl kc : IntKind} (base : Nat) [U : Und P t (.slice e)] [I : Info P e z size by'] (hw : wantedE ops f ⟨d, .makeSlice t l c, ty, pos, af, g⟩ = true) (hl : ev f l = .int kl 0) (hc : ev f c = .int kc (cap : Int))
    (hbytes : by' * cap ≤ 281474976710656) (h63 : cap ≤ 9223372036854775807) (hbase : base ≤ w.heap.size)
    (kk : ∀ v' w', w'.ownsRow base e size v' 0 [] → Keeps NoB w w' → v' ≠ .slice none 0 0 → Wr P ops Q ds rest (setO f d v') w') : Wr P ops Q ds (⟨d, .makeSlice t l c, ty, pos, af, g⟩ :: rest) f w := by
  obtain ⟨i, hi, hz, hs, hby⟩ := I.parts
  subst hby
  obtain ⟨w', hr, ho, hg⟩ := run_make_own (P := P) w base t e i z size U.h hi hz hs kl kc cap hbytes (by unfold maxLen; exact h63) hbase
  refine wr_v (s := Instr.makeSlice t (ev f l) (ev f c)) hw rfl (by rw [hl, hc]; exact hr) (kk _ _ ho ((Keeps.of_grownBy hg).mono fun k _ h => by cases h) (by simp))
theorem wr_makeN {t e : TypeId} {z : Value} {size by' : Nat} {l c : Operand} {n : Nat} {kl kc : IntKind} (base : Nat) [U : Und P t (.slice e)] [I : Info P e z size by'] (hw : wantedE ops f ⟨d, .makeSlice t l c, ty, pos, af, g⟩ = true) (hl : ev f l = .int kl (n : Int)) (hc : ev f c = .int kc (n : Int))
    (hz1 : z.cells = #[z]) (hs1 : size = 1) (hbytes : by' * n ≤ 281474976710656) (h63 : n ≤ 9223372036854775807) (hbase : base ≤ w.heap.size)
    (kk : ∀ v' w', w'.ownsRow base e size v' n (List.replicate n z) → Keeps NoB w w' → v' ≠ .slice none 0 0 → Wr P ops Q ds rest (setO f d v') w') : Wr P ops Q ds (⟨d, .makeSlice t l c, ty, pos, af, g⟩ :: rest) f w := by
  obtain ⟨i, hi, hz, hs, hby⟩ := I.parts
  subst hby; subst hs1
  obtain ⟨w', hr, ho, hg⟩ := run_make_full (P := P) w base t e i z 1 U.h hi hz hs kl kc n hbytes (by unfold maxLen; exact h63) hbase
  rw [hz1, Nat.mul_one, toList_madeCells_one] at ho
  refine wr_v (s := Instr.makeSlice t (ev f l) (ev f c)) hw rfl (by rw [hl, hc]; exact hr) (kk _ _ ho ((Keeps.of_grownBy hg).mono fun k _ h => by cases h) (by simp))
/-- The address of an element. -/
theorem wr_indexAddr {t e : TypeId} {z : Value} {size by' : Nat} {x y : Operand} {b o n c : Nat} {k : IntKind} {i : Nat} [U : Und P t (.slice e)] [I : Info P e z size by'] (hw : wantedE ops f ⟨d, .indexAddr t x y, ty, pos, af, g⟩ = true) (hx : ev f x = .slice (some ⟨b, o, none⟩) n c) (hy : ev f y = .int k (i : Int))
    (hi : i < n) (kk : Wr P ops Q ds rest (setO f d (.pointer (some ⟨b, o + i * size, none⟩))) w) : Wr P ops Q ds (⟨d, .indexAddr t x y, ty, pos, af, g⟩ :: rest) f w := by
  refine wr_v (s := Instr.indexAt t (ev f x) (ev f y)) (v := .pointer (some ⟨b, o + i * size, none⟩)) hw rfl ?_ kk
  rw [hx, hy]
  simp only [Instr.indexAt, asIntOf, Sem.run_bind, Sem.run_pure, Result.andThen_ok, run_und U]
  rw [if_pos ⟨by omega, by omega⟩]
  simp only [Sem.run_bind, run_sizeOf' I, Result.andThen_ok, Sem.run_pure, Int.toNat_natCast, addr_add]
/-- x[lo:hi] of a slice. -/
theorem run_sl_slice {t e : TypeId} {z : Value} {size by' : Nat} {a : Option Addr} {n c i j : Nat} {lo hi : Option Value} (U : Und P t (.slice e)) (I : Info P e z size by') (hj : hi = none ∧ j = n ∨ ∃ k, hi = some (.int k (j : Int)) ∧ j ≤ c) (hi' : lo = none ∧ i = 0 ∨ ∃ k, lo = some (.int k (i : Int)) ∧ i ≤ j) :
    (Instr.sliceAt t (.slice a n c) lo hi none).run P w = .ok (.slice (if c = i then a else a.map (·.add (i * size))) (j - i) (c - i)) w := by
  have hb : ∀ (k : IntKind) (n y : Nat) (c : BoundsCode), n ≤ y → (Instr.sliceBound (.int k (n : Int)) y c).run P w = .ok n w := fun k n y c h => by
    simp only [Instr.sliceBound, asIntOf, Sem.run_bind, Sem.run_pure, Result.andThen_ok]
    rw [if_pos ⟨by omega, by omega⟩]; simp
  have hs : (Instr.sliceBounds true n c lo hi none).run P w = .ok (i, j, c) w := by
    rcases hj with ⟨rfl, rfl⟩ | ⟨k, rfl, hj⟩ <;> rcases hi' with ⟨rfl, rfl⟩ | ⟨k', rfl, hi'⟩ <;> simp only [Instr.sliceBounds, Sem.run_bind, Sem.run_pure, Result.andThen_ok]
    · rw [hb k' i _ _ hi']; simp
    · simp only [if_true]; rw [hb k j _ _ hj]; simp
    · simp only [if_true]; rw [hb k j _ _ hj]; simp only [Result.andThen_ok]; rw [hb k' i _ _ hi']; simp
  simp only [Instr.sliceAt, Instr.slice, Sem.run_bind, run_und U, Result.andThen_ok, hs, run_sizeOf' I, Sem.run_pure]
theorem wr_sl_slice {t e : TypeId} {z : Value} {size by' : Nat} {x : Operand} {lo hi : Option Operand} {a : Option Addr} {n c i j : Nat} [U : Und P t (.slice e)] [I : Info P e z size by'] (hw : wantedE ops f ⟨d, .slice t x lo hi none, ty, pos, af, g⟩ = true) (hx : ev f x = .slice a n c)
    (hj : hi.map (ev f) = none ∧ j = n ∨ ∃ k, hi.map (ev f) = some (.int k (j : Int)) ∧ j ≤ c) (hi' : lo.map (ev f) = none ∧ i = 0 ∨ ∃ k, lo.map (ev f) = some (.int k (i : Int)) ∧ i ≤ j)
    (kk : Wr P ops Q ds rest (setO f d (.slice (if c = i then a else a.map (·.add (i * size))) (j - i) (c - i))) w) : Wr P ops Q ds (⟨d, .slice t x lo hi none, ty, pos, af, g⟩ :: rest) f w :=
  wr_v (s := Instr.sliceAt t (ev f x) (lo.map (ev f)) (hi.map (ev f)) none) hw rfl (by rw [hx]; exact run_sl_slice U I hj hi') kk
def bytesV (l : List UInt8) : List Value := l.map fun b => .int .u8 (b.toNat : Int)
theorem push_fold : ∀ (l : List UInt8) (s : List UInt8), (l.map fun b => (b.toNat : Int)).foldl (fun r n => r.push (UInt8.ofNat n.toNat)) (⟨s.toArray⟩ : ByteArray) = ⟨(s ++ l).toArray⟩
  | [], s => by simp
  | b :: l, s => by
    simp only [List.map_cons, List.foldl_cons]
    have e : (⟨s.toArray⟩ : ByteArray).push (UInt8.ofNat ((b.toNat : Int)).toNat) = ⟨(s ++ [b]).toArray⟩ := by
      simp [ByteArray.push]
    rw [e, push_fold l (s ++ [b])]; simp
theorem wr_bytes2str {s t e : TypeId} {x : Operand} {v : Value} {n : Nat} {l : List UInt8} [U : Und P s (.slice e)] [E : Und P e (.int .u8)] [T : Und P t .string] (hw : wantedE ops f ⟨d, .convert s t x, ty, pos, af, g⟩ = true) (hx : ev f x = v)
    (hv : SlR w 1 v n (bytesV l)) (kk : Wr P ops Q ds rest (setO f d (S l)) w) : Wr P ops Q ds (⟨d, .convert s t x, ty, pos, af, g⟩ :: rest) f w := by
  refine wr_v (s := convert s t (ev f x)) (v := S l) hw rfl ?_ kk
  obtain ⟨hl, a, c, rfl, hc, h⟩ := hv
  rw [hx, run_convert_bytes_string w s t e a n c U.h E.h T.h]
  rcases h with ⟨rfl, hac⟩ | ⟨b, o, cur, e', fr, rfl, hb, hr⟩
  · have : l = [] := List.eq_nil_of_length_eq_zero (by simpa [bytesV] using hl)
    subst this
    cases a with
    | none => rfl
    | some ad =>
      have hc : (loadCells ad 0).run P w = .ok ((([] : List Int).map (Value.int .u8)).toArray) w := run_loadCells_list (P := P) w ad [] (fun j v hj => by simp at hj)
      exact run_bytesToString w ad 0 c [] hc
  · have hln : l.length = n := by simpa [bytesV] using hl
    have hc : (loadCells ⟨b, o, none⟩ n).run P w = .ok (bytesV l).toArray w := by
      have := run_loadCells_list (P := P) w ⟨b, o, none⟩ (bytesV l) (fun j v hj => by
        rw [addr_add]; refine cell_of_heap hb ((hr j ?_).trans hj)
        have := (List.getElem?_eq_some_iff.1 hj).1; omega)
      rwa [show (bytesV l).length = n by simpa [bytesV] using hln] at this
    have hm : bytesV l = (l.map fun b => (b.toNat : Int)).map (Value.int .u8) := by simp [bytesV]
    rw [hm] at hc
    rw [run_bytesToString w ⟨b, o, none⟩ n c (l.map fun b => (b.toNat : Int)) hc]
    have := push_fold l []
    simp only [List.nil_append] at this
    rw [show ByteArray.empty = (⟨([] : List UInt8).toArray⟩ : ByteArray) from rfl, this]
end ops
end Go.V

namespace Go.V
open Go.RowKit
set_option linter.unusedVariables false
set_option linter.unusedSimpArgs false

def Slots (f : Env) : List (Nat × Value) → Prop
  | [] => True
  | (d, v) :: l => f d = v ∧ Slots f l
theorem Slots.all {f : Env} : ∀ {l : List (Nat × Value)}, Slots f l → ∀ p ∈ l, f p.1 = p.2
  | [], _, p, h => by cases h
  | (d, v) :: l, ⟨h1, h2⟩, p, h => by
    rcases List.mem_cons.1 h with rfl | h
    · exact h1
    · exact Slots.all h2 p h
section
variable {r : Option Nat} {P : Program} {n : Nat} {Q : Post} {ds : List Deferred} {f : Env} {w : World} {ops : Array Oper}
theorem wc_keep {c : Code} (l : List (Nat × Value)) (hl : Slots f l) (h : ∀ f0, Wc r P n c Q ds (setL f0 l) w) : Wc r P n c Q ds f w := wc_forget l hl.all h
theorem wr_keep {l : List Oper} (sl : List (Nat × Value)) (hl : Slots f sl) (h : ∀ f0, Wr P ops Q ds l (setL f0 sl) w) : Wr P ops Q ds l f w := wr_forget sl hl.all h
theorem wc_loopL {c : Code} {α : Type} (sl : α → List (Nat × Value)) (I : α → List Deferred → World → Prop) (μ : α → Nat) (x0 : α) (h0 : I x0 ds w) (hs0 : Slots f (sl x0))
    (round : ∀ x ds f0 w, I x ds w → Wc r P n c (thenE (fun ds' f' w' => ∃ x', μ x' < μ x ∧ I x' ds' w' ∧ Slots f' (sl x')) Q) ds (setL f0 (sl x)) w) : Wc r P n (.loop c) Q ds f w := by
  refine wc_loop (fun m ds f w => ∃ x, μ x = m ∧ I x ds w ∧ Slots f (sl x)) (μ x0) ⟨x0, rfl, h0, hs0⟩ ?_
  rintro m ds f w ⟨x, rfl, hI, hs⟩
  have := round x ds f w hI
  rw [setL_self f (sl x) hs.all] at this
  refine this.mono ?_
  intro e ds' f' w' hq
  cases e with
  | normal =>
    obtain ⟨x', h1, h2, h3⟩ := hq
    exact ⟨μ x', h1, x', rfl, h2, h3⟩
  | _ => exact hq
/-- A sequence, cut: what holds between. -/
theorem wc_seqCut {x y : Code} (J : List Deferred → Env → World → Prop) (h1 : Wc r P n x (thenE J Q) ds f w) (h2 : ∀ ds f w, J ds f w → Wc r P n y Q ds f w) : Wc r P n (.seq x y) Q ds f w :=
  wc_seq (h1.mono fun e ds f w hq => by cases e <;> first | exact h2 _ _ _ hq | exact hq)
theorem wr_end {K : List Deferred → Env → World → Prop} (h : K ds f w) : Wr P ops (thenE K Q) ds [] f w := wr_nil (Q := thenE K Q) h
variable {fn : Func} {R : Value → World → Prop}
theorem leave0 (h : fn.results.toList = []) (hR : R (.tuple #[]) w) : Leave P fn R [] f w := ⟨[], by rw [h]; trivial, hR⟩
theorem leave1 {t : Nat} {v : Value} (h : fn.results.toList = [.tmp t]) (hv : f t = v) (hR : R v w) : Leave P fn R [] f w := ⟨[v], by rw [h]; exact ⟨hv, trivial⟩, hR⟩
theorem leave2 {t1 t2 : Nat} {v1 v2 : Value} (h : fn.results.toList = [.tmp t1, .tmp t2]) (h1 : f t1 = v1) (h2 : f t2 = v2) (hR : R (.tuple #[v1, v2]) w) : Leave P fn R [] f w :=
  ⟨[v1, v2], by rw [h]; exact ⟨h1, h2, trivial⟩, hR⟩
theorem leave3 {t1 t2 t3 : Nat} {v1 v2 v3 : Value} (h : fn.results.toList = [.tmp t1, .tmp t2, .tmp t3]) (h1 : f t1 = v1) (h2 : f t2 = v2) (h3 : f t3 = v3) (hR : R (.tuple #[v1, v2, v3]) w) : Leave P fn R [] f w :=
  ⟨[v1, v2, v3], by rw [h]; exact ⟨h1, h2, h3, trivial⟩, hR⟩
theorem leave4 {t1 t2 t3 t4 : Nat} {v1 v2 v3 v4 : Value} (h : fn.results.toList = [.tmp t1, .tmp t2, .tmp t3, .tmp t4]) (h1 : f t1 = v1) (h2 : f t2 = v2) (h3 : f t3 = v3) (h4 : f t4 = v4) (hR : R (.tuple #[v1, v2, v3, v4]) w) : Leave P fn R [] f w :=
  ⟨[v1, v2, v3, v4], by rw [h]; exact ⟨h1, h2, h3, h4, trivial⟩, hR⟩
end
theorem w_i64 {n : Int} (h : -9223372036854775808 ≤ n ∧ n ≤ 9223372036854775807) : IntKind.i64.wrap n = n := IntWalk.i64_in n h
theorem w_u64 {n : Int} (h : 0 ≤ n ∧ n ≤ 18446744073709551615) : IntKind.u64.wrap n = n := IntWalk.u64_in n h
theorem w_i32 {n : Int} (h : -2147483648 ≤ n ∧ n ≤ 2147483647) : IntKind.i32.wrap n = n := IntWalk.i32_in n h
theorem w_u32 {n : Int} (h : 0 ≤ n ∧ n ≤ 4294967295) : IntKind.u32.wrap n = n := IntWalk.u32_in n h
theorem w_u16 {n : Int} (h : 0 ≤ n ∧ n ≤ 65535) : IntKind.u16.wrap n = n := IntWalk.u16_in n h
theorem w_u8 {n : Int} (h : 0 ≤ n ∧ n ≤ 255) : IntKind.u8.wrap n = n := IntWalk.u8_in n h
theorem m_u8 (n : Int) : IntKind.u8.wrap n = n % 256 := IntKind.wrap_u8' n
theorem q_i64 {x y : Int} (h : 0 ≤ x ∧ x ≤ 9223372036854775807 ∧ 1 ≤ y) : IntKind.i64.wrap (x.tdiv y) = x / y := IntWalk.i64_quo x y h
theorem q_u64 {x y : Int} (h : 0 ≤ x ∧ x ≤ 18446744073709551615 ∧ 1 ≤ y) : IntKind.u64.wrap (x.tdiv y) = x / y := IntWalk.u64_quo x y h
theorem q_u8 {x y : Int} (h : 0 ≤ x ∧ x ≤ 255 ∧ 1 ≤ y) : IntKind.u8.wrap (x.tdiv y) = x / y := IntWalk.u8_quo x y h
end Go.V
