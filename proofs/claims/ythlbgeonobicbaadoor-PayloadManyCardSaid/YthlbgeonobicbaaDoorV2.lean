/- The calculus, second text: what each operation does: numbers, bools, strings, tuples, structs; memory block by block. -/
import Derived.Test.YthlbgeonobicbaaDoorV1
import Derived.IntWalk
import Derived.Laws.BitsAllLaws
import Derived.Laws.World
import Derived.Laws.Strings
namespace Go.V
open Go.RowKit
set_option linter.unusedVariables false
set_option linter.unusedSimpArgs false

/-- A string out of its bytes. -/
abbrev S (l : List UInt8) : Value := .string ⟨l.toArray⟩
theorem string_S (s : ByteArray) : Value.string s = S s.data.toList := rfl

/-- Types, looked up once in the program's table. -/
class Und (P : Program) (t : TypeId) (d : outParam TypeDesc) : Prop where
  h : P.underlying t = some d
class Info (P : Program) (t : TypeId) (z : outParam Value) (size bytes : outParam Nat) : Prop where
  h : (P.info? t).map (fun i => (i.zero, i.size, i.bytes)) = some (some z, size, bytes)
/-- Field i of struct type t: it begins k cells behind the struct's own place, and takes m cells, more than none. -/
class Fld (P : Program) (t i : Nat) (k : outParam Nat) (ft : outParam TypeId) (m : outParam Nat) : Prop where
  h : ∃ fs fl, P.underlying t = some (.struct fs) ∧ fs[i]? = some fl ∧ fl.offset = k ∧ fl.type = ft ∧ P.cellsOf ft = m ∧ ((P.info? ft).map (·.size)) = some m ∧ m ≠ 0
def isAggD : TypeDesc → Bool
  | .struct _ | .array _ _ => true
  | _ => false
theorem Info.parts {P : Program} {t : TypeId} {z : Value} {size bytes : Nat} (I : Info P t z size bytes) : ∃ i, P.info? t = some i ∧ i.zero = some z ∧ i.size = size ∧ i.bytes = bytes := by
  have h := I.h
  cases hi : P.info? t with
  | none => rw [hi] at h; cases h
  | some i => rw [hi] at h; simp at h; exact ⟨i, rfl, h.1, h.2.1, h.2.2⟩
section sem
variable {P : Program} {w : World}
theorem run_und {t : TypeId} {d : TypeDesc} (U : Und P t d) : (underlying t).run P w = .ok d w := by simp [underlying, U.h]
theorem run_sizeOf' {t : TypeId} {z : Value} {s b : Nat} (I : Info P t z s b) : (sizeOf t).run P w = .ok s w := by
  obtain ⟨i, h1, h2, h3, h4⟩ := I.parts
  simp [sizeOf, typeInfo, h1, h3]
theorem run_zero {t : TypeId} {z : Value} {s b : Nat} (I : Info P t z s b) : (zeroValue t).run P w = .ok z w := by
  obtain ⟨i, h1, h2, h3, h4⟩ := I.parts
  simp [zeroValue, typeInfo, h1, h2]
theorem run_isAgg' {t : TypeId} {d : TypeDesc} (U : Und P t d) : (isAgg t).run P w = .ok (isAggD d) w := by
  simp only [isAgg, Sem.run_bind, run_und U, Result.andThen_ok]
  cases d <;> rfl
end sem

/-! ### Blocks -/
theorem heap_alloc_same (w : World) (o : Obj) : (w.alloc o).heap[w.heap.size]? = some o := w.alloc_heap_new o
theorem heap_alloc_ne (w : World) (o : Obj) {b : Nat} (h : b ≠ w.heap.size) : (w.alloc o).heap[b]? = w.heap[b]? := by
  show (w.heap.push o)[b]? = _
  rw [Array.getElem?_push, if_neg h]
theorem lt_of_heap {w : World} {b : Nat} {o : Obj} (h : w.heap[b]? = some o) : b < w.heap.size := (Array.getElem?_eq_some_iff.1 h).1
theorem heap_put_same {w : World} {b : Nat} {o o' : Obj} (h : w.heap[b]? = some o') : (w.putObj b o).heap[b]? = some o := World.putObj_heap_same (lt_of_heap h)
theorem heap_put_ne (w : World) {b c : Nat} (o : Obj) (h : c ≠ b) : (w.putObj b o).heap[c]? = w.heap[c]? := World.putObj_heap_other h
theorem cell_of_heap {w : World} {b o : Nat} {c : Array Value} {e : TypeId} {fr : Nat × Nat} {v : Value} (h : w.heap[b]? = some (.cells c e fr)) (hv : c[o]? = some v) : w.cell? ⟨b, o, none⟩ = some v := by
  simp [World.cell?, h, hv]
theorem set_of_heap {w : World} {b o : Nat} {c : Array Value} {e : TypeId} {fr : Nat × Nat} (v : Value) (h : w.heap[b]? = some (.cells c e fr)) :
    w.setCell ⟨b, o, none⟩ v = w.putObj b (.cells (c.setIfInBounds o v) e fr) := by
  obtain ⟨hb, hw⟩ := Array.getElem?_eq_some_iff.1 h
  unfold World.setCell World.putObj
  congr 1
  apply Array.ext_getElem?
  intro i
  rw [Array.getElem?_modify, Array.getElem?_setIfInBounds]
  by_cases e : b = i
  · subst e; simp [hb, hw]
  · simp [e]
theorem frozen_of_heap {w : World} {b o : Nat} {c : Array Value} {e : TypeId} (h : w.heap[b]? = some (.cells c e (0, 0))) : w.frozen? ⟨b, o, none⟩ = false := by
  simp [World.frozen?, h]

/-! ### Worlds behind a call -/
/-- All blocks but those of D lie as they lay; nothing else has turned; no block has gone. -/
structure Keeps (D : Nat → Prop) (w w' : World) : Prop where
  os : w'.os = w.os
  tape : w'.tape = w.tape
  output : w'.output = w.output
  size : w.heap.size ≤ w'.heap.size
  block : ∀ k, k < w.heap.size → ¬ D k → w'.heap[k]? = w.heap[k]?
abbrev NoB : Nat → Prop := fun _ => False
theorem Keeps.refl (D : Nat → Prop) (w : World) : Keeps D w w := ⟨rfl, rfl, rfl, Nat.le_refl _, fun _ _ _ => rfl⟩
theorem Keeps.trans {D : Nat → Prop} {a b c : World} (h : Keeps D a b) (k : Keeps D b c) : Keeps D a c :=
  ⟨k.os.trans h.os, k.tape.trans h.tape, k.output.trans h.output, Nat.le_trans h.size k.size, fun i hi hd => (k.block i (Nat.lt_of_lt_of_le hi h.size) hd).trans (h.block i hi hd)⟩
theorem Keeps.mono {D D' : Nat → Prop} {a b : World} (h : Keeps D a b) (hd : ∀ k, k < a.heap.size → D k → D' k) : Keeps D' a b :=
  ⟨h.os, h.tape, h.output, h.size, fun i hi h' => h.block i hi fun hD => h' (hd i hi hD)⟩
/-- Behind what D says of the new world's own blocks nothing is asked. -/
theorem Keeps.trans' {D D' : Nat → Prop} {a b c : World} (h : Keeps D a b) (k : Keeps D' b c) (hd : ∀ i, i < a.heap.size → D' i → D i) : Keeps D a c :=
  ⟨k.os.trans h.os, k.tape.trans h.tape, k.output.trans h.output, Nat.le_trans h.size k.size, fun i hi hn => (k.block i (Nat.lt_of_lt_of_le hi h.size) fun hD' => hn (hd i hi hD')).trans (h.block i hi hn)⟩
theorem Keeps.alloc {D : Nat → Prop} {a w : World} (h : Keeps D a w) (o : Obj) : Keeps D a (w.alloc o) :=
  ⟨h.os, h.tape, h.output, Nat.le_trans h.size (by simp), fun i hi hd => (heap_alloc_ne w o (by have := h.size; omega)).trans (h.block i hi hd)⟩
theorem Keeps.drew {D : Nat → Prop} {a w : World} (h : Keeps D a w) : Keeps D a w.drew := ⟨h.os, h.tape, h.output, h.size, h.block⟩
theorem Keeps.put {D : Nat → Prop} {a w : World} (h : Keeps D a w) {b : Nat} (o : Obj) (hb : b < a.heap.size → D b) : Keeps D a (w.putObj b o) :=
  ⟨h.os, h.tape, h.output, by simpa using h.size, fun i hi hd => (heap_put_ne w o (fun e => hd (by subst e; exact hb hi))).trans (h.block i hi hd)⟩
theorem Keeps.below {a w : World} (h : Keeps NoB a w) : Below a.heap.size a w := ⟨h.os, h.tape, h.output, h.size, fun k hk => h.block k hk fun h => h⟩
theorem Keeps.of_below {a w : World} (h : Below a.heap.size a w) : Keeps NoB a w := ⟨h.os, h.tape, h.output, h.size, fun k hk _ => h.block k hk⟩
theorem Keeps.heap {D : Nat → Prop} {a w : World} (h : Keeps D a w) {b : Nat} {o : Obj} (hb : a.heap[b]? = some o) (hd : ¬ D b) : w.heap[b]? = some o := (h.block b (lt_of_heap hb) hd).trans hb

section ops
variable {P : Program} {ops : Array Oper} {Q : Post} {ds : List Deferred} {f : Env} {w w' : World} {rest : List Oper}
variable {d : Option Nat} {ty : TypeId} {pos : String} {af : Array Edge} {g : Option (Nat × Bool)}
theorem wr_v {op : Op} {v : Value} (s : Sem Value) (hw : wantedE ops f ⟨d, op, ty, pos, af, g⟩ = true) (he : execOp (ev f) ⟨d, op, ty, pos, af, g⟩ = (do pure (Next.value (← s)))) (hs : s.run P w = .ok v w')
    (k : Wr P ops Q ds rest (setO f d v) w') : Wr P ops Q ds (⟨d, op, ty, pos, af, g⟩ :: rest) f w :=
  wr_val hw (by rw [he]; simp [hs]) k
theorem wr_u {op : Op} (s : Sem Unit) (hw : wantedE ops f ⟨d, op, ty, pos, af, g⟩ = true) (he : execOp (ev f) ⟨d, op, ty, pos, af, g⟩ = (do s; pure .skip)) (hs : s.run P w = .ok () w')
    (k : Wr P ops Q ds rest (setO f d undef) w') : Wr P ops Q ds (⟨d, op, ty, pos, af, g⟩ :: rest) f w :=
  wr_eff hw (by rw [he]; simp [hs]) k

theorem wr_move {x : Operand} (hw : wantedE ops f ⟨d, .move x, ty, pos, af, g⟩ = true) (k : Wr P ops Q ds rest (setO f d (ev f x)) w) : Wr P ops Q ds (⟨d, .move x, ty, pos, af, g⟩ :: rest) f w := wr_val hw rfl k
theorem wr_assign {x : Operand} (hw : wantedE ops f ⟨d, .assign x, ty, pos, af, g⟩ = true) (k : Wr P ops Q ds rest (setO f d (ev f x)) w) : Wr P ops Q ds (⟨d, .assign x, ty, pos, af, g⟩ :: rest) f w := wr_val hw rfl k
theorem wr_pick {c x y : Operand} {t : Bool} (hw : wantedE ops f ⟨d, .pick c x y, ty, pos, af, g⟩ = true) (hc : ev f c = .bool t) (k : Wr P ops Q ds rest (setO f d (pickB t (ev f x) (ev f y))) w) :
    Wr P ops Q ds (⟨d, .pick c x y, ty, pos, af, g⟩ :: rest) f w := by
  refine wr_val (v := pickB t (ev f x) (ev f y)) hw ?_ k
  show ((do let b ← asBool (ev f c); pure (Next.value (if b = true then ev f x else ev f y)) : Sem Next)).run P w = _
  rw [hc]; cases t <;> rfl
theorem wr_pick_or {c x y : Operand} {t u : Bool} (hw : wantedE ops f ⟨d, .pick c x y, ty, pos, af, g⟩ = true) (hc : ev f c = .bool t) (hx : ev f x = .bool true) (hy : t = false → ev f y = .bool u)
    (k : Wr P ops Q ds rest (setO f d (.bool (t || u))) w) : Wr P ops Q ds (⟨d, .pick c x y, ty, pos, af, g⟩ :: rest) f w := by
  refine wr_pick hw hc ?_
  cases t
  · simpa [hy rfl] using k
  · simpa [hx] using k
theorem wr_pick_and {c x y : Operand} {t u : Bool} (hw : wantedE ops f ⟨d, .pick c x y, ty, pos, af, g⟩ = true) (hc : ev f c = .bool t) (hy : ev f y = .bool false) (hx : t = true → ev f x = .bool u)
    (k : Wr P ops Q ds rest (setO f d (.bool (t && u))) w) : Wr P ops Q ds (⟨d, .pick c x y, ty, pos, af, g⟩ :: rest) f w := by
  refine wr_pick hw hc ?_
  cases t
  · simpa [hy] using k
  · simpa [hx rfl] using k

/-! #### Numbers -/
theorem run_int2 {op : BinOp} {t : TypeId} {x y : Operand} {k : IntKind} {a b : Int} {v : Value} (hx : ev f x = .int k a) (hy : ev f y = .int k b)
    (h : (binOp op t (.int k a) (.int k b)).run P w = .ok v w) : (do eqGuard op t x y (ev f x) (ev f y); binOp op t (ev f x) (ev f y) : Sem Value).run P w = .ok v w := by
  rw [hx, hy]
  have : (eqGuard op t x y (.int k a) (.int k b)).run P w = .ok () w := by cases op <;> rfl
  simp only [Sem.run_bind, this, Result.andThen_ok, h]
theorem wr_int2 {op : BinOp} {t t' : TypeId} {x y : Operand} {k : IntKind} {a b : Int} {v : Value} (hw : wantedE ops f ⟨d, .binOp op t x y t', ty, pos, af, g⟩ = true) (hx : ev f x = .int k a) (hy : ev f y = .int k b)
    (h : (binOp op t (.int k a) (.int k b)).run P w = .ok v w) (kk : Wr P ops Q ds rest (setO f d v) w) : Wr P ops Q ds (⟨d, .binOp op t x y t', ty, pos, af, g⟩ :: rest) f w :=
  wr_v (s := do eqGuard op t x y (ev f x) (ev f y); binOp op t (ev f x) (ev f y)) hw rfl (run_int2 hx hy h) kk
theorem wr_add {t t' : TypeId} {x y : Operand} {k : IntKind} {a b c : Int} (hw : wantedE ops f ⟨d, .binOp .add t x y t', ty, pos, af, g⟩ = true) (hx : ev f x = .int k a) (hy : ev f y = .int k b)
    (hc : k.wrap (a + b) = c) (kk : Wr P ops Q ds rest (setO f d (.int k c)) w) : Wr P ops Q ds (⟨d, .binOp .add t x y t', ty, pos, af, g⟩ :: rest) f w :=
  wr_int2 hw hx hy (by subst hc; simp [binOp, Op.intArith]) kk
theorem wr_sub {t t' : TypeId} {x y : Operand} {k : IntKind} {a b c : Int} (hw : wantedE ops f ⟨d, .binOp .sub t x y t', ty, pos, af, g⟩ = true) (hx : ev f x = .int k a) (hy : ev f y = .int k b)
    (hc : k.wrap (a - b) = c) (kk : Wr P ops Q ds rest (setO f d (.int k c)) w) : Wr P ops Q ds (⟨d, .binOp .sub t x y t', ty, pos, af, g⟩ :: rest) f w :=
  wr_int2 hw hx hy (by subst hc; simp [binOp, Op.intArith]) kk
theorem wr_mul {t t' : TypeId} {x y : Operand} {k : IntKind} {a b c : Int} (hw : wantedE ops f ⟨d, .binOp .mul t x y t', ty, pos, af, g⟩ = true) (hx : ev f x = .int k a) (hy : ev f y = .int k b)
    (hc : k.wrap (a * b) = c) (kk : Wr P ops Q ds rest (setO f d (.int k c)) w) : Wr P ops Q ds (⟨d, .binOp .mul t x y t', ty, pos, af, g⟩ :: rest) f w :=
  wr_int2 hw hx hy (by subst hc; simp [binOp, Op.intArith]) kk
theorem wr_quo {t t' : TypeId} {x y : Operand} {k : IntKind} {a b c : Int} (hw : wantedE ops f ⟨d, .binOp .quo t x y t', ty, pos, af, g⟩ = true) (hx : ev f x = .int k a) (hy : ev f y = .int k b) (hb : b ≠ 0)
    (hc : k.wrap (a.tdiv b) = c) (kk : Wr P ops Q ds rest (setO f d (.int k c)) w) : Wr P ops Q ds (⟨d, .binOp .quo t x y t', ty, pos, af, g⟩ :: rest) f w :=
  wr_int2 hw hx hy (by subst hc; simp [binOp, Op.intDiv, hb]) kk
theorem wr_rem {t t' : TypeId} {x y : Operand} {k : IntKind} {a b c : Int} (hw : wantedE ops f ⟨d, .binOp .rem t x y t', ty, pos, af, g⟩ = true) (hx : ev f x = .int k a) (hy : ev f y = .int k b) (hb : b ≠ 0)
    (hc : a.tmod b = c) (kk : Wr P ops Q ds rest (setO f d (.int k c)) w) : Wr P ops Q ds (⟨d, .binOp .rem t x y t', ty, pos, af, g⟩ :: rest) f w :=
  wr_int2 hw hx hy (by subst hc; simp [binOp, Op.intDiv, hb]) kk
theorem wr_bits {op : BinOp} {t t' : TypeId} {x y : Operand} {k : IntKind} {a b c : Int} (hw : wantedE ops f ⟨d, .binOp op t x y t', ty, pos, af, g⟩ = true) (hop : op = .and ∨ op = .or ∨ op = .xor ∨ op = .andNot) (hx : ev f x = .int k a) (hy : ev f y = .int k b)
    (hc : bits op k a b = c) (kk : Wr P ops Q ds rest (setO f d (.int k c)) w) : Wr P ops Q ds (⟨d, .binOp op t x y t', ty, pos, af, g⟩ :: rest) f w :=
  wr_int2 hw hx hy (by subst hc; rcases hop with rfl | rfl | rfl | rfl <;> simp [binOp, Op.intBits, bits]) kk
theorem wr_cmp {op : BinOp} {t t' : TypeId} {x y : Operand} {k : IntKind} {a b : Int} {c : Bool} (hw : wantedE ops f ⟨d, .binOp op t x y t', ty, pos, af, g⟩ = true) (hx : ev f x = .int k a) (hy : ev f y = .int k b)
    (hc : (Op.intCmp op a b : Sem Value) = pure (.bool c)) (kk : Wr P ops Q ds rest (setO f d (.bool c)) w) : Wr P ops Q ds (⟨d, .binOp op t x y t', ty, pos, af, g⟩ :: rest) f w :=
  wr_int2 hw hx hy (by cases op <;> first | (simp only [binOp, ne_eq, not_true_eq_false, if_false, hc, Sem.run_pure]; done) | (simp only [binOp, ne_eq, not_true_eq_false, if_false, hc]; rfl) | exact nomatch hc) kk
theorem cmp_lt (a b : Int) : (Op.intCmp .lss a b : Sem Value) = pure (.bool (decide (a < b))) := rfl
theorem cmp_le (a b : Int) : (Op.intCmp .leq a b : Sem Value) = pure (.bool (decide (a ≤ b))) := rfl
theorem cmp_gt (a b : Int) : (Op.intCmp .gtr a b : Sem Value) = pure (.bool (decide (b < a))) := rfl
theorem cmp_ge (a b : Int) : (Op.intCmp .geq a b : Sem Value) = pure (.bool (decide (b ≤ a))) := rfl
theorem cmp_eq (a b : Int) : (Op.intCmp .eql a b : Sem Value) = pure (.bool (decide (a = b))) := by
  simp only [Op.intCmp]; rfl
theorem cmp_ne (a b : Int) : (Op.intCmp .neq a b : Sem Value) = pure (.bool (decide (a ≠ b))) := by
  simp only [Op.intCmp]
  congr 2
  by_cases h : a = b <;> simp [h]
theorem cmp_lt_t {a b : Int} (h : a < b) : (Op.intCmp .lss a b : Sem Value) = pure (.bool true) := by rw [cmp_lt, decide_eq_true h]
theorem cmp_lt_f {a b : Int} (h : b ≤ a) : (Op.intCmp .lss a b : Sem Value) = pure (.bool false) := by rw [cmp_lt, decide_eq_false (by omega)]
theorem cmp_le_t {a b : Int} (h : a ≤ b) : (Op.intCmp .leq a b : Sem Value) = pure (.bool true) := by rw [cmp_le, decide_eq_true h]
theorem cmp_le_f {a b : Int} (h : b < a) : (Op.intCmp .leq a b : Sem Value) = pure (.bool false) := by rw [cmp_le, decide_eq_false (by omega)]
theorem cmp_gt_t {a b : Int} (h : b < a) : (Op.intCmp .gtr a b : Sem Value) = pure (.bool true) := by rw [cmp_gt, decide_eq_true h]
theorem cmp_gt_f {a b : Int} (h : a ≤ b) : (Op.intCmp .gtr a b : Sem Value) = pure (.bool false) := by rw [cmp_gt, decide_eq_false (by omega)]
theorem cmp_ge_t {a b : Int} (h : b ≤ a) : (Op.intCmp .geq a b : Sem Value) = pure (.bool true) := by rw [cmp_ge, decide_eq_true h]
theorem cmp_ge_f {a b : Int} (h : a < b) : (Op.intCmp .geq a b : Sem Value) = pure (.bool false) := by rw [cmp_ge, decide_eq_false (by omega)]
theorem cmp_eq_t {a b : Int} (h : a = b) : (Op.intCmp .eql a b : Sem Value) = pure (.bool true) := by rw [cmp_eq, decide_eq_true h]
theorem cmp_eq_f {a b : Int} (h : a ≠ b) : (Op.intCmp .eql a b : Sem Value) = pure (.bool false) := by rw [cmp_eq, decide_eq_false h]
theorem cmp_ne_t {a b : Int} (h : a ≠ b) : (Op.intCmp .neq a b : Sem Value) = pure (.bool true) := by rw [cmp_ne, decide_eq_true h]
theorem cmp_ne_f {a b : Int} (h : a = b) : (Op.intCmp .neq a b : Sem Value) = pure (.bool false) := by rw [cmp_ne, decide_eq_false (by simpa using h)]
theorem wr_shl {t t' : TypeId} {x y : Operand} {k k' : IntKind} {a b c : Int} (hw : wantedE ops f ⟨d, .binOp .shl t x y t', ty, pos, af, g⟩ = true) (hx : ev f x = .int k a) (hy : ev f y = .int k' b) (hb : 0 ≤ b)
    (hc : k.wrap (a * 2 ^ (min b.toNat k.bits)) = c) (kk : Wr P ops Q ds rest (setO f d (.int k c)) w) : Wr P ops Q ds (⟨d, .binOp .shl t x y t', ty, pos, af, g⟩ :: rest) f w := by
  refine wr_v (s := do eqGuard .shl t x y (ev f x) (ev f y); binOp .shl t (ev f x) (ev f y)) (v := .int k c) hw rfl ?_ kk
  rw [hx, hy]; subst hc
  simp [eqGuard, binOp, Op.shift, show ¬ b < 0 by omega]
theorem wr_shr {t t' : TypeId} {x y : Operand} {k k' : IntKind} {a b c : Int} (hw : wantedE ops f ⟨d, .binOp .shr t x y t', ty, pos, af, g⟩ = true) (hx : ev f x = .int k a) (hy : ev f y = .int k' b) (hb : 0 ≤ b)
    (hc : a.fdiv (2 ^ (min b.toNat k.bits)) = c) (kk : Wr P ops Q ds rest (setO f d (.int k c)) w) : Wr P ops Q ds (⟨d, .binOp .shr t x y t', ty, pos, af, g⟩ :: rest) f w := by
  refine wr_v (s := do eqGuard .shr t x y (ev f x) (ev f y); binOp .shr t (ev f x) (ev f y)) (v := .int k c) hw rfl ?_ kk
  rw [hx, hy]; subst hc
  simp [eqGuard, binOp, Op.shift, show ¬ b < 0 by omega]
theorem wr_shrN {t t' : TypeId} {x y : Operand} {k k' : IntKind} {n : Nat} (s : Nat) (hw : wantedE ops f ⟨d, .binOp .shr t x y t', ty, pos, af, g⟩ = true) (hx : ev f x = .int k (n : Int)) (hy : ev f y = .int k' (s : Int)) (hs : s ≤ k.bits)
    (kk : Wr P ops Q ds rest (setO f d (.int k ((n / 2 ^ s : Nat) : Int))) w) : Wr P ops Q ds (⟨d, .binOp .shr t x y t', ty, pos, af, g⟩ :: rest) f w := by
  refine wr_shr hw hx hy (by omega) ?_ kk
  rw [Int.toNat_natCast, Nat.min_eq_left hs, Int.fdiv_eq_ediv_of_nonneg _ (Int.le_of_lt (Int.pow_pos (by decide)))]
  simp
theorem wr_shlN {t t' : TypeId} {x y : Operand} {k k' : IntKind} {n : Nat} {c : Int} (s : Nat) (hw : wantedE ops f ⟨d, .binOp .shl t x y t', ty, pos, af, g⟩ = true) (hx : ev f x = .int k (n : Int)) (hy : ev f y = .int k' (s : Int)) (hs : s ≤ k.bits)
    (hc : k.wrap ((n * 2 ^ s : Nat) : Int) = c) (kk : Wr P ops Q ds rest (setO f d (.int k c)) w) : Wr P ops Q ds (⟨d, .binOp .shl t x y t', ty, pos, af, g⟩ :: rest) f w := by
  refine wr_shl hw hx hy (by omega) ?_ kk
  rw [Int.toNat_natCast, Nat.min_eq_left hs, ← hc]
  simp
theorem wr_conv {s t : TypeId} {x : Operand} {k k' : IntKind} {a c : Int} {sd : TypeDesc} [U : Und P s sd] [V : Und P t (.int k)] (hw : wantedE ops f ⟨d, .convert s t x, ty, pos, af, g⟩ = true) (hx : ev f x = .int k' a)
    (hc : k.wrap a = c) (kk : Wr P ops Q ds rest (setO f d (.int k c)) w) : Wr P ops Q ds (⟨d, .convert s t x, ty, pos, af, g⟩ :: rest) f w := by
  refine wr_v (s := convert s t (ev f x)) (v := .int k c) hw rfl ?_ kk
  rw [hx]; subst hc
  simp only [convert, Sem.run_bind, run_und U, run_und V, Result.andThen_ok]
  cases sd <;> rfl
theorem wr_not {t : TypeId} {x : Operand} {b : Bool} (hw : wantedE ops f ⟨d, .unOp .not t x, ty, pos, af, g⟩ = true) (hx : ev f x = .bool b) (kk : Wr P ops Q ds rest (setO f d (.bool (!b))) w) :
    Wr P ops Q ds (⟨d, .unOp .not t x, ty, pos, af, g⟩ :: rest) f w :=
  wr_v (s := Op.unary .not (ev f x)) hw rfl (by rw [hx]; rfl) kk
theorem wr_extract {x : Operand} {i : Nat} {vs : Array Value} {v : Value} (hw : wantedE ops f ⟨d, .extract x i, ty, pos, af, g⟩ = true) (hx : ev f x = .tuple vs) (hv : vs[i]? = some v) (kk : Wr P ops Q ds rest (setO f d v) w) :
    Wr P ops Q ds (⟨d, .extract x i, ty, pos, af, g⟩ :: rest) f w :=
  wr_v (s := Instr.extract (ev f x) i) hw rfl (by rw [hx]; simp [Instr.extract, hv]) kk
end ops
end Go.V
