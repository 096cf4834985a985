/- The calculus, third text: strings; memory; slices; calls. -/
import Derived.Test.YthlbgeonobicbaaDoorV2
import Derived.Laws.Append
import Derived.Laws.AppendOwn
import Derived.Laws.AppendOwnNone
import Derived.Laws.MakeOwn
import Derived.Laws.OwnMore
import Derived.Laws.BytesString
import Derived.Laws.Strings2
import Derived.Laws.Strings3
import Derived.Laws.Concat
import Derived.Laws.Cells
import Derived.Laws.CopyRow
import Derived.WalkArith
namespace Go.V
open Go.RowKit
set_option linter.unusedVariables false
set_option linter.unusedSimpArgs false

section ops
variable {P : Program} {ops : Array Oper} {Q : Post} {ds : List Deferred} {f : Env} {w w' : World} {rest : List Oper}
variable {d : Option Nat} {ty : TypeId} {pos : String} {af : Array Edge} {g : Option (Nat × Bool)}

/-! #### Strings -/
theorem S_size (l : List UInt8) : (⟨l.toArray⟩ : ByteArray).size = l.length := by simp [ByteArray.size]
theorem S_get (l : List UInt8) (i : Nat) : (⟨l.toArray⟩ : ByteArray)[i]? = l[i]? := by
  by_cases h : i < l.length
  · rw [ByteArray.getElem?_lt' _ _ (by rw [S_size]; exact h), List.getElem?_eq_getElem h]; rfl
  · rw [ByteArray.getElem?_ge' _ _ (by rw [S_size]; exact h), List.getElem?_eq_none (by omega)]
theorem run_str2 {op : BinOp} {t : TypeId} {x y : Operand} {a b : List UInt8} {v : Value} (hx : ev f x = S a) (hy : ev f y = S b)
    (h : (Op.stringOp op ⟨a.toArray⟩ ⟨b.toArray⟩).run P w = .ok v w) : (do eqGuard op t x y (ev f x) (ev f y); binOp op t (ev f x) (ev f y) : Sem Value).run P w = .ok v w := by
  rw [hx, hy]
  have h1 : (eqGuard op t x y (S a) (S b)).run P w = .ok () w := by cases op <;> rfl
  have h2 : binOp op t (S a) (S b) = Op.stringOp op ⟨a.toArray⟩ ⟨b.toArray⟩ := by cases op <;> rfl
  simp only [Sem.run_bind, h1, Result.andThen_ok, h2, h]
theorem wr_str2 {op : BinOp} {t t' : TypeId} {x y : Operand} {a b : List UInt8} {v : Value} (hw : wantedE ops f ⟨d, .binOp op t x y t', ty, pos, af, g⟩ = true) (hx : ev f x = S a) (hy : ev f y = S b)
    (h : (Op.stringOp op ⟨a.toArray⟩ ⟨b.toArray⟩).run P w = .ok v w) (kk : Wr P ops Q ds rest (setO f d v) w) : Wr P ops Q ds (⟨d, .binOp op t x y t', ty, pos, af, g⟩ :: rest) f w :=
  wr_v (s := do eqGuard op t x y (ev f x) (ev f y); binOp op t (ev f x) (ev f y)) hw rfl (run_str2 hx hy h) kk
theorem wr_cat {t t' : TypeId} {x y : Operand} {a b : List UInt8} (hw : wantedE ops f ⟨d, .binOp .add t x y t', ty, pos, af, g⟩ = true) (hx : ev f x = S a) (hy : ev f y = S b)
    (h : a.length + b.length ≤ 9223372036854775807) (kk : Wr P ops Q ds rest (setO f d (S (a ++ b))) w) : Wr P ops Q ds (⟨d, .binOp .add t x y t', ty, pos, af, g⟩ :: rest) f w :=
  wr_str2 hw hx hy (by rw [run_string_add_sum _ _ _ (by rw [S_size, S_size]; exact h), ByteArray.mk_append_mk]) kk
theorem wr_streq {t t' : TypeId} {x y : Operand} {a b : List UInt8} (hw : wantedE ops f ⟨d, .binOp .eql t x y t', ty, pos, af, g⟩ = true) (hx : ev f x = S a) (hy : ev f y = S b)
    (kk : Wr P ops Q ds rest (setO f d (.bool (decide (a = b)))) w) : Wr P ops Q ds (⟨d, .binOp .eql t x y t', ty, pos, af, g⟩ :: rest) f w := by
  refine wr_str2 (v := .bool (decide (a = b))) hw hx hy ?_ kk
  simp only [Op.stringOp, ByteArray.toList_mk, Sem.run_pure]
  congr 2
  by_cases h : a = b <;> simp [h]
theorem wr_strne {t t' : TypeId} {x y : Operand} {a b : List UInt8} (hw : wantedE ops f ⟨d, .binOp .neq t x y t', ty, pos, af, g⟩ = true) (hx : ev f x = S a) (hy : ev f y = S b)
    (kk : Wr P ops Q ds rest (setO f d (.bool (decide (a ≠ b)))) w) : Wr P ops Q ds (⟨d, .binOp .neq t x y t', ty, pos, af, g⟩ :: rest) f w := by
  refine wr_str2 (v := .bool (decide (a ≠ b))) hw hx hy ?_ kk
  simp only [Op.stringOp, ByteArray.toList_mk, Sem.run_pure]
  congr 2
  by_cases h : a = b <;> simp [h]
theorem wr_streqc {t t' : TypeId} {x y : Operand} {a b : List UInt8} {c : Bool} (hw : wantedE ops f ⟨d, .binOp .eql t x y t', ty, pos, af, g⟩ = true) (hx : ev f x = S a) (hy : ev f y = S b) (hc : decide (a = b) = c)
    (kk : Wr P ops Q ds rest (setO f d (.bool c)) w) : Wr P ops Q ds (⟨d, .binOp .eql t x y t', ty, pos, af, g⟩ :: rest) f w := by
  subst hc; exact wr_streq hw hx hy kk
theorem wr_strnec {t t' : TypeId} {x y : Operand} {a b : List UInt8} {c : Bool} (hw : wantedE ops f ⟨d, .binOp .neq t x y t', ty, pos, af, g⟩ = true) (hx : ev f x = S a) (hy : ev f y = S b) (hc : decide (a = b) = c)
    (kk : Wr P ops Q ds rest (setO f d (.bool (!c))) w) : Wr P ops Q ds (⟨d, .binOp .neq t x y t', ty, pos, af, g⟩ :: rest) f w := by
  subst hc; refine wr_strne hw hx hy ?_
  rw [show decide (a ≠ b) = !decide (a = b) by by_cases h : a = b <;> simp [h]]; exact kk
theorem wr_strcmp {op : BinOp} {t t' : TypeId} {x y : Operand} {a b : List UInt8} {c : Bool} (hw : wantedE ops f ⟨d, .binOp op t x y t', ty, pos, af, g⟩ = true) (hx : ev f x = S a) (hy : ev f y = S b)
    (hc : (op = .lss ∧ c = Op.bytesLess a b) ∨ (op = .leq ∧ c = (Op.bytesLess a b || a == b)) ∨ (op = .gtr ∧ c = !(Op.bytesLess a b || a == b)) ∨ (op = .geq ∧ c = !Op.bytesLess a b))
    (kk : Wr P ops Q ds rest (setO f d (.bool c)) w) : Wr P ops Q ds (⟨d, .binOp op t x y t', ty, pos, af, g⟩ :: rest) f w := by
  refine wr_str2 (v := .bool c) hw hx hy ?_ kk
  rcases hc with ⟨rfl, rfl⟩ | ⟨rfl, rfl⟩ | ⟨rfl, rfl⟩ | ⟨rfl, rfl⟩ <;> simp only [Op.stringOp, ByteArray.toList_mk, Sem.run_pure]
theorem wr_len_str {t : TypeId} {x : Operand} {l : List UInt8} [U : Und P t .string] (hw : wantedE ops f ⟨d, .call { callee := .builtin .len, args := #[x], argTypes := #[t] }, ty, pos, af, g⟩ = true) (hx : ev f x = S l)
    (kk : Wr P ops Q ds rest (setO f d (.int .i64 (l.length : Int))) w) : Wr P ops Q ds (⟨d, .call { callee := .builtin .len, args := #[x], argTypes := #[t] }, ty, pos, af, g⟩ :: rest) f w := by
  refine wr_val (v := .int .i64 (l.length : Int)) hw ?_ kk
  simp [execOp, resolve, invoke, builtin, Builtin.len_, hx, run_und U, goInt, S_size, -ByteArray.size_data]
theorem wr_len_slice {t e : TypeId} {x : Operand} {a : Option Addr} {n c : Nat} [U : Und P t (.slice e)] (hw : wantedE ops f ⟨d, .call { callee := .builtin .len, args := #[x], argTypes := #[t] }, ty, pos, af, g⟩ = true) (hx : ev f x = .slice a n c)
    (kk : Wr P ops Q ds rest (setO f d (.int .i64 (n : Int))) w) : Wr P ops Q ds (⟨d, .call { callee := .builtin .len, args := #[x], argTypes := #[t] }, ty, pos, af, g⟩ :: rest) f w := by
  refine wr_val (v := .int .i64 (n : Int)) hw ?_ kk
  simp [execOp, resolve, invoke, builtin, Builtin.len_, hx, run_und U, goInt]
theorem wr_min {t t' : TypeId} {x y : Operand} {k : IntKind} {a b c : Int} (hw : wantedE ops f ⟨d, .call { callee := .builtin .min, args := #[x, y], argTypes := #[t, t'] }, ty, pos, af, g⟩ = true) (hx : ev f x = .int k a) (hy : ev f y = .int k b)
    (hc : (if b < a then b else a) = c) (kk : Wr P ops Q ds rest (setO f d (.int k c)) w) : Wr P ops Q ds (⟨d, .call { callee := .builtin .min, args := #[x, y], argTypes := #[t, t'] }, ty, pos, af, g⟩ :: rest) f w := by
  refine wr_val (v := .int k c) hw ?_ kk
  subst hc
  simp [execOp, resolve, invoke, builtin, Builtin.min_, Builtin.min2, hx, hy]
theorem wr_max {t t' : TypeId} {x y : Operand} {k : IntKind} {a b c : Int} (hw : wantedE ops f ⟨d, .call { callee := .builtin .max, args := #[x, y], argTypes := #[t, t'] }, ty, pos, af, g⟩ = true) (hx : ev f x = .int k a) (hy : ev f y = .int k b)
    (hc : (if b > a then b else a) = c) (kk : Wr P ops Q ds rest (setO f d (.int k c)) w) : Wr P ops Q ds (⟨d, .call { callee := .builtin .max, args := #[x, y], argTypes := #[t, t'] }, ty, pos, af, g⟩ :: rest) f w := by
  refine wr_val (v := .int k c) hw ?_ kk
  subst hc
  simp [execOp, resolve, invoke, builtin, Builtin.max_, Builtin.max2, hx, hy]
theorem wr_index_str {t : TypeId} {x y : Operand} {l : List UInt8} {k : IntKind} {i : Int} {b : UInt8} [U : Und P t .string] (hw : wantedE ops f ⟨d, .index t x y, ty, pos, af, g⟩ = true) (hx : ev f x = S l) (hy : ev f y = .int k i)
    (h0 : 0 ≤ i) (hb : l[i.toNat]? = some b) (kk : Wr P ops Q ds rest (setO f d (.int .u8 (b.toNat : Int))) w) : Wr P ops Q ds (⟨d, .index t x y, ty, pos, af, g⟩ :: rest) f w := by
  refine wr_v (s := Instr.index t (ev f x) (ev f y)) (v := .int .u8 (b.toNat : Int)) hw rfl ?_ kk
  simp only [Instr.index, hx, hy, asIntOf, Sem.run_bind, Sem.run_pure, Result.andThen_ok, run_und U, if_pos h0, S_get, hb]
/-- s[lo:hi] of a string. -/
theorem run_sl_str {t : TypeId} {l : List UInt8} {lo hi : Option Value} {i j : Nat} (U : Und P t .string) (hj : hi = none ∧ j = l.length ∨ ∃ k, hi = some (.int k (j : Int)) ∧ j ≤ l.length) (hi' : lo = none ∧ i = 0 ∨ ∃ k, lo = some (.int k (i : Int)) ∧ i ≤ j) :
    (Instr.sliceAt t (S l) lo hi none).run P w = .ok (S ((l.drop i).take (j - i))) w := by
  have hb : ∀ (k : IntKind) (n y : Nat) (c : BoundsCode), n ≤ y → (Instr.sliceBound (.int k (n : Int)) y c).run P w = .ok n w := fun k n y c h => by
    simp only [Instr.sliceBound, asIntOf, Sem.run_bind, Sem.run_pure, Result.andThen_ok]
    rw [if_pos ⟨by omega, by omega⟩]; simp
  have hs : (Instr.sliceBounds false (⟨l.toArray⟩ : ByteArray).size (⟨l.toArray⟩ : ByteArray).size lo hi none).run P w = .ok (i, j, l.length) w := by
    rw [S_size]
    rcases hj with ⟨rfl, rfl⟩ | ⟨k, rfl, hj⟩ <;> rcases hi' with ⟨rfl, rfl⟩ | ⟨k', rfl, hi'⟩ <;> simp only [Instr.sliceBounds, Sem.run_bind, Sem.run_pure, Result.andThen_ok]
    · rw [hb k' i _ _ hi']; simp
    · rw [hb k j _ _ (by simpa using hj)]; simp
    · rw [hb k j _ _ (by simpa using hj)]; simp only [Result.andThen_ok]; rw [hb k' i _ _ hi']; simp
  simp only [Instr.sliceAt, Instr.slice, Sem.run_bind, run_und U, Result.andThen_ok, Option.isSome_none, Bool.false_eq_true, if_false, hs, Sem.run_pure]
  rw [ByteArray.extract_mk]
theorem wr_sl_str {t : TypeId} {x : Operand} {lo hi : Option Operand} {l : List UInt8} {i j : Nat} [U : Und P t .string] (hw : wantedE ops f ⟨d, .slice t x lo hi none, ty, pos, af, g⟩ = true) (hx : ev f x = S l)
    (hj : hi.map (ev f) = none ∧ j = l.length ∨ ∃ k, hi.map (ev f) = some (.int k (j : Int)) ∧ j ≤ l.length) (hi' : lo.map (ev f) = none ∧ i = 0 ∨ ∃ k, lo.map (ev f) = some (.int k (i : Int)) ∧ i ≤ j)
    (kk : Wr P ops Q ds rest (setO f d (S ((l.drop i).take (j - i)))) w) : Wr P ops Q ds (⟨d, .slice t x lo hi none, ty, pos, af, g⟩ :: rest) f w :=
  wr_v (s := Instr.sliceAt t (ev f x) (lo.map (ev f)) (hi.map (ev f)) none) hw rfl (by rw [hx]; exact run_sl_str U hj hi') kk

/-! #### Memory -/
theorem wr_alloc {t : TypeId} {z : Value} {s b : Nat} [I : Info P t z s b] (hw : wantedE ops f ⟨d, .alloc t, ty, pos, af, g⟩ = true)
    (kk : Wr P ops Q ds rest (setO f d (.pointer (some ⟨w.heap.size, 0, none⟩))) (w.alloc (.cells z.cells t))) : Wr P ops Q ds (⟨d, .alloc t, ty, pos, af, g⟩ :: rest) f w := by
  refine wr_v (s := Instr.alloc t true (.tuple #[])) (v := .pointer (some ⟨w.heap.size, 0, none⟩)) (w' := w.alloc (.cells z.cells t)) hw rfl ?_ kk
  simp only [Instr.alloc, Sem.run_bind, run_zero I, Result.andThen_ok, newVar, newRow, run_newObj, Sem.run_pure]; rfl
theorem wr_box {t : TypeId} {x : Operand} {v : Value} (hw : wantedE ops f ⟨d, .box t x, ty, pos, af, g⟩ = true) (hx : ev f x = v)
    (kk : Wr P ops Q ds rest (setO f d (.pointer (some ⟨w.heap.size, 0, none⟩))) (w.alloc (.cells v.cells t))) : Wr P ops Q ds (⟨d, .box t x, ty, pos, af, g⟩ :: rest) f w := by
  refine wr_v (s := Instr.box t (ev f x)) (v := .pointer (some ⟨w.heap.size, 0, none⟩)) (w' := w.alloc (.cells v.cells t)) hw rfl ?_ kk
  subst hx
  simp only [Instr.box, Sem.run_bind, Result.andThen_ok, newVar, newRow, run_newObj, Sem.run_pure]; rfl
theorem run_fieldPlace {t i : Nat} {k m : Nat} {ft : TypeId} (F : Fld P t i k ft m) (b o : Nat) : (Instr.fieldAt t (.pointer (some ⟨b, o, none⟩)) i).run P w = .ok (.pointer (some ⟨b, o + k, none⟩)) w := by
  obtain ⟨fs, fl, h1, h2, h3, h4, h5, h6, h7⟩ := F.h
  have hsz : (sizeOf ft).run P w = .ok m w := by
    cases hi : P.info? ft with
    | none => rw [hi] at h6; cases h6
    | some inf => rw [hi] at h6; simp at h6; simp [sizeOf, typeInfo, hi, h6]
  simp only [Instr.fieldAt, underlying, Sem.run_bind, run_program, Result.andThen_ok, h1, Sem.run_pure, h2, Instr.sureAddr, fieldPlace, h4, hsz]
  rw [if_neg h7]
  simp only [Sem.run_pure, Result.andThen_ok, h3, Addr.add]
  split
  · rename_i e; subst e; rfl
  · rfl
theorem wr_fieldAddr {t i : Nat} {x : Operand} {k m b o : Nat} {ft : TypeId} [F : Fld P t i k ft m] (hw : wantedE ops f ⟨d, .fieldAddr t x i, ty, pos, af, g⟩ = true) (hx : ev f x = .pointer (some ⟨b, o, none⟩))
    (kk : Wr P ops Q ds rest (setO f d (.pointer (some ⟨b, o + k, none⟩))) w) : Wr P ops Q ds (⟨d, .fieldAddr t x i, ty, pos, af, g⟩ :: rest) f w :=
  wr_v (s := Instr.fieldAt t (ev f x) i) hw rfl (by rw [hx]; exact run_fieldPlace F b o) kk
theorem run_load1 {t : TypeId} {D : TypeDesc} (U : Und P t D) (hD : isAggD D = false) {b o : Nat} {v : Value} (hv : w.cell? ⟨b, o, none⟩ = some v) : (loadVar t ⟨b, o, none⟩).run P w = .ok v w := by
  simp only [loadVar, Sem.run_bind, run_isAgg' U, Result.andThen_ok, hD, Bool.false_eq_true, if_false, run_load, hv]
theorem wr_load {t : TypeId} {D : TypeDesc} {x : Operand} {b o : Nat} {c : Array Value} {e : TypeId} {fr : Nat × Nat} {v : Value} [U : Und P t D] (hw : wantedE ops f ⟨d, .load t x, ty, pos, af, g⟩ = true) (hD : isAggD D = false) (hx : ev f x = .pointer (some ⟨b, o, none⟩))
    (hb : w.heap[b]? = some (.cells c e fr)) (hv : c[o]? = some v) (kk : Wr P ops Q ds rest (setO f d v) w) : Wr P ops Q ds (⟨d, .load t x, ty, pos, af, g⟩ :: rest) f w :=
  wr_v (s := Instr.loadAt t (ev f x)) hw rfl (by rw [hx]; simp only [Instr.loadAt, Instr.sureAddr, Sem.run_bind, Sem.run_pure, Result.andThen_ok]; exact run_load1 U hD (cell_of_heap hb hv)) kk
theorem addr_add (b o k : Nat) : (⟨b, o, none⟩ : Addr).add k = ⟨b, o + k, none⟩ := by
  unfold Addr.add; split
  · rename_i e; subst e; rfl
  · rfl
theorem run_loadAgg {t : TypeId} {D : TypeDesc} {z : Value} {n by' : Nat} (U : Und P t D) (I : Info P t z n by') (hD : isAggD D = true) {b o : Nat} {cs : List Value} (hl : cs.length = n)
    (hv : ∀ j u, cs[j]? = some u → w.cell? ⟨b, o + j, none⟩ = some u) : (loadVar t ⟨b, o, none⟩).run P w = .ok (.agg cs.toArray) w := by
  have hc : (loadCells ⟨b, o, none⟩ n).run P w = .ok cs.toArray w := by
    rw [← hl]; exact run_loadCells_list w _ cs (fun j v h => by rw [addr_add]; exact hv j v h)
  simp only [loadVar, Sem.run_bind, run_isAgg' U, Result.andThen_ok, hD, if_true, run_sizeOf' I, hc, Sem.run_pure]
theorem wr_loadAgg {t : TypeId} {D : TypeDesc} {z : Value} {n by' : Nat} {x : Operand} {b o : Nat} {cs : List Value} [U : Und P t D] [I : Info P t z n by'] (hw : wantedE ops f ⟨d, .load t x, ty, pos, af, g⟩ = true) (hD : isAggD D = true) (hx : ev f x = .pointer (some ⟨b, o, none⟩))
    (hl : cs.length = n) (hv : ∀ j u, cs[j]? = some u → w.cell? ⟨b, o + j, none⟩ = some u) (kk : Wr P ops Q ds rest (setO f d (.agg cs.toArray)) w) : Wr P ops Q ds (⟨d, .load t x, ty, pos, af, g⟩ :: rest) f w :=
  wr_v (s := Instr.loadAt t (ev f x)) hw rfl (by rw [hx]; simp only [Instr.loadAt, Instr.sureAddr, Sem.run_bind, Sem.run_pure, Result.andThen_ok]; exact run_loadAgg U I hD hl hv) kk
/-- A whole variable of a struct or array type. -/
theorem wr_loadAll {t : TypeId} {D : TypeDesc} {z : Value} {n by' : Nat} {x : Operand} {b : Nat} {cs : List Value} {e : TypeId} {fr : Nat × Nat} [U : Und P t D] [I : Info P t z n by'] (hw : wantedE ops f ⟨d, .load t x, ty, pos, af, g⟩ = true) (hD : isAggD D = true) (hx : ev f x = .pointer (some ⟨b, 0, none⟩))
    (hb : w.heap[b]? = some (.cells cs.toArray e fr)) (hl : cs.length = n) (kk : Wr P ops Q ds rest (setO f d (.agg cs.toArray)) w) : Wr P ops Q ds (⟨d, .load t x, ty, pos, af, g⟩ :: rest) f w :=
  wr_loadAgg hw hD hx hl (fun j u h => cell_of_heap hb (by simpa using h)) kk
theorem wr_store {t : TypeId} {z : Value} {by' : Nat} {x y : Operand} {b o : Nat} {c : Array Value} {e : TypeId} {u v : Value} [I : Info P t z 1 by'] (hw : wantedE ops f ⟨d, .store t x y, ty, pos, af, g⟩ = true) (hx : ev f x = .pointer (some ⟨b, o, none⟩)) (hy : ev f y = v)
    (h1 : v.oneCell' = true) (hb : w.heap[b]? = some (.cells c e (0, 0))) (hu : c[o]? = some u) (kk : Wr P ops Q ds rest (setO f d undef) (w.putObj b (.cells (c.setIfInBounds o v) e (0, 0)))) : Wr P ops Q ds (⟨d, .store t x y, ty, pos, af, g⟩ :: rest) f w := by
  refine wr_u (s := Instr.storeAt t (ev f x) (ev f y)) (w' := w.putObj b (.cells (c.setIfInBounds o v) e (0, 0))) hw rfl ?_ kk
  have hcells : v.cells = #[v] := by cases v <;> first | rfl | simp [Value.oneCell'] at h1
  rw [hx, hy]
  simp only [Instr.storeAt, Instr.sureAddr, storeVar, Sem.run_bind, Sem.run_pure, Result.andThen_ok, run_sizeOf' I, hcells]
  simp only [List.size_toArray, List.length_cons, List.length_nil, Nat.zero_add, ne_eq, not_true_eq_false, if_false, Sem.run_pure, Result.andThen_ok, storeCells, Sem.run_bind, addr_add, Nat.add_zero]
  rw [run_store P w ⟨b, o, none⟩ v .plain h1, cell_of_heap hb hu]
  simp only [frozen_of_heap hb, Bool.false_eq_true, if_false, Result.andThen_ok, set_of_heap v hb]
/-- A whole variable of a struct or array type is written. -/
theorem wr_storeAll {t : TypeId} {z : Value} {n by' : Nat} {x y : Operand} {b : Nat} {c : Array Value} {e : TypeId} {cs : List Value} [I : Info P t z n by'] (hw : wantedE ops f ⟨d, .store t x y, ty, pos, af, g⟩ = true) (hx : ev f x = .pointer (some ⟨b, 0, none⟩)) (hy : ev f y = .agg cs.toArray)
    (h1 : ∀ u ∈ cs, u.oneCell' = true) (hb : w.heap[b]? = some (.cells c e (0, 0))) (hl : cs.length = n) (hc : c.size = n) (kk : Wr P ops Q ds rest (setO f d undef) (w.putObj b (.cells cs.toArray e (0, 0)))) : Wr P ops Q ds (⟨d, .store t x y, ty, pos, af, g⟩ :: rest) f w := by
  refine wr_u (s := Instr.storeAt t (ev f x) (ev f y)) (w' := w.putObj b (.cells cs.toArray e (0, 0))) hw rfl ?_ kk
  rw [hx, hy]
  simp only [Instr.storeAt, Instr.sureAddr, storeVar, Sem.run_bind, Sem.run_pure, Result.andThen_ok, run_sizeOf' I, Value.cells, List.size_toArray, hl, ne_eq, not_true_eq_false, if_false]
  have hst := run_storeCells_at P b 0 e cs 0 c w hb (by omega) h1
  rw [hst]
  have hd' : c.toList.drop (0 + 0 + cs.length) = [] := List.drop_eq_nil_of_le (by simp [hl, hc])
  rw [hd']
  simp only [Nat.add_zero, List.take_zero, List.nil_append, List.append_nil]
  congr 1
  obtain ⟨hlt, hwb⟩ := Array.getElem?_eq_some_iff.1 hb
  unfold World.setRow World.putObj
  congr 1
  apply Array.ext_getElem?
  intro i
  rw [Array.getElem?_modify, Array.getElem?_setIfInBounds]
  by_cases e : b = i
  · subst e; simp [hlt, hwb]
  · simp [e]

/-! #### Calls -/
theorem wr_call {h : FuncId} [E : Ent P h] {args : Array Operand} {ats : Array TypeId} {vs : List Value} {R : Value → World → Prop} (hw : wantedE ops f ⟨d, .call { callee := .value (.func h), args := args, argTypes := ats }, ty, pos, af, g⟩ = true)
    (hc : Ca P h vs.toArray w R) (hargs : args.toList.map (ev f) = vs) (kk : ∀ v w', R v w' → Wr P ops Q ds rest (setO f d v) w') : Wr P ops Q ds (⟨d, .call { callee := .value (.func h), args := args, argTypes := ats }, ty, pos, af, g⟩ :: rest) f w := by
  refine wr_step hw ?_
  have hm : args.map (ev f) = vs.toArray := by
    rw [← hargs]; apply Array.toList_inj.1; simp
  have : (execOp (ev f) ⟨d, .call { callee := .value (.func h), args := args, argTypes := ats }, ty, pos, af, g⟩).run P w = .ok (.enter h vs.toArray) w := by
    simp only [execOp, resolve, hm, ev, Deferred.ofValue, Sem.run_bind, Sem.run_pure, Result.andThen_ok, invoke, Array.empty_append, Array.append_empty]
    exact callFunc_run E.h _ _
  rw [this]
  exact hc.inn _ kk
/-- A call of a function value. -/
theorem wr_callv {x : Operand} {args : Array Operand} {ats : Array TypeId} {fv : Value} {vs : List Value} {R : Value → World → Prop} (hw : wantedE ops f ⟨d, .call { callee := .value x, args := args, argTypes := ats }, ty, pos, af, g⟩ = true)
    (hc : CallV P fv vs.toArray w R) (hx : ev f x = fv) (hargs : args.toList.map (ev f) = vs) (kk : ∀ v w', R v w' → Wr P ops Q ds rest (setO f d v) w') : Wr P ops Q ds (⟨d, .call { callee := .value x, args := args, argTypes := ats }, ty, pos, af, g⟩ :: rest) f w := by
  refine wr_step hw ?_
  have hm : args.map (ev f) = vs.toArray := by
    rw [← hargs]; apply Array.toList_inj.1; simp
  have : execOp (ev f) ⟨d, .call { callee := .value x, args := args, argTypes := ats }, ty, pos, af, g⟩ = (do let d ← Deferred.ofValue fv vs.toArray; invoke d.target d.args) := by
    simp only [execOp, resolve, hm, hx]
  rw [this]
  exact upE_mono kk hc.up
theorem wr_makeFunc {fn : Fn} {fi ca : Array Operand} {v1 v2 : List Value} (hw : wantedE ops f ⟨d, .makeFunc fn fi ca, ty, pos, af, g⟩ = true) (h1 : fi.toList.map (ev f) = v1) (h2 : ca.toList.map (ev f) = v2)
    (kk : Wr P ops Q ds rest (setO f d (.func fn v1.toArray v2.toArray)) w) : Wr P ops Q ds (⟨d, .makeFunc fn fi ca, ty, pos, af, g⟩ :: rest) f w :=
  wr_v (s := Instr.makeFunc fn (fi.map (ev f)) (ca.map (ev f))) hw rfl (by
    have e1 : fi.map (ev f) = v1.toArray := by rw [← h1]; apply Array.toList_inj.1; simp
    have e2 : ca.map (ev f) = v2.toArray := by rw [← h2]; apply Array.toList_inj.1; simp
    rw [e1, e2]; rfl) kk
theorem wr_makeIface {t : TypeId} {x : Operand} {D : TypeDesc} {v : Value} [U : Und P t D] (hw : wantedE ops f ⟨d, .makeInterface t x, ty, pos, af, g⟩ = true) (hD : (match D with | .interface _ => false | _ => true) = true) (hx : ev f x = v)
    (kk : Wr P ops Q ds rest (setO f d (.iface t v)) w) : Wr P ops Q ds (⟨d, .makeInterface t x, ty, pos, af, g⟩ :: rest) f w := by
  refine wr_v (s := Instr.makeInterface t (ev f x)) (v := .iface t v) hw rfl ?_ kk
  simp only [Instr.makeInterface, Sem.run_bind, run_und U, Result.andThen_ok, hx]
  cases D <;> first | rfl | cases hD
end ops
end Go.V
