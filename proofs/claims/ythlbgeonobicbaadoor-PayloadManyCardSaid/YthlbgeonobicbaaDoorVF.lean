/- The calculus, fifteenth text: pointers asked and turned; strings appended to bytes; a strings.Builder of the call's own. -/
import Derived.Test.YthlbgeonobicbaaDoorVE
import Derived.Laws.Pointers
import Derived.Lib.Builder
import Derived.Lib.AppendStr
import Derived.Lib.UnsafeStr
namespace Go.V
open Go.RowKit Go.Lib
set_option linter.unusedVariables false
set_option linter.unusedSimpArgs false

section ops
variable {P : Program} {ops : Array Oper} {Q : Post} {ds : List Deferred} {f : Env} {w w' : World} {rest : List Oper}
variable {d : Option Nat} {ty : TypeId} {pos : String} {af : Array Edge} {g : Option (Nat × Bool)}
theorem wr_nilCheck {x : Operand} {a : Addr} (hw : wantedE ops f ⟨d, .nilCheck x, ty, pos, af, g⟩ = true) (hx : ev f x = .pointer (some a)) (kk : Wr P ops Q ds rest (setO f d (.pointer (some a))) w) :
    Wr P ops Q ds (⟨d, .nilCheck x, ty, pos, af, g⟩ :: rest) f w :=
  wr_val (v := .pointer (some a)) hw (by simp only [execOp, hx]; rfl) kk
theorem wr_nilCheckF {x : Operand} {fi : FuncId} {a b : Array Value} (hw : wantedE ops f ⟨d, .nilCheck x, ty, pos, af, g⟩ = true) (hx : ev f x = .func (.func fi) a b) (kk : Wr P ops Q ds rest (setO f d (.func (.func fi) a b)) w) :
    Wr P ops Q ds (⟨d, .nilCheck x, ty, pos, af, g⟩ :: rest) f w :=
  wr_val (v := .func (.func fi) a b) hw (by simp only [execOp, hx]; rfl) kk
theorem run_ptrNil {t e : TypeId} (U : Und P t (.pointer e)) (p : Option Addr) : (binOp .eql t (.pointer p) (.pointer none)).run P w = .ok (.bool p.isNone) w :=
  run_eql_pointer_nil w t p (by have := U.h; simp [Program.pointee, this])
theorem run_ptrNilNe {t e : TypeId} (U : Und P t (.pointer e)) (p : Option Addr) : (binOp .neq t (.pointer p) (.pointer none)).run P w = .ok (.bool (!p.isNone)) w :=
  run_neq_pointer_nil w t p (by have := U.h; simp [Program.pointee, this])
theorem wr_ptrNil {t t' e : TypeId} {x : Operand} {p : Option Addr} [U : Und P t (.pointer e)] (hw : wantedE ops f ⟨d, .binOp .eql t x (.const (.pointer none)) t', ty, pos, af, g⟩ = true) (hx : ev f x = .pointer p)
    (kk : Wr P ops Q ds rest (setO f d (.bool p.isNone)) w) : Wr P ops Q ds (⟨d, .binOp .eql t x (.const (.pointer none)) t', ty, pos, af, g⟩ :: rest) f w :=
  wr_bin hw hx rfl (by simp [eqGuard]) (run_ptrNil U p) kk
theorem wr_ptrNilNe {t t' e : TypeId} {x : Operand} {p : Option Addr} [U : Und P t (.pointer e)] (hw : wantedE ops f ⟨d, .binOp .neq t x (.const (.pointer none)) t', ty, pos, af, g⟩ = true) (hx : ev f x = .pointer p)
    (kk : Wr P ops Q ds rest (setO f d (.bool (!p.isNone))) w) : Wr P ops Q ds (⟨d, .binOp .neq t x (.const (.pointer none)) t', ty, pos, af, g⟩ :: rest) f w :=
  wr_bin hw hx rfl (by simp [eqGuard]) (run_ptrNilNe U p) kk
theorem wr_ptrNeSame {t t' e : TypeId} {z : Value} {s b : Nat} {x y : Operand} {a : Addr} [U : Und P t (.pointer e)] [I : Info P e z s b] (hw : wantedE ops f ⟨d, .binOp .neq t x y t', ty, pos, af, g⟩ = true) (hx : ev f x = .pointer (some a)) (hy : ev f y = .pointer (some a))
    (kk : Wr P ops Q ds rest (setO f d (.bool false)) w) : Wr P ops Q ds (⟨d, .binOp .neq t x y t', ty, pos, af, g⟩ :: rest) f w := by
  obtain ⟨i, hi, _⟩ := I.parts
  exact wr_bin hw hx hy (by simp [eqGuard]) (run_neq_ptr_same w a U.h hi) kk
theorem wr_convX {s t : TypeId} {x : Operand} {a v : Value} (hw : wantedE ops f ⟨d, .convert s t x, ty, pos, af, g⟩ = true) (hx : ev f x = a) (h : (convert s t a).run P w = .ok v w) (kk : Wr P ops Q ds rest (setO f d v) w) :
    Wr P ops Q ds (⟨d, .convert s t x, ty, pos, af, g⟩ :: rest) f w :=
  wr_v (s := convert s t (ev f x)) hw rfl (by rw [hx]; exact h) kk
theorem strCells_S (l : List UInt8) : strCells ⟨l.toArray⟩ = bytesV l := by simp [strCells, bytesV]
theorem wr_appendS {t u e : TypeId} {x y : Operand} {base n : Nat} {v : Value} {xs : List Value} {s : List UInt8} [U : Und P t (.slice e)] [V : Und P u .string] [I : Info P e (.int .u8 0) 1 1]
    (hw : wantedE ops f ⟨d, .call { callee := .builtin .append, args := #[x, y], argTypes := #[t, u] }, ty, pos, af, g⟩ = true) (hx : ev f x = v) (hown : w.ownsRow base e 1 v n xs) (hy : ev f y = S s)
    (hb : n + s.length ≤ 140737488355328) (hbase : base ≤ w.heap.size)
    (kk : ∀ v' w', w'.ownsRow base e 1 v' (n + s.length) (xs ++ bytesV s) → Keeps (fun k => v.ownBlock = some k) w w' → Wr P ops Q ds rest (setO f d v') w') :
    Wr P ops Q ds (⟨d, .call { callee := .builtin .append, args := #[x, y], argTypes := #[t, u] }, ty, pos, af, g⟩ :: rest) f w := by
  obtain ⟨i, hi, hz, hs, hby⟩ := I.parts
  obtain ⟨v', w', hr, ho, hg, hn⟩ := run_append_own_string (P := P) w base t u ty e i U.h V.h hi hz hs hby v n xs hown ⟨s.toArray⟩ (by rw [S_size]; unfold maxLen; omega) (by rw [S_size]; exact hb) hbase
  rw [S_size, strCells_S] at ho
  refine wr_val (v := v') (w' := w') hw ?_ (kk v' w' ho (Keeps.of_grownBy hg))
  simp only [execOp, resolve, invoke, builtin, Sem.run_bind, Sem.run_pure, Result.andThen_ok, List.map_toArray, List.map_cons, List.map_nil, hx, hy, hr]
theorem wr_lookupOkV {α : Type} [DecidableEq α] {enc : α → Value} {t K E : TypeId} {z : Value} {s b' : Nat} {x y : Operand} {b : Nat} {l : List (α × Value)} {a : α} {u : Value} {c : Bool} [U : Und P t (.map K E)] [I : Info P E z s b'] [M : MKey P K enc] (hw : wantedE ops f ⟨d, .lookup t x y true, ty, pos, af, g⟩ = true) (hx : ev f x = .map (some b)) (h : MapAt w enc b l) (hy : ev f y = enc a)
    (h1 : (getM l a).getD z = u) (h2 : (getM l a).isSome = c) (kk : Wr P ops Q ds rest (setO f d (.tuple #[u, .bool c])) w) : Wr P ops Q ds (⟨d, .lookup t x y true, ty, pos, af, g⟩ :: rest) f w := by
  subst h1 h2; exact wr_lookupOk hw hx h hy kk
theorem wr_lookupV {α : Type} [DecidableEq α] {enc : α → Value} {t K E : TypeId} {z : Value} {s b' : Nat} {x y : Operand} {b : Nat} {l : List (α × Value)} {a : α} {u : Value} [U : Und P t (.map K E)] [I : Info P E z s b'] [M : MKey P K enc] (hw : wantedE ops f ⟨d, .lookup t x y false, ty, pos, af, g⟩ = true) (hx : ev f x = .map (some b)) (h : MapAt w enc b l) (hy : ev f y = enc a)
    (h1 : (getM l a).getD z = u) (kk : Wr P ops Q ds rest (setO f d u) w) : Wr P ops Q ds (⟨d, .lookup t x y false, ty, pos, af, g⟩ :: rest) f w := by
  subst h1; exact wr_lookup hw hx h hy kk
/-- An append of the elements of a new block to a slice of the call's own: where the new row lies. -/
theorem wr_append2 {t e : TypeId} {z : Value} {size by' : Nat} {x y : Operand} {base n m c b : Nat} {v : Value} {xs news : List Value} {e' : TypeId} {fr : Nat × Nat} [U : Und P t (.slice e)] [I : Info P e z size by']
    (hw : wantedE ops f ⟨d, .call { callee := .builtin .append, args := #[x, y], argTypes := #[t, t] }, ty, pos, af, g⟩ = true) (hx : ev f x = v) (hown : w.ownsRow base e size v n xs) (hy : ev f y = .slice (some ⟨b, 0, none⟩) m c)
    (hb : w.heap[b]? = some (.cells news.toArray e' fr)) (hl : news.length = m * size) (h1 : ∀ u ∈ news, u.oneCell' = true) (hzs : z.cells.size = size) (hsz : 0 < size) (h63 : n + m ≤ 9223372036854775807) (hbytes : (n + m) * by' ≤ 140737488355328) (hbase : base ≤ w.heap.size)
    (kk : ∀ v' w', w'.ownsRow base e size v' (n + m) (xs ++ news) → Keeps (fun k => v.ownBlock = some k) w w' → (∀ k, v'.ownBlock = some k → v.ownBlock = some k ∨ w.heap.size ≤ k) → Wr P ops Q ds rest (setO f d v') w') :
    Wr P ops Q ds (⟨d, .call { callee := .builtin .append, args := #[x, y], argTypes := #[t, t] }, ty, pos, af, g⟩ :: rest) f w := by
  obtain ⟨i, hi, hz, hs, hby⟩ := I.parts
  have hnews : ∀ j u, news[j]? = some u → w.cell? ((⟨b, 0, none⟩ : Addr).add j) = some u := fun j u hj => by rw [addr_add]; exact cell_of_heap hb (by simpa using hj)
  obtain ⟨v', w', hr, ho, hg, hn⟩ := run_append_own (P := P) w base t ty e i z size by' U.h hi hz hs hby hzs hsz v n xs hown ⟨b, 0, none⟩ m c news hl hnews h1 (by unfold maxLen; exact h63) hbytes hbase
  have hblk : ∀ k, v'.ownBlock = some k → v.ownBlock = some k ∨ w.heap.size ≤ k := by
    intro k hk
    rcases hown.2 with ⟨rfl, rfl⟩ | ⟨g', cap, cur, rfl, hbg, hgg, hnc, hcm, hcs, htake⟩
    · have hown2 : w.ownsRow w.heap.size e size (.slice none 0 0) 0 xs := ⟨hown.1, .inl ⟨rfl, rfl⟩⟩
      obtain ⟨v2, w2, hr2, ho2, _, _⟩ := run_append_own (P := P) w w.heap.size t ty e i z size by' U.h hi hz hs hby hzs hsz _ 0 xs hown2 ⟨b, 0, none⟩ m c news hl hnews h1 (by unfold maxLen; exact h63) hbytes (Nat.le_refl _)
      rw [hr] at hr2
      cases hr2
      exact .inr (ho2.lt k hk).1
    · by_cases hroom : n + m ≤ cap
      · obtain ⟨w2, hr2, _, _⟩ := run_append_fits (P := P) w base t ty e i size U.h hi hs g' n cap xs hown ⟨b, 0, none⟩ m c news hl hnews h1 hroom
        rw [hr] at hr2
        cases hr2
        exact .inl hk
      · have holds : ∀ j u, xs[j]? = some u → w.cell? ((⟨g', 0, none⟩ : Addr).add j) = some u := hown.cells (g := g') rfl
        subst hs hby
        have hr2 := run_append_grow (P := P) w t ty e i z U.h hi hz ⟨g', 0, none⟩ n cap xs hown.1 holds ⟨b, 0, none⟩ m c news hl hnews (by omega) (by omega) (growslice_fits (by omega) hbytes)
        rw [hr] at hr2
        cases hr2
        simp [Value.ownBlock] at hk
        exact .inr (by omega)
  refine wr_val (v := v') (w' := w') hw ?_ (kk v' w' ho (Keeps.of_grownBy hg) hblk)
  simp only [execOp, resolve, invoke, builtin, Sem.run_bind, Sem.run_pure, Result.andThen_ok, List.map_toArray, List.map_cons, List.map_nil, hx, hy, hr]
end ops
theorem own_down {w : World} {base base' : Nat} {e : TypeId} {sz n : Nat} {v : Value} {xs : List Value} (h : w.ownsRow base e sz v n xs) (hb : base' ≤ base) : w.ownsRow base' e sz v n xs := by
  refine ⟨h.1, ?_⟩
  rcases h.2 with hn | ⟨g, cap, cur, h1, h2, h3⟩
  · exact .inl hn
  · exact .inr ⟨g, cap, cur, h1, by omega, h3⟩
theorem Keeps.of_belowB {B : Nat} {a w : World} (h : Below B a w) : Keeps (fun k => B ≤ k) a w := ⟨h.os, h.tape, h.output, h.size, fun k hk hd => h.block k (by omega)⟩
theorem byteCells_S (l : List UInt8) : byteCells l = bytesV l := by simp [byteCells, bytesV]
end Go.V
