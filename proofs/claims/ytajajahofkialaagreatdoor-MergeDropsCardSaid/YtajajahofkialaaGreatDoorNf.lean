/- clear of a slice; DeleteFunc. -/
import Derived.Test.YtajajahofkialaaGreatDoorNc
import Derived.Lib.SliceRun
namespace Go.V
open Go Go.RowKit
section ops
variable {P : Program} {ops : Array Oper} {Q : Post} {ds : List Deferred} {f : Env} {w w' : World} {rest : List Oper}
variable {d : Option Nat} {ty : TypeId} {pos : String} {af : Array Edge} {g : Option (Nat × Bool)}
theorem wr_clearS0 {t e : TypeId} {x : Operand} {a : Option Addr} {c : Nat} [U : Und P t (.slice e)] (hw : wantedE ops f ⟨d, .call { callee := .builtin .clear, args := #[x], argTypes := #[t] }, ty, pos, af, g⟩ = true) (hx : ev f x = .slice a 0 c)
    (kk : Wr P ops Q ds rest (setO f d (.tuple #[])) w) : Wr P ops Q ds (⟨d, .call { callee := .builtin .clear, args := #[x], argTypes := #[t] }, ty, pos, af, g⟩ :: rest) f w := by
  refine wr_val (v := .tuple #[]) (w' := w) hw ?_ kk
  simp only [execOp, resolve, invoke, builtin, Builtin.clear_, Sem.run_bind, Sem.run_pure, Result.andThen_ok, List.map_toArray, List.map_cons, List.map_nil, hx, List.getElem?_toArray, List.getElem?_cons_zero, run_und U]
  cases a <;> rfl
theorem setRow_put {w : World} {b : Nat} {cur cur' : Array Value} {e : TypeId} (hb : w.heap[b]? = some (.cells cur e (0, 0))) : w.setRow b cur' = w.putObj b (.cells cur' e (0, 0)) := by
  obtain ⟨hlt, hwb⟩ := Array.getElem?_eq_some_iff.1 hb
  unfold World.setRow World.putObj
  congr 1
  apply Array.ext_getElem?
  intro i
  rw [Array.getElem?_modify, Array.getElem?_setIfInBounds]
  by_cases e : b = i
  · subst e; simp [hlt, hwb]
  · simp [e]
/-- clear of a slice of one-cell elements: what lies ahead of it stays. -/
theorem wr_clearS {t e e' : TypeId} {z : Value} {by' : Nat} {x : Operand} {b o n c : Nat} {cur : Array Value} [U : Und P t (.slice e)] [I : Info P e z 1 by'] (hw : wantedE ops f ⟨d, .call { callee := .builtin .clear, args := #[x], argTypes := #[t] }, ty, pos, af, g⟩ = true) (hx : ev f x = .slice (some ⟨b, o, none⟩) n c)
    (hb : w.heap[b]? = some (.cells cur e' (0, 0))) (hz : z.cells = #[z]) (h1 : z.oneCell' = true) (hn : 0 < n) (hl : o + n ≤ cur.size)
    (kk : ∀ cur' : Array Value, cur'.size = cur.size → (∀ j, j < o → cur'[j]? = cur[j]?) → Wr P ops Q ds rest (setO f d (.tuple #[])) (w.putObj b (.cells cur' e' (0, 0)))) : Wr P ops Q ds (⟨d, .call { callee := .builtin .clear, args := #[x], argTypes := #[t] }, ty, pos, af, g⟩ :: rest) f w := by
  have hzc : (Builtin.zeroCells z.cells n).toList = List.replicate n z := by
    rw [hz]
    simp [Builtin.zeroCells]
    apply List.ext_getElem
    · simp
    · intro i h1 h2
      simp [Nat.mod_one]
  have hst := run_storeCells_at P b o e' (List.replicate n z) 0 cur w hb (by simp; omega) (by intro v hv; rw [List.eq_of_mem_replicate hv]; exact h1)
  rw [setRow_put hb] at hst
  refine wr_val (v := .tuple #[]) hw ?_ (kk (cur.toList.take (o + 0) ++ List.replicate n z ++ cur.toList.drop (o + 0 + (List.replicate n z).length)).toArray ?_ ?_)
  · obtain ⟨m, rfl⟩ : ∃ m, n = m + 1 := ⟨n - 1, by omega⟩
    simp only [execOp, resolve, invoke, builtin, Builtin.clear_, Sem.run_bind, Sem.run_pure, Result.andThen_ok, List.map_toArray, List.map_cons, List.map_nil, hx, List.getElem?_toArray, List.getElem?_cons_zero, run_und U, run_zero I, hzc, hst]
  · simp; omega
  · intro j hj
    rw [List.getElem?_toArray, List.append_assoc, List.getElem?_append_left (by rw [List.length_take, Array.length_toList]; omega), List.getElem?_take_of_lt (by omega)]
    simp
end ops
end Go.V
