/- Rows of the call's own that begin anywhere in their block: what they hold; append, copy, zeros appended. -/
import Derived.Test.YtjaojihogmnjhaaGreatDoorVJ
import Derived.Lib.AppendZeros
import Derived.Lib.Overlaps
namespace Go.V
open Go.RowKit
set_option linter.unusedVariables false
set_option linter.unusedSimpArgs false

theorem seg_get {α : Type} (l ns : List α) (p i : Nat) (h : p + ns.length ≤ l.length) : (l.take p ++ ns ++ l.drop (p + ns.length))[i]? = if i < p then l[i]? else if i < p + ns.length then ns[i - p]? else l[i]? := by
  by_cases h1 : i < p
  · rw [if_pos h1, List.append_assoc, List.getElem?_append_left (by rw [List.length_take]; omega), List.getElem?_take_of_lt h1]
  · rw [if_neg h1]
    by_cases h2 : i < p + ns.length
    · rw [if_pos h2, List.getElem?_append_left (by rw [List.length_append, List.length_take]; omega), List.getElem?_append_right (by rw [List.length_take]; omega), List.length_take, Nat.min_eq_left (by omega)]
    · rw [if_neg h2, List.getElem?_append_right (by rw [List.length_append, List.length_take]; omega), List.length_append, List.length_take, Nat.min_eq_left (by omega), List.getElem?_drop]
      congr 1; omega
theorem seg_len {α : Type} (l ns : List α) (p : Nat) (h : p + ns.length ≤ l.length) : (l.take p ++ ns ++ l.drop (p + ns.length)).length = l.length := by
  rw [List.length_append, List.length_append, List.length_take, List.length_drop]; omega
theorem setRow_putL {w : World} {b : Nat} {c : Array Value} {e : TypeId} {fr : Nat × Nat} (hb : w.heap[b]? = some (.cells c e fr)) (cs : Array Value) : w.setRow b cs = w.putObj b (.cells cs e fr) := by
  obtain ⟨hlt, hwb⟩ := Array.getElem?_eq_some_iff.1 hb
  unfold World.setRow World.putObj
  congr 1
  apply Array.ext_getElem?
  intro i
  rw [Array.getElem?_modify, Array.getElem?_setIfInBounds]
  by_cases e : b = i
  · subst e; simp [hlt, hwb]
  · simp [e]
/-- v is a slice of n elements of k cells each, in a row of the call's own (block base on), from anywhere in it. -/
def OwnS (w : World) (base : Nat) (T : TypeId) (k : Nat) (v : Value) (n : Nat) (xs : List Value) : Prop :=
  xs.length = n * k ∧ ((v = .slice none 0 0 ∧ n = 0) ∨ ∃ g o cap cur, v = .slice (some ⟨g, o, none⟩) n cap ∧ base ≤ g ∧ w.heap[g]? = some (.cells cur T (0, 0)) ∧ n ≤ cap ∧ cap ≤ maxLen ∧ o + cap * k ≤ cur.size ∧ ∀ j, j < n * k → cur[o + j]? = xs[j]?)
theorem OwnS.nil (w : World) (base : Nat) (T : TypeId) (k : Nat) : OwnS w base T k (.slice none 0 0) 0 [] := ⟨by simp, .inl ⟨rfl, rfl⟩⟩
theorem OwnS.of_own {w : World} {base : Nat} {e : TypeId} {sz n : Nat} {v : Value} {xs : List Value} (h : w.ownsRow base e sz v n xs) : OwnS w base e sz v n xs := by
  obtain ⟨hl, h⟩ := h
  rcases h with ⟨rfl, rfl⟩ | ⟨g, cap, cur, rfl, hb, hg, hn, hm, hs, ht⟩
  · exact ⟨hl, .inl ⟨rfl, rfl⟩⟩
  · exact ⟨hl, .inr ⟨g, 0, cap, cur, rfl, hb, hg, hn, hm, by omega, fun j hj => by rw [← ht, List.getElem?_take_of_lt hj, Nat.zero_add]; simp⟩⟩
theorem OwnS.slR {w : World} {base : Nat} {e : TypeId} {sz n : Nat} {v : Value} {xs : List Value} (h : OwnS w base e sz v n xs) : SlR w sz v n xs := by
  obtain ⟨hl, h⟩ := h
  rcases h with ⟨rfl, rfl⟩ | ⟨g, o, cap, cur, rfl, hb, hg, hn, hm, hs, ht⟩
  · exact ⟨hl, none, 0, rfl, Nat.le_refl _, .inl ⟨rfl, fun _ => rfl⟩⟩
  · exact ⟨hl, _, cap, rfl, hn, .inr ⟨g, o, cur, e, (0, 0), rfl, hg, ht⟩⟩
theorem OwnS.keep {D : Nat → Prop} {w w' : World} {base : Nat} {e : TypeId} {sz n : Nat} {v : Value} {xs : List Value} (h : OwnS w base e sz v n xs) (k : Keeps D w w') (hd : ∀ b, v.ownBlock = some b → ¬ D b) : OwnS w' base e sz v n xs := by
  refine ⟨h.1, ?_⟩
  rcases h.2 with hn | ⟨g, o, cap, cur, rfl, hb, hg, hr⟩
  · exact .inl hn
  · exact .inr ⟨g, o, cap, cur, rfl, hb, k.heap hg (hd g (by simp [Value.ownBlock])), hr⟩
theorem OwnS.lt {w : World} {base : Nat} {e : TypeId} {sz n : Nat} {v : Value} {xs : List Value} (h : OwnS w base e sz v n xs) : ∀ b, v.ownBlock = some b → base ≤ b ∧ b < w.heap.size ∧ ∃ cur, w.heap[b]? = some (.cells cur e (0, 0)) := by
  intro b hb
  rcases h.2 with ⟨rfl, _⟩ | ⟨g, o, cap, cur, rfl, hg, hgc, hr⟩
  · simp [Value.ownBlock] at hb
  · simp [Value.ownBlock] at hb
    subst hb
    exact ⟨hg, lt_of_heap hgc, cur, hgc⟩
theorem OwnS.one {w : World} {base : Nat} {e : TypeId} {sz n : Nat} {v : Value} {xs : List Value} (h : OwnS w base e sz v n xs) : v.oneCell' = true := by
  rcases h.2 with ⟨rfl, _⟩ | ⟨g, o, cap, cur, rfl, _⟩ <;> rfl
theorem OwnS.down {w : World} {base base' : Nat} {e : TypeId} {sz n : Nat} {v : Value} {xs : List Value} (h : OwnS w base e sz v n xs) (hb : base' ≤ base) : OwnS w base' e sz v n xs := by
  refine ⟨h.1, ?_⟩
  rcases h.2 with hn | ⟨g, o, cap, cur, rfl, hg, hr⟩
  · exact .inl hn
  · exact .inr ⟨g, o, cap, cur, rfl, by omega, hr⟩
/-- The row's last elements. -/
theorem OwnS.drop {w : World} {base : Nat} {e : TypeId} {k n : Nat} {a : Option Addr} {c : Nat} {xs : List Value} (h : OwnS w base e k (.slice a n c) n xs) {d : Nat} (hd : d ≤ n) :
    OwnS w base e k (.slice (if c = d then a else a.map (·.add (d * k))) (n - d) (c - d)) (n - d) (xs.drop (d * k)) := by
  have hm : (n - d) * k = n * k - d * k := Nat.sub_mul n d k
  refine ⟨by rw [List.length_drop, h.1, hm], ?_⟩
  rcases h.2 with ⟨e1, rfl⟩ | ⟨g, o, cap, cur, e1, hb, hg, hn, hcm, hs, ht⟩
  · cases e1
    left
    have : d = 0 := by omega
    subst this
    simp
  · cases e1
    right
    have h1 : d * k ≤ n * k := Nat.mul_le_mul_right k hd
    have h2 : n * k ≤ c * k := Nat.mul_le_mul_right k hn
    by_cases hcd : c = d
    · have hnd : n = d := by omega
      subst hcd
      refine ⟨g, o, 0, cur, by simp [hnd], hb, hg, by omega, by omega, by omega, fun j hj => ?_⟩
      rw [hnd, Nat.sub_self, Nat.zero_mul] at hj
      omega
    · refine ⟨g, o + d * k, c - d, cur, by simp [hcd, addr_add], hb, hg, by omega, by omega, ?_, fun j hj => ?_⟩
      · have : (c - d) * k = c * k - d * k := Nat.sub_mul c d k
        omega
      · rw [List.getElem?_drop, Nat.add_assoc]
        exact ht _ (by omega)
section runs
variable {P : Program}
theorem run_append_roomO (w : World) (t ty e : TypeId) (i : TypeInfo) (ht : P.underlying t = some (.slice e)) (hi : P.info? e = some i)
    (g o sLen sCap : Nat) (cur : Array Value) (hg : w.heap[g]? = some (.cells cur e (0, 0)))
    (a : Addr) (m c : Nat) (news : List Value) (hl : news.length = m * i.size) (hnews : ∀ j u, news[j]? = some u → w.cell? (a.add j) = some u) (h1 : ∀ u ∈ news, u.oneCell' = true)
    (hroom : sLen + m ≤ sCap) (hfit : o + sLen * i.size + news.length ≤ cur.size) :
    (Builtin.append_ #[t, t] ty #[.slice (some ⟨g, o, none⟩) sLen sCap, .slice (some a) m c]).run P w =
      .ok (.slice (some ⟨g, o, none⟩) (sLen + m) sCap) (w.setRow g (cur.toList.take (o + sLen * i.size) ++ news ++ cur.toList.drop (o + sLen * i.size + news.length)).toArray) := by
  have hf := run_firstCells_some (P := P) w i.size m a m c news hl hnews
  have hst := run_storeCells_at P g (o + sLen * i.size) e news 0 cur w hg (by simpa using hfit) h1
  simp only [Nat.add_zero] at hst
  simp [Builtin.append_, run_underlying ht, sizeOf, typeInfo, hi, Builtin.lenOf, hroom, hf, Addr.add_lit, hst]
theorem grownS (w : World) (base : Nat) (e : TypeId) {i : TypeInfo} {z : Value} {n m old size : Nat} {xs news : List Value} (hx : xs.length = n * size) (hl : news.length = m * size) (hzs : z.cells.size = size) (hsz : 0 < size) (h63 : n + m ≤ maxLen) (hbase : base ≤ w.heap.size) :
    OwnS (w.drew.alloc (.cells (xs.toArray ++ news.toArray ++ Builtin.zeroCells z.cells (grownCap w (n + m) old e - (n + m))) e)) base e size (.slice (some ⟨w.heap.size, 0, none⟩) (n + m) (grownCap w (n + m) old e)) (n + m) (xs ++ news) := by
  have hge := grownCap_ge w (n + m) old e
  have hcm : grownCap w (n + m) old e ≤ maxLen := grownCap_le_maxLen w (n + m) old e h63
  have hlen : (xs ++ news).length = (n + m) * size := by rw [List.length_append, hx, hl, Nat.add_mul]
  refine ⟨hlen, .inr ⟨w.heap.size, 0, _, _, rfl, hbase, heap_alloc_new w.drew _, hge, hcm, ?_, fun j hj => ?_⟩⟩
  · simp only [Array.size_append, List.size_toArray, size_zeroCells, hzs, hx, hl, ← Nat.add_mul, Nat.zero_add]
    refine Nat.mul_le_mul_right _ ?_
    omega
  · rw [Nat.zero_add, List.append_toArray, ← Array.getElem?_toList, Array.toList_append, List.getElem?_append_left (by simpa [hlen] using hj)]
/-- One row of several elements appended. -/
theorem run_appendO (w : World) (base : Nat) (t ty e : TypeId) (i : TypeInfo) (z : Value) (size bytes : Nat) (ht : P.underlying t = some (.slice e)) (hi : P.info? e = some i) (hz : i.zero = some z)
    (hsize : i.size = size) (hby : i.bytes = bytes) (hzs : z.cells.size = size) (hsz : 0 < size)
    (v : Value) (n : Nat) (xs : List Value) (hown : OwnS w base e size v n xs)
    (a : Addr) (m c : Nat) (news : List Value) (hm : 0 < m) (hl : news.length = m * size) (hnews : ∀ j u, news[j]? = some u → w.cell? (a.add j) = some u) (h1 : ∀ u ∈ news, u.oneCell' = true)
    (h63 : n + m ≤ maxLen) (hbytes : (n + m) * bytes ≤ 140737488355328) (hbase : base ≤ w.heap.size) :
    ∃ v' w', (Builtin.append_ #[t, t] ty #[v, .slice (some a) m c]).run P w = .ok v' w' ∧ OwnS w' base e size v' (n + m) (xs ++ news) ∧ Keeps (fun k => v.ownBlock = some k) w w' ∧ (v'.ownBlock = v.ownBlock ∨ v'.ownBlock = some w.heap.size) := by
  subst hsize
  subst hby
  have hsmall : n + m ≤ 9223372036854775807 := by simp only [maxLen] at h63; omega
  rcases hown.2 with ⟨rfl, rfl⟩ | ⟨g, o, cap, cur, rfl, hbg, hg, hnc, hcm, hcs, htk⟩
  · have hx : xs = [] := List.eq_nil_of_length_eq_zero (by simpa using hown.1)
    subst hx
    have hr := run_append_nil (P := P) w t ty e i z ht hi hz a m c news hl hnews hm (by omega) (by have hb := hbytes; simp only [Nat.zero_add] at hb; omega)
    have hgr := grownS w base e (i := i) (z := z) (n := 0) (m := m) (old := 0) (xs := []) (by simp) hl hzs hsz h63 hbase
    simp only [Nat.zero_add, List.nil_append, Array.empty_append] at hgr ⊢
    exact ⟨_, _, hr, hgr, ((Keeps.refl _ w).drew).alloc _, .inr rfl⟩
  · by_cases hroom : n + m ≤ cap
    · have hmul : (n + m) * i.size ≤ cap * i.size := Nat.mul_le_mul_right _ hroom
      rw [Nat.add_mul] at hmul
      have hfit : o + n * i.size + news.length ≤ cur.size := by rw [hl]; omega
      have hr := run_append_roomO (P := P) w t ty e i ht hi g o n cap cur hg a m c news hl hnews h1 hroom hfit
      rw [setRow_putL hg] at hr
      refine ⟨_, _, hr, ⟨by rw [List.length_append, hown.1, hl, Nat.add_mul], .inr ⟨g, o, cap, _, rfl, hbg, World.putObj_heap_same (lt_of_heap hg), hroom, hcm, ?_, fun j hj => ?_⟩⟩, (Keeps.refl _ w).put _ (fun _ => by simp [Value.ownBlock]), .inl rfl⟩
      · rw [List.size_toArray, seg_len _ _ _ (by simpa using hfit)]
        simpa using hcs
      · rw [List.getElem?_toArray, seg_get _ _ _ _ (by simpa using hfit)]
        rw [Nat.add_mul] at hj
        by_cases h2 : j < n * i.size
        · rw [if_pos (by omega), List.getElem?_append_left (by rw [hown.1]; exact h2), Array.getElem?_toList]
          exact htk j h2
        · rw [if_neg (by omega), if_pos (by omega), List.getElem?_append_right (by rw [hown.1]; omega), hown.1]
          congr 1; omega
    · have holds : ∀ j u, xs[j]? = some u → w.cell? ((⟨g, o, none⟩ : Addr).add j) = some u := fun j u hj => by
        rw [addr_add]
        have := (List.getElem?_eq_some_iff.1 hj).1
        exact cell_of_heap hg ((htk j (by rw [hown.1] at this; exact this)).trans hj)
      have hr := run_append_grow (P := P) w t ty e i z ht hi hz ⟨g, o, none⟩ n cap xs hown.1 holds a m c news hl hnews (by omega) (by omega) (growslice_fits (by omega) hbytes)
      exact ⟨_, _, hr, grownS w base e (i := i) hown.1 hl hzs hsz h63 hbase, ((Keeps.refl _ w).drew).alloc _, .inr rfl⟩
/-- append(s, make([]T, m)...), where there is no room: a new row. -/
theorem run_appendZ (w : World) (t tn ty e : TypeId) (i : TypeInfo) (z : Value) (k kn : IntKind) (ht : P.underlying t = some (.slice e)) (htn : P.underlying tn = some (.int kn)) (hi : P.info? e = some i) (hz : i.zero = some z)
    (b : Addr) (n cap : Nat) (olds : List Value) (hlo : olds.length = n * i.size) (holds : ∀ j v, olds[j]? = some v → w.cell? (b.add j) = some v)
    (m : Nat) (hs : 0 < i.size) (hg : cap < n + m) (hm0 : 0 < m) (h63 : ((n + m : Nat) : Int) ≤ 9223372036854775807) (h48 : m * i.bytes ≤ 281474976710656) (hfit : Builtin.nextslicecap (n + m) cap * i.bytes ≤ 281474976710656) :
    (Builtin.append_ #[t, tn] ty #[.slice (some b) n cap, .int k m]).run P w =
      .ok (.slice (some ⟨w.heap.size, 0, none⟩) (n + m) (grownCap w (n + m) cap e)) (w.drew.alloc (.cells (olds.toArray ++ Builtin.zeroCells z.cells m ++ Builtin.zeroCells z.cells (grownCap w (n + m) cap e - (n + m))) e)) := by
  have hn : ¬ (n + m ≤ cap) := by omega
  have hw : IntKind.i64.wrap (m : Int) = m := by rw [IntKind.wrap_i64]; omega
  have h63' : ¬ (9223372036854775807 < ((n : Int) + (m : Int))) := by omega
  have h48' : ¬ (281474976710656 < Builtin.nextslicecap (n + m) cap * i.bytes) := by omega
  have h48i : ¬ (281474976710656 < (m : Int) * (i.bytes : Int)) := by
    rw [← Int.natCast_mul]
    omega
  have hneg : ¬ ((m : Int) < 0) := by omega
  have hm1 : m ≠ 0 := by omega
  have hs1 : i.size ≠ 0 := by omega
  have hfo := run_firstCells_some (P := P) w.drew i.size n b n cap olds hlo (by simpa using holds)
  simp [Builtin.append_, run_underlying ht, run_underlying htn, sizeOf, typeInfo, zeroValue, hi, hz, asInt, asIntOf, hw, hn, hneg, hm1, hs1, h63', h48', h48i, Question.forced, hfo, Builtin.lenOf, newRow, grownCap]
  intro h0
  exact absurd h0 (Nat.mul_ne_zero hm1 hs1)
theorem run_copyK (w : World) (dT sT ty elem : TypeId) (i : TypeInfo) (hu : P.underlying dT = some (.slice elem)) (hi : P.info? elem = some i) (b o dLen dCap : Nat) (cur : Array Value) (e : TypeId) (hb : w.heap[b]? = some (.cells cur e (0, 0))) (a : Addr) (sLen sCap : Nat) (news : List Value)
    (hl : news.length = Nat.min sLen dLen * i.size) (hnews : ∀ j v, news[j]? = some v → w.cell? (a.add j) = some v) (h1 : ∀ v ∈ news, v.oneCell' = true) (hfit : o + news.length ≤ cur.size) :
    (Builtin.copy_ #[dT, sT] ty #[.slice (some ⟨b, o, none⟩) dLen dCap, .slice (some a) sLen sCap]).run P w = .ok (goInt (Nat.min sLen dLen)) (w.putObj b (.cells (cur.toList.take o ++ news ++ cur.toList.drop (o + news.length)).toArray e (0, 0))) := by
  have hf := run_firstCells_some (P := P) w i.size (Nat.min sLen dLen) a sLen sCap news hl hnews
  have hst := run_storeCells_at P b o e news 0 cur w hb (by simpa using hfit) h1
  simp only [Nat.add_zero] at hst
  rw [setRow_putL hb] at hst
  simp [Builtin.copy_, run_underlying hu, Builtin.lenOf, sizeOf, typeInfo, hi, hf, hst]
end runs
section ops
variable {P : Program} {ops : Array Oper} {Q : Post} {ds : List Deferred} {f : Env} {w w' : World} {rest : List Oper}
variable {d : Option Nat} {ty : TypeId} {pos : String} {af : Array Edge} {g : Option (Nat × Bool)}
theorem wr_appendO {t e : TypeId} {z : Value} {size by' : Nat} {x y : Operand} {base n m c b : Nat} {v : Value} {xs news : List Value} {e' : TypeId} {fr : Nat × Nat} [U : Und P t (.slice e)] [I : Info P e z size by']
    (hw : wantedE ops f ⟨d, .call { callee := .builtin .append, args := #[x, y], argTypes := #[t, t] }, ty, pos, af, g⟩ = true) (hx : ev f x = v) (hown : OwnS w base e size v n xs) (hy : ev f y = .slice (some ⟨b, 0, none⟩) m c)
    (hb : w.heap[b]? = some (.cells news.toArray e' fr)) (hm : 0 < m) (hl : news.length = m * size) (h1 : ∀ u ∈ news, u.oneCell' = true) (hzs : z.cells.size = size) (hsz : 0 < size) (h63 : n + m ≤ 9223372036854775807) (hbytes : (n + m) * by' ≤ 140737488355328) (hbase : base ≤ w.heap.size)
    (kk : ∀ v' w', OwnS w' base e size v' (n + m) (xs ++ news) → Keeps (fun k => v.ownBlock = some k) w w' → (v'.ownBlock = v.ownBlock ∨ v'.ownBlock = some w.heap.size) → Wr P ops Q ds rest (setO f d v') w') :
    Wr P ops Q ds (⟨d, .call { callee := .builtin .append, args := #[x, y], argTypes := #[t, t] }, ty, pos, af, g⟩ :: rest) f w := by
  obtain ⟨i, hi, hz, hs, hby⟩ := I.parts
  obtain ⟨v', w', hr, ho, hg, hv⟩ := run_appendO (P := P) w base t ty e i z size by' U.h hi hz hs hby hzs hsz v n xs hown ⟨b, 0, none⟩ m c news hm hl (fun j u hj => by rw [addr_add]; exact cell_of_heap hb (by simpa using hj)) h1 (by unfold maxLen; exact h63) hbytes hbase
  refine wr_val (v := v') (w' := w') hw ?_ (kk v' w' ho hg hv)
  simp only [execOp, resolve, invoke, builtin, Sem.run_bind, Sem.run_pure, Result.andThen_ok, List.map_toArray, List.map_cons, List.map_nil, hx, hy, hr]
theorem wr_appendZ {t tn e : TypeId} {z : Value} {size by' : Nat} {kn k : IntKind} {x y : Operand} {gb o n cap m : Nat} {cur : Array Value} {e' : TypeId} {fr : Nat × Nat} {olds : List Value} [U : Und P t (.slice e)] [V : Und P tn (.int kn)] [I : Info P e z size by']
    (hw : wantedE ops f ⟨d, .call { callee := .builtin .append, args := #[x, y], argTypes := #[t, tn] }, ty, pos, af, g⟩ = true) (hx : ev f x = .slice (some ⟨gb, o, none⟩) n cap) (hy : ev f y = .int k (m : Int))
    (hb : w.heap[gb]? = some (.cells cur e' fr)) (hlo : olds.length = n * size) (holds : ∀ j, j < n * size → cur[o + j]? = olds[j]?) (hsz : 0 < size) (hg : cap < n + m) (hm0 : 0 < m) (h63 : n + m ≤ 9223372036854775807) (hbytes : (n + m) * by' ≤ 140737488355328)
    (kk : ∀ c', n + m ≤ c' → c' ≤ maxLen → Wr P ops Q ds rest (setO f d (.slice (some ⟨w.heap.size, 0, none⟩) (n + m) c')) (w.drew.alloc (.cells (olds.toArray ++ Builtin.zeroCells z.cells m ++ Builtin.zeroCells z.cells (c' - (n + m))) e))) :
    Wr P ops Q ds (⟨d, .call { callee := .builtin .append, args := #[x, y], argTypes := #[t, tn] }, ty, pos, af, g⟩ :: rest) f w := by
  obtain ⟨i, hi, hz, hs, hby⟩ := I.parts
  subst hs
  subst hby
  have hr := run_appendZ (P := P) w t tn ty e i z k kn U.h V.h hi hz ⟨gb, o, none⟩ n cap olds hlo (fun j u hj => by
    rw [addr_add]
    have := (List.getElem?_eq_some_iff.1 hj).1
    exact cell_of_heap hb ((holds j (by omega)).trans hj)) m hsz hg hm0 (by omega) (by
      have h1 : m * i.bytes ≤ (n + m) * i.bytes := Nat.mul_le_mul_right _ (by omega)
      omega) (growslice_fits (by omega) hbytes)
  refine wr_val hw ?_ (kk (grownCap w (n + m) cap e) (grownCap_ge w (n + m) cap e) (grownCap_le_maxLen w (n + m) cap e (by unfold maxLen; exact h63)))
  simp only [execOp, resolve, invoke, builtin, Sem.run_bind, Sem.run_pure, Result.andThen_ok, List.map_toArray, List.map_cons, List.map_nil, hx, hy, hr]
theorem wr_copyK {dT sT e : TypeId} {z : Value} {k by' : Nat} {x y : Operand} {b o dLen dCap sb so sLen sCap : Nat} {cur scur : Array Value} {e1 e2 : TypeId} {fr : Nat × Nat} {news : List Value} [U : Und P dT (.slice e)] [I : Info P e z k by']
    (hw : wantedE ops f ⟨d, .call { callee := .builtin .copy, args := #[x, y], argTypes := #[dT, sT] }, ty, pos, af, g⟩ = true) (hx : ev f x = .slice (some ⟨b, o, none⟩) dLen dCap) (hb : w.heap[b]? = some (.cells cur e1 (0, 0))) (hy : ev f y = .slice (some ⟨sb, so, none⟩) sLen sCap) (hsb : w.heap[sb]? = some (.cells scur e2 fr))
    (hl : news.length = Nat.min sLen dLen * k) (hnews : ∀ j, j < news.length → scur[so + j]? = news[j]?) (h1 : ∀ u ∈ news, u.oneCell' = true) (hfit : o + news.length ≤ cur.size)
    (kk : Wr P ops Q ds rest (setO f d (.int .i64 (Nat.min sLen dLen : Nat))) (w.putObj b (.cells (cur.toList.take o ++ news ++ cur.toList.drop (o + news.length)).toArray e1 (0, 0)))) :
    Wr P ops Q ds (⟨d, .call { callee := .builtin .copy, args := #[x, y], argTypes := #[dT, sT] }, ty, pos, af, g⟩ :: rest) f w := by
  obtain ⟨i, hi, hz, hs, hby⟩ := I.parts
  subst hs
  have hr := run_copyK (P := P) w dT sT ty e i U.h hi b o dLen dCap cur e1 hb ⟨sb, so, none⟩ sLen sCap news hl (fun j u hj => by
    rw [addr_add]
    have := (List.getElem?_eq_some_iff.1 hj).1
    exact cell_of_heap hsb ((hnews j this).trans hj)) h1 hfit
  refine wr_val hw ?_ kk
  simp only [execOp, resolve, invoke, builtin, Sem.run_bind, Sem.run_pure, Result.andThen_ok, List.map_toArray, List.map_cons, List.map_nil, hx, hy, hr, goInt]
end ops
end Go.V
