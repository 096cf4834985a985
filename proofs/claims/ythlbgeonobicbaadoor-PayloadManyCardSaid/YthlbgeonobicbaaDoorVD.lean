/- The calculus, thirteenth text: bytes of a string, in a row of the call's own that bears a mark behind its cells. -/
import Derived.Test.YthlbgeonobicbaaDoorVC
import Derived.Lib.ConvBytes
namespace Go.V
open Go.RowKit Go.Lib
set_option linter.unusedVariables false
set_option linter.unusedSimpArgs false

/-- v is a slice of n one-cell elements that read xs, at the start of a row of the call's own (block base on); what is frozen lies behind the cells. -/
def MRow (w : World) (base : Nat) (e : TypeId) (v : Value) (n : Nat) (xs : List Value) : Prop :=
  xs.length = n ∧ ∃ (g cap : Nat) (cur : Array Value) (fr : Nat × Nat), v = .slice (some ⟨g, 0, none⟩) n cap ∧ base ≤ g ∧ w.heap[g]? = some (.cells cur e fr) ∧ n ≤ cap ∧ cap ≤ maxLen ∧ cur.size = cap ∧ cur.toList.take n = xs ∧ (fr.2 = 0 ∨ cap ≤ fr.1)
theorem MRow.of_own {w : World} {base : Nat} {e : TypeId} {v : Value} {n : Nat} {xs : List Value} (h : w.ownsRow base e 1 v n xs) (hv : v ≠ .slice none 0 0) : MRow w base e v n xs := by
  obtain ⟨h1, h2⟩ := h
  rcases h2 with ⟨rfl, _⟩ | ⟨g, cap, cur, rfl, hb, hg, hn, hm, hs, ht⟩
  · exact absurd rfl hv
  · exact ⟨by omega, g, cap, cur, (0, 0), rfl, hb, hg, hn, hm, by omega, by rw [Nat.mul_one] at ht; exact ht, .inl rfl⟩
theorem MRow.slR {w : World} {base : Nat} {e : TypeId} {v : Value} {n : Nat} {xs : List Value} (h : MRow w base e v n xs) : SlR w 1 v n xs := by
  obtain ⟨h1, g, cap, cur, fr, rfl, hb, hg, hn, hm, hs, ht, hf⟩ := h
  refine ⟨by omega, _, cap, rfl, hn, .inr ⟨g, 0, cur, e, fr, rfl, hg, fun j hj => ?_⟩⟩
  rw [Nat.zero_add, ← ht, List.getElem?_take_of_lt (by omega)]; simp
theorem MRow.keep {D : Nat → Prop} {w w' : World} {base : Nat} {e : TypeId} {v : Value} {n : Nat} {xs : List Value} (h : MRow w base e v n xs) (k : Keeps D w w') (hd : ∀ b, v.ownBlock = some b → ¬ D b) : MRow w' base e v n xs := by
  obtain ⟨h1, g, cap, cur, fr, rfl, hb, hg, hr⟩ := h
  exact ⟨h1, g, cap, cur, fr, rfl, hb, k.heap hg (hd g (by simp [Value.ownBlock])), hr⟩
theorem MRow.block {w : World} {base : Nat} {e : TypeId} {v : Value} {n : Nat} {xs : List Value} (h : MRow w base e v n xs) : ∀ k, v.ownBlock = some k → base ≤ k ∧ k < w.heap.size := by
  obtain ⟨h1, g, cap, cur, fr, rfl, hb, hg, hr⟩ := h
  intro k hk
  simp [Value.ownBlock] at hk
  subst hk
  exact ⟨hb, lt_of_heap hg⟩
theorem frozen_no {w : World} {g o cap : Nat} {cur : Array Value} {e : TypeId} {fr : Nat × Nat} (hg : w.heap[g]? = some (.cells cur e fr)) (hf : fr.2 = 0 ∨ cap ≤ fr.1) (ho : o < cap) : w.frozen? ⟨g, o, none⟩ = false := by
  obtain ⟨lo, hi⟩ := fr
  simp only [World.frozen?, hg]
  rcases hf with h | h
  · simp only at h; subst h; simp
  · simp only at h
    have : ¬ lo ≤ o := by omega
    simp [this]
theorem run_store_m {P : Program} {w : World} {g o cap : Nat} {cur : Array Value} {e : TypeId} {fr : Nat × Nat} {u : Value} (h1 : u.oneCell' = true) (hg : w.heap[g]? = some (.cells cur e fr)) (hf : fr.2 = 0 ∨ cap ≤ fr.1) (ho : o < cap) (hs : cur.size = cap) :
    (store ⟨g, o, none⟩ u .plain).run P w = .ok () (w.putObj g (.cells (cur.setIfInBounds o u) e fr)) := by
  obtain ⟨x, hx⟩ : ∃ x, cur[o]? = some x := ⟨cur[o]'(by omega), by simp [show o < cur.size by omega]⟩
  rw [run_store P w ⟨g, o, none⟩ u .plain h1, cell_of_heap hg hx]
  simp only [frozen_no hg hf ho, Bool.false_eq_true, if_false, set_of_heap u hg]
section ops
variable {P : Program} {ops : Array Oper} {Q : Post} {ds : List Deferred} {f : Env} {w w' : World} {rest : List Oper}
variable {d : Option Nat} {ty : TypeId} {pos : String} {af : Array Edge} {g : Option (Nat × Bool)}
theorem wr_str2bytes {s t e : TypeId} {x : Operand} {l : List UInt8} {sd : TypeDesc} [U : Und P s sd] [V : Und P t (.slice e)] [E : Und P e (.int .u8)] (hw : wantedE ops f ⟨d, .convert s t x, ty, pos, af, g⟩ = true) (hx : ev f x = S l) (hlen : l.length ≤ maxLen)
    (kk : ∀ v w', MRow w' w.heap.size e v l.length (bytesV l) → Keeps NoB w w' → Wr P ops Q ds rest (setO f d v) w') : Wr P ops Q ds (⟨d, .convert s t x, ty, pos, af, g⟩ :: rest) f w := by
  refine wr_v (s := convert s t (ev f x)) (w' := bytesWorld w e ⟨l.toArray⟩) hw rfl (by rw [hx]; exact run_convert_string_bytes w s t e ⟨l.toArray⟩ U.h V.h E.h) (kk _ _ ?_ ⟨rfl, rfl, rfl, by rw [bytesWorld_size]; omega, fun k hk _ => bytesWorld_at_old w e _ k hk⟩)
  have hge := grownCap_ge w l.length 0 e
  have hle := grownCap_le_maxLen w l.length 0 e hlen
  have hsz : (⟨l.toArray⟩ : ByteArray).size = l.length := S_size l
  have hbc : (bytesCells w e ⟨l.toArray⟩).size = grownCap w l.length 0 e := by
    unfold bytesCells
    rw [hsz]; simp; omega
  refine ⟨by simp [bytesV], w.heap.size, grownCap w (⟨l.toArray⟩ : ByteArray).size 0 e, bytesCells w e ⟨l.toArray⟩, _, by rw [hsz], Nat.le_refl _, bytesWorld_at_new w e _, by rw [hsz]; exact hge, by rw [hsz]; exact hle, by rw [hbc, hsz], ?_, .inr (by rw [hbc, hsz]; exact Nat.le_refl _)⟩
  unfold bytesCells
  rw [Array.toList_append]
  have : ((⟨l.toArray⟩ : ByteArray).data.map fun b => Value.int .u8 (b.toNat : Int)).toList = bytesV l := by simp [bytesV]
  rw [this, List.take_left' (by simp [bytesV])]
theorem wr_storeM {t e : TypeId} {z : Value} {by' base n cap gb o : Nat} {x y : Operand} {xs : List Value} {u : Value} [I : Info P t z 1 by'] (hw : wantedE ops f ⟨d, .store t x y, ty, pos, af, g⟩ = true) (hx : ev f x = .pointer (some ⟨gb, o, none⟩)) (hy : ev f y = u) (h1 : u.oneCell' = true)
    (hm : MRow w base e (.slice (some ⟨gb, 0, none⟩) n cap) n xs) (ho : o < n) (kk : ∀ w', MRow w' base e (.slice (some ⟨gb, 0, none⟩) n cap) n (xs.set o u) → Keeps (· = gb) w w' → Wr P ops Q ds rest (setO f d undef) w') :
    Wr P ops Q ds (⟨d, .store t x y, ty, pos, af, g⟩ :: rest) f w := by
  obtain ⟨hl, g', cap', cur, fr, hv, hb, hg, hn, hmx, hs, ht, hf⟩ := hm
  simp only [Value.slice.injEq, Option.some.injEq, Addr.mk.injEq, and_true] at hv
  obtain ⟨rfl, _, rfl⟩ := hv
  refine wr_u (s := Instr.storeAt t (ev f x) (ev f y)) (w' := w.putObj gb (.cells (cur.setIfInBounds o u) e fr)) hw rfl ?_ (kk _ ⟨by simpa using hl, gb, cap, _, fr, rfl, hb, World.putObj_heap_same (lt_of_heap hg), hn, hmx, by simpa using hs, ?_, hf⟩ ((Keeps.refl _ w).put _ (fun _ => rfl)))
  · have hcells : u.cells = #[u] := by cases u <;> first | rfl | simp [Value.oneCell'] at h1
    have hst := run_store_m (P := P) (cap := cap) h1 hg hf (by omega : o < cap) hs
    rw [hx, hy]
    simp only [Instr.storeAt, Instr.sureAddr, storeVar, Sem.run_bind, Sem.run_pure, Result.andThen_ok, run_sizeOf' I, hcells]
    simp only [List.size_toArray, List.length_cons, List.length_nil, Nat.zero_add, ne_eq, not_true_eq_false, if_false, Sem.run_pure, Result.andThen_ok, storeCells, Sem.run_bind, addr_add, Nat.add_zero, hst]
  · rw [Array.toList_setIfInBounds, List.take_set, ht]
/-- One element appended: in place, or in a new row. -/
theorem wr_append1M {t e : TypeId} {z : Value} {by' : Nat} {x y : Operand} {base n b c : Nat} {v u : Value} {xs : List Value} {e' : TypeId} {fr : Nat × Nat} [U : Und P t (.slice e)] [I : Info P e z 1 by']
    (hw : wantedE ops f ⟨d, .call { callee := .builtin .append, args := #[x, y], argTypes := #[t, t] }, ty, pos, af, g⟩ = true) (hx : ev f x = v) (hown : MRow w base e v n xs) (hy : ev f y = .slice (some ⟨b, 0, none⟩) 1 c)
    (hb : w.heap[b]? = some (.cells #[u] e' fr)) (h1 : u.oneCell' = true) (hzs : z.cells.size = 1) (h63 : n + 1 ≤ 1000000000000) (hby : by' ≤ 8) (hbase : base ≤ w.heap.size)
    (kk : ∀ v' w', MRow w' base e v' (n + 1) (xs ++ [u]) → Keeps (fun k => v.ownBlock = some k) w w' → Wr P ops Q ds rest (setO f d v') w') :
    Wr P ops Q ds (⟨d, .call { callee := .builtin .append, args := #[x, y], argTypes := #[t, t] }, ty, pos, af, g⟩ :: rest) f w := by
  obtain ⟨i, hi, hz, hs, hby'⟩ := I.parts
  obtain ⟨hl, g', cap, cur, fr', rfl, hbg, hg, hn, hm, hcs, ht, hf⟩ := hown
  have hnews : ∀ j w1, [u][j]? = some w1 → w.cell? ((⟨b, 0, none⟩ : Addr).add j) = some w1 := fun j w1 hj => by rw [addr_add]; exact cell_of_heap hb (by simpa using hj)
  by_cases hroom : n + 1 ≤ cap
  · have hff := run_firstCells_some (P := P) w i.size 1 ⟨b, 0, none⟩ 1 c [u] (by rw [hs]; rfl) hnews
    rw [hs] at hff
    have hst := run_store_m (P := P) (cap := cap) (o := n) h1 hg hf (by omega) hcs
    refine wr_val (v := .slice (some ⟨g', 0, none⟩) (n + 1) cap) (w' := w.putObj g' (.cells (cur.setIfInBounds n u) e fr')) hw ?_ (kk _ _ ⟨by simp [hl], g', cap, _, fr', rfl, hbg, World.putObj_heap_same (lt_of_heap hg), hroom, hm, by simpa using hcs, ?_, hf⟩ ((Keeps.refl _ w).put _ (fun _ => by simp [Value.ownBlock])))
    · have hst' : (storeCells ⟨g', n, none⟩ [u]).run P w = .ok () (w.putObj g' (.cells (cur.setIfInBounds n u) e fr')) := by
        simp only [storeCells, addr_add, Nat.add_zero, Sem.run_bind, hst, Result.andThen_ok, Sem.run_pure]
      have hap : (Builtin.append_ #[t, t] ty #[.slice (some ⟨g', 0, none⟩) n cap, .slice (some ⟨b, 0, none⟩) 1 c]).run P w = .ok (.slice (some ⟨g', 0, none⟩) (n + 1) cap) (w.putObj g' (.cells (cur.setIfInBounds n u) e fr')) := by
        simp [Builtin.append_, run_underlying U.h, sizeOf, typeInfo, hi, Builtin.lenOf, hroom, hff, Addr.add_lit, hst', hs]
      simp only [execOp, resolve, invoke, builtin, Sem.run_bind, Sem.run_pure, Result.andThen_ok, List.map_toArray, List.map_cons, List.map_nil, hx, hy, hap]
    · rw [Array.toList_setIfInBounds, ← ht]
      apply List.ext_getElem?
      intro j
      rw [List.getElem?_append]
      rcases Nat.lt_trichotomy j n with h | h | h
      · rw [List.getElem?_take_of_lt (by omega), List.getElem?_set_ne (by omega), if_pos (by rw [List.length_take, Array.length_toList]; omega), List.getElem?_take_of_lt h]
      · subst h
        rw [List.getElem?_take_of_lt (by omega), List.getElem?_set_self (by rw [Array.length_toList]; omega), if_neg (by rw [List.length_take, Array.length_toList]; omega)]
        rw [List.length_take, Array.length_toList, Nat.min_eq_left (by omega), Nat.sub_self]; rfl
      · rw [List.getElem?_eq_none (by rw [List.length_take]; omega), if_neg (by rw [List.length_take, Array.length_toList]; omega)]
        rw [List.length_take, Array.length_toList, Nat.min_eq_left (by omega), List.getElem?_eq_none (by simp; omega)]
  · have holds : ∀ j w1, xs[j]? = some w1 → w.cell? ((⟨g', 0, none⟩ : Addr).add j) = some w1 := fun j w1 hj => by
      rw [addr_add, Nat.zero_add]
      refine cell_of_heap hg ?_
      have hjn : j < n := by rw [← hl]; exact (List.getElem?_eq_some_iff.1 hj).1
      rw [← ht, List.getElem?_take_of_lt hjn] at hj
      simpa using hj
    have hr := run_append_grow (P := P) w t ty e i z U.h hi hz ⟨g', 0, none⟩ n cap xs (by rw [hs]; omega) holds ⟨b, 0, none⟩ 1 c [u] (by rw [hs]; rfl) hnews (by omega) (by omega) (growslice_fits (by omega) (by rw [hby']; have : (n + 1) * by' ≤ 1000000000000 * 8 := Nat.mul_le_mul h63 hby; omega))
    have hge := grownCap_ge w (n + 1) cap e
    have hcm := grownCap_le_maxLen w (n + 1) cap e (by unfold maxLen; omega)
    refine wr_val (v := .slice (some ⟨w.heap.size, 0, none⟩) (n + 1) (grownCap w (n + 1) cap e)) (w' := w.drew.alloc (.cells (xs.toArray ++ [u].toArray ++ Builtin.zeroCells z.cells (grownCap w (n + 1) cap e - (n + 1))) e)) hw ?_ (kk _ _ ⟨by simp [hl], w.heap.size, _, _, (0, 0), rfl, hbase, heap_alloc_new w.drew _, hge, hcm, ?_, ?_, .inl rfl⟩ ⟨rfl, rfl, rfl, by simp, fun k hk _ => heap_alloc_old w.drew _ k hk⟩)
    · simp only [execOp, resolve, invoke, builtin, Sem.run_bind, Sem.run_pure, Result.andThen_ok, List.map_toArray, List.map_cons, List.map_nil, hx, hy, hr]
    · simp only [Array.size_append, List.size_toArray, size_zeroCells, hzs, hl, List.length_cons, List.length_nil, Nat.mul_one]
      omega
    · simp only [Array.toList_append, List.append_assoc]
      rw [← List.append_assoc, List.take_left' (by simp [hl])]
end ops
end Go.V
