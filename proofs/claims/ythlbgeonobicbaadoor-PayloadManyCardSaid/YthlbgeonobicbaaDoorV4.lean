/- The calculus, fourth text: slices: made, appended to, indexed, cut, read; bytes to a string. -/
import Derived.Test.YthlbgeonobicbaaDoorV3
namespace Go.V
open Go.RowKit
set_option linter.unusedVariables false
set_option linter.unusedSimpArgs false

/-! ### A literal's cells -/
theorem zipIdx_fold (off : Nat) : ∀ (vs : List Value) (k : Nat) (cs : Array Value), off + k + vs.length ≤ cs.size →
    ((vs.zipIdx k).foldl (fun cs (p : Value × Nat) => cs.setIfInBounds (off + p.2) p.1) cs).toList = cs.toList.take (off + k) ++ vs ++ cs.toList.drop (off + k + vs.length)
  | [], k, cs, _ => by simp
  | v :: vs, k, cs, h => by
    simp only [List.length_cons] at h
    simp only [List.zipIdx_cons, List.foldl_cons]
    rw [zipIdx_fold off vs (k + 1) _ (by simp; omega)]
    have e := list_seg_step cs.toList (off + k) v vs (by simp; omega)
    simpa [Array.toList_setIfInBounds, Nat.add_assoc] using e
theorem zipIdx_toList_fold {α β : Type} (a : Array α) (g : β → α × Nat → β) (b : β) : a.zipIdx.foldl g b = (a.toList.zipIdx).foldl g b := by
  rw [← Array.foldl_toList]; simp
theorem fill_parts (size : Nat) : ∀ (vs : List Value) (k : Nat) (cs : Array Value), (∀ v ∈ vs, v.cells.size = size) → (k + vs.length) * size ≤ cs.size →
    ∃ cs', Instr.fill (fun i => some (i * size, size)) cs ((vs.zipIdx k).map fun p => (p.2, p.1)) = some cs' ∧
      cs'.toList = cs.toList.take (k * size) ++ vs.flatMap (fun v => v.cells.toList) ++ cs.toList.drop ((k + vs.length) * size)
  | [], k, cs, _, _ => ⟨cs, rfl, by simp⟩
  | v :: vs, k, cs, hv, h => by
    have h1 : v.cells.size = size := hv v (by simp)
    simp only [List.length_cons] at h
    have hm : (k + (vs.length + 1)) * size = k * size + size + vs.length * size := by rw [Nat.add_mul, Nat.add_mul]; omega
    have hk : k * size + size = (k + 1) * size := by rw [Nat.add_mul, Nat.one_mul]
    have hfold := zipIdx_fold (k * size) v.cells.toList 0 cs (by simp [h1]; omega)
    obtain ⟨cs', e1, e2⟩ := fill_parts size vs (k + 1) (v.cells.zipIdx.foldl (fun cs (c, j) => cs.setIfInBounds (k * size + j) c) cs) (fun u hu => hv u (by simp [hu])) (by
      have hsz : (v.cells.zipIdx.foldl (fun cs (c, j) => cs.setIfInBounds (k * size + j) c) cs).size = cs.size := by
        rw [← Array.length_toList, zipIdx_toList_fold, hfold]; simp [h1]; omega
      rw [hsz, Nat.add_assoc, Nat.add_comm 1]; exact h)
    refine ⟨cs', ?_, ?_⟩
    · simp only [List.zipIdx_cons, List.map_cons, Instr.fill]
      rw [if_neg (by simp [h1]; omega)]
      exact e1
    · rw [e2, zipIdx_toList_fold, hfold]
      simp only [Nat.add_zero, Array.length_toList, h1, List.flatMap_cons, List.length_cons]
      have hT : (cs.toList.take (k * size) ++ v.cells.toList).length = k * size + size := by simp [h1]; omega
      generalize hTd : cs.toList.take (k * size) ++ v.cells.toList = T at *
      rw [← hk, show (k + 1 + vs.length) * size = (k * size + size) + vs.length * size by rw [Nat.add_mul, ← hk]]
      rw [List.take_left' hT, ← List.drop_drop, List.drop_left' hT, List.drop_drop, hm, ← hTd]
      simp [List.append_assoc]

/-! ### Slices that are read -/
/-- v is a slice of n elements of sz cells each, that reads cs. -/
def SlR (w : World) (sz : Nat) (v : Value) (n : Nat) (cs : List Value) : Prop :=
  cs.length = n * sz ∧ ∃ a c, v = .slice a n c ∧ n ≤ c ∧
    ((n = 0 ∧ (a = none → c = 0)) ∨ ∃ b o cur e fr, a = some ⟨b, o, none⟩ ∧ w.heap[b]? = some (.cells cur e fr) ∧ ∀ j, j < n * sz → cur[o + j]? = cs[j]?)
theorem SlR.keep {D : Nat → Prop} {w w' : World} {sz n : Nat} {v : Value} {cs : List Value} (h : SlR w sz v n cs) (k : Keeps D w w') (hd : ∀ b, v.ownBlock = some b → ¬ D b) : SlR w' sz v n cs := by
  obtain ⟨hl, a, c, rfl, hc, h⟩ := h
  refine ⟨hl, a, c, rfl, hc, ?_⟩
  rcases h with h | ⟨b, o, cur, e, fr, rfl, hb, hr⟩
  · exact .inl h
  · exact .inr ⟨b, o, cur, e, fr, rfl, k.heap hb (hd b (by simp [Value.ownBlock])), hr⟩
theorem SlR.of_own {w : World} {base : Nat} {e : TypeId} {sz n : Nat} {v : Value} {xs : List Value} (h : w.ownsRow base e sz v n xs) : SlR w sz v n xs := by
  obtain ⟨hl, h⟩ := h
  rcases h with ⟨rfl, rfl⟩ | ⟨g, cap, cur, rfl, hb, hg, hn, hm, hs, ht⟩
  · exact ⟨hl, none, 0, rfl, Nat.le_refl _, .inl ⟨rfl, fun _ => rfl⟩⟩
  · refine ⟨hl, _, cap, rfl, hn, .inr ⟨g, 0, cur, e, (0, 0), rfl, hg, fun j hj => ?_⟩⟩
    rw [← ht, List.getElem?_take_of_lt hj, Nat.zero_add]; simp

theorem Keeps.of_grownBy {w w' : World} {row : Option Nat} (h : w.grownBy w' row) : Keeps (fun k => row = some k) w w' :=
  ⟨h.os, h.tape, h.output, h.size, fun k hk hd => h.block k hk fun e => hd e.symm⟩
theorem own_keep {D : Nat → Prop} {w w' : World} {base : Nat} {e : TypeId} {sz n : Nat} {v : Value} {xs : List Value} (h : w.ownsRow base e sz v n xs) (k : Keeps D w w') (hd : ∀ b, v.ownBlock = some b → ¬ D b) : w'.ownsRow base e sz v n xs := by
  refine ⟨h.1, ?_⟩
  rcases h.2 with hn | ⟨g, cap, cur, rfl, hb, hg, hr⟩
  · exact .inl hn
  · exact .inr ⟨g, cap, cur, rfl, hb, k.heap hg (hd g (by simp [Value.ownBlock])), hr⟩

section ops
variable {P : Program} {ops : Array Oper} {Q : Post} {ds : List Deferred} {f : Env} {w w' : World} {rest : List Oper}
variable {d : Option Nat} {ty : TypeId} {pos : String} {af : Array Edge} {g : Option (Nat × Bool)}
theorem wr_buildSlice {t e : TypeId} {z : Value} {size by' len : Nat} {parts : Array (Nat × Operand)} {vs : List Value} [U : Und P t (.slice e)] [I : Info P e z size by'] (hw : wantedE ops f ⟨d, .buildSlice t len parts, ty, pos, af, g⟩ = true)
    (hp : parts.toList.map (fun p => (p.1, ev f p.2)) = (vs.zipIdx 0).map fun p => (p.2, p.1)) (hv : ∀ v ∈ vs, v.cells.size = size) (hlen : vs.length = len) (hs : 0 < len * size) (hm : len * size ≤ 16777216) (hz : 0 < z.cells.size)
    (kk : Wr P ops Q ds rest (setO f d (.slice (some ⟨w.heap.size, 0, none⟩) len len)) (w.alloc (.cells (vs.flatMap (fun v => v.cells.toList)).toArray e))) : Wr P ops Q ds (⟨d, .buildSlice t len parts, ty, pos, af, g⟩ :: rest) f w := by
  have hpl : ∀ F : Nat × Operand → Nat × Value, (∀ p, F p = (p.1, ev f p.2)) → (parts.map F).toList = (vs.zipIdx 0).map fun p => (p.2, p.1) := fun F hF => by
    rw [← hp, Array.toList_map]; exact List.map_congr_left fun p _ => hF p
  obtain ⟨cs', e1, e2⟩ := fill_parts size vs 0 ((Array.range (len * size)).map (z.cells[· % z.cells.size]!)) hv (by simp [hlen])
  have e3 : cs' = (vs.flatMap (fun v => v.cells.toList)).toArray := by
    apply Array.toList_inj.1
    rw [e2]
    simp only [Nat.zero_mul, List.take_zero, List.nil_append, Nat.zero_add, hlen]
    rw [List.drop_of_length_le (by simp)]; simp
  refine wr_val (v := .slice (some ⟨w.heap.size, 0, none⟩) len len) (w' := w.alloc (.cells (vs.flatMap (fun v => v.cells.toList)).toArray e)) hw ?_ kk
  simp only [execOp, Instr.buildSlice, Sem.run_bind, run_und U, Result.andThen_ok, run_sizeOf' I]
  rw [if_neg (by omega)]
  simp only [Sem.run_pure, Result.andThen_ok]
  rw [if_neg (by omega)]
  simp only [Sem.run_bind, run_zero I, Result.andThen_ok, Sem.run_pure]
  rw [hpl _ (fun p => rfl)]
  simp only [e1, e3, newRow, Sem.run_bind, run_newObj, Result.andThen_ok, Sem.run_pure]
  rfl
/-- An append of the elements of a new block to a slice of the call's own. -/
theorem wr_append {t e : TypeId} {z : Value} {size by' : Nat} {x y : Operand} {base n m c b : Nat} {v : Value} {xs news : List Value} {e' : TypeId} {fr : Nat × Nat} [U : Und P t (.slice e)] [I : Info P e z size by']
    (hw : wantedE ops f ⟨d, .call { callee := .builtin .append, args := #[x, y], argTypes := #[t, t] }, ty, pos, af, g⟩ = true) (hx : ev f x = v) (hown : w.ownsRow base e size v n xs) (hy : ev f y = .slice (some ⟨b, 0, none⟩) m c)
    (hb : w.heap[b]? = some (.cells news.toArray e' fr)) (hl : news.length = m * size) (h1 : ∀ u ∈ news, u.oneCell' = true) (hzs : z.cells.size = size) (hsz : 0 < size) (h63 : n + m ≤ 9223372036854775807) (hbytes : (n + m) * by' ≤ 140737488355328) (hbase : base ≤ w.heap.size)
    (kk : ∀ v' w', w'.ownsRow base e size v' (n + m) (xs ++ news) → Keeps (fun k => v.ownBlock = some k) w w' → (v' = .slice none 0 0 ↔ v = .slice none 0 0 ∧ m = 0) → Wr P ops Q ds rest (setO f d v') w') :
    Wr P ops Q ds (⟨d, .call { callee := .builtin .append, args := #[x, y], argTypes := #[t, t] }, ty, pos, af, g⟩ :: rest) f w := by
  obtain ⟨i, hi, hz, hs, hby⟩ := I.parts
  obtain ⟨v', w', hr, ho, hg, hn⟩ := run_append_own (P := P) w base t ty e i z size by' U.h hi hz hs hby hzs hsz v n xs hown ⟨b, 0, none⟩ m c news hl (fun j u hj => by rw [addr_add]; exact cell_of_heap hb (by simpa using hj)) h1 (by unfold maxLen; exact h63) hbytes hbase
  refine wr_val (v := v') (w' := w') hw ?_ (kk v' w' ho (Keeps.of_grownBy hg) hn)
  simp only [execOp, resolve, invoke, builtin, Sem.run_bind, Sem.run_pure, Result.andThen_ok, List.map_toArray, List.map_cons, List.map_nil, hx, hy, hr]
/-- append(s, more...): what is appended is read, wherever it lies. -/
theorem wr_appendR {t e : TypeId} {z : Value} {size by' : Nat} {x y : Operand} {base n m : Nat} {v u : Value} {xs news : List Value} [U : Und P t (.slice e)] [I : Info P e z size by']
    (hw : wantedE ops f ⟨d, .call { callee := .builtin .append, args := #[x, y], argTypes := #[t, t] }, ty, pos, af, g⟩ = true) (hx : ev f x = v) (hown : w.ownsRow base e size v n xs) (hy : ev f y = u)
    (hu : SlR w size u m news) (h1 : ∀ u ∈ news, u.oneCell' = true) (hzs : z.cells.size = size) (hsz : 0 < size) (h63 : n + m ≤ 9223372036854775807) (hbytes : (n + m) * by' ≤ 140737488355328) (hbase : base ≤ w.heap.size)
    (kk : ∀ v' w', w'.ownsRow base e size v' (n + m) (xs ++ news) → Keeps (fun k => v.ownBlock = some k) w w' → (v' = .slice none 0 0 ↔ v = .slice none 0 0 ∧ m = 0) → Wr P ops Q ds rest (setO f d v') w') :
    Wr P ops Q ds (⟨d, .call { callee := .builtin .append, args := #[x, y], argTypes := #[t, t] }, ty, pos, af, g⟩ :: rest) f w := by
  obtain ⟨i, hi, hz, hs, hby⟩ := I.parts
  obtain ⟨hl, a, c, rfl, hc, hu⟩ := hu
  rcases hu with ⟨rfl, hac⟩ | ⟨b, o, cur, e', fr, rfl, hb, hr⟩
  · have hnil : news = [] := List.eq_nil_of_length_eq_zero (by simpa using hl)
    subst hnil
    cases a with
    | none =>
      have := hac rfl
      subst this
      have hr := run_append_owned_none (P := P) w base t ty e i size U.h hi v n xs hown
      refine wr_val (v := v) (w' := w) hw ?_ (kk v w (by simpa using hown) (Keeps.refl _ _) (by simp))
      simp only [execOp, resolve, invoke, builtin, Sem.run_bind, Sem.run_pure, Result.andThen_ok, List.map_toArray, List.map_cons, List.map_nil, hx, hy, hr]
    | some ad =>
      obtain ⟨v', w', hr', ho, hg, hn⟩ := run_append_own (P := P) w base t ty e i z size by' U.h hi hz hs hby hzs hsz v n xs hown ad 0 c [] (by simp) (fun j u hj => by simp at hj) h1 (by unfold maxLen; exact h63) hbytes hbase
      refine wr_val (v := v') (w' := w') hw ?_ (kk v' w' ho (Keeps.of_grownBy hg) hn)
      simp only [execOp, resolve, invoke, builtin, Sem.run_bind, Sem.run_pure, Result.andThen_ok, List.map_toArray, List.map_cons, List.map_nil, hx, hy, hr']
  · obtain ⟨v', w', hr', ho, hg, hn⟩ := run_append_own (P := P) w base t ty e i z size by' U.h hi hz hs hby hzs hsz v n xs hown ⟨b, o, none⟩ m c news hl (fun j u hj => by
      rw [addr_add]; refine cell_of_heap hb ((hr j ?_).trans hj)
      have := (List.getElem?_eq_some_iff.1 hj).1; omega) h1 (by unfold maxLen; exact h63) hbytes hbase
    refine wr_val (v := v') (w' := w') hw ?_ (kk v' w' ho (Keeps.of_grownBy hg) hn)
    simp only [execOp, resolve, invoke, builtin, Sem.run_bind, Sem.run_pure, Result.andThen_ok, List.map_toArray, List.map_cons, List.map_nil, hx, hy, hr']
theorem wr_make0 {t e : TypeId} {z : Value} {size by' : Nat} {l c : Operand} {cap : Nat} {kl kc : IntKind} (base : Nat) [U : Und P t (.slice e)] [I : Info P e z size by'] (hw : wantedE ops f ⟨d, .makeSlice t l c, ty, pos, af, g⟩ = true) (hl : ev f l = .int kl 0) (hc : ev f c = .int kc (cap : Int))
    (hbytes : by' * cap ≤ 281474976710656) (h63 : cap ≤ 9223372036854775807) (hbase : base ≤ w.heap.size)
    (kk : ∀ v' w', w'.ownsRow base e size v' 0 [] → Keeps NoB w w' → v' ≠ .slice none 0 0 → Wr P ops Q ds rest (setO f d v') w') : Wr P ops Q ds (⟨d, .makeSlice t l c, ty, pos, af, g⟩ :: rest) f w := by
  obtain ⟨i, hi, hz, hs, hby⟩ := I.parts
  subst hby
  obtain ⟨w', hr, ho, hg⟩ := run_make_own (P := P) w base t e i z size U.h hi hz hs kl kc cap hbytes (by unfold maxLen; exact h63) hbase
  refine wr_v (s := Instr.makeSlice t (ev f l) (ev f c)) hw rfl (by rw [hl, hc]; exact hr) (kk _ _ ho ((Keeps.of_grownBy hg).mono fun k _ h => by cases h) (by simp))
theorem wr_makeN {t e : TypeId} {z : Value} {size by' : Nat} {l c : Operand} {n : Nat} {kl kc : IntKind} (base : Nat) [U : Und P t (.slice e)] [I : Info P e z size by'] (hw : wantedE ops f ⟨d, .makeSlice t l c, ty, pos, af, g⟩ = true) (hl : ev f l = .int kl (n : Int)) (hc : ev f c = .int kc (n : Int))
    (hz1 : z.cells = #[z]) (hs1 : size = 1) (hbytes : by' * n ≤ 281474976710656) (h63 : n ≤ 9223372036854775807) (hbase : base ≤ w.heap.size)
    (kk : ∀ v' w', w'.ownsRow base e size v' n (List.replicate n z) → Keeps NoB w w' → v' ≠ .slice none 0 0 → Wr P ops Q ds rest (setO f d v') w') : Wr P ops Q ds (⟨d, .makeSlice t l c, ty, pos, af, g⟩ :: rest) f w := by
  obtain ⟨i, hi, hz, hs, hby⟩ := I.parts
  subst hby; subst hs1
  obtain ⟨w', hr, ho, hg⟩ := run_make_full (P := P) w base t e i z 1 U.h hi hz hs kl kc n hbytes (by unfold maxLen; exact h63) hbase
  rw [hz1, Nat.mul_one, toList_madeCells_one] at ho
  refine wr_v (s := Instr.makeSlice t (ev f l) (ev f c)) hw rfl (by rw [hl, hc]; exact hr) (kk _ _ ho ((Keeps.of_grownBy hg).mono fun k _ h => by cases h) (by simp))
/-- The address of an element. -/
theorem wr_indexAddr {t e : TypeId} {z : Value} {size by' : Nat} {x y : Operand} {b o n c : Nat} {k : IntKind} {i : Nat} [U : Und P t (.slice e)] [I : Info P e z size by'] (hw : wantedE ops f ⟨d, .indexAddr t x y, ty, pos, af, g⟩ = true) (hx : ev f x = .slice (some ⟨b, o, none⟩) n c) (hy : ev f y = .int k (i : Int))
    (hi : i < n) (kk : Wr P ops Q ds rest (setO f d (.pointer (some ⟨b, o + i * size, none⟩))) w) : Wr P ops Q ds (⟨d, .indexAddr t x y, ty, pos, af, g⟩ :: rest) f w := by
  refine wr_v (s := Instr.indexAt t (ev f x) (ev f y)) (v := .pointer (some ⟨b, o + i * size, none⟩)) hw rfl ?_ kk
  rw [hx, hy]
  simp only [Instr.indexAt, asIntOf, Sem.run_bind, Sem.run_pure, Result.andThen_ok, run_und U]
  rw [if_pos ⟨by omega, by omega⟩]
  simp only [Sem.run_bind, run_sizeOf' I, Result.andThen_ok, Sem.run_pure, Int.toNat_natCast, addr_add]
/-- x[lo:hi] of a slice. -/
theorem run_sl_slice {t e : TypeId} {z : Value} {size by' : Nat} {a : Option Addr} {n c i j : Nat} {lo hi : Option Value} (U : Und P t (.slice e)) (I : Info P e z size by') (hj : hi = none ∧ j = n ∨ ∃ k, hi = some (.int k (j : Int)) ∧ j ≤ c) (hi' : lo = none ∧ i = 0 ∨ ∃ k, lo = some (.int k (i : Int)) ∧ i ≤ j) :
    (Instr.sliceAt t (.slice a n c) lo hi none).run P w = .ok (.slice (if c = i then a else a.map (·.add (i * size))) (j - i) (c - i)) w := by
  have hb : ∀ (k : IntKind) (n y : Nat) (c : BoundsCode), n ≤ y → (Instr.sliceBound (.int k (n : Int)) y c).run P w = .ok n w := fun k n y c h => by
    simp only [Instr.sliceBound, asIntOf, Sem.run_bind, Sem.run_pure, Result.andThen_ok]
    rw [if_pos ⟨by omega, by omega⟩]; simp
  have hs : (Instr.sliceBounds true n c lo hi none).run P w = .ok (i, j, c) w := by
    rcases hj with ⟨rfl, rfl⟩ | ⟨k, rfl, hj⟩ <;> rcases hi' with ⟨rfl, rfl⟩ | ⟨k', rfl, hi'⟩ <;> simp only [Instr.sliceBounds, Sem.run_bind, Sem.run_pure, Result.andThen_ok]
    · rw [hb k' i _ _ hi']; simp
    · simp only [if_true]; rw [hb k j _ _ hj]; simp
    · simp only [if_true]; rw [hb k j _ _ hj]; simp only [Result.andThen_ok]; rw [hb k' i _ _ hi']; simp
  simp only [Instr.sliceAt, Instr.slice, Sem.run_bind, run_und U, Result.andThen_ok, hs, run_sizeOf' I, Sem.run_pure]
theorem wr_sl_slice {t e : TypeId} {z : Value} {size by' : Nat} {x : Operand} {lo hi : Option Operand} {a : Option Addr} {n c i j : Nat} [U : Und P t (.slice e)] [I : Info P e z size by'] (hw : wantedE ops f ⟨d, .slice t x lo hi none, ty, pos, af, g⟩ = true) (hx : ev f x = .slice a n c)
    (hj : hi.map (ev f) = none ∧ j = n ∨ ∃ k, hi.map (ev f) = some (.int k (j : Int)) ∧ j ≤ c) (hi' : lo.map (ev f) = none ∧ i = 0 ∨ ∃ k, lo.map (ev f) = some (.int k (i : Int)) ∧ i ≤ j)
    (kk : Wr P ops Q ds rest (setO f d (.slice (if c = i then a else a.map (·.add (i * size))) (j - i) (c - i))) w) : Wr P ops Q ds (⟨d, .slice t x lo hi none, ty, pos, af, g⟩ :: rest) f w :=
  wr_v (s := Instr.sliceAt t (ev f x) (lo.map (ev f)) (hi.map (ev f)) none) hw rfl (by rw [hx]; exact run_sl_slice U I hj hi') kk
def bytesV (l : List UInt8) : List Value := l.map fun b => .int .u8 (b.toNat : Int)
theorem push_fold : ∀ (l : List UInt8) (s : List UInt8), (l.map fun b => (b.toNat : Int)).foldl (fun r n => r.push (UInt8.ofNat n.toNat)) (⟨s.toArray⟩ : ByteArray) = ⟨(s ++ l).toArray⟩
  | [], s => by simp
  | b :: l, s => by
    simp only [List.map_cons, List.foldl_cons]
    have e : (⟨s.toArray⟩ : ByteArray).push (UInt8.ofNat ((b.toNat : Int)).toNat) = ⟨(s ++ [b]).toArray⟩ := by
      simp [ByteArray.push]
    rw [e, push_fold l (s ++ [b])]; simp
theorem wr_bytes2str {s t e : TypeId} {x : Operand} {v : Value} {n : Nat} {l : List UInt8} [U : Und P s (.slice e)] [E : Und P e (.int .u8)] [T : Und P t .string] (hw : wantedE ops f ⟨d, .convert s t x, ty, pos, af, g⟩ = true) (hx : ev f x = v)
    (hv : SlR w 1 v n (bytesV l)) (kk : Wr P ops Q ds rest (setO f d (S l)) w) : Wr P ops Q ds (⟨d, .convert s t x, ty, pos, af, g⟩ :: rest) f w := by
  refine wr_v (s := convert s t (ev f x)) (v := S l) hw rfl ?_ kk
  obtain ⟨hl, a, c, rfl, hc, h⟩ := hv
  rw [hx, run_convert_bytes_string w s t e a n c U.h E.h T.h]
  rcases h with ⟨rfl, hac⟩ | ⟨b, o, cur, e', fr, rfl, hb, hr⟩
  · have : l = [] := List.eq_nil_of_length_eq_zero (by simpa [bytesV] using hl)
    subst this
    cases a with
    | none => rfl
    | some ad =>
      have hc : (loadCells ad 0).run P w = .ok ((([] : List Int).map (Value.int .u8)).toArray) w := run_loadCells_list (P := P) w ad [] (fun j v hj => by simp at hj)
      exact run_bytesToString w ad 0 c [] hc
  · have hln : l.length = n := by simpa [bytesV] using hl
    have hc : (loadCells ⟨b, o, none⟩ n).run P w = .ok (bytesV l).toArray w := by
      have := run_loadCells_list (P := P) w ⟨b, o, none⟩ (bytesV l) (fun j v hj => by
        rw [addr_add]; refine cell_of_heap hb ((hr j ?_).trans hj)
        have := (List.getElem?_eq_some_iff.1 hj).1; omega)
      rwa [show (bytesV l).length = n by simpa [bytesV] using hln] at this
    have hm : bytesV l = (l.map fun b => (b.toNat : Int)).map (Value.int .u8) := by simp [bytesV]
    rw [hm] at hc
    rw [run_bytesToString w ⟨b, o, none⟩ n c (l.map fun b => (b.toNat : Int)) hc]
    have := push_fold l []
    simp only [List.nil_append] at this
    rw [show ByteArray.empty = (⟨([] : List UInt8).toArray⟩ : ByteArray) from rfl, this]
end ops
end Go.V
