/- noriaref15: Keys, Drop, Least. -/
import Derived.Test.YtjaojihogmnjhaaGreatDoorJc
namespace Go.V
open Go.RowKit
section ops
variable {P : Program} {ops : Array Oper} {Q : Post} {ds : List Deferred} {f : Env} {w w' : World} {rest : List Oper}
variable {d : Option Nat} {ty : TypeId} {pos : String} {af : Array Edge} {g : Option (Nat × Bool)}
theorem wr_indexArr {t e : TypeId} {z : Value} {size by' len : Nat} {x y : Operand} {b o : Nat} {k : IntKind} {i : Nat} [U : Und P t (.array len e)] [I : Info P e z size by'] (hw : wantedE ops f ⟨d, .indexAddr t x y, ty, pos, af, g⟩ = true) (hx : ev f x = .pointer (some ⟨b, o, none⟩)) (hy : ev f y = .int k (i : Int))
    (hi : i < len) (kk : Wr P ops Q ds rest (setO f d (.pointer (some ⟨b, o + i * size, none⟩))) w) : Wr P ops Q ds (⟨d, .indexAddr t x y, ty, pos, af, g⟩ :: rest) f w := by
  refine wr_v (s := Instr.indexAt t (ev f x) (ev f y)) (v := .pointer (some ⟨b, o + i * size, none⟩)) hw rfl ?_ kk
  rw [hx, hy]
  simp only [Instr.indexAt, asIntOf, Sem.run_bind, Sem.run_pure, Result.andThen_ok, run_und U, Instr.sureAddr]
  rw [if_pos ⟨by omega, by omega⟩]
  simp only [Sem.run_bind, run_sizeOf' I, Result.andThen_ok, Sem.run_pure, Int.toNat_natCast, addr_add]
end ops
end Go.V
namespace Go.Proofs.YtjaojihogmnjhaaGreatDoor
open Go Go.V Go.RowKit
set_option linter.unusedVariables false
set_option linter.unusedSimpArgs false

theorem bytesLt_trans (x y z : TT) (h1 : x < y) (h2 : y < z) : x < z := List.lt_trans h1 h2
theorem ltK_irr (a : KY) : ¬ ltK a a := fun h => h.elim (Int.lt_irrefl _) (fun h => bytesLt_irr _ h.2)
theorem ltK_tr {a b c : KY} (h1 : ltK a b) (h2 : ltK b c) : ltK a c := by
  unfold ltK at *
  rcases h1 with h1 | ⟨e1, h1⟩ <;> rcases h2 with h2 | ⟨e2, h2⟩
  · exact .inl (by omega)
  · exact .inl (by omega)
  · exact .inl (by omega)
  · exact .inr ⟨by omega, bytesLt_trans _ _ _ h1 h2⟩
theorem ltK_tri {a b : KY} (h1 : ¬ ltK a b) (h2 : a ≠ b) : ltK b a := by
  unfold ltK at *
  by_cases e1 : a.1 < b.1
  · exact absurd (Or.inl e1) h1
  by_cases e2 : b.1 < a.1
  · exact .inl e2
  have e3 : a.1 = b.1 := by omega
  refine .inr ⟨e3.symm, ?_⟩
  rcases Decidable.em (b.2 < a.2) with h | h
  · exact h
  · have : a.2 = b.2 := bytesLt_tri _ _ (fun h' => h1 (.inr ⟨e3, h'⟩)) h
    exact absurd (Prod.ext e3 this) h2
def RL (L : List RN) : List (KY × PN) := L.map fun n => (n.k, n.p)
theorem RL_keys (L : List RN) : (RL L).map (·.1) = L.map (·.k) := by simp [RL, Function.comp_def]
theorem sort_nodup {L : List RN} (h : L.Pairwise fun a b => ltK a.k b.k) : ((RL L).map (·.1)).Nodup := by
  rw [RL_keys]
  unfold List.Nodup
  rw [List.pairwise_map]
  exact h.imp fun hab e => by rw [e] at hab; exact ltK_irr _ hab
theorem getL_yes {L : List RN} (h : L.Pairwise fun a b => ltK a.k b.k) {i : Nat} {n : RN} (hn : L[i]? = some n) : getL (RL L) n.k = some n.p :=
  getL_of_mem (sort_nodup h) (List.mem_map.2 ⟨n, List.mem_of_getElem? hn, rfl⟩)
theorem FI_no {L : List RN} (h : L.Pairwise fun a b => ltK a.k b.k) {k : KY} {i : Nat} (hf : FI L k i false) : k ∉ L.map (·.k) := by
  intro hk
  obtain ⟨n, hn, rfl⟩ := List.mem_map.1 hk
  obtain ⟨j, hj⟩ := List.getElem?_of_mem hn
  obtain ⟨hi, hlt, hr⟩ := hf
  rcases hr with ⟨h0, _⟩ | ⟨_, hr⟩
  · cases h0
  by_cases h1 : j < i
  · exact ltK_irr _ (hlt j n h1 hj)
  · by_cases h2 : j = i
    · subst h2
      exact (hr n hj).2 rfl
    · have hjl := (List.getElem?_eq_some_iff.1 hj).1
      obtain ⟨m, hm⟩ : ∃ m, L[i]? = some m := ⟨L[i]'(by omega), by simp⟩
      have hp := List.pairwise_iff_getElem.1 h i j (by omega) hjl (by omega)
      rw [(List.getElem?_eq_some_iff.1 hm).2, (List.getElem?_eq_some_iff.1 hj).2] at hp
      exact (hr m hm).1 hp
theorem getL_no {L : List RN} (h : L.Pairwise fun a b => ltK a.k b.k) {k : KY} {i : Nat} (hf : FI L k i false) : getL (RL L) k = none :=
  getL_none (by rw [RL_keys]; exact FI_no h hf)
theorem FI_yes {L : List RN} {k : KY} {i : Nat} (hf : FI L k i true) : ∃ n, L[i]? = some n ∧ n.k = k := by
  rcases hf.2.2 with ⟨_, h⟩ | ⟨h0, _⟩
  · exact h
  · cases h0
theorem pairwise_set {α : Type} {R : α → α → Prop} {L : List α} {i : Nat} {n' : α} (h : L.Pairwise R) (hnew : ∀ (j : Nat) m, L[j]? = some m → (j < i → R m n') ∧ (i < j → R n' m)) : (L.set i n').Pairwise R := by
  rw [List.pairwise_iff_getElem]
  intro a b ha hb hab
  rw [List.length_set] at ha hb
  rw [List.getElem_set, List.getElem_set]
  by_cases e1 : i = a
  · subst e1
    rw [if_pos rfl, if_neg (by omega)]
    exact (hnew b L[b] (by simp [hb])).2 hab
  · rw [if_neg e1]
    by_cases e2 : i = b
    · subst e2
      rw [if_pos rfl]
      exact (hnew a L[a] (by simp [ha])).1 hab
    · rw [if_neg e2]
      exact List.pairwise_iff_getElem.1 h a b ha hb hab
theorem mem_set' {α : Type} {L : List α} {i : Nat} {x m : α} (h : m ∈ L.set i x) : m = x ∨ ∃ j, j ≠ i ∧ L[j]? = some m := by
  obtain ⟨j, hj⟩ := List.getElem?_of_mem h
  by_cases e : i = j
  · subst e
    left
    have hl := (List.getElem?_eq_some_iff.1 hj).1
    rw [List.length_set] at hl
    rw [List.getElem?_set_self hl] at hj
    cases hj; rfl
  · right
    rw [List.getElem?_set_ne e] at hj
    exact ⟨j, fun h => e h.symm, hj⟩
theorem pair_ne {α : Type} {R : α → α → Prop} (hs : ∀ a b, R a b → R b a) {L : List α} (h : L.Pairwise R) {i j : Nat} {a b : α} (ha : L[i]? = some a) (hb : L[j]? = some b) (hij : i ≠ j) : R a b := by
  obtain ⟨h1, e1⟩ := List.getElem?_eq_some_iff.1 ha
  obtain ⟨h2, e2⟩ := List.getElem?_eq_some_iff.1 hb
  rcases Nat.lt_or_gt_of_ne hij with hlt | hlt
  · have := List.pairwise_iff_getElem.1 h i j h1 h2 hlt
    rw [e1, e2] at this; exact this
  · have := List.pairwise_iff_getElem.1 h j i h2 h1 hlt
    rw [e1, e2] at this; exact hs _ _ this
theorem sep_symm (a b : RN) (h : ∀ q, a.v.ownBlock = some q → b.v.ownBlock ≠ some q) : ∀ q, b.v.ownBlock = some q → a.v.ownBlock ≠ some q := fun q hq e => h q e hq
/-- A note of them another one, of the same key. -/
theorem RefA.set {w w' : World} {base xb i : Nat} {L : List RN} {n n' : RN} (h : RefA w base xb L) (hn : L[i]? = some n) (hk : n'.k = n.k) (hrow : ∃ rv, w'.heap[xb]? = some (.cells #[rv] RAT (0, 0)) ∧ OwnS w' base NTT 37 rv L.length ((L.set i n').flatMap GN))
    (hbad' : OwnS w' base RBT 3 n'.v n'.p.bad.length (n'.p.bad.flatMap GB)) (hbad : ∀ (j : Nat) m, j ≠ i → L[j]? = some m → OwnS w' base RBT 3 m.v m.p.bad.length (m.p.bad.flatMap GB))
    (hbs : n'.p.bad.Pairwise fun a b => a.1 < b.1) (hfew : n'.p.bad.length ≤ 8) (hsep : ∀ (j : Nat) m, j ≠ i → L[j]? = some m → ∀ q, n'.v.ownBlock = some q → m.v.ownBlock ≠ some q) (htb : ∀ id, n'.p.T id ≤ 18446744073709551615) : RefA w' base xb (L.set i n') := by
  obtain ⟨rv, hx, hr⟩ := hrow
  obtain ⟨_, _, hbx, _⟩ := h.row
  refine ⟨⟨rv, hx, hbx, by rw [List.length_set]; exact hr⟩, fun m hm => ?_, ?_, fun m hm => ?_, fun m hm => ?_, ?_, by rw [List.length_set]; exact h.len, fun m hm => ?_⟩
  · rcases mem_set' hm with rfl | ⟨j, hj, hm⟩
    · exact hbad'
    · exact hbad j m hj hm
  · refine pairwise_set h.sort fun j m hm => ?_
    have hp := List.pairwise_iff_getElem.1 h.sort
    obtain ⟨h1, e1⟩ := List.getElem?_eq_some_iff.1 hn
    obtain ⟨h2, e2⟩ := List.getElem?_eq_some_iff.1 hm
    rw [hk]
    refine ⟨fun hlt => ?_, fun hlt => ?_⟩
    · have := hp j i h2 h1 hlt
      rw [e1, e2] at this; exact this
    · have := hp i j h1 h2 hlt
      rw [e1, e2] at this; exact this
  · rcases mem_set' hm with rfl | ⟨j, hj, hm⟩
    · exact hbs
    · exact h.bs m (List.mem_of_getElem? hm)
  · rcases mem_set' hm with rfl | ⟨j, hj, hm⟩
    · exact hfew
    · exact h.few m (List.mem_of_getElem? hm)
  · refine pairwise_set h.sep fun j m hm => ⟨fun hlt => ?_, fun hlt => ?_⟩
    · exact sep_symm _ _ (hsep j m (by omega) hm)
    · exact hsep j m (by omega) hm
  · rcases mem_set' hm with rfl | ⟨j, hj, hm⟩
    · exact htb
    · exact h.tb m (List.mem_of_getElem? hm)
theorem RL_set (L : List RN) (i : Nat) (n' : RN) : RL (L.set i n') = (RL L).set i (n'.k, n'.p) := by unfold RL; rw [List.map_set]
/-- A list's first ones turned. -/
def pre {α : Type} (f : α → α) (l : List α) (i : Nat) : List α := (l.take i).map f ++ l.drop i
theorem pre_zero {α : Type} (f : α → α) (l : List α) : pre f l 0 = l := by simp [pre]
theorem pre_len {α : Type} (f : α → α) (l : List α) (i : Nat) : (pre f l i).length = l.length := by
  unfold pre; rw [List.length_append, List.length_map, List.length_take, List.length_drop]; omega
theorem pre_get {α : Type} (f : α → α) {l : List α} {i : Nat} {x : α} (h : l[i]? = some x) : (pre f l i)[i]? = some x := by
  have hi := (List.getElem?_eq_some_iff.1 h).1
  unfold pre
  rw [List.getElem?_append_right (by rw [List.length_map, List.length_take]; omega), List.length_map, List.length_take, Nat.min_eq_left (by omega), Nat.sub_self, List.getElem?_drop, Nat.add_zero]
  exact h
theorem pre_succ {α : Type} (f : α → α) {l : List α} {i : Nat} {x : α} (h : l[i]? = some x) : pre f l (i + 1) = (pre f l i).set i (f x) := by
  have hi := (List.getElem?_eq_some_iff.1 h).1
  have hd : l.drop i = x :: l.drop (i + 1) := by
    rw [List.drop_eq_getElem_cons hi]
    congr 1
    exact (List.getElem?_eq_some_iff.1 h).2
  have hlen : ((l.take i).map f).length = i := by rw [List.length_map, List.length_take]; omega
  unfold pre
  rw [hd, List.set_append_right _ _ (by omega), hlen, Nat.sub_self, List.set_cons_zero, List.take_add_one, h]
  simp
theorem pre_all {α : Type} (f : α → α) (l : List α) : pre f l l.length = l.map f := by unfold pre; simp
def dR (id : Int) (n : RN) : RN := { n with p := { n.p with T := setT n.p.T id 0 } }
theorem TK_put (n : RN) (m : Nat) (hm : m < 33) (u : Nat) : (∀ j, j ≠ 2 + m → (GN { n with p := { n.p with T := setT n.p.T (m : Int) u } })[j]? = (GN n)[j]?) ∧ (GN { n with p := { n.p with T := setT n.p.T (m : Int) u } })[2 + m]? = some (.int .u64 (u : Int)) := by
  refine ⟨fun j hj => ?_, ?_⟩
  · by_cases h1 : j < 2
    · have : j = 0 ∨ j = 1 := by omega
      rcases this with rfl | rfl <;> rfl
    · by_cases h2 : j < 35
      · obtain ⟨i, rfl⟩ : ∃ i, j = 2 + i := ⟨j - 2, by omega⟩
        rw [GN_T _ (by omega), GN_T _ (by omega)]
        show some (Value.int .u64 ((setT n.p.T (m : Int) u (i : Int) : Nat) : Int)) = _
        unfold setT
        rw [if_neg (by omega)]
      · by_cases h3 : j < 37
        · have : j = 35 ∨ j = 36 := by omega
          rcases this with rfl | rfl
          · rw [GN_told, GN_told]
          · rw [GN_v, GN_v]
        · rw [List.getElem?_eq_none (by rw [GN_len]; omega), List.getElem?_eq_none (by rw [GN_len]; omega)]
  · rw [GN_T _ hm]
    show some (Value.int .u64 ((setT n.p.T (m : Int) u (m : Int) : Nat) : Int)) = _
    unfold setT
    rw [if_pos rfl]
set_option maxRecDepth 100000 in
set_option maxHeartbeats 4000000 in
theorem keysR_ca {w : World} {base xb : Nat} {L : List RN} (h : RefA w base xb L) :
    Ca Tryz.prog 16 #[.pointer (some ⟨xb, 0, none⟩)] w fun v w' => w'.ownsRow w.heap.size 36 2 v L.length ((L.map (·.k)).flatMap GK) ∧ Keeps NoB w w' := by
  obtain ⟨rv, hxb, hbx, hrow⟩ := h.row
  have hlen := h.len
  obtain ⟨ra, rc, rfl, _, hrat⟩ := hrow.slR.shape
  refine ca_of_body (args := [.pointer (some ⟨xb, 0, none⟩)]) Tryz.func16 rfl (by kernel_rfl) ?_
  (repeat first | (apply wr_assign; exact rfl; with_reducible (conv => enter [6, 3]; whnf)) | apply wr_end | apply wc_seq | apply wc_region | apply wc_block)
  refine wc_loopL (α := Nat × Value) (fun p => [(0, .pointer (some ⟨xb, 0, none⟩)), (3, p.2), (4, .int .i64 (p.1 : Int))])
    (fun p ds w' => ds = [] ∧ p.1 ≤ L.length ∧ w'.ownsRow w.heap.size 36 2 p.2 p.1 (((L.take p.1).map (·.k)).flatMap GK) ∧ Keeps NoB w w') (fun p => L.length - p.1) (0, .slice none 0 0)
    ⟨rfl, Nat.zero_le _, ⟨rfl, .inl ⟨rfl, rfl⟩⟩, Keeps.refl _ _⟩ ⟨rfl, rfl, rfl, trivial⟩ ?_
  rintro ⟨i, ov⟩ ds f0 w2 ⟨rfl, hi, ho2, hk12⟩
  dsimp only at hi ho2 ⊢
  have hx2 := hk12.heap hxb (fun h => h)
  have hz2 := hk12.size
  by_cases hlt : i < L.length
  rotate_left
  · have hie : i = L.length := by omega
    subst hie
    rw [List.take_length] at ho2
    (repeat first | (apply wr_move; exact rfl; with_reducible (conv => enter [6, 3]; whnf)) | (apply wr_assign; exact rfl; with_reducible (conv => enter [6, 3]; whnf)) | apply wr_end | apply wc_seq | apply wc_region | (apply wr_fieldAddr; iterate 2 exact rfl) | (apply wr_len_slice; iterate 2 exact rfl) | (apply wr_nilCheck; iterate 2 exact rfl) | (apply wr_load; (iterate 3 exact rfl); (focus repeat first | with_reducible assumption | exact heap_alloc_same _ _ | exact World.putObj_heap_same (by first | omega | (simp only [World.size_alloc, World.putObj_size, ne_eq]; omega)) | ((first | refine hAl ?_ ?_ | refine hPu ?_ ?_); focus first | omega | (simp only [World.size_alloc, World.putObj_size, ne_eq]; omega))); exact rfl; conv => enter [6, 3]; whnf) | (apply wr_cmp; (iterate 3 exact rfl); exact cmpF (by dsimp only [cmpN]; first | done | omega)) | (apply wc_false; exact rfl) | (apply wc_exit; try simp only [thenE, inBlockE, bodyQ, ↓reduceIte, Nat.reduceEqDiff]) | (apply wc_ret; try simp only [thenE, inBlockE, bodyQ]))
    exact leave1 (v := ov) rfl rfl ⟨ho2, hk12⟩
  obtain ⟨n, hn⟩ : ∃ n, L[i]? = some n := ⟨L[i], by simp [hlt]⟩
  obtain ⟨rb, ro, rfl, cur, re, rf, hrb, hrr⟩ := hrat (by omega)
  have hrb2 := hk12.heap hrb (fun h => h)
  have hc0 : cur[ro + i * 37 + 0]? = some (.int .i64 n.k.1) := cell_elem (g := GN) (k := 37) (n := L.length) (i := i) (j := 0) GN_len hrr hlt hn rfl
  have hc1 : cur[ro + i * 37 + 1]? = some (S n.k.2) := cell_elem (g := GN) (k := 37) (n := L.length) (i := i) (j := 1) GN_len hrr hlt hn rfl
  (repeat first | (apply wr_move; exact rfl; with_reducible (conv => enter [6, 3]; whnf)) | apply wr_end | apply wc_seq | apply wc_region | apply wc_skip | apply wc_block | (apply wr_fieldAddr; iterate 2 exact rfl) | (apply wr_len_slice; iterate 2 exact rfl) | (apply wr_nilCheck; iterate 2 exact rfl) | (apply wr_load; (iterate 3 exact rfl); (focus repeat first | with_reducible assumption | exact heap_alloc_same _ _ | exact World.putObj_heap_same (by first | omega | (simp only [World.size_alloc, World.putObj_size, ne_eq]; omega)) | ((first | refine hAl ?_ ?_ | refine hPu ?_ ?_); focus first | omega | (simp only [World.size_alloc, World.putObj_size, ne_eq]; omega))); exact rfl; conv => enter [6, 3]; whnf) | (apply wr_cmp; (iterate 3 exact rfl); exact cmpT (by dsimp only [cmpP]; first | done | omega)) | (apply wc_true; exact rfl))
  refine wr_indexAddr (i := i) rfl rfl rfl hlt ?_
  refine wr_fieldAddr rfl rfl ?_
  refine wr_loadAgg (cs := [.int .i64 n.k.1, S n.k.2]) rfl rfl rfl rfl (fun j u h => by match j, h with | 0, h => cases h; exact cell_of_heap hrb2 hc0 | 1, h => cases h; exact cell_of_heap hrb2 hc1 | j + 2, h => simp at h) ?_
  refine wr_buildSlice (vs := [encK n.k]) rfl rfl (by intro v hv; simp at hv; subst hv; rfl) rfl (by decide) (by decide) (by decide) ?_
  refine wr_append (v := ov) (n := i) (m := 1) (news := GK n.k) rfl rfl (ho2.alloc _) rfl (heap_alloc_same _ _) rfl (GK_one _) rfl (by decide) (by omega) (by omega) (by simp; omega) ?_
  intro v3 w3 ho3 hk3 _
  (repeat first | (apply wr_move; exact rfl; with_reducible (conv => enter [6, 3]; whnf)) | (apply wr_assign; exact rfl; with_reducible (conv => enter [6, 3]; whnf)) | apply wr_end | apply wc_region | (apply wr_add; (iterate 3 exact rfl); exact w_fit (by dsimp only [kIn]; first | done | omega)) | (apply wr_nil; try simp only [thenE, inBlockE, bodyQ]))
  refine ⟨(i + 1, v3), by dsimp only; omega, ⟨by trivial, hlt, ?_, ?_⟩, rfl, rfl, rfl, trivial⟩
  · dsimp only
    rw [List.take_add_one, hn]
    simp only [Option.toList_some, List.map_append, List.map_cons, List.map_nil, List.flatMap_append, List.flatMap_cons, List.flatMap_nil, List.append_nil]
    exact ho3
  · exact (hk12.alloc _).trans' hk3 fun q hq e => absurd (ho2.lt q e).1 (by omega)
/-- A cell of the i-th note is written: $1 world, $2 cell, $3 what, $4 note, $5 the new note's cells but that one, $6 that one. -/
theorem RefA.put {w : World} {base xb i r rb ro rc : Nat} {L : List RN} {n n' : RN} {cur : Array Value} {u : Value} (h : RefA w base xb L) (hxb : w.heap[xb]? = some (.cells #[.slice (some ⟨rb, ro, none⟩) L.length rc] RAT (0, 0))) (hg : w.heap[rb]? = some (.cells cur NTT (0, 0))) (hn : L[i]? = some n) (hk : n'.k = n.k) (hv : n'.v = n.v) (hb : n'.p.bad = n.p.bad) (hr : r < 37)
    (he : ∀ j, j ≠ r → (GN n')[j]? = (GN n)[j]?) (hu : (GN n')[r]? = some u) (htb : ∀ id, n'.p.T id ≤ 18446744073709551615) :
    RefA (w.putObj rb (.cells (cur.setIfInBounds (ro + i * 37 + r) u) NTT (0, 0))) base xb (L.set i n') ∧ Keeps (RD base w) w (w.putObj rb (.cells (cur.setIfInBounds (ro + i * 37 + r) u) NTT (0, 0))) ∧ cur[ro + i * 37 + r]? = (GN n)[r]? := by
  obtain ⟨rv, hxb', hbx, hrow⟩ := h.row
  rw [hxb] at hxb'
  cases hxb'
  have hmem := List.mem_of_getElem? hn
  have hlt := (List.getElem?_eq_some_iff.1 hn).1
  have hbr : base ≤ rb := (hrow.lt rb rfl).1
  have hkp : Keeps (· = rb) w (w.putObj rb (.cells (cur.setIfInBounds (ro + i * 37 + r) u) NTT (0, 0))) := (Keeps.refl _ w).put _ (fun _ => rfl)
  have hkb : ∀ m ∈ L, ∀ q, m.v.ownBlock = some q → ¬ q = rb := fun m hm q hq e => by
    subst e
    obtain ⟨_, _, c, hc⟩ := (h.bad m hm).lt q hq
    rw [hg] at hc
    cases hc
  have hput := ownS_put GN_len hrow rfl hg hn hr he hu
  refine ⟨h.set hn hk ⟨_, hkp.heap hxb (fun e => ?_), hput⟩ ?_ (fun j m hj hm => (h.bad m (List.mem_of_getElem? hm)).keep hkp (hkb m (List.mem_of_getElem? hm))) (by rw [hb]; exact h.bs n hmem) (by rw [hb]; exact h.few n hmem) (fun j m hj hm => ?_) htb, hkp.mono (fun q _ e => by have e : q = rb := e; subst e; exact ⟨hbr, _, _, _, hg, .inr (.inl rfl)⟩), ?_⟩
  · rw [← e, hxb] at hg
    cases hg
  · rw [hv, hb]
    exact (h.bad n hmem).keep hkp (hkb n hmem)
  · rw [hv]
    exact pair_ne sep_symm h.sep hn hm (fun e => hj e.symm)
  · rcases hrow.2 with ⟨e0, _⟩ | ⟨g', o', cap, cur', e0, _, hg', _, _, _, ht⟩
    · cases e0
    · cases e0
      rw [hg] at hg'
      cases hg'
      have := ht (i * 37 + r) (by omega)
      rw [Nat.add_assoc, this]
      exact flat_get GN_len L i n r hn hr
set_option maxRecDepth 100000 in
set_option maxHeartbeats 4000000 in
theorem dropR_ca {w : World} {base xb : Nat} {L : List RN} (h : RefA w base xb L) (id : Int) :
    Ca Tryz.prog 10 #[.pointer (some ⟨xb, 0, none⟩), .int .i64 id] w fun v w' => v = .tuple #[] ∧ RefA w' base xb (if idOk id then L.map (dR id) else L) ∧ Keeps (RD base w) w w' := by
  refine ca_of_body (args := [.pointer (some ⟨xb, 0, none⟩), .int .i64 id]) Tryz.func10 rfl (by kernel_rfl) ?_
  have hlen := h.len
  by_cases hid : idOk id
  rotate_left
  · rw [if_neg hid]
    obtain ⟨rv, hxb, hbx, hrow⟩ := h.row
    obtain ⟨ra, rc, rfl, _, hrat⟩ := hrow.slR.shape
    unfold idOk at hid
    (repeat first | (apply wr_assign; exact rfl; with_reducible (conv => enter [6, 3]; whnf)) | apply wr_end | apply wc_seq | apply wc_region | apply wc_block)
    refine wc_loopL (α := Nat) (fun p => [(0, .pointer (some ⟨xb, 0, none⟩)), (1, .int .i64 id), (4, .int .i64 0)]) (fun p ds w' => ds = [] ∧ w' = w) (fun p => 0) 0 ⟨rfl, rfl⟩ ⟨rfl, rfl, rfl, trivial⟩ ?_
    rintro i ds f0 w2 ⟨rfl, rfl⟩
    by_cases h0 : 0 < L.length <;> by_cases h1 : 1 ≤ id <;> by_cases h2 : id ≤ 32 <;> first | (exfalso; omega) | skip
    all_goals
      (repeat first | (apply wr_move; exact rfl; with_reducible (conv => enter [6, 3]; whnf)) | apply wr_end | apply wc_seq | apply wc_region | (apply wr_fieldAddr; iterate 2 exact rfl) | (apply wr_len_slice; iterate 2 exact rfl) | (apply wr_nilCheck; iterate 2 exact rfl) | (apply wr_load; (iterate 3 exact rfl); (focus repeat first | with_reducible assumption | exact heap_alloc_same _ _ | exact World.putObj_heap_same (by first | omega | (simp only [World.size_alloc, World.putObj_size, ne_eq]; omega)) | ((first | refine hAl ?_ ?_ | refine hPu ?_ ?_); focus first | omega | (simp only [World.size_alloc, World.putObj_size, ne_eq]; omega))); exact rfl; conv => enter [6, 3]; whnf) | (apply wr_cmp; (iterate 3 exact rfl); exact cmpT (by dsimp only [cmpP]; first | done | omega)) | (apply wr_cmp; (iterate 3 exact rfl); exact cmpF (by dsimp only [cmpN]; first | done | omega)) | (apply wr_pick (t := true); (iterate 2 exact rfl); with_reducible (conv => enter [6, 3]; whnf)) | (apply wr_pick (t := false); (iterate 2 exact rfl); with_reducible (conv => enter [6, 3]; whnf)) | (apply wc_false; exact rfl) | (apply wc_exit; try simp only [thenE, inBlockE, bodyQ, ↓reduceIte, Nat.reduceEqDiff]) | (apply wr_skip; exact rfl))
      exact leave0 rfl ⟨rfl, h, Keeps.refl _ _⟩
  rw [if_pos hid]
  unfold idOk at hid
  obtain ⟨m, rfl⟩ : ∃ m : Nat, id = (m : Int) := ⟨id.toNat, by omega⟩
  (repeat first | (apply wr_assign; exact rfl; with_reducible (conv => enter [6, 3]; whnf)) | apply wr_end | apply wc_seq | apply wc_region | apply wc_block)
  refine wc_loopL (α := Nat) (fun i => [(0, .pointer (some ⟨xb, 0, none⟩)), (1, .int .i64 (m : Int)), (4, .int .i64 (i : Int))])
    (fun i ds w' => ds = [] ∧ i ≤ L.length ∧ RefA w' base xb (pre (dR (m : Int)) L i) ∧ Keeps (RD base w) w w') (fun i => L.length - i) 0
    ⟨rfl, Nat.zero_le _, by rw [pre_zero]; exact h, Keeps.refl _ _⟩ ⟨rfl, rfl, rfl, trivial⟩ ?_
  rintro i ds f0 w2 ⟨rfl, hi, h2, hk12⟩
  obtain ⟨rv, hxb, hbx, hrow⟩ := h2.row
  obtain ⟨ra, rc, rfl, _, hrat⟩ := hrow.slR.shape
  have hpl := pre_len (dR (m : Int)) L i
  by_cases hlt : i < L.length
  rotate_left
  · have hie : i = L.length := by omega
    subst hie
    rw [pre_all] at h2
    (repeat first | (apply wr_move; exact rfl; with_reducible (conv => enter [6, 3]; whnf)) | apply wr_end | apply wc_seq | apply wc_region | (apply wr_fieldAddr; iterate 2 exact rfl) | (apply wr_len_slice; iterate 2 exact rfl) | (apply wr_nilCheck; iterate 2 exact rfl) | (apply wr_load; (iterate 3 exact rfl); (focus repeat first | with_reducible assumption | exact heap_alloc_same _ _ | exact World.putObj_heap_same (by first | omega | (simp only [World.size_alloc, World.putObj_size, ne_eq]; omega)) | ((first | refine hAl ?_ ?_ | refine hPu ?_ ?_); focus first | omega | (simp only [World.size_alloc, World.putObj_size, ne_eq]; omega))); exact rfl; conv => enter [6, 3]; whnf) | (apply wr_cmp; (iterate 3 exact rfl); exact cmpF (by dsimp only [cmpN]; first | done | omega)) | (apply wr_pick (t := false); (iterate 2 exact rfl); with_reducible (conv => enter [6, 3]; whnf)) | (apply wc_false; exact rfl) | (apply wc_exit; try simp only [thenE, inBlockE, bodyQ, ↓reduceIte, Nat.reduceEqDiff]) | (apply wr_skip; exact rfl))
    exact leave0 rfl ⟨rfl, h2, hk12⟩
  obtain ⟨n, hn⟩ : ∃ n, L[i]? = some n := ⟨L[i], by simp [hlt]⟩
  have hpn := pre_get (dR (m : Int)) hn
  obtain ⟨g, o, cap, cur, he, hgb, hgc, _⟩ : ∃ g o cap cur, Value.slice ra (pre (dR (m : Int)) L i).length rc = .slice (some ⟨g, o, none⟩) (pre (dR (m : Int)) L i).length cap ∧ base ≤ g ∧ w2.heap[g]? = some (.cells cur NTT (0, 0)) ∧ True := by
    rcases hrow.2 with ⟨_, h9⟩ | ⟨g, o, cap, cur, h9, hb9, hg9, _⟩
    · omega
    · exact ⟨g, o, cap, cur, h9, hb9, hg9, trivial⟩
  cases he
  have htk := TK_put n m (by omega) 0
  obtain ⟨h3, hk3, hcell⟩ := h2.put hxb hgc hpn (n' := dR (m : Int) n) rfl rfl rfl (r := 2 + m) (by omega) htk.1 htk.2 (fun id => by
    show setT n.p.T (m : Int) 0 id ≤ _
    unfold setT
    split
    · exact Nat.zero_le _
    · exact h.tb n (List.mem_of_getElem? hn) id)
  rw [GN_T _ (by omega)] at hcell
  rw [← pre_succ _ hn] at h3
  (repeat first | (apply wr_move; exact rfl; with_reducible (conv => enter [6, 3]; whnf)) | apply wr_end | apply wc_seq | apply wc_region | apply wc_skip | apply wc_block | (apply wr_fieldAddr; iterate 2 exact rfl) | (apply wr_len_slice; iterate 2 exact rfl) | (apply wr_nilCheck; iterate 2 exact rfl) | (apply wr_load; (iterate 3 exact rfl); (focus repeat first | with_reducible assumption | exact heap_alloc_same _ _ | exact World.putObj_heap_same (by first | omega | (simp only [World.size_alloc, World.putObj_size, ne_eq]; omega)) | ((first | refine hAl ?_ ?_ | refine hPu ?_ ?_); focus first | omega | (simp only [World.size_alloc, World.putObj_size, ne_eq]; omega))); exact rfl; conv => enter [6, 3]; whnf) | (apply wr_cmp; (iterate 3 exact rfl); exact cmpT (by dsimp only [cmpP]; first | done | omega)) | (apply wr_pick (t := true); (iterate 2 exact rfl); with_reducible (conv => enter [6, 3]; whnf)) | (apply wc_true; exact rfl))
  refine wr_indexAddr (i := i) rfl rfl rfl (by omega) ?_
  refine wr_fieldAddr rfl rfl ?_
  refine wr_indexArr (i := m) rfl rfl rfl (by omega) ?_
  refine wr_store (v := .int .u64 0) rfl rfl rfl rfl hgc (by rw [show o + i * 37 + 2 + m * 1 = o + i * 37 + (2 + m) by omega]; exact hcell) ?_
  rw [show o + i * 37 + 2 + m * 1 = o + i * 37 + (2 + m) by omega]
  refine wr_name ?_
  intro w3 hw3
  have hk3' : Keeps (RD base w2) w2 w3 := by rw [hw3]; exact hk3
  have h3' : RefA w3 base xb (pre (dR (m : Int)) L (i + 1)) := by rw [hw3]; exact h3
  clear hw3
  (repeat first | (apply wr_move; exact rfl; with_reducible (conv => enter [6, 3]; whnf)) | (apply wr_assign; exact rfl; with_reducible (conv => enter [6, 3]; whnf)) | apply wr_end | apply wc_region | (apply wr_add; (iterate 3 exact rfl); exact w_fit (by dsimp only [kIn]; first | done | omega)) | (apply wr_nil; try simp only [thenE, inBlockE, bodyQ]))
  exact ⟨i + 1, by omega, ⟨by trivial, hlt, h3', keepsRD_trans hk12 hk3'⟩, rfl, rfl, rfl, trivial⟩
theorem foldl_le (T : Int → Nat) : ∀ (l : List Int) (m : Nat), l.foldl (fun m id => min m (T id)) m ≤ m
  | [], m => Nat.le_refl _
  | a :: l, m => by
    rw [List.foldl_cons]
    exact Nat.le_trans (foldl_le T l _) (Nat.min_le_left _ _)
theorem foldl_mem (T : Int → Nat) {x : Int} : ∀ (l : List Int) (m : Nat), x ∈ l → l.foldl (fun m id => min m (T id)) m ≤ T x
  | a :: l, m, h => by
    rw [List.foldl_cons]
    rcases List.mem_cons.1 h with rfl | h
    · exact Nat.le_trans (foldl_le T l _) (Nat.min_le_right _ _)
    · exact foldl_mem T l _ h
theorem least_top {p : PN} (hb : ∀ id, p.T id ≤ 18446744073709551615) {who : List Int} (h : who ≠ []) : who.foldl (fun m id => min m (p.T id)) 18446744073709551615 = leastP (some p) who := by
  match who, h with
  | a :: r, _ =>
    unfold leastP
    dsimp only
    rw [List.foldl_cons, List.foldl_cons, Nat.min_self, Nat.min_eq_right (hb a)]
theorem least_zero {p : PN} {who : List Int} {x : Int} (hx : x ∈ who) (h0 : p.T x = 0) : leastP (some p) who = 0 := by
  match who, hx with
  | a :: r, hx =>
    have := foldl_mem p.T (a :: r) (p.T a) hx
    unfold leastP
    dsimp only
    omega
set_option maxRecDepth 100000 in
set_option maxHeartbeats 8000000 in
theorem leastR_ca {w : World} {base xb : Nat} {L : List RN} (h : RefA w base xb L) (hz : ∀ n ∈ L, ∀ id, ¬ idOk id → n.p.T id = 0) (k : KY) (who : List Int) (v0 : Value) (hsl : SlR w 1 v0 who.length (who.map (Value.int .i64))) (hlen : who.length ≤ 9223372036854775807) :
    Ca Tryz.prog 18 #[.pointer (some ⟨xb, 0, none⟩), encK k, v0] w fun v w' => v = .int .u64 ((leastP (getL (RL L) k) who : Nat) : Int) ∧ Keeps NoB w w' := by
  obtain ⟨wa, wc, rfl, _, hwat⟩ := hsl.shape
  refine ca_of_body (args := [.pointer (some ⟨xb, 0, none⟩), encK k, .slice wa who.length wc]) Tryz.func18 rfl (by kernel_rfl) ?_
  apply wc_seq
  apply wc_region
  refine wr_box (v := .agg #[.int .i64 k.1, S k.2]) rfl rfl ?_
  refine wr_name ?_
  intro w1 hww1
  obtain ⟨bw1, hbw1⟩ : ∃ b, b = (w).heap.size := ⟨_, rfl⟩
  have hkw1 : Keeps NoB w w1 := by rw [hww1]; exact (Keeps.refl NoB w).alloc _
  have hcw1 : (w1).heap[bw1]? = some (.cells ([.int .i64 k.1, S k.2]).toArray 36 (0, 0)) := by rw [hww1, hbw1]; exact heap_alloc_same _ _
  rw [← hbw1]
  clear hww1
  (repeat first | (apply wr_move; exact rfl; with_reducible (conv => enter [6, 3]; whnf)) | (apply wr_assign; exact rfl; with_reducible (conv => enter [6, 3]; whnf)) | apply wr_end | apply wc_seq | apply wc_region)
  refine wr_loadAll (cs := [.int .i64 k.1, S k.2]) rfl rfl rfl hcw1 rfl ?_
  refine wr_call (vs := [.pointer (some ⟨xb, 0, none⟩), encK k]) rfl (find_ca (h.keepN hkw1) k) rfl ?_
  rintro v w2 ⟨⟨i, b, rfl, hf⟩, hk12⟩
  have hk02 := hkw1.trans hk12
  cases b with
  | false =>
    rw [getL_no h.sort hf]
    (repeat first | (apply wr_move; exact rfl; with_reducible (conv => enter [6, 3]; whnf)) | (apply wr_assign; exact rfl; with_reducible (conv => enter [6, 3]; whnf)) | apply wr_end | apply wc_seq | apply wc_region | (apply wr_not; iterate 2 exact rfl) | (apply wr_pick (t := true); (iterate 2 exact rfl); with_reducible (conv => enter [6, 3]; whnf)) | (apply wr_extract; (iterate 3 exact rfl); with_reducible (conv => enter [6, 3]; whnf)) | (apply wc_true; exact rfl) | (apply wc_ret; try simp only [thenE, inBlockE, bodyQ]) | (apply wr_skip; exact rfl))
    exact leave1 (v := .int .u64 0) rfl rfl ⟨rfl, hk02⟩
  | true =>
    obtain ⟨n, hn, hnk⟩ := FI_yes hf
    subst hnk
    rw [getL_yes h.sort hn]
    have hmem := List.mem_of_getElem? hn
    have hlt := (List.getElem?_eq_some_iff.1 hn).1
    by_cases h0 : who.length = 0
    · have hw0 : who = [] := List.length_eq_zero_iff.1 h0
      (repeat first | (apply wr_move; exact rfl; with_reducible (conv => enter [6, 3]; whnf)) | (apply wr_assign; exact rfl; with_reducible (conv => enter [6, 3]; whnf)) | apply wr_end | apply wc_seq | apply wc_region | (apply wr_not; iterate 2 exact rfl) | (apply wr_len_slice; iterate 2 exact rfl) | (apply wr_cmp; (iterate 3 exact rfl); exact cmpT (by dsimp only [cmpP]; first | done | omega)) | (apply wr_pick (t := false); (iterate 2 exact rfl); with_reducible (conv => enter [6, 3]; whnf)) | (apply wr_extract; (iterate 3 exact rfl); with_reducible (conv => enter [6, 3]; whnf)) | (apply wc_true; exact rfl) | (apply wc_ret; try simp only [thenE, inBlockE, bodyQ]))
      exact leave1 (v := .int .u64 0) rfl rfl ⟨by rw [hw0]; rfl, hk02⟩
    have hwne : who ≠ [] := fun e => h0 (by rw [e]; rfl)
    obtain ⟨wb, wo, rfl, wcur, wte, wfr, hwb, hwr⟩ := hwat (by omega)
    obtain ⟨rv, hxb, hbx, hrow⟩ := h.row
    obtain ⟨ra, rc, rfl, _, hrat⟩ := hrow.slR.shape
    have hll := h.len
    obtain ⟨rb, ro, rfl, cur, re, rf, hrb, hrr⟩ := hrat (by omega)
    (repeat first | (apply wr_move; exact rfl; with_reducible (conv => enter [6, 3]; whnf)) | (apply wr_assign; exact rfl; with_reducible (conv => enter [6, 3]; whnf)) | apply wr_end | apply wc_seq | apply wc_region | apply wc_skip | apply wc_block | (apply wr_not; iterate 2 exact rfl) | (apply wr_len_slice; iterate 2 exact rfl) | (apply wr_cmp; (iterate 3 exact rfl); exact cmpF (by dsimp only [cmpN]; first | done | omega)) | (apply wr_pick (t := false); (iterate 2 exact rfl); with_reducible (conv => enter [6, 3]; whnf)) | (apply wr_extract; (iterate 3 exact rfl); with_reducible (conv => enter [6, 3]; whnf)) | (apply wc_false; exact rfl))
    refine wc_loopL (α := Nat) (fun j => [(0, .pointer (some ⟨xb, 0, none⟩)), (2, .slice (some ⟨wb, wo, none⟩) who.length wc), (7, .int .i64 (i : Int)), (9, .int .u64 (((who.take j).foldl (fun m id => min m (n.p.T id)) 18446744073709551615 : Nat) : Int)), (10, .int .i64 (j : Int))])
      (fun j ds w' => ds = [] ∧ j ≤ who.length ∧ Keeps NoB w w') (fun j => who.length - j) 0
      ⟨rfl, Nat.zero_le _, hk02⟩ ⟨rfl, rfl, rfl, rfl, rfl, trivial⟩ ?_
    rintro j ds f0 w3 ⟨rfl, hj, hk03⟩
    by_cases hjl : j < who.length
    rotate_left
    · have hje : j = who.length := by omega
      subst hje
      rw [List.take_length, least_top (h.tb n hmem) hwne]
      (repeat first | (apply wr_move; exact rfl; with_reducible (conv => enter [6, 3]; whnf)) | (apply wr_assign; exact rfl; with_reducible (conv => enter [6, 3]; whnf)) | apply wr_end | apply wc_seq | apply wc_region | (apply wr_len_slice; iterate 2 exact rfl) | (apply wr_cmp; (iterate 3 exact rfl); exact cmpF (by dsimp only [cmpN]; first | done | omega)) | (apply wc_false; exact rfl) | (apply wc_exit; try simp only [thenE, inBlockE, bodyQ, ↓reduceIte, Nat.reduceEqDiff]) | (apply wc_ret; try simp only [thenE, inBlockE, bodyQ]))
      exact leave1 (v := .int .u64 ((leastP (some n.p) who : Nat) : Int)) rfl rfl ⟨rfl, hk03⟩
    obtain ⟨x, hx⟩ : ∃ x, who[j]? = some x := ⟨who[j], by simp [hjl]⟩
    have hwb3 := hk03.heap hwb (fun h => h)
    have hcx : wcur[wo + j * 1]? = some (.int .i64 x) := by rw [Nat.mul_one, hwr j (by omega), List.getElem?_map, hx]; rfl
    (repeat first | (apply wr_move; exact rfl; with_reducible (conv => enter [6, 3]; whnf)) | apply wr_end | apply wc_seq | apply wc_region | apply wc_skip | apply wc_block | (apply wr_len_slice; iterate 2 exact rfl) | (apply wr_cmp; (iterate 3 exact rfl); exact cmpT (by dsimp only [cmpP]; first | done | omega)) | (apply wc_true; exact rfl))
    refine wr_indexAddr (i := j) rfl rfl rfl hjl ?_
    refine wr_load (v := .int .i64 x) rfl rfl rfl hwb3 hcx ?_
    by_cases hid : idOk x
    rotate_left
    · have hz0 := hz n hmem x hid
      have hl0 := least_zero (p := n.p) (List.mem_of_getElem? hx) hz0
      rw [hl0]
      unfold idOk at hid
      by_cases h1 : x < 1
      · (repeat first | (apply wr_move; exact rfl; with_reducible (conv => enter [6, 3]; whnf)) | (apply wr_assign; exact rfl; with_reducible (conv => enter [6, 3]; whnf)) | apply wr_end | apply wc_seq | apply wc_region | (apply wr_cmp; (iterate 3 exact rfl); exact cmpT (by dsimp only [cmpP]; first | done | omega)) | (apply wr_pick (t := true); (iterate 2 exact rfl); with_reducible (conv => enter [6, 3]; whnf)) | (apply wc_true; exact rfl) | (apply wc_ret; try simp only [thenE, inBlockE, bodyQ]) | (apply wr_skip; exact rfl))
        exact leave1 (v := .int .u64 0) rfl rfl ⟨rfl, hk03⟩
      · (repeat first | (apply wr_move; exact rfl; with_reducible (conv => enter [6, 3]; whnf)) | (apply wr_cmp; (iterate 3 exact rfl); exact cmpF (by dsimp only [cmpN]; first | done | omega)))
        refine wr_indexAddr (i := j) rfl rfl rfl hjl ?_
        refine wr_load (v := .int .i64 x) rfl rfl rfl hwb3 hcx ?_
        (repeat first | (apply wr_assign; exact rfl; with_reducible (conv => enter [6, 3]; whnf)) | apply wr_end | apply wc_seq | apply wc_region | (apply wr_cmp; (iterate 3 exact rfl); exact cmpT (by dsimp only [cmpP]; first | done | omega)) | (apply wr_pick (t := false); (iterate 2 exact rfl); with_reducible (conv => enter [6, 3]; whnf)) | (apply wc_true; exact rfl) | (apply wc_ret; try simp only [thenE, inBlockE, bodyQ]))
        exact leave1 (v := .int .u64 0) rfl rfl ⟨rfl, hk03⟩
    unfold idOk at hid
    obtain ⟨m, rfl⟩ : ∃ m : Nat, x = (m : Int) := ⟨x.toNat, by omega⟩
    have hx3 := hk03.heap hxb (fun h => h)
    have hrb3 := hk03.heap hrb (fun h => h)
    have hcT : cur[ro + i * 37 + (2 + m)]? = some (.int .u64 ((n.p.T (m : Int) : Nat) : Int)) := cell_elem (g := GN) (k := 37) (n := L.length) (i := i) (j := 2 + m) GN_len hrr hlt hn (GN_T n (by omega))
    have hk0 : ∀ {w'}, Keeps NoB w3.drew w' → Keeps NoB w3 w' := fun hk => (Keeps.refl NoB w3).drew.trans hk
    obtain ⟨M, hM⟩ : ∃ M, M = (who.take j).foldl (fun m id => min m (n.p.T id)) 18446744073709551615 := ⟨_, rfl⟩
    have hM2 : (who.take (j + 1)).foldl (fun m id => min m (n.p.T id)) 18446744073709551615 = min M (n.p.T (m : Int)) := by
      rw [List.take_add_one, hx, List.foldl_append, ← hM]; rfl
    rw [← hM]
    (repeat first | (apply wr_move; exact rfl; with_reducible (conv => enter [6, 3]; whnf)) | (apply wr_cmp; (iterate 3 exact rfl); exact cmpF (by dsimp only [cmpN]; first | done | omega)))
    refine wr_indexAddr (i := j) rfl rfl rfl hjl ?_
    refine wr_load (v := .int .i64 (m : Int)) rfl rfl rfl hwb3 hcx ?_
    (repeat first | apply wr_end | apply wc_skip | (apply wr_cmp; (iterate 3 exact rfl); exact cmpF (by dsimp only [cmpN]; first | done | omega)) | (apply wr_pick (t := false); (iterate 2 exact rfl); with_reducible (conv => enter [6, 3]; whnf)) | (apply wc_false; exact rfl))
    refine wc_drawP (l := _) 16 _ (by kernel_rfl) (by kernel_rfl) rfl (by kernel_rfl) (by kernel_rfl) (by decide) ?_
    apply chP_pure
    focus
      intro xx w' hk hF
      apply wr_move; exact rfl; with_reducible (conv => enter [6, 3]; whnf)
      apply wr_nil
      exact ⟨rfl, Keeps.refl _ _⟩
    focus (intro xx yy h; rfl)
    focus kernel_rfl
    apply chP_pure
    focus
      intro xx w' hk hF
      apply wr_move; exact rfl; with_reducible (conv => enter [6, 3]; whnf)
      apply wr_nil
      exact ⟨rfl, Keeps.refl _ _⟩
    focus (intro xx yy h; rfl)
    focus kernel_rfl
    apply chP_pure
    focus
      intro xx w' hk hF
      refine wr_nilCheck rfl rfl ?_
      apply wr_nil
      exact ⟨rfl, Keeps.refl _ _⟩
    focus (intro xx yy h; rfl)
    focus kernel_rfl
    apply chP_pure
    focus
      intro xx w' hk hF
      refine wr_fieldAddr rfl rfl ?_
      apply wr_nil
      exact ⟨rfl, Keeps.refl _ _⟩
    focus (intro xx yy h; rfl)
    focus kernel_rfl
    apply chP_pure
    focus
      intro xx w' hk hF
      refine wr_load (v := .slice (some ⟨rb, ro, none⟩) L.length rc) rfl rfl rfl ((hk0 hk).heap hx3 (fun h => h)) rfl ?_
      apply wr_nil
      exact ⟨rfl, Keeps.refl _ _⟩
    focus (intro xx yy h; rfl)
    focus kernel_rfl
    apply chP_pure
    focus
      intro xx w' hk hF
      apply wr_move; exact rfl; with_reducible (conv => enter [6, 3]; whnf)
      apply wr_nil
      exact ⟨rfl, Keeps.refl _ _⟩
    focus (intro xx yy h; rfl)
    focus kernel_rfl
    apply chP_pure
    focus
      intro xx w' hk hF
      apply wr_move; exact rfl; with_reducible (conv => enter [6, 3]; whnf)
      apply wr_nil
      exact ⟨rfl, Keeps.refl _ _⟩
    focus (intro xx yy h; rfl)
    focus kernel_rfl
    apply chP_pure
    focus
      intro xx w' hk hF
      apply wr_move; exact rfl; with_reducible (conv => enter [6, 3]; whnf)
      apply wr_nil
      exact ⟨rfl, Keeps.refl _ _⟩
    focus (intro xx yy h; rfl)
    focus kernel_rfl
    apply chP_pure
    focus
      intro xx w' hk hF
      refine wr_indexAddr (i := j) rfl rfl rfl hjl ?_
      apply wr_nil
      exact ⟨rfl, Keeps.refl _ _⟩
    focus (intro xx yy h; rfl)
    focus kernel_rfl
    apply chP_pure
    focus
      intro xx w' hk hF
      refine wr_load (v := .int .i64 (m : Int)) rfl rfl rfl ((hk0 hk).heap hwb3 (fun h => h)) hcx ?_
      apply wr_nil
      exact ⟨rfl, Keeps.refl _ _⟩
    focus (intro xx yy h; rfl)
    focus kernel_rfl
    apply chP_pure
    focus
      intro xx w' hk hF
      refine wr_indexAddr (i := i) rfl rfl rfl hlt ?_
      apply wr_nil
      exact ⟨rfl, Keeps.refl _ _⟩
    focus (intro xx yy h; rfl)
    focus kernel_rfl
    apply chP_pure
    focus
      intro xx w' hk hF
      refine wr_fieldAddr rfl rfl ?_
      apply wr_nil
      exact ⟨rfl, Keeps.refl _ _⟩
    focus (intro xx yy h; rfl)
    focus kernel_rfl
    apply chP_pure
    focus
      intro xx w' hk hF
      refine wr_indexArr (i := m) rfl rfl rfl (by omega) ?_
      apply wr_nil
      exact ⟨rfl, Keeps.refl _ _⟩
    focus (intro xx yy h; rfl)
    focus kernel_rfl
    apply chP_pure
    focus
      intro xx w' hk hF
      refine wr_load (v := .int .u64 ((n.p.T (m : Int) : Nat) : Int)) rfl rfl rfl ((hk0 hk).heap hrb3 (fun h => h)) (by rw [show ro + i * 37 + 2 + m * 1 = ro + i * 37 + (2 + m) by omega]; exact hcT) ?_
      apply wr_nil
      exact ⟨rfl, Keeps.refl _ _⟩
    focus (intro xx yy h; rfl)
    focus kernel_rfl
    apply chP_pure
    focus
      intro xx w' hk hF
      refine wr_min (c := ((min M (n.p.T (m : Int)) : Nat) : Int)) rfl rfl rfl (by split <;> omega) ?_
      apply wr_nil
      exact ⟨rfl, Keeps.refl _ _⟩
    focus (intro xx yy h; rfl)
    focus kernel_rfl
    apply chP_pure
    focus
      intro xx w' hk hF
      apply wr_assign; exact rfl; with_reducible (conv => enter [6, 3]; whnf)
      apply wr_nil
      exact ⟨rfl, Keeps.refl _ _⟩
    focus (intro xx yy h; rfl)
    focus kernel_rfl
    refine chP_nil ?_
    intro xx w4 hk4' hF
    have hk34 := hk0 hk4'
    clear hF
    (repeat first | (apply wr_move; exact rfl; with_reducible (conv => enter [6, 3]; whnf)) | (apply wr_assign; exact rfl; with_reducible (conv => enter [6, 3]; whnf)) | apply wr_end | apply wc_region | (apply wr_add; (iterate 3 exact rfl); exact w_fit (by dsimp only [kIn]; first | done | omega)) | (apply wr_nil; try simp only [thenE, inBlockE, bodyQ]))
    exact ⟨j + 1, by omega, ⟨by trivial, hjl, hk03.trans hk34⟩, rfl, rfl, rfl, by rw [hM2], rfl, trivial⟩
end Go.Proofs.YtjaojihogmnjhaaGreatDoor
