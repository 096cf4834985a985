/- noriaref15: Forget; what a list of notes has then. -/
import Derived.Test.YtjaojihogmnjhaaGreatDoorJd
namespace Go.Proofs.YtjaojihogmnjhaaGreatDoor
open Go Go.V Go.RowKit
set_option linter.unusedVariables false
set_option linter.unusedSimpArgs false

abbrev Sorted (L : List RN) : Prop := L.Pairwise fun a b => ltK a.k b.k
theorem getL_iff {L : List RN} (h : Sorted L) (x : KY) (y : PN) : getL (RL L) x = some y ↔ ∃ n ∈ L, n.k = x ∧ n.p = y := by
  constructor
  · intro e
    obtain ⟨n, hn, e⟩ := List.mem_map.1 (getL_mem e)
    exact ⟨n, hn, congrArg Prod.fst e, congrArg Prod.snd e⟩
  · rintro ⟨n, hn, rfl, rfl⟩
    exact getL_of_mem (sort_nodup h) (List.mem_map.2 ⟨n, hn, rfl⟩)
theorem keys_ne {L : List RN} (h : Sorted L) : L.Pairwise fun a b => a.k ≠ b.k := h.imp fun hab e => by rw [e] at hab; exact ltK_irr _ hab
theorem getL_new {L L' : List RN} (h : Sorted L) (h' : Sorted L') {n : RN} (hm : ∀ m, m ∈ L' ↔ m = n ∨ (m ∈ L ∧ m.k ≠ n.k)) (x : KY) : getL (RL L') x = if x = n.k then some n.p else getL (RL L) x := by
  apply Option.ext
  intro y
  rw [getL_iff h']
  by_cases hx : x = n.k
  · rw [if_pos hx]
    constructor
    · rintro ⟨m, hmm, e1, e2⟩
      rcases (hm m).1 hmm with rfl | ⟨_, h2⟩
      · rw [e2]
      · exact absurd (e1.trans hx) h2
    · intro e
      cases e
      exact ⟨n, (hm n).2 (.inl rfl), hx.symm, rfl⟩
  · rw [if_neg hx, getL_iff h]
    constructor
    · rintro ⟨m, hmm, e1, e2⟩
      rcases (hm m).1 hmm with rfl | ⟨h1, _⟩
      · exact absurd e1.symm hx
      · exact ⟨m, h1, e1, e2⟩
    · rintro ⟨m, hmm, e1, e2⟩
      exact ⟨m, (hm m).2 (.inr ⟨hmm, fun e => hx (e1.symm.trans e)⟩), e1, e2⟩
theorem getL_del' {L L' : List RN} (h : Sorted L) (h' : Sorted L') {k : KY} (hm : ∀ m, m ∈ L' ↔ (m ∈ L ∧ m.k ≠ k)) (x : KY) : getL (RL L') x = if x = k then none else getL (RL L) x := by
  apply Option.ext
  intro y
  rw [getL_iff h']
  by_cases hx : x = k
  · rw [if_pos hx]
    constructor
    · rintro ⟨m, hmm, e1, e2⟩
      exact absurd (e1.trans hx) ((hm m).1 hmm).2
    · intro e; cases e
  · rw [if_neg hx, getL_iff h]
    constructor
    · rintro ⟨m, hmm, e1, e2⟩
      exact ⟨m, ((hm m).1 hmm).1, e1, e2⟩
    · rintro ⟨m, hmm, e1, e2⟩
      exact ⟨m, (hm m).2 ⟨hmm, fun e => hx (e1.symm.trans e)⟩, e1, e2⟩
theorem set_mem {L : List RN} (h : Sorted L) {i : Nat} {n n' : RN} (hn : L[i]? = some n) (hk : n'.k = n.k) (m : RN) : m ∈ L.set i n' ↔ m = n' ∨ (m ∈ L ∧ m.k ≠ n'.k) := by
  have hi := (List.getElem?_eq_some_iff.1 hn).1
  constructor
  · intro hm
    rcases mem_set' hm with h1 | ⟨j, hj, hm⟩
    · exact .inl h1
    · exact .inr ⟨List.mem_of_getElem? hm, by rw [hk]; exact pair_ne (fun a b h e => h e.symm) (keys_ne h) hm hn hj⟩
  · rintro (rfl | ⟨hm, hne⟩)
    · exact List.mem_of_getElem? (i := i) (by rw [List.getElem?_set_self hi])
    · obtain ⟨j, hj⟩ := List.getElem?_of_mem hm
      refine List.mem_of_getElem? (i := j) ?_
      rw [List.getElem?_set_ne (fun e => ?_)]
      · exact hj
      · subst e
        rw [hn] at hj
        cases hj
        exact hne hk.symm
theorem flat_takeG {α β : Type} {g : α → List β} {k : Nat} (hk : ∀ a, (g a).length = k) (l : List α) {d : Nat} (hd : d ≤ l.length) : (l.flatMap g).take (d * k) = (l.take d).flatMap g := by
  conv => lhs; rw [← List.take_append_drop d l, List.flatMap_append]
  rw [List.take_left' (by rw [flat_len hk, List.length_take, Nat.min_eq_left hd])]
theorem flat_dropG {α β : Type} {g : α → List β} {k : Nat} (hk : ∀ a, (g a).length = k) (l : List α) {d : Nat} (hd : d ≤ l.length) : (l.flatMap g).drop (d * k) = (l.drop d).flatMap g := by
  conv => lhs; rw [← List.take_append_drop d l, List.flatMap_append]
  rw [List.drop_left' (by rw [flat_len hk, List.length_take, Nat.min_eq_left hd])]
theorem ownS_take0 {w : World} {base : Nat} {e : TypeId} {k n d : Nat} {a : Option Addr} {c : Nat} {xs : List Value} (h : OwnS w base e k (.slice a n c) n xs) (hd : d ≤ n) : SlR w k (.slice (if c = 0 then a else a.map (·.add (0 * k))) (d - 0) (c - 0)) d (xs.take (d * k)) := by
  have hm : d * k ≤ n * k := Nat.mul_le_mul_right k hd
  have ha : (if c = 0 then a else a.map (·.add (0 * k))) = a := by
    split
    · rfl
    · cases a with
      | none => rfl
      | some x => simp [Addr.add]
  rw [ha]
  refine ⟨by rw [List.length_take, h.1]; omega, a, c, rfl, ?_, ?_⟩
  · rcases h.2 with ⟨e1, e2⟩ | ⟨g, o, cap, cur, e1, hb, hg, hn, hcm, hs, ht⟩
    · cases e1; omega
    · cases e1; omega
  · rcases h.2 with ⟨e1, e2⟩ | ⟨g, o, cap, cur, e1, hb, hg, hn, hcm, hs, ht⟩
    · cases e1
      exact .inl ⟨by omega, fun _ => rfl⟩
    · cases e1
      exact .inr ⟨g, o, cur, e, (0, 0), rfl, hg, fun j hj => by rw [ht j (by omega), List.getElem?_take_of_lt hj]⟩
theorem GN_one {n : RN} (h : n.v.oneCell' = true) : ∀ u ∈ GN n, u.oneCell' = true := by
  intro u hu
  unfold GN TK at hu
  simp only [List.mem_cons, List.mem_append, List.mem_map, List.not_mem_nil, or_false] at hu
  rcases hu with rfl | rfl | ⟨j, _, rfl⟩ | rfl | rfl
  · rfl
  · rfl
  · rfl
  · rfl
  · exact h
theorem RefA.ones {w : World} {base xb : Nat} {L : List RN} (h : RefA w base xb L) {M : List RN} (hM : ∀ m ∈ M, m ∈ L) : ∀ u ∈ M.flatMap GN, u.oneCell' = true := fun u hu => by
  obtain ⟨m, hm, hu⟩ := List.mem_flatMap.1 hu
  exact GN_one (h.bad m (hM m hm)).one u hu
theorem RefA.shape {w : World} {base xb : Nat} {L : List RN} (h : RefA w base xb L) : ∃ a c, w.heap[xb]? = some (.cells #[.slice a L.length c] RAT (0, 0)) ∧ base ≤ xb ∧ OwnS w base NTT 37 (.slice a L.length c) L.length (L.flatMap GN) := by
  obtain ⟨rv, hxb, hbx, hrow⟩ := h.row
  obtain ⟨ra, rc, rfl, _, _⟩ := hrow.slR.shape
  exact ⟨ra, rc, hxb, hbx, hrow⟩
set_option maxRecDepth 100000 in
set_option maxHeartbeats 4000000 in
theorem forgetR_ca {w : World} {base xb : Nat} {L : List RN} (h : RefA w base xb L) (hbase : base ≤ w.heap.size) (k : KY) :
    Ca Tryz.prog 12 #[.pointer (some ⟨xb, 0, none⟩), encK k] w fun v w' => v = .tuple #[] ∧ (∃ L', RefA w' base xb L' ∧ (∀ x, getL (RL L') x = if x = k then none else getL (RL L) x) ∧ (∀ m ∈ L', m ∈ L)) ∧ Keeps (RD base w) w w' := by
  obtain ⟨ra, rc, hxb, hbx, hrow⟩ := h.shape
  have hll := h.len
  refine ca_of_body (args := [.pointer (some ⟨xb, 0, none⟩), encK k]) Tryz.func12 rfl (by kernel_rfl) ?_
  apply wc_seq
  apply wc_region
  refine wr_box (v := .agg #[.int .i64 k.1, S k.2]) rfl rfl ?_
  refine wr_name ?_
  intro w1 hww1
  obtain ⟨bw1, hbw1⟩ : ∃ b, b = (w).heap.size := ⟨_, rfl⟩
  have hkw1 : Keeps NoB w w1 := by rw [hww1]; exact (Keeps.refl NoB w).alloc _
  have hcw1 : (w1).heap[bw1]? = some (.cells ([.int .i64 k.1, S k.2]).toArray 36 (0, 0)) := by rw [hww1, hbw1]; exact heap_alloc_same _ _
  rw [← hbw1]
  clear hww1
  (repeat first | (apply wr_move; exact rfl; with_reducible (conv => enter [6, 3]; whnf)) | apply wr_end | apply wc_seq | apply wc_region)
  refine wr_loadAll (cs := [.int .i64 k.1, S k.2]) rfl rfl rfl hcw1 rfl ?_
  refine wr_call (vs := [.pointer (some ⟨xb, 0, none⟩), encK k]) rfl (find_ca (h.keepN hkw1) k) rfl ?_
  rintro v w2 ⟨⟨i, b, rfl, hf⟩, hk12⟩
  have hk02 := hkw1.trans hk12
  have h2 := h.keepN hk02
  cases b with
  | false =>
    have hno := FI_no h.sort hf
    (repeat first | (apply wr_move; exact rfl; with_reducible (conv => enter [6, 3]; whnf)) | (apply wr_assign; exact rfl; with_reducible (conv => enter [6, 3]; whnf)) | apply wr_end | apply wc_seq | apply wc_region | (apply wr_not; iterate 2 exact rfl) | (apply wr_extract; (iterate 3 exact rfl); with_reducible (conv => enter [6, 3]; whnf)) | (apply wc_true; exact rfl) | (apply wc_ret; try simp only [thenE, inBlockE, bodyQ]))
    refine leave0 rfl ⟨rfl, ⟨L, h2, fun x => ?_, fun m hm => hm⟩, hk02.upD⟩
    by_cases hx : x = k
    · rw [if_pos hx, hx]; exact getL_none (by rw [RL_keys]; exact hno)
    · rw [if_neg hx]
  | true =>
    obtain ⟨n, hn, hnk⟩ := FI_yes hf
    subst hnk
    have hlt := (List.getElem?_eq_some_iff.1 hn).1
    have hx2 := hk02.heap hxb (fun h => h)
    have hr2 := hrow.keep hk02 (fun _ _ h => h)
    have hz2 := hk02.size
    (repeat first | (apply wr_move; exact rfl; with_reducible (conv => enter [6, 3]; whnf)) | (apply wr_assign; exact rfl; with_reducible (conv => enter [6, 3]; whnf)) | apply wr_end | apply wc_seq | apply wc_region | apply wc_skip | (apply wr_fieldAddr; iterate 2 exact rfl) | (apply wr_not; iterate 2 exact rfl) | (apply wr_nilCheck; iterate 2 exact rfl) | (apply wr_load; (iterate 3 exact rfl); (focus repeat first | with_reducible assumption | exact heap_alloc_same _ _ | exact World.putObj_heap_same (by first | omega | (simp only [World.size_alloc, World.putObj_size, ne_eq]; omega)) | ((first | refine hAl ?_ ?_ | refine hPu ?_ ?_); focus first | omega | (simp only [World.size_alloc, World.putObj_size, ne_eq]; omega))); exact rfl; conv => enter [6, 3]; whnf) | (apply wr_extract; (iterate 3 exact rfl); with_reducible (conv => enter [6, 3]; whnf)) | (apply wc_false; exact rfl))
    refine wr_sl_slice (i := 0) (j := i) rfl rfl (.inr ⟨_, rfl, ?_⟩) (.inl ⟨rfl, rfl⟩) ?_
    · rcases hr2.2 with ⟨e1, e2⟩ | ⟨g, o, cap, cur, e1, hb, hg, hn, hcm, hs, ht⟩
      · omega
      · cases e1; omega
    have hs1 := ownS_take0 hr2 (d := i) (by omega)
    rw [flat_takeG GN_len L (by omega)] at hs1
    refine wr_appendR (v := .slice none 0 0) (base := w2.heap.size) (n := 0) (m := i) (xs := []) (news := (L.take i).flatMap GN) rfl rfl ⟨rfl, .inl ⟨rfl, rfl⟩⟩ rfl hs1 (h.ones fun m hm => List.mem_of_mem_take hm) rfl (by decide) (by omega) (by omega) (Nat.le_refl _) ?_
    intro v3 w3 ho3 hk3 _
    have hk23 : Keeps NoB w2 w3 := (Keeps.refl NoB w2).trans' hk3 fun q hq e => by simp [Value.ownBlock] at e
    have hx3 := hk23.heap hx2 (fun h => h)
    have hr3 := hr2.keep hk23 (fun _ _ h => h)
    have hz3 := hk23.size
    (repeat first | (apply wr_move; exact rfl; with_reducible (conv => enter [6, 3]; whnf)) | (apply wr_assign; exact rfl; with_reducible (conv => enter [6, 3]; whnf)) | apply wr_end | apply wc_region | (apply wr_fieldAddr; iterate 2 exact rfl) | (apply wr_nilCheck; iterate 2 exact rfl) | (apply wr_load; (iterate 3 exact rfl); (focus repeat first | with_reducible assumption | exact heap_alloc_same _ _ | exact World.putObj_heap_same (by first | omega | (simp only [World.size_alloc, World.putObj_size, ne_eq]; omega)) | ((first | refine hAl ?_ ?_ | refine hPu ?_ ?_); focus first | omega | (simp only [World.size_alloc, World.putObj_size, ne_eq]; omega))); exact rfl; conv => enter [6, 3]; whnf) | (apply wr_add; (iterate 3 exact rfl); exact w_fit (by dsimp only [kIn]; first | done | omega)))
    refine wr_sl_slice (i := i + 1) (j := L.length) rfl rfl (.inl ⟨rfl, rfl⟩) (.inr ⟨_, rfl, by omega⟩) ?_
    have hs2 := (hr3.drop (d := i + 1) (by omega)).slR
    rw [flat_dropG GN_len L (by omega)] at hs2
    refine wr_appendR (v := v3) (base := w2.heap.size) (n := 0 + i) (m := L.length - (i + 1)) (xs := [] ++ (L.take i).flatMap GN) (news := (L.drop (i + 1)).flatMap GN) rfl rfl ho3 rfl hs2 (h.ones fun m hm => List.mem_of_mem_drop hm) rfl (by decide) (by omega) (by omega) hz3 ?_
    intro v4 w4 ho4 hk4 _
    have hk24 : Keeps NoB w2 w4 := hk23.trans' hk4 fun q hq e => by have := (ho3.lt q e).1; omega
    have hx4 := hk24.heap hx2 (fun h => h)
    have hL' : L.eraseIdx i = L.take i ++ L.drop (i + 1) := List.eraseIdx_eq_take_drop_succ L i
    have hlen' : (L.eraseIdx i).length = 0 + i + (L.length - (i + 1)) := by rw [List.length_eraseIdx_of_lt hlt]; omega
    have ho4' : OwnS w4 base NTT 37 v4 (L.eraseIdx i).length ((L.eraseIdx i).flatMap GN) := by
      rw [hlen', hL', List.flatMap_append]
      exact (OwnS.of_own ho4).down (by omega)
    (repeat first | (apply wr_fieldAddr; iterate 2 exact rfl) | (apply wr_nilCheck; iterate 2 exact rfl))
    have hv1 := ho4'.one
    refine wr_store (v := v4) rfl rfl rfl hv1 hx4 rfl ?_
    refine wr_name ?_
    intro w5 hw5
    have hk5 : Keeps (· = xb) w4 w5 := by rw [hw5]; exact (Keeps.refl _ w4).put _ (fun _ => rfl)
    have hx5 : w5.heap[xb]? = some (.cells #[v4] RAT (0, 0)) := by rw [hw5]; exact World.putObj_heap_same (lt_of_heap hx4)
    clear hw5
    have hsub := List.eraseIdx_sublist L i
    have hkb : ∀ {T : TypeId} {v : Value} {kk n : Nat} {xs : List Value}, OwnS w4 base T kk v n xs → T ≠ RAT → ∀ q, v.ownBlock = some q → ¬ q = xb := fun ho hT q hq e => by
      subst e
      obtain ⟨_, _, c, hc⟩ := ho.lt q hq
      rw [hx4] at hc
      cases hc
      exact hT rfl
    have h5 : RefA w5 base xb (L.eraseIdx i) := ⟨⟨v4, hx5, hbx, ho4'.keep hk5 (hkb ho4' (by decide))⟩, fun m hm => by
        have ho := ((h2.bad m (hsub.subset hm)).keep hk24 (fun _ _ h => h))
        exact ho.keep hk5 (hkb ho (by decide)), h.sort.sublist hsub, fun m hm => h.bs m (hsub.subset hm), fun m hm => h.few m (hsub.subset hm), h.sep.sublist hsub, by have := hsub.length_le; omega, fun m hm => h.tb m (hsub.subset hm)⟩
    have hkE : Keeps (RD base w) w w5 := (hk02.trans hk24).upD.trans (hk5.mono fun q hq e => by have e : q = xb := e; subst e; exact ⟨hbx, _, _, _, hxb, .inl rfl⟩)
    (repeat first | (apply wr_nil; try simp only [thenE, inBlockE, bodyQ]))
    refine leave0 rfl ⟨rfl, ⟨L.eraseIdx i, h5, getL_del' h.sort h5.sort fun m => ?_, fun m hm => hsub.subset hm⟩, hkE⟩
    rw [List.mem_eraseIdx_iff_getElem?]
    constructor
    · rintro ⟨j, hj, hm⟩
      exact ⟨List.mem_of_getElem? hm, pair_ne (fun a b h e => h e.symm) (keys_ne h.sort) hm hn hj⟩
    · rintro ⟨hm, hne⟩
      obtain ⟨j, hj⟩ := List.getElem?_of_mem hm
      exact ⟨j, fun e => by subst e; rw [hn] at hj; cases hj; exact hne rfl, hj⟩
end Go.Proofs.YtjaojihogmnjhaaGreatDoor
