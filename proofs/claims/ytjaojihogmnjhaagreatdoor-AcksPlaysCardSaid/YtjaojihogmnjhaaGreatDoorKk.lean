/- acks: Note, Forget, Least. -/
import Derived.Test.YtjaojihogmnjhaaGreatDoorKj
import Derived.Test.YtjaojihogmnjhaaGreatDoorMg
namespace Go.Proofs.YtjaojihogmnjhaaGreatDoor
open Go Go.V Go.RowKit
set_option linter.unusedVariables false
set_option linter.unusedSimpArgs false

def setT (T : Int → Nat) (id : Int) (n : Nat) : Int → Nat := fun x => if x = id then n else T x
def noteP (p : PN) (id : Int) (s : SD) : PN := if s.2.2.1 = true then { p with T := setT p.T id (max (p.T id) s.2.1) } else { p with bad := refuseP p.bad s.2.1 s.2.2.2 }
def idOk (id : Int) : Prop := 1 ≤ id ∧ id ≤ 32
instance (id : Int) : Decidable (idOk id) := by unfold idOk; infer_instance
theorem getM_putM (M : List (Int × Value)) (c x : Int) (v : Value) : getM (putM M c v) x = if x = c then some v else getM M x := by
  unfold putM
  by_cases hn : c ∈ M.map (·.1)
  · rw [if_pos hn]
    induction M with
    | nil => simp at hn
    | cons p M ih =>
      obtain ⟨q, u⟩ := p
      by_cases hk : q = c
      · subst hk
        by_cases hx : x = q
        · subst hx; simp [getM]
        · by_cases hm : q ∈ M.map (·.1)
          · have := ih hm
            simp only [getM] at this ⊢
            rw [List.map_cons, List.find?_cons, List.find?_cons]
            simp only [if_true]
            rw [decide_eq_false (Ne.symm hx)]
            simpa [hx] using this
          · have hmap : M.map (fun p => if p.1 = q then (q, v) else p) = M := by
              conv => rhs; rw [← List.map_id M]
              apply List.map_congr_left
              intro p hp
              rw [if_neg]; rfl
              intro e
              exact hm (List.mem_map.2 ⟨p, hp, e⟩)
            rw [List.map_cons, hmap]
            simp [getM, Ne.symm hx, hx]
      · have hm : c ∈ M.map (·.1) := by
          simp only [List.map_cons, List.mem_cons] at hn
          exact hn.resolve_left (Ne.symm hk)
        have := ih hm
        by_cases hx : x = q
        · subst hx; simp [getM, hk]
        · simp only [getM] at this ⊢
          rw [List.map_cons, List.find?_cons, List.find?_cons]
          simp only [hk, if_false]
          rw [decide_eq_false (Ne.symm hx)]
          exact this
  · rw [if_neg hn]
    simp only [getM, List.find?_append]
    by_cases hx : x = c
    · subst hx
      have : M.find? (fun p => decide (p.1 = x)) = none := by
        rw [List.find?_eq_none]
        intro p hp
        simp
        intro e
        exact hn (List.mem_map.2 ⟨p, hp, e⟩)
      rw [this]; simp
    · simp [hx, Ne.symm hx]
theorem getM_delM (M : List (Int × Value)) (c x : Int) : getM (delM M c) x = if x = c then none else getM M x := by
  unfold delM getM
  induction M with
  | nil => simp
  | cons p M ih =>
    by_cases hp : p.1 = c
    · rw [List.filter_cons_of_neg (by simp [hp]), ih, List.find?_cons]
      by_cases hx : x = c
      · simp [hx]
      · have : ¬ p.1 = x := fun e => hx (by rw [← e, hp])
        simp [hx, this]
    · rw [List.filter_cons_of_pos (by simp [hp]), List.find?_cons, List.find?_cons]
      by_cases hpx : p.1 = x
      · have : ¬ x = c := fun e => hp (by rw [hpx, e])
        simp [hpx, this]
      · simp only [hpx, decide_false]
        exact ih
theorem putL_put {β : Type} (L : List (KY × β)) (k : KY) (a b : β) : putL (putL L k a) k b = putL L k b := by
  unfold putL
  by_cases h : k ∈ L.map (·.1)
  · rw [if_pos h]
    have h2 : k ∈ (L.map (fun p => if p.1 = k then (k, a) else p)).map (·.1) := by
      have := putL_keys a h
      unfold putL at this
      rw [if_pos h] at this
      rw [this]; exact h
    rw [if_pos h2, if_pos h, List.map_map]
    apply List.map_congr_left
    intro p _
    by_cases hp : p.1 = k <;> simp [hp]
  · rw [if_neg h]
    have h2 : k ∈ (L ++ [(k, a)]).map (·.1) := by simp
    rw [if_pos h2, if_neg h, List.map_append]
    congr 1
    · conv => rhs; rw [← List.map_id L]
      apply List.map_congr_left
      intro p hp
      rw [if_neg (fun e => h (List.mem_map.2 ⟨p, hp, e⟩))]; rfl
    · simp
theorem Sub.down {w w' : World} {L L' : List (KY × ND)} (h : Sub w' L L') (hs : w.heap.size ≤ w'.heap.size) : Sub w L L' := fun x hx q hq => by
  rcases h x hx q hq with h1 | h1
  · exact .inl h1
  · exact .inr (by omega)
set_option maxRecDepth 100000 in
theorem someone_ca (id : Int) (w : World) : Ca Tryz.prog 21 #[.int .i64 id] w fun v w' => v = .bool (decide (idOk id)) ∧ w' = w := by
  refine ca_of_body (args := [.int .i64 id]) Tryz.func21 rfl (by kernel_rfl) ?_
  by_cases h1 : 1 ≤ id
  · by_cases h2 : id ≤ 32
    · (repeat first | (apply wr_move; exact rfl; with_reducible (conv => enter [6, 3]; whnf)) | (apply wr_assign; exact rfl; with_reducible (conv => enter [6, 3]; whnf)) | apply wr_end | apply wc_seq | apply wc_region | (apply wr_cmp; (iterate 3 exact rfl); exact cmpT (by dsimp only [cmpP]; first | done | omega)) | (apply wr_pick (t := true); (iterate 2 exact rfl); with_reducible (conv => enter [6, 3]; whnf)) | (apply wc_ret; try simp only [thenE, inBlockE, bodyQ]))
      exact leave1 (v := .bool true) rfl rfl ⟨by rw [decide_eq_true (show idOk id from ⟨h1, h2⟩)], by trivial⟩
    · (repeat first | (apply wr_move; exact rfl; with_reducible (conv => enter [6, 3]; whnf)) | (apply wr_assign; exact rfl; with_reducible (conv => enter [6, 3]; whnf)) | apply wr_end | apply wc_seq | apply wc_region | (apply wr_cmp; (iterate 3 exact rfl); exact cmpT (by dsimp only [cmpP]; first | done | omega)) | (apply wr_cmp; (iterate 3 exact rfl); exact cmpF (by dsimp only [cmpN]; first | done | omega)) | (apply wr_pick (t := true); (iterate 2 exact rfl); with_reducible (conv => enter [6, 3]; whnf)) | (apply wc_ret; try simp only [thenE, inBlockE, bodyQ]))
      exact leave1 (v := .bool false) rfl rfl ⟨by rw [decide_eq_false (show ¬ idOk id from fun h => h2 h.2)], by trivial⟩
  · (repeat first | (apply wr_move; exact rfl; with_reducible (conv => enter [6, 3]; whnf)) | (apply wr_assign; exact rfl; with_reducible (conv => enter [6, 3]; whnf)) | apply wr_end | apply wc_seq | apply wc_region | (apply wr_cmp; (iterate 3 exact rfl); exact cmpF (by dsimp only [cmpN]; first | done | omega)) | (apply wr_pick (t := false); (iterate 2 exact rfl); with_reducible (conv => enter [6, 3]; whnf)) | (apply wc_ret; try simp only [thenE, inBlockE, bodyQ]) | (apply wr_skip; exact rfl))
    exact leave1 (v := .bool false) rfl rfl ⟨by rw [decide_eq_false (show ¬ idOk id from fun h => h1 h.1)], by trivial⟩
set_option maxRecDepth 100000 in
set_option maxHeartbeats 4000000 in
theorem note_ca {base ab mb : Nat} {L : List (KY × ND)} {w : World} (h : AcksAt w base ab mb L) (hbase : base ≤ w.heap.size) (id : Int) (s : SD) (hn : s.1.2.length ≤ 9223372036854775807) (hd : s.2.2.2.length ≤ 9223372036854775807) (hq : s.2.1 < 18446744073709551616) :
    Ca Tryz.prog 13 #[.pointer (some ⟨ab, 0, none⟩), .int .i64 id, SdV s] w fun v w' => (¬ (stOk s ∧ idOk id) ∧ v = .int .i64 1 ∧ Keeps NoB w w') ∨
      ((stOk s ∧ idOk id) ∧ v = .int .i64 0 ∧ ∃ L', AcksAt w' base ab mb L' ∧ PL L' = putL (PL L) s.1 (noteP ((getL (PL L) s.1).getD PN.new) id s) ∧ Keeps (aD mb L) w w' ∧ Sub w L L') := by
  obtain ⟨⟨t, n⟩, sq, o, dt⟩ := s
  dsimp only at hn hd hq
  refine ca_of_body (args := [.pointer (some ⟨ab, 0, none⟩), .int .i64 id, SdV ((t, n), sq, o, dt)]) Tryz.func13 rfl (by kernel_rfl) ?_
  apply wc_seq
  apply wc_region
  refine wr_box (v := .agg (GS ((t, n), sq, o, dt)).toArray) rfl rfl ?_
  refine wr_name ?_
  intro w1 hw1
  obtain ⟨b1, hb1⟩ : ∃ b1, b1 = w.heap.size := ⟨_, rfl⟩
  have hk1 : Keeps NoB w w1 := by rw [hw1]; exact (Keeps.refl NoB w).alloc _
  have hc1 : w1.heap[b1]? = some (.cells #[.int .i64 t, S n, .int .u64 (sq : Int), .bool o, S dt] 43 (0, 0)) := by rw [hw1, hb1]; exact heap_alloc_same _ _
  rw [← hb1]
  clear hw1
  (repeat first | (apply wr_assign; exact rfl; with_reducible (conv => enter [6, 3]; whnf)) | apply wr_end | apply wc_seq | apply wc_region)
  refine wr_loadAll (cs := GS ((t, n), sq, o, dt)) rfl rfl rfl hc1 rfl ?_
  refine wr_call (vs := [SdV ((t, n), sq, o, dt)]) rfl (putStatus_ca ((t, n), sq, o, dt) w1 hn hd hq) rfl ?_
  rintro v w2 ⟨⟨x, rfl⟩, hk2⟩
  have hkw2 := hk1.trans hk2
  have hc2 := hk2.heap hc1 (fun h => h)
  by_cases hok : stOk ((t, n), sq, o, dt)
  rotate_left
  · rw [decide_eq_false hok]
    (repeat first | (apply wr_move; exact rfl; with_reducible (conv => enter [6, 3]; whnf)) | (apply wr_assign; exact rfl; with_reducible (conv => enter [6, 3]; whnf)) | apply wr_end | apply wc_seq | apply wc_region | (apply wr_not; iterate 2 exact rfl) | (apply wr_pick (t := true); (iterate 2 exact rfl); with_reducible (conv => enter [6, 3]; whnf)) | (apply wr_extract; (iterate 3 exact rfl); with_reducible (conv => enter [6, 3]; whnf)) | (apply wc_true; exact rfl) | (apply wc_ret; try simp only [thenE, inBlockE, bodyQ]) | (apply wr_skip; exact rfl))
    exact leave1 (v := .int .i64 1) rfl rfl (.inl ⟨fun h => hok h.1, rfl, hkw2⟩)
  rw [decide_eq_true hok]
  (repeat first | (apply wr_move; exact rfl; with_reducible (conv => enter [6, 3]; whnf)) | (apply wr_assign; exact rfl; with_reducible (conv => enter [6, 3]; whnf)) | apply wr_end | apply wc_seq | apply wc_region | (apply wr_not; iterate 2 exact rfl) | (apply wr_extract; (iterate 3 exact rfl); with_reducible (conv => enter [6, 3]; whnf)))
  refine wr_call (vs := [.int .i64 id]) rfl (someone_ca id w2) rfl ?_
  rintro v w3 ⟨rfl, rfl⟩
  by_cases hid : idOk id
  rotate_left
  · rw [decide_eq_false hid]
    (repeat first | (apply wr_assign; exact rfl; with_reducible (conv => enter [6, 3]; whnf)) | apply wr_end | apply wc_seq | apply wc_region | (apply wr_not; iterate 2 exact rfl) | (apply wr_pick (t := false); (iterate 2 exact rfl); with_reducible (conv => enter [6, 3]; whnf)) | (apply wc_true; exact rfl) | (apply wc_ret; try simp only [thenE, inBlockE, bodyQ]))
    exact leave1 (v := .int .i64 1) rfl rfl (.inl ⟨fun h => hid h.2, rfl, hkw2⟩)
  rw [decide_eq_true hid]
  have hkw4 := hkw2
  have h4 := h.keep hkw2
  have hsz4 := hkw2.size
  (repeat first | (apply wr_move; exact rfl; with_reducible (conv => enter [6, 3]; whnf)) | apply wr_end | apply wc_seq | apply wc_region | apply wc_skip | (apply wr_fieldAddr; iterate 2 exact rfl) | (apply wr_not; iterate 2 exact rfl) | (apply wr_pick (t := false); (iterate 2 exact rfl); with_reducible (conv => enter [6, 3]; whnf)) | (apply wc_false; exact rfl))
  refine wr_loadAgg (cs := [.int .i64 t, S n]) rfl rfl rfl rfl (fun j u h => by match j, h with | 0, h => cases h; exact cell_of_heap hc2 rfl | 1, h => cases h; exact cell_of_heap hc2 rfl | j + 2, h => simp at h) ?_
  refine wr_call (vs := [.pointer (some ⟨ab, 0, none⟩), encK (t, n)]) rfl (of_ca h4 (by omega) (t, n)) rfl ?_
  rintro v w5 ⟨L5, d, rfl, hg5, h5, hk5, hs5, hL5⟩
  have hc5 := hk5.heap hc2 (h4.free hc2 (by decide) (by decide))
  have hN5 := h5.note _ (getL_mem hg5)
  have hn5 := hN5.cell
  obtain ⟨nb, tb, dv, T, told, l⟩ := d
  have hk0 : ∀ {w'}, Keeps NoB w5.drew w' → Keeps NoB w5 w' := fun hk => (Keeps.refl NoB w5).drew.trans hk
  cases o with
  | true =>
    obtain ⟨M, hM, hT⟩ := hN5.tk
    (repeat first | (apply wr_assign; exact rfl; with_reducible (conv => enter [6, 3]; whnf)) | apply wr_end | apply wc_seq | apply wc_region | (apply wr_fieldAddr; iterate 2 exact rfl) | (apply wr_load; (iterate 3 exact rfl); (focus repeat first | with_reducible assumption | exact heap_alloc_same _ _ | exact World.putObj_heap_same (by first | omega | (simp only [World.size_alloc, World.putObj_size, ne_eq]; omega)) | ((first | refine hAl ?_ ?_ | refine hPu ?_ ?_); focus first | omega | (simp only [World.size_alloc, World.putObj_size, ne_eq]; omega))); exact rfl; conv => enter [6, 3]; whnf) | (apply wc_true; exact rfl))
    refine wc_drawP (l := _) 14 _ (by kernel_rfl) (by kernel_rfl) rfl (by kernel_rfl) (by kernel_rfl) (by decide) ?_
    apply chP_pure
    focus
      intro xx w' hk hF
      apply wr_move; exact rfl; with_reducible (conv => enter [6, 3]; whnf)
      apply wr_nil
      exact ⟨rfl, Keeps.refl _ _⟩
    focus (intro xx yy h; rfl)
    focus kernel_rfl
    apply chP_pure
    focus
      intro xx w' hk hF
      refine wr_nilCheck rfl rfl ?_
      apply wr_nil
      exact ⟨rfl, Keeps.refl _ _⟩
    focus (intro xx yy h; rfl)
    focus kernel_rfl
    apply chP_pure
    focus
      intro xx w' hk hF
      refine wr_fieldAddr rfl rfl ?_
      apply wr_nil
      exact ⟨rfl, Keeps.refl _ _⟩
    focus (intro xx yy h; rfl)
    focus kernel_rfl
    apply chP_pure
    focus
      intro xx w' hk hF
      refine wr_load (v := .map (some tb)) rfl rfl rfl ((hk0 hk).heap hn5 (fun h => h)) rfl ?_
      apply wr_nil
      exact ⟨rfl, Keeps.refl _ _⟩
    focus (intro xx yy h; rfl)
    focus kernel_rfl
    apply chP_pure
    focus
      intro xx w' hk hF
      apply wr_move; exact rfl; with_reducible (conv => enter [6, 3]; whnf)
      apply wr_nil
      exact ⟨rfl, Keeps.refl _ _⟩
    focus (intro xx yy h; rfl)
    focus kernel_rfl
    apply chP_pure
    focus
      intro xx w' hk hF
      apply wr_move; exact rfl; with_reducible (conv => enter [6, 3]; whnf)
      apply wr_nil
      exact ⟨rfl, Keeps.refl _ _⟩
    focus (intro xx yy h; rfl)
    focus kernel_rfl
    apply chP_pure
    focus
      intro xx w' hk hF
      refine wr_nilCheck rfl rfl ?_
      apply wr_nil
      exact ⟨rfl, Keeps.refl _ _⟩
    focus (intro xx yy h; rfl)
    focus kernel_rfl
    apply chP_pure
    focus
      intro xx w' hk hF
      refine wr_fieldAddr rfl rfl ?_
      apply wr_nil
      exact ⟨rfl, Keeps.refl _ _⟩
    focus (intro xx yy h; rfl)
    focus kernel_rfl
    apply chP_pure
    focus
      intro xx w' hk hF
      refine wr_load (v := .map (some tb)) rfl rfl rfl ((hk0 hk).heap hn5 (fun h => h)) rfl ?_
      apply wr_nil
      exact ⟨rfl, Keeps.refl _ _⟩
    focus (intro xx yy h; rfl)
    focus kernel_rfl
    apply chP_pure
    focus
      intro xx w' hk hF
      apply wr_move; exact rfl; with_reducible (conv => enter [6, 3]; whnf)
      apply wr_nil
      exact ⟨rfl, Keeps.refl _ _⟩
    focus (intro xx yy h; rfl)
    focus kernel_rfl
    apply chP_pure
    focus
      intro xx w' hk hF
      refine wr_lookupV (enc := encI .i64) (l := M) (a := id) (u := .int .u64 ((T id : Nat) : Int)) rfl rfl (hM.keep (hk0 hk) (fun h => h)) rfl (hT id) ?_
      apply wr_nil
      exact ⟨rfl, Keeps.refl _ _⟩
    focus (intro xx yy h; rfl)
    focus kernel_rfl
    apply chP_pure
    focus
      intro xx w' hk hF
      refine wr_fieldAddr rfl rfl ?_
      apply wr_nil
      exact ⟨rfl, Keeps.refl _ _⟩
    focus (intro xx yy h; rfl)
    focus kernel_rfl
    apply chP_pure
    focus
      intro xx w' hk hF
      refine wr_load (v := .int .u64 (sq : Int)) rfl rfl rfl ((hk0 hk).heap hc5 (fun h => h)) rfl ?_
      apply wr_nil
      exact ⟨rfl, Keeps.refl _ _⟩
    focus (intro xx yy h; rfl)
    focus kernel_rfl
    apply chP_pure
    focus
      intro xx w' hk hF
      refine wr_max (c := ((max (T id) sq : Nat) : Int)) rfl rfl rfl (by split <;> omega) ?_
      apply wr_nil
      exact ⟨rfl, Keeps.refl _ _⟩
    focus (intro xx yy h; rfl)
    focus kernel_rfl
    refine chP_nil ?_
    intro xx w6 hk6' hF
    have hk6 := hk0 hk6'
    have hM6 := hM.keep hk6 (fun h => h)
    refine wr_update (enc := encI .i64) (l := M) (a := id) (v := .int .u64 ((max (T id) sq : Nat) : Int)) rfl rfl hM6 rfl rfl ?_
    intro w7 hM7 hk7
    have hn6 := hk6.heap hn5 (fun h => h)
    have ho6 := hN5.bad.keep hk6 (fun _ _ h => h)
    have hN7 : NoteAt w7 base ⟨nb, tb, dv, { (⟨T, told, l⟩ : PN) with T := setT T id (max (T id) sq) }⟩ := ⟨hk7.heap hn6 (map_cells' hM6 hn6), ⟨_, hM7, fun x => by
      rw [getM_putM]
      unfold setT
      by_cases hx : x = id
      · simp [hx]
      · simp only [hx, if_false]; exact hT x⟩, ho6.keep hk7 (fun q hq e => by
        subst e
        obtain ⟨_, _, cur, hcur⟩ := ho6.lt _ hq
        exact map_cells' hM6 hcur rfl), hN5.sort, hN5.few⟩
    obtain ⟨h9, hk9, hs9⟩ := h5.upd hg5 (d' := ⟨nb, tb, dv, { (⟨T, told, l⟩ : PN) with T := setT T id (max (T id) sq) }⟩) rfl rfl (fun q hq => .inl hq) hN7 (hk6.upD.trans (hk7.mono fun q _ e => .inr (.inl e)))
    (repeat first | (apply wr_assign; exact rfl; with_reducible (conv => enter [6, 3]; whnf)) | apply wr_end | apply wc_seq | apply wc_region | (apply wc_ret; try simp only [thenE, inBlockE, bodyQ]))
    refine leave1 (v := .int .i64 0) rfl rfl (.inr ⟨⟨hok, hid⟩, rfl, putL L5 (t, n) ⟨nb, tb, dv, { (⟨T, told, l⟩ : PN) with T := setT T id (max (T id) sq) }⟩, h9, ?_, (hkw4.upD.trans hk5).trans' hk9 (fun i hi e => ?_), Sub.trans (hs5.down hkw4.size) hs9 (by have := hkw4.size; have := hk5.size; omega)⟩)
    focus
      rw [putPL]
      rcases hL5 with ⟨rfl, hg0⟩ | ⟨hg0, rfl, hp0⟩
      · rw [getPL, hg0]; rfl
      · have hp1 : (⟨T, told, l⟩ : PN) = PN.new := hp0
        rw [getPL, hg0, putPL, putL_put]
        show putL (PL L) (t, n) (noteP (⟨T, told, l⟩ : PN) id ((t, n), sq, true, dt)) = _
        rw [hp1]; rfl
    rcases e with rfl | ⟨x, hx, hq⟩
    focus exact .inl rfl
    rcases hs5 x hx i hq with h1 | h1
    focus exact .inr h1
    have := hkw4.size
    omega
  | false =>
    have hs5z := hk5.size
    (repeat first | (apply wr_move; exact rfl; with_reducible (conv => enter [6, 3]; whnf)) | (apply wr_assign; exact rfl; with_reducible (conv => enter [6, 3]; whnf)) | apply wr_end | apply wc_seq | apply wc_region | (apply wr_fieldAddr; iterate 2 exact rfl) | (apply wr_load; (iterate 3 exact rfl); (focus repeat first | with_reducible assumption | exact heap_alloc_same _ _ | exact World.putObj_heap_same (by first | omega | (simp only [World.size_alloc, World.putObj_size, ne_eq]; omega)) | ((first | refine hAl ?_ ?_ | refine hPu ?_ ?_); focus first | omega | (simp only [World.size_alloc, World.putObj_size, ne_eq]; omega))); exact rfl; conv => enter [6, 3]; whnf) | (apply wc_false; exact rfl))
    refine wr_loadAll (cs := GS ((t, n), sq, false, dt)) rfl rfl rfl hc5 rfl ?_
    refine wr_call (vs := [.pointer (some ⟨nb, 0, none⟩), SdV ((t, n), sq, false, dt)]) rfl (refuse_ca hN5 (by omega) ((t, n), sq, false, dt)) rfl ?_
    rintro v w7 ⟨rfl, v', hN7, hv7, hk7⟩
    obtain ⟨h9, hk9, hs9⟩ := h5.upd hg5 (d' := ⟨nb, tb, v', { (⟨T, told, l⟩ : PN) with bad := refuseP l sq dt }⟩) rfl rfl (hv7) hN7 hk7
    (repeat first | (apply wr_assign; exact rfl; with_reducible (conv => enter [6, 3]; whnf)) | apply wr_end | apply wc_seq | apply wc_region | (apply wc_ret; try simp only [thenE, inBlockE, bodyQ]))
    refine leave1 (v := .int .i64 0) rfl rfl (.inr ⟨⟨hok, hid⟩, rfl, putL L5 (t, n) ⟨nb, tb, v', { (⟨T, told, l⟩ : PN) with bad := refuseP l sq dt }⟩, h9, ?_, (hkw4.upD.trans hk5).trans' hk9 (fun i hi e => ?_), Sub.trans (hs5.down hkw4.size) hs9 (by have := hkw4.size; have := hk5.size; omega)⟩)
    focus
      rw [putPL]
      rcases hL5 with ⟨rfl, hg0⟩ | ⟨hg0, rfl, hp0⟩
      · rw [getPL, hg0]; rfl
      · have hp1 : (⟨T, told, l⟩ : PN) = PN.new := hp0
        rw [getPL, hg0, putPL, putL_put]
        show putL (PL L) (t, n) (noteP (⟨T, told, l⟩ : PN) id ((t, n), sq, false, dt)) = _
        rw [hp1]; rfl
    rcases e with rfl | ⟨x, hx, hq⟩
    focus exact .inl rfl
    rcases hs5 x hx i hq with h1 | h1
    focus exact .inr h1
    have := hkw4.size
    omega
set_option maxRecDepth 100000 in
set_option maxHeartbeats 2000000 in
theorem forget_ca {base ab mb : Nat} {L : List (KY × ND)} {w : World} (h : AcksAt w base ab mb L) (k : KY) :
    Ca Tryz.prog 11 #[.pointer (some ⟨ab, 0, none⟩), encK k] w fun v w' => v = .tuple #[] ∧ AcksAt w' base ab mb (delL L k) ∧ Keeps (· = mb) w w' := by
  refine ca_of_body (args := [.pointer (some ⟨ab, 0, none⟩), encK k]) Tryz.func11 rfl (by kernel_rfl) ?_
  apply wc_seq
  apply wc_region
  refine wr_box (v := .agg #[.int .i64 k.1, S k.2]) rfl rfl ?_
  refine wr_name ?_
  intro w1 hw1
  obtain ⟨b1, hb1⟩ : ∃ b1, b1 = w.heap.size := ⟨_, rfl⟩
  have hk1 : Keeps NoB w w1 := by rw [hw1]; exact (Keeps.refl NoB w).alloc _
  have hc1 : w1.heap[b1]? = some (.cells #[.int .i64 k.1, S k.2] 36 (0, 0)) := by rw [hw1, hb1]; exact heap_alloc_same _ _
  rw [← hb1]
  clear hw1
  have h1 := h.keep hk1
  have hs1 := h1.cells
  have hk0 : ∀ {w'}, Keeps NoB w1.drew w' → Keeps NoB w1 w' := fun hk => (Keeps.refl NoB w1).drew.trans hk
  (repeat first | apply wr_end)
  refine wc_drawP (l := _) 5 _ (by kernel_rfl) (by kernel_rfl) rfl (by kernel_rfl) (by kernel_rfl) (by decide) ?_
  apply chP_pure
  focus
    intro xx w' hk hF
    apply wr_move; exact rfl; with_reducible (conv => enter [6, 3]; whnf)
    apply wr_nil
    exact ⟨rfl, Keeps.refl _ _⟩
  focus (intro xx yy h; rfl)
  focus kernel_rfl
  apply chP_pure
  focus
    intro xx w' hk hF
    refine wr_nilCheck rfl rfl ?_
    apply wr_nil
    exact ⟨rfl, Keeps.refl _ _⟩
  focus (intro xx yy h; rfl)
  focus kernel_rfl
  apply chP_pure
  focus
    intro xx w' hk hF
    refine wr_fieldAddr rfl rfl ?_
    apply wr_nil
    exact ⟨rfl, Keeps.refl _ _⟩
  focus (intro xx yy h; rfl)
  focus kernel_rfl
  apply chP_pure
  focus
    intro xx w' hk hF
    refine wr_load (v := .map (some mb)) rfl rfl rfl ((hk0 hk).heap hs1 (fun h => h)) rfl ?_
    apply wr_nil
    exact ⟨rfl, Keeps.refl _ _⟩
  focus (intro xx yy h; rfl)
  focus kernel_rfl
  apply chP_pure
  focus
    intro xx w' hk hF
    refine wr_loadAll (cs := [.int .i64 k.1, S k.2]) rfl rfl rfl ((hk0 hk).heap hc1 (fun h => h)) rfl ?_
    apply wr_nil
    exact ⟨rfl, Keeps.refl _ _⟩
  focus (intro xx yy h; rfl)
  focus kernel_rfl
  refine chP_nil ?_
  intro xx w3 hk3' hF
  have hk3 := hk0 hk3'
  have h3 := h1.keep hk3
  refine wr_delete (l := mapL ptrN L) (a := k) rfl rfl h3.keys rfl ?_
  intro w4 hM4 hk4
  rw [← delL_map] at hM4
  have hsub : ∀ x ∈ delL L k, x ∈ L := fun x hx => (List.mem_filter.1 hx).1
  (repeat first | (apply wr_nil; try simp only [thenE, inBlockE, bodyQ]))
  try unfold bodyQ
  refine leave0 rfl ⟨rfl, ⟨hk4.heap h3.cells (map_cells' h3.keys h3.cells), hM4, fun x hx => (h3.note x (hsub x hx)).keep hk4 (fun q hq e => ?_), fun x hx y hy hxy => h.sep x (hsub x hx) y (hsub y hy) hxy, fun x hx => h.tne x (hsub x hx)⟩, (hk1.trans hk3).upD.trans hk4⟩
  subst e
  have hN := h3.note x (hsub x hx)
  rcases hq with hq | hq | hq
  · exact map_cells' h3.keys hN.cell hq.symm
  · exact h3.tne x (hsub x hx) hq.symm
  · obtain ⟨_, _, cur, hcur⟩ := hN.bad.lt _ hq
    exact map_cells' h3.keys hcur rfl
/-- Up to where all of some took it. -/
def leastP (o : Option PN) (who : List Int) : Nat := match o, who with
  | some p, a :: r => (a :: r).foldl (fun m id => min m (p.T id)) (p.T a)
  | _, _ => 0
set_option maxRecDepth 100000 in
theorem least1_ca {base : Nat} {d : ND} {w : World} (h : NoteAt w base d) (b7 : Nat) {T : TypeId} {fr : Nat × Nat} (hb : w.heap[b7]? = some (.cells #[ptrN d] T fr)) (id : Int) :
    Ca Tryz.prog 27 #[.int .i64 id, .pointer (some ⟨b7, 0, none⟩)] w fun v w' => v = .int .u64 ((d.p.T id : Nat) : Int) ∧ w' = w := by
  obtain ⟨M, hM, hT⟩ := h.tk
  have hc := h.cell
  obtain ⟨nb, tb, dv, p⟩ := d
  have hb' : w.heap[b7]? = some (.cells #[.pointer (some ⟨nb, 0, none⟩)] T fr) := hb
  refine ca_of_body (args := [.int .i64 id, .pointer (some ⟨b7, 0, none⟩)]) Tryz.func27 rfl (by kernel_rfl) ?_
  (repeat first | (apply wr_move; exact rfl; with_reducible (conv => enter [6, 3]; whnf)) | (apply wr_assign; exact rfl; with_reducible (conv => enter [6, 3]; whnf)) | apply wr_end | apply wc_seq | apply wc_region | (apply wr_fieldAddr; iterate 2 exact rfl) | (apply wr_nilCheck; iterate 2 exact rfl) | (apply wr_load; (iterate 3 exact rfl); (focus repeat first | with_reducible assumption | exact heap_alloc_same _ _ | exact World.putObj_heap_same (by first | omega | (simp only [World.size_alloc, World.putObj_size, ne_eq]; omega)) | ((first | refine hAl ?_ ?_ | refine hPu ?_ ?_); focus first | omega | (simp only [World.size_alloc, World.putObj_size, ne_eq]; omega))); exact rfl; conv => enter [6, 3]; whnf))
  refine wr_lookupV (enc := encI .i64) (l := M) (a := id) (u := .int .u64 ((p.T id : Nat) : Int)) rfl rfl hM rfl (hT id) ?_
  (repeat first | (apply wr_assign; exact rfl; with_reducible (conv => enter [6, 3]; whnf)) | apply wr_end | (apply wc_ret; try simp only [thenE, inBlockE, bodyQ]))
  exact leave1 (v := .int .u64 ((p.T id : Nat) : Int)) rfl rfl ⟨rfl, by trivial⟩
set_option maxRecDepth 100000 in
set_option maxHeartbeats 4000000 in
theorem least_ca {base ab mb : Nat} {L : List (KY × ND)} {w : World} (h : AcksAt w base ab mb L) (k : KY) (who : List Int) (v0 : Value) (hsl : SlR w 1 v0 who.length (who.map (Value.int .i64))) (hlen : who.length ≤ 9223372036854775807) :
    Ca Tryz.prog 17 #[.pointer (some ⟨ab, 0, none⟩), encK k, v0] w fun v w' => v = .int .u64 ((leastP ((getL L k).map (·.p)) who : Nat) : Int) ∧ Keeps NoB w w' := by
  obtain ⟨a, c, rfl, hc, hat⟩ := hsl.shape
  refine ca_of_body (args := [.pointer (some ⟨ab, 0, none⟩), encK k, .slice a who.length c]) Tryz.func17 rfl (by kernel_rfl) ?_
  apply wc_seq
  apply wc_region
  refine wr_box (v := .agg #[.int .i64 k.1, S k.2]) rfl rfl ?_
  refine wr_name ?_
  intro w1 hw1
  obtain ⟨b1, hb1⟩ : ∃ b1, b1 = w.heap.size := ⟨_, rfl⟩
  have hk1 : Keeps NoB w w1 := by rw [hw1]; exact (Keeps.refl NoB w).alloc _
  have hc1 : w1.heap[b1]? = some (.cells #[.int .i64 k.1, S k.2] 36 (0, 0)) := by rw [hw1, hb1]; exact heap_alloc_same _ _
  rw [← hb1]
  clear hw1
  have h1 := (h.keep hk1).drew'
  have hs1 := h1.cells
  have hc1d : w1.drew.heap[b1]? = some (.cells #[.int .i64 k.1, S k.2] 36 (0, 0)) := hc1
  obtain ⟨wA, hwA⟩ : ∃ wA, wA = w1.drew.alloc (.cells #[.pointer none] 58) := ⟨_, rfl⟩
  obtain ⟨b7, hb7⟩ : ∃ b7, b7 = w1.drew.heap.size := ⟨_, rfl⟩
  have hkA : Keeps NoB w1.drew wA := by rw [hwA]; exact (Keeps.refl NoB w1.drew).alloc _
  have hcA : wA.heap[b7]? = some (.cells #[.pointer none] 58 (0, 0)) := by rw [hwA, hb7]; exact heap_alloc_same _ _
  cases hg : getL L k with
  | none =>
    obtain ⟨wB, hwB⟩ : ∃ wB, wB = wA.putObj b7 (.cells #[.pointer none] 58 (0, 0)) := ⟨_, rfl⟩
    have hkB : Keeps NoB w1.drew wB := by rw [hwB]; exact hkA.put _ (fun e => by omega)
    (repeat first | (apply wr_assign; exact rfl; with_reducible (conv => enter [6, 3]; whnf)) | apply wr_end | apply wc_seq)
    refine V.L.wc_drawL (l := _) (V.L.tri 9 10 w1.drew wA wB) (by kernel_rfl) (by kernel_rfl) rfl ?_
    apply V.L.ch_step
    focus
      apply V.L.one_read hkA hkB rfl rfl
      intro w' hk
      apply wr_move; exact rfl; with_reducible (conv => enter [6, 3]; whnf)
      apply wr_nil
      exact ⟨rfl, rfl⟩
    apply V.L.ch_step
    focus
      apply V.L.one_read hkA hkB rfl rfl
      intro w' hk
      refine wr_nilCheck rfl rfl ?_
      apply wr_nil
      exact ⟨rfl, rfl⟩
    apply V.L.ch_step
    focus
      apply V.L.one_read hkA hkB rfl rfl
      intro w' hk
      refine wr_fieldAddr rfl rfl ?_
      apply wr_nil
      exact ⟨rfl, rfl⟩
    apply V.L.ch_step
    focus
      apply V.L.one_read hkA hkB rfl rfl
      intro w' hk
      refine wr_load (v := .map (some mb)) rfl rfl rfl (hk.heap hs1 (fun h => h)) rfl ?_
      apply wr_nil
      exact ⟨rfl, rfl⟩
    apply V.L.ch_step
    focus
      apply V.L.one_read hkA hkB rfl rfl
      intro w' hk
      refine wr_loadAll (cs := [.int .i64 k.1, S k.2]) rfl rfl rfl (hk.heap hc1d (fun h => h)) rfl ?_
      apply wr_nil
      exact ⟨rfl, rfl⟩
    apply V.L.ch_step
    focus
      apply V.L.one_read hkA hkB rfl rfl
      intro w' hk
      refine wr_lookupOkV (l := mapL ptrN L) (a := k) (u := .pointer none) (c := false) rfl rfl (h1.keys.keep hk (fun h => h)) rfl (by rw [getL_map, hg]; rfl) (by rw [getL_map, hg]; rfl) ?_
      apply wr_nil
      exact ⟨rfl, rfl⟩
    apply V.L.ch_step
    focus
      apply V.L.one_read hkA hkB rfl rfl
      intro w' hk
      apply wr_move; exact rfl; with_reducible (conv => enter [6, 3]; whnf)
      apply wr_nil
      exact ⟨rfl, rfl⟩
    apply V.L.ch_step
    focus
      apply V.L.one_read hkA hkB rfl rfl
      intro w' hk
      apply wr_extract; (iterate 3 exact rfl); with_reducible (conv => enter [6, 3]; whnf)
      apply wr_nil
      exact ⟨rfl, rfl⟩
    apply V.L.ch_step
    focus
      apply V.L.one_read hkA hkB rfl rfl
      intro w' hk
      apply wr_extract; (iterate 3 exact rfl); with_reducible (conv => enter [6, 3]; whnf)
      apply wr_nil
      exact ⟨rfl, rfl⟩
    apply V.L.ch_step
    focus
      apply V.L.one_alloc (by kernel_rfl) rfl
      refine wr_alloc rfl ?_
      apply wr_nil
      exact ⟨rfl, hwA.symm⟩
    apply V.L.ch_step
    focus
      apply V.L.one_store (by kernel_rfl)
      refine wr_store (v := .pointer none) rfl (by rw [← hb7]) rfl rfl hcA rfl ?_
      apply wr_nil
      exact ⟨rfl, hwB.symm⟩
    apply V.L.ch_step
    focus
      apply V.L.one_read hkA hkB rfl rfl
      intro w' hk
      apply wr_assign; exact rfl; with_reducible (conv => enter [6, 3]; whnf)
      apply wr_nil
      exact ⟨rfl, rfl⟩
    refine V.L.ch_nil ?_
    intro w2 hS
    have hw2 := V.L.tri_end hS (by kernel_rfl)
    have hk2 : Keeps NoB w w2 := by rw [hw2]; exact hk1.drew.trans hkB
    clear hS hw2
    (repeat first | (apply wr_move; exact rfl; with_reducible (conv => enter [6, 3]; whnf)) | (apply wr_assign; exact rfl; with_reducible (conv => enter [6, 3]; whnf)) | apply wr_end | apply wc_seq | apply wc_region | (apply wr_not; iterate 2 exact rfl) | (apply wr_pick (t := true); (iterate 2 exact rfl); with_reducible (conv => enter [6, 3]; whnf)) | (apply wc_true; exact rfl) | (apply wc_ret; try simp only [thenE, inBlockE, bodyQ]) | (apply wr_skip; exact rfl))
    exact leave1 (v := .int .u64 0) rfl rfl ⟨by cases who <;> rfl, hk2⟩
  | some d =>
    obtain ⟨wB, hwB⟩ : ∃ wB, wB = wA.putObj b7 (.cells #[ptrN d] 58 (0, 0)) := ⟨_, rfl⟩
    have hkB : Keeps NoB w1.drew wB := by rw [hwB]; exact hkA.put _ (fun e => by omega)
    have hcB : wB.heap[b7]? = some (.cells #[ptrN d] 58 (0, 0)) := by rw [hwB]; exact World.putObj_heap_same (lt_of_heap hcA)
    have hNB := (h1.note _ (getL_mem hg)).keep hkB (fun _ _ h => h)
    dsimp only at hNB
    (repeat first | (apply wr_assign; exact rfl; with_reducible (conv => enter [6, 3]; whnf)) | apply wr_end | apply wc_seq)
    refine V.L.wc_drawL (l := _) (V.L.tri 9 10 w1.drew wA wB) (by kernel_rfl) (by kernel_rfl) rfl ?_
    apply V.L.ch_step
    focus
      apply V.L.one_read hkA hkB rfl rfl
      intro w' hk
      apply wr_move; exact rfl; with_reducible (conv => enter [6, 3]; whnf)
      apply wr_nil
      exact ⟨rfl, rfl⟩
    apply V.L.ch_step
    focus
      apply V.L.one_read hkA hkB rfl rfl
      intro w' hk
      refine wr_nilCheck rfl rfl ?_
      apply wr_nil
      exact ⟨rfl, rfl⟩
    apply V.L.ch_step
    focus
      apply V.L.one_read hkA hkB rfl rfl
      intro w' hk
      refine wr_fieldAddr rfl rfl ?_
      apply wr_nil
      exact ⟨rfl, rfl⟩
    apply V.L.ch_step
    focus
      apply V.L.one_read hkA hkB rfl rfl
      intro w' hk
      refine wr_load (v := .map (some mb)) rfl rfl rfl (hk.heap hs1 (fun h => h)) rfl ?_
      apply wr_nil
      exact ⟨rfl, rfl⟩
    apply V.L.ch_step
    focus
      apply V.L.one_read hkA hkB rfl rfl
      intro w' hk
      refine wr_loadAll (cs := [.int .i64 k.1, S k.2]) rfl rfl rfl (hk.heap hc1d (fun h => h)) rfl ?_
      apply wr_nil
      exact ⟨rfl, rfl⟩
    apply V.L.ch_step
    focus
      apply V.L.one_read hkA hkB rfl rfl
      intro w' hk
      refine wr_lookupOkV (l := mapL ptrN L) (a := k) (u := ptrN d) (c := true) rfl rfl (h1.keys.keep hk (fun h => h)) rfl (by rw [getL_map, hg]; rfl) (by rw [getL_map, hg]; rfl) ?_
      apply wr_nil
      exact ⟨rfl, rfl⟩
    apply V.L.ch_step
    focus
      apply V.L.one_read hkA hkB rfl rfl
      intro w' hk
      apply wr_move; exact rfl; with_reducible (conv => enter [6, 3]; whnf)
      apply wr_nil
      exact ⟨rfl, rfl⟩
    apply V.L.ch_step
    focus
      apply V.L.one_read hkA hkB rfl rfl
      intro w' hk
      apply wr_extract; (iterate 3 exact rfl); with_reducible (conv => enter [6, 3]; whnf)
      apply wr_nil
      exact ⟨rfl, rfl⟩
    apply V.L.ch_step
    focus
      apply V.L.one_read hkA hkB rfl rfl
      intro w' hk
      apply wr_extract; (iterate 3 exact rfl); with_reducible (conv => enter [6, 3]; whnf)
      apply wr_nil
      exact ⟨rfl, rfl⟩
    apply V.L.ch_step
    focus
      apply V.L.one_alloc (by kernel_rfl) rfl
      refine wr_alloc rfl ?_
      apply wr_nil
      exact ⟨rfl, hwA.symm⟩
    apply V.L.ch_step
    focus
      apply V.L.one_store (by kernel_rfl)
      refine wr_store (v := ptrN d) rfl (by rw [← hb7]) rfl rfl hcA rfl ?_
      apply wr_nil
      exact ⟨rfl, hwB.symm⟩
    apply V.L.ch_step
    focus
      apply V.L.one_read hkA hkB rfl rfl
      intro w' hk
      apply wr_assign; exact rfl; with_reducible (conv => enter [6, 3]; whnf)
      apply wr_nil
      exact ⟨rfl, rfl⟩
    refine V.L.ch_nil ?_
    intro w2 hS
    have hw2 := V.L.tri_end hS (by kernel_rfl)
    have hk2 : Keeps NoB w w2 := by rw [hw2]; exact hk1.drew.trans hkB
    rw [← hw2] at hcB hNB
    rw [← hb7]
    clear hS hw2
    match who, hsl, hlen, hat, hc with
    | [], hsl, hlen, hat, hc =>
      (repeat first | (apply wr_move; exact rfl; with_reducible (conv => enter [6, 3]; whnf)) | (apply wr_assign; exact rfl; with_reducible (conv => enter [6, 3]; whnf)) | apply wr_end | apply wc_seq | apply wc_region | (apply wr_not; iterate 2 exact rfl) | (apply wr_len_slice; iterate 2 exact rfl) | (apply wr_cmp; (iterate 3 exact rfl); exact cmp_eq _ _) | (apply wr_pick (t := false); (iterate 2 exact rfl); with_reducible (conv => enter [6, 3]; whnf)) | (apply wc_true; exact rfl) | (apply wc_ret; try simp only [thenE, inBlockE, bodyQ]))
      exact leave1 (v := .int .u64 0) rfl rfl ⟨rfl, hk2⟩
    | z :: r, hsl, hlen, hat, hc =>
      obtain ⟨vb, o, rfl, cur, e, fr, hvb, hrd⟩ := hat (by simp)
      have hvb2 := hk2.heap hvb (fun h => h)
      have hlen0 : 0 < (z :: r).length := by simp
      have hrd' : ∀ (i : Nat) (y : Int), (z :: r)[i]? = some y → cur[o + i * 1]? = some (.int .i64 y) := fun i y hy => by
        rw [Nat.mul_one, hrd i (by have := (List.getElem?_eq_some_iff.1 hy).1; omega), List.getElem?_map, hy]; rfl
      generalize hwr : z :: r = who at hsl hlen hat hc hrd hrd' hlen0
      have hz : who[0]? = some z := by rw [← hwr]; rfl
      (repeat first | (apply wr_move; exact rfl; with_reducible (conv => enter [6, 3]; whnf)) | apply wr_end | apply wc_seq | apply wc_region | apply wc_skip | (apply wr_not; iterate 2 exact rfl) | (apply wr_len_slice; iterate 2 exact rfl) | (apply wr_cmp; (iterate 3 exact rfl); exact cmpF (by dsimp only [cmpN]; first | done | omega)) | (apply wr_pick (t := false); (iterate 2 exact rfl); with_reducible (conv => enter [6, 3]; whnf)) | (apply wc_false; exact rfl))
      refine wr_makeFunc rfl rfl rfl ?_
      (repeat first | (apply wr_move; exact rfl; with_reducible (conv => enter [6, 3]; whnf)) | (apply wr_assign; exact rfl; with_reducible (conv => enter [6, 3]; whnf)) | apply wr_end | apply wc_seq | apply wc_region)
      refine wr_indexAddr (i := 0) rfl rfl rfl hlen0 ?_
      refine wr_load (v := .int .i64 z) rfl rfl rfl hvb2 (hrd' 0 z hz) ?_
      skip
      refine wr_callv (vs := [.int .i64 z]) rfl (callV_func (first := #[]) (cap := #[.pointer (some ⟨b7, 0, none⟩)]) (by kernel_rfl) (least1_ca hNB b7 hcB z)) rfl rfl ?_
      rintro v w3 ⟨rfl, rfl⟩
      (repeat first | (apply wr_move; exact rfl; with_reducible (conv => enter [6, 3]; whnf)) | (apply wr_assign; exact rfl; with_reducible (conv => enter [6, 3]; whnf)) | apply wr_end | apply wc_seq | apply wc_region | apply wc_block | (apply wr_len_slice; iterate 2 exact rfl))
      refine wc_loopL (α := Nat) (fun i => [(0, .pointer (some ⟨ab, 0, none⟩)), (9, .func (.func 27) #[] #[.pointer (some ⟨b7, 0, none⟩)]), (10, .int .u64 (((who.take i).foldl (fun m id => min m (d.p.T id)) (d.p.T z) : Nat) : Int)), (35, .slice (some ⟨vb, o, none⟩) who.length c), (36, .int .i64 (who.length : Int)), (37, .int .i64 (i : Int))])
        (fun i ds w' => ds = [] ∧ i ≤ who.length ∧ w' = w3) (fun i => who.length - i) 0 ⟨rfl, Nat.zero_le _, rfl⟩ ⟨rfl, rfl, rfl, rfl, rfl, rfl, trivial⟩ ?_
      rintro i ds f0 w4 ⟨rfl, hi, rfl⟩
      by_cases hlt : i < who.length
      rotate_left
      · have hie : i = who.length := by omega
        (repeat first | (apply wr_move; exact rfl; with_reducible (conv => enter [6, 3]; whnf)) | (apply wr_assign; exact rfl; with_reducible (conv => enter [6, 3]; whnf)) | apply wr_end | apply wc_seq | apply wc_region | (apply wr_cmp; (iterate 3 exact rfl); exact cmpF (by dsimp only [cmpN]; first | done | omega)) | (apply wc_false; exact rfl) | (apply wc_exit; try simp only [thenE, inBlockE, bodyQ, ↓reduceIte, Nat.reduceEqDiff]) | (apply wc_ret; try simp only [thenE, inBlockE, bodyQ]))
        refine leave1 (v := .int .u64 (((who.take i).foldl (fun m id => min m (d.p.T id)) (d.p.T z) : Nat) : Int)) rfl rfl ⟨?_, hk2⟩
        rw [hie, List.take_length, ← hwr]; rfl
      obtain ⟨y, hy⟩ : ∃ y, who[i]? = some y := ⟨who[i], by simp [hlt]⟩
      (repeat first | apply wr_end | apply wc_seq | apply wc_region | apply wc_skip | apply wc_block | (apply wr_cmp; (iterate 3 exact rfl); exact cmpT (by dsimp only [cmpP]; first | done | omega)) | (apply wc_true; exact rfl))
      refine wr_indexAddr (i := i) rfl rfl rfl hlt ?_
      refine wr_load (v := .int .i64 y) rfl rfl rfl hvb2 (hrd' i y hy) ?_
      (repeat first | (apply wr_move; exact rfl; with_reducible (conv => enter [6, 3]; whnf)) | (apply wr_assign; exact rfl; with_reducible (conv => enter [6, 3]; whnf)) | apply wr_end | apply wc_region)
      refine wr_callv (vs := [.int .i64 y]) rfl (callV_func (first := #[]) (cap := #[.pointer (some ⟨b7, 0, none⟩)]) (by kernel_rfl) (least1_ca hNB b7 hcB y)) rfl rfl ?_
      rintro v w5 ⟨rfl, rfl⟩
      refine wr_min (c := (((who.take (i + 1)).foldl (fun m id => min m (d.p.T id)) (d.p.T z) : Nat) : Int)) rfl rfl rfl ?_ ?_
      · rw [List.take_add_one, hy]
        simp only [Option.toList_some, List.foldl_append, List.foldl_cons, List.foldl_nil]
        split <;> omega
      (repeat first | (apply wr_move; exact rfl; with_reducible (conv => enter [6, 3]; whnf)) | (apply wr_assign; exact rfl; with_reducible (conv => enter [6, 3]; whnf)) | apply wr_end | apply wc_region | (apply wr_add; (iterate 3 exact rfl); exact w_fit (by dsimp only [kIn]; first | done | omega)) | (apply wr_nil; try simp only [thenE, inBlockE, bodyQ]))
      exact ⟨i + 1, by omega, ⟨by trivial, by omega, by trivial⟩, rfl, rfl, rfl, rfl, rfl, rfl, trivial⟩
end Go.Proofs.YtjaojihogmnjhaaGreatDoor
