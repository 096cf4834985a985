/- noriaref15: Note. -/
import Derived.Test.YtjaojihogmnjhaaGreatDoorJf
namespace Go.Proofs.YtjaojihogmnjhaaGreatDoor
open Go Go.V Go.RowKit
set_option linter.unusedVariables false
set_option linter.unusedSimpArgs false

/- The head: $1 after New. -/
/- A set of a few: $1 slice, $2 bytes, $3 world, $4 stem, $5 SlR, $6 bytes small, $7 how many. -/
/-- The bad ones of a note, and their slice, others. -/
theorem GN_bad (n : RN) (v : Value) (l : List BD) : (∀ j, j ≠ 36 → (GN { n with v := v, p := { n.p with bad := l } })[j]? = (GN n)[j]?) ∧ (GN { n with v := v, p := { n.p with bad := l } })[36]? = some v := by
  refine ⟨fun j hj => ?_, GN_v _⟩
  by_cases h1 : j < 2
  · have : j = 0 ∨ j = 1 := by omega
    rcases this with rfl | rfl <;> rfl
  · by_cases h2 : j < 35
    · obtain ⟨i, rfl⟩ : ∃ i, j = 2 + i := ⟨j - 2, by omega⟩
      rw [GN_T _ (by omega), GN_T _ (by omega)]
    · by_cases h3 : j < 36
      · have : j = 35 := by omega
        subst this
        rw [GN_told, GN_told]
      · rw [List.getElem?_eq_none (by rw [GN_len]; omega), List.getElem?_eq_none (by rw [GN_len]; omega)]
theorem RefA.putB {w : World} {base xb i rb ro rc : Nat} {L : List RN} {n : RN} {cur : Array Value} {v : Value} {l : List BD} (h : RefA w base xb L) (hxb : w.heap[xb]? = some (.cells #[.slice (some ⟨rb, ro, none⟩) L.length rc] RAT (0, 0))) (hg : w.heap[rb]? = some (.cells cur NTT (0, 0))) (hn : L[i]? = some n)
    (ho : OwnS w base RBT 3 v l.length (l.flatMap GB)) (hs : l.Pairwise fun a b => a.1 < b.1) (hf : l.length ≤ 8) (hfr : ∀ (j : Nat) m, j ≠ i → L[j]? = some m → ∀ q, v.ownBlock = some q → m.v.ownBlock ≠ some q) :
    RefA (w.putObj rb (.cells (cur.setIfInBounds (ro + i * 37 + 36) v) NTT (0, 0))) base xb (L.set i { n with v := v, p := { n.p with bad := l } }) ∧ Keeps (RD base w) w (w.putObj rb (.cells (cur.setIfInBounds (ro + i * 37 + 36) v) NTT (0, 0))) ∧ cur[ro + i * 37 + 36]? = some n.v := by
  obtain ⟨rv, hxb', hbx, hrow⟩ := h.row
  rw [hxb] at hxb'
  cases hxb'
  have hmem := List.mem_of_getElem? hn
  have hlt := (List.getElem?_eq_some_iff.1 hn).1
  have hbr : base ≤ rb := (hrow.lt rb rfl).1
  have hkp : Keeps (· = rb) w (w.putObj rb (.cells (cur.setIfInBounds (ro + i * 37 + 36) v) NTT (0, 0))) := (Keeps.refl _ w).put _ (fun _ => rfl)
  have hne : ∀ {u : Value} {m : Nat} {xs : List Value}, OwnS w base RBT 3 u m xs → ∀ q, u.ownBlock = some q → ¬ q = rb := fun ho q hq e => by
    subst e
    obtain ⟨_, _, c, hc⟩ := ho.lt q hq
    rw [hg] at hc
    cases hc
  have hG := GN_bad n v l
  have hput := ownS_put GN_len hrow rfl hg hn (r := 36) (by decide) hG.1 hG.2
  refine ⟨h.set hn rfl ⟨_, hkp.heap hxb (fun e => ?_), hput⟩ (ho.keep hkp (hne ho)) (fun j m hj hm => (h.bad m (List.mem_of_getElem? hm)).keep hkp (hne (h.bad m (List.mem_of_getElem? hm)))) hs hf hfr (h.tb n hmem), hkp.mono (fun q _ e => by have e : q = rb := e; subst e; exact ⟨hbr, _, _, _, hg, .inr (.inl rfl)⟩), ?_⟩
  · rw [← e, hxb] at hg
    cases hg
  · rcases hrow.2 with ⟨e0, _⟩ | ⟨g', o', cap, cur', e0, _, hg', _, _, _, ht⟩
    · cases e0
    · cases e0
      rw [hg] at hg'
      cases hg'
      have := ht (i * 37 + 36) (by omega)
      rw [Nat.add_assoc, this, flat_get GN_len L i n 36 hn (by decide), GN_v]
/- The old one behind: $1 what is built, $2 world, $3 own row of it, $4 block of the old ones there, $5 how many, $6 size. -/
/- The end: $1 the row's value, $2 the world, $3 the row is insB, $4 keeps. -/
theorem insB_len (l : List BD) (x : BD) : (insB l x).length = l.length + 1 := by
  unfold insB
  rw [List.length_append, List.length_cons]
  have hfl : ∀ t : List BD, (t.filter fun y => y.1 < x.1).length + (t.filter fun y => ¬ y.1 < x.1).length = t.length := fun t => by
    induction t with
    | nil => rfl
    | cons a t ih =>
      by_cases h : a.1 < x.1
      · have h' : ¬ x.1 ≤ a.1 := by omega
        simp [h, h'] at ih ⊢; omega
      · have h' : x.1 ≤ a.1 := by omega
        simp [h, h'] at ih ⊢; omega
  have := hfl l
  omega
theorem set_id {α : Type} {L : List α} {i : Nat} {x : α} (h : L[i]? = some x) : L = L.set i x := by
  apply List.ext_getElem?
  intro j
  by_cases hj : i = j
  · subst hj
    rw [List.getElem?_set_self (List.getElem?_eq_some_iff.1 h).1, h]
  · rw [List.getElem?_set_ne hj]
/-- What is built of the bad ones, and whether the new one stands among them. -/
def outF (l : List BD) (x : BD) (dn : Bool) : List BD := (l.filter fun y => y.1 < x.1) ++ (if dn = true then x :: (l.filter fun y => ¬ y.1 < x.1) else [])
theorem outF_lt {t : List BD} {x y : BD} (h : y.1 < x.1) : outF (t ++ [y]) x false = outF t x false ++ [y] := by
  unfold outF
  rw [List.filter_append]
  simp [h]
theorem outF_gt {t : List BD} {x y : BD} (h : ¬ y.1 < x.1) : outF (t ++ [y]) x true = outF t x true ++ [y] := by
  unfold outF
  rw [List.filter_append, List.filter_append]
  have h2 : x.1 ≤ y.1 := by omega
  simp [h2]
theorem outF_new {t : List BD} {x y : BD} (ht : ∀ z ∈ t, z.1 < x.1) (h : ¬ y.1 < x.1) : outF (t ++ [y]) x true = (outF t x false ++ [x]) ++ [y] := by
  unfold outF
  rw [List.filter_append, List.filter_append]
  have h2 : x.1 ≤ y.1 := by omega
  have h3 : t.filter (fun y => ¬ y.1 < x.1) = [] := by
    rw [List.filter_eq_nil_iff]
    intro z hz
    have := ht z hz
    simp; exact this
  rw [h3]
  simp [h2]
theorem insB_false {t : List BD} {x : BD} (ht : ∀ z ∈ t, z.1 < x.1) : insB t x = outF t x false ++ [x] := by
  unfold outF insB
  have h3 : t.filter (fun y => ¬ y.1 < x.1) = [] := by
    rw [List.filter_eq_nil_iff]
    intro z hz
    have := ht z hz
    simp; exact this
  rw [h3]
  simp
theorem insB_true {t : List BD} {x : BD} : insB t x = outF t x true := rfl
theorem outF_len (t : List BD) (x : BD) (dn : Bool) : (outF t x dn).length ≤ t.length + 1 := by
  have hfl : ∀ t : List BD, (t.filter fun y => y.1 < x.1).length + (t.filter fun y => ¬ y.1 < x.1).length = t.length := fun t => by
    induction t with
    | nil => rfl
    | cons a t ih =>
      by_cases h : a.1 < x.1
      · have h' : ¬ x.1 ≤ a.1 := by omega
        simp [h, h'] at ih ⊢; omega
      · have h' : x.1 ≤ a.1 := by omega
        simp [h, h'] at ih ⊢; omega
  have := hfl t
  unfold outF
  cases dn
  · simp at this ⊢; omega
  · simp at this ⊢; omega
set_option maxRecDepth 100000 in
set_option maxHeartbeats 16000000 in
theorem noteR_ca {w : World} {base xb : Nat} {L : List RN} (h : RefA w base xb L) (hbase : base ≤ w.heap.size) (id : Int) (s : SD) (hn : s.1.2.length ≤ 9223372036854775807) (hd : s.2.2.2.length ≤ 9223372036854775807) (hq : s.2.1 < 18446744073709551616) (hll : L.length < 100) :
    Ca Tryz.prog 14 #[.pointer (some ⟨xb, 0, none⟩), .int .i64 id, SdV s] w fun v w' => ((¬ (stOk s ∧ idOk id) ∧ v = .int .i64 1 ∧ RefA w' base xb L) ∨
      ((stOk s ∧ idOk id) ∧ v = .int .i64 0 ∧ ∃ L', RefA w' base xb L' ∧ (∀ x, getL (RL L') x = if x = s.1 then some (noteP ((getL (RL L) s.1).getD PN.new) id s) else getL (RL L) x) ∧ L'.length ≤ L.length + 1)) ∧ Keeps (RD base w) w w' := by
  obtain ⟨ra, rc, hxb, hbx, hrow⟩ := h.shape
  obtain ⟨⟨kt, kn⟩, q, o, d⟩ := s
  dsimp only at hn hd hq
  refine ca_of_body (args := [.pointer (some ⟨xb, 0, none⟩), .int .i64 id, SdV ((kt, kn), q, o, d)]) Tryz.func14 rfl (by kernel_rfl) ?_
  apply wc_seq
  apply wc_region
  refine wr_box (v := .agg (GS ((kt, kn), q, o, d)).toArray) rfl rfl ?_
  refine wr_name ?_
  intro w1 hww1
  obtain ⟨bw1, hbw1⟩ : ∃ b, b = (w).heap.size := ⟨_, rfl⟩
  have hkw1 : Keeps NoB w w1 := by rw [hww1]; exact (Keeps.refl NoB w).alloc _
  have hcw1 : (w1).heap[bw1]? = some (.cells ((GS ((kt, kn), q, o, d))).toArray 44 (0, 0)) := by rw [hww1, hbw1]; exact heap_alloc_same _ _
  rw [← hbw1]
  clear hww1
  (repeat first | (apply wr_assign; exact rfl; with_reducible (conv => enter [6, 3]; whnf)) | apply wr_end | apply wc_seq | apply wc_region)
  refine wr_loadAll (cs := GS ((kt, kn), q, o, d)) rfl rfl rfl hcw1 rfl ?_
  refine wr_call (vs := [SdV ((kt, kn), q, o, d)]) rfl (refPutStatus_ca ((kt, kn), q, o, d) w1 hn hd hq) rfl ?_
  rintro v w2 ⟨⟨z, rfl⟩, hk12⟩
  have hk02 := hkw1.trans hk12
  by_cases hok : stOk ((kt, kn), q, o, d) ∧ idOk id
  rotate_left
  · have hex : id < 1 ∨ (¬ id < 1 ∧ id > 32) ∨ (¬ id < 1 ∧ ¬ id > 32 ∧ ¬ stOk ((kt, kn), q, o, d)) := by
      unfold idOk at hok
      by_cases h1 : id < 1
      · exact .inl h1
      · by_cases h2 : id > 32
        · exact .inr (.inl ⟨h1, h2⟩)
        · exact .inr (.inr ⟨h1, h2, fun h3 => hok ⟨h3, by omega, by omega⟩⟩)
    obtain ⟨b, hb⟩ : ∃ b, b = decide (stOk ((kt, kn), q, o, d)) := ⟨_, rfl⟩
    rw [← hb]
    rcases hex with e1 | ⟨e1, e2⟩ | ⟨e1, e2, e3⟩
    · (repeat first | (apply wr_move; exact rfl; with_reducible (conv => enter [6, 3]; whnf)) | (apply wr_assign; exact rfl; with_reducible (conv => enter [6, 3]; whnf)) | apply wr_end | apply wc_seq | apply wc_region | (apply wr_cmp; (iterate 3 exact rfl); exact cmpT (by dsimp only [cmpP]; first | done | omega)) | (apply wr_pick (t := true); (iterate 2 exact rfl); with_reducible (conv => enter [6, 3]; whnf)) | (apply wr_extract; (iterate 3 exact rfl); with_reducible (conv => enter [6, 3]; whnf)) | (apply wc_true; exact rfl) | (apply wc_ret; try simp only [thenE, inBlockE, bodyQ]) | (apply wr_skip; exact rfl))
      exact leave1 (v := .int .i64 1) rfl rfl ⟨.inl ⟨hok, rfl, h.keepN hk02⟩, hk02.upD⟩
    · (repeat first | (apply wr_move; exact rfl; with_reducible (conv => enter [6, 3]; whnf)) | (apply wr_assign; exact rfl; with_reducible (conv => enter [6, 3]; whnf)) | apply wr_end | apply wc_seq | apply wc_region | (apply wr_cmp; (iterate 3 exact rfl); exact cmpT (by dsimp only [cmpP]; first | done | omega)) | (apply wr_cmp; (iterate 3 exact rfl); exact cmpF (by dsimp only [cmpN]; first | done | omega)) | (apply wr_pick (t := true); (iterate 2 exact rfl); with_reducible (conv => enter [6, 3]; whnf)) | (apply wr_pick (t := false); (iterate 2 exact rfl); with_reducible (conv => enter [6, 3]; whnf)) | (apply wr_extract; (iterate 3 exact rfl); with_reducible (conv => enter [6, 3]; whnf)) | (apply wc_true; exact rfl) | (apply wc_ret; try simp only [thenE, inBlockE, bodyQ]) | (apply wr_skip; exact rfl))
      exact leave1 (v := .int .i64 1) rfl rfl ⟨.inl ⟨hok, rfl, h.keepN hk02⟩, hk02.upD⟩
    · rw [decide_eq_false e3] at hb
      subst hb
      (repeat first | (apply wr_move; exact rfl; with_reducible (conv => enter [6, 3]; whnf)) | (apply wr_assign; exact rfl; with_reducible (conv => enter [6, 3]; whnf)) | apply wr_end | apply wc_seq | apply wc_region | (apply wr_not; iterate 2 exact rfl) | (apply wr_cmp; (iterate 3 exact rfl); exact cmpF (by dsimp only [cmpN]; first | done | omega)) | (apply wr_pick (t := false); (iterate 2 exact rfl); with_reducible (conv => enter [6, 3]; whnf)) | (apply wr_extract; (iterate 3 exact rfl); with_reducible (conv => enter [6, 3]; whnf)) | (apply wc_true; exact rfl) | (apply wc_ret; try simp only [thenE, inBlockE, bodyQ]))
      exact leave1 (v := .int .i64 1) rfl rfl ⟨.inl ⟨hok, rfl, h.keepN hk02⟩, hk02.upD⟩
  rw [decide_eq_true hok.1]
  have hst := hok.1
  have hid := hok.2
  unfold idOk at hid
  obtain ⟨m, rfl⟩ : ∃ m : Nat, id = (m : Int) := ⟨id.toNat, by omega⟩
  have hc2 := hk12.heap hcw1 (fun h => h)
  have h2 := h.keepN hk02
  (repeat first | (apply wr_move; exact rfl; with_reducible (conv => enter [6, 3]; whnf)) | (apply wr_assign; exact rfl; with_reducible (conv => enter [6, 3]; whnf)) | apply wr_end | apply wc_seq | apply wc_region | apply wc_skip | (apply wr_fieldAddr; iterate 2 exact rfl) | (apply wr_not; iterate 2 exact rfl) | (apply wr_cmp; (iterate 3 exact rfl); exact cmpF (by dsimp only [cmpN]; first | done | omega)) | (apply wr_pick (t := false); (iterate 2 exact rfl); with_reducible (conv => enter [6, 3]; whnf)) | (apply wr_extract; (iterate 3 exact rfl); with_reducible (conv => enter [6, 3]; whnf)) | (apply wc_false; exact rfl))
  refine wr_loadAgg (cs := [.int .i64 kt, S kn]) rfl rfl rfl rfl (fun j u h => by match j, h with | 0, h => cases h; exact cell_of_heap hc2 rfl | 1, h => cases h; exact cell_of_heap hc2 rfl | j + 2, h => simp at h) ?_
  refine wr_call (vs := [.pointer (some ⟨xb, 0, none⟩), encK (kt, kn)]) rfl (find_ca h2 (kt, kn)) rfl ?_
  rintro v w3 ⟨⟨i, b, rfl, hf⟩, hk23⟩
  have hk03 := hk02.trans hk23
  have h3 := h.keepN hk03
  have hc3 := hk23.heap hc2 (fun h => h)
  have hx3 := hk03.heap hxb (fun h => h)
  apply wr_move; exact rfl; with_reducible (conv => enter [6, 3]; whnf)
  apply wr_extract; (iterate 3 exact rfl); with_reducible (conv => enter [6, 3]; whnf)
  apply wr_extract; (iterate 3 exact rfl); with_reducible (conv => enter [6, 3]; whnf)
  apply wr_assign; exact rfl; with_reducible (conv => enter [6, 3]; whnf)
  apply wr_assign; exact rfl; with_reducible (conv => enter [6, 3]; whnf)
  apply wr_end
  apply wc_seq
  refine wc_cut (fun ds' f' w' => ds' = [] ∧ ∃ L1 n1, L1.length ≤ L.length + 1 ∧ RefA w' base xb L1 ∧ L1[i]? = some n1 ∧ n1.k = (kt, kn) ∧ n1.p = (getL (RL L) (kt, kn)).getD PN.new ∧ (∀ x, x ≠ (kt, kn) → getL (RL L1) x = getL (RL L) x) ∧ w'.heap[bw1]? = some (.cells (GS ((kt, kn), q, o, d)).toArray 44 (0, 0)) ∧ Keeps (RD base w) w w' ∧ Slots f' [(0, .pointer (some ⟨xb, 0, none⟩)), (1, .int .i64 (m : Int)), (5, .pointer (some ⟨bw1, 0, none⟩)), (9, .int .i64 (i : Int))]) ?_ ?_
  · cases b with
    | true =>
      obtain ⟨n, hn1, hnk⟩ := FI_yes hf
      (repeat first | (apply wr_move; exact rfl; with_reducible (conv => enter [6, 3]; whnf)) | apply wr_end | apply wc_seq | apply wc_region | apply wc_skip | (apply wr_not; iterate 2 exact rfl) | (apply wc_false; exact rfl))
      exact ⟨by trivial, L, n, by omega, h3, hn1, hnk, by rw [← hnk, getL_yes h.sort hn1]; rfl, fun x hx => rfl, hc3, hk03.upD, rfl, rfl, rfl, rfl, trivial⟩
    | false =>
      have hi := hf.1
      have hgn := getL_no h.sort hf
      have hr3 := hrow.keep hk03 (fun _ _ h => h)
      have hz3 := hk03.size
      (repeat first | (apply wr_move; exact rfl; with_reducible (conv => enter [6, 3]; whnf)) | (apply wr_assign; exact rfl; with_reducible (conv => enter [6, 3]; whnf)) | apply wr_end | apply wc_seq | apply wc_region | (apply wr_fieldAddr; iterate 2 exact rfl) | (apply wr_not; iterate 2 exact rfl) | (apply wr_nilCheck; iterate 2 exact rfl) | (apply wr_load; (iterate 3 exact rfl); (focus repeat first | with_reducible assumption | exact heap_alloc_same _ _ | exact World.putObj_heap_same (by first | omega | (simp only [World.size_alloc, World.putObj_size, ne_eq]; omega)) | ((first | refine hAl ?_ ?_ | refine hPu ?_ ?_); focus first | omega | (simp only [World.size_alloc, World.putObj_size, ne_eq]; omega))); exact rfl; conv => enter [6, 3]; whnf) | (apply wc_true; exact rfl))
      refine wr_sl_slice (i := 0) (j := i) rfl rfl (.inr ⟨_, rfl, ?_⟩) (.inl ⟨rfl, rfl⟩) ?_
      · rcases hr3.2 with ⟨e1, e2⟩ | ⟨g, o, cap, cur, e1, hb, hg, hn, hcm, hs, ht⟩
        · omega
        · cases e1; omega
      have hs1 := ownS_take0 hr3 (d := i) hi
      rw [flat_takeG GN_len L hi] at hs1
      refine wr_appendR (v := .slice none 0 0) (base := w3.heap.size) (n := 0) (m := i) (xs := []) (news := (L.take i).flatMap GN) rfl rfl ⟨rfl, .inl ⟨rfl, rfl⟩⟩ rfl hs1 (h.ones fun m hm => List.mem_of_mem_take hm) rfl (by decide) (by omega) (by omega) (Nat.le_refl _) ?_
      intro v4 w4 ho4 hk4 _
      have hk34 : Keeps NoB w3 w4 := (Keeps.refl NoB w3).trans' hk4 fun q hq e => by simp [Value.ownBlock] at e
      have hc4 := hk34.heap hc3 (fun h => h)
      have hz4 := hk34.size
      (repeat first | (apply wr_move; exact rfl; with_reducible (conv => enter [6, 3]; whnf)) | (apply wr_assign; exact rfl; with_reducible (conv => enter [6, 3]; whnf)) | apply wr_end | apply wc_seq | apply wc_region | (apply wr_fieldAddr; iterate 2 exact rfl))
      refine wr_loadAgg (cs := [.int .i64 kt, S kn]) rfl rfl rfl rfl (fun j u h => by match j, h with | 0, h => cases h; exact cell_of_heap hc4 rfl | 1, h => cases h; exact cell_of_heap hc4 rfl | j + 2, h => simp at h) ?_
      refine wr_build (ps := [(0, .agg #[.int .i64 kt, S kn])]) (cs := GN (newN (kt, kn))) rfl rfl rfl rfl ?_
      refine wr_buildSlice (vs := [.agg (GN (newN (kt, kn))).toArray]) rfl rfl (by intro v hv; simp at hv; subst hv; rfl) rfl (by decide) (by decide) (by decide) ?_
      refine wr_append (v := v4) (n := 0 + i) (m := 1) (news := GN (newN (kt, kn))) rfl rfl (ho4.alloc _) rfl (heap_alloc_same _ _) rfl (new_one _) rfl (by decide) (by omega) (by omega) (by simp; omega) ?_
      intro v5 w5 ho5 hk5 _
      have hk35 : Keeps NoB w3 w5 := (hk34.alloc _).trans' hk5 fun q hq e => by have := (ho4.lt q e).1; omega
      have hx5 := hk35.heap hx3 (fun h => h)
      have hr5 := hr3.keep hk35 (fun _ _ h => h)
      have hz5 := hk35.size
      (repeat first | (apply wr_move; exact rfl; with_reducible (conv => enter [6, 3]; whnf)) | (apply wr_assign; exact rfl; with_reducible (conv => enter [6, 3]; whnf)) | apply wr_end | apply wc_region | (apply wr_fieldAddr; iterate 2 exact rfl) | (apply wr_nilCheck; iterate 2 exact rfl) | (apply wr_load; (iterate 3 exact rfl); (focus repeat first | with_reducible assumption | exact heap_alloc_same _ _ | exact World.putObj_heap_same (by first | omega | (simp only [World.size_alloc, World.putObj_size, ne_eq]; omega)) | ((first | refine hAl ?_ ?_ | refine hPu ?_ ?_); focus first | omega | (simp only [World.size_alloc, World.putObj_size, ne_eq]; omega))); exact rfl; conv => enter [6, 3]; whnf))
      refine wr_sl_slice (i := i) (j := L.length) rfl rfl (.inl ⟨rfl, rfl⟩) (.inr ⟨_, rfl, by omega⟩) ?_
      have hs2 := (hr5.drop (d := i) (by omega)).slR
      rw [flat_dropG GN_len L (by omega)] at hs2
      refine wr_appendR (v := v5) (base := w3.heap.size) (n := 0 + i + 1) (m := L.length - i) (xs := ([] ++ (L.take i).flatMap GN) ++ GN (newN (kt, kn))) (news := (L.drop i).flatMap GN) rfl rfl ho5 rfl hs2 (h.ones fun m hm => List.mem_of_mem_drop hm) rfl (by decide) (by omega) (by omega) hz5 ?_
      intro v6 w6 ho6 hk6 _
      have hk36 : Keeps NoB w3 w6 := hk35.trans' hk6 fun q hq e => by have := (ho5.lt q e).1; omega
      have hx6 := hk36.heap hx3 (fun h => h)
      have hc6 := hk36.heap hc3 (fun h => h)
      have hlen' := insN_len (kt, kn) hi
      have ho6' : OwnS w6 base NTT 37 v6 (insN L i (kt, kn)).length ((insN L i (kt, kn)).flatMap GN) := by
        have h9 := (OwnS.of_own ho6).down (base' := base) (by omega)
        rw [hlen', show L.length + 1 = 0 + i + 1 + (L.length - i) by omega]
        unfold insN
        rw [List.flatMap_append, List.flatMap_cons]
        simpa [List.append_assoc] using h9
      (repeat first | (apply wr_fieldAddr; iterate 2 exact rfl) | (apply wr_nilCheck; iterate 2 exact rfl))
      have hv1 := ho6'.one
      refine wr_store (v := v6) rfl rfl rfl hv1 hx6 rfl ?_
      refine wr_name ?_
      intro w7 hw7
      have hk7 : Keeps (· = xb) w6 w7 := by rw [hw7]; exact (Keeps.refl _ w6).put _ (fun _ => rfl)
      have hx7 : w7.heap[xb]? = some (.cells #[v6] RAT (0, 0)) := by rw [hw7]; exact World.putObj_heap_same (lt_of_heap hx6)
      clear hw7
      have hkb : ∀ {T : TypeId} {v : Value} {kk n : Nat} {xs : List Value}, OwnS w6 base T kk v n xs → T ≠ RAT → ∀ q, v.ownBlock = some q → ¬ q = xb := fun ho hT q hq e => by
        subst e
        obtain ⟨_, _, c, hc⟩ := ho.lt q hq
        rw [hx6] at hc
        cases hc
        exact hT rfl
      have h7 : RefA w7 base xb (insN L i (kt, kn)) := ⟨⟨v6, hx7, hbx, ho6'.keep hk7 (hkb ho6' (by decide))⟩, fun m hm => by
          rcases (insN_mem m).1 hm with rfl | hm
          · exact OwnS.nil _ _ _ _
          · have ho := ((h3.bad m hm).keep hk36 (fun _ _ h => h))
            exact ho.keep hk7 (hkb ho (by decide)), insN_sort h.sort hf, fun m hm => by
          rcases (insN_mem m).1 hm with rfl | hm
          · exact List.Pairwise.nil
          · exact h.bs m hm, fun m hm => by
          rcases (insN_mem m).1 hm with rfl | hm
          · exact Nat.zero_le _
          · exact h.few m hm, insN_sep i (kt, kn) h.sep, by omega, fun m hm => by
          rcases (insN_mem m).1 hm with rfl | hm
          · exact fun _ => Nat.zero_le _
          · exact h.tb m hm⟩
      have hkE : Keeps (RD base w) w w7 := (hk03.trans hk36).upD.trans (hk7.mono fun q hq e => by have e : q = xb := e; subst e; exact ⟨hbx, _, _, _, hxb, .inl rfl⟩)
      have hc7 := hk7.heap hc6 (fun e => ty_ne hc6 hx6 (by decide) e)
      (repeat first | apply wr_end)
      exact ⟨by trivial, insN L i (kt, kn), newN (kt, kn), by omega, h7, insN_get _ hi, rfl, by rw [hgn]; rfl, fun x hx => insN_getL h.sort hf x hx, hc7, hkE, rfl, rfl, rfl, rfl, trivial⟩
  rintro ds' f' w4 ⟨rfl, L1, n1, hl1, h4, hn1, hnk, hnp, hoth, hc4, hk04, hs⟩
  rw [← setL_self f' _ hs.all]
  clear hs
  obtain ⟨nk, nv, T, told, l⟩ := n1
  dsimp only at hnk hnp
  subst hnk
  have hmem1 := List.mem_of_getElem? hn1
  have hlt1 := (List.getElem?_eq_some_iff.1 hn1).1
  have hob := h4.bad _ hmem1
  have hbs1 := h4.bs _ hmem1
  have hfew1 := h4.few _ hmem1
  have htb1 := h4.tb _ hmem1
  dsimp only at hob hbs1 hfew1 htb1
  obtain ⟨ra1, rc1, hx4, hbx4, hrow4⟩ := h4.shape
  obtain ⟨g, o', cap, cur, he, hgb, hgc, hcell0⟩ : ∃ g o cap cur, Value.slice ra1 L1.length rc1 = .slice (some ⟨g, o, none⟩) L1.length cap ∧ base ≤ g ∧ w4.heap[g]? = some (.cells cur NTT (0, 0)) ∧ ∀ r, r < 37 → cur[o + i * 37 + r]? = (GN ⟨(kt, kn), nv, ⟨T, told, l⟩⟩)[r]? := by
    rcases hrow4.2 with ⟨_, h9⟩ | ⟨g, o, cap, cur, h9, hb9, hg9, _, _, _, ht9⟩
    · omega
    · refine ⟨g, o, cap, cur, h9, hb9, hg9, fun r hr => ?_⟩
      have := ht9 (i * 37 + r) (by omega)
      rw [Nat.add_assoc, this]
      exact flat_get GN_len L1 i _ r hn1 hr
  cases he
  have hfin : ∀ {L2 : List RN} {n2 : RN} {w' : World}, L2 = L1.set i n2 → RefA w' base xb L2 → n2.k = (kt, kn) → n2.p = noteP ⟨T, told, l⟩ (m : Int) ((kt, kn), q, o, d) → ∃ L', RefA w' base xb L' ∧ (∀ x, getL (RL L') x = if x = (kt, kn) then some (noteP ((getL (RL L) (kt, kn)).getD PN.new) (m : Int) ((kt, kn), q, o, d)) else getL (RL L) x) ∧ L'.length ≤ L.length + 1 := fun {L2 n2 w'} e hL2 hk2 hp2 => by
    subst e
    refine ⟨_, hL2, fun x => ?_, by rw [List.length_set]; exact hl1⟩
    rw [getL_new h4.sort hL2.sort (n := n2) (set_mem h4.sort hn1 hk2) x, hk2]
    by_cases hx : x = (kt, kn)
    · rw [if_pos hx, if_pos hx, hp2, hnp]
    · rw [if_neg hx, if_neg hx, hoth x hx]
  (repeat first | (apply wr_move; exact rfl; with_reducible (conv => enter [6, 3]; whnf)) | apply wc_seq | apply wc_region | (apply wr_fieldAddr; iterate 2 exact rfl) | (apply wr_nilCheck; iterate 2 exact rfl) | (apply wr_load; (iterate 3 exact rfl); (focus repeat first | with_reducible assumption | exact heap_alloc_same _ _ | exact World.putObj_heap_same (by first | omega | (simp only [World.size_alloc, World.putObj_size, ne_eq]; omega)) | ((first | refine hAl ?_ ?_ | refine hPu ?_ ?_); focus first | omega | (simp only [World.size_alloc, World.putObj_size, ne_eq]; omega))); exact rfl; conv => enter [6, 3]; whnf))
  refine wr_indexAddr (i := i) rfl rfl rfl hlt1 ?_
  have hk0 : ∀ {w'}, Keeps NoB w4.drew w' → Keeps NoB w4 w' := fun hk => (Keeps.refl NoB w4).drew.trans hk
  cases o with
  | true =>
    have htk := TK_put ⟨(kt, kn), nv, ⟨T, told, l⟩⟩ m (by omega) (max (T (m : Int)) q)
    have hcT := hcell0 (2 + m) (by omega)
    rw [GN_T _ (by omega)] at hcT
    dsimp only at hcT
    have hTm := htb1 (m : Int)
    (repeat first | (apply wr_assign; exact rfl; with_reducible (conv => enter [6, 3]; whnf)) | apply wr_end | apply wc_seq | apply wc_region | (apply wr_fieldAddr; iterate 2 exact rfl) | (apply wr_load; (iterate 3 exact rfl); (focus repeat first | with_reducible assumption | exact heap_alloc_same _ _ | exact World.putObj_heap_same (by first | omega | (simp only [World.size_alloc, World.putObj_size, ne_eq]; omega)) | ((first | refine hAl ?_ ?_ | refine hPu ?_ ?_); focus first | omega | (simp only [World.size_alloc, World.putObj_size, ne_eq]; omega))); exact rfl; conv => enter [6, 3]; whnf) | (apply wc_true; exact rfl))
    refine wc_drawP (l := _) 14 _ (by kernel_rfl) (by kernel_rfl) rfl (by kernel_rfl) (by kernel_rfl) (by decide) ?_
    apply chP_pure
    focus
      intro xx w' hk hF
      apply wr_move; exact rfl; with_reducible (conv => enter [6, 3]; whnf)
      apply wr_nil
      exact ⟨rfl, Keeps.refl _ _⟩
    focus (intro xx yy h; rfl)
    focus kernel_rfl
    apply chP_pure
    focus
      intro xx w' hk hF
      apply wr_move; exact rfl; with_reducible (conv => enter [6, 3]; whnf)
      apply wr_nil
      exact ⟨rfl, Keeps.refl _ _⟩
    focus (intro xx yy h; rfl)
    focus kernel_rfl
    apply chP_pure
    focus
      intro xx w' hk hF
      apply wr_move; exact rfl; with_reducible (conv => enter [6, 3]; whnf)
      apply wr_nil
      exact ⟨rfl, Keeps.refl _ _⟩
    focus (intro xx yy h; rfl)
    focus kernel_rfl
    apply chP_pure
    focus
      intro xx w' hk hF
      apply wr_move; exact rfl; with_reducible (conv => enter [6, 3]; whnf)
      apply wr_nil
      exact ⟨rfl, Keeps.refl _ _⟩
    focus (intro xx yy h; rfl)
    focus kernel_rfl
    apply chP_pure
    focus
      intro xx w' hk hF
      refine wr_nilCheck rfl rfl ?_
      apply wr_nil
      exact ⟨rfl, Keeps.refl _ _⟩
    focus (intro xx yy h; rfl)
    focus kernel_rfl
    apply chP_pure
    focus
      intro xx w' hk hF
      refine wr_fieldAddr rfl rfl ?_
      apply wr_nil
      exact ⟨rfl, Keeps.refl _ _⟩
    focus (intro xx yy h; rfl)
    focus kernel_rfl
    apply chP_pure
    focus
      intro xx w' hk hF
      refine wr_indexArr (i := m) rfl rfl rfl (by omega) ?_
      apply wr_nil
      exact ⟨rfl, Keeps.refl _ _⟩
    focus (intro xx yy h; rfl)
    focus kernel_rfl
    apply chP_pure
    focus
      intro xx w' hk hF
      refine wr_load (v := .int .u64 ((T (m : Int) : Nat) : Int)) rfl rfl rfl ((hk0 hk).heap hgc (fun h => h)) (by rw [show o' + i * 37 + 2 + m * 1 = o' + i * 37 + (2 + m) by omega]; exact hcT) ?_
      apply wr_nil
      exact ⟨rfl, Keeps.refl _ _⟩
    focus (intro xx yy h; rfl)
    focus kernel_rfl
    apply chP_pure
    focus
      intro xx w' hk hF
      refine wr_fieldAddr rfl rfl ?_
      apply wr_nil
      exact ⟨rfl, Keeps.refl _ _⟩
    focus (intro xx yy h; rfl)
    focus kernel_rfl
    apply chP_pure
    focus
      intro xx w' hk hF
      refine wr_load (v := .int .u64 (q : Int)) rfl rfl rfl ((hk0 hk).heap hc4 (fun h => h)) rfl ?_
      apply wr_nil
      exact ⟨rfl, Keeps.refl _ _⟩
    focus (intro xx yy h; rfl)
    focus kernel_rfl
    apply chP_pure
    focus
      intro xx w' hk hF
      refine wr_max (c := ((max (T (m : Int)) q : Nat) : Int)) rfl rfl rfl (by split <;> omega) ?_
      apply wr_nil
      exact ⟨rfl, Keeps.refl _ _⟩
    focus (intro xx yy h; rfl)
    focus kernel_rfl
    apply chP_pure
    focus
      intro xx w' hk hF
      refine wr_nilCheck rfl rfl ?_
      apply wr_nil
      exact ⟨rfl, Keeps.refl _ _⟩
    focus (intro xx yy h; rfl)
    focus kernel_rfl
    apply chP_pure
    focus
      intro xx w' hk hF
      refine wr_fieldAddr rfl rfl ?_
      apply wr_nil
      exact ⟨rfl, Keeps.refl _ _⟩
    focus (intro xx yy h; rfl)
    focus kernel_rfl
    apply chP_pure
    focus
      intro xx w' hk hF
      refine wr_indexArr (i := m) rfl rfl rfl (by omega) ?_
      apply wr_nil
      exact ⟨rfl, Keeps.refl _ _⟩
    focus (intro xx yy h; rfl)
    focus kernel_rfl
    refine chP_nil ?_
    intro xx w5 hk5' hF
    have hk45 := hk0 hk5'
    clear hF
    have h5 := h4.keepN hk45
    have hx5 := hk45.heap hx4 (fun h => h)
    have hg5 := hk45.heap hgc (fun h => h)
    obtain ⟨h6, hk6, hcl⟩ := h5.put hx5 hg5 hn1 (n' := ⟨(kt, kn), nv, ⟨setT T (m : Int) (max (T (m : Int)) q), told, l⟩⟩) rfl rfl rfl (r := 2 + m) (by omega) htk.1 htk.2 (fun id => by
      show setT T (m : Int) (max (T (m : Int)) q) id ≤ _
      unfold setT
      split
      · omega
      · exact htb1 id)
    refine wr_store (v := .int .u64 ((max (T (m : Int)) q : Nat) : Int)) rfl rfl rfl rfl hg5 (by rw [show o' + i * 37 + 2 + m * 1 = o' + i * 37 + (2 + m) by omega]; exact hcT) ?_
    rw [show o' + i * 37 + 2 + m * 1 = o' + i * 37 + (2 + m) by omega]
    refine wr_name ?_
    intro w6 hw6
    rw [← hw6] at h6 hk6
    clear hw6
    (repeat first | (apply wr_assign; exact rfl; with_reducible (conv => enter [6, 3]; whnf)) | apply wr_end | apply wc_seq | apply wc_region | (apply wc_ret; try simp only [thenE, inBlockE, bodyQ]))
    refine leave1 (v := .int .i64 0) rfl rfl ⟨.inr ⟨hok, rfl, hfin rfl h6 rfl ?_⟩, keepsRD_trans (keepsRD_trans hk04 hk45.upD) hk6⟩
    unfold noteP
    rw [if_pos rfl]
  | false =>
    obtain ⟨ba, bc, rfl, _, hbat⟩ := hob.slR.shape
    have hc36 := hcell0 36 (by decide)
    rw [GN_v] at hc36
    dsimp only at hc36
    have hbase4 : base ≤ w4.heap.size := by have := hk04.size; omega
    obtain ⟨x, hx⟩ : ∃ x : BD, x = (q, d, false) := ⟨_, rfl⟩
    have hx1 : x.1 = q := by rw [hx]
    (repeat first | (apply wr_assign; exact rfl; with_reducible (conv => enter [6, 3]; whnf)) | apply wr_end | apply wc_seq | apply wc_region | apply wc_skip | apply wc_block | (apply wr_fieldAddr; iterate 2 exact rfl) | (apply wr_load; (iterate 3 exact rfl); (focus repeat first | with_reducible assumption | exact heap_alloc_same _ _ | exact World.putObj_heap_same (by first | omega | (simp only [World.size_alloc, World.putObj_size, ne_eq]; omega)) | ((first | refine hAl ?_ ?_ | refine hPu ?_ ?_); focus first | omega | (simp only [World.size_alloc, World.putObj_size, ne_eq]; omega))); exact rfl; conv => enter [6, 3]; whnf) | (apply wc_false; exact rfl))
    refine wc_loopL (α := Nat × Value × Bool) (fun p => [(5, .pointer (some ⟨bw1, 0, none⟩)), (12, .pointer (some ⟨g, o' + i * 37, none⟩)), (13, p.2.1), (14, .bool p.2.2), (15, .int .i64 (p.1 : Int))])
      (fun p ds w' => ds = [] ∧ p.1 ≤ l.length ∧ w'.ownsRow w4.heap.size RBT 3 p.2.1 (outF (l.take p.1) x p.2.2).length ((outF (l.take p.1) x p.2.2).flatMap GB) ∧ (p.2.2 = false → ∀ y ∈ l.take p.1, y.1 < q) ∧ (p.2.2 = true → ∃ y ∈ l.take p.1, q < y.1) ∧ (∀ y ∈ l.take p.1, y.1 ≠ q) ∧ Keeps NoB w4 w') (fun p => l.length - p.1) (0, .slice none 0 0, false)
      ⟨rfl, Nat.zero_le _, ⟨rfl, .inl ⟨rfl, rfl⟩⟩, fun _ y hy => (by cases hy), fun h => (by cases h), fun y hy => (by cases hy), Keeps.refl _ _⟩ ⟨rfl, rfl, rfl, rfl, rfl, trivial⟩ ?_
    rintro ⟨j, ov, dn⟩ ds f0 w5 ⟨rfl, hj, ho5, hlo, hhi, hne, hk45⟩
    dsimp only at hj ho5 hlo hhi hne ⊢
    have hg5 := hk45.heap hgc (fun h => h)
    have hc5 := hk45.heap hc4 (fun h => h)
    have hz5 := hk45.size
    have hol := outF_len (l.take j) x dn
    rw [List.length_take] at hol
    (repeat first | (apply wr_move; exact rfl; with_reducible (conv => enter [6, 3]; whnf)) | apply wc_seq | apply wc_region | (apply wr_fieldAddr; iterate 2 exact rfl) | (apply wr_nilCheck; iterate 2 exact rfl))
    refine wr_load (v := .slice ba l.length bc) rfl rfl rfl hg5 hc36 ?_
    by_cases hjl : j < l.length
    · obtain ⟨y, hy⟩ : ∃ y, l[j]? = some y := ⟨l[j], by simp [hjl]⟩
      obtain ⟨bb, bo, rfl, bcur, bte, bfr, hbb, hbr⟩ := hbat (by omega)
      have hbb5 := hk45.heap hbb (fun h => h)
      have hy0 : bcur[bo + j * 3 + 0]? = some (.int .u64 ((y.1 : Nat) : Int)) := cell_elem (g := GB) (k := 3) (n := l.length) (i := j) (j := 0) GB_len hbr hjl hy rfl
      have hkz : ∀ {w'}, Keeps NoB w5.drew w' → Keeps NoB w5 w' := fun hk => (Keeps.refl NoB w5).drew.trans hk
      have htk1 : l.take (j + 1) = l.take j ++ [y] := by rw [List.take_add_one, hy]; rfl
      by_cases heq : y.1 = q
      · skip
        (repeat first | apply wr_end | apply wc_seq | apply wc_skip | apply wc_block | (apply wr_len_slice; iterate 2 exact rfl) | (apply wr_cmp; (iterate 3 exact rfl); exact cmpT (by dsimp only [cmpP]; first | done | omega)) | (apply wc_true; exact rfl))
        refine wc_drawP (l := _) 11 _ (by kernel_rfl) (by kernel_rfl) rfl (by kernel_rfl) (by kernel_rfl) (by decide) ?_
        apply chP_pure
        focus
          intro xx w' hk hF
          apply wr_move; exact rfl; with_reducible (conv => enter [6, 3]; whnf)
          apply wr_nil
          exact ⟨rfl, Keeps.refl _ _⟩
        focus (intro xx yy h; rfl)
        focus kernel_rfl
        apply chP_pure
        focus
          intro xx w' hk hF
          refine wr_nilCheck rfl rfl ?_
          apply wr_nil
          exact ⟨rfl, Keeps.refl _ _⟩
        focus (intro xx yy h; rfl)
        focus kernel_rfl
        apply chP_pure
        focus
          intro xx w' hk hF
          refine wr_fieldAddr rfl rfl ?_
          apply wr_nil
          exact ⟨rfl, Keeps.refl _ _⟩
        focus (intro xx yy h; rfl)
        focus kernel_rfl
        apply chP_pure
        focus
          intro xx w' hk hF
          refine wr_load (v := .slice (some ⟨bb, bo, none⟩) l.length bc) rfl rfl rfl ((hkz hk).heap hg5 (fun h => h)) hc36 ?_
          apply wr_nil
          exact ⟨rfl, Keeps.refl _ _⟩
        focus (intro xx yy h; rfl)
        focus kernel_rfl
        apply chP_pure
        focus
          intro xx w' hk hF
          apply wr_move; exact rfl; with_reducible (conv => enter [6, 3]; whnf)
          apply wr_nil
          exact ⟨rfl, Keeps.refl _ _⟩
        focus (intro xx yy h; rfl)
        focus kernel_rfl
        apply chP_pure
        focus
          intro xx w' hk hF
          refine wr_indexAddr (i := j) rfl rfl rfl hjl ?_
          apply wr_nil
          exact ⟨rfl, Keeps.refl _ _⟩
        focus (intro xx yy h; rfl)
        focus kernel_rfl
        apply chP_pure
        focus
          intro xx w' hk hF
          refine wr_fieldAddr rfl rfl ?_
          apply wr_nil
          exact ⟨rfl, Keeps.refl _ _⟩
        focus (intro xx yy h; rfl)
        focus kernel_rfl
        apply chP_pure
        focus
          intro xx w' hk hF
          refine wr_load (v := .int .u64 ((y.1 : Nat) : Int)) rfl rfl rfl ((hkz hk).heap hbb5 (fun h => h)) hy0 ?_
          apply wr_nil
          exact ⟨rfl, Keeps.refl _ _⟩
        focus (intro xx yy h; rfl)
        focus kernel_rfl
        apply chP_pure
        focus
          intro xx w' hk hF
          refine wr_fieldAddr rfl rfl ?_
          apply wr_nil
          exact ⟨rfl, Keeps.refl _ _⟩
        focus (intro xx yy h; rfl)
        focus kernel_rfl
        apply chP_pure
        focus
          intro xx w' hk hF
          refine wr_load (v := .int .u64 (q : Int)) rfl rfl rfl ((hkz hk).heap hc5 (fun h => h)) rfl ?_
          apply wr_nil
          exact ⟨rfl, Keeps.refl _ _⟩
        focus (intro xx yy h; rfl)
        focus kernel_rfl
        apply chP_pure
        focus
          intro xx w' hk hF
          refine wr_cmp rfl rfl rfl (cmpT (by dsimp only [cmpP]; omega)) ?_
          apply wr_nil
          exact ⟨rfl, Keeps.refl _ _⟩
        focus (intro xx yy h; rfl)
        focus kernel_rfl
        refine chP_nil ?_
        intro xx w6 hk6' hF
        have hk56 := hkz hk6'
        clear hF
        have hg6 := hk56.heap hg5 (fun h => h)
        have hc6 := hk56.heap hc5 (fun h => h)
        have hbb6 := hk56.heap hbb5 (fun h => h)
        have hk46 := hk45.trans hk56
        have hz6 := hk46.size
        (repeat first | (apply wr_assign; exact rfl; with_reducible (conv => enter [6, 3]; whnf)) | apply wr_end | apply wc_seq | apply wc_region | (apply wc_true; exact rfl) | (apply wc_ret; try simp only [thenE, inBlockE, bodyQ]))
        refine leave1 (v := .int .i64 0) rfl rfl ⟨.inr ⟨hok, rfl, hfin (set_id hn1) (h4.keepN hk46) rfl ?_⟩, keepsRD_trans hk04 hk46.upD⟩
        unfold noteP refuseP
        rw [if_neg (by intro h; cases h)]
        dsimp only
        rw [if_pos (hasB_iff.2 ⟨y, List.mem_of_getElem? hy, heq⟩)]
      · skip
        (repeat first | apply wr_end | apply wc_seq | apply wc_skip | apply wc_block | (apply wr_len_slice; iterate 2 exact rfl) | (apply wr_cmp; (iterate 3 exact rfl); exact cmpT (by dsimp only [cmpP]; first | done | omega)) | (apply wc_true; exact rfl))
        refine wc_drawP (l := _) 11 _ (by kernel_rfl) (by kernel_rfl) rfl (by kernel_rfl) (by kernel_rfl) (by decide) ?_
        apply chP_pure
        focus
          intro xx w' hk hF
          apply wr_move; exact rfl; with_reducible (conv => enter [6, 3]; whnf)
          apply wr_nil
          exact ⟨rfl, Keeps.refl _ _⟩
        focus (intro xx yy h; rfl)
        focus kernel_rfl
        apply chP_pure
        focus
          intro xx w' hk hF
          refine wr_nilCheck rfl rfl ?_
          apply wr_nil
          exact ⟨rfl, Keeps.refl _ _⟩
        focus (intro xx yy h; rfl)
        focus kernel_rfl
        apply chP_pure
        focus
          intro xx w' hk hF
          refine wr_fieldAddr rfl rfl ?_
          apply wr_nil
          exact ⟨rfl, Keeps.refl _ _⟩
        focus (intro xx yy h; rfl)
        focus kernel_rfl
        apply chP_pure
        focus
          intro xx w' hk hF
          refine wr_load (v := .slice (some ⟨bb, bo, none⟩) l.length bc) rfl rfl rfl ((hkz hk).heap hg5 (fun h => h)) hc36 ?_
          apply wr_nil
          exact ⟨rfl, Keeps.refl _ _⟩
        focus (intro xx yy h; rfl)
        focus kernel_rfl
        apply chP_pure
        focus
          intro xx w' hk hF
          apply wr_move; exact rfl; with_reducible (conv => enter [6, 3]; whnf)
          apply wr_nil
          exact ⟨rfl, Keeps.refl _ _⟩
        focus (intro xx yy h; rfl)
        focus kernel_rfl
        apply chP_pure
        focus
          intro xx w' hk hF
          refine wr_indexAddr (i := j) rfl rfl rfl hjl ?_
          apply wr_nil
          exact ⟨rfl, Keeps.refl _ _⟩
        focus (intro xx yy h; rfl)
        focus kernel_rfl
        apply chP_pure
        focus
          intro xx w' hk hF
          refine wr_fieldAddr rfl rfl ?_
          apply wr_nil
          exact ⟨rfl, Keeps.refl _ _⟩
        focus (intro xx yy h; rfl)
        focus kernel_rfl
        apply chP_pure
        focus
          intro xx w' hk hF
          refine wr_load (v := .int .u64 ((y.1 : Nat) : Int)) rfl rfl rfl ((hkz hk).heap hbb5 (fun h => h)) hy0 ?_
          apply wr_nil
          exact ⟨rfl, Keeps.refl _ _⟩
        focus (intro xx yy h; rfl)
        focus kernel_rfl
        apply chP_pure
        focus
          intro xx w' hk hF
          refine wr_fieldAddr rfl rfl ?_
          apply wr_nil
          exact ⟨rfl, Keeps.refl _ _⟩
        focus (intro xx yy h; rfl)
        focus kernel_rfl
        apply chP_pure
        focus
          intro xx w' hk hF
          refine wr_load (v := .int .u64 (q : Int)) rfl rfl rfl ((hkz hk).heap hc5 (fun h => h)) rfl ?_
          apply wr_nil
          exact ⟨rfl, Keeps.refl _ _⟩
        focus (intro xx yy h; rfl)
        focus kernel_rfl
        apply chP_pure
        focus
          intro xx w' hk hF
          refine wr_cmp rfl rfl rfl (cmpF (by dsimp only [cmpN]; omega)) ?_
          apply wr_nil
          exact ⟨rfl, Keeps.refl _ _⟩
        focus (intro xx yy h; rfl)
        focus kernel_rfl
        refine chP_nil ?_
        intro xx w6 hk6' hF
        have hk56 := hkz hk6'
        clear hF
        have hg6 := hk56.heap hg5 (fun h => h)
        have hc6 := hk56.heap hc5 (fun h => h)
        have hbb6 := hk56.heap hbb5 (fun h => h)
        have hk46 := hk45.trans hk56
        have hz6 := hk46.size
        have hne' : ∀ z ∈ l.take (j + 1), z.1 ≠ q := fun z hz => by
          rw [htk1, List.mem_append, List.mem_singleton] at hz
          rcases hz with hz | rfl
          · exact hne z hz
          · exact heq
        by_cases hyq : y.1 < q
        · have hdn : dn = false := by
            cases dn with
            | false => rfl
            | true =>
              obtain ⟨z, hz, hzq⟩ := hhi rfl
              obtain ⟨jz, hjz⟩ := List.getElem?_of_mem hz
              have hjl2 := (List.getElem?_eq_some_iff.1 hjz).1
              rw [List.length_take] at hjl2
              rw [List.getElem?_take_of_lt (by omega)] at hjz
              have hp := List.pairwise_iff_getElem.1 hbs1 jz j (by omega) hjl (by omega)
              rw [(List.getElem?_eq_some_iff.1 hjz).2, (List.getElem?_eq_some_iff.1 hy).2] at hp
              omega
          subst hdn
          have hky : ∀ {w'}, Keeps NoB w6.drew w' → Keeps NoB w6 w' := fun hk => (Keeps.refl NoB w6).drew.trans hk
          (repeat first | apply wr_end | apply wc_seq | apply wc_skip | (apply wc_false; exact rfl))
          refine wc_drawP (l := _) 15 _ (by kernel_rfl) (by kernel_rfl) rfl (by kernel_rfl) (by kernel_rfl) (by decide) ?_
          apply chP_pure
          focus
            intro xx w' hk hF
            apply wr_move; exact rfl; with_reducible (conv => enter [6, 3]; whnf)
            apply wr_nil
            exact ⟨rfl, Keeps.refl _ _⟩
          focus (intro xx yy h; rfl)
          focus kernel_rfl
          apply chP_pure
          focus
            intro xx w' hk hF
            apply wr_not; iterate 2 exact rfl
            apply wr_nil
            exact ⟨rfl, Keeps.refl _ _⟩
          focus (intro xx yy h; rfl)
          focus kernel_rfl
          apply chP_pure
          focus
            intro xx w' hk hF
            apply wr_move; exact rfl; with_reducible (conv => enter [6, 3]; whnf)
            apply wr_nil
            exact ⟨rfl, Keeps.refl _ _⟩
          focus (intro xx yy h; rfl)
          focus kernel_rfl
          apply chP_pure
          focus
            intro xx w' hk hF
            apply wr_move; exact rfl; with_reducible (conv => enter [6, 3]; whnf)
            apply wr_nil
            exact ⟨rfl, Keeps.refl _ _⟩
          focus (intro xx yy h; rfl)
          focus kernel_rfl
          apply chP_pure
          focus
            intro xx w' hk hF
            refine wr_nilCheck rfl rfl ?_
            apply wr_nil
            exact ⟨rfl, Keeps.refl _ _⟩
          focus (intro xx yy h; rfl)
          focus kernel_rfl
          apply chP_pure
          focus
            intro xx w' hk hF
            refine wr_fieldAddr rfl rfl ?_
            apply wr_nil
            exact ⟨rfl, Keeps.refl _ _⟩
          focus (intro xx yy h; rfl)
          focus kernel_rfl
          apply chP_pure
          focus
            intro xx w' hk hF
            refine wr_load (v := .slice (some ⟨bb, bo, none⟩) l.length bc) rfl rfl rfl ((hky hk).heap hg6 (fun h => h)) hc36 ?_
            apply wr_nil
            exact ⟨rfl, Keeps.refl _ _⟩
          focus (intro xx yy h; rfl)
          focus kernel_rfl
          apply chP_pure
          focus
            intro xx w' hk hF
            apply wr_move; exact rfl; with_reducible (conv => enter [6, 3]; whnf)
            apply wr_nil
            exact ⟨rfl, Keeps.refl _ _⟩
          focus (intro xx yy h; rfl)
          focus kernel_rfl
          apply chP_pure
          focus
            intro xx w' hk hF
            refine wr_indexAddr (i := j) rfl rfl rfl hjl ?_
            apply wr_nil
            exact ⟨rfl, Keeps.refl _ _⟩
          focus (intro xx yy h; rfl)
          focus kernel_rfl
          apply chP_pure
          focus
            intro xx w' hk hF
            refine wr_fieldAddr rfl rfl ?_
            apply wr_nil
            exact ⟨rfl, Keeps.refl _ _⟩
          focus (intro xx yy h; rfl)
          focus kernel_rfl
          apply chP_pure
          focus
            intro xx w' hk hF
            refine wr_load (v := .int .u64 ((y.1 : Nat) : Int)) rfl rfl rfl ((hky hk).heap hbb6 (fun h => h)) hy0 ?_
            apply wr_nil
            exact ⟨rfl, Keeps.refl _ _⟩
          focus (intro xx yy h; rfl)
          focus kernel_rfl
          apply chP_pure
          focus
            intro xx w' hk hF
            refine wr_fieldAddr rfl rfl ?_
            apply wr_nil
            exact ⟨rfl, Keeps.refl _ _⟩
          focus (intro xx yy h; rfl)
          focus kernel_rfl
          apply chP_pure
          focus
            intro xx w' hk hF
            refine wr_load (v := .int .u64 (q : Int)) rfl rfl rfl ((hky hk).heap hc6 (fun h => h)) rfl ?_
            apply wr_nil
            exact ⟨rfl, Keeps.refl _ _⟩
          focus (intro xx yy h; rfl)
          focus kernel_rfl
          apply chP_pure
          focus
            intro xx w' hk hF
            refine wr_cmp rfl rfl rfl (cmpF (by dsimp only [cmpN]; omega)) ?_
            apply wr_nil
            exact ⟨rfl, Keeps.refl _ _⟩
          focus (intro xx yy h; rfl)
          focus kernel_rfl
          apply chP_pure
          focus
            intro xx w' hk hF
            apply wr_pick (t := true); (iterate 2 exact rfl); with_reducible (conv => enter [6, 3]; whnf)
            apply wr_nil
            exact ⟨rfl, Keeps.refl _ _⟩
          focus (intro xx yy h; rfl)
          focus kernel_rfl
          refine chP_nil ?_
          intro xx2 w7 hk7' hF
          have hk67 := hky hk7'
          clear hF
          have hg7 := hk67.heap hg6 (fun h => h)
          have hc7 := hk67.heap hc6 (fun h => h)
          have hbb7 := hk67.heap hbb6 (fun h => h)
          have hk47 := hk46.trans hk67
          have hz7 := hk47.size
          have ho7 := (own_keep ho5 (hk56.trans hk67) (fun _ _ h => h))
          (repeat first | (apply wr_move; exact rfl; with_reducible (conv => enter [6, 3]; whnf)) | apply wr_end | apply wc_region | apply wc_skip | (apply wr_fieldAddr; iterate 2 exact rfl) | (apply wr_nilCheck; iterate 2 exact rfl) | (apply wc_false; exact rfl))
          refine wr_load (v := .slice (some ⟨bb, bo, none⟩) l.length bc) rfl rfl rfl hg7 hc36 ?_
          (repeat first | (apply wr_move; exact rfl; with_reducible (conv => enter [6, 3]; whnf)))
          refine wr_indexAddr (i := j) rfl rfl rfl hjl ?_
          refine wr_loadElem (G := GB) (n := l.length) (i := j) (l := l) rfl rfl GB_len rfl hbb7 hbr hjl hy rfl ?_
          refine wr_buildSlice (vs := [.agg (GB y).toArray]) rfl rfl (by intro v hv; simp at hv; subst hv; rfl) rfl (by decide) (by decide) (by decide) ?_
          refine wr_append (v := ov) (n := (outF (l.take j) x false).length) (m := 1) (news := GB y) rfl rfl ((ho7).alloc _) rfl (heap_alloc_same _ _) rfl (GB_one _) rfl (by decide) (by omega) (by omega) (by simp; omega) ?_
          intro v9 w9 ho9 hk9 _
          have hk49 : Keeps NoB w4 w9 := ((hk47).alloc _).trans' hk9 fun q hq e => by have := ((ho7).lt q e).1; omega
          have e := outF_lt (t := l.take j) (x := x) (y := y) (by rw [hx1]; exact hyq)
          (repeat first | (apply wr_move; exact rfl; with_reducible (conv => enter [6, 3]; whnf)) | (apply wr_assign; exact rfl; with_reducible (conv => enter [6, 3]; whnf)) | apply wr_end | apply wc_region | (apply wr_add; (iterate 3 exact rfl); exact w_fit (by dsimp only [kIn]; first | done | omega)) | (apply wr_nil; try simp only [thenE, inBlockE, bodyQ]))
          refine ⟨(j + 1, v9, false), by dsimp only; omega, ⟨by trivial, hjl, ?_, fun _ z hz => ?_, fun h => (by cases h), hne', hk49⟩, rfl, rfl, rfl, rfl, rfl, trivial⟩
          · dsimp only
            rw [htk1, e, List.length_append, List.flatMap_append]
            simpa using ho9
          · dsimp only at hz
            rw [htk1, List.mem_append, List.mem_singleton] at hz
            rcases hz with hz | rfl
            · exact hlo rfl z hz
            · exact hyq
        · have hyq2 : ¬ y.1 < x.1 := by rw [hx1]; exact hyq
          have hhi' : ∃ z ∈ l.take (j + 1), q < z.1 := ⟨y, by rw [htk1]; simp, by omega⟩
          cases dn with
          | false =>
            have hky : ∀ {w'}, Keeps NoB w6.drew w' → Keeps NoB w6 w' := fun hk => (Keeps.refl NoB w6).drew.trans hk
            (repeat first | apply wr_end | apply wc_seq | apply wc_skip | (apply wc_false; exact rfl))
            refine wc_drawP (l := _) 15 _ (by kernel_rfl) (by kernel_rfl) rfl (by kernel_rfl) (by kernel_rfl) (by decide) ?_
            apply chP_pure
            focus
              intro xx w' hk hF
              apply wr_move; exact rfl; with_reducible (conv => enter [6, 3]; whnf)
              apply wr_nil
              exact ⟨rfl, Keeps.refl _ _⟩
            focus (intro xx yy h; rfl)
            focus kernel_rfl
            apply chP_pure
            focus
              intro xx w' hk hF
              apply wr_not; iterate 2 exact rfl
              apply wr_nil
              exact ⟨rfl, Keeps.refl _ _⟩
            focus (intro xx yy h; rfl)
            focus kernel_rfl
            apply chP_pure
            focus
              intro xx w' hk hF
              apply wr_move; exact rfl; with_reducible (conv => enter [6, 3]; whnf)
              apply wr_nil
              exact ⟨rfl, Keeps.refl _ _⟩
            focus (intro xx yy h; rfl)
            focus kernel_rfl
            apply chP_pure
            focus
              intro xx w' hk hF
              apply wr_move; exact rfl; with_reducible (conv => enter [6, 3]; whnf)
              apply wr_nil
              exact ⟨rfl, Keeps.refl _ _⟩
            focus (intro xx yy h; rfl)
            focus kernel_rfl
            apply chP_pure
            focus
              intro xx w' hk hF
              refine wr_nilCheck rfl rfl ?_
              apply wr_nil
              exact ⟨rfl, Keeps.refl _ _⟩
            focus (intro xx yy h; rfl)
            focus kernel_rfl
            apply chP_pure
            focus
              intro xx w' hk hF
              refine wr_fieldAddr rfl rfl ?_
              apply wr_nil
              exact ⟨rfl, Keeps.refl _ _⟩
            focus (intro xx yy h; rfl)
            focus kernel_rfl
            apply chP_pure
            focus
              intro xx w' hk hF
              refine wr_load (v := .slice (some ⟨bb, bo, none⟩) l.length bc) rfl rfl rfl ((hky hk).heap hg6 (fun h => h)) hc36 ?_
              apply wr_nil
              exact ⟨rfl, Keeps.refl _ _⟩
            focus (intro xx yy h; rfl)
            focus kernel_rfl
            apply chP_pure
            focus
              intro xx w' hk hF
              apply wr_move; exact rfl; with_reducible (conv => enter [6, 3]; whnf)
              apply wr_nil
              exact ⟨rfl, Keeps.refl _ _⟩
            focus (intro xx yy h; rfl)
            focus kernel_rfl
            apply chP_pure
            focus
              intro xx w' hk hF
              refine wr_indexAddr (i := j) rfl rfl rfl hjl ?_
              apply wr_nil
              exact ⟨rfl, Keeps.refl _ _⟩
            focus (intro xx yy h; rfl)
            focus kernel_rfl
            apply chP_pure
            focus
              intro xx w' hk hF
              refine wr_fieldAddr rfl rfl ?_
              apply wr_nil
              exact ⟨rfl, Keeps.refl _ _⟩
            focus (intro xx yy h; rfl)
            focus kernel_rfl
            apply chP_pure
            focus
              intro xx w' hk hF
              refine wr_load (v := .int .u64 ((y.1 : Nat) : Int)) rfl rfl rfl ((hky hk).heap hbb6 (fun h => h)) hy0 ?_
              apply wr_nil
              exact ⟨rfl, Keeps.refl _ _⟩
            focus (intro xx yy h; rfl)
            focus kernel_rfl
            apply chP_pure
            focus
              intro xx w' hk hF
              refine wr_fieldAddr rfl rfl ?_
              apply wr_nil
              exact ⟨rfl, Keeps.refl _ _⟩
            focus (intro xx yy h; rfl)
            focus kernel_rfl
            apply chP_pure
            focus
              intro xx w' hk hF
              refine wr_load (v := .int .u64 (q : Int)) rfl rfl rfl ((hky hk).heap hc6 (fun h => h)) rfl ?_
              apply wr_nil
              exact ⟨rfl, Keeps.refl _ _⟩
            focus (intro xx yy h; rfl)
            focus kernel_rfl
            apply chP_pure
            focus
              intro xx w' hk hF
              refine wr_cmp rfl rfl rfl (cmpT (by dsimp only [cmpP]; omega)) ?_
              apply wr_nil
              exact ⟨rfl, Keeps.refl _ _⟩
            focus (intro xx yy h; rfl)
            focus kernel_rfl
            apply chP_pure
            focus
              intro xx w' hk hF
              apply wr_pick (t := true); (iterate 2 exact rfl); with_reducible (conv => enter [6, 3]; whnf)
              apply wr_nil
              exact ⟨rfl, Keeps.refl _ _⟩
            focus (intro xx yy h; rfl)
            focus kernel_rfl
            refine chP_nil ?_
            intro xx2 w7 hk7' hF
            have hk67 := hky hk7'
            clear hF
            have hg7 := hk67.heap hg6 (fun h => h)
            have hc7 := hk67.heap hc6 (fun h => h)
            have hbb7 := hk67.heap hbb6 (fun h => h)
            have hk47 := hk46.trans hk67
            have hz7 := hk47.size
            have ho7 := (own_keep ho5 (hk56.trans hk67) (fun _ _ h => h))
            (repeat first | (apply wr_move; exact rfl; with_reducible (conv => enter [6, 3]; whnf)) | apply wr_end | apply wc_seq | apply wc_region | (apply wr_fieldAddr; iterate 2 exact rfl) | (apply wr_load; (iterate 3 exact rfl); (focus repeat first | with_reducible assumption | exact heap_alloc_same _ _ | exact World.putObj_heap_same (by first | omega | (simp only [World.size_alloc, World.putObj_size, ne_eq]; omega)) | ((first | refine hAl ?_ ?_ | refine hPu ?_ ?_); focus first | omega | (simp only [World.size_alloc, World.putObj_size, ne_eq]; omega))); exact rfl; conv => enter [6, 3]; whnf) | (apply wc_true; exact rfl))
            refine wr_build (ps := [(0, .int .u64 (q : Int)), (1, S d)]) (cs := GB (q, d, false)) rfl rfl rfl rfl ?_
            refine wr_buildSlice (vs := [.agg (GB (q, d, false)).toArray]) rfl rfl (by intro v hv; simp at hv; subst hv; rfl) rfl (by decide) (by decide) (by decide) ?_
            refine wr_append (v := ov) (n := (outF (l.take j) x false).length) (m := 1) (news := GB (q, d, false)) rfl rfl ((ho7).alloc _) rfl (heap_alloc_same _ _) rfl (GB_one _) rfl (by decide) (by omega) (by omega) (by simp; omega) ?_
            intro v8 w8 ho8 hk8 _
            have hk48 : Keeps NoB w4 w8 := ((hk47).alloc _).trans' hk8 fun q hq e => by have := ((ho7).lt q e).1; omega
            have hz8 := hk48.size
            have hbb8 := hk48.heap hbb (fun h => h)
            have hg8 := hk48.heap hgc (fun h => h)
            (repeat first | (apply wr_move; exact rfl; with_reducible (conv => enter [6, 3]; whnf)) | (apply wr_assign; exact rfl; with_reducible (conv => enter [6, 3]; whnf)) | apply wr_end | apply wc_region | (apply wr_fieldAddr; iterate 2 exact rfl) | (apply wr_nilCheck; iterate 2 exact rfl))
            refine wr_load (v := .slice (some ⟨bb, bo, none⟩) l.length bc) rfl rfl rfl hg8 hc36 ?_
            (repeat first | (apply wr_move; exact rfl; with_reducible (conv => enter [6, 3]; whnf)))
            refine wr_indexAddr (i := j) rfl rfl rfl hjl ?_
            refine wr_loadElem (G := GB) (n := l.length) (i := j) (l := l) rfl rfl GB_len rfl hbb8 hbr hjl hy rfl ?_
            refine wr_buildSlice (vs := [.agg (GB y).toArray]) rfl rfl (by intro v hv; simp at hv; subst hv; rfl) rfl (by decide) (by decide) (by decide) ?_
            refine wr_append (v := v8) (n := (outF (l.take j) x false).length + 1) (m := 1) (news := GB y) rfl rfl ((ho8).alloc _) rfl (heap_alloc_same _ _) rfl (GB_one _) rfl (by decide) (by omega) (by omega) (by simp; omega) ?_
            intro v9 w9 ho9 hk9 _
            have hk49 : Keeps NoB w4 w9 := ((hk48).alloc _).trans' hk9 fun q hq e => by have := ((ho8).lt q e).1; omega
            have e := outF_new (t := l.take j) (x := x) (y := y) (by rw [hx1]; exact hlo rfl) hyq2
            (repeat first | (apply wr_move; exact rfl; with_reducible (conv => enter [6, 3]; whnf)) | (apply wr_assign; exact rfl; with_reducible (conv => enter [6, 3]; whnf)) | apply wr_end | apply wc_region | (apply wr_add; (iterate 3 exact rfl); exact w_fit (by dsimp only [kIn]; first | done | omega)) | (apply wr_nil; try simp only [thenE, inBlockE, bodyQ]))
            refine ⟨(j + 1, v9, true), by dsimp only; omega, ⟨by trivial, hjl, ?_, fun h => (by cases h), fun _ => hhi', hne', hk49⟩, rfl, rfl, rfl, rfl, rfl, trivial⟩
            dsimp only
            rw [htk1, e, List.length_append, List.length_append, List.flatMap_append, List.flatMap_append]
            rw [← hx] at ho9
            simpa using ho9
          | true =>
            have hky : ∀ {w'}, Keeps NoB w6.drew w' → Keeps NoB w6 w' := fun hk => (Keeps.refl NoB w6).drew.trans hk
            (repeat first | apply wr_end | apply wc_seq | apply wc_skip | (apply wc_false; exact rfl))
            refine wc_drawP (l := _) 15 _ (by kernel_rfl) (by kernel_rfl) rfl (by kernel_rfl) (by kernel_rfl) (by decide) ?_
            apply chP_pure
            focus
              intro xx w' hk hF
              apply wr_move; exact rfl; with_reducible (conv => enter [6, 3]; whnf)
              apply wr_nil
              exact ⟨rfl, Keeps.refl _ _⟩
            focus (intro xx yy h; rfl)
            focus kernel_rfl
            apply chP_pure
            focus
              intro xx w' hk hF
              apply wr_not; iterate 2 exact rfl
              apply wr_nil
              exact ⟨rfl, Keeps.refl _ _⟩
            focus (intro xx yy h; rfl)
            focus kernel_rfl
            apply chP_pure
            focus
              intro xx w' hk hF
              apply wr_move; exact rfl; with_reducible (conv => enter [6, 3]; whnf)
              apply wr_nil
              exact ⟨rfl, Keeps.refl _ _⟩
            focus (intro xx yy h; rfl)
            focus kernel_rfl
            apply chP_pure
            focus
              intro xx w' hk hF
              refine wr_skip rfl ?_
              apply wr_nil
              exact ⟨rfl, Keeps.refl _ _⟩
            focus (intro xx yy h; rfl)
            focus kernel_rfl
            apply chP_pure
            focus
              intro xx w' hk hF
              refine wr_skip rfl ?_
              apply wr_nil
              exact ⟨rfl, Keeps.refl _ _⟩
            focus (intro xx yy h; rfl)
            focus kernel_rfl
            apply chP_pure
            focus
              intro xx w' hk hF
              refine wr_skip rfl ?_
              apply wr_nil
              exact ⟨rfl, Keeps.refl _ _⟩
            focus (intro xx yy h; rfl)
            focus kernel_rfl
            apply chP_pure
            focus
              intro xx w' hk hF
              refine wr_skip rfl ?_
              apply wr_nil
              exact ⟨rfl, Keeps.refl _ _⟩
            focus (intro xx yy h; rfl)
            focus kernel_rfl
            apply chP_pure
            focus
              intro xx w' hk hF
              refine wr_skip rfl ?_
              apply wr_nil
              exact ⟨rfl, Keeps.refl _ _⟩
            focus (intro xx yy h; rfl)
            focus kernel_rfl
            apply chP_pure
            focus
              intro xx w' hk hF
              refine wr_skip rfl ?_
              apply wr_nil
              exact ⟨rfl, Keeps.refl _ _⟩
            focus (intro xx yy h; rfl)
            focus kernel_rfl
            apply chP_pure
            focus
              intro xx w' hk hF
              refine wr_skip rfl ?_
              apply wr_nil
              exact ⟨rfl, Keeps.refl _ _⟩
            focus (intro xx yy h; rfl)
            focus kernel_rfl
            apply chP_pure
            focus
              intro xx w' hk hF
              refine wr_skip rfl ?_
              apply wr_nil
              exact ⟨rfl, Keeps.refl _ _⟩
            focus (intro xx yy h; rfl)
            focus kernel_rfl
            apply chP_pure
            focus
              intro xx w' hk hF
              refine wr_skip rfl ?_
              apply wr_nil
              exact ⟨rfl, Keeps.refl _ _⟩
            focus (intro xx yy h; rfl)
            focus kernel_rfl
            apply chP_pure
            focus
              intro xx w' hk hF
              refine wr_skip rfl ?_
              apply wr_nil
              exact ⟨rfl, Keeps.refl _ _⟩
            focus (intro xx yy h; rfl)
            focus kernel_rfl
            apply chP_pure
            focus
              intro xx w' hk hF
              refine wr_skip rfl ?_
              apply wr_nil
              exact ⟨rfl, Keeps.refl _ _⟩
            focus (intro xx yy h; rfl)
            focus kernel_rfl
            apply chP_pure
            focus
              intro xx w' hk hF
              apply wr_pick (t := false); (iterate 2 exact rfl); with_reducible (conv => enter [6, 3]; whnf)
              apply wr_nil
              exact ⟨rfl, Keeps.refl _ _⟩
            focus (intro xx yy h; rfl)
            focus kernel_rfl
            refine chP_nil ?_
            intro xx2 w7 hk7' hF
            have hk67 := hky hk7'
            clear hF
            have hg7 := hk67.heap hg6 (fun h => h)
            have hbb7 := hk67.heap hbb6 (fun h => h)
            have hk47 := hk46.trans hk67
            have hz7 := hk47.size
            have ho7 := (own_keep ho5 (hk56.trans hk67) (fun _ _ h => h))
            (repeat first | (apply wr_move; exact rfl; with_reducible (conv => enter [6, 3]; whnf)) | apply wr_end | apply wc_region | apply wc_skip | (apply wr_fieldAddr; iterate 2 exact rfl) | (apply wr_nilCheck; iterate 2 exact rfl) | (apply wc_false; exact rfl))
            refine wr_load (v := .slice (some ⟨bb, bo, none⟩) l.length bc) rfl rfl rfl hg7 hc36 ?_
            (repeat first | (apply wr_move; exact rfl; with_reducible (conv => enter [6, 3]; whnf)))
            refine wr_indexAddr (i := j) rfl rfl rfl hjl ?_
            refine wr_loadElem (G := GB) (n := l.length) (i := j) (l := l) rfl rfl GB_len rfl hbb7 hbr hjl hy rfl ?_
            refine wr_buildSlice (vs := [.agg (GB y).toArray]) rfl rfl (by intro v hv; simp at hv; subst hv; rfl) rfl (by decide) (by decide) (by decide) ?_
            refine wr_append (v := ov) (n := (outF (l.take j) x true).length) (m := 1) (news := GB y) rfl rfl ((ho7).alloc _) rfl (heap_alloc_same _ _) rfl (GB_one _) rfl (by decide) (by omega) (by omega) (by simp; omega) ?_
            intro v9 w9 ho9 hk9 _
            have hk49 : Keeps NoB w4 w9 := ((hk47).alloc _).trans' hk9 fun q hq e => by have := ((ho7).lt q e).1; omega
            have e := outF_gt (t := l.take j) (x := x) (y := y) hyq2
            (repeat first | (apply wr_move; exact rfl; with_reducible (conv => enter [6, 3]; whnf)) | (apply wr_assign; exact rfl; with_reducible (conv => enter [6, 3]; whnf)) | apply wr_end | apply wc_region | (apply wr_add; (iterate 3 exact rfl); exact w_fit (by dsimp only [kIn]; first | done | omega)) | (apply wr_nil; try simp only [thenE, inBlockE, bodyQ]))
            refine ⟨(j + 1, v9, true), by dsimp only; omega, ⟨by trivial, hjl, ?_, fun h => (by cases h), fun _ => hhi', hne', hk49⟩, rfl, rfl, rfl, rfl, rfl, trivial⟩
            dsimp only
            rw [htk1, e, List.length_append, List.flatMap_append]
            simpa using ho9
    have hje : j = l.length := by omega
    subst hje
    cases dn with
    | false =>
      rw [List.take_length] at hlo ho5 hol
      (repeat first | (apply wr_move; exact rfl; with_reducible (conv => enter [6, 3]; whnf)) | apply wr_end | apply wc_seq | apply wc_region | (apply wr_fieldAddr; iterate 2 exact rfl) | (apply wr_not; iterate 2 exact rfl) | (apply wr_len_slice; iterate 2 exact rfl) | (apply wr_load; (iterate 3 exact rfl); (focus repeat first | with_reducible assumption | exact heap_alloc_same _ _ | exact World.putObj_heap_same (by first | omega | (simp only [World.size_alloc, World.putObj_size, ne_eq]; omega)) | ((first | refine hAl ?_ ?_ | refine hPu ?_ ?_); focus first | omega | (simp only [World.size_alloc, World.putObj_size, ne_eq]; omega))); exact rfl; conv => enter [6, 3]; whnf) | (apply wr_cmp; (iterate 3 exact rfl); exact cmpF (by dsimp only [cmpN]; first | done | omega)) | (apply wc_true; exact rfl) | (apply wc_false; exact rfl) | (apply wc_exit; try simp only [thenE, inBlockE, bodyQ, ↓reduceIte, Nat.reduceEqDiff]))
      refine wr_build (ps := [(0, .int .u64 (q : Int)), (1, S d)]) (cs := GB (q, d, false)) rfl rfl rfl rfl ?_
      refine wr_buildSlice (vs := [.agg (GB (q, d, false)).toArray]) rfl rfl (by intro v hv; simp at hv; subst hv; rfl) rfl (by decide) (by decide) (by decide) ?_
      refine wr_append (v := ov) (n := (outF l x false).length) (m := 1) (news := GB (q, d, false)) rfl rfl ((ho5).alloc _) rfl (heap_alloc_same _ _) rfl (GB_one _) rfl (by decide) (by omega) (by omega) (by simp; omega) ?_
      intro v8 w8 ho8 hk8 _
      have hk48 : Keeps NoB w4 w8 := ((hk45).alloc _).trans' hk8 fun q hq e => by have := ((ho5).lt q e).1; omega
      have hz8 := hk48.size
      have hiF := insB_false (t := l) (x := x) (by rw [hx1]; exact hlo rfl)
      have hoZ : w8.ownsRow w4.heap.size RBT 3 v8 (l.length + 1) ((insB l x).flatMap GB) := by
        rw [← insB_len l x, hiF, List.length_append, List.flatMap_append, hx]
        rw [hx] at ho8
        simpa using ho8
      obtain ⟨za, zc, rfl, _⟩ := own_row hoZ
      have hgE := (hk48).heap hgc (fun h => h)
      have hxE := (hk48).heap hx4 (fun h => h)
      have hzE := (hk48).size
      have hnh : ¬ hasB l x.1 = true := fun hh => by
        obtain ⟨y, hy, e⟩ := hasB_iff.1 hh
        rw [List.take_length] at hne
        exact hne y hy (e.trans hx1)
      have hiL : (insB l x).length = l.length + 1 := insB_len l x
      (repeat first | (apply wr_move; exact rfl; with_reducible (conv => enter [6, 3]; whnf)) | (apply wr_assign; exact rfl; with_reducible (conv => enter [6, 3]; whnf)) | apply wr_end | apply wc_seq | apply wc_region | (apply wr_len_slice; iterate 2 exact rfl) | (apply wr_sub; (iterate 3 exact rfl); exact w_fit (by dsimp only [kIn]; first | done | omega)))
      refine wr_max (c := ((l.length + 1 - 8 : Nat) : Int)) rfl rfl rfl (by split <;> omega) ?_
      refine wr_sl_slice (i := l.length + 1 - 8) (j := l.length + 1) rfl rfl (.inl ⟨rfl, rfl⟩) (.inr ⟨_, rfl, by omega⟩) ?_
      have hdr := (OwnS.of_own hoZ).drop (d := l.length + 1 - 8) (by omega)
      rw [flat_dropG GB_len _ (by omega)] at hdr
      obtain ⟨vE, hvE⟩ : ∃ v, v = Value.slice (if zc = l.length + 1 - 8 then za else za.map (·.add ((l.length + 1 - 8) * 3))) (l.length + 1 - (l.length + 1 - 8)) (zc - (l.length + 1 - 8)) := ⟨_, rfl⟩
      rw [← hvE] at hdr ⊢
      (repeat first | (apply wr_fieldAddr; iterate 2 exact rfl) | (apply wr_nilCheck; iterate 2 exact rfl))
      have hdl : ((insB l x).drop (l.length + 1 - 8)).length = l.length + 1 - (l.length + 1 - 8) := by rw [List.length_drop, hiL]
      rw [← hdl] at hdr
      have hoE := hdr.down hbase4
      obtain ⟨hE, hkE, _⟩ := (h4.keepN hk48).putB hxE hgE hn1 hoE ((insB_sort hbs1 hnh).sublist (List.drop_sublist _ _)) (by rw [hdl]; omega) (fun j' m' hj' hm' q' hq' e' => by
        have h1 := (hdr.lt q' hq').1
        have h2 := ((h4.bad m' (List.mem_of_getElem? hm')).lt q' e').2.1
        omega)
      refine wr_store (v := vE) rfl rfl rfl hdr.one hgE hc36 ?_
      refine wr_name ?_
      intro wE hwE
      rw [← hwE] at hE hkE
      clear hwE
      (repeat first | (apply wr_assign; exact rfl; with_reducible (conv => enter [6, 3]; whnf)) | apply wr_end | apply wc_seq | apply wc_region | (apply wc_ret; try simp only [thenE, inBlockE, bodyQ]))
      refine leave1 (v := .int .i64 0) rfl rfl ⟨.inr ⟨hok, rfl, hfin rfl hE rfl ?_⟩, keepsRD_trans (keepsRD_trans hk04 (hk48).upD) hkE⟩
      unfold noteP refuseP
      rw [if_neg (by intro h; cases h)]
      dsimp only
      rw [hx1] at hnh
      rw [if_neg hnh, hx]
    | true =>
      rw [List.take_length] at ho5 hol
      have hoZ : w5.ownsRow w4.heap.size RBT 3 ov (l.length + 1) ((insB l x).flatMap GB) := by
        rw [← insB_len l x, insB_true]
        exact ho5
      (repeat first | (apply wr_move; exact rfl; with_reducible (conv => enter [6, 3]; whnf)) | apply wr_end | apply wc_seq | apply wc_region | apply wc_skip | (apply wr_not; iterate 2 exact rfl) | (apply wr_len_slice; iterate 2 exact rfl) | (apply wr_cmp; (iterate 3 exact rfl); exact cmpF (by dsimp only [cmpN]; first | done | omega)) | (apply wc_false; exact rfl) | (apply wc_exit; try simp only [thenE, inBlockE, bodyQ, ↓reduceIte, Nat.reduceEqDiff]))
      obtain ⟨za, zc, rfl, _⟩ := own_row hoZ
      have hgE := (hk45).heap hgc (fun h => h)
      have hxE := (hk45).heap hx4 (fun h => h)
      have hzE := (hk45).size
      have hnh : ¬ hasB l x.1 = true := fun hh => by
        obtain ⟨y, hy, e⟩ := hasB_iff.1 hh
        rw [List.take_length] at hne
        exact hne y hy (e.trans hx1)
      have hiL : (insB l x).length = l.length + 1 := insB_len l x
      (repeat first | (apply wr_len_slice; iterate 2 exact rfl) | (apply wr_sub; (iterate 3 exact rfl); exact w_fit (by dsimp only [kIn]; first | done | omega)))
      refine wr_max (c := ((l.length + 1 - 8 : Nat) : Int)) rfl rfl rfl (by split <;> omega) ?_
      refine wr_sl_slice (i := l.length + 1 - 8) (j := l.length + 1) rfl rfl (.inl ⟨rfl, rfl⟩) (.inr ⟨_, rfl, by omega⟩) ?_
      have hdr := (OwnS.of_own hoZ).drop (d := l.length + 1 - 8) (by omega)
      rw [flat_dropG GB_len _ (by omega)] at hdr
      obtain ⟨vE, hvE⟩ : ∃ v, v = Value.slice (if zc = l.length + 1 - 8 then za else za.map (·.add ((l.length + 1 - 8) * 3))) (l.length + 1 - (l.length + 1 - 8)) (zc - (l.length + 1 - 8)) := ⟨_, rfl⟩
      rw [← hvE] at hdr ⊢
      (repeat first | (apply wr_fieldAddr; iterate 2 exact rfl) | (apply wr_nilCheck; iterate 2 exact rfl))
      have hdl : ((insB l x).drop (l.length + 1 - 8)).length = l.length + 1 - (l.length + 1 - 8) := by rw [List.length_drop, hiL]
      rw [← hdl] at hdr
      have hoE := hdr.down hbase4
      obtain ⟨hE, hkE, _⟩ := (h4.keepN hk45).putB hxE hgE hn1 hoE ((insB_sort hbs1 hnh).sublist (List.drop_sublist _ _)) (by rw [hdl]; omega) (fun j' m' hj' hm' q' hq' e' => by
        have h1 := (hdr.lt q' hq').1
        have h2 := ((h4.bad m' (List.mem_of_getElem? hm')).lt q' e').2.1
        omega)
      refine wr_store (v := vE) rfl rfl rfl hdr.one hgE hc36 ?_
      refine wr_name ?_
      intro wE hwE
      rw [← hwE] at hE hkE
      clear hwE
      (repeat first | (apply wr_assign; exact rfl; with_reducible (conv => enter [6, 3]; whnf)) | apply wr_end | apply wc_seq | apply wc_region | (apply wc_ret; try simp only [thenE, inBlockE, bodyQ]))
      refine leave1 (v := .int .i64 0) rfl rfl ⟨.inr ⟨hok, rfl, hfin rfl hE rfl ?_⟩, keepsRD_trans (keepsRD_trans hk04 (hk45).upD) hkE⟩
      unfold noteP refuseP
      rw [if_neg (by intro h; cases h)]
      dsimp only
      rw [hx1] at hnh
      rw [if_neg hnh, hx]
end Go.Proofs.YtjaojihogmnjhaaGreatDoor
