/- AcksCover: the walk. -/
import Derived.Test.YthdjhjeodjgbiaaDoorKr
namespace Go.Proofs.YthdjhjeodjgbiaaDoor
open Go Go.V Go.RowKit
set_option linter.unusedVariables false
set_option linter.unusedSimpArgs false

abbrev StI := Nat × List (KY × ND) × (Nat → Nat) × (Nat → Option TT) × Nat
structure CovI (w0 : World) (ab mb b2 b10 b11 : Nat) (al : List Int) (av : Value) (p : StI) (w' : World) : Prop where
  i20 : p.1 ≤ 40
  at' : AcksAt w' w0.heap.size ab mb p.2.1
  inv : CInv (getL (PL p.2.1) kB) p.2.2.1 p.2.2.2.1 p.2.2.2.2
  ck : w'.heap[b2]? = some (.cells #[.int .i64 kB.1, S kB.2] 27 (0, 0))
  ct : w'.heap[b10]? = some (.cells (tkC p.2.2.1) 30 (0, 0))
  mp : ∃ M : List (Int × Value), MapAt w' (encI .u64) b11 M ∧ ∀ q : Nat, (getM M (q : Int)).getD (S []) = S ((p.2.2.2.1 q).getD []) ∧ (getM M (q : Int)).isSome = (p.2.2.2.1 q).isSome
  mnot : ¬ aD mb p.2.1 b11
  all : w'.ownsRow w0.heap.size 3 1 av al.length (al.map (Value.int .i64))
  ab' : Above w0.heap.size mb p.2.1
  kp : Keeps NoB w0 w'
set_option maxRecDepth 100000 in
set_option maxHeartbeats 16000000 in
theorem cover_law (dl : List DD) (who : Nat) (v0 : Value) (w : World) (hv : SlR w 8 v0 dl.length (dl.flatMap GDd)) (hd : ∀ x ∈ dl, ddOk w x) (hw8 : who < 256) :
    Ca Tryd.prog 3 #[v0, .int .u8 (who : Int)] w fun v w' => v = .bool true ∧ Keeps NoB w w' := by
  obtain ⟨va, vc, rfl, hvl, hvm⟩ := hv.shape
  refine ca_of_body (args := [.slice va dl.length vc, .int .u8 (who : Int)]) Tryd.func3 rfl (by kernel_rfl) ?_
  (repeat first | (apply wr_assign; exact rfl; with_reducible (conv => enter [6, 3]; whnf)) | apply wr_end | apply wc_seq | apply wc_region)
  refine wr_call (vs := []) rfl (examples_ca w) rfl ?_
  rintro v w0 ⟨rfl, hk0⟩
  (repeat first | (apply wr_move; exact rfl; with_reducible (conv => enter [6, 3]; whnf)) | (apply wr_assign; exact rfl; with_reducible (conv => enter [6, 3]; whnf)) | apply wr_end | apply wc_seq | apply wc_region | apply wc_skip | (apply wr_not; iterate 2 exact rfl) | (apply wc_false; exact rfl))
  refine wr_call (vs := []) rfl (new_ca w0) rfl ?_
  rintro v w1 ⟨ab, mb, rfl, h1, hk1, hmb, hab⟩
  have hA1 : Above w0.heap.size mb [] := Above.nil hmb
  have hz1 := hk1.size
  (repeat first | (apply wr_move; exact rfl; with_reducible (conv => enter [6, 3]; whnf)) | (apply wr_assign; exact rfl; with_reducible (conv => enter [6, 3]; whnf)) | apply wr_end | apply wc_seq | apply wc_region)
  refine wr_ptrNil rfl rfl ?_
  (repeat first | apply wr_end | apply wc_seq | apply wc_region | apply wc_skip | (apply wc_false; exact rfl))
  refine wr_build (ps := [(0, .int .i64 kB.1), (1, S kB.2)]) (cs := [.int .i64 kB.1, S kB.2]) rfl rfl rfl rfl ?_
  (repeat first | (apply wr_alloc; exact rfl))
  refine wr_storeAll (cs := [.int .i64 kB.1, S kB.2]) rfl rfl rfl (by intro u hu; simp at hu; rcases hu with rfl | rfl <;> rfl) (heap_alloc_same _ _) rfl rfl ?_
  refine wr_name ?_
  intro w2 hww2
  obtain ⟨bw2, hbw2⟩ : ∃ b, b = (w1).heap.size := ⟨_, rfl⟩
  have hkw2 : Keeps NoB w1 w2 := by rw [hww2]; exact ((Keeps.refl NoB w1).alloc _).put _ (fun h => by omega)
  have hcw2 : (w2).heap[bw2]? = some (.cells #[.int .i64 kB.1, S kB.2] 27 (0, 0)) := by rw [hww2, hbw2]; exact World.putObj_heap_same (by simp)
  rw [← hbw2]
  clear hww2
  have hz2 := hkw2.size
  have hb2z : w0.heap.size ≤ bw2 := by omega
  (repeat first | (apply wr_assign; exact rfl; with_reducible (conv => enter [6, 3]; whnf)) | apply wr_end | apply wc_seq | apply wc_region | apply wc_block)
  refine wc_loopL (α := Nat × List Int × Value) (fun p => [(0, .slice va dl.length vc), (1, .int .u8 (who : Int)), (5, .bool true), (6, .pointer (some ⟨ab, 0, none⟩)), (7, .pointer (some ⟨bw2, 0, none⟩)), (8, p.2.2), (9, .int .i64 (p.1 : Int))])
    (fun p ds w' => ds = [] ∧ 1 ≤ p.1 ∧ p.1 ≤ 5 ∧ (∀ z ∈ p.2.1, 1 ≤ z ∧ z ≤ 4) ∧ p.2.1.length ≤ 4 ∧ p.2.1.length < p.1 ∧ w'.ownsRow w2.heap.size 3 1 p.2.2 p.2.1.length (p.2.1.map (Value.int .i64)) ∧ Keeps NoB w2 w') (fun p => 5 - p.1) (1, [], .slice none 0 0)
    ⟨rfl, by decide, by decide, (fun z hz => by cases hz), by decide, by decide, ⟨rfl, .inl ⟨rfl, rfl⟩⟩, Keeps.refl _ _⟩ ⟨rfl, rfl, rfl, rfl, rfl, rfl, rfl, trivial⟩ ?_
  rintro ⟨i, al, av⟩ ds f0 w3 ⟨rfl, hi1, hi5, hab4, hal4, hali, hal3, hk3⟩
  dsimp only at hi1 hi5 hab4 hal4 hali hal3 ⊢
  by_cases hi4 : i ≤ 4
  · by_cases hbit : who / 2 ^ i % 2 = 1
    · (repeat first | (apply wr_move; exact rfl; with_reducible (conv => enter [6, 3]; whnf)) | apply wr_end | apply wc_seq | apply wc_region | apply wc_skip | apply wc_block | (apply wr_cmp; (iterate 3 exact rfl); exact cmpT (by dsimp only [cmpP]; first | done | omega)) | (apply wc_true; exact rfl))
      refine wr_shrN (n := who) i rfl rfl rfl (by show i ≤ 8; omega) ?_
      refine wr_remN (n := who / 2 ^ i) (m := 2) rfl rfl rfl (by decide) ?_
      rw [hbit]
      (repeat first | (apply wr_move; exact rfl; with_reducible (conv => enter [6, 3]; whnf)) | apply wr_end | apply wc_region | (apply wr_cmp; (iterate 3 exact rfl); exact cmpT (by dsimp only [cmpP]; first | done | omega)) | (apply wc_true; exact rfl))
      refine wr_buildSlice (vs := [.int .i64 (i : Int)]) rfl rfl (by intro v hv; simp at hv; subst hv; rfl) rfl (by decide) (by decide) (by decide) ?_
      refine wr_append (v := av) (n := al.length) (m := 1) (news := [.int .i64 (i : Int)]) rfl rfl (hal3.alloc _) rfl (heap_alloc_same _ _) rfl (by intro u hu; simp at hu; subst hu; rfl) rfl (by decide) (by omega) (by omega) (by have := hk3.size; simp; omega) ?_
      intro av' w4 hal5 hk4 _
      have hkal : Keeps NoB w3 (w3.alloc (.cells (List.flatMap (fun v => v.cells.toList) [Value.int .i64 (i : Int)]).toArray 3)) := (Keeps.refl NoB w3).alloc _
      (repeat first | (apply wr_move; exact rfl; with_reducible (conv => enter [6, 3]; whnf)) | (apply wr_assign; exact rfl; with_reducible (conv => enter [6, 3]; whnf)) | apply wr_end | apply wc_region | (apply wr_add; (iterate 3 exact rfl); exact w_fit (by dsimp only [kIn]; first | done | omega)) | (apply wr_nil; try simp only [thenE, inBlockE, bodyQ]))
      refine ⟨(i + 1, al ++ [(i : Int)], av'), by dsimp only; omega, ⟨by trivial, by dsimp only; omega, by dsimp only; omega, fun z hz => ?_, by dsimp only; rw [List.length_append, List.length_singleton]; omega, by dsimp only; rw [List.length_append, List.length_singleton]; omega, ?_, ?_⟩, rfl, rfl, rfl, rfl, rfl, rfl, rfl, trivial⟩
      · rcases List.mem_append.1 hz with hz | hz
        · exact hab4 z hz
        · simp at hz
          omega
      · dsimp only
        rw [List.length_append, List.map_append]
        exact hal5
      · exact (hk3.trans hkal).trans' hk4 (fun q hq e => by have := (hal3.lt q e).1; omega)
    · have hbit0 : who / 2 ^ i % 2 = 0 := by omega
      (repeat first | (apply wr_move; exact rfl; with_reducible (conv => enter [6, 3]; whnf)) | apply wr_end | apply wc_seq | apply wc_region | apply wc_skip | apply wc_block | (apply wr_cmp; (iterate 3 exact rfl); exact cmpT (by dsimp only [cmpP]; first | done | omega)) | (apply wc_true; exact rfl))
      refine wr_shrN (n := who) i rfl rfl rfl (by show i ≤ 8; omega) ?_
      refine wr_remN (n := who / 2 ^ i) (m := 2) rfl rfl rfl (by decide) ?_
      rw [hbit0]
      (repeat first | (apply wr_move; exact rfl; with_reducible (conv => enter [6, 3]; whnf)) | (apply wr_assign; exact rfl; with_reducible (conv => enter [6, 3]; whnf)) | apply wr_end | apply wc_region | apply wc_skip | (apply wr_cmp; (iterate 3 exact rfl); exact cmpF (by dsimp only [cmpN]; first | done | omega)) | (apply wr_add; (iterate 3 exact rfl); exact w_fit (by dsimp only [kIn]; first | done | omega)) | (apply wc_false; exact rfl))
      exact ⟨(i + 1, al, av), by dsimp only; omega, ⟨by trivial, by dsimp only; omega, by dsimp only; omega, hab4, hal4, by dsimp only; omega, hal3, hk3⟩, rfl, rfl, rfl, rfl, rfl, rfl, rfl, trivial⟩
  (repeat first | (apply wr_move; exact rfl; with_reducible (conv => enter [6, 3]; whnf)) | apply wr_end | apply wc_seq | apply wc_region | (apply wr_cmp; (iterate 3 exact rfl); exact cmpF (by dsimp only [cmpN]; first | done | omega)) | (apply wr_alloc; exact rfl) | (apply wc_false; exact rfl) | (apply wc_exit; try simp only [thenE, inBlockE, bodyQ, ↓reduceIte, Nat.reduceEqDiff]))
  refine wr_name ?_
  intro w4 hw4
  obtain ⟨b10, hb10⟩ : ∃ b, b = w3.heap.size := ⟨_, rfl⟩
  have hk4 : Keeps NoB w3 w4 := by rw [hw4]; exact (Keeps.refl NoB w3).alloc _
  have hc4 : w4.heap[b10]? = some (.cells (tkC fun _ => 0) 30 (0, 0)) := by rw [hw4, hb10]; exact (heap_alloc_same _ _).trans (by rfl)
  rw [← hb10]
  clear hw4
  refine wr_makeMap rfl ?_
  refine wr_name ?_
  intro w5 hw5
  obtain ⟨b11, hb11⟩ : ∃ b, b = w4.heap.size := ⟨_, rfl⟩
  have hk5 : Keeps NoB w4 w5 := by rw [hw5]; exact (Keeps.refl NoB w4).alloc _
  have hM5 : MapAt w5 (encI .u64) b11 ([] : List (Int × Value)) := by rw [hw5, hb11]; exact MapAt.new w4 (encI .u64)
  rw [← hb11]
  clear hw5
  have hz3 := hk3.size
  have hz4 := hk4.size
  have hk35 := (hk3.trans hk4).trans hk5
  have h5 := (h1.keep hkw2).keep hk35
  have hK5 := (hk1.trans hkw2).trans hk35
  have hml := h1.keys.lt
  have hmn : ¬ aD mb ([] : List (KY × ND)) b11 := by
    rintro (e | ⟨x, hx, _⟩)
    · omega
    · cases hx
  have hal5 : w5.ownsRow w0.heap.size 3 1 av al.length (al.map (Value.int .i64)) := own_down (own_keep hal3 (hk4.trans hk5) (fun _ _ h => h)) (by omega)
  clear hal3
  obtain ⟨b2, hb2⟩ : ∃ b2, b2 = bw2 := ⟨_, rfl⟩
  rw [← hb2] at hcw2 hb2z ⊢
  have hz10 : w0.heap.size ≤ b10 := by omega
  have hz11 : w0.heap.size ≤ b11 := by omega
  (repeat first | (apply wr_assign; exact rfl; with_reducible (conv => enter [6, 3]; whnf)) | apply wr_end | apply wc_seq | apply wc_region | apply wc_block)
  refine wc_loopL (α := StI) (fun p => [(0, .slice va dl.length vc), (5, .bool true), (6, .pointer (some ⟨ab, 0, none⟩)), (7, .pointer (some ⟨b2, 0, none⟩)), (8, av), (10, .pointer (some ⟨b10, 0, none⟩)), (11, .map (some b11)), (12, .int .u64 (p.2.2.2.2 : Int)), (13, .int .i64 (p.1 : Int))])
    (fun p ds w' => ds = [] ∧ CovI w0 ab mb b2 b10 b11 al av p w') (fun p => 40 - p.1) (0, [], (fun _ => 0), (fun _ => none), 0)
    ⟨rfl, ⟨Nat.zero_le _, h5, ⟨fun id h1 h4 => rfl, rfl, List.Pairwise.nil, Nat.zero_le _, (fun x hx => by cases hx), (fun q hq => by cases hq)⟩, hk35.heap hcw2 (fun h => h), hk5.heap hc4 (fun h => h), ⟨[], hM5, fun q => ⟨rfl, rfl⟩⟩, hmn, hal5, hA1, hK5⟩⟩ ⟨rfl, rfl, rfl, rfl, rfl, rfl, rfl, rfl, rfl, trivial⟩ ?_
  clear hal5 hmn h5 hK5 hM5 hc4 hcw2 hk35 hk5 hk4 hk3 hA1 h1
  rintro ⟨i, L, tk, bm, told⟩ ds f1 w4 ⟨rfl, ⟨hi40, h4, hC4, hck4, hct4, ⟨M4, hM4, hMs4⟩, hmn4, hal4', hA4, hK4⟩⟩
  dsimp only at hi40 h4 hC4 hck4 hct4 hM4 hMs4 hmn4 hal4' hA4 hK4 ⊢
  by_cases hgo : i < dl.length ∧ i < 40
  rotate_left
  · have hex : ¬ i < dl.length ∨ (i < dl.length ∧ ¬ i < 40) := by omega
    rcases hex with hex | ⟨hex1, hex2⟩
    all_goals
      (repeat first | (apply wr_move; exact rfl; with_reducible (conv => enter [6, 3]; whnf)) | (apply wr_assign; exact rfl; with_reducible (conv => enter [6, 3]; whnf)) | apply wr_end | apply wc_seq | apply wc_region | (apply wr_len_slice; iterate 2 exact rfl) | (apply wr_cmp; (iterate 3 exact rfl); exact cmpT (by dsimp only [cmpP]; first | done | omega)) | (apply wr_cmp; (iterate 3 exact rfl); exact cmpF (by dsimp only [cmpN]; first | done | omega)) | (apply wr_pick (t := true); (iterate 2 exact rfl); with_reducible (conv => enter [6, 3]; whnf)) | (apply wr_pick (t := false); (iterate 2 exact rfl); with_reducible (conv => enter [6, 3]; whnf)) | (apply wc_false; exact rfl) | (apply wc_exit; try simp only [thenE, inBlockE, bodyQ, ↓reduceIte, Nat.reduceEqDiff]) | (apply wc_ret; try simp only [thenE, inBlockE, bodyQ]) | (apply wr_skip; exact rfl))
      exact leave1 (v := .bool true) rfl rfl ⟨rfl, hk0.trans hK4⟩
  obtain ⟨hlt, hlt40⟩ := hgo
  obtain ⟨x, hx⟩ : ∃ x, dl[i]? = some x := ⟨dl[i], by simp [hlt]⟩
  have hxo := hd x (List.mem_of_getElem? hx)
  obtain ⟨xkind, xid, xname, xseq, xok, xs, xwv, xwl, xnear⟩ := x
  have hxname : xname < 256 := hxo.name
  have hxseq : xseq < 18446744073709551616 := hxo.seq
  have hxs : xs.length ≤ 9223372036854775807 := hxo.s
  obtain ⟨vb, vo, rfl, cur, e, fr, hvb, hvr⟩ := hvm (by omega)
  have hvb4 := (hk0.trans hK4).heap hvb (fun h => h)
  have hcell : ∀ (c : Nat) (v : Value), (GDd ⟨xkind, xid, xname, xseq, xok, xs, xwv, xwl, xnear⟩)[c]? = some v → cur[vo + i * 8 + c]? = some v := fun c v h => by
    have hc8 : c < 8 := by have := (List.getElem?_eq_some_iff.1 h).1; rwa [GDd_len] at this
    rw [Nat.add_assoc, hvr _ (by omega), flat_get GDd_len dl i _ c hx hc8]
    exact h
  obtain ⟨id, hid⟩ : ∃ id, id = 1 + xname % 4 := ⟨_, rfl⟩
  obtain ⟨q, hq⟩ : ∃ q, q = 1 + xseq % 12 := ⟨_, rfl⟩
  (repeat first | (apply wr_move; exact rfl; with_reducible (conv => enter [6, 3]; whnf)) | apply wr_end | apply wc_seq | apply wc_region | apply wc_skip | apply wc_block | (apply wr_len_slice; iterate 2 exact rfl) | (apply wr_cmp; (iterate 3 exact rfl); exact cmpT (by dsimp only [cmpP]; first | done | omega)) | (apply wr_pick (t := true); (iterate 2 exact rfl); with_reducible (conv => enter [6, 3]; whnf)) | (apply wc_true; exact rfl))
  refine wr_indexAddr (i := i) rfl rfl rfl hlt ?_
  (repeat first | (apply wr_fieldAddr; iterate 2 exact rfl))
  refine wr_load (v := .int .u8 (xname : Int)) rfl rfl rfl hvb4 (hcell 2 _ rfl) ?_
  refine wr_remN (n := xname) (m := 4) rfl rfl rfl (by decide) ?_
  refine wr_conv (c := ((xname % 4 : Nat) : Int)) rfl rfl (w_i64 (by omega)) ?_
  refine wr_add (c := (id : Int)) rfl rfl rfl (by rw [w_i64 (by omega)]; omega) ?_
  obtain ⟨wA, hwA⟩ : ∃ wA, wA = w4.drew.alloc (.cells (GS ((0, []), 0, false, [])).toArray 35) := ⟨_, rfl⟩
  obtain ⟨bs, hbs⟩ : ∃ bs, bs = w4.drew.heap.size := ⟨_, rfl⟩
  have hkA : Keeps NoB w4.drew wA := by rw [hwA]; exact (Keeps.refl NoB w4.drew).alloc _
  have hcA : wA.heap[bs]? = some (.cells (GS ((0, []), 0, false, [])).toArray 35 (0, 0)) := by rw [hwA, hbs]; exact heap_alloc_same _ _
  obtain ⟨wB, hwB⟩ : ∃ wB, wB = wA.putObj bs (.cells (GS (kB, q, xok, [])).toArray 35 (0, 0)) := ⟨_, rfl⟩
  have hkB : Keeps NoB w4.drew wB := by rw [hwB]; exact hkA.put _ (fun e => by omega)
  have hcB : wB.heap[bs]? = some (.cells (GS (kB, q, xok, [])).toArray 35 (0, 0)) := by rw [hwB]; exact World.putObj_heap_same (lt_of_heap hcA)
  have hvb4d : w4.drew.heap[vb]? = some (.cells cur e fr) := hvb4
  have hck4d : w4.drew.heap[b2]? = some (.cells #[.int .i64 kB.1, S kB.2] 27 (0, 0)) := hck4
  (repeat first | (apply wr_assign; exact rfl; with_reducible (conv => enter [6, 3]; whnf)) | apply wr_end | apply wc_seq)
  refine V.L.wc_drawL (l := _) (V.L.tri 14 15 w4.drew wA wB) (by kernel_rfl) (by kernel_rfl) rfl ?_
  apply V.L.ch_step
  focus
    apply V.L.one_read hkA hkB rfl rfl
    intro w' hk
    refine wr_loadAll (cs := [.int .i64 kB.1, S kB.2]) rfl rfl rfl (hk.heap hck4d (fun h => h)) rfl ?_
    apply wr_nil
    exact ⟨rfl, rfl⟩
  apply V.L.ch_step
  focus
    apply V.L.one_read hkA hkB rfl rfl
    intro w' hk
    apply wr_move; exact rfl; with_reducible (conv => enter [6, 3]; whnf)
    apply wr_nil
    exact ⟨rfl, rfl⟩
  apply V.L.ch_step
  focus
    apply V.L.one_read hkA hkB rfl rfl
    intro w' hk
    apply wr_move; exact rfl; with_reducible (conv => enter [6, 3]; whnf)
    apply wr_nil
    exact ⟨rfl, rfl⟩
  apply V.L.ch_step
  focus
    apply V.L.one_read hkA hkB rfl rfl
    intro w' hk
    refine wr_indexAddr (i := i) rfl rfl rfl hlt ?_
    apply wr_nil
    exact ⟨rfl, rfl⟩
  apply V.L.ch_step
  focus
    apply V.L.one_read hkA hkB rfl rfl
    intro w' hk
    refine wr_fieldAddr rfl rfl ?_
    apply wr_nil
    exact ⟨rfl, rfl⟩
  apply V.L.ch_step
  focus
    apply V.L.one_read hkA hkB rfl rfl
    intro w' hk
    refine wr_load (v := .int .u64 (xseq : Int)) rfl rfl rfl (hk.heap hvb4d (fun h => h)) (hcell 3 _ rfl) ?_
    apply wr_nil
    exact ⟨rfl, rfl⟩
  apply V.L.ch_step
  focus
    apply V.L.one_read hkA hkB rfl rfl
    intro w' hk
    refine wr_remN (n := xseq) (m := 12) rfl rfl rfl (by decide) ?_
    apply wr_nil
    exact ⟨rfl, rfl⟩
  apply V.L.ch_step
  focus
    apply V.L.one_read hkA hkB rfl rfl
    intro w' hk
    refine wr_add (c := (q : Int)) rfl rfl rfl (by rw [w_u64 (by omega)]; omega) ?_
    apply wr_nil
    exact ⟨rfl, rfl⟩
  apply V.L.ch_step
  focus
    apply V.L.one_read hkA hkB rfl rfl
    intro w' hk
    apply wr_move; exact rfl; with_reducible (conv => enter [6, 3]; whnf)
    apply wr_nil
    exact ⟨rfl, rfl⟩
  apply V.L.ch_step
  focus
    apply V.L.one_read hkA hkB rfl rfl
    intro w' hk
    apply wr_move; exact rfl; with_reducible (conv => enter [6, 3]; whnf)
    apply wr_nil
    exact ⟨rfl, rfl⟩
  apply V.L.ch_step
  focus
    apply V.L.one_read hkA hkB rfl rfl
    intro w' hk
    refine wr_indexAddr (i := i) rfl rfl rfl hlt ?_
    apply wr_nil
    exact ⟨rfl, rfl⟩
  apply V.L.ch_step
  focus
    apply V.L.one_read hkA hkB rfl rfl
    intro w' hk
    refine wr_fieldAddr rfl rfl ?_
    apply wr_nil
    exact ⟨rfl, rfl⟩
  apply V.L.ch_step
  focus
    apply V.L.one_read hkA hkB rfl rfl
    intro w' hk
    refine wr_load (v := .bool xok) rfl rfl rfl (hk.heap hvb4d (fun h => h)) (hcell 4 _ rfl) ?_
    apply wr_nil
    exact ⟨rfl, rfl⟩
  apply V.L.ch_step
  focus
    apply V.L.one_read hkA hkB rfl rfl
    intro w' hk
    refine wr_build (ps := [(0, .agg #[.int .i64 kB.1, S kB.2]), (1, .int .u64 ((q : Nat) : Int)), (2, .bool xok)]) (cs := GS (kB, q, xok, [])) rfl rfl rfl rfl ?_
    apply wr_nil
    exact ⟨rfl, rfl⟩
  apply V.L.ch_step
  focus
    apply V.L.one_alloc (by kernel_rfl) rfl
    refine wr_alloc rfl ?_
    apply wr_nil
    exact ⟨rfl, hwA.symm⟩
  apply V.L.ch_step
  focus
    apply V.L.one_store (by kernel_rfl)
    refine wr_storeAll (cs := GS (kB, q, xok, [])) rfl (by rw [← hbs]) rfl (GS_one _) hcA rfl rfl ?_
    apply wr_nil
    exact ⟨rfl, hwB.symm⟩
  refine V.L.ch_nil ?_
  intro w5 hS
  have hw5 := V.L.tri_end hS (by kernel_rfl)
  have hk45 : Keeps NoB w4 w5 := by rw [hw5]; exact (Keeps.refl NoB w4).drew.trans hkB
  rw [← hw5] at hcB
  rw [← hbs]
  have hbsz : w0.heap.size ≤ bs := by rw [hbs]; exact hK4.size
  clear hS hw5 hwB hkB hwA hkA hcA hbs
  have hcs5 : w5.heap[bs]? = some (.cells #[.int .i64 kB.1, S kB.2, .int .u64 (q : Int), .bool xok, S []] 35 (0, 0)) := hcB
  have h5' := h4.keep hk45
  have hck5' := hk45.heap hck4 (fun h => h)
  have hct5' := hk45.heap hct4 (fun h => h)
  have hM5' := hM4.keep hk45 (fun h => h)
  have hal5' := own_keep hal4' hk45 (fun _ _ h => h)
  have hvb5' := hk45.heap hvb4 (fun h => h)
  have hK5' := hK4.trans hk45
  cases xok with
  | true =>
    have hkd : ∀ {w'}, Keeps NoB w5.drew w' → Keeps NoB w5 w' := fun hk => (Keeps.refl NoB w5).drew.trans hk
    (repeat first | apply wr_end | apply wc_seq | apply wc_region | (apply wr_fieldAddr; iterate 2 exact rfl) | (apply wr_load; (iterate 3 exact rfl); (focus repeat first | with_reducible assumption | exact heap_alloc_same _ _ | exact World.putObj_heap_same (by first | omega | (simp only [World.size_alloc, World.putObj_size, ne_eq]; omega)) | ((first | refine hAl ?_ ?_ | refine hPu ?_ ?_); focus first | omega | (simp only [World.size_alloc, World.putObj_size, ne_eq]; omega))); exact rfl; conv => enter [6, 3]; whnf) | (apply wc_true; exact rfl))
    refine wc_drawP (l := _) 8 _ (by kernel_rfl) (by kernel_rfl) rfl (by kernel_rfl) (by kernel_rfl) (by decide) ?_
    apply chP_pure
    focus
      intro xx w' hk hF
      apply wr_move; exact rfl; with_reducible (conv => enter [6, 3]; whnf)
      apply wr_nil
      exact ⟨rfl, Keeps.refl _ _⟩
    focus (intro xx yy h; rfl)
    focus kernel_rfl
    apply chP_pure
    focus
      intro xx w' hk hF
      apply wr_move; exact rfl; with_reducible (conv => enter [6, 3]; whnf)
      apply wr_nil
      exact ⟨rfl, Keeps.refl _ _⟩
    focus (intro xx yy h; rfl)
    focus kernel_rfl
    apply chP_pure
    focus
      intro xx w' hk hF
      refine wr_indexArr (i := id) rfl rfl rfl (by omega) ?_
      apply wr_nil
      exact ⟨rfl, Keeps.refl _ _⟩
    focus (intro xx yy h; rfl)
    focus kernel_rfl
    apply chP_pure
    focus
      intro xx w' hk hF
      refine wr_load (v := .int .u64 ((tk id : Nat) : Int)) rfl rfl rfl ((hkd hk).heap hct5' (fun h => h)) (tkC_at tk (by omega)) ?_
      apply wr_nil
      exact ⟨rfl, Keeps.refl _ _⟩
    focus (intro xx yy h; rfl)
    focus kernel_rfl
    apply chP_pure
    focus
      intro xx w' hk hF
      refine wr_fieldAddr rfl rfl ?_
      apply wr_nil
      exact ⟨rfl, Keeps.refl _ _⟩
    focus (intro xx yy h; rfl)
    focus kernel_rfl
    apply chP_pure
    focus
      intro xx w' hk hF
      refine wr_load (v := .int .u64 ((q : Nat) : Int)) rfl rfl rfl ((hkd hk).heap hcs5 (fun h => h)) rfl ?_
      apply wr_nil
      exact ⟨rfl, Keeps.refl _ _⟩
    focus (intro xx yy h; rfl)
    focus kernel_rfl
    apply chP_pure
    focus
      intro xx w' hk hF
      refine wr_max (c := ((max (tk id) q : Nat) : Int)) rfl rfl rfl (by split <;> omega) ?_
      apply wr_nil
      exact ⟨rfl, Keeps.refl _ _⟩
    focus (intro xx yy h; rfl)
    focus kernel_rfl
    apply chP_pure
    focus
      intro xx w' hk hF
      refine wr_indexArr (i := id) rfl rfl rfl (by omega) ?_
      apply wr_nil
      exact ⟨rfl, Keeps.refl _ _⟩
    focus (intro xx yy h; rfl)
    focus kernel_rfl
    refine chP_nil ?_
    intro xx w6 hk6' hF
    have hk6 := hkd hk6'
    have hct6' := hk6.heap hct5' (fun h => h)
    refine wr_store (v := .int .u64 ((max (tk id) q : Nat) : Int)) rfl rfl rfl rfl hct6' (tkC_at tk (by omega)) ?_
    rw [tkC_set tk (by omega)]
    refine wr_name ?_
    intro w7 hw7
    have hk7 : Keeps (· = b10) w6 w7 := by rw [hw7]; exact (Keeps.refl _ w6).put _ (fun _ => rfl)
    have hct7 : w7.heap[b10]? = some (.cells (tkC (setM tk id (max (tk id) q))) 30 (0, 0)) := by rw [hw7]; exact World.putObj_heap_same (lt_of_heap hct6')
    clear hw7
    have h7 := (h5'.keep hk6).keepC hk7 hct6' (by decide) (by decide) (by decide)
    have hck7 := hk7.heap (hk6.heap hck5' (fun h => h)) (ty_ne (hk6.heap hck5' (fun h => h)) hct6' (by decide))
    have hcs7 := hk7.heap (hk6.heap hcs5 (fun h => h)) (ty_ne (hk6.heap hcs5 (fun h => h)) hct6' (by decide))
    have hM7 := (hM5'.keep hk6 (fun h => h)).keep hk7 (fun e => map_cells' (hM5'.keep hk6 (fun h => h)) hct6' e.symm)
    have hal7 := own_keep (own_keep hal5' hk6 (fun _ _ h => h)) hk7 (fun y hy e => by
      obtain ⟨ac, hac⟩ := own_cells (own_keep hal5' hk6 (fun _ _ h => h)) y hy
      exact ty_ne hac hct6' (by decide) e)
    have hK7 : Keeps NoB w0 w7 := (hK5'.trans hk6).trans' hk7 (fun y hy e => by omega)
    have hz7 := hK7.size
    (repeat first | (apply wr_move; exact rfl; with_reducible (conv => enter [6, 3]; whnf)) | apply wr_end | apply wc_seq | apply wc_region)
    refine wr_loadAll (cs := GS (kB, q, true, [])) rfl rfl rfl hcs7 rfl ?_
    refine wr_call (vs := [.pointer (some ⟨ab, 0, none⟩), .int .i64 (id : Int), SdV (kB, q, true, [])]) rfl (note_ca h7 (by omega) (id : Int) (kB, q, true, []) (by simp) (by simp) (by show q < _; omega)) rfl ?_
    rintro v w8 (⟨hno, _, _⟩ | ⟨_, rfl, L5, h5, hp5, hk8, hs8⟩)
    · exact absurd ⟨stOkB q true [] (by omega) (by simp) (fun _ => rfl), by unfold idOk; omega⟩ hno
    have hck5 := hk8.heap hck7 (h7.free hck7 (by decide) (by decide))
    have hct5 := hk8.heap hct7 (h7.free hct7 (by decide) (by decide))
    have hM5 := hM7.keep hk8 hmn4
    have hmn5 := not_aD hmn4 hs8 hM7.lt
    have hal5 := own_keep hal7 hk8 (fun y hy => by
      obtain ⟨ac, hac⟩ := own_cells hal7 y hy
      exact h7.free hac (by decide) (by decide))
    have hK5 := hA4.keeps hK7 hk8
    have hA5 := hA4.sub hs8 hz7
    obtain ⟨p5, hp5e⟩ : ∃ p5, p5 = noteP ((getL (PL L) kB).getD PN.new) (id : Int) (kB, q, true, []) := ⟨_, rfl⟩
    have hg5 : getL (PL L5) kB = some p5 := by rw [hp5, getL_put, if_pos rfl, hp5e]
    have hC5 : CInv (some p5) (setM tk id (max (tk id) q)) bm told := by rw [hp5e]; exact hC4.took id q (by omega) (by omega) kB []
    have hMs5 := hMs4
    generalize setM tk id (max (tk id) q) = tk5 at hct5 hC5
    obtain ⟨bm5, hbm5⟩ : ∃ bm5, bm5 = bm := ⟨_, rfl⟩
    rw [← hbm5] at hC5 hMs5
    obtain ⟨M5, hM5e⟩ : ∃ M5, M5 = M4 := ⟨_, rfl⟩
    rw [← hM5e] at hM5 hMs5
    have hz5 := hK5.size
    have halF : ∀ q, av.ownBlock = some q → ¬ aD mb L5 q := fun q hq => by
      obtain ⟨acur, hac⟩ := own_cells hal5 q hq
      exact h5.free hac (by decide) (by decide)
    (repeat first | (apply wr_move; exact rfl; with_reducible (conv => enter [6, 3]; whnf)) | apply wr_end | apply wc_seq | apply wc_region | apply wc_skip | (apply wr_cmp; (iterate 3 exact rfl); exact cmpF (by dsimp only [cmpN]; first | done | omega)) | (apply wc_false; exact rfl))
    refine wr_loadAll (cs := [.int .i64 kB.1, S kB.2]) rfl rfl rfl hck5 rfl ?_
    (repeat first | (apply wr_move; exact rfl; with_reducible (conv => enter [6, 3]; whnf)))
    refine wr_call (vs := [.pointer (some ⟨ab, 0, none⟩), encK kB, av]) rfl (ready_ca h5 kB al av (SlR.of_own hal5) (by omega) halF (fun q hq => (hal5.lt q hq).2)) rfl ?_
    rintro r6 w6 ⟨L6, h6, hp6, ho6, hk6, hs6⟩
    have hck6 := hk6.heap hck5 (h5.free hck5 (by decide) (by decide))
    have hct6 := hk6.heap hct5 (h5.free hct5 (by decide) (by decide))
    have hal6 := own_keep hal5 hk6 (fun q hq => halF q hq)
    have hM6 := hM5.keep hk6 hmn5
    have hK6 := hA5.keeps hK5 hk6
    have hA6 := hA5.sub hs6 hz5
    have hmn6 := not_aD hmn5 hs6 hM5.lt
    have hz6 := hK6.size
    obtain ⟨ls, hls⟩ : ∃ ls, ls = leastP (some p5) al := ⟨_, rfl⟩
    have hC6 : CInv (getL (PL L6) kB) tk5 bm5 (if told < ls then ls else told) := by
      rw [hp6]
      unfold afterP
      rw [hg5]
      dsimp only
      rw [getL_put, if_pos rfl, ← hls]
      exact hC5.ready
    obtain ⟨outs, houts⟩ : ∃ outs, outs = readyO kB p5 ls := ⟨_, rfl⟩
    have hoe : outsP (getL (PL L5) kB) kB al = outs := by rw [hg5, houts, hls]; rfl
    rw [hoe] at ho6
    have htold5 : p5.told = told := hC5.told
    have hoAt : ∀ (n : Nat) (x : SD), outs[n]? = some x → (∃ b ∈ p5.bad, x = (kB, b.1, false, b.2.1) ∧ n < (outB kB p5.bad p5.bad.length).length) ∨ (x = (kB, ls, true, []) ∧ told < ls ∧ n = (outB kB p5.bad p5.bad.length).length) := fun n x hx => by
      rw [houts] at hx
      unfold readyO at hx
      rw [htold5] at hx
      rw [List.getElem?_append] at hx
      split at hx
      · rename_i hn
        left
        have hm := List.mem_of_getElem? hx
        unfold outB at hm
        obtain ⟨b, hb, rfl⟩ := List.mem_map.1 hm
        have hb1 := (List.mem_filter.1 hb).1
        exact ⟨b, List.mem_of_mem_take hb1, rfl, hn⟩
      · rename_i hn
        right
        by_cases hlt : told < ls
        · rw [if_pos hlt] at hx
          have h0 := (List.getElem?_eq_some_iff.1 hx).1
          simp only [List.length_singleton] at h0
          have hn0 : n - (outB kB p5.bad p5.bad.length).length = 0 := by omega
          rw [hn0] at hx
          simp at hx
          exact ⟨hx.symm, hlt, by omega⟩
        · rw [if_neg hlt] at hx
          simp at hx
    have holen : outs.length = (outB kB p5.bad p5.bad.length).length + (if told < ls then 1 else 0) := by
      rw [houts]
      unfold readyO
      rw [htold5, List.length_append]
      congr 1
      split <;> rfl
    have hofew : outs.length ≤ 9 := by
      have h1 := outB_le kB p5.bad p5.bad.length
      have h2 : p5.bad.length ≤ 8 := hC5.few
      rw [holen]
      split <;> omega
    obtain ⟨ra, rc, rfl, hrr⟩ := own_row ho6
    obtain ⟨Mx, hMx⟩ : ∃ Mx, Mx = M5 := ⟨_, rfl⟩
    (repeat first | (apply wr_assign; exact rfl; with_reducible (conv => enter [6, 3]; whnf)) | apply wr_end | apply wc_seq | apply wc_region | apply wc_block)
    refine wc_loopL (α := Nat × Nat) (fun p => [(0, .slice (some ⟨vb, vo, none⟩) dl.length vc), (5, .bool true), (6, .pointer (some ⟨ab, 0, none⟩)), (7, .pointer (some ⟨b2, 0, none⟩)), (8, av), (10, .pointer (some ⟨b10, 0, none⟩)), (11, .map (some b11)), (12, .int .u64 (p.2 : Int)), (13, .int .i64 (i : Int)), (18, .slice ra outs.length rc), (19, .int .i64 (p.1 : Int))])
      (fun p ds w' => ds = [] ∧ p.1 ≤ outs.length ∧ p.2 = (if (outB kB p5.bad p5.bad.length).length < p.1 then ls else told) ∧ Keeps NoB w6 w') (fun p => outs.length - p.1) (0, told) ⟨rfl, Nat.zero_le _, by dsimp only; rw [if_neg (by omega)], Keeps.refl _ _⟩ ⟨rfl, rfl, rfl, rfl, rfl, rfl, rfl, rfl, rfl, rfl, rfl, trivial⟩ ?_
    rintro ⟨n, td⟩ ds f2 w7 ⟨rfl, hn, htd, hk7⟩
    dsimp only at hn htd ⊢
    have hK7 := hK6.trans hk7
    by_cases hnl : n < outs.length
    rotate_left
    focus
      have hne : n = outs.length := by omega
      have htd' : td = if told < ls then ls else told := by
        rw [htd, hne, holen]
        by_cases h1 : told < ls
        · rw [if_pos h1, if_pos h1, if_pos (by omega)]
        · rw [if_neg h1, if_neg h1, if_neg (by omega)]
      subst htd'
      (repeat first | (apply wr_move; exact rfl; with_reducible (conv => enter [6, 3]; whnf)) | (apply wr_assign; exact rfl; with_reducible (conv => enter [6, 3]; whnf)) | apply wr_end | apply wc_seq | apply wc_region | (apply wr_len_slice; iterate 2 exact rfl) | (apply wr_cmp; (iterate 3 exact rfl); exact cmpF (by dsimp only [cmpN]; first | done | omega)) | (apply wr_add; (iterate 3 exact rfl); exact w_fit (by dsimp only [kIn]; first | done | omega)) | (apply wc_false; exact rfl) | (apply wc_exit; try simp only [thenE, inBlockE, bodyQ, ↓reduceIte, Nat.reduceEqDiff]))
      exact ⟨(i + 1, L6, tk5, bm5, _), by dsimp only; omega, ⟨by trivial, ⟨by dsimp only; omega, h6.keep hk7, hC6, hk7.heap hck6 (fun h => h), hk7.heap hct6 (fun h => h), ⟨M5, hM6.keep hk7 (fun h => h), hMs5⟩, hmn6, own_keep hal6 hk7 (fun _ _ h => h), hA6, hK7⟩⟩, rfl, rfl, rfl, rfl, rfl, rfl, rfl, rfl, rfl, trivial⟩
    obtain ⟨x, hx⟩ : ∃ x, outs[n]? = some x := ⟨outs[n], by simp [hnl]⟩
    obtain ⟨rb, rcur, rfl, hrb, hrcur, hrrd⟩ := hrr (by omega)
    have hrc7 := hk7.heap hrcur (fun h => h)
    have hrrd' : ∀ j, j < outs.length * 5 → rcur[0 + j]? = (outs.flatMap GS)[j]? := fun j hj => by rw [Nat.zero_add]; exact hrrd j hj
    (repeat first | (apply wr_move; exact rfl; with_reducible (conv => enter [6, 3]; whnf)) | apply wr_end | apply wc_seq | apply wc_region | apply wc_skip | apply wc_block | (apply wr_len_slice; iterate 2 exact rfl) | (apply wr_cmp; (iterate 3 exact rfl); exact cmpT (by dsimp only [cmpP]; first | done | omega)) | (apply wc_true; exact rfl))
    refine wr_indexAddr (i := n) rfl rfl rfl hnl ?_
    refine wr_loadElem (G := GS) (n := outs.length) rfl rfl GS_len rfl hrc7 hrrd' hnl hx rfl ?_
    (repeat first | (apply wr_alloc; exact rfl))
    refine wr_storeAll (cs := GS x) rfl rfl rfl (GS_one x) (heap_alloc_same _ _) rfl rfl ?_
    refine wr_name ?_
    intro w8 hw8
    obtain ⟨b8, hb8⟩ : ∃ b, b = w7.heap.size := ⟨_, rfl⟩
    have hk8 : Keeps NoB w7 w8 := by rw [hw8]; exact ((Keeps.refl NoB w7).alloc _).put _ (fun h => by omega)
    have hc8 : w8.heap[b8]? = some (.cells (GS x).toArray 35 (0, 0)) := by rw [hw8, hb8]; exact World.putObj_heap_same (by simp)
    rw [← hb8]
    clear hw8
    have hk68 := hk7.trans hk8
    have hM8 := hM6.keep hk68 (fun h => h)
    have hct8 := hk68.heap hct6 (fun h => h)
    have hal8 := own_keep hal6 hk68 (fun _ _ h => h)
    rcases hoAt n x hx with ⟨b, hbm, rfl, hnlt⟩ | ⟨rfl, hlt, hne⟩
    focus
      obtain ⟨hb1, hb2⟩ := hC5.b1 b hbm
      obtain ⟨bq, bd, bt⟩ := b
      dsimp only at hb1 hb2
      have hbdne : ¬ bd = [] := hb2
      have hcc8 : w8.heap[b8]? = some (.cells #[.int .i64 kB.1, S kB.2, .int .u64 (bq : Int), .bool false, S bd] 35 (0, 0)) := hc8
      clear hc8
      have hlk := (hMs5 bq).1
      rw [hb1] at hlk
      (repeat first | (apply wr_move; exact rfl; with_reducible (conv => enter [6, 3]; whnf)) | apply wr_end | apply wc_seq | apply wc_region | (apply wr_fieldAddr; iterate 2 exact rfl) | (apply wr_not; iterate 2 exact rfl) | (apply wr_load; (iterate 3 exact rfl); (focus repeat first | with_reducible assumption | exact heap_alloc_same _ _ | exact World.putObj_heap_same (by first | omega | (simp only [World.size_alloc, World.putObj_size, ne_eq]; omega)) | ((first | refine hAl ?_ ?_ | refine hPu ?_ ?_); focus first | omega | (simp only [World.size_alloc, World.putObj_size, ne_eq]; omega))); exact rfl; conv => enter [6, 3]; whnf) | (apply wc_true; exact rfl))
      refine wr_lookupV (enc := encI .u64) (l := M5) (a := (bq : Int)) (u := S bd) rfl rfl hM8 rfl hlk ?_
      (repeat first | (apply wr_move; exact rfl; with_reducible (conv => enter [6, 3]; whnf)) | (apply wr_assign; exact rfl; with_reducible (conv => enter [6, 3]; whnf)) | apply wr_end | apply wc_region | apply wc_skip | (apply wr_fieldAddr; iterate 2 exact rfl) | (apply wr_load; (iterate 3 exact rfl); (focus repeat first | with_reducible assumption | exact heap_alloc_same _ _ | exact World.putObj_heap_same (by first | omega | (simp only [World.size_alloc, World.putObj_size, ne_eq]; omega)) | ((first | refine hAl ?_ ?_ | refine hPu ?_ ?_); focus first | omega | (simp only [World.size_alloc, World.putObj_size, ne_eq]; omega))); exact rfl; conv => enter [6, 3]; whnf) | (apply wr_pick (t := false); (iterate 2 exact rfl); with_reducible (conv => enter [6, 3]; whnf)) | (apply wr_add; (iterate 3 exact rfl); exact w_fit (by dsimp only [kIn]; first | done | omega)) | (apply wr_streqc; (iterate 3 exact rfl); (first | exact decide_eq_true (by with_reducible assumption) | exact decide_eq_false (by with_reducible assumption) | exact decide_eq_true rfl | exact rfl)) | (apply wr_strnec; (iterate 3 exact rfl); (first | exact decide_eq_true (by with_reducible assumption) | exact decide_eq_false (by with_reducible assumption) | exact decide_eq_true rfl | exact rfl); with_reducible (conv => enter [6, 3]; whnf)) | (apply wc_false; exact rfl) | (apply wc_exit; try simp only [thenE, inBlockE, bodyQ, ↓reduceIte, Nat.reduceEqDiff]))
      exact ⟨(n + 1, td), by dsimp only; omega, ⟨by trivial, by dsimp only; omega, by dsimp only; rw [htd, if_neg (by omega), if_neg (by omega)], hk68⟩, rfl, rfl, rfl, rfl, rfl, rfl, rfl, rfl, rfl, rfl, rfl, trivial⟩
    have htdT : td = told := by rw [htd, if_neg (by omega)]
    subst htdT
    have hcc8 : w8.heap[b8]? = some (.cells #[.int .i64 kB.1, S kB.2, .int .u64 (ls : Int), .bool true, S []] 35 (0, 0)) := hc8
    clear hc8
    have halne : 0 < al.length := by
      rcases Nat.eq_zero_or_pos al.length with h0 | h0
      · have : al = [] := List.eq_nil_of_length_eq_zero h0
        rw [this] at hls
        have : ls = 0 := hls
        omega
      · exact h0
    obtain ⟨aa, ac, hav, har⟩ := own_row hal8
    subst hav
    obtain ⟨a0, acur, rfl, ha0, hacur, hard⟩ := har halne
    (repeat first | (apply wr_move; exact rfl; with_reducible (conv => enter [6, 3]; whnf)) | (apply wr_assign; exact rfl; with_reducible (conv => enter [6, 3]; whnf)) | apply wr_end | apply wc_seq | apply wc_region | apply wc_skip | apply wc_block | (apply wr_fieldAddr; iterate 2 exact rfl) | (apply wr_not; iterate 2 exact rfl) | (apply wr_len_slice; iterate 2 exact rfl) | (apply wr_load; (iterate 3 exact rfl); (focus repeat first | with_reducible assumption | exact heap_alloc_same _ _ | exact World.putObj_heap_same (by first | omega | (simp only [World.size_alloc, World.putObj_size, ne_eq]; omega)) | ((first | refine hAl ?_ ?_ | refine hPu ?_ ?_); focus first | omega | (simp only [World.size_alloc, World.putObj_size, ne_eq]; omega))); exact rfl; conv => enter [6, 3]; whnf) | (apply wr_cmp; (iterate 3 exact rfl); exact cmpF (by dsimp only [cmpN]; first | done | omega)) | (apply wr_pick (t := false); (iterate 2 exact rfl); with_reducible (conv => enter [6, 3]; whnf)) | (apply wc_false; exact rfl))
    refine wc_loopL (α := Nat) (fun m => [(0, .slice (some ⟨vb, vo, none⟩) dl.length vc), (5, .bool true), (6, .pointer (some ⟨ab, 0, none⟩)), (7, .pointer (some ⟨b2, 0, none⟩)), (8, .slice (some ⟨a0, 0, none⟩) al.length ac), (10, .pointer (some ⟨b10, 0, none⟩)), (11, .map (some b11)), (12, .int .u64 (ls : Int)), (13, .int .i64 (i : Int)), (18, .slice (some ⟨rb, 0, none⟩) outs.length rc), (19, .int .i64 (n : Int)), (20, .pointer (some ⟨b8, 0, none⟩)), (21, .int .i64 (m : Int))])
      (fun m ds w' => ds = [] ∧ m ≤ al.length ∧ Keeps NoB w8 w') (fun m => al.length - m) 0 ⟨rfl, Nat.zero_le _, Keeps.refl _ _⟩ ⟨rfl, rfl, rfl, rfl, rfl, rfl, rfl, rfl, rfl, rfl, rfl, rfl, rfl, trivial⟩ ?_
    rintro m ds f3 w9 ⟨rfl, hm, hk9⟩
    by_cases hml : m < al.length
    rotate_left
    focus
      (repeat first | (apply wr_move; exact rfl; with_reducible (conv => enter [6, 3]; whnf)) | (apply wr_assign; exact rfl; with_reducible (conv => enter [6, 3]; whnf)) | apply wr_end | apply wc_seq | apply wc_region | (apply wr_len_slice; iterate 2 exact rfl) | (apply wr_cmp; (iterate 3 exact rfl); exact cmpF (by dsimp only [cmpN]; first | done | omega)) | (apply wr_add; (iterate 3 exact rfl); exact w_fit (by dsimp only [kIn]; first | done | omega)) | (apply wc_false; exact rfl) | (apply wc_exit; try simp only [thenE, inBlockE, bodyQ, ↓reduceIte, Nat.reduceEqDiff]))
      exact ⟨(n + 1, ls), by dsimp only; omega, ⟨by trivial, by dsimp only; omega, by dsimp only; rw [if_pos (by omega)], hk68.trans hk9⟩, rfl, rfl, rfl, rfl, rfl, rfl, rfl, rfl, rfl, rfl, rfl, trivial⟩
    obtain ⟨z, hz⟩ : ∃ z, al[m]? = some z := ⟨al[m], by simp [hml]⟩
    have hzb := hab4 z (List.mem_of_getElem? hz)
    obtain ⟨zn, rfl⟩ := Int.eq_ofNat_of_zero_le (show 0 ≤ z by omega)
    have hac9 := hk9.heap hacur (fun h => h)
    have hct9 := hk9.heap hct8 (fun h => h)
    have hcc9 := hk9.heap hcc8 (fun h => h)
    have hzc : acur[0 + m * 1]? = some (.int .i64 (zn : Int)) := by rw [Nat.zero_add, Nat.mul_one, hard m (by omega), List.getElem?_map, hz]; rfl
    have hle : ls ≤ tk5 zn := by
      have h1 := leastP_le p5 al (zn : Int) (List.mem_of_getElem? hz)
      rw [← hls] at h1
      have h2 : p5.T (zn : Int) = tk5 zn := hC5.t zn (by omega) (by omega)
      omega
    have hkd9 : ∀ {w'}, Keeps NoB w9.drew w' → Keeps NoB w9 w' := fun hk => (Keeps.refl NoB w9).drew.trans hk
    (repeat first | (apply wr_move; exact rfl; with_reducible (conv => enter [6, 3]; whnf)) | apply wr_end | apply wc_seq | apply wc_region | apply wc_skip | apply wc_block | (apply wr_len_slice; iterate 2 exact rfl) | (apply wr_cmp; (iterate 3 exact rfl); exact cmpT (by dsimp only [cmpP]; first | done | omega)) | (apply wc_true; exact rfl))
    refine wc_drawP (l := _) 9 _ (by kernel_rfl) (by kernel_rfl) rfl (by kernel_rfl) (by kernel_rfl) (by decide) ?_
    apply chP_pure
    focus
      intro xx w' hk hF
      apply wr_move; exact rfl; with_reducible (conv => enter [6, 3]; whnf)
      apply wr_nil
      exact ⟨rfl, Keeps.refl _ _⟩
    focus (intro xx yy h; rfl)
    focus kernel_rfl
    apply chP_pure
    focus
      intro xx w' hk hF
      apply wr_move; exact rfl; with_reducible (conv => enter [6, 3]; whnf)
      apply wr_nil
      exact ⟨rfl, Keeps.refl _ _⟩
    focus (intro xx yy h; rfl)
    focus kernel_rfl
    apply chP_pure
    focus
      intro xx w' hk hF
      refine wr_indexAddr (i := m) rfl rfl rfl hml ?_
      apply wr_nil
      exact ⟨rfl, Keeps.refl _ _⟩
    focus (intro xx yy h; rfl)
    focus kernel_rfl
    apply chP_pure
    focus
      intro xx w' hk hF
      refine wr_load (v := .int .i64 (zn : Int)) rfl rfl rfl ((hkd9 hk).heap hac9 (fun h => h)) hzc ?_
      apply wr_nil
      exact ⟨rfl, Keeps.refl _ _⟩
    focus (intro xx yy h; rfl)
    focus kernel_rfl
    apply chP_pure
    focus
      intro xx w' hk hF
      refine wr_indexArr (i := zn) rfl rfl rfl (by omega) ?_
      apply wr_nil
      exact ⟨rfl, Keeps.refl _ _⟩
    focus (intro xx yy h; rfl)
    focus kernel_rfl
    apply chP_pure
    focus
      intro xx w' hk hF
      refine wr_load (v := .int .u64 ((tk5 zn : Nat) : Int)) rfl rfl rfl ((hkd9 hk).heap hct9 (fun h => h)) (tkC_at tk5 (by omega)) ?_
      apply wr_nil
      exact ⟨rfl, Keeps.refl _ _⟩
    focus (intro xx yy h; rfl)
    focus kernel_rfl
    apply chP_pure
    focus
      intro xx w' hk hF
      refine wr_fieldAddr rfl rfl ?_
      apply wr_nil
      exact ⟨rfl, Keeps.refl _ _⟩
    focus (intro xx yy h; rfl)
    focus kernel_rfl
    apply chP_pure
    focus
      intro xx w' hk hF
      refine wr_load (v := .int .u64 ((ls : Nat) : Int)) rfl rfl rfl ((hkd9 hk).heap hcc9 (fun h => h)) rfl ?_
      apply wr_nil
      exact ⟨rfl, Keeps.refl _ _⟩
    focus (intro xx yy h; rfl)
    focus kernel_rfl
    apply chP_pure
    focus
      intro xx w' hk hF
      apply wr_cmp; (iterate 3 exact rfl); exact cmpF (by dsimp only [cmpN]; omega)
      apply wr_nil
      exact ⟨rfl, Keeps.refl _ _⟩
    focus (intro xx yy h; rfl)
    focus kernel_rfl
    refine chP_nil ?_
    intro xx wa hka' hF
    have hka := hkd9 hka'
    (repeat first | (apply wr_move; exact rfl; with_reducible (conv => enter [6, 3]; whnf)) | (apply wr_assign; exact rfl; with_reducible (conv => enter [6, 3]; whnf)) | apply wr_end | apply wc_region | apply wc_skip | (apply wr_add; (iterate 3 exact rfl); exact w_fit (by dsimp only [kIn]; first | done | omega)) | (apply wc_false; exact rfl))
    exact ⟨m + 1, by omega, ⟨by trivial, by omega, hk9.trans hka⟩, rfl, rfl, rfl, rfl, rfl, rfl, rfl, rfl, rfl, rfl, rfl, rfl, rfl, trivial⟩
  | false =>
    have hkd : ∀ {w'}, Keeps NoB w5.drew w' → Keeps NoB w5 w' := fun hk => (Keeps.refl NoB w5).drew.trans hk
    obtain ⟨dt, hdt⟩ : ∃ dt : TT, dt = [100] ++ xs.take (min xs.length 9) := ⟨_, rfl⟩
    have hdtl : dt.length ≤ 10 := by rw [hdt, List.length_append, List.length_take, List.length_singleton]; omega
    have hdtn : dt ≠ [] := by rw [hdt]; simp
    (repeat first | apply wr_end | apply wc_seq | apply wc_region | (apply wr_fieldAddr; iterate 2 exact rfl) | (apply wr_load; (iterate 3 exact rfl); (focus repeat first | with_reducible assumption | exact heap_alloc_same _ _ | exact World.putObj_heap_same (by first | omega | (simp only [World.size_alloc, World.putObj_size, ne_eq]; omega)) | ((first | refine hAl ?_ ?_ | refine hPu ?_ ?_); focus first | omega | (simp only [World.size_alloc, World.putObj_size, ne_eq]; omega))); exact rfl; conv => enter [6, 3]; whnf) | (apply wc_false; exact rfl))
    refine wc_drawP (l := _) 15 _ (by kernel_rfl) (by kernel_rfl) rfl (by kernel_rfl) (by kernel_rfl) (by decide) ?_
    apply chP_pure
    focus
      intro xx w' hk hF
      apply wr_move; exact rfl; with_reducible (conv => enter [6, 3]; whnf)
      apply wr_nil
      exact ⟨rfl, Keeps.refl _ _⟩
    focus (intro xx yy h; rfl)
    focus kernel_rfl
    apply chP_pure
    focus
      intro xx w' hk hF
      apply wr_move; exact rfl; with_reducible (conv => enter [6, 3]; whnf)
      apply wr_nil
      exact ⟨rfl, Keeps.refl _ _⟩
    focus (intro xx yy h; rfl)
    focus kernel_rfl
    apply chP_pure
    focus
      intro xx w' hk hF
      refine wr_indexAddr (i := i) rfl rfl rfl hlt ?_
      apply wr_nil
      exact ⟨rfl, Keeps.refl _ _⟩
    focus (intro xx yy h; rfl)
    focus kernel_rfl
    apply chP_pure
    focus
      intro xx w' hk hF
      refine wr_fieldAddr rfl rfl ?_
      apply wr_nil
      exact ⟨rfl, Keeps.refl _ _⟩
    focus (intro xx yy h; rfl)
    focus kernel_rfl
    apply chP_pure
    focus
      intro xx w' hk hF
      refine wr_load (v := S xs) rfl rfl rfl ((hkd hk).heap hvb5' (fun h => h)) (hcell 5 _ rfl) ?_
      apply wr_nil
      exact ⟨rfl, Keeps.refl _ _⟩
    focus (intro xx yy h; rfl)
    focus kernel_rfl
    apply chP_pure
    focus
      intro xx w' hk hF
      apply wr_move; exact rfl; with_reducible (conv => enter [6, 3]; whnf)
      apply wr_nil
      exact ⟨rfl, Keeps.refl _ _⟩
    focus (intro xx yy h; rfl)
    focus kernel_rfl
    apply chP_pure
    focus
      intro xx w' hk hF
      apply wr_move; exact rfl; with_reducible (conv => enter [6, 3]; whnf)
      apply wr_nil
      exact ⟨rfl, Keeps.refl _ _⟩
    focus (intro xx yy h; rfl)
    focus kernel_rfl
    apply chP_pure
    focus
      intro xx w' hk hF
      refine wr_indexAddr (i := i) rfl rfl rfl hlt ?_
      apply wr_nil
      exact ⟨rfl, Keeps.refl _ _⟩
    focus (intro xx yy h; rfl)
    focus kernel_rfl
    apply chP_pure
    focus
      intro xx w' hk hF
      refine wr_fieldAddr rfl rfl ?_
      apply wr_nil
      exact ⟨rfl, Keeps.refl _ _⟩
    focus (intro xx yy h; rfl)
    focus kernel_rfl
    apply chP_pure
    focus
      intro xx w' hk hF
      refine wr_load (v := S xs) rfl rfl rfl ((hkd hk).heap hvb5' (fun h => h)) (hcell 5 _ rfl) ?_
      apply wr_nil
      exact ⟨rfl, Keeps.refl _ _⟩
    focus (intro xx yy h; rfl)
    focus kernel_rfl
    apply chP_pure
    focus
      intro xx w' hk hF
      refine wr_len_str rfl rfl ?_
      apply wr_nil
      exact ⟨rfl, Keeps.refl _ _⟩
    focus (intro xx yy h; rfl)
    focus kernel_rfl
    apply chP_pure
    focus
      intro xx w' hk hF
      refine wr_min (c := ((min xs.length 9 : Nat) : Int)) rfl rfl rfl (min_int xs.length 9) ?_
      apply wr_nil
      exact ⟨rfl, Keeps.refl _ _⟩
    focus (intro xx yy h; rfl)
    focus kernel_rfl
    apply chP_pure
    focus
      intro xx w' hk hF
      refine wr_sl_to (j := min xs.length 9) rfl rfl rfl (by omega) ?_
      apply wr_nil
      exact ⟨rfl, Keeps.refl _ _⟩
    focus (intro xx yy h; rfl)
    focus kernel_rfl
    apply chP_pure
    focus
      intro xx w' hk hF
      refine wr_cat (a := [100]) (b := xs.take (min xs.length 9)) rfl rfl rfl (by rw [List.length_take, List.length_singleton]; omega) ?_
      apply wr_nil
      exact ⟨rfl, Keeps.refl _ _⟩
    focus (intro xx yy h; rfl)
    focus kernel_rfl
    apply chP_pure
    focus
      intro xx w' hk hF
      refine wr_fieldAddr rfl rfl ?_
      apply wr_nil
      exact ⟨rfl, Keeps.refl _ _⟩
    focus (intro xx yy h; rfl)
    focus kernel_rfl
    refine chP_nil ?_
    intro xx w6 hk6' hF
    have hk6 := hkd hk6'
    have hcs6 := hk6.heap hcs5 (fun h => h)
    refine wr_store (v := S dt) rfl rfl (by rw [hdt]; try rfl) rfl hcs6 rfl ?_
    refine wr_name ?_
    intro w7 hw7
    have hk7 : Keeps (· = bs) w6 w7 := by rw [hw7]; exact (Keeps.refl _ w6).put _ (fun _ => rfl)
    have hcs7 : w7.heap[bs]? = some (.cells #[.int .i64 kB.1, S kB.2, .int .u64 (q : Int), .bool false, S dt] 35 (0, 0)) := by rw [hw7]; exact World.putObj_heap_same (lt_of_heap hcs6)
    clear hw7
    have h7 := (h5'.keep hk6).keepC hk7 hcs6 (by decide) (by decide) (by decide)
    have hck7 := hk7.heap (hk6.heap hck5' (fun h => h)) (ty_ne (hk6.heap hck5' (fun h => h)) hcs6 (by decide))
    have hct7 := hk7.heap (hk6.heap hct5' (fun h => h)) (ty_ne (hk6.heap hct5' (fun h => h)) hcs6 (by decide))
    have hM7 := (hM5'.keep hk6 (fun h => h)).keep hk7 (fun e => map_cells' (hM5'.keep hk6 (fun h => h)) hcs6 e.symm)
    have hal7 := own_keep (own_keep hal5' hk6 (fun _ _ h => h)) hk7 (fun y hy e => by
      obtain ⟨ac, hac⟩ := own_cells (own_keep hal5' hk6 (fun _ _ h => h)) y hy
      exact ty_ne hac hcs6 (by decide) e)
    have hK7 : Keeps NoB w0 w7 := (hK5'.trans hk6).trans' hk7 (fun y hy e => by omega)
    obtain ⟨hl1, hl2⟩ := hMs4 q
    (repeat first | (apply wr_move; exact rfl; with_reducible (conv => enter [6, 3]; whnf)) | apply wr_end | apply wc_seq | apply wc_region | (apply wr_fieldAddr; iterate 2 exact rfl) | (apply wr_load; (iterate 3 exact rfl); (focus repeat first | with_reducible assumption | exact heap_alloc_same _ _ | exact World.putObj_heap_same (by first | omega | (simp only [World.size_alloc, World.putObj_size, ne_eq]; omega)) | ((first | refine hAl ?_ ?_ | refine hPu ?_ ?_); focus first | omega | (simp only [World.size_alloc, World.putObj_size, ne_eq]; omega))); exact rfl; conv => enter [6, 3]; whnf))
    refine wr_lookupOkV (enc := encI .u64) (l := M4) (a := (q : Int)) (u := S ((bm q).getD [])) (c := (bm q).isSome) rfl rfl hM7 rfl hl1 hl2 ?_
    have hfin : ∀ w8 M8, MapAt w8 (encI .u64) b11 M8 → (∀ r : Nat, (getM M8 (r : Int)).getD (S []) = S ((setB bm q dt r).getD []) ∧ (getM M8 (r : Int)).isSome = (setB bm q dt r).isSome) → Keeps (· = b11) w7 w8 → AcksAt w8 w0.heap.size ab mb L ∧ w8.heap[b2]? = some (.cells #[.int .i64 kB.1, S kB.2] 27 (0, 0)) ∧ w8.heap[b10]? = some (.cells (tkC tk) 30 (0, 0)) ∧ w8.heap[bs]? = some (.cells (GS (kB, q, false, dt)).toArray 35 (0, 0)) ∧ w8.ownsRow w0.heap.size 3 1 av al.length (al.map (Value.int .i64)) ∧ Keeps NoB w0 w8 := fun w8 M8 hM8 _ hk8 => by
      refine ⟨h7.keepX hk8 (fun y e => by subst e; exact hmn4) (fun e => map_cells' hM7 h7.cells e), hk8.heap hck7 (map_cells' hM7 hck7), hk8.heap hct7 (map_cells' hM7 hct7), hk8.heap hcs7 (map_cells' hM7 hcs7), own_keep hal7 hk8 (fun y hy e => ?_), hK7.trans' hk8 (fun y hy e => by omega)⟩
      obtain ⟨ac, hac⟩ := own_cells hal7 y hy
      exact map_cells' hM7 hac e
    cases hbq : bm q with
    | some d0 =>
      have hsB : setB bm q dt = bm := by
        funext r
        unfold setB
        by_cases hr : r = q
        · rw [if_pos hr, hr, hbq]; rfl
        · rw [if_neg hr]
      obtain ⟨h8, hck8, hct8', hcs8, hal8', hK8⟩ := hfin w7 M4 hM7 (by rw [hsB]; exact hMs4) (Keeps.refl _ _)
      have hz8 := hK8.size
      (repeat first | (apply wr_move; exact rfl; with_reducible (conv => enter [6, 3]; whnf)) | (apply wr_assign; exact rfl; with_reducible (conv => enter [6, 3]; whnf)) | apply wr_end | apply wc_seq | apply wc_region | apply wc_skip | (apply wr_not; iterate 2 exact rfl) | (apply wr_extract; (iterate 3 exact rfl); with_reducible (conv => enter [6, 3]; whnf)) | (apply wc_false; exact rfl))
      refine wr_loadAll (cs := GS (kB, q, false, dt)) rfl rfl rfl hcs8 rfl ?_
      refine wr_call (vs := [.pointer (some ⟨ab, 0, none⟩), .int .i64 (id : Int), SdV (kB, q, false, dt)]) rfl (note_ca h8 (by omega) (id : Int) (kB, q, false, dt) (by simp) (by show dt.length ≤ _; omega) (by show q < _; omega)) rfl ?_
      rintro v w9 (⟨hno, _, _⟩ | ⟨_, rfl, L5, h5, hp5, hk9, hs9⟩)
      · exact absurd ⟨stOkB q false dt (by omega) (by omega) (fun h => by cases h), by unfold idOk; omega⟩ hno
      have hck5 := hk9.heap hck8 (h8.free hck8 (by decide) (by decide))
      have hct5 := hk9.heap hct8' (h8.free hct8' (by decide) (by decide))
      have hM5 := hM7.keep hk9 hmn4
      have hmn5 := not_aD hmn4 hs9 hM7.lt
      have hal5 := own_keep hal8' hk9 (fun y hy => by
        obtain ⟨ac, hac⟩ := own_cells hal8' y hy
        exact h8.free hac (by decide) (by decide))
      have hK5 := hA4.keeps hK8 hk9
      have hA5 := hA4.sub hs9 hz8
      obtain ⟨p5, hp5e⟩ : ∃ p5, p5 = noteP ((getL (PL L) kB).getD PN.new) (id : Int) (kB, q, false, dt) := ⟨_, rfl⟩
      have hg5 : getL (PL L5) kB = some p5 := by rw [hp5, getL_put, if_pos rfl, hp5e]
      have hC5 : CInv (some p5) tk bm told := by rw [hp5e, ← hsB]; exact hC4.refused id q kB dt hdtn
      have hMs5 := hMs4
      obtain ⟨tk5, htk5⟩ : ∃ tk5, tk5 = tk := ⟨_, rfl⟩
      rw [← htk5] at hct5 hC5
      obtain ⟨bm5, hbm5⟩ : ∃ bm5, bm5 = bm := ⟨_, rfl⟩
      rw [← hbm5] at hC5 hMs5
      obtain ⟨M5, hM5e⟩ : ∃ M5, M5 = M4 := ⟨_, rfl⟩
      rw [← hM5e] at hM5 hMs5
      have hz5 := hK5.size
      have halF : ∀ q, av.ownBlock = some q → ¬ aD mb L5 q := fun q hq => by
        obtain ⟨acur, hac⟩ := own_cells hal5 q hq
        exact h5.free hac (by decide) (by decide)
      (repeat first | (apply wr_move; exact rfl; with_reducible (conv => enter [6, 3]; whnf)) | apply wr_end | apply wc_seq | apply wc_region | apply wc_skip | (apply wr_cmp; (iterate 3 exact rfl); exact cmpF (by dsimp only [cmpN]; first | done | omega)) | (apply wc_false; exact rfl))
      refine wr_loadAll (cs := [.int .i64 kB.1, S kB.2]) rfl rfl rfl hck5 rfl ?_
      (repeat first | (apply wr_move; exact rfl; with_reducible (conv => enter [6, 3]; whnf)))
      refine wr_call (vs := [.pointer (some ⟨ab, 0, none⟩), encK kB, av]) rfl (ready_ca h5 kB al av (SlR.of_own hal5) (by omega) halF (fun q hq => (hal5.lt q hq).2)) rfl ?_
      rintro r6 w6 ⟨L6, h6, hp6, ho6, hk6, hs6⟩
      have hck6 := hk6.heap hck5 (h5.free hck5 (by decide) (by decide))
      have hct6 := hk6.heap hct5 (h5.free hct5 (by decide) (by decide))
      have hal6 := own_keep hal5 hk6 (fun q hq => halF q hq)
      have hM6 := hM5.keep hk6 hmn5
      have hK6 := hA5.keeps hK5 hk6
      have hA6 := hA5.sub hs6 hz5
      have hmn6 := not_aD hmn5 hs6 hM5.lt
      have hz6 := hK6.size
      obtain ⟨ls, hls⟩ : ∃ ls, ls = leastP (some p5) al := ⟨_, rfl⟩
      have hC6 : CInv (getL (PL L6) kB) tk5 bm5 (if told < ls then ls else told) := by
        rw [hp6]
        unfold afterP
        rw [hg5]
        dsimp only
        rw [getL_put, if_pos rfl, ← hls]
        exact hC5.ready
      obtain ⟨outs, houts⟩ : ∃ outs, outs = readyO kB p5 ls := ⟨_, rfl⟩
      have hoe : outsP (getL (PL L5) kB) kB al = outs := by rw [hg5, houts, hls]; rfl
      rw [hoe] at ho6
      have htold5 : p5.told = told := hC5.told
      have hoAt : ∀ (n : Nat) (x : SD), outs[n]? = some x → (∃ b ∈ p5.bad, x = (kB, b.1, false, b.2.1) ∧ n < (outB kB p5.bad p5.bad.length).length) ∨ (x = (kB, ls, true, []) ∧ told < ls ∧ n = (outB kB p5.bad p5.bad.length).length) := fun n x hx => by
        rw [houts] at hx
        unfold readyO at hx
        rw [htold5] at hx
        rw [List.getElem?_append] at hx
        split at hx
        · rename_i hn
          left
          have hm := List.mem_of_getElem? hx
          unfold outB at hm
          obtain ⟨b, hb, rfl⟩ := List.mem_map.1 hm
          have hb1 := (List.mem_filter.1 hb).1
          exact ⟨b, List.mem_of_mem_take hb1, rfl, hn⟩
        · rename_i hn
          right
          by_cases hlt : told < ls
          · rw [if_pos hlt] at hx
            have h0 := (List.getElem?_eq_some_iff.1 hx).1
            simp only [List.length_singleton] at h0
            have hn0 : n - (outB kB p5.bad p5.bad.length).length = 0 := by omega
            rw [hn0] at hx
            simp at hx
            exact ⟨hx.symm, hlt, by omega⟩
          · rw [if_neg hlt] at hx
            simp at hx
      have holen : outs.length = (outB kB p5.bad p5.bad.length).length + (if told < ls then 1 else 0) := by
        rw [houts]
        unfold readyO
        rw [htold5, List.length_append]
        congr 1
        split <;> rfl
      have hofew : outs.length ≤ 9 := by
        have h1 := outB_le kB p5.bad p5.bad.length
        have h2 : p5.bad.length ≤ 8 := hC5.few
        rw [holen]
        split <;> omega
      obtain ⟨ra, rc, rfl, hrr⟩ := own_row ho6
      obtain ⟨Mx, hMx⟩ : ∃ Mx, Mx = M5 := ⟨_, rfl⟩
      (repeat first | (apply wr_assign; exact rfl; with_reducible (conv => enter [6, 3]; whnf)) | apply wr_end | apply wc_seq | apply wc_region | apply wc_block)
      refine wc_loopL (α := Nat × Nat) (fun p => [(0, .slice (some ⟨vb, vo, none⟩) dl.length vc), (5, .bool true), (6, .pointer (some ⟨ab, 0, none⟩)), (7, .pointer (some ⟨b2, 0, none⟩)), (8, av), (10, .pointer (some ⟨b10, 0, none⟩)), (11, .map (some b11)), (12, .int .u64 (p.2 : Int)), (13, .int .i64 (i : Int)), (18, .slice ra outs.length rc), (19, .int .i64 (p.1 : Int))])
        (fun p ds w' => ds = [] ∧ p.1 ≤ outs.length ∧ p.2 = (if (outB kB p5.bad p5.bad.length).length < p.1 then ls else told) ∧ Keeps NoB w6 w') (fun p => outs.length - p.1) (0, told) ⟨rfl, Nat.zero_le _, by dsimp only; rw [if_neg (by omega)], Keeps.refl _ _⟩ ⟨rfl, rfl, rfl, rfl, rfl, rfl, rfl, rfl, rfl, rfl, rfl, trivial⟩ ?_
      rintro ⟨n, td⟩ ds f2 w7 ⟨rfl, hn, htd, hk7⟩
      dsimp only at hn htd ⊢
      have hK7 := hK6.trans hk7
      by_cases hnl : n < outs.length
      rotate_left
      focus
        have hne : n = outs.length := by omega
        have htd' : td = if told < ls then ls else told := by
          rw [htd, hne, holen]
          by_cases h1 : told < ls
          · rw [if_pos h1, if_pos h1, if_pos (by omega)]
          · rw [if_neg h1, if_neg h1, if_neg (by omega)]
        subst htd'
        (repeat first | (apply wr_move; exact rfl; with_reducible (conv => enter [6, 3]; whnf)) | (apply wr_assign; exact rfl; with_reducible (conv => enter [6, 3]; whnf)) | apply wr_end | apply wc_seq | apply wc_region | (apply wr_len_slice; iterate 2 exact rfl) | (apply wr_cmp; (iterate 3 exact rfl); exact cmpF (by dsimp only [cmpN]; first | done | omega)) | (apply wr_add; (iterate 3 exact rfl); exact w_fit (by dsimp only [kIn]; first | done | omega)) | (apply wc_false; exact rfl) | (apply wc_exit; try simp only [thenE, inBlockE, bodyQ, ↓reduceIte, Nat.reduceEqDiff]))
        exact ⟨(i + 1, L6, tk5, bm5, _), by dsimp only; omega, ⟨by trivial, ⟨by dsimp only; omega, h6.keep hk7, hC6, hk7.heap hck6 (fun h => h), hk7.heap hct6 (fun h => h), ⟨M5, hM6.keep hk7 (fun h => h), hMs5⟩, hmn6, own_keep hal6 hk7 (fun _ _ h => h), hA6, hK7⟩⟩, rfl, rfl, rfl, rfl, rfl, rfl, rfl, rfl, rfl, trivial⟩
      obtain ⟨x, hx⟩ : ∃ x, outs[n]? = some x := ⟨outs[n], by simp [hnl]⟩
      obtain ⟨rb, rcur, rfl, hrb, hrcur, hrrd⟩ := hrr (by omega)
      have hrc7 := hk7.heap hrcur (fun h => h)
      have hrrd' : ∀ j, j < outs.length * 5 → rcur[0 + j]? = (outs.flatMap GS)[j]? := fun j hj => by rw [Nat.zero_add]; exact hrrd j hj
      (repeat first | (apply wr_move; exact rfl; with_reducible (conv => enter [6, 3]; whnf)) | apply wr_end | apply wc_seq | apply wc_region | apply wc_skip | apply wc_block | (apply wr_len_slice; iterate 2 exact rfl) | (apply wr_cmp; (iterate 3 exact rfl); exact cmpT (by dsimp only [cmpP]; first | done | omega)) | (apply wc_true; exact rfl))
      refine wr_indexAddr (i := n) rfl rfl rfl hnl ?_
      refine wr_loadElem (G := GS) (n := outs.length) rfl rfl GS_len rfl hrc7 hrrd' hnl hx rfl ?_
      (repeat first | (apply wr_alloc; exact rfl))
      refine wr_storeAll (cs := GS x) rfl rfl rfl (GS_one x) (heap_alloc_same _ _) rfl rfl ?_
      refine wr_name ?_
      intro w8 hw8
      obtain ⟨b8, hb8⟩ : ∃ b, b = w7.heap.size := ⟨_, rfl⟩
      have hk8 : Keeps NoB w7 w8 := by rw [hw8]; exact ((Keeps.refl NoB w7).alloc _).put _ (fun h => by omega)
      have hc8 : w8.heap[b8]? = some (.cells (GS x).toArray 35 (0, 0)) := by rw [hw8, hb8]; exact World.putObj_heap_same (by simp)
      rw [← hb8]
      clear hw8
      have hk68 := hk7.trans hk8
      have hM8 := hM6.keep hk68 (fun h => h)
      have hct8 := hk68.heap hct6 (fun h => h)
      have hal8 := own_keep hal6 hk68 (fun _ _ h => h)
      rcases hoAt n x hx with ⟨b, hbm, rfl, hnlt⟩ | ⟨rfl, hlt, hne⟩
      focus
        obtain ⟨hb1, hb2⟩ := hC5.b1 b hbm
        obtain ⟨bq, bd, bt⟩ := b
        dsimp only at hb1 hb2
        have hbdne : ¬ bd = [] := hb2
        have hcc8 : w8.heap[b8]? = some (.cells #[.int .i64 kB.1, S kB.2, .int .u64 (bq : Int), .bool false, S bd] 35 (0, 0)) := hc8
        clear hc8
        have hlk := (hMs5 bq).1
        rw [hb1] at hlk
        (repeat first | (apply wr_move; exact rfl; with_reducible (conv => enter [6, 3]; whnf)) | apply wr_end | apply wc_seq | apply wc_region | (apply wr_fieldAddr; iterate 2 exact rfl) | (apply wr_not; iterate 2 exact rfl) | (apply wr_load; (iterate 3 exact rfl); (focus repeat first | with_reducible assumption | exact heap_alloc_same _ _ | exact World.putObj_heap_same (by first | omega | (simp only [World.size_alloc, World.putObj_size, ne_eq]; omega)) | ((first | refine hAl ?_ ?_ | refine hPu ?_ ?_); focus first | omega | (simp only [World.size_alloc, World.putObj_size, ne_eq]; omega))); exact rfl; conv => enter [6, 3]; whnf) | (apply wc_true; exact rfl))
        refine wr_lookupV (enc := encI .u64) (l := M5) (a := (bq : Int)) (u := S bd) rfl rfl hM8 rfl hlk ?_
        (repeat first | (apply wr_move; exact rfl; with_reducible (conv => enter [6, 3]; whnf)) | (apply wr_assign; exact rfl; with_reducible (conv => enter [6, 3]; whnf)) | apply wr_end | apply wc_region | apply wc_skip | (apply wr_fieldAddr; iterate 2 exact rfl) | (apply wr_load; (iterate 3 exact rfl); (focus repeat first | with_reducible assumption | exact heap_alloc_same _ _ | exact World.putObj_heap_same (by first | omega | (simp only [World.size_alloc, World.putObj_size, ne_eq]; omega)) | ((first | refine hAl ?_ ?_ | refine hPu ?_ ?_); focus first | omega | (simp only [World.size_alloc, World.putObj_size, ne_eq]; omega))); exact rfl; conv => enter [6, 3]; whnf) | (apply wr_pick (t := false); (iterate 2 exact rfl); with_reducible (conv => enter [6, 3]; whnf)) | (apply wr_add; (iterate 3 exact rfl); exact w_fit (by dsimp only [kIn]; first | done | omega)) | (apply wr_streqc; (iterate 3 exact rfl); (first | exact decide_eq_true (by with_reducible assumption) | exact decide_eq_false (by with_reducible assumption) | exact decide_eq_true rfl | exact rfl)) | (apply wr_strnec; (iterate 3 exact rfl); (first | exact decide_eq_true (by with_reducible assumption) | exact decide_eq_false (by with_reducible assumption) | exact decide_eq_true rfl | exact rfl); with_reducible (conv => enter [6, 3]; whnf)) | (apply wc_false; exact rfl) | (apply wc_exit; try simp only [thenE, inBlockE, bodyQ, ↓reduceIte, Nat.reduceEqDiff]))
        exact ⟨(n + 1, td), by dsimp only; omega, ⟨by trivial, by dsimp only; omega, by dsimp only; rw [htd, if_neg (by omega), if_neg (by omega)], hk68⟩, rfl, rfl, rfl, rfl, rfl, rfl, rfl, rfl, rfl, rfl, rfl, trivial⟩
      have htdT : td = told := by rw [htd, if_neg (by omega)]
      subst htdT
      have hcc8 : w8.heap[b8]? = some (.cells #[.int .i64 kB.1, S kB.2, .int .u64 (ls : Int), .bool true, S []] 35 (0, 0)) := hc8
      clear hc8
      have halne : 0 < al.length := by
        rcases Nat.eq_zero_or_pos al.length with h0 | h0
        · have : al = [] := List.eq_nil_of_length_eq_zero h0
          rw [this] at hls
          have : ls = 0 := hls
          omega
        · exact h0
      obtain ⟨aa, ac, hav, har⟩ := own_row hal8
      subst hav
      obtain ⟨a0, acur, rfl, ha0, hacur, hard⟩ := har halne
      (repeat first | (apply wr_move; exact rfl; with_reducible (conv => enter [6, 3]; whnf)) | (apply wr_assign; exact rfl; with_reducible (conv => enter [6, 3]; whnf)) | apply wr_end | apply wc_seq | apply wc_region | apply wc_skip | apply wc_block | (apply wr_fieldAddr; iterate 2 exact rfl) | (apply wr_not; iterate 2 exact rfl) | (apply wr_len_slice; iterate 2 exact rfl) | (apply wr_load; (iterate 3 exact rfl); (focus repeat first | with_reducible assumption | exact heap_alloc_same _ _ | exact World.putObj_heap_same (by first | omega | (simp only [World.size_alloc, World.putObj_size, ne_eq]; omega)) | ((first | refine hAl ?_ ?_ | refine hPu ?_ ?_); focus first | omega | (simp only [World.size_alloc, World.putObj_size, ne_eq]; omega))); exact rfl; conv => enter [6, 3]; whnf) | (apply wr_cmp; (iterate 3 exact rfl); exact cmpF (by dsimp only [cmpN]; first | done | omega)) | (apply wr_pick (t := false); (iterate 2 exact rfl); with_reducible (conv => enter [6, 3]; whnf)) | (apply wc_false; exact rfl))
      refine wc_loopL (α := Nat) (fun m => [(0, .slice (some ⟨vb, vo, none⟩) dl.length vc), (5, .bool true), (6, .pointer (some ⟨ab, 0, none⟩)), (7, .pointer (some ⟨b2, 0, none⟩)), (8, .slice (some ⟨a0, 0, none⟩) al.length ac), (10, .pointer (some ⟨b10, 0, none⟩)), (11, .map (some b11)), (12, .int .u64 (ls : Int)), (13, .int .i64 (i : Int)), (18, .slice (some ⟨rb, 0, none⟩) outs.length rc), (19, .int .i64 (n : Int)), (20, .pointer (some ⟨b8, 0, none⟩)), (21, .int .i64 (m : Int))])
        (fun m ds w' => ds = [] ∧ m ≤ al.length ∧ Keeps NoB w8 w') (fun m => al.length - m) 0 ⟨rfl, Nat.zero_le _, Keeps.refl _ _⟩ ⟨rfl, rfl, rfl, rfl, rfl, rfl, rfl, rfl, rfl, rfl, rfl, rfl, rfl, trivial⟩ ?_
      rintro m ds f3 w9 ⟨rfl, hm, hk9⟩
      by_cases hml : m < al.length
      rotate_left
      focus
        (repeat first | (apply wr_move; exact rfl; with_reducible (conv => enter [6, 3]; whnf)) | (apply wr_assign; exact rfl; with_reducible (conv => enter [6, 3]; whnf)) | apply wr_end | apply wc_seq | apply wc_region | (apply wr_len_slice; iterate 2 exact rfl) | (apply wr_cmp; (iterate 3 exact rfl); exact cmpF (by dsimp only [cmpN]; first | done | omega)) | (apply wr_add; (iterate 3 exact rfl); exact w_fit (by dsimp only [kIn]; first | done | omega)) | (apply wc_false; exact rfl) | (apply wc_exit; try simp only [thenE, inBlockE, bodyQ, ↓reduceIte, Nat.reduceEqDiff]))
        exact ⟨(n + 1, ls), by dsimp only; omega, ⟨by trivial, by dsimp only; omega, by dsimp only; rw [if_pos (by omega)], hk68.trans hk9⟩, rfl, rfl, rfl, rfl, rfl, rfl, rfl, rfl, rfl, rfl, rfl, trivial⟩
      obtain ⟨z, hz⟩ : ∃ z, al[m]? = some z := ⟨al[m], by simp [hml]⟩
      have hzb := hab4 z (List.mem_of_getElem? hz)
      obtain ⟨zn, rfl⟩ := Int.eq_ofNat_of_zero_le (show 0 ≤ z by omega)
      have hac9 := hk9.heap hacur (fun h => h)
      have hct9 := hk9.heap hct8 (fun h => h)
      have hcc9 := hk9.heap hcc8 (fun h => h)
      have hzc : acur[0 + m * 1]? = some (.int .i64 (zn : Int)) := by rw [Nat.zero_add, Nat.mul_one, hard m (by omega), List.getElem?_map, hz]; rfl
      have hle : ls ≤ tk5 zn := by
        have h1 := leastP_le p5 al (zn : Int) (List.mem_of_getElem? hz)
        rw [← hls] at h1
        have h2 : p5.T (zn : Int) = tk5 zn := hC5.t zn (by omega) (by omega)
        omega
      have hkd9 : ∀ {w'}, Keeps NoB w9.drew w' → Keeps NoB w9 w' := fun hk => (Keeps.refl NoB w9).drew.trans hk
      (repeat first | (apply wr_move; exact rfl; with_reducible (conv => enter [6, 3]; whnf)) | apply wr_end | apply wc_seq | apply wc_region | apply wc_skip | apply wc_block | (apply wr_len_slice; iterate 2 exact rfl) | (apply wr_cmp; (iterate 3 exact rfl); exact cmpT (by dsimp only [cmpP]; first | done | omega)) | (apply wc_true; exact rfl))
      refine wc_drawP (l := _) 9 _ (by kernel_rfl) (by kernel_rfl) rfl (by kernel_rfl) (by kernel_rfl) (by decide) ?_
      apply chP_pure
      focus
        intro xx w' hk hF
        apply wr_move; exact rfl; with_reducible (conv => enter [6, 3]; whnf)
        apply wr_nil
        exact ⟨rfl, Keeps.refl _ _⟩
      focus (intro xx yy h; rfl)
      focus kernel_rfl
      apply chP_pure
      focus
        intro xx w' hk hF
        apply wr_move; exact rfl; with_reducible (conv => enter [6, 3]; whnf)
        apply wr_nil
        exact ⟨rfl, Keeps.refl _ _⟩
      focus (intro xx yy h; rfl)
      focus kernel_rfl
      apply chP_pure
      focus
        intro xx w' hk hF
        refine wr_indexAddr (i := m) rfl rfl rfl hml ?_
        apply wr_nil
        exact ⟨rfl, Keeps.refl _ _⟩
      focus (intro xx yy h; rfl)
      focus kernel_rfl
      apply chP_pure
      focus
        intro xx w' hk hF
        refine wr_load (v := .int .i64 (zn : Int)) rfl rfl rfl ((hkd9 hk).heap hac9 (fun h => h)) hzc ?_
        apply wr_nil
        exact ⟨rfl, Keeps.refl _ _⟩
      focus (intro xx yy h; rfl)
      focus kernel_rfl
      apply chP_pure
      focus
        intro xx w' hk hF
        refine wr_indexArr (i := zn) rfl rfl rfl (by omega) ?_
        apply wr_nil
        exact ⟨rfl, Keeps.refl _ _⟩
      focus (intro xx yy h; rfl)
      focus kernel_rfl
      apply chP_pure
      focus
        intro xx w' hk hF
        refine wr_load (v := .int .u64 ((tk5 zn : Nat) : Int)) rfl rfl rfl ((hkd9 hk).heap hct9 (fun h => h)) (tkC_at tk5 (by omega)) ?_
        apply wr_nil
        exact ⟨rfl, Keeps.refl _ _⟩
      focus (intro xx yy h; rfl)
      focus kernel_rfl
      apply chP_pure
      focus
        intro xx w' hk hF
        refine wr_fieldAddr rfl rfl ?_
        apply wr_nil
        exact ⟨rfl, Keeps.refl _ _⟩
      focus (intro xx yy h; rfl)
      focus kernel_rfl
      apply chP_pure
      focus
        intro xx w' hk hF
        refine wr_load (v := .int .u64 ((ls : Nat) : Int)) rfl rfl rfl ((hkd9 hk).heap hcc9 (fun h => h)) rfl ?_
        apply wr_nil
        exact ⟨rfl, Keeps.refl _ _⟩
      focus (intro xx yy h; rfl)
      focus kernel_rfl
      apply chP_pure
      focus
        intro xx w' hk hF
        apply wr_cmp; (iterate 3 exact rfl); exact cmpF (by dsimp only [cmpN]; omega)
        apply wr_nil
        exact ⟨rfl, Keeps.refl _ _⟩
      focus (intro xx yy h; rfl)
      focus kernel_rfl
      refine chP_nil ?_
      intro xx wa hka' hF
      have hka := hkd9 hka'
      (repeat first | (apply wr_move; exact rfl; with_reducible (conv => enter [6, 3]; whnf)) | (apply wr_assign; exact rfl; with_reducible (conv => enter [6, 3]; whnf)) | apply wr_end | apply wc_region | apply wc_skip | (apply wr_add; (iterate 3 exact rfl); exact w_fit (by dsimp only [kIn]; first | done | omega)) | (apply wc_false; exact rfl))
      exact ⟨m + 1, by omega, ⟨by trivial, by omega, hk9.trans hka⟩, rfl, rfl, rfl, rfl, rfl, rfl, rfl, rfl, rfl, rfl, rfl, rfl, rfl, trivial⟩
    | none =>
      (repeat first | (apply wr_move; exact rfl; with_reducible (conv => enter [6, 3]; whnf)) | (apply wr_assign; exact rfl; with_reducible (conv => enter [6, 3]; whnf)) | apply wr_end | apply wc_seq | apply wc_region | (apply wr_fieldAddr; iterate 2 exact rfl) | (apply wr_not; iterate 2 exact rfl) | (apply wr_load; (iterate 3 exact rfl); (focus repeat first | with_reducible assumption | exact heap_alloc_same _ _ | exact World.putObj_heap_same (by first | omega | (simp only [World.size_alloc, World.putObj_size, ne_eq]; omega)) | ((first | refine hAl ?_ ?_ | refine hPu ?_ ?_); focus first | omega | (simp only [World.size_alloc, World.putObj_size, ne_eq]; omega))); exact rfl; conv => enter [6, 3]; whnf) | (apply wr_extract; (iterate 3 exact rfl); with_reducible (conv => enter [6, 3]; whnf)) | (apply wc_true; exact rfl))
      refine wr_update (enc := encI .u64) (l := M4) (a := (q : Int)) (v := S dt) rfl rfl hM7 rfl rfl ?_
      intro w8 hM8 hk8
      have hMs8 : ∀ r : Nat, (getM (putM M4 (q : Int) (S dt)) (r : Int)).getD (S []) = S ((setB bm q dt r).getD []) ∧ (getM (putM M4 (q : Int) (S dt)) (r : Int)).isSome = (setB bm q dt r).isSome := fun r => by
        rw [getM_putM]
        unfold setB
        by_cases hr : r = q
        · rw [if_pos (by omega), if_pos hr, hbq]; exact ⟨rfl, rfl⟩
        · rw [if_neg (by omega), if_neg hr]; exact hMs4 r
      obtain ⟨h8, hck8, hct8', hcs8, hal8', hK8⟩ := hfin w8 _ hM8 hMs8 hk8
      have hz8 := hK8.size
      (repeat first | (apply wr_move; exact rfl; with_reducible (conv => enter [6, 3]; whnf)) | apply wr_end | apply wc_seq | apply wc_region)
      refine wr_loadAll (cs := GS (kB, q, false, dt)) rfl rfl rfl hcs8 rfl ?_
      refine wr_call (vs := [.pointer (some ⟨ab, 0, none⟩), .int .i64 (id : Int), SdV (kB, q, false, dt)]) rfl (note_ca h8 (by omega) (id : Int) (kB, q, false, dt) (by simp) (by show dt.length ≤ _; omega) (by show q < _; omega)) rfl ?_
      rintro v w9 (⟨hno, _, _⟩ | ⟨_, rfl, L5, h5, hp5, hk9, hs9⟩)
      · exact absurd ⟨stOkB q false dt (by omega) (by omega) (fun h => by cases h), by unfold idOk; omega⟩ hno
      have hck5 := hk9.heap hck8 (h8.free hck8 (by decide) (by decide))
      have hct5 := hk9.heap hct8' (h8.free hct8' (by decide) (by decide))
      have hM5 := hM8.keep hk9 hmn4
      have hmn5 := not_aD hmn4 hs9 hM8.lt
      have hal5 := own_keep hal8' hk9 (fun y hy => by
        obtain ⟨ac, hac⟩ := own_cells hal8' y hy
        exact h8.free hac (by decide) (by decide))
      have hK5 := hA4.keeps hK8 hk9
      have hA5 := hA4.sub hs9 hz8
      obtain ⟨p5, hp5e⟩ : ∃ p5, p5 = noteP ((getL (PL L) kB).getD PN.new) (id : Int) (kB, q, false, dt) := ⟨_, rfl⟩
      have hg5 : getL (PL L5) kB = some p5 := by rw [hp5, getL_put, if_pos rfl, hp5e]
      have hC5 : CInv (some p5) tk (setB bm q dt) told := by rw [hp5e]; exact hC4.refused id q kB dt hdtn
      have hMs5 := hMs8
      obtain ⟨tk5, htk5⟩ : ∃ tk5, tk5 = tk := ⟨_, rfl⟩
      rw [← htk5] at hct5 hC5
      generalize setB bm q dt = bm5 at hC5 hMs5
      generalize putM M4 (q : Int) (S dt) = M5 at hM5 hMs5
      have hz5 := hK5.size
      have halF : ∀ q, av.ownBlock = some q → ¬ aD mb L5 q := fun q hq => by
        obtain ⟨acur, hac⟩ := own_cells hal5 q hq
        exact h5.free hac (by decide) (by decide)
      (repeat first | (apply wr_move; exact rfl; with_reducible (conv => enter [6, 3]; whnf)) | apply wr_end | apply wc_seq | apply wc_region | apply wc_skip | (apply wr_cmp; (iterate 3 exact rfl); exact cmpF (by dsimp only [cmpN]; first | done | omega)) | (apply wc_false; exact rfl))
      refine wr_loadAll (cs := [.int .i64 kB.1, S kB.2]) rfl rfl rfl hck5 rfl ?_
      (repeat first | (apply wr_move; exact rfl; with_reducible (conv => enter [6, 3]; whnf)))
      refine wr_call (vs := [.pointer (some ⟨ab, 0, none⟩), encK kB, av]) rfl (ready_ca h5 kB al av (SlR.of_own hal5) (by omega) halF (fun q hq => (hal5.lt q hq).2)) rfl ?_
      rintro r6 w6 ⟨L6, h6, hp6, ho6, hk6, hs6⟩
      have hck6 := hk6.heap hck5 (h5.free hck5 (by decide) (by decide))
      have hct6 := hk6.heap hct5 (h5.free hct5 (by decide) (by decide))
      have hal6 := own_keep hal5 hk6 (fun q hq => halF q hq)
      have hM6 := hM5.keep hk6 hmn5
      have hK6 := hA5.keeps hK5 hk6
      have hA6 := hA5.sub hs6 hz5
      have hmn6 := not_aD hmn5 hs6 hM5.lt
      have hz6 := hK6.size
      obtain ⟨ls, hls⟩ : ∃ ls, ls = leastP (some p5) al := ⟨_, rfl⟩
      have hC6 : CInv (getL (PL L6) kB) tk5 bm5 (if told < ls then ls else told) := by
        rw [hp6]
        unfold afterP
        rw [hg5]
        dsimp only
        rw [getL_put, if_pos rfl, ← hls]
        exact hC5.ready
      obtain ⟨outs, houts⟩ : ∃ outs, outs = readyO kB p5 ls := ⟨_, rfl⟩
      have hoe : outsP (getL (PL L5) kB) kB al = outs := by rw [hg5, houts, hls]; rfl
      rw [hoe] at ho6
      have htold5 : p5.told = told := hC5.told
      have hoAt : ∀ (n : Nat) (x : SD), outs[n]? = some x → (∃ b ∈ p5.bad, x = (kB, b.1, false, b.2.1) ∧ n < (outB kB p5.bad p5.bad.length).length) ∨ (x = (kB, ls, true, []) ∧ told < ls ∧ n = (outB kB p5.bad p5.bad.length).length) := fun n x hx => by
        rw [houts] at hx
        unfold readyO at hx
        rw [htold5] at hx
        rw [List.getElem?_append] at hx
        split at hx
        · rename_i hn
          left
          have hm := List.mem_of_getElem? hx
          unfold outB at hm
          obtain ⟨b, hb, rfl⟩ := List.mem_map.1 hm
          have hb1 := (List.mem_filter.1 hb).1
          exact ⟨b, List.mem_of_mem_take hb1, rfl, hn⟩
        · rename_i hn
          right
          by_cases hlt : told < ls
          · rw [if_pos hlt] at hx
            have h0 := (List.getElem?_eq_some_iff.1 hx).1
            simp only [List.length_singleton] at h0
            have hn0 : n - (outB kB p5.bad p5.bad.length).length = 0 := by omega
            rw [hn0] at hx
            simp at hx
            exact ⟨hx.symm, hlt, by omega⟩
          · rw [if_neg hlt] at hx
            simp at hx
      have holen : outs.length = (outB kB p5.bad p5.bad.length).length + (if told < ls then 1 else 0) := by
        rw [houts]
        unfold readyO
        rw [htold5, List.length_append]
        congr 1
        split <;> rfl
      have hofew : outs.length ≤ 9 := by
        have h1 := outB_le kB p5.bad p5.bad.length
        have h2 : p5.bad.length ≤ 8 := hC5.few
        rw [holen]
        split <;> omega
      obtain ⟨ra, rc, rfl, hrr⟩ := own_row ho6
      obtain ⟨Mx, hMx⟩ : ∃ Mx, Mx = M5 := ⟨_, rfl⟩
      (repeat first | (apply wr_assign; exact rfl; with_reducible (conv => enter [6, 3]; whnf)) | apply wr_end | apply wc_seq | apply wc_region | apply wc_block)
      refine wc_loopL (α := Nat × Nat) (fun p => [(0, .slice (some ⟨vb, vo, none⟩) dl.length vc), (5, .bool true), (6, .pointer (some ⟨ab, 0, none⟩)), (7, .pointer (some ⟨b2, 0, none⟩)), (8, av), (10, .pointer (some ⟨b10, 0, none⟩)), (11, .map (some b11)), (12, .int .u64 (p.2 : Int)), (13, .int .i64 (i : Int)), (18, .slice ra outs.length rc), (19, .int .i64 (p.1 : Int))])
        (fun p ds w' => ds = [] ∧ p.1 ≤ outs.length ∧ p.2 = (if (outB kB p5.bad p5.bad.length).length < p.1 then ls else told) ∧ Keeps NoB w6 w') (fun p => outs.length - p.1) (0, told) ⟨rfl, Nat.zero_le _, by dsimp only; rw [if_neg (by omega)], Keeps.refl _ _⟩ ⟨rfl, rfl, rfl, rfl, rfl, rfl, rfl, rfl, rfl, rfl, rfl, trivial⟩ ?_
      rintro ⟨n, td⟩ ds f2 w7 ⟨rfl, hn, htd, hk7⟩
      dsimp only at hn htd ⊢
      have hK7 := hK6.trans hk7
      by_cases hnl : n < outs.length
      rotate_left
      focus
        have hne : n = outs.length := by omega
        have htd' : td = if told < ls then ls else told := by
          rw [htd, hne, holen]
          by_cases h1 : told < ls
          · rw [if_pos h1, if_pos h1, if_pos (by omega)]
          · rw [if_neg h1, if_neg h1, if_neg (by omega)]
        subst htd'
        (repeat first | (apply wr_move; exact rfl; with_reducible (conv => enter [6, 3]; whnf)) | (apply wr_assign; exact rfl; with_reducible (conv => enter [6, 3]; whnf)) | apply wr_end | apply wc_seq | apply wc_region | (apply wr_len_slice; iterate 2 exact rfl) | (apply wr_cmp; (iterate 3 exact rfl); exact cmpF (by dsimp only [cmpN]; first | done | omega)) | (apply wr_add; (iterate 3 exact rfl); exact w_fit (by dsimp only [kIn]; first | done | omega)) | (apply wc_false; exact rfl) | (apply wc_exit; try simp only [thenE, inBlockE, bodyQ, ↓reduceIte, Nat.reduceEqDiff]))
        exact ⟨(i + 1, L6, tk5, bm5, _), by dsimp only; omega, ⟨by trivial, ⟨by dsimp only; omega, h6.keep hk7, hC6, hk7.heap hck6 (fun h => h), hk7.heap hct6 (fun h => h), ⟨M5, hM6.keep hk7 (fun h => h), hMs5⟩, hmn6, own_keep hal6 hk7 (fun _ _ h => h), hA6, hK7⟩⟩, rfl, rfl, rfl, rfl, rfl, rfl, rfl, rfl, rfl, trivial⟩
      obtain ⟨x, hx⟩ : ∃ x, outs[n]? = some x := ⟨outs[n], by simp [hnl]⟩
      obtain ⟨rb, rcur, rfl, hrb, hrcur, hrrd⟩ := hrr (by omega)
      have hrc7 := hk7.heap hrcur (fun h => h)
      have hrrd' : ∀ j, j < outs.length * 5 → rcur[0 + j]? = (outs.flatMap GS)[j]? := fun j hj => by rw [Nat.zero_add]; exact hrrd j hj
      (repeat first | (apply wr_move; exact rfl; with_reducible (conv => enter [6, 3]; whnf)) | apply wr_end | apply wc_seq | apply wc_region | apply wc_skip | apply wc_block | (apply wr_len_slice; iterate 2 exact rfl) | (apply wr_cmp; (iterate 3 exact rfl); exact cmpT (by dsimp only [cmpP]; first | done | omega)) | (apply wc_true; exact rfl))
      refine wr_indexAddr (i := n) rfl rfl rfl hnl ?_
      refine wr_loadElem (G := GS) (n := outs.length) rfl rfl GS_len rfl hrc7 hrrd' hnl hx rfl ?_
      (repeat first | (apply wr_alloc; exact rfl))
      refine wr_storeAll (cs := GS x) rfl rfl rfl (GS_one x) (heap_alloc_same _ _) rfl rfl ?_
      refine wr_name ?_
      intro w8 hw8
      obtain ⟨b8, hb8⟩ : ∃ b, b = w7.heap.size := ⟨_, rfl⟩
      have hk8 : Keeps NoB w7 w8 := by rw [hw8]; exact ((Keeps.refl NoB w7).alloc _).put _ (fun h => by omega)
      have hc8 : w8.heap[b8]? = some (.cells (GS x).toArray 35 (0, 0)) := by rw [hw8, hb8]; exact World.putObj_heap_same (by simp)
      rw [← hb8]
      clear hw8
      have hk68 := hk7.trans hk8
      have hM8 := hM6.keep hk68 (fun h => h)
      have hct8 := hk68.heap hct6 (fun h => h)
      have hal8 := own_keep hal6 hk68 (fun _ _ h => h)
      rcases hoAt n x hx with ⟨b, hbm, rfl, hnlt⟩ | ⟨rfl, hlt, hne⟩
      focus
        obtain ⟨hb1, hb2⟩ := hC5.b1 b hbm
        obtain ⟨bq, bd, bt⟩ := b
        dsimp only at hb1 hb2
        have hbdne : ¬ bd = [] := hb2
        have hcc8 : w8.heap[b8]? = some (.cells #[.int .i64 kB.1, S kB.2, .int .u64 (bq : Int), .bool false, S bd] 35 (0, 0)) := hc8
        clear hc8
        have hlk := (hMs5 bq).1
        rw [hb1] at hlk
        (repeat first | (apply wr_move; exact rfl; with_reducible (conv => enter [6, 3]; whnf)) | apply wr_end | apply wc_seq | apply wc_region | (apply wr_fieldAddr; iterate 2 exact rfl) | (apply wr_not; iterate 2 exact rfl) | (apply wr_load; (iterate 3 exact rfl); (focus repeat first | with_reducible assumption | exact heap_alloc_same _ _ | exact World.putObj_heap_same (by first | omega | (simp only [World.size_alloc, World.putObj_size, ne_eq]; omega)) | ((first | refine hAl ?_ ?_ | refine hPu ?_ ?_); focus first | omega | (simp only [World.size_alloc, World.putObj_size, ne_eq]; omega))); exact rfl; conv => enter [6, 3]; whnf) | (apply wc_true; exact rfl))
        refine wr_lookupV (enc := encI .u64) (l := M5) (a := (bq : Int)) (u := S bd) rfl rfl hM8 rfl hlk ?_
        (repeat first | (apply wr_move; exact rfl; with_reducible (conv => enter [6, 3]; whnf)) | (apply wr_assign; exact rfl; with_reducible (conv => enter [6, 3]; whnf)) | apply wr_end | apply wc_region | apply wc_skip | (apply wr_fieldAddr; iterate 2 exact rfl) | (apply wr_load; (iterate 3 exact rfl); (focus repeat first | with_reducible assumption | exact heap_alloc_same _ _ | exact World.putObj_heap_same (by first | omega | (simp only [World.size_alloc, World.putObj_size, ne_eq]; omega)) | ((first | refine hAl ?_ ?_ | refine hPu ?_ ?_); focus first | omega | (simp only [World.size_alloc, World.putObj_size, ne_eq]; omega))); exact rfl; conv => enter [6, 3]; whnf) | (apply wr_pick (t := false); (iterate 2 exact rfl); with_reducible (conv => enter [6, 3]; whnf)) | (apply wr_add; (iterate 3 exact rfl); exact w_fit (by dsimp only [kIn]; first | done | omega)) | (apply wr_streqc; (iterate 3 exact rfl); (first | exact decide_eq_true (by with_reducible assumption) | exact decide_eq_false (by with_reducible assumption) | exact decide_eq_true rfl | exact rfl)) | (apply wr_strnec; (iterate 3 exact rfl); (first | exact decide_eq_true (by with_reducible assumption) | exact decide_eq_false (by with_reducible assumption) | exact decide_eq_true rfl | exact rfl); with_reducible (conv => enter [6, 3]; whnf)) | (apply wc_false; exact rfl) | (apply wc_exit; try simp only [thenE, inBlockE, bodyQ, ↓reduceIte, Nat.reduceEqDiff]))
        exact ⟨(n + 1, td), by dsimp only; omega, ⟨by trivial, by dsimp only; omega, by dsimp only; rw [htd, if_neg (by omega), if_neg (by omega)], hk68⟩, rfl, rfl, rfl, rfl, rfl, rfl, rfl, rfl, rfl, rfl, rfl, trivial⟩
      have htdT : td = told := by rw [htd, if_neg (by omega)]
      subst htdT
      have hcc8 : w8.heap[b8]? = some (.cells #[.int .i64 kB.1, S kB.2, .int .u64 (ls : Int), .bool true, S []] 35 (0, 0)) := hc8
      clear hc8
      have halne : 0 < al.length := by
        rcases Nat.eq_zero_or_pos al.length with h0 | h0
        · have : al = [] := List.eq_nil_of_length_eq_zero h0
          rw [this] at hls
          have : ls = 0 := hls
          omega
        · exact h0
      obtain ⟨aa, ac, hav, har⟩ := own_row hal8
      subst hav
      obtain ⟨a0, acur, rfl, ha0, hacur, hard⟩ := har halne
      (repeat first | (apply wr_move; exact rfl; with_reducible (conv => enter [6, 3]; whnf)) | (apply wr_assign; exact rfl; with_reducible (conv => enter [6, 3]; whnf)) | apply wr_end | apply wc_seq | apply wc_region | apply wc_skip | apply wc_block | (apply wr_fieldAddr; iterate 2 exact rfl) | (apply wr_not; iterate 2 exact rfl) | (apply wr_len_slice; iterate 2 exact rfl) | (apply wr_load; (iterate 3 exact rfl); (focus repeat first | with_reducible assumption | exact heap_alloc_same _ _ | exact World.putObj_heap_same (by first | omega | (simp only [World.size_alloc, World.putObj_size, ne_eq]; omega)) | ((first | refine hAl ?_ ?_ | refine hPu ?_ ?_); focus first | omega | (simp only [World.size_alloc, World.putObj_size, ne_eq]; omega))); exact rfl; conv => enter [6, 3]; whnf) | (apply wr_cmp; (iterate 3 exact rfl); exact cmpF (by dsimp only [cmpN]; first | done | omega)) | (apply wr_pick (t := false); (iterate 2 exact rfl); with_reducible (conv => enter [6, 3]; whnf)) | (apply wc_false; exact rfl))
      refine wc_loopL (α := Nat) (fun m => [(0, .slice (some ⟨vb, vo, none⟩) dl.length vc), (5, .bool true), (6, .pointer (some ⟨ab, 0, none⟩)), (7, .pointer (some ⟨b2, 0, none⟩)), (8, .slice (some ⟨a0, 0, none⟩) al.length ac), (10, .pointer (some ⟨b10, 0, none⟩)), (11, .map (some b11)), (12, .int .u64 (ls : Int)), (13, .int .i64 (i : Int)), (18, .slice (some ⟨rb, 0, none⟩) outs.length rc), (19, .int .i64 (n : Int)), (20, .pointer (some ⟨b8, 0, none⟩)), (21, .int .i64 (m : Int))])
        (fun m ds w' => ds = [] ∧ m ≤ al.length ∧ Keeps NoB w8 w') (fun m => al.length - m) 0 ⟨rfl, Nat.zero_le _, Keeps.refl _ _⟩ ⟨rfl, rfl, rfl, rfl, rfl, rfl, rfl, rfl, rfl, rfl, rfl, rfl, rfl, trivial⟩ ?_
      rintro m ds f3 w9 ⟨rfl, hm, hk9⟩
      by_cases hml : m < al.length
      rotate_left
      focus
        (repeat first | (apply wr_move; exact rfl; with_reducible (conv => enter [6, 3]; whnf)) | (apply wr_assign; exact rfl; with_reducible (conv => enter [6, 3]; whnf)) | apply wr_end | apply wc_seq | apply wc_region | (apply wr_len_slice; iterate 2 exact rfl) | (apply wr_cmp; (iterate 3 exact rfl); exact cmpF (by dsimp only [cmpN]; first | done | omega)) | (apply wr_add; (iterate 3 exact rfl); exact w_fit (by dsimp only [kIn]; first | done | omega)) | (apply wc_false; exact rfl) | (apply wc_exit; try simp only [thenE, inBlockE, bodyQ, ↓reduceIte, Nat.reduceEqDiff]))
        exact ⟨(n + 1, ls), by dsimp only; omega, ⟨by trivial, by dsimp only; omega, by dsimp only; rw [if_pos (by omega)], hk68.trans hk9⟩, rfl, rfl, rfl, rfl, rfl, rfl, rfl, rfl, rfl, rfl, rfl, trivial⟩
      obtain ⟨z, hz⟩ : ∃ z, al[m]? = some z := ⟨al[m], by simp [hml]⟩
      have hzb := hab4 z (List.mem_of_getElem? hz)
      obtain ⟨zn, rfl⟩ := Int.eq_ofNat_of_zero_le (show 0 ≤ z by omega)
      have hac9 := hk9.heap hacur (fun h => h)
      have hct9 := hk9.heap hct8 (fun h => h)
      have hcc9 := hk9.heap hcc8 (fun h => h)
      have hzc : acur[0 + m * 1]? = some (.int .i64 (zn : Int)) := by rw [Nat.zero_add, Nat.mul_one, hard m (by omega), List.getElem?_map, hz]; rfl
      have hle : ls ≤ tk5 zn := by
        have h1 := leastP_le p5 al (zn : Int) (List.mem_of_getElem? hz)
        rw [← hls] at h1
        have h2 : p5.T (zn : Int) = tk5 zn := hC5.t zn (by omega) (by omega)
        omega
      have hkd9 : ∀ {w'}, Keeps NoB w9.drew w' → Keeps NoB w9 w' := fun hk => (Keeps.refl NoB w9).drew.trans hk
      (repeat first | (apply wr_move; exact rfl; with_reducible (conv => enter [6, 3]; whnf)) | apply wr_end | apply wc_seq | apply wc_region | apply wc_skip | apply wc_block | (apply wr_len_slice; iterate 2 exact rfl) | (apply wr_cmp; (iterate 3 exact rfl); exact cmpT (by dsimp only [cmpP]; first | done | omega)) | (apply wc_true; exact rfl))
      refine wc_drawP (l := _) 9 _ (by kernel_rfl) (by kernel_rfl) rfl (by kernel_rfl) (by kernel_rfl) (by decide) ?_
      apply chP_pure
      focus
        intro xx w' hk hF
        apply wr_move; exact rfl; with_reducible (conv => enter [6, 3]; whnf)
        apply wr_nil
        exact ⟨rfl, Keeps.refl _ _⟩
      focus (intro xx yy h; rfl)
      focus kernel_rfl
      apply chP_pure
      focus
        intro xx w' hk hF
        apply wr_move; exact rfl; with_reducible (conv => enter [6, 3]; whnf)
        apply wr_nil
        exact ⟨rfl, Keeps.refl _ _⟩
      focus (intro xx yy h; rfl)
      focus kernel_rfl
      apply chP_pure
      focus
        intro xx w' hk hF
        refine wr_indexAddr (i := m) rfl rfl rfl hml ?_
        apply wr_nil
        exact ⟨rfl, Keeps.refl _ _⟩
      focus (intro xx yy h; rfl)
      focus kernel_rfl
      apply chP_pure
      focus
        intro xx w' hk hF
        refine wr_load (v := .int .i64 (zn : Int)) rfl rfl rfl ((hkd9 hk).heap hac9 (fun h => h)) hzc ?_
        apply wr_nil
        exact ⟨rfl, Keeps.refl _ _⟩
      focus (intro xx yy h; rfl)
      focus kernel_rfl
      apply chP_pure
      focus
        intro xx w' hk hF
        refine wr_indexArr (i := zn) rfl rfl rfl (by omega) ?_
        apply wr_nil
        exact ⟨rfl, Keeps.refl _ _⟩
      focus (intro xx yy h; rfl)
      focus kernel_rfl
      apply chP_pure
      focus
        intro xx w' hk hF
        refine wr_load (v := .int .u64 ((tk5 zn : Nat) : Int)) rfl rfl rfl ((hkd9 hk).heap hct9 (fun h => h)) (tkC_at tk5 (by omega)) ?_
        apply wr_nil
        exact ⟨rfl, Keeps.refl _ _⟩
      focus (intro xx yy h; rfl)
      focus kernel_rfl
      apply chP_pure
      focus
        intro xx w' hk hF
        refine wr_fieldAddr rfl rfl ?_
        apply wr_nil
        exact ⟨rfl, Keeps.refl _ _⟩
      focus (intro xx yy h; rfl)
      focus kernel_rfl
      apply chP_pure
      focus
        intro xx w' hk hF
        refine wr_load (v := .int .u64 ((ls : Nat) : Int)) rfl rfl rfl ((hkd9 hk).heap hcc9 (fun h => h)) rfl ?_
        apply wr_nil
        exact ⟨rfl, Keeps.refl _ _⟩
      focus (intro xx yy h; rfl)
      focus kernel_rfl
      apply chP_pure
      focus
        intro xx w' hk hF
        apply wr_cmp; (iterate 3 exact rfl); exact cmpF (by dsimp only [cmpN]; omega)
        apply wr_nil
        exact ⟨rfl, Keeps.refl _ _⟩
      focus (intro xx yy h; rfl)
      focus kernel_rfl
      refine chP_nil ?_
      intro xx wa hka' hF
      have hka := hkd9 hka'
      (repeat first | (apply wr_move; exact rfl; with_reducible (conv => enter [6, 3]; whnf)) | (apply wr_assign; exact rfl; with_reducible (conv => enter [6, 3]; whnf)) | apply wr_end | apply wc_region | apply wc_skip | (apply wr_add; (iterate 3 exact rfl); exact w_fit (by dsimp only [kIn]; first | done | omega)) | (apply wc_false; exact rfl))
      exact ⟨m + 1, by omega, ⟨by trivial, by omega, hk9.trans hka⟩, rfl, rfl, rfl, rfl, rfl, rfl, rfl, rfl, rfl, rfl, rfl, rfl, rfl, trivial⟩
end Go.Proofs.YthdjhjeodjgbiaaDoor
