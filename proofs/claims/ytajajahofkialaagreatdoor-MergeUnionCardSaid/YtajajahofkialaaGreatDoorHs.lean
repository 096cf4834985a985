/- MergeUnion. -/
import Derived.Test.YtajajahofkialaaGreatDoorHr
namespace Go.Proofs.YtajajahofkialaaGreatDoor
open Go Go.V Go.RowKit
set_option linter.unusedVariables false
set_option linter.unusedSimpArgs false

/- The head: $1 after New. -/
/- A set of a few: $1 slice, $2 bytes, $3 world, $4 stem, $5 SlR, $6 bytes small, $7 how many. -/
theorem wr_notc {P : Program} {ops : Array Oper} {Q : Post} {ds : List Deferred} {f : Env} {w : World} {rest : List Oper} {d : Option Nat} {ty : TypeId} {pos : String} {af : Array Edge} {g : Option (Nat × Bool)} {t : TypeId} {x : Operand} {b c : Bool} (hw : wantedE ops f ⟨d, .unOp .not t x, ty, pos, af, g⟩ = true) (hx : ev f x = .bool b) (hc : (!b) = c) (kk : Wr P ops Q ds rest (setO f d (.bool c)) w) :
    Wr P ops Q ds (⟨d, .unOp .not t x, ty, pos, af, g⟩ :: rest) f w := by
  subst hc
  exact wr_not hw hx kk
theorem arr_ne {w : World} {L : List SE} (h : ∀ x ∈ L, SlR w 1 x.2 x.1.2.length (SL x.1.2)) : ∀ (j : Nat) (t : TT), ((L.flatMap GSt).toArray)[j]? ≠ some (S t) := by
  intro j t e
  rw [List.getElem?_toArray] at e
  obtain ⟨x, hx, hm⟩ := List.mem_flatMap.1 (List.mem_of_getElem? e)
  simp only [GSt, List.mem_cons, List.not_mem_nil, or_false] at hm
  rcases hm with hm | hm
  · cases hm
  · exact (SE_R (h x hx)).one.2 t hm.symm
theorem flat_len (L : List SE) : (L.flatMap GSt).length = L.length * 2 := by
  induction L with
  | nil => rfl
  | cons a L ih => rw [List.flatMap_cons, List.length_append, ih]; simp [GSt]; omega
theorem WA_set {w w' : World} {b id : Nat} {Wn : WF} {L : List SE} {x : PS} {xn : Value} (hid : id < 7) (h1 : L.length = 7) (h2 : w.heap[b]? = some (.cells (L.flatMap GSt).toArray 69 (0, 0))) (h3 : ∀ n : Nat, n < 7 → ∃ v, L[n]? = some (Wn ((n : Int), ((3 : Nat) : Int)), v))
    (h4 : ∀ x ∈ L, SlR w 1 x.2 x.1.2.length (SL x.1.2)) (hx : SetR w x (SetV x.1 xn)) (k : Keeps (· = b) w w') (hw : w'.heap[b]? = some (.cells ((L.set id (x, xn)).flatMap GSt).toArray 69 (0, 0))) : WA w' b (updW Wn ((id : Int), ((3 : Nat) : Int)) x) := by
  refine ⟨L.set id (x, xn), by simpa using h1, hw, fun n hn => ?_, fun y hy => ?_⟩
  · by_cases e : n = id
    · subst e
      exact ⟨xn, by rw [updW_get, List.getElem?_set_self (by omega)]⟩
    · rw [updW_ne _ (fun h => e (by have := congrArg Prod.fst h; dsimp only at this; omega)), List.getElem?_set_ne (Ne.symm e)]
      exact h3 n hn
  · rcases List.mem_or_eq_of_mem_set hy with hy | rfl
    · exact ((SE_R (h4 y hy)).put k h2 (arr_ne h4)).row
    · exact (hx.put k h2 (arr_ne h4)).row
structure UI (w : World) (ab wb : Nat) (cb : List Nat) (b5 b6 i : Nat) (Wn : WF) (w' : World) : Prop where
  le : i ≤ 30
  mg : MgAt w' 0 ab wb cb Wn
  uw : UW Wn
  wa : WA w' b6 Wn
  at' : ∃ v, w'.heap[b5]? = some (.cells ([.bool (unionK Wn 3).1, v] : List Value).toArray 41 (0, 0)) ∧ SetR w' (unionK Wn 3) (SetV (unionK Wn 3).1 v)
  k : Keeps NoB w w'
set_option maxRecDepth 100000 in
set_option maxHeartbeats 32000000 in
theorem uni_law (dl : List DL) (v0 : Value) {w : World} {p q : Addr} (hg : GloM w p q) (hv : SlR w 7 v0 dl.length (dl.flatMap GDl)) (hd : ∀ x ∈ dl, dlOk w x) :
    Ca Tryz.prog 8 #[v0] w fun v w' => v = .bool true ∧ Keeps NoB w w' := by
  obtain ⟨va, vc, rfl, hvc, hvm⟩ := hv.shape
  refine ca_of_body (args := [.slice va dl.length vc]) Tryz.func8 rfl (by kernel_rfl) ?_
  (repeat first | (apply wr_assign; exact rfl; with_reducible (conv => enter [6, 3]; whnf)) | apply wr_end | apply wc_seq | apply wc_region)
  refine wr_call (vs := []) rfl (examples_ca hg) rfl ?_
  rintro v w0 ⟨rfl, hk0'⟩
  have hz0 := hk0'.size
  have hg0 := hg.keep hk0'
  (repeat first | (apply wr_move; exact rfl; with_reducible (conv => enter [6, 3]; whnf)) | (apply wr_assign; exact rfl; with_reducible (conv => enter [6, 3]; whnf)) | apply wr_end | apply wc_seq | apply wc_region | apply wc_skip | (apply wr_not; iterate 2 exact rfl) | (apply wc_false; exact rfl))
  refine wr_call (vs := []) rfl (newM_ca w0) rfl ?_
  rintro v w1 ⟨⟨ab, wb, cb, rfl, h1, hab, hwb, hcb⟩, hk1⟩
  have hmD : ∀ i, i < w.heap.size → ¬ mD wb cb i := fun i hi e => by
    rcases e with e | e
    · omega
    · have := hcb i e; omega
  have hK1 := hk0'.trans hk1
  have hg1 := hg0.keep hk1
  have hz1 := hK1.size
  (repeat first | (apply wr_move; exact rfl; with_reducible (conv => enter [6, 3]; whnf)) | (apply wr_assign; exact rfl; with_reducible (conv => enter [6, 3]; whnf)) | apply wr_end | apply wc_seq | apply wc_region)
  refine wr_ptrNil rfl rfl ?_
  (repeat first | apply wr_end | apply wc_seq | apply wc_region | apply wc_skip | (apply wc_false; exact rfl))
  refine wr_build (ps := []) (cs := [.bool false, nilV]) rfl rfl rfl rfl ?_
  (repeat first | (apply wr_alloc; exact rfl))
  refine wr_storeAll (cs := [.bool false, nilV]) rfl rfl rfl (zset_one) (heap_alloc_same _ _) rfl rfl ?_
  refine wr_name ?_
  intro w2 hww2
  obtain ⟨bw2, hbw2⟩ : ∃ b, b = (w1).heap.size := ⟨_, rfl⟩
  have hkw2 : Keeps NoB w1 w2 := by rw [hww2]; exact ((Keeps.refl NoB w1).alloc _).put _ (fun h => by omega)
  have hcw2 : (w2).heap[bw2]? = some (.cells ([.bool false, nilV]).toArray 41 (0, 0)) := by rw [hww2, hbw2]; exact World.putObj_heap_same (by simp)
  rw [← hbw2]
  clear hww2
  first | apply wr_end | (apply wr_nil; try simp only [thenE, inBlockE, bodyQ])
  apply wc_seq
  apply wc_region
  apply wr_alloc
  focus exact rfl
  refine wr_name ?_
  intro w3 hww3
  obtain ⟨bw3, hbw3⟩ : ∃ b, b = (w2).heap.size := ⟨_, rfl⟩
  have hkw3 : Keeps NoB w2 w3 := by rw [hww3]; exact (Keeps.refl NoB w2).alloc _
  have hcw3 : (w3).heap[bw3]? = some (.cells (((List.replicate 7 ((noneP, nilV) : SE)).flatMap GSt)).toArray 69 (0, 0)) := by rw [hww3, hbw3]; exact heap_alloc_same _ _
  rw [← hbw3]
  clear hww3
  have hk13 := hkw2.trans hkw3
  have hsz1 := hK1.size
  have hsz2 := lt_of_heap hcw2
  have hK3 := hK1.trans hk13
  (repeat first | (apply wr_assign; exact rfl; with_reducible (conv => enter [6, 3]; whnf)) | apply wr_end | apply wc_seq | apply wc_region | apply wc_block)
  refine wc_loopL (α := Nat × WF) (fun s => [(0, .slice va dl.length vc), (3, .bool true), (4, .pointer (some ⟨ab, 0, none⟩)), (5, .pointer (some ⟨bw2, 0, none⟩)), (6, .pointer (some ⟨bw3, 0, none⟩)), (7, .int .i64 (s.1 : Int))])
    (fun s ds w' => ds = [] ∧ UI w ab wb cb bw2 bw3 s.1 s.2 w') (fun s => 30 - s.1) (0, noW)
    ⟨rfl, ⟨by decide, h1.keepN hk13, UW.no, ⟨List.replicate 7 (noneP, nilV), rfl, hcw3, (fun n hn => ⟨nilV, by rw [List.getElem?_replicate, if_pos hn]⟩), (fun x hx => by rw [List.eq_of_mem_replicate hx]; exact slr_none _)⟩, ⟨nilV, by rw [unionK_no]; exact hkw3.heap hcw2 (fun h => h), by rw [unionK_no]; exact zset_R _⟩, hK3⟩⟩ ⟨rfl, rfl, rfl, rfl, rfl, rfl, trivial⟩ ?_
  rintro ⟨i, W⟩ ds f0 w4 ⟨rfl, ⟨hi, h4, huw, hwa4, ⟨atv, hc54, hat4⟩, hK4⟩⟩
  dsimp only at hi h4 huw hwa4 hc54 hat4 hK4 ⊢
  by_cases hgo : i < dl.length ∧ i < 30
  rotate_left
  · have hex : ¬ i < dl.length ∨ (i < dl.length ∧ ¬ i < 30) := by omega
    rcases hex with hex | ⟨hex1, hex2⟩
    all_goals
      (repeat first | (apply wr_move; exact rfl; with_reducible (conv => enter [6, 3]; whnf)) | (apply wr_assign; exact rfl; with_reducible (conv => enter [6, 3]; whnf)) | apply wr_end | apply wc_seq | apply wc_region | (apply wr_len_slice; iterate 2 exact rfl) | (apply wr_cmp; (iterate 3 exact rfl); exact cmpT (by dsimp only [cmpP]; first | done | omega)) | (apply wr_cmp; (iterate 3 exact rfl); exact cmpF (by dsimp only [cmpN]; first | done | omega)) | (apply wr_pick (t := true); (iterate 2 exact rfl); with_reducible (conv => enter [6, 3]; whnf)) | (apply wr_pick (t := false); (iterate 2 exact rfl); with_reducible (conv => enter [6, 3]; whnf)) | (apply wc_false; exact rfl) | (apply wc_exit; try simp only [thenE, inBlockE, bodyQ, ↓reduceIte, Nat.reduceEqDiff]) | (apply wc_ret; try simp only [thenE, inBlockE, bodyQ]) | (apply wr_skip; exact rfl))
      exact leave1 (v := .bool true) rfl rfl ⟨rfl, hK4⟩
  obtain ⟨hlt, hlt30⟩ := hgo
  obtain ⟨d, hdx⟩ : ∃ x, dl[i]? = some x := ⟨dl[i], by simp [hlt]⟩
  have hdo := hd d (List.mem_of_getElem? hdx)
  have hdn := hdo.name
  have hdm := hdo.many
  obtain ⟨vb, vo, rfl, cur, e, fr, hvb, hvr⟩ := hvm (by omega)
  have hvb4 := hK4.heap hvb (fun h => h)
  have hcell : ∀ (c : Nat) (v : Value), (GDl d)[c]? = some v → cur[vo + i * 7 + c]? = some v := fun c v h => by
    have hc8 : c < 7 := by have := (List.getElem?_eq_some_iff.1 h).1; rwa [GDl_len] at this
    rw [Nat.add_assoc, hvr _ (by omega), flat_get GDl_len dl i _ c hdx hc8]
    exact h
  obtain ⟨id, hid⟩ : ∃ id, id = 1 + d.name % 6 := ⟨_, rfl⟩
  have hb6lt : bw3 < w4.heap.size := by obtain ⟨L, _, h, _⟩ := hwa4.at'; exact lt_of_heap h
  have hsz24 := lt_of_heap hc54
  (repeat first | (apply wr_move; exact rfl; with_reducible (conv => enter [6, 3]; whnf)) | apply wr_end | apply wc_seq | apply wc_region | apply wc_skip | apply wc_block | (apply wr_len_slice; iterate 2 exact rfl) | (apply wr_cmp; (iterate 3 exact rfl); exact cmpT (by dsimp only [cmpP]; first | done | omega)) | (apply wr_pick (t := true); (iterate 2 exact rfl); with_reducible (conv => enter [6, 3]; whnf)) | (apply wc_true; exact rfl))
  refine wr_indexAddr (i := i) rfl rfl rfl hlt ?_
  (repeat first | (apply wr_fieldAddr; iterate 2 exact rfl))
  refine wr_load (v := .int .u8 (d.name : Int)) rfl rfl rfl hvb4 (hcell 6 _ rfl) ?_
  refine wr_remN (n := d.name) (m := 6) rfl rfl rfl (by decide) ?_
  refine wr_conv (c := ((d.name % 6 : Nat) : Int)) rfl rfl (w_i64 (by omega)) ?_
  refine wr_add (c := (id : Int)) rfl rfl rfl (by rw [w_i64 (by omega)]; omega) ?_
  (repeat first | (apply wr_move; exact rfl; with_reducible (conv => enter [6, 3]; whnf)) | (apply wr_assign; exact rfl; with_reducible (conv => enter [6, 3]; whnf)) | apply wr_end | apply wc_seq | apply wc_region)
  refine wr_indexAddr (i := i) rfl rfl rfl hlt ?_
  (repeat first | (apply wr_fieldAddr; iterate 2 exact rfl))
  refine wr_load (v := d.lv) rfl rfl rfl hvb4 (hcell 4 _ rfl) ?_
  refine wr_call (vs := [d.lv, .int .i64 ((10 : Nat) : Int)]) rfl (few_ca d.ll d.lv 10 (by decide) w4 (hdo.row.keep hK4 (fun _ _ h => h)) hdo.ll) rfl ?_
  rintro v xu ⟨hfw, hkxu⟩
  have hle := namesF_le d.ll 10
  refine wr_call (vs := [v]) rfl (ofO_ca (namesF d.ll 10) v xu (SlR.of_own hfw) (by omega) (namesF_ok d.ll 10)) rfl ?_
  rintro sv xv ⟨hsv, hkxv⟩
  obtain ⟨x, hxe⟩ : ∃ W, W = ofP (namesF d.ll 10) := ⟨_, rfl⟩
  have hxf : Fine x := by rw [hxe]; exact ofP_fine _
  have hxl : (x).2.length ≤ 10 := by rw [hxe]; have := ofP_le (namesF d.ll 10); omega
  rw [← hxe] at hsv
  obtain ⟨xn, rfl, hxo⟩ := hsv
  have hxR : SetR xv x (SetV (x).1 xn) := ⟨xn, rfl, SlR.of_own hxo⟩
  clear hxe hfw hxo
  have hkx := hkxu.trans hkxv
  (repeat first | (apply wr_alloc; exact rfl))
  refine wr_storeAll (cs := [.bool x.1, xn]) rfl rfl rfl (by intro u hu; simp at hu; rcases hu with rfl | rfl; rfl; exact hxR.one.1) (heap_alloc_same _ _) rfl rfl ?_
  refine wr_name ?_
  intro w5 hww5
  obtain ⟨bw5, hbw5⟩ : ∃ b, b = (xv).heap.size := ⟨_, rfl⟩
  have hkw5 : Keeps NoB xv w5 := by rw [hww5]; exact ((Keeps.refl NoB xv).alloc _).put _ (fun h => by omega)
  have hcw5 : (w5).heap[bw5]? = some (.cells ([.bool x.1, xn]).toArray 41 (0, 0)) := by rw [hww5, hbw5]; exact World.putObj_heap_same (by simp)
  rw [← hbw5]
  clear hww5
  have hk45 := hkx.trans hkw5
  have hK5 := hK4.trans hk45
  have h5 := h4.keepN hk45
  have nc5 := mD_nc h5
  have hsz45 := hk45.size
  have hszx := hkx.size
  obtain ⟨W', hW'⟩ : ∃ V, V = updW W ((id : Int), ((3 : Nat) : Int)) x := ⟨_, rfl⟩
  have huw' : UW W' := by rw [hW']; exact huw.upd (by omega) (by omega) hxf hxl
  obtain ⟨U, hU⟩ : ∃ U, unionK W 3 = U := ⟨_, rfl⟩
  obtain ⟨U', hU'⟩ : ∃ U, unionK W' 3 = U := ⟨_, rfl⟩
  have hUf : Fine U := by rw [← hU, six_union huw]; exact unionP_fine (six_fine huw)
  have hUf' : Fine U' := by rw [← hU', six_union huw']; exact unionP_fine (six_fine huw')
  have hUl : U.2.length ≤ 60 := by rw [← hU]; exact six_le huw
  have hUl' : U'.2.length ≤ 60 := by rw [← hU']; exact six_le huw'
  have hml := lessP_le U' U
  have hll := lessP_le U U'
  rw [hU] at hat4 hc54
  have hat5 := hat4.keep hk45
  (repeat first | (apply wr_move; exact rfl; with_reducible (conv => enter [6, 3]; whnf)) | apply wr_end | apply wc_seq | apply wc_region)
  refine wr_loadAll (cs := [.bool x.1, xn]) rfl rfl rfl hcw5 rfl ?_
  refine wr_call (vs := [.pointer (some ⟨ab, 0, none⟩), .int .i64 (id : Int), .int .i64 3, SetV x.1 xn]) rfl (setM_ok h5 (hg.keep hK5) (id := (id : Int)) (k := 3) (by refine ⟨?_, ?_, ?_, ?_⟩ <;> dsimp only <;> omega) (hxR.keep hkw5) hxf (by omega) (fits_of (by omega) (by rw [← hW', hU']; omega))) rfl ?_
  rintro v w6 ⟨⟨h6, m1, l1, rfl, hm1, hl1⟩, hk6⟩
  rw [← hW'] at h6 hm1 hl1 ⊢
  rw [hU, hU'] at hm1 hl1 ⊢
  have hK6 : Keeps NoB w w6 := hK5.trans' hk6 (fun i hi e => hmD i hi e)
  have hsz6 := hk6.size
  apply wr_move; exact rfl; with_reducible (conv => enter [6, 3]; whnf)
  apply wr_extract; (iterate 3 exact rfl); with_reducible (conv => enter [6, 3]; whnf)
  apply wr_extract; (iterate 3 exact rfl); with_reducible (conv => enter [6, 3]; whnf)
  apply wr_extract; (iterate 3 exact rfl); with_reducible (conv => enter [6, 3]; whnf)
  apply wr_alloc
  focus exact rfl
  refine wr_name ?_
  intro wxa hwwxa
  obtain ⟨bwxa, hbwxa⟩ : ∃ b, b = (w6).heap.size := ⟨_, rfl⟩
  have hkwxa : Keeps NoB w6 wxa := by rw [hwwxa]; exact (Keeps.refl NoB w6).alloc _
  have hcwxa : (wxa).heap[bwxa]? = some (.cells ([.bool false, nilV]).toArray 41 (0, 0)) := by rw [hwwxa, hbwxa]; exact heap_alloc_same _ _
  rw [← hbwxa]
  clear hwwxa
  apply wr_alloc
  focus exact rfl
  refine wr_name ?_
  intro wxb hwwxb
  obtain ⟨bwxb, hbwxb⟩ : ∃ b, b = (wxa).heap.size := ⟨_, rfl⟩
  have hkwxb : Keeps NoB wxa wxb := by rw [hwwxb]; exact (Keeps.refl NoB wxa).alloc _
  have hcwxb : (wxb).heap[bwxb]? = some (.cells ([.bool false, nilV]).toArray 41 (0, 0)) := by rw [hwwxb, hbwxb]; exact heap_alloc_same _ _
  rw [← hbwxb]
  clear hwwxb
  have hcawx := hkwxb.heap hcwxa (fun h => h)
  have hlrwx := lt_of_heap hcwxa
  refine wr_storeAll (cs := [.bool (lessP U' U).1, m1]) rfl rfl rfl (by intro u hu; simp at hu; rcases hu with rfl | rfl; rfl; exact hm1.one.1) hcawx (rfl) (rfl) ?_
  refine wr_name ?_
  intro wxc hwwxc
  have hkwxc : Keeps (· = bwxa) wxb wxc := by rw [hwwxc]; exact (Keeps.refl _ wxb).put _ (fun _ => rfl)
  have hcwxc : (wxc).heap[bwxa]? = some (.cells ([.bool (lessP U' U).1, m1]).toArray 41 (0, 0)) := by rw [hwwxc]; exact World.putObj_heap_same (lt_of_heap hcawx)
  clear hwwxc
  have hcbwx := hkwxc.heap hcwxb (fun e => by omega)
  refine wr_storeAll (cs := [.bool (lessP U U').1, l1]) rfl rfl rfl (by intro u hu; simp at hu; rcases hu with rfl | rfl; rfl; exact hl1.one.1) hcbwx (rfl) (rfl) ?_
  refine wr_name ?_
  intro wxd hwwxd
  have hkwxd : Keeps (· = bwxb) wxc wxd := by rw [hwwxd]; exact (Keeps.refl _ wxc).put _ (fun _ => rfl)
  have hcwxd : (wxd).heap[bwxb]? = some (.cells ([.bool (lessP U U').1, l1]).toArray 41 (0, 0)) := by rw [hwwxd]; exact World.putObj_heap_same (lt_of_heap hcbwx)
  clear hwwxd
  have hccwx := hkwxd.heap hcwxc (fun e => by omega)
  have hkkwx : Keeps NoB w6 wxd := ((hkwxa.trans hkwxb).trans' hkwxc (fun i hi e => by omega)).trans' hkwxd (fun i hi e => by omega)
  have hK7 := hK6.trans hkkwx
  have h7 := h6.keepN hkkwx
  have hwa7 := ((hwa4.keep hk45).keepM hk6 nc5).keep hkkwx
  have hx7 := ((hxR.keep hkw5).keepM hk6 nc5).keep hkkwx
  have hat7 := (hat5.keepM hk6 nc5).keep hkkwx
  have hc57 := hkkwx.heap (heap_keepM (hk45.heap hc54 (fun h => h)) hk6 nc5) (fun h => h)
  have hc97 := hkkwx.heap (heap_keepM hcw5 hk6 nc5) (fun h => h)
  have hm7 := hm1.keep hkkwx
  have hl7 := hl1.keep hkkwx
  obtain ⟨L, hL1, hL2, hL3, hL4⟩ := hwa7.at'
  (repeat first | (apply wr_move; exact rfl; with_reducible (conv => enter [6, 3]; whnf)) | (apply wr_assign; exact rfl; with_reducible (conv => enter [6, 3]; whnf)) | apply wr_end | apply wc_seq | apply wc_region | apply wc_skip | (apply wr_cmp; (iterate 3 exact rfl); exact cmpF (by dsimp only [cmpN]; first | done | omega)) | (apply wc_false; exact rfl))
  refine wr_loadAll (cs := [.bool x.1, xn]) rfl rfl rfl hc97 rfl ?_
  refine wr_indexArr (i := id) rfl rfl rfl (by omega) ?_
  refine wr_storePart (cs := [.bool x.1, xn]) rfl rfl rfl (by intro u hu; simp at hu; rcases hu with rfl | rfl; rfl; exact hxR.one.1) hL2 rfl (by rw [List.size_toArray, flat_len, hL1]; show 0 + id * 2 + 2 ≤ 7 * 2; omega) ?_
  refine wr_name ?_
  intro w8 hw8
  have hk8 : Keeps (· = bw3) wxd w8 := by rw [hw8]; exact (Keeps.refl _ _).put _ (fun _ => rfl)
  have hwa8 : WA w8 bw3 W' := by
    rw [hW']
    refine WA_set (by omega) hL1 hL2 hL3 hL4 hx7 hk8 ?_
    rw [hw8, ← flat_set (x, xn) L id (by omega)]
    exact World.putObj_heap_same (lt_of_heap hL2)
  clear hw8
  have hneL := arr_ne hL4
  have h8 := h7.keepC hk8 hL2 (by decide) (by decide)
  have hx8 := hx7.put hk8 hL2 hneL
  have hat8 := hat7.put hk8 hL2 hneL
  have hm8 := hm7.put hk8 hL2 hneL
  have hl8 := hl7.put hk8 hL2 hneL
  have hc58 := hk8.heap hc57 (fun e => by omega)
  have hc98 := hk8.heap hc97 (fun e => by omega)
  have hcA8 := hk8.heap hccwx (fun e => by omega)
  have hcB8 := hk8.heap hcwxd (fun e => by omega)
  have hK8 : Keeps NoB w w8 := hK7.trans' hk8 (fun i hi e => by omega)
  have hdelta := delta_step hUf hUf'
  rw [ofP_listP (lessP_fine hUf'), ofP_listP (lessP_fine hUf)] at hdelta
  have hk0 : ∀ {w'}, Keeps NoB w8.drew w' → Keeps NoB w8 w' := fun hk => (Keeps.refl NoB w8).drew.trans hk
  (repeat first | apply wr_end | apply wc_seq)
  refine wc_drawP (l := _) 6 _ (by kernel_rfl) (by kernel_rfl) rfl (by kernel_rfl) (by kernel_rfl) (by decide) ?_
  apply chP_pure
  focus
    intro xx w' hk hF
    refine wr_loadAll (cs := [.bool U.1, atv]) rfl rfl rfl ((hk0 hk).heap hc58 (fun h => h)) rfl ?_
    apply wr_nil
    exact ⟨rfl, Keeps.refl _ _⟩
  focus (intro xx yy h; rfl)
  focus kernel_rfl
  apply chP_pure
  focus
    intro xx w' hk hF
    refine wr_loadAll (cs := [.bool (lessP U' U).1, m1]) rfl rfl rfl ((hk0 hk).heap hcA8 (fun h => h)) rfl ?_
    apply wr_nil
    exact ⟨rfl, Keeps.refl _ _⟩
  focus (intro xx yy h; rfl)
  focus kernel_rfl
  refine chP_fact (fun yq => yq) (fun yq w' => SetsAt w' [(U, atv), (lessP U' U, m1)] yq) (fun yq w' w'' h k => h.keep k) ?_ ?_
  focus
    intro xx w' hk hF
    refine wr_buildSlice (vs := [SetV U.1 atv, SetV (lessP U' U).1 m1]) rfl rfl (by intro v hv; simp at hv; rcases hv with rfl | rfl <;> rfl) rfl (by decide) (by decide) (by decide) ?_
    apply wr_nil
    exact ⟨_, rfl, setsAt_alloc w' [(U, atv), (lessP U' U, m1)] (by intro e he; simp at he; rcases he with rfl | rfl; exact (hat8.keep (hk0 hk)).row; exact (hm8.keep (hk0 hk)).row), (Keeps.refl NoB w').alloc _⟩
  refine chP_fact (fun yq => yq) (fun yq w' => SetR w' (unionP [U, lessP U' U]) yq) (fun yq w' w'' h k => h.keep k) ?_ ?_
  focus
    intro xx w' hk hF
    refine wr_call (vs := [xx 2]) rfl (union_ca [(U, atv), (lessP U' U, m1)] _ w' (hF 2 (by kernel_rfl)) (by simp) (by simp [uN]; omega)) rfl ?_
    rintro v w'' ⟨hR, hkc⟩
    apply wr_nil
    exact ⟨v, rfl, hR, hkc⟩
  apply chP_pure
  focus
    intro xx w' hk hF
    refine wr_loadAll (cs := [.bool (lessP U U').1, l1]) rfl rfl rfl ((hk0 hk).heap hcB8 (fun h => h)) rfl ?_
    apply wr_nil
    exact ⟨rfl, Keeps.refl _ _⟩
  focus (intro xx yy h; rfl)
  focus kernel_rfl
  refine chP_fact (fun yq => yq) (fun yq w' => SetR w' (lessP (unionP [U, lessP U' U]) (lessP U U')) yq) (fun yq w' w'' h k => h.keep k) ?_ ?_
  focus
    intro xx w' hk hF
    refine wr_call (vs := [xx 3, SetV (lessP U U').1 l1]) rfl (less_ca (unionP [U, lessP U' U]) (lessP U U') _ _ w' (hF 3 (by kernel_rfl)) (hl8.keep (hk0 hk)) (by have := union2_le U (lessP U' U); omega) (by omega)) rfl ?_
    rintro v w'' ⟨hR, hkc⟩
    apply wr_nil
    exact ⟨v, rfl, hR, hkc⟩
  refine chP_nil ?_
  intro xx w9 hk9' hF
  have hk9 := hk0 hk9'
  have hs5 : SetR w9 (lessP (unionP [U, lessP U' U]) (lessP U U')) (xx 5) := hF 5 (by decide)
  clear hF hk0
  rw [hdelta] at hs5
  obtain ⟨av, hse, hs5r⟩ := hs5
  have hs9 : SetR w9 U' (SetV U'.1 av) := ⟨av, rfl, hs5r⟩
  have hc59 := hk9.heap hc58 (fun h => h)
  dsimp only [Nat.reduceAdd]
  rw [hse]
  refine wr_storeAll (cs := [.bool U'.1, av]) rfl rfl rfl (by intro u hu; simp at hu; rcases hu with rfl | rfl; rfl; exact hs9.one.1) hc59 (rfl) (rfl) ?_
  refine wr_name ?_
  intro wa hwwa
  have hkwa : Keeps (· = bw2) w9 wa := by rw [hwwa]; exact (Keeps.refl _ w9).put _ (fun _ => rfl)
  have hcwa : (wa).heap[bw2]? = some (.cells ([.bool U'.1, av]).toArray 41 (0, 0)) := by rw [hwwa]; exact World.putObj_heap_same (lt_of_heap hc59)
  clear hwwa
  have hcU : ∀ (j : Nat) (t : TT), (([.bool U.1, atv] : List Value).toArray)[j]? ≠ some (S t) := setCells_ne U.1 atv (fun t => hat8.one.2 t)
  have ha := (h8.keepN hk9).keepC hkwa hc59 (by decide) (by decide)
  have hwaa : WA wa bw3 W' := (hwa8.keep hk9).put hkwa hc59 hcU (by omega)
  have hxa := (hx8.keep hk9).put hkwa hc59 hcU
  have hata := hs9.put hkwa hc59 hcU
  have hc9a := hkwa.heap (hk9.heap hc98 (fun h => h)) (fun e => by omega)
  have hKa : Keeps NoB w wa := (hK8.trans hk9).trans' hkwa (fun i hi e => by omega)
  obtain ⟨L9, hL7, hL9, hL9s, hL9r⟩ := hwaa.at'
  obtain ⟨v1, e1⟩ := hL9s 1 (by decide)
  obtain ⟨v2, e2⟩ := hL9s 2 (by decide)
  obtain ⟨v3, e3⟩ := hL9s 3 (by decide)
  obtain ⟨v4, e4⟩ := hL9s 4 (by decide)
  obtain ⟨v5, e5⟩ := hL9s 5 (by decide)
  obtain ⟨v6, e6⟩ := hL9s 6 (by decide)
  (repeat first | apply wr_end | apply wc_seq | apply wc_region)
  refine wr_indexArr (i := 1) rfl rfl rfl (by decide) ?_
  refine wr_loadElem (G := GSt) (n := 7) (i := 1) (l := L9) rfl rfl GSt_len rfl hL9 (fun j hj => by rw [Nat.zero_add, List.getElem?_toArray]) (by decide) e1 rfl ?_
  skip
  refine wr_indexArr (i := 2) rfl rfl rfl (by decide) ?_
  refine wr_loadElem (G := GSt) (n := 7) (i := 2) (l := L9) rfl rfl GSt_len rfl hL9 (fun j hj => by rw [Nat.zero_add, List.getElem?_toArray]) (by decide) e2 rfl ?_
  skip
  refine wr_indexArr (i := 3) rfl rfl rfl (by decide) ?_
  refine wr_loadElem (G := GSt) (n := 7) (i := 3) (l := L9) rfl rfl GSt_len rfl hL9 (fun j hj => by rw [Nat.zero_add, List.getElem?_toArray]) (by decide) e3 rfl ?_
  skip
  refine wr_indexArr (i := 4) rfl rfl rfl (by decide) ?_
  refine wr_loadElem (G := GSt) (n := 7) (i := 4) (l := L9) rfl rfl GSt_len rfl hL9 (fun j hj => by rw [Nat.zero_add, List.getElem?_toArray]) (by decide) e4 rfl ?_
  skip
  refine wr_indexArr (i := 5) rfl rfl rfl (by decide) ?_
  refine wr_loadElem (G := GSt) (n := 7) (i := 5) (l := L9) rfl rfl GSt_len rfl hL9 (fun j hj => by rw [Nat.zero_add, List.getElem?_toArray]) (by decide) e5 rfl ?_
  skip
  refine wr_indexArr (i := 6) rfl rfl rfl (by decide) ?_
  refine wr_loadElem (G := GSt) (n := 7) (i := 6) (l := L9) rfl rfl GSt_len rfl hL9 (fun j hj => by rw [Nat.zero_add, List.getElem?_toArray]) (by decide) e6 rfl ?_
  obtain ⟨L6, hL6⟩ : ∃ L : List SE, L = [(W' (((1 : Nat) : Int), ((3 : Nat) : Int)), v1), (W' (((2 : Nat) : Int), ((3 : Nat) : Int)), v2), (W' (((3 : Nat) : Int), ((3 : Nat) : Int)), v3), (W' (((4 : Nat) : Int), ((3 : Nat) : Int)), v4), (W' (((5 : Nat) : Int), ((3 : Nat) : Int)), v5), (W' (((6 : Nat) : Int), ((3 : Nat) : Int)), v6)] := ⟨_, rfl⟩
  have hL6r : ∀ x ∈ L6, SlR wa 1 x.2 x.1.2.length (SL x.1.2) := by
    rw [hL6]
    intro y hy
    simp only [List.mem_cons, List.not_mem_nil, or_false] at hy
    rcases hy with rfl | rfl | rfl | rfl | rfl | rfl
    exact hL9r _ (List.mem_of_getElem? e1)
    exact hL9r _ (List.mem_of_getElem? e2)
    exact hL9r _ (List.mem_of_getElem? e3)
    exact hL9r _ (List.mem_of_getElem? e4)
    exact hL9r _ (List.mem_of_getElem? e5)
    exact hL9r _ (List.mem_of_getElem? e6)
  have hL6u : unionP (L6.map (·.1)) = U' := by rw [hL6, ← hU', six_union huw']; rfl
  have hL6n : (uN L6 L6.length).length ≤ 8796093022000 := by
    have g1 := huw'.len (((1 : Nat) : Int), ((3 : Nat) : Int))
    have g2 := huw'.len (((2 : Nat) : Int), ((3 : Nat) : Int))
    have g3 := huw'.len (((3 : Nat) : Int), ((3 : Nat) : Int))
    have g4 := huw'.len (((4 : Nat) : Int), ((3 : Nat) : Int))
    have g5 := huw'.len (((5 : Nat) : Int), ((3 : Nat) : Int))
    have g6 := huw'.len (((6 : Nat) : Int), ((3 : Nat) : Int))
    rw [hL6]
    simp only [uN, List.length_cons, List.length_nil, Nat.reduceAdd, List.take, List.map_cons, List.map_nil, List.flatMap_cons, List.flatMap_nil, List.length_append]
    omega
  refine wr_buildSlice (vs := L6.map fun x => SetV x.1.1 x.2) rfl (by rw [hL6]; rfl) (by rw [hL6]; intro v hv; simp only [List.map_cons, List.map_nil, List.mem_cons, List.not_mem_nil, or_false] at hv; rcases hv with rfl | rfl | rfl | rfl | rfl | rfl <;> rfl) (by rw [hL6]; rfl) (by decide) (by decide) (by decide) ?_
  have hsat := setsAt_alloc wa L6 hL6r
  rw [show L6.length = 6 by rw [hL6]; rfl] at hsat
  refine wr_name ?_
  intro wc hwc
  rw [← hwc] at hsat
  have hkc : Keeps NoB wa wc := by rw [hwc]; exact (Keeps.refl NoB wa).alloc _
  clear hwc
  refine wr_call (vs := [.slice (some ⟨wa.heap.size, 0, none⟩) 6 6]) rfl (union_ca L6 _ wc hsat (by rw [hL6]; simp) hL6n) rfl ?_
  rintro v wd ⟨hu, hkd⟩
  rw [hL6u] at hu
  obtain ⟨un, rfl, hur⟩ := hu
  have hud : SetR wd U' (SetV U'.1 un) := ⟨un, rfl, hur⟩
  (repeat first | (apply wr_alloc; exact rfl))
  refine wr_storeAll (cs := [.bool U'.1, un]) rfl rfl rfl (by intro u hu; simp at hu; rcases hu with rfl | rfl; rfl; exact hud.one.1) (heap_alloc_same _ _) rfl rfl ?_
  refine wr_name ?_
  intro we hwwe
  obtain ⟨bwe, hbwe⟩ : ∃ b, b = (wd).heap.size := ⟨_, rfl⟩
  have hkwe : Keeps NoB wd we := by rw [hwwe]; exact ((Keeps.refl NoB wd).alloc _).put _ (fun h => by omega)
  have hcwe : (we).heap[bwe]? = some (.cells ([.bool U'.1, un]).toArray 41 (0, 0)) := by rw [hwwe, hbwe]; exact World.putObj_heap_same (by simp)
  rw [← hbwe]
  clear hwwe
  have hkae := (hkc.trans hkd).trans hkwe
  have he := ha.keepN hkae
  have hue := hud.keep hkwe
  have hwae := hwaa.keep hkae
  have hxe := hxa.keep hkae
  have hate := hata.keep hkae
  have hc9e := hkae.heap hc9a (fun h => h)
  have hc5e := hkae.heap hcwa (fun h => h)
  have hKe := hKa.trans hkae
  have hWx : W' ((id : Int), ((3 : Nat) : Int)) = x := by rw [hW']; exact updW_get _ _ _
  have hk0 : ∀ {w'}, Keeps NoB we.drew w' → Keeps NoB we w' := fun hk => (Keeps.refl NoB we).drew.trans hk
  (repeat first | apply wr_end | apply wc_seq)
  refine wc_drawP (l := _) 25 _ (by kernel_rfl) (by kernel_rfl) rfl (by kernel_rfl) (by kernel_rfl) (by decide) ?_
  apply chP_pure
  focus
    intro xx w' hk hF
    refine wr_loadAll (cs := [.bool U'.1, av]) rfl rfl rfl ((hk0 hk).heap hc5e (fun h => h)) rfl ?_
    apply wr_nil
    exact ⟨rfl, Keeps.refl _ _⟩
  focus (intro xx yy h; rfl)
  focus kernel_rfl
  apply chP_pure
  focus
    intro xx w' hk hF
    refine wr_loadAll (cs := [.bool U'.1, un]) rfl rfl rfl ((hk0 hk).heap hcwe (fun h => h)) rfl ?_
    apply wr_nil
    exact ⟨rfl, Keeps.refl _ _⟩
  focus (intro xx yy h; rfl)
  focus kernel_rfl
  apply chP_pure
  focus
    intro xx w' hk hF
    refine wr_call (vs := [SetV U'.1 av, SetV U'.1 un]) rfl (same_cb true (sameP_self U') (hate.keep (hk0 hk)) (hue.keep (hk0 hk)) (by omega) (by omega)) rfl ?_
    rintro v w'' ⟨rfl, hkc⟩
    apply wr_nil
    exact ⟨rfl, hkc⟩
  focus (intro xx yy h; rfl)
  focus kernel_rfl
  apply chP_pure
  focus
    intro xx w' hk hF
    apply wr_not; iterate 2 exact rfl
    apply wr_nil
    exact ⟨rfl, Keeps.refl _ _⟩
  focus (intro xx yy h; rfl)
  focus kernel_rfl
  apply chP_pure
  focus
    intro xx w' hk hF
    apply wr_move; exact rfl; with_reducible (conv => enter [6, 3]; whnf)
    apply wr_nil
    exact ⟨rfl, Keeps.refl _ _⟩
  focus (intro xx yy h; rfl)
  focus kernel_rfl
  apply chP_pure
  focus
    intro xx w' hk hF
    apply wr_move; exact rfl; with_reducible (conv => enter [6, 3]; whnf)
    apply wr_nil
    exact ⟨rfl, Keeps.refl _ _⟩
  focus (intro xx yy h; rfl)
  focus kernel_rfl
  refine chP_fact (fun yq => yq) (fun yq w' => SetR w' U' yq) (fun yq w' w'' h k => h.keep k) ?_ ?_
  focus
    intro xx w' hk hF
    refine wr_call (vs := [.pointer (some ⟨ab, 0, none⟩), .int .i64 3]) rfl (unionR_ca (he.keepN (hk0 hk)) 3 (by decide) (by decide) hU') rfl ?_
    rintro v w'' ⟨hR, hkc⟩
    apply wr_nil
    exact ⟨v, rfl, hR, hkc⟩
  apply chP_pure
  focus
    intro xx w' hk hF
    refine wr_loadAll (cs := [.bool U'.1, un]) rfl rfl rfl ((hk0 hk).heap hcwe (fun h => h)) rfl ?_
    apply wr_nil
    exact ⟨rfl, Keeps.refl _ _⟩
  focus (intro xx yy h; rfl)
  focus kernel_rfl
  apply chP_pure
  focus
    intro xx w' hk hF
    refine wr_call (vs := [xx 6, SetV U'.1 un]) rfl (same_cb true (sameP_self U') (hF 6 (by kernel_rfl)) (hue.keep (hk0 hk)) (by omega) (by omega)) rfl ?_
    rintro v w'' ⟨rfl, hkc⟩
    apply wr_nil
    exact ⟨rfl, hkc⟩
  focus (intro xx yy h; rfl)
  focus kernel_rfl
  apply chP_pure
  focus
    intro xx w' hk hF
    apply wr_not; iterate 2 exact rfl
    apply wr_nil
    exact ⟨rfl, Keeps.refl _ _⟩
  focus (intro xx yy h; rfl)
  focus kernel_rfl
  apply chP_pure
  focus
    intro xx w' hk hF
    apply wr_pick (t := false); (iterate 2 exact rfl); with_reducible (conv => enter [6, 3]; whnf)
    apply wr_nil
    exact ⟨rfl, Keeps.refl _ _⟩
  focus (intro xx yy h; rfl)
  focus kernel_rfl
  apply chP_pure
  focus
    intro xx w' hk hF
    apply wr_move; exact rfl; with_reducible (conv => enter [6, 3]; whnf)
    apply wr_nil
    exact ⟨rfl, Keeps.refl _ _⟩
  focus (intro xx yy h; rfl)
  focus kernel_rfl
  apply chP_pure
  focus
    intro xx w' hk hF
    apply wr_move; exact rfl; with_reducible (conv => enter [6, 3]; whnf)
    apply wr_nil
    exact ⟨rfl, Keeps.refl _ _⟩
  focus (intro xx yy h; rfl)
  focus kernel_rfl
  apply chP_pure
  focus
    intro xx w' hk hF
    apply wr_move; exact rfl; with_reducible (conv => enter [6, 3]; whnf)
    apply wr_nil
    exact ⟨rfl, Keeps.refl _ _⟩
  focus (intro xx yy h; rfl)
  focus kernel_rfl
  refine chP_fact (fun yq => yq) (fun yq w' => SetR w' (W' ((id : Int), ((3 : Nat) : Int))) yq) (fun yq w' w'' h k => h.keep k) ?_ ?_
  focus
    intro xx w' hk hF
    refine wr_call (vs := [.pointer (some ⟨ab, 0, none⟩), .int .i64 (id : Int), .int .i64 3]) rfl (wantM_ca (he.keepN (hk0 hk)) ((id : Int), ((3 : Nat) : Int))) rfl ?_
    rintro v w'' ⟨hR, hkc⟩
    apply wr_nil
    exact ⟨v, rfl, hR, hkc⟩
  apply chP_pure
  focus
    intro xx w' hk hF
    refine wr_loadAll (cs := [.bool x.1, xn]) rfl rfl rfl ((hk0 hk).heap hc9e (fun h => h)) rfl ?_
    apply wr_nil
    exact ⟨rfl, Keeps.refl _ _⟩
  focus (intro xx yy h; rfl)
  focus kernel_rfl
  apply chP_pure
  focus
    intro xx w' hk hF
    refine wr_call (vs := [xx 14, SetV x.1 xn]) rfl (same_cb true (by rw [hWx]; exact sameP_self x) (hF 14 (by kernel_rfl)) (hxe.keep (hk0 hk)) (by rw [hWx]; omega) (by omega)) rfl ?_
    rintro v w'' ⟨rfl, hkc⟩
    apply wr_nil
    exact ⟨rfl, hkc⟩
  focus (intro xx yy h; rfl)
  focus kernel_rfl
  apply chP_pure
  focus
    intro xx w' hk hF
    apply wr_not; iterate 2 exact rfl
    apply wr_nil
    exact ⟨rfl, Keeps.refl _ _⟩
  focus (intro xx yy h; rfl)
  focus kernel_rfl
  apply chP_pure
  focus
    intro xx w' hk hF
    apply wr_pick (t := false); (iterate 2 exact rfl); with_reducible (conv => enter [6, 3]; whnf)
    apply wr_nil
    exact ⟨rfl, Keeps.refl _ _⟩
  focus (intro xx yy h; rfl)
  focus kernel_rfl
  apply chP_pure
  focus
    intro xx w' hk hF
    apply wr_move; exact rfl; with_reducible (conv => enter [6, 3]; whnf)
    apply wr_nil
    exact ⟨rfl, Keeps.refl _ _⟩
  focus (intro xx yy h; rfl)
  focus kernel_rfl
  apply chP_pure
  focus
    intro xx w' hk hF
    apply wr_move; exact rfl; with_reducible (conv => enter [6, 3]; whnf)
    apply wr_nil
    exact ⟨rfl, Keeps.refl _ _⟩
  focus (intro xx yy h; rfl)
  focus kernel_rfl
  refine chP_fact (fun yq => yq) (fun yq w' => SetR w' noneP yq) (fun yq w' w'' h k => h.keep k) ?_ ?_
  focus
    intro xx w' hk hF
    refine wr_call (vs := [.pointer (some ⟨ab, 0, none⟩), .int .i64 2]) rfl (unionR_ca (he.keepN (hk0 hk)) 2 (by decide) (by decide) (two_none huw')) rfl ?_
    rintro v w'' ⟨hR, hkc⟩
    apply wr_nil
    exact ⟨v, rfl, hR, hkc⟩
  apply chP_pure
  focus
    intro xx w' hk hF
    refine wr_call (vs := [xx 21]) rfl (empty_cb true rfl (hF 21 (by kernel_rfl))) rfl ?_
    rintro v w'' ⟨rfl, hkc⟩
    apply wr_nil
    exact ⟨rfl, hkc⟩
  focus (intro xx yy h; rfl)
  focus kernel_rfl
  apply chP_pure
  focus
    intro xx w' hk hF
    apply wr_not; iterate 2 exact rfl
    apply wr_nil
    exact ⟨rfl, Keeps.refl _ _⟩
  focus (intro xx yy h; rfl)
  focus kernel_rfl
  apply chP_pure
  focus
    intro xx w' hk hF
    apply wr_pick (t := false); (iterate 2 exact rfl); with_reducible (conv => enter [6, 3]; whnf)
    apply wr_nil
    exact ⟨rfl, Keeps.refl _ _⟩
  focus (intro xx yy h; rfl)
  focus kernel_rfl
  refine chP_nil ?_
  intro xx wf hkf' hF
  have hkf := hk0 hkf'
  clear hF hk0
  have hvbf := (hKe.trans hkf).heap hvb (fun h => h)
  (repeat first | (apply wr_move; exact rfl; with_reducible (conv => enter [6, 3]; whnf)) | apply wr_end | apply wc_seq | apply wc_region | apply wc_skip | (apply wc_false; exact rfl))
  refine wr_indexAddr (i := i) rfl rfl rfl hlt ?_
  (repeat first | (apply wr_fieldAddr; iterate 2 exact rfl))
  refine wr_load (v := .int .u8 (d.many : Int)) rfl rfl rfl hvbf (hcell 5 _ rfl) ?_
  refine wr_remN (n := d.many) (m := 12) rfl rfl rfl (by decide) ?_
  refine wr_call (vs := [.int .u8 ((d.many % 12 : Nat) : Int)]) rfl (nameX_ca (d.many % 12) (by omega) wf) rfl ?_
  rintro v wg ⟨rfl, hkg⟩
  have hnml := nameT_len (d.many % 12)
  obtain ⟨nm, hnm⟩ : ∃ n, n = nameT (d.many % 12) := ⟨_, rfl⟩
  rw [← hnm] at hnml ⊢
  refine wr_build (ps := [(0, .int .i64 3), (1, S nm)]) (cs := [.int .i64 3, S nm]) rfl rfl rfl rfl ?_
  (repeat first | (apply wr_alloc; exact rfl))
  refine wr_storeAll (cs := [.int .i64 3, S nm]) rfl rfl rfl (by intro u hu; simp at hu; rcases hu with rfl | rfl <;> rfl) (heap_alloc_same _ _) rfl rfl ?_
  refine wr_name ?_
  intro wh hwwh
  obtain ⟨bwh, hbwh⟩ : ∃ b, b = (wg).heap.size := ⟨_, rfl⟩
  have hkwh : Keeps NoB wg wh := by rw [hwwh]; exact ((Keeps.refl NoB wg).alloc _).put _ (fun h => by omega)
  have hcwh : (wh).heap[bwh]? = some (.cells ([.int .i64 3, S nm]).toArray 55 (0, 0)) := by rw [hwwh, hbwh]; exact World.putObj_heap_same (by simp)
  rw [← hbwh]
  clear hwwh
  have hkeh := (hkf.trans hkg).trans hkwh
  (repeat first | (apply wr_move; exact rfl; with_reducible (conv => enter [6, 3]; whnf)) | apply wr_end | apply wc_seq | apply wc_region)
  refine wr_loadAll (cs := [.int .i64 3, S nm]) rfl rfl rfl hcwh rfl ?_
  refine wr_call (vs := [.pointer (some ⟨ab, 0, none⟩), .agg #[.int .i64 3, S nm]]) rfl (whoM_ca (he.keepN hkeh) ((3 : Nat) : Int) nm (by omega)) rfl ?_
  rintro v wi ⟨⟨sa, sc, rfl⟩, hki⟩
  rw [who_six huw']
  have hkei := hkeh.trans hki
  have hch := hki.heap hcwh (fun h => h)
  have hwai := hwae.keep hkei
  clear hL7 hL9 hL9s hL9r hL6r e1 e2 e3 e4 e5 e6
  obtain ⟨L8, hL7, hL8, hL8s, hL8r⟩ := hwai.at'
  (repeat first | (apply wr_assign; exact rfl; with_reducible (conv => enter [6, 3]; whnf)) | apply wr_end | apply wc_seq | apply wc_region | apply wc_block)
  refine wc_loopL (α := Nat) (fun m => [(0, .slice (some ⟨vb, vo, none⟩) dl.length vc), (3, .bool true), (4, .pointer (some ⟨ab, 0, none⟩)), (5, .pointer (some ⟨bw2, 0, none⟩)), (6, .pointer (some ⟨bw3, 0, none⟩)), (7, .int .i64 (i : Int)), (13, .pointer (some ⟨bwe, 0, none⟩)), (14, .pointer (some ⟨bwh, 0, none⟩)), (15, .slice sa (hasC W' nm 6) sc), (16, .int .i64 ((hasC W' nm m : Nat) : Int)), (17, .int .i64 ((m + 1 : Nat) : Int))])
    (fun m ds w' => ds = [] ∧ m ≤ 6 ∧ Keeps NoB wi w') (fun m => 6 - m) 0
    ⟨rfl, by decide, Keeps.refl _ _⟩ ⟨rfl, rfl, rfl, rfl, rfl, rfl, rfl, rfl, rfl, rfl, rfl, trivial⟩ ?_
  rintro m ds f0 wj ⟨rfl, hm6, hkj⟩
  have hmc := hasC_le W' nm m
  by_cases hmlt : m < 6
  · obtain ⟨vm, em⟩ := hL8s (m + 1) (by omega)
    have hLj := hkj.heap hL8 (fun h => h)
    have hcj := hkj.heap hch (fun h => h)
    have hsm := (SE_R (hL8r _ (List.mem_of_getElem? em))).keep hkj
    dsimp only at hsm
    have hlm := huw'.len (((m + 1 : Nat) : Int), ((3 : Nat) : Int))
    have hk0 : ∀ {w'}, Keeps NoB wj.drew w' → Keeps NoB wj w' := fun hk => (Keeps.refl NoB wj).drew.trans hk
    obtain ⟨cc, hcc⟩ : ∃ c, hasP (W' (((m + 1 : Nat) : Int), ((3 : Nat) : Int))) nm = c := ⟨_, rfl⟩
    have hcnt : hasC W' nm (m + 1) = hasC W' nm m + (if cc = true then 1 else 0) := by rw [← hcc]; rfl
    (repeat first | (apply wr_move; exact rfl; with_reducible (conv => enter [6, 3]; whnf)) | apply wr_end | apply wc_seq | apply wc_region | apply wc_skip | apply wc_block | (apply wr_cmp; (iterate 3 exact rfl); exact cmpT (by dsimp only [cmpP]; first | done | omega)) | (apply wc_true; exact rfl))
    refine wc_drawP (l := _) 6 _ (by kernel_rfl) (by kernel_rfl) rfl (by kernel_rfl) (by kernel_rfl) (by decide) ?_
    apply chP_pure
    focus
      intro xx w' hk hF
      apply wr_move; exact rfl; with_reducible (conv => enter [6, 3]; whnf)
      apply wr_nil
      exact ⟨rfl, Keeps.refl _ _⟩
    focus (intro xx yy h; rfl)
    focus kernel_rfl
    apply chP_pure
    focus
      intro xx w' hk hF
      refine wr_indexArr (i := m + 1) rfl rfl rfl (by omega) ?_
      apply wr_nil
      exact ⟨rfl, Keeps.refl _ _⟩
    focus (intro xx yy h; rfl)
    focus kernel_rfl
    apply chP_pure
    focus
      intro xx w' hk hF
      refine wr_loadElem (G := GSt) (n := 7) (i := m + 1) (l := L8) rfl rfl GSt_len rfl ((hk0 hk).heap hLj (fun h => h)) (fun j hj => by rw [Nat.zero_add, List.getElem?_toArray]) (by omega) em rfl ?_
      apply wr_nil
      exact ⟨rfl, Keeps.refl _ _⟩
    focus (intro xx yy h; rfl)
    focus kernel_rfl
    apply chP_pure
    focus
      intro xx w' hk hF
      refine wr_fieldAddr rfl rfl ?_
      apply wr_nil
      exact ⟨rfl, Keeps.refl _ _⟩
    focus (intro xx yy h; rfl)
    focus kernel_rfl
    apply chP_pure
    focus
      intro xx w' hk hF
      refine wr_load (v := S nm) rfl rfl rfl ((hk0 hk).heap hcj (fun h => h)) rfl ?_
      apply wr_nil
      exact ⟨rfl, Keeps.refl _ _⟩
    focus (intro xx yy h; rfl)
    focus kernel_rfl
    apply chP_pure
    focus
      intro xx w' hk hF
      refine wr_call (vs := [SetV (W' (((m + 1 : Nat) : Int), ((3 : Nat) : Int))).1 vm, S nm]) rfl (has_cb cc hcc (by omega) (hsm.keep (hk0 hk)) (by omega)) rfl ?_
      rintro v w'' ⟨rfl, hkc⟩
      apply wr_nil
      exact ⟨rfl, hkc⟩
    focus (intro xx yy h; rfl)
    focus kernel_rfl
    refine chP_nil ?_
    intro xx wk hkk' hF
    have hkk := hk0 hkk'
    clear hF
    cases cc
    · (repeat first | (apply wr_move; exact rfl; with_reducible (conv => enter [6, 3]; whnf)) | (apply wr_assign; exact rfl; with_reducible (conv => enter [6, 3]; whnf)) | apply wr_end | apply wc_region | apply wc_skip | (apply wr_add; (iterate 3 exact rfl); exact w_fit (by dsimp only [kIn]; first | done | omega)) | (apply wc_false; exact rfl))
      exact ⟨m + 1, by omega, ⟨by trivial, hmlt, hkj.trans hkk⟩, rfl, rfl, rfl, rfl, rfl, rfl, rfl, rfl, rfl, congrArg (Value.int .i64) (by rw [hcnt]; simp), congrArg (Value.int .i64) (by omega), trivial⟩
    · (repeat first | (apply wr_move; exact rfl; with_reducible (conv => enter [6, 3]; whnf)) | (apply wr_assign; exact rfl; with_reducible (conv => enter [6, 3]; whnf)) | apply wr_end | apply wc_region | (apply wr_add; (iterate 3 exact rfl); exact w_fit (by dsimp only [kIn]; first | done | omega)) | (apply wc_true; exact rfl) | (apply wr_nil; try simp only [thenE, inBlockE, bodyQ]))
      exact ⟨m + 1, by omega, ⟨by trivial, hmlt, hkj.trans hkk⟩, rfl, rfl, rfl, rfl, rfl, rfl, rfl, rfl, rfl, congrArg (Value.int .i64) (by rw [hcnt]; simp), congrArg (Value.int .i64) (by omega), trivial⟩
  have hme : m = 6 := by omega
  subst hme
  have hkej := hkei.trans hkj
  have hJ := he.keepN hkej
  have hwaJ := hwae.keep hkej
  have huJ := hue.keep hkej
  have hatJ := hate.keep hkej
  have hc5J := hkej.heap hc5e (fun h => h)
  have hcuJ := hkej.heap hcwe (fun h => h)
  have hKJ := hKe.trans hkej
  have hlean1 : (leanP (unionK W' 3)).1 = U'.1 := by
    rw [hU']
    unfold leanP
    split
    · rename_i h; exact h.symm
    · rfl
  have hk0 : ∀ {w'}, Keeps NoB wj.drew w' → Keeps NoB wj w' := fun hk => (Keeps.refl NoB wj).drew.trans hk
  (repeat first | (apply wr_move; exact rfl; with_reducible (conv => enter [6, 3]; whnf)) | apply wr_end | apply wc_seq | apply wc_region | (apply wr_cmp; (iterate 3 exact rfl); exact cmpF (by dsimp only [cmpN]; first | done | omega)) | (apply wc_false; exact rfl) | (apply wc_exit; try simp only [thenE, inBlockE, bodyQ, ↓reduceIte, Nat.reduceEqDiff]))
  cases hU1 : U'.1
  focus
    have hlean2 : leanP (unionK W' 3) = U' := by rw [hU']; unfold leanP; rw [hU1]; rfl
    refine wc_drawP (l := _) 25 _ (by kernel_rfl) (by kernel_rfl) rfl (by kernel_rfl) (by kernel_rfl) (by decide) ?_
    apply chP_pure
    focus
      intro xx w' hk hF
      apply wr_move; exact rfl; with_reducible (conv => enter [6, 3]; whnf)
      apply wr_nil
      exact ⟨rfl, Keeps.refl _ _⟩
    focus (intro xx yy h; rfl)
    focus kernel_rfl
    apply chP_pure
    focus
      intro xx w' hk hF
      apply wr_len_slice; iterate 2 exact rfl
      apply wr_nil
      exact ⟨rfl, Keeps.refl _ _⟩
    focus (intro xx yy h; rfl)
    focus kernel_rfl
    apply chP_pure
    focus
      intro xx w' hk hF
      apply wr_move; exact rfl; with_reducible (conv => enter [6, 3]; whnf)
      apply wr_nil
      exact ⟨rfl, Keeps.refl _ _⟩
    focus (intro xx yy h; rfl)
    focus kernel_rfl
    apply chP_pure
    focus
      intro xx w' hk hF
      apply wr_cmp; (iterate 3 exact rfl); exact cmpF (by dsimp only [cmpN]; first | done | omega)
      apply wr_nil
      exact ⟨rfl, Keeps.refl _ _⟩
    focus (intro xx yy h; rfl)
    focus kernel_rfl
    apply chP_pure
    focus
      intro xx w' hk hF
      apply wr_move; exact rfl; with_reducible (conv => enter [6, 3]; whnf)
      apply wr_nil
      exact ⟨rfl, Keeps.refl _ _⟩
    focus (intro xx yy h; rfl)
    focus kernel_rfl
    apply chP_pure
    focus
      intro xx w' hk hF
      apply wr_move; exact rfl; with_reducible (conv => enter [6, 3]; whnf)
      apply wr_nil
      exact ⟨rfl, Keeps.refl _ _⟩
    focus (intro xx yy h; rfl)
    focus kernel_rfl
    refine chP_fact (fun yq => yq) (fun yq w' => SetR w' (leanP (unionK W' 3)) yq) (fun yq w' w'' h k => h.keep k) ?_ ?_
    focus
      intro xx w' hk hF
      refine wr_call (vs := [.pointer (some ⟨ab, 0, none⟩), .int .i64 3]) rfl (leanM_ca (hJ.keepN (hk0 hk)) 3 (by decide) (by decide)) rfl ?_
      rintro v w'' ⟨hR, hkc⟩
      apply wr_nil
      exact ⟨v, rfl, hR, hkc⟩
    apply chP_pure (v := fun _ => .bool (leanP (unionK W' 3)).1)
    focus
      intro xx w' hk hF
      obtain ⟨nv, e, _⟩ : SetR w' (leanP (unionK W' 3)) (xx 6) := hF 6 (by kernel_rfl)
      refine wr_field (cs := #[.bool (leanP (unionK W' 3)).1, nv]) rfl rfl e rfl ?_
      apply wr_nil
      exact ⟨rfl, Keeps.refl _ _⟩
    focus (intro xx yy h; rfl)
    focus kernel_rfl
    apply chP_pure
    focus
      intro xx w' hk hF
      refine wr_fieldAddr rfl rfl ?_
      apply wr_nil
      exact ⟨rfl, Keeps.refl _ _⟩
    focus (intro xx yy h; rfl)
    focus kernel_rfl
    apply chP_pure
    focus
      intro xx w' hk hF
      refine wr_load (v := .bool U'.1) rfl rfl rfl ((hk0 hk).heap hcuJ (fun h => h)) rfl ?_
      apply wr_nil
      exact ⟨rfl, Keeps.refl _ _⟩
    focus (intro xx yy h; rfl)
    focus kernel_rfl
    apply chP_pure
    focus
      intro xx w' hk hF
      refine wr_boolNe (a := (leanP (unionK W' 3)).1) (b := U'.1) (c := false) rfl rfl rfl (by rw [hlean1]; cases U'.1 <;> rfl) ?_
      apply wr_nil
      exact ⟨rfl, Keeps.refl _ _⟩
    focus (intro xx yy h; rfl)
    focus kernel_rfl
    apply chP_pure
    focus
      intro xx w' hk hF
      apply wr_pick (t := false); (iterate 2 exact rfl); with_reducible (conv => enter [6, 3]; whnf)
      apply wr_nil
      exact ⟨rfl, Keeps.refl _ _⟩
    focus (intro xx yy h; rfl)
    focus kernel_rfl
    apply chP_pure
    focus
      intro xx w' hk hF
      apply wr_move; exact rfl; with_reducible (conv => enter [6, 3]; whnf)
      apply wr_nil
      exact ⟨rfl, Keeps.refl _ _⟩
    focus (intro xx yy h; rfl)
    focus kernel_rfl
    apply chP_pure
    focus
      intro xx w' hk hF
      apply wr_move; exact rfl; with_reducible (conv => enter [6, 3]; whnf)
      apply wr_nil
      exact ⟨rfl, Keeps.refl _ _⟩
    focus (intro xx yy h; rfl)
    focus kernel_rfl
    refine chP_fact (fun yq => yq) (fun yq w' => SetR w' (leanP (unionK W' 3)) yq) (fun yq w' w'' h k => h.keep k) ?_ ?_
    focus
      intro xx w' hk hF
      refine wr_call (vs := [.pointer (some ⟨ab, 0, none⟩), .int .i64 3]) rfl (leanM_ca (hJ.keepN (hk0 hk)) 3 (by decide) (by decide)) rfl ?_
      rintro v w'' ⟨hR, hkc⟩
      apply wr_nil
      exact ⟨v, rfl, hR, hkc⟩
    apply chP_pure (v := fun _ => .bool (leanP (unionK W' 3)).1)
    focus
      intro xx w' hk hF
      obtain ⟨nv, e, _⟩ : SetR w' (leanP (unionK W' 3)) (xx 14) := hF 14 (by kernel_rfl)
      refine wr_field (cs := #[.bool (leanP (unionK W' 3)).1, nv]) rfl rfl e rfl ?_
      apply wr_nil
      exact ⟨rfl, Keeps.refl _ _⟩
    focus (intro xx yy h; rfl)
    focus kernel_rfl
    apply chP_pure
    focus
      intro xx w' hk hF
      refine wr_notc (b := (leanP (unionK W' 3)).1) (c := true) rfl rfl (by rw [hlean1, hU1]; rfl) ?_
      apply wr_nil
      exact ⟨rfl, Keeps.refl _ _⟩
    focus (intro xx yy h; rfl)
    focus kernel_rfl
    apply chP_pure
    focus
      intro xx w' hk hF
      apply wr_move; exact rfl; with_reducible (conv => enter [6, 3]; whnf)
      apply wr_nil
      exact ⟨rfl, Keeps.refl _ _⟩
    focus (intro xx yy h; rfl)
    focus kernel_rfl
    apply chP_pure
    focus
      intro xx w' hk hF
      apply wr_move; exact rfl; with_reducible (conv => enter [6, 3]; whnf)
      apply wr_nil
      exact ⟨rfl, Keeps.refl _ _⟩
    focus (intro xx yy h; rfl)
    focus kernel_rfl
    refine chP_fact (fun yq => yq) (fun yq w' => SetR w' (leanP (unionK W' 3)) yq) (fun yq w' w'' h k => h.keep k) ?_ ?_
    focus
      intro xx w' hk hF
      refine wr_call (vs := [.pointer (some ⟨ab, 0, none⟩), .int .i64 3]) rfl (leanM_ca (hJ.keepN (hk0 hk)) 3 (by decide) (by decide)) rfl ?_
      rintro v w'' ⟨hR, hkc⟩
      apply wr_nil
      exact ⟨v, rfl, hR, hkc⟩
    apply chP_pure
    focus
      intro xx w' hk hF
      refine wr_loadAll (cs := [.bool U'.1, un]) rfl rfl rfl ((hk0 hk).heap hcuJ (fun h => h)) rfl ?_
      apply wr_nil
      exact ⟨rfl, Keeps.refl _ _⟩
    focus (intro xx yy h; rfl)
    focus kernel_rfl
    apply chP_pure
    focus
      intro xx w' hk hF
      refine wr_call (vs := [xx 19, SetV U'.1 un]) rfl (same_cb true (by rw [hlean2]; exact sameP_self U') (hF 19 (by kernel_rfl)) (huJ.keep (hk0 hk)) (by rw [hlean2]; omega) (by omega)) rfl ?_
      rintro v w'' ⟨rfl, hkc⟩
      apply wr_nil
      exact ⟨rfl, hkc⟩
    focus (intro xx yy h; rfl)
    focus kernel_rfl
    apply chP_pure
    focus
      intro xx w' hk hF
      apply wr_not; iterate 2 exact rfl
      apply wr_nil
      exact ⟨rfl, Keeps.refl _ _⟩
    focus (intro xx yy h; rfl)
    focus kernel_rfl
    apply chP_pure
    focus
      intro xx w' hk hF
      apply wr_pick (t := true); (iterate 2 exact rfl); with_reducible (conv => enter [6, 3]; whnf)
      apply wr_nil
      exact ⟨rfl, Keeps.refl _ _⟩
    focus (intro xx yy h; rfl)
    focus kernel_rfl
    apply chP_pure
    focus
      intro xx w' hk hF
      apply wr_pick (t := false); (iterate 2 exact rfl); with_reducible (conv => enter [6, 3]; whnf)
      apply wr_nil
      exact ⟨rfl, Keeps.refl _ _⟩
    focus (intro xx yy h; rfl)
    focus kernel_rfl
    refine chP_nil ?_
    intro xx wk hkk' hF
    have hkk := hk0 hkk'
    clear hF
    (repeat first | (apply wr_move; exact rfl; with_reducible (conv => enter [6, 3]; whnf)) | (apply wr_assign; exact rfl; with_reducible (conv => enter [6, 3]; whnf)) | apply wr_end | apply wc_region | apply wc_skip | (apply wr_add; (iterate 3 exact rfl); exact w_fit (by dsimp only [kIn]; first | done | omega)) | (apply wc_false; exact rfl))
    exact ⟨(i + 1, W'), by dsimp only; omega, ⟨by trivial, ⟨hlt30, hJ.keepN hkk, huw', hwaJ.keep hkk, ⟨av, by rw [hU']; exact hkk.heap hc5J (fun h => h), by rw [hU']; exact hatJ.keep hkk⟩, hKJ.trans hkk⟩⟩, rfl, rfl, rfl, rfl, rfl, rfl, trivial⟩
  focus
    refine wc_drawP (l := _) 25 _ (by kernel_rfl) (by kernel_rfl) rfl (by kernel_rfl) (by kernel_rfl) (by decide) ?_
    apply chP_pure
    focus
      intro xx w' hk hF
      apply wr_move; exact rfl; with_reducible (conv => enter [6, 3]; whnf)
      apply wr_nil
      exact ⟨rfl, Keeps.refl _ _⟩
    focus (intro xx yy h; rfl)
    focus kernel_rfl
    apply chP_pure
    focus
      intro xx w' hk hF
      apply wr_len_slice; iterate 2 exact rfl
      apply wr_nil
      exact ⟨rfl, Keeps.refl _ _⟩
    focus (intro xx yy h; rfl)
    focus kernel_rfl
    apply chP_pure
    focus
      intro xx w' hk hF
      apply wr_move; exact rfl; with_reducible (conv => enter [6, 3]; whnf)
      apply wr_nil
      exact ⟨rfl, Keeps.refl _ _⟩
    focus (intro xx yy h; rfl)
    focus kernel_rfl
    apply chP_pure
    focus
      intro xx w' hk hF
      apply wr_cmp; (iterate 3 exact rfl); exact cmpF (by dsimp only [cmpN]; first | done | omega)
      apply wr_nil
      exact ⟨rfl, Keeps.refl _ _⟩
    focus (intro xx yy h; rfl)
    focus kernel_rfl
    apply chP_pure
    focus
      intro xx w' hk hF
      apply wr_move; exact rfl; with_reducible (conv => enter [6, 3]; whnf)
      apply wr_nil
      exact ⟨rfl, Keeps.refl _ _⟩
    focus (intro xx yy h; rfl)
    focus kernel_rfl
    apply chP_pure
    focus
      intro xx w' hk hF
      apply wr_move; exact rfl; with_reducible (conv => enter [6, 3]; whnf)
      apply wr_nil
      exact ⟨rfl, Keeps.refl _ _⟩
    focus (intro xx yy h; rfl)
    focus kernel_rfl
    refine chP_fact (fun yq => yq) (fun yq w' => SetR w' (leanP (unionK W' 3)) yq) (fun yq w' w'' h k => h.keep k) ?_ ?_
    focus
      intro xx w' hk hF
      refine wr_call (vs := [.pointer (some ⟨ab, 0, none⟩), .int .i64 3]) rfl (leanM_ca (hJ.keepN (hk0 hk)) 3 (by decide) (by decide)) rfl ?_
      rintro v w'' ⟨hR, hkc⟩
      apply wr_nil
      exact ⟨v, rfl, hR, hkc⟩
    apply chP_pure (v := fun _ => .bool (leanP (unionK W' 3)).1)
    focus
      intro xx w' hk hF
      obtain ⟨nv, e, _⟩ : SetR w' (leanP (unionK W' 3)) (xx 6) := hF 6 (by kernel_rfl)
      refine wr_field (cs := #[.bool (leanP (unionK W' 3)).1, nv]) rfl rfl e rfl ?_
      apply wr_nil
      exact ⟨rfl, Keeps.refl _ _⟩
    focus (intro xx yy h; rfl)
    focus kernel_rfl
    apply chP_pure
    focus
      intro xx w' hk hF
      refine wr_fieldAddr rfl rfl ?_
      apply wr_nil
      exact ⟨rfl, Keeps.refl _ _⟩
    focus (intro xx yy h; rfl)
    focus kernel_rfl
    apply chP_pure
    focus
      intro xx w' hk hF
      refine wr_load (v := .bool U'.1) rfl rfl rfl ((hk0 hk).heap hcuJ (fun h => h)) rfl ?_
      apply wr_nil
      exact ⟨rfl, Keeps.refl _ _⟩
    focus (intro xx yy h; rfl)
    focus kernel_rfl
    apply chP_pure
    focus
      intro xx w' hk hF
      refine wr_boolNe (a := (leanP (unionK W' 3)).1) (b := U'.1) (c := false) rfl rfl rfl (by rw [hlean1]; cases U'.1 <;> rfl) ?_
      apply wr_nil
      exact ⟨rfl, Keeps.refl _ _⟩
    focus (intro xx yy h; rfl)
    focus kernel_rfl
    apply chP_pure
    focus
      intro xx w' hk hF
      apply wr_pick (t := false); (iterate 2 exact rfl); with_reducible (conv => enter [6, 3]; whnf)
      apply wr_nil
      exact ⟨rfl, Keeps.refl _ _⟩
    focus (intro xx yy h; rfl)
    focus kernel_rfl
    apply chP_pure
    focus
      intro xx w' hk hF
      apply wr_move; exact rfl; with_reducible (conv => enter [6, 3]; whnf)
      apply wr_nil
      exact ⟨rfl, Keeps.refl _ _⟩
    focus (intro xx yy h; rfl)
    focus kernel_rfl
    apply chP_pure
    focus
      intro xx w' hk hF
      apply wr_move; exact rfl; with_reducible (conv => enter [6, 3]; whnf)
      apply wr_nil
      exact ⟨rfl, Keeps.refl _ _⟩
    focus (intro xx yy h; rfl)
    focus kernel_rfl
    refine chP_fact (fun yq => yq) (fun yq w' => SetR w' (leanP (unionK W' 3)) yq) (fun yq w' w'' h k => h.keep k) ?_ ?_
    focus
      intro xx w' hk hF
      refine wr_call (vs := [.pointer (some ⟨ab, 0, none⟩), .int .i64 3]) rfl (leanM_ca (hJ.keepN (hk0 hk)) 3 (by decide) (by decide)) rfl ?_
      rintro v w'' ⟨hR, hkc⟩
      apply wr_nil
      exact ⟨v, rfl, hR, hkc⟩
    apply chP_pure (v := fun _ => .bool (leanP (unionK W' 3)).1)
    focus
      intro xx w' hk hF
      obtain ⟨nv, e, _⟩ : SetR w' (leanP (unionK W' 3)) (xx 14) := hF 14 (by kernel_rfl)
      refine wr_field (cs := #[.bool (leanP (unionK W' 3)).1, nv]) rfl rfl e rfl ?_
      apply wr_nil
      exact ⟨rfl, Keeps.refl _ _⟩
    focus (intro xx yy h; rfl)
    focus kernel_rfl
    apply chP_pure
    focus
      intro xx w' hk hF
      refine wr_notc (b := (leanP (unionK W' 3)).1) (c := false) rfl rfl (by rw [hlean1, hU1]; rfl) ?_
      apply wr_nil
      exact ⟨rfl, Keeps.refl _ _⟩
    focus (intro xx yy h; rfl)
    focus kernel_rfl
    apply chP_pure
    focus
      intro xx w' hk hF
      apply wr_move; exact rfl; with_reducible (conv => enter [6, 3]; whnf)
      apply wr_nil
      exact ⟨rfl, Keeps.refl _ _⟩
    focus (intro xx yy h; rfl)
    focus kernel_rfl
    apply chP_pure
    focus
      intro xx w' hk hF
      refine wr_skip rfl ?_
      apply wr_nil
      exact ⟨rfl, Keeps.refl _ _⟩
    focus (intro xx yy h; rfl)
    focus kernel_rfl
    apply chP_pure
    focus
      intro xx w' hk hF
      refine wr_skip rfl ?_
      apply wr_nil
      exact ⟨rfl, Keeps.refl _ _⟩
    focus (intro xx yy h; rfl)
    focus kernel_rfl
    apply chP_pure
    focus
      intro xx w' hk hF
      refine wr_skip rfl ?_
      apply wr_nil
      exact ⟨rfl, Keeps.refl _ _⟩
    focus (intro xx yy h; rfl)
    focus kernel_rfl
    apply chP_pure
    focus
      intro xx w' hk hF
      refine wr_skip rfl ?_
      apply wr_nil
      exact ⟨rfl, Keeps.refl _ _⟩
    focus (intro xx yy h; rfl)
    focus kernel_rfl
    apply chP_pure
    focus
      intro xx w' hk hF
      refine wr_skip rfl ?_
      apply wr_nil
      exact ⟨rfl, Keeps.refl _ _⟩
    focus (intro xx yy h; rfl)
    focus kernel_rfl
    apply chP_pure
    focus
      intro xx w' hk hF
      apply wr_pick (t := false); (iterate 2 exact rfl); with_reducible (conv => enter [6, 3]; whnf)
      apply wr_nil
      exact ⟨rfl, Keeps.refl _ _⟩
    focus (intro xx yy h; rfl)
    focus kernel_rfl
    apply chP_pure
    focus
      intro xx w' hk hF
      apply wr_pick (t := false); (iterate 2 exact rfl); with_reducible (conv => enter [6, 3]; whnf)
      apply wr_nil
      exact ⟨rfl, Keeps.refl _ _⟩
    focus (intro xx yy h; rfl)
    focus kernel_rfl
    refine chP_nil ?_
    intro xx wk hkk' hF
    have hkk := hk0 hkk'
    clear hF
    (repeat first | (apply wr_move; exact rfl; with_reducible (conv => enter [6, 3]; whnf)) | (apply wr_assign; exact rfl; with_reducible (conv => enter [6, 3]; whnf)) | apply wr_end | apply wc_region | apply wc_skip | (apply wr_add; (iterate 3 exact rfl); exact w_fit (by dsimp only [kIn]; first | done | omega)) | (apply wc_false; exact rfl))
    exact ⟨(i + 1, W'), by dsimp only; omega, ⟨by trivial, ⟨hlt30, hJ.keepN hkk, huw', hwaJ.keep hkk, ⟨av, by rw [hU']; exact hkk.heap hc5J (fun h => h), by rw [hU']; exact hatJ.keep hkk⟩, hKJ.trans hkk⟩⟩, rfl, rfl, rfl, rfl, rfl, rfl, trivial⟩
end Go.Proofs.YtajajahofkialaaGreatDoor
