/- MergeKeys. -/
import Derived.Test.YtajajahofkialaaGreatDoorHn
namespace Go.Proofs.YtajajahofkialaaGreatDoor
open Go Go.V Go.RowKit
set_option linter.unusedVariables false
set_option linter.unusedSimpArgs false

/- The head: $1 after New. -/
/- A set of a few: $1 slice, $2 bytes, $3 world, $4 stem, $5 SlR, $6 bytes small, $7 how many. -/
theorem dig_bytes {n : Nat} (h : n ≤ 3) : bytesV [UInt8.ofNat (48 + n)] = [.int .u8 (48 + (n : Int))] := by
  have : ((UInt8.ofNat (48 + n)).toNat : Int) = 48 + (n : Int) := by
    rw [UInt8.toNat_ofNat']
    omega
  show [Value.int .u8 ((UInt8.ofNat (48 + n)).toNat : Int)] = _
  rw [this]
theorem unionK_other {Wn : WF} {t : TY} (s : PS) {k : Nat} (hk : (k : Int) ≠ t.2) : unionK (updW Wn t s) k = unionK Wn k := by
  refine ofP_congr fun x => ?_
  rw [mem_allL, mem_allL]
  have e : ∀ i : Nat, updW Wn t s ((i : Int), (k : Int)) = Wn ((i : Int), (k : Int)) := fun i => updW_ne s (fun e => hk (by rw [← e]))
  constructor
  · rintro ⟨i, hi, h⟩
    rw [e] at h
    exact ⟨i, hi, h⟩
  · rintro ⟨i, hi, h⟩
    exact ⟨i, hi, by rw [e]; exact h⟩
theorem setsAt_alloc (w : World) (L : List SE) (h : ∀ x ∈ L, SlR w 1 x.2 x.1.2.length (SL x.1.2)) : SetsAt (w.alloc (.cells ((L.map fun x => SetV x.1.1 x.2).flatMap (fun v => v.cells.toList)).toArray 41)) L (.slice (some ⟨w.heap.size, 0, none⟩) L.length L.length) := by
  have e : (L.map fun x => SetV x.1.1 x.2).flatMap (fun v => v.cells.toList) = L.flatMap GSt := by
    rw [List.flatMap_map]; rfl
  have hl : (L.flatMap GSt).length = L.length * 2 := by
    induction L with
    | nil => rfl
    | cons x L ih =>
      rw [List.flatMap_cons, List.length_append, ih (fun y hy => h y (by simp [hy])) (by rw [List.flatMap_map]; rfl)]
      simp [GSt]; omega
  refine ⟨⟨hl, _, _, rfl, Nat.le_refl _, .inr ⟨w.heap.size, 0, _, _, _, rfl, heap_alloc_same _ _, fun j hj => ?_⟩⟩, fun x hx => (h x hx).keep ((Keeps.refl NoB w).alloc _) (fun _ _ h => h)⟩
  rw [e, Nat.zero_add, List.getElem?_toArray]
theorem countP_nodup {l : TX} (h : l.Nodup) (u : TT) : l.countP (fun x => decide (x = u)) = if u ∈ l then 1 else 0 := by
  induction l with
  | nil => rfl
  | cons a l ih =>
    obtain ⟨h1, h2⟩ := List.nodup_cons.1 h
    rw [List.countP_cons, ih h2]
    by_cases e : a = u
    · subst e
      simp [h1]
    · simp [e, Ne.symm e]
def kW (x y z : PS) : Nat → WF
  | 0 => noW
  | 1 => updW noW (1, ((2 : Nat) : Int)) x
  | 2 => updW (updW noW (1, ((2 : Nat) : Int)) x) (2, ((2 : Nat) : Int)) y
  | _ => updW (updW (updW noW (1, ((2 : Nat) : Int)) x) (2, ((2 : Nat) : Int)) y) (3, ((2 : Nat) : Int)) z
theorem kW_fine {x y z : PS} (hx : Fine x) (hy : Fine y) (hz : Fine z) : ∀ i t, Fine (kW x y z i t)
  | 0, t => noW_fine t
  | 1, t => updW_fine noW_fine _ hx t
  | 2, t => updW_fine (updW_fine noW_fine _ hx) _ hy t
  | i + 3, t => updW_fine (updW_fine (updW_fine noW_fine _ hx) _ hy) _ hz t
def l3 (x y z : PS) (i : Nat) : PS := match i with
  | 0 => x
  | 1 => y
  | _ => z
theorem kW_step (x y z : PS) {i : Nat} (hi : i < 3) : kW x y z (i + 1) = updW (kW x y z i) (((1 + i : Nat) : Int), ((2 : Nat) : Int)) (l3 x y z i) := by
  match i, hi with
  | 0, _ => rfl
  | 1, _ => rfl
  | 2, _ => rfl
theorem kW_no (x y z : PS) {i : Nat} (hi : i < 3) : kW x y z i (((1 + i : Nat) : Int), ((2 : Nat) : Int)) = noneP := by
  match i, hi with
  | 0, _ => rfl
  | 1, _ => exact updW_ne _ (by decide)
  | 2, _ =>
    show updW (updW noW _ x) _ y _ = noneP
    rw [updW_ne _ (by decide), updW_ne _ (by decide)]
theorem l3_fine {x y z : PS} (hx : Fine x) (hy : Fine y) (hz : Fine z) (i : Nat) : Fine (l3 x y z i) := by
  unfold l3
  split
  · exact hx
  · exact hy
  · exact hz
theorem l3_len {x y z : PS} (hx : x.2.length ≤ 10) (hy : y.2.length ≤ 10) (hz : z.2.length ≤ 10) (i : Nat) : (l3 x y z i).2.length ≤ 10 := by
  unfold l3
  split <;> assumption
theorem kW_dom {i : Nat} (hi : i < 3) : inDom (((1 + i : Nat) : Int), ((2 : Nat) : Int)) := by
  refine ⟨?_, ?_, ?_, ?_⟩ <;> simp <;> omega
theorem kW_union {x y z : PS} (hx : Fine x) (hy : Fine y) (hz : Fine z) {i : Nat} (hi : i < 3) : unionK (kW x y z (i + 1)) 2 = unionP [unionK (kW x y z i) 2, l3 x y z i] := by
  rw [kW_step x y z hi, unionK_add (kW_fine hx hy hz i) (kW_dom hi) (kW_no x y z hi) (l3_fine hx hy hz i) rfl]
theorem kW_len {x y z : PS} (hx : Fine x) (hy : Fine y) (hz : Fine z) (lx : x.2.length ≤ 10) (ly : y.2.length ≤ 10) (lz : z.2.length ≤ 10) : ∀ i, i ≤ 3 → (unionK (kW x y z i) 2).2.length ≤ 10 * i
  | 0, _ => by
    show (unionK noW 2).2.length ≤ 0
    rw [unionK_no]; simp [noneP]
  | i + 1, hi => by
    have h1 := kW_len hx hy hz lx ly lz i (by omega)
    rw [kW_union hx hy hz (by omega)]
    have h2 := union2_le (unionK (kW x y z i) 2) (l3 x y z i)
    have h3 := l3_len lx ly lz i
    omega
theorem kW_all {x y z : PS} (hx : Fine x) (hy : Fine y) (hz : Fine z) : unionK (kW x y z 3) 2 = unionP [x, y, z] := by
  rw [kW_union hx hy hz (by decide), kW_union hx hy hz (by decide), kW_union hx hy hz (by decide)]
  show unionP [unionP [unionP [unionK noW 2, x], y], z] = _
  rw [unionK_no, union_none1 hx]
  refine fine_ext (union_fine2 (union_fine2 hx hy) hz) (unionP_fine (by intro s hs; simp at hs; rcases hs with rfl | rfl | rfl <;> assumption)) ?_ fun w => ?_
  · simp [unionP, Bool.or_assoc]
  · rw [mem_union2, mem_union2, mem_unionP]
    simp [or_assoc]
theorem kW_cnt {x y z : PS} (u : TT) : cntW (kW x y z 3) 2 u = (((if u ∈ listP x then 1 else 0) + (if u ∈ listP y then 1 else 0) + (if u ∈ listP z then 1 else 0) : Nat) : Int) := by
  show cntW (updW (updW (updW noW (1, ((2 : Nat) : Int)) x) (2, ((2 : Nat) : Int)) y) (3, ((2 : Nat) : Int)) z) 2 u = _
  rw [cntW_upd (by decide) z rfl u, cntW_upd (by decide) y rfl u, cntW_upd (by decide) x rfl u, cnt_no]
  have n1 : updW noW (1, ((2 : Nat) : Int)) x (2, ((2 : Nat) : Int)) = noneP := updW_ne _ (by decide)
  have n2 : updW (updW noW (1, ((2 : Nat) : Int)) x) (2, ((2 : Nat) : Int)) y (3, ((2 : Nat) : Int)) = noneP := by rw [updW_ne _ (by decide), updW_ne _ (by decide)]
  rw [n1, n2]
  have hn : ¬ u ∈ listP noneP := by simp [noneP, listP]
  rw [if_neg hn]
  by_cases h1 : u ∈ listP x <;> by_cases h2 : u ∈ listP y <;> by_cases h3 : u ∈ listP z <;> simp [h1, h2, h3]
/-- How many of the first k name u. -/
def nOfK (x y z : PS) (u : TT) : Nat → Nat
  | 0 => 0
  | k + 1 => nOfK x y z u k + (if u ∈ listP (l3 x y z k) then 1 else 0)
theorem nOfK_le (x y z : PS) (u : TT) : ∀ k, nOfK x y z u k ≤ k
  | 0 => Nat.le_refl _
  | k + 1 => by
    have := nOfK_le x y z u k
    unfold nOfK
    split <;> omega
theorem nOfK_3 (x y z : PS) (u : TT) : cntW (kW x y z 3) 2 u = (nOfK x y z u 3 : Int) := by
  rw [kW_cnt]
  show _ = ((((0 + (if u ∈ listP x then 1 else 0)) + (if u ∈ listP y then 1 else 0)) + (if u ∈ listP z then 1 else 0) : Nat) : Int)
  rw [Nat.zero_add]
set_option maxRecDepth 100000 in
set_option maxHeartbeats 16000000 in
theorem keys_law (al bl cl : List Nat) (a b c : Value) {w : World} {p q : Addr} (hg : GloM w p q) (ha : SlR w 1 a al.length (IB al)) (ha8 : ∀ x ∈ al, x < 256) (hb : SlR w 1 b bl.length (IB bl)) (hb8 : ∀ x ∈ bl, x < 256) (hc : SlR w 1 c cl.length (IB cl)) (hc8 : ∀ x ∈ cl, x < 256) :
    Ca Tryz.prog 4 #[a, b, c] w fun v w' => v = .bool true ∧ Keeps NoB w w' := by
  refine ca_of_body (args := [a, b, c]) Tryz.func4 rfl (by kernel_rfl) ?_
  (repeat first | (apply wr_assign; exact rfl; with_reducible (conv => enter [6, 3]; whnf)) | apply wr_end | apply wc_seq | apply wc_region)
  refine wr_call (vs := []) rfl (examples_ca hg) rfl ?_
  rintro v w0 ⟨rfl, hk0'⟩
  have hz0 := hk0'.size
  have hg0 := hg.keep hk0'
  (repeat first | (apply wr_move; exact rfl; with_reducible (conv => enter [6, 3]; whnf)) | (apply wr_assign; exact rfl; with_reducible (conv => enter [6, 3]; whnf)) | apply wr_end | apply wc_seq | apply wc_region | apply wc_skip | (apply wr_not; iterate 2 exact rfl) | (apply wc_false; exact rfl))
  refine wr_call (vs := []) rfl (newM_ca w0) rfl ?_
  rintro v w1 ⟨⟨ab, wb, cb, rfl, h1, hab, hwb, hcb⟩, hk1⟩
  have hmD : ∀ i, i < w.heap.size → ¬ mD wb cb i := fun i hi e => by
    rcases e with e | e
    · omega
    · have := hcb i e; omega
  have hK1 := hk0'.trans hk1
  have hg1 := hg0.keep hk1
  have hz1 := hK1.size
  (repeat first | (apply wr_move; exact rfl; with_reducible (conv => enter [6, 3]; whnf)) | (apply wr_assign; exact rfl; with_reducible (conv => enter [6, 3]; whnf)) | apply wr_end | apply wc_seq | apply wc_region)
  refine wr_ptrNil rfl rfl ?_
  (repeat first | (apply wr_move; exact rfl; with_reducible (conv => enter [6, 3]; whnf)) | apply wr_end | apply wc_seq | apply wc_region | apply wc_skip | (apply wc_false; exact rfl))
  refine wr_call (vs := [a, .int .i64 ((10 : Nat) : Int)]) rfl (few_ca al a 10 (by decide) w1 (ha.keep hK1 (fun _ _ h => h)) ha8) rfl ?_
  rintro v xu ⟨hfw, hkxu⟩
  have hle := namesF_le al 10
  refine wr_call (vs := [v]) rfl (ofO_ca (namesF al 10) v xu (SlR.of_own hfw) (by omega) (namesF_ok al 10)) rfl ?_
  rintro sv xv ⟨hsv, hkxv⟩
  obtain ⟨x, hxe⟩ : ∃ W, W = ofP (namesF al 10) := ⟨_, rfl⟩
  have hxf : Fine x := by rw [hxe]; exact ofP_fine _
  have hxl : (x).2.length ≤ 10 := by rw [hxe]; have := ofP_le (namesF al 10); omega
  rw [← hxe] at hsv
  obtain ⟨xn, rfl, hxo⟩ := hsv
  have hxR : SetR xv x (SetV (x).1 xn) := ⟨xn, rfl, SlR.of_own hxo⟩
  clear hxe hfw hxo
  have hkx := hkxu.trans hkxv
  have hKx := hK1.trans hkx
  (repeat first | (apply wr_move; exact rfl; with_reducible (conv => enter [6, 3]; whnf)))
  refine wr_call (vs := [b, .int .i64 ((10 : Nat) : Int)]) rfl (few_ca bl b 10 (by decide) xv (hb.keep hKx (fun _ _ h => h)) hb8) rfl ?_
  rintro v yu ⟨hfw, hkyu⟩
  have hle := namesF_le bl 10
  refine wr_call (vs := [v]) rfl (ofO_ca (namesF bl 10) v yu (SlR.of_own hfw) (by omega) (namesF_ok bl 10)) rfl ?_
  rintro sv yv ⟨hsv, hkyv⟩
  obtain ⟨y, hye⟩ : ∃ W, W = ofP (namesF bl 10) := ⟨_, rfl⟩
  have hyf : Fine y := by rw [hye]; exact ofP_fine _
  have hyl : (y).2.length ≤ 10 := by rw [hye]; have := ofP_le (namesF bl 10); omega
  rw [← hye] at hsv
  obtain ⟨yn, rfl, hyo⟩ := hsv
  have hyR : SetR yv y (SetV (y).1 yn) := ⟨yn, rfl, SlR.of_own hyo⟩
  clear hye hfw hyo
  have hky := hkyu.trans hkyv
  have hKy := hKx.trans hky
  (repeat first | (apply wr_move; exact rfl; with_reducible (conv => enter [6, 3]; whnf)))
  refine wr_call (vs := [c, .int .i64 ((10 : Nat) : Int)]) rfl (few_ca cl c 10 (by decide) yv (hc.keep hKy (fun _ _ h => h)) hc8) rfl ?_
  rintro v zu ⟨hfw, hkzu⟩
  have hle := namesF_le cl 10
  refine wr_call (vs := [v]) rfl (ofO_ca (namesF cl 10) v zu (SlR.of_own hfw) (by omega) (namesF_ok cl 10)) rfl ?_
  rintro sv zv ⟨hsv, hkzv⟩
  obtain ⟨z, hze⟩ : ∃ W, W = ofP (namesF cl 10) := ⟨_, rfl⟩
  have hzf : Fine z := by rw [hze]; exact ofP_fine _
  have hzl : (z).2.length ≤ 10 := by rw [hze]; have := ofP_le (namesF cl 10); omega
  rw [← hze] at hsv
  obtain ⟨zn, rfl, hzo⟩ := hsv
  have hzR : SetR zv z (SetV (z).1 zn) := ⟨zn, rfl, SlR.of_own hzo⟩
  clear hze hfw hzo
  have hkz := hkzu.trans hkzv
  have hKz := hKy.trans hkz
  have hxRz := (hxR.keep hky).keep hkz
  have hyRz := hyR.keep hkz
  refine wr_buildSlice (vs := [SetV x.1 xn, SetV y.1 yn, SetV z.1 zn]) rfl rfl (by intro v hv; simp at hv; rcases hv with rfl | rfl | rfl <;> rfl) rfl (by decide) (by decide) (by decide) ?_
  refine wr_name ?_
  intro w2 hw2
  obtain ⟨b9, hb9⟩ : ∃ b, b = zv.heap.size := ⟨_, rfl⟩
  have hk2 : Keeps NoB zv w2 := by rw [hw2]; exact (Keeps.refl NoB zv).alloc _
  have hc2 : w2.heap[b9]? = some (.cells (([(x, xn), (y, yn), (z, zn)] : List SE).flatMap GSt).toArray 41 (0, 0)) := by rw [hw2, hb9]; exact heap_alloc_same _ _
  rw [← hb9]
  clear hw2
  have hk12 := ((hkx.trans hky).trans hkz).trans hk2
  have h2 := h1.keepN hk12
  have hg2 := hg1.keep hk12
  have hK2 := hKz.trans hk2
  have hxR2 := hxRz.keep hk2
  have hyR2 := hyRz.keep hk2
  have hzR2 := hzR.keep hk2
  have hL3 : ∀ i, i < 3 → ∃ v, ([(x, xn), (y, yn), (z, zn)] : List SE)[i]? = some (l3 x y z i, v) := fun i hi => by
    match i, hi with
    | 0, _ => exact ⟨_, rfl⟩
    | 1, _ => exact ⟨_, rfl⟩
    | 2, _ => exact ⟨_, rfl⟩
  have hsel : ∀ {w' : World}, SetR w' x (SetV x.1 xn) → SetR w' y (SetV y.1 yn) → SetR w' z (SetV z.1 zn) → ∀ i v, ([(x, xn), (y, yn), (z, zn)] : List SE)[i]? = some (l3 x y z i, v) → i < 3 → SetR w' (l3 x y z i) (SetV (l3 x y z i).1 v) := fun e1 e2 e3 i v hv hi => by
    match i, hi with
    | 0, _ => simp at hv; obtain ⟨_, rfl⟩ := hv; exact e1
    | 1, _ => simp at hv; obtain ⟨_, rfl⟩ := hv; exact e2
    | 2, _ => simp at hv; obtain ⟨_, rfl⟩ := hv; exact e3
  (repeat first | (apply wr_assign; exact rfl; with_reducible (conv => enter [6, 3]; whnf)) | apply wr_end | apply wc_seq | apply wc_region | apply wc_block)
  refine wc_loopL (α := Nat) (fun i => [(7, .bool true), (8, .pointer (some ⟨ab, 0, none⟩)), (9, .slice (some ⟨b9, 0, none⟩) 3 3), (10, .int .i64 (i : Int))])
    (fun i ds w' => ds = [] ∧ i ≤ 3 ∧ MgAt w' 0 ab wb cb (kW x y z i) ∧ GloM w' p q ∧ SetR w' x (SetV x.1 xn) ∧ SetR w' y (SetV y.1 yn) ∧ SetR w' z (SetV z.1 zn) ∧ w'.heap[b9]? = some (.cells (([(x, xn), (y, yn), (z, zn)] : List SE).flatMap GSt).toArray 41 (0, 0)) ∧ Keeps NoB w w') (fun i => 3 - i) 0
    ⟨rfl, by decide, h2, hg2, hxR2, hyR2, hzR2, hc2, hK2⟩ ⟨rfl, rfl, rfl, rfl, trivial⟩ ?_
  rintro i ds f0 w3 ⟨rfl, hi, h3, hg3, hxR3, hyR3, hzR3, hc3, hK3⟩
  by_cases hlt : i < 3
  · obtain ⟨sv, hsv⟩ := hL3 i hlt
    have hsR := hsel hxR3 hyR3 hzR3 i sv hsv hlt
    have hlen := kW_len hxf hyf hzf hxl hyl hzl (i + 1) hlt
    have hll := l3_len hxl hyl hzl i
    (repeat first | (apply wr_move; exact rfl; with_reducible (conv => enter [6, 3]; whnf)) | apply wr_end | apply wc_seq | apply wc_region | apply wc_skip | apply wc_block | (apply wr_cmp; (iterate 3 exact rfl); exact cmpT (by dsimp only [cmpP]; first | done | omega)) | (apply wr_add; (iterate 3 exact rfl); exact w_fit (by dsimp only [kIn]; first | done | omega)) | (apply wc_true; exact rfl))
    refine wr_indexAddr (i := i) rfl rfl rfl hlt ?_
    refine wr_loadElem (G := GSt) (n := 3) (l := [(x, xn), (y, yn), (z, zn)]) rfl rfl GSt_len rfl hc3 (fun j hj => by rw [Nat.zero_add, List.getElem?_toArray]) hlt hsv rfl ?_
    rw [show (1 : Int) + (i : Int) = ((1 + i : Nat) : Int) by omega]
    refine wr_call (vs := [.pointer (some ⟨ab, 0, none⟩), .int .i64 ((1 + i : Nat) : Int), .int .i64 2, SetV (l3 x y z i).1 sv]) rfl (setM_ok h3 hg3 (id := ((1 + i : Nat) : Int)) (k := 2) (kW_dom hlt) hsR (l3_fine hxf hyf hzf i) (by omega) (fits_of (by omega) (by rw [← kW_step x y z hlt]; omega))) rfl ?_
    rintro v w4 ⟨⟨h4, m1, l1, rfl, hm1, hl1⟩, hk4⟩
    rw [← kW_step x y z hlt] at h4
    have nc3 := mD_nc h3
    have hK4 : Keeps NoB w w4 := hK3.trans' hk4 (fun i hi e => hmD i hi e)
    generalize hU1 : lessP (unionK (updW (kW x y z i) (((1 + i : Nat) : Int), ((2 : Nat) : Int)) (l3 x y z i)) 2) (unionK (kW x y z i) 2) = U1 at hm1
    generalize hU2 : lessP (unionK (kW x y z i) 2) (unionK (updW (kW x y z i) (((1 + i : Nat) : Int), ((2 : Nat) : Int)) (l3 x y z i)) 2) = U2 at hl1
    apply wr_move; exact rfl; with_reducible (conv => enter [6, 3]; whnf)
    apply wr_extract; (iterate 3 exact rfl); with_reducible (conv => enter [6, 3]; whnf)
    apply wr_extract; (iterate 3 exact rfl); with_reducible (conv => enter [6, 3]; whnf)
    apply wr_extract; (iterate 3 exact rfl); with_reducible (conv => enter [6, 3]; whnf)
    apply wr_alloc
    focus exact rfl
    refine wr_name ?_
    intro wxa hwwxa
    obtain ⟨bwxa, hbwxa⟩ : ∃ b, b = (w4).heap.size := ⟨_, rfl⟩
    have hkwxa : Keeps NoB w4 wxa := by rw [hwwxa]; exact (Keeps.refl NoB w4).alloc _
    have hcwxa : (wxa).heap[bwxa]? = some (.cells ([.bool false, nilV]).toArray 41 (0, 0)) := by rw [hwwxa, hbwxa]; exact heap_alloc_same _ _
    rw [← hbwxa]
    clear hwwxa
    apply wr_alloc
    focus exact rfl
    refine wr_name ?_
    intro wxb hwwxb
    obtain ⟨bwxb, hbwxb⟩ : ∃ b, b = (wxa).heap.size := ⟨_, rfl⟩
    have hkwxb : Keeps NoB wxa wxb := by rw [hwwxb]; exact (Keeps.refl NoB wxa).alloc _
    have hcwxb : (wxb).heap[bwxb]? = some (.cells ([.bool false, nilV]).toArray 41 (0, 0)) := by rw [hwwxb, hbwxb]; exact heap_alloc_same _ _
    rw [← hbwxb]
    clear hwwxb
    have hcawx := hkwxb.heap hcwxa (fun h => h)
    have hlrwx := lt_of_heap hcwxa
    refine wr_storeAll (cs := [.bool U1.1, m1]) rfl rfl rfl (by intro u hu; simp at hu; rcases hu with rfl | rfl; rfl; exact hm1.one.1) hcawx (rfl) (rfl) ?_
    refine wr_name ?_
    intro wxc hwwxc
    have hkwxc : Keeps (· = bwxa) wxb wxc := by rw [hwwxc]; exact (Keeps.refl _ wxb).put _ (fun _ => rfl)
    have hcwxc : (wxc).heap[bwxa]? = some (.cells ([.bool U1.1, m1]).toArray 41 (0, 0)) := by rw [hwwxc]; exact World.putObj_heap_same (lt_of_heap hcawx)
    clear hwwxc
    have hcbwx := hkwxc.heap hcwxb (fun e => by omega)
    refine wr_storeAll (cs := [.bool U2.1, l1]) rfl rfl rfl (by intro u hu; simp at hu; rcases hu with rfl | rfl; rfl; exact hl1.one.1) hcbwx (rfl) (rfl) ?_
    refine wr_name ?_
    intro wxd hwwxd
    have hkwxd : Keeps (· = bwxb) wxc wxd := by rw [hwwxd]; exact (Keeps.refl _ wxc).put _ (fun _ => rfl)
    have hcwxd : (wxd).heap[bwxb]? = some (.cells ([.bool U2.1, l1]).toArray 41 (0, 0)) := by rw [hwwxd]; exact World.putObj_heap_same (lt_of_heap hcbwx)
    clear hwwxd
    have hccwx := hkwxd.heap hcwxc (fun e => by omega)
    have hkkwx : Keeps NoB w4 wxd := ((hkwxa.trans hkwxb).trans' hkwxc (fun i hi e => by omega)).trans' hkwxd (fun i hi e => by omega)
    (repeat first | (apply wr_move; exact rfl; with_reducible (conv => enter [6, 3]; whnf)) | (apply wr_assign; exact rfl; with_reducible (conv => enter [6, 3]; whnf)) | apply wr_end | apply wc_seq | apply wc_region | apply wc_skip | (apply wr_cmp; (iterate 3 exact rfl); exact cmpF (by dsimp only [cmpN]; first | done | omega)) | (apply wr_add; (iterate 3 exact rfl); exact w_fit (by dsimp only [kIn]; first | done | omega)) | (apply wc_false; exact rfl))
    exact ⟨i + 1, by omega, ⟨by trivial, hlt, h4.keepN hkkwx, (hg3.keepD hk4 nc3).keep hkkwx, (hxR3.keepM hk4 nc3).keep hkkwx, (hyR3.keepM hk4 nc3).keep hkkwx, (hzR3.keepM hk4 nc3).keep hkkwx, hkkwx.heap (heap_keepM hc3 hk4 nc3) (fun h => h), hK4.trans hkkwx⟩, rfl, rfl, rfl, rfl, trivial⟩
  have hi3 : i = 3 := by omega
  subst hi3
  obtain ⟨W3, hW3⟩ : ∃ W, W = kW x y z 3 := ⟨_, rfl⟩
  obtain ⟨U, hU⟩ : ∃ U, U = unionP [x, y, z] := ⟨_, rfl⟩
  have hUK : unionK W3 2 = U := by rw [hW3, hU]; exact kW_all hxf hyf hzf
  have hUf : Fine U := by rw [hU]; exact unionP_fine (by intro s hs; simp at hs; rcases hs with rfl | rfl | rfl <;> assumption)
  have hUl : U.2.length ≤ 30 := by rw [← hUK, hW3]; exact kW_len hxf hyf hzf hxl hyl hzl 3 (by decide)
  rw [← hW3] at h3
  (repeat first | (apply wr_move; exact rfl; with_reducible (conv => enter [6, 3]; whnf)) | apply wr_end | apply wc_seq | apply wc_region | (apply wr_cmp; (iterate 3 exact rfl); exact cmpF (by dsimp only [cmpN]; first | done | omega)) | (apply wc_false; exact rfl) | (apply wc_exit; try simp only [thenE, inBlockE, bodyQ, ↓reduceIte, Nat.reduceEqDiff]))
  refine wr_call (vs := [.pointer (some ⟨ab, 0, none⟩), .int .i64 2]) rfl (keysM2_ca h3 2 (by decide) (by decide)) rfl ?_
  rintro kv w4 ⟨hkv, hk4⟩
  have hkl : keysL W3 2 = (listP U).map (keyT W3 2) := by unfold keysL; rw [hUK]
  rw [hkl] at hkv
  have hkvl : ((listP U).map (keyT W3 2)).length = (listP U).length := List.length_map _
  obtain ⟨ka, kc, rfl, _, hkat⟩ := slr_strs (SlR.of_own hkv)
  have hc4 := hk4.heap hc3 (fun h => h)
  have hxR4 := hxR3.keep hk4
  have hyR4 := hyR3.keep hk4
  have hzR4 := hzR3.keep hk4
  have h4 := h3.keepN hk4
  have hK4 := hK3.trans hk4
  have hk0 : ∀ {w'}, Keeps NoB w4.drew w' → Keeps NoB w4 w' := fun hk => (Keeps.refl NoB w4).drew.trans hk
  have hll := listP_le U
  (repeat first | (apply wr_assign; exact rfl; with_reducible (conv => enter [6, 3]; whnf)) | apply wr_end | apply wc_seq)
  refine wc_drawP (l := _) 13 _ (by kernel_rfl) (by kernel_rfl) rfl (by kernel_rfl) (by kernel_rfl) (by decide) ?_
  apply chP_pure
  focus
    intro xx w' hk hF
    apply wr_move; exact rfl; with_reducible (conv => enter [6, 3]; whnf)
    apply wr_nil
    exact ⟨rfl, Keeps.refl _ _⟩
  focus (intro xx yy h; rfl)
  focus kernel_rfl
  apply chP_pure
  focus
    intro xx w' hk hF
    refine wr_indexAddr (i := 0) rfl rfl rfl (by decide) ?_
    apply wr_nil
    exact ⟨rfl, Keeps.refl _ _⟩
  focus (intro xx yy h; rfl)
  focus kernel_rfl
  apply chP_pure
  focus
    intro xx w' hk hF
    refine wr_loadElem (G := GSt) (n := 3) (i := 0) (l := [(x, xn), (y, yn), (z, zn)]) rfl rfl GSt_len rfl ((hk0 hk).heap hc4 (fun h => h)) (fun j hj => by rw [Nat.zero_add, List.getElem?_toArray]) (by decide) rfl rfl ?_
    apply wr_nil
    exact ⟨rfl, Keeps.refl _ _⟩
  focus (intro xx yy h; rfl)
  focus kernel_rfl
  apply chP_pure
  focus
    intro xx w' hk hF
    apply wr_move; exact rfl; with_reducible (conv => enter [6, 3]; whnf)
    apply wr_nil
    exact ⟨rfl, Keeps.refl _ _⟩
  focus (intro xx yy h; rfl)
  focus kernel_rfl
  apply chP_pure
  focus
    intro xx w' hk hF
    refine wr_indexAddr (i := 1) rfl rfl rfl (by decide) ?_
    apply wr_nil
    exact ⟨rfl, Keeps.refl _ _⟩
  focus (intro xx yy h; rfl)
  focus kernel_rfl
  apply chP_pure
  focus
    intro xx w' hk hF
    refine wr_loadElem (G := GSt) (n := 3) (i := 1) (l := [(x, xn), (y, yn), (z, zn)]) rfl rfl GSt_len rfl ((hk0 hk).heap hc4 (fun h => h)) (fun j hj => by rw [Nat.zero_add, List.getElem?_toArray]) (by decide) rfl rfl ?_
    apply wr_nil
    exact ⟨rfl, Keeps.refl _ _⟩
  focus (intro xx yy h; rfl)
  focus kernel_rfl
  apply chP_pure
  focus
    intro xx w' hk hF
    apply wr_move; exact rfl; with_reducible (conv => enter [6, 3]; whnf)
    apply wr_nil
    exact ⟨rfl, Keeps.refl _ _⟩
  focus (intro xx yy h; rfl)
  focus kernel_rfl
  apply chP_pure
  focus
    intro xx w' hk hF
    refine wr_indexAddr (i := 2) rfl rfl rfl (by decide) ?_
    apply wr_nil
    exact ⟨rfl, Keeps.refl _ _⟩
  focus (intro xx yy h; rfl)
  focus kernel_rfl
  apply chP_pure
  focus
    intro xx w' hk hF
    refine wr_loadElem (G := GSt) (n := 3) (i := 2) (l := [(x, xn), (y, yn), (z, zn)]) rfl rfl GSt_len rfl ((hk0 hk).heap hc4 (fun h => h)) (fun j hj => by rw [Nat.zero_add, List.getElem?_toArray]) (by decide) rfl rfl ?_
    apply wr_nil
    exact ⟨rfl, Keeps.refl _ _⟩
  focus (intro xx yy h; rfl)
  focus kernel_rfl
  refine chP_fact (fun yq => yq) (fun yq w' => SetsAt w' [(x, xn), (y, yn), (z, zn)] yq) (fun yq w' w'' h k => h.keep k) ?_ ?_
  focus
    intro xx w' hk hF
    refine wr_buildSlice (vs := [SetV x.1 xn, SetV y.1 yn, SetV z.1 zn]) rfl rfl (by intro v hv; simp at hv; rcases hv with rfl | rfl | rfl <;> rfl) rfl (by decide) (by decide) (by decide) ?_
    apply wr_nil
    exact ⟨_, rfl, setsAt_alloc w' [(x, xn), (y, yn), (z, zn)] (by intro e he; simp at he; rcases he with rfl | rfl | rfl; exact (hxR4.keep (hk0 hk)).row; exact (hyR4.keep (hk0 hk)).row; exact (hzR4.keep (hk0 hk)).row), (Keeps.refl NoB w').alloc _⟩
  refine chP_fact (fun yq => yq) (fun yq w' => SetR w' (unionP [x, y, z]) yq) (fun yq w' w'' h k => h.keep k) ?_ ?_
  focus
    intro xx w' hk hF
    refine wr_call (vs := [xx 9]) rfl (union_ca [(x, xn), (y, yn), (z, zn)] _ w' (hF 9 (by kernel_rfl)) (by simp) (by simp [uN]; omega)) rfl ?_
    rintro v w'' ⟨hR, hkc⟩
    apply wr_nil
    exact ⟨v, rfl, hR, hkc⟩
  refine chP_fact (fun yq => yq) (fun yq w' => SlR w' 1 yq (listP (unionP [x, y, z])).length (SL (listP (unionP [x, y, z])))) (fun yq w' w'' h k => h.keep k (fun _ _ h => h)) ?_ ?_
  focus
    intro xx w' hk hF
    refine wr_call (vs := [xx 10]) rfl (list_ca (unionP [x, y, z]) _ w' (hF 10 (by kernel_rfl)) (by rw [← hU]; omega)) rfl ?_
    rintro v w'' ⟨hR, hkc⟩
    apply wr_nil
    exact ⟨v, rfl, hR, hkc⟩
  apply chP_pure
  focus
    intro xx w' hk hF
    apply wr_assign; exact rfl; with_reducible (conv => enter [6, 3]; whnf)
    apply wr_nil
    exact ⟨rfl, Keeps.refl _ _⟩
  focus (intro xx yy h; exact h 11 (by kernel_rfl))
  focus kernel_rfl
  refine chP_nil ?_
  intro xx w5 hk5' hF
  have hk5 := hk0 hk5'
  have hu11 : SlR w5 1 (xx 11) (listP (unionP [x, y, z])).length (SL (listP (unionP [x, y, z]))) := hF 11 (by decide)
  clear hF
  rw [← hU] at hu11
  obtain ⟨ua, uc, hue, _, huat⟩ := slr_strs hu11
  dsimp only [Nat.reduceAdd]
  rw [hue]
  have hc5 := hk5.heap hc4 (fun h => h)
  have hxR5 := hxR4.keep hk5
  have hyR5 := hyR4.keep hk5
  have hzR5 := hzR4.keep hk5
  have h5 := h4.keepN hk5
  have hK5 := hK4.trans hk5
  have hkeys1 : keysL W3 1 = [] := by
    have e : unionK W3 1 = noneP := by
      rw [hW3]
      show unionK (updW (updW (updW noW (1, ((2 : Nat) : Int)) x) (2, ((2 : Nat) : Int)) y) (3, ((2 : Nat) : Int)) z) 1 = noneP
      rw [unionK_other _ (by decide), unionK_other _ (by decide), unionK_other _ (by decide), unionK_no]
    unfold keysL
    rw [e]
    rfl
  have hbk5 : ∀ (bk : Nat) o, w4.heap[bk]? = some o → w5.heap[bk]? = some o := fun bk o h => hk5.heap h (fun h => h)
  rw [hkvl]
  (repeat first | (apply wr_move; exact rfl; with_reducible (conv => enter [6, 3]; whnf)) | (apply wr_assign; exact rfl; with_reducible (conv => enter [6, 3]; whnf)) | apply wr_end | apply wc_seq | apply wc_region | apply wc_skip | apply wc_block | (apply wr_len_slice; iterate 2 exact rfl) | (apply wr_cmp; (iterate 3 exact rfl); exact cmpF (by dsimp only [cmpN]; first | done | omega)) | (apply wc_false; exact rfl))
  refine wc_loopL (α := Nat) (fun i => [(7, .bool true), (8, .pointer (some ⟨ab, 0, none⟩)), (9, .slice (some ⟨b9, 0, none⟩) 3 3), (14, .slice ka (listP U).length kc), (15, .slice ua (listP U).length uc), (16, .int .i64 (i : Int))])
    (fun i ds w' => ds = [] ∧ i ≤ (listP U).length ∧ Keeps NoB w5 w') (fun i => (listP U).length - i) 0
    ⟨rfl, Nat.zero_le _, Keeps.refl _ _⟩ ⟨rfl, rfl, rfl, rfl, rfl, rfl, trivial⟩ ?_
  rintro i ds f0 w6 ⟨rfl, hi, hk6⟩
  by_cases hlt : i < (listP U).length
  rotate_left
  · have hie : i = (listP U).length := by omega
    subst hie
    (repeat first | (apply wr_move; exact rfl; with_reducible (conv => enter [6, 3]; whnf)) | apply wr_end | apply wc_seq | apply wc_region | (apply wr_len_slice; iterate 2 exact rfl) | (apply wr_cmp; (iterate 3 exact rfl); exact cmpF (by dsimp only [cmpN]; first | done | omega)) | (apply wc_false; exact rfl) | (apply wc_exit; try simp only [thenE, inBlockE, bodyQ, ↓reduceIte, Nat.reduceEqDiff]))
    refine wr_call (vs := [.pointer (some ⟨ab, 0, none⟩), .int .i64 1]) rfl (keysM2_ca (h5.keepN hk6) 1 (by decide) (by decide)) rfl ?_
    rintro v w7 ⟨hv, hk7⟩
    rw [hkeys1] at hv
    obtain ⟨a1, c1, rfl, _, _⟩ := slr_strs (SlR.of_own hv)
    rw [show ([] : TX).length = 0 from rfl]
    (repeat first | (apply wr_move; exact rfl; with_reducible (conv => enter [6, 3]; whnf)) | (apply wr_len_slice; iterate 2 exact rfl) | (apply wr_cmp; (iterate 3 exact rfl); exact cmpT (by dsimp only [cmpP]; first | done | omega)) | (apply wr_pick (t := true); (iterate 2 exact rfl); with_reducible (conv => enter [6, 3]; whnf)))
    refine wr_call (vs := [.pointer (some ⟨ab, 0, none⟩), .int .i64 9]) rfl (keysZ_ca (by decide)) rfl ?_
    rintro v w8 ⟨rfl, hk8⟩
    (repeat first | (apply wr_assign; exact rfl; with_reducible (conv => enter [6, 3]; whnf)) | apply wr_end | (apply wr_len_slice; iterate 2 exact rfl) | (apply wr_cmp; (iterate 3 exact rfl); exact cmpT (by dsimp only [cmpP]; first | done | omega)) | (apply wr_pick (t := true); (iterate 2 exact rfl); with_reducible (conv => enter [6, 3]; whnf)) | (apply wc_ret; try simp only [thenE, inBlockE, bodyQ]))
    exact leave1 (v := .bool true) rfl rfl ⟨rfl, ((hK5.trans hk6).trans hk7).trans hk8⟩
  obtain ⟨u, hu⟩ : ∃ u, (listP U)[i]? = some u := ⟨(listP U)[i], by simp [hlt]⟩
  obtain ⟨bk, ok, rfl, curk, ek, frk, hbk, hrk⟩ := hkat (by omega)
  obtain ⟨bu, ou, rfl, curu, eu, fru, hbu, hru⟩ := huat (by omega)
  have hkk : ((listP U).map (keyT W3 2))[i]? = some (keyT W3 2 u) := by rw [List.getElem?_map, hu]; rfl
  have hn3 := nOfK_le x y z u 3
  have hkey := hrk i _ hkk
  rw [show keyT W3 2 u = u ++ [32] ++ [UInt8.ofNat (48 + nOfK x y z u 3)] by unfold keyT; rw [hW3, nOfK_3, Int.toNat_natCast, Lib.decDigits_one (by omega)]] at hkey
  have hui := hru i _ hu
  have hul : u.length ≤ 64 := by
    rcases (mem_listP U u).1 (List.mem_of_getElem? hu) with ⟨_, rfl⟩ | h1
    · decide
    · exact nameOk_le (hUf.2 u h1)
  (repeat first | (apply wr_move; exact rfl; with_reducible (conv => enter [6, 3]; whnf)) | (apply wr_assign; exact rfl; with_reducible (conv => enter [6, 3]; whnf)) | apply wr_end | apply wc_seq | apply wc_region | apply wc_skip | apply wc_block | (apply wr_len_slice; iterate 2 exact rfl) | (apply wr_cmp; (iterate 3 exact rfl); exact cmpT (by dsimp only [cmpP]; first | done | omega)) | (apply wc_true; exact rfl))
  refine wc_loopL (α := Nat) (fun k => [(7, .bool true), (8, .pointer (some ⟨ab, 0, none⟩)), (9, .slice (some ⟨b9, 0, none⟩) 3 3), (14, .slice (some ⟨bk, ok, none⟩) (listP U).length kc), (15, .slice (some ⟨bu, ou, none⟩) (listP U).length uc), (16, .int .i64 (i : Int)), (17, .int .i64 ((nOfK x y z u k : Nat) : Int)), (18, .int .i64 (k : Int))])
    (fun k ds w' => ds = [] ∧ k ≤ 3 ∧ Keeps NoB w5 w') (fun k => 3 - k) 0
    ⟨rfl, by decide, hk6⟩ ⟨rfl, rfl, rfl, rfl, rfl, rfl, rfl, rfl, trivial⟩ ?_
  rintro k ds f0 w7 ⟨rfl, hk3, hk7⟩
  have hbk7 := hk7.heap (hbk5 _ _ hbk) (fun h => h)
  have hbu7 := hk7.heap hbu (fun h => h)
  by_cases hkl3 : k < 3
  · obtain ⟨sv, hsv⟩ := hL3 k hkl3
    have hsR := hsel (hxR5.keep hk7) (hyR5.keep hk7) (hzR5.keep hk7) k sv hsv hkl3
    have hsl := l3_len hxl hyl hzl k
    have hlpl := listP_le (l3 x y z k)
    have hc7 := hk7.heap hc5 (fun h => h)
    have hnk := nOfK_le x y z u k
    (repeat first | (apply wr_move; exact rfl; with_reducible (conv => enter [6, 3]; whnf)) | apply wr_end | apply wc_seq | apply wc_region | apply wc_skip | apply wc_block | (apply wr_cmp; (iterate 3 exact rfl); exact cmpT (by dsimp only [cmpP]; first | done | omega)) | (apply wc_true; exact rfl))
    refine wr_indexAddr (i := k) rfl rfl rfl hkl3 ?_
    refine wr_loadElem (G := GSt) (n := 3) (l := [(x, xn), (y, yn), (z, zn)]) rfl rfl GSt_len rfl hc7 (fun j hj => by rw [Nat.zero_add, List.getElem?_toArray]) hkl3 hsv rfl ?_
    refine wr_call (vs := [SetV (l3 x y z k).1 sv]) rfl (list_ca (l3 x y z k) _ w7 hsR (by omega)) rfl ?_
    rintro lv w8 ⟨hlv, hk8⟩
    obtain ⟨la, lc, rfl, _, hlat⟩ := slr_strs hlv
    (repeat first | (apply wr_assign; exact rfl; with_reducible (conv => enter [6, 3]; whnf)) | apply wr_end | apply wc_seq | apply wc_region | apply wc_block)
    refine wc_loopL (α := Nat) (fun j => [(7, .bool true), (8, .pointer (some ⟨ab, 0, none⟩)), (9, .slice (some ⟨b9, 0, none⟩) 3 3), (14, .slice (some ⟨bk, ok, none⟩) (listP U).length kc), (15, .slice (some ⟨bu, ou, none⟩) (listP U).length uc), (16, .int .i64 (i : Int)), (17, .int .i64 ((nOfK x y z u k + ((listP (l3 x y z k)).take j).countP (fun a => decide (a = u)) : Nat) : Int)), (18, .int .i64 (k : Int)), (19, .slice la (listP (l3 x y z k)).length lc), (20, .int .i64 (j : Int))])
      (fun j ds w' => ds = [] ∧ j ≤ (listP (l3 x y z k)).length ∧ Keeps NoB w8 w') (fun j => (listP (l3 x y z k)).length - j) 0
      ⟨rfl, Nat.zero_le _, Keeps.refl _ _⟩ ⟨rfl, rfl, rfl, rfl, rfl, rfl, rfl, rfl, rfl, rfl, trivial⟩ ?_
    rintro j ds f0 w9 ⟨rfl, hj, hk9⟩
    have hk59 := hk7.trans (hk8.trans hk9)
    have hcl : ((listP (l3 x y z k)).take j).countP (fun a => decide (a = u)) ≤ 11 := by
      have h1 := List.countP_le_length (p := fun a => decide (a = u)) (l := (listP (l3 x y z k)).take j)
      rw [List.length_take] at h1
      omega
    by_cases hjl : j < (listP (l3 x y z k)).length
    · obtain ⟨yj, hyj⟩ : ∃ u, (listP (l3 x y z k))[j]? = some u := ⟨(listP (l3 x y z k))[j], by simp [hjl]⟩
      obtain ⟨bl2, ol2, rfl, curl, el, frl, hbl2, hrl⟩ := hlat (by omega)
      have hbl9 := hk9.heap hbl2 (fun h => h)
      have hbu9 := hk59.heap hbu (fun h => h)
      have hkz : ∀ {w'}, Keeps NoB w9.drew w' → Keeps NoB w9 w' := fun hk => (Keeps.refl NoB w9).drew.trans hk
      obtain ⟨cc, hcc⟩ : ∃ c, decide (yj = u) = c := ⟨_, rfl⟩
      have hcnt : ((listP (l3 x y z k)).take (j + 1)).countP (fun a => decide (a = u)) = ((listP (l3 x y z k)).take j).countP (fun a => decide (a = u)) + (if cc then 1 else 0) := by
        rw [List.take_add_one, hyj, List.countP_append, ← hcc]
        simp
      (repeat first | (apply wr_move; exact rfl; with_reducible (conv => enter [6, 3]; whnf)) | apply wr_end | apply wc_seq | apply wc_region | apply wc_skip | apply wc_block | (apply wr_len_slice; iterate 2 exact rfl) | (apply wr_cmp; (iterate 3 exact rfl); exact cmpT (by dsimp only [cmpP]; first | done | omega)) | (apply wc_true; exact rfl))
      refine wc_drawP (l := _) 9 _ (by kernel_rfl) (by kernel_rfl) rfl (by kernel_rfl) (by kernel_rfl) (by decide) ?_
      apply chP_pure
      focus
        intro xx w' hk hF
        apply wr_move; exact rfl; with_reducible (conv => enter [6, 3]; whnf)
        apply wr_nil
        exact ⟨rfl, Keeps.refl _ _⟩
      focus (intro xx yy h; rfl)
      focus kernel_rfl
      apply chP_pure
      focus
        intro xx w' hk hF
        apply wr_move; exact rfl; with_reducible (conv => enter [6, 3]; whnf)
        apply wr_nil
        exact ⟨rfl, Keeps.refl _ _⟩
      focus (intro xx yy h; rfl)
      focus kernel_rfl
      apply chP_pure
      focus
        intro xx w' hk hF
        refine wr_indexAddr (i := j) rfl rfl rfl hjl ?_
        apply wr_nil
        exact ⟨rfl, Keeps.refl _ _⟩
      focus (intro xx yy h; rfl)
      focus kernel_rfl
      apply chP_pure
      focus
        intro xx w' hk hF
        refine wr_load (v := S (yj)) rfl rfl rfl ((hkz hk).heap hbl9 (fun h => h)) (hrl j yj hyj) ?_
        apply wr_nil
        exact ⟨rfl, Keeps.refl _ _⟩
      focus (intro xx yy h; rfl)
      focus kernel_rfl
      apply chP_pure
      focus
        intro xx w' hk hF
        apply wr_move; exact rfl; with_reducible (conv => enter [6, 3]; whnf)
        apply wr_nil
        exact ⟨rfl, Keeps.refl _ _⟩
      focus (intro xx yy h; rfl)
      focus kernel_rfl
      apply chP_pure
      focus
        intro xx w' hk hF
        apply wr_move; exact rfl; with_reducible (conv => enter [6, 3]; whnf)
        apply wr_nil
        exact ⟨rfl, Keeps.refl _ _⟩
      focus (intro xx yy h; rfl)
      focus kernel_rfl
      apply chP_pure
      focus
        intro xx w' hk hF
        refine wr_indexAddr (i := i) rfl rfl rfl hlt ?_
        apply wr_nil
        exact ⟨rfl, Keeps.refl _ _⟩
      focus (intro xx yy h; rfl)
      focus kernel_rfl
      apply chP_pure
      focus
        intro xx w' hk hF
        refine wr_load (v := S (u)) rfl rfl rfl ((hkz hk).heap hbu9 (fun h => h)) (hui) ?_
        apply wr_nil
        exact ⟨rfl, Keeps.refl _ _⟩
      focus (intro xx yy h; rfl)
      focus kernel_rfl
      apply chP_pure
      focus
        intro xx w' hk hF
        refine wr_streqc (c := cc) rfl rfl rfl hcc ?_
        apply wr_nil
        exact ⟨rfl, Keeps.refl _ _⟩
      focus (intro xx yy h; rfl)
      focus kernel_rfl
      refine chP_nil ?_
      intro xx w10 hk10' hF
      have hk10 := hkz hk10'
      clear hF
      cases cc
      · (repeat first | (apply wr_move; exact rfl; with_reducible (conv => enter [6, 3]; whnf)) | (apply wr_assign; exact rfl; with_reducible (conv => enter [6, 3]; whnf)) | apply wr_end | apply wc_region | apply wc_skip | (apply wr_add; (iterate 3 exact rfl); exact w_fit (by dsimp only [kIn]; first | done | omega)) | (apply wc_false; exact rfl))
        exact ⟨j + 1, by omega, ⟨by trivial, hjl, hk9.trans hk10⟩, rfl, rfl, rfl, rfl, rfl, rfl, congrArg (Value.int .i64) (by rw [hcnt]; simp), rfl, rfl, rfl, trivial⟩
      · (repeat first | (apply wr_move; exact rfl; with_reducible (conv => enter [6, 3]; whnf)) | (apply wr_assign; exact rfl; with_reducible (conv => enter [6, 3]; whnf)) | apply wr_end | apply wc_region | (apply wr_add; (iterate 3 exact rfl); exact w_fit (by dsimp only [kIn]; first | done | omega)) | (apply wc_true; exact rfl) | (apply wr_nil; try simp only [thenE, inBlockE, bodyQ]))
        exact ⟨j + 1, by omega, ⟨by trivial, hjl, hk9.trans hk10⟩, rfl, rfl, rfl, rfl, rfl, rfl, congrArg (Value.int .i64) (by rw [hcnt]; simp; omega), rfl, rfl, rfl, trivial⟩
    have hje : j = (listP (l3 x y z k)).length := by omega
    subst hje
    have hend : nOfK x y z u (k + 1) = nOfK x y z u k + ((listP (l3 x y z k)).take (listP (l3 x y z k)).length).countP (fun a => decide (a = u)) := by
      rw [List.take_length, countP_nodup (listP_nodup (l3_fine hxf hyf hzf k)) u]
      rfl
    (repeat first | (apply wr_move; exact rfl; with_reducible (conv => enter [6, 3]; whnf)) | (apply wr_assign; exact rfl; with_reducible (conv => enter [6, 3]; whnf)) | apply wr_end | apply wc_seq | apply wc_region | (apply wr_len_slice; iterate 2 exact rfl) | (apply wr_cmp; (iterate 3 exact rfl); exact cmpF (by dsimp only [cmpN]; first | done | omega)) | (apply wr_add; (iterate 3 exact rfl); exact w_fit (by dsimp only [kIn]; first | done | omega)) | (apply wc_false; exact rfl) | (apply wc_exit; try simp only [thenE, inBlockE, bodyQ, ↓reduceIte, Nat.reduceEqDiff]))
    exact ⟨k + 1, by omega, ⟨by trivial, hkl3, hk59⟩, rfl, rfl, rfl, rfl, rfl, rfl, congrArg (fun n : Nat => Value.int .i64 (n : Int)) hend.symm, rfl, trivial⟩
  have hk3e : k = 3 := by omega
  subst hk3e
  have hkz : ∀ {w'}, Keeps NoB w7.drew w' → Keeps NoB w7 w' := fun hk => (Keeps.refl NoB w7).drew.trans hk
  (repeat first | (apply wr_move; exact rfl; with_reducible (conv => enter [6, 3]; whnf)) | apply wr_end | apply wc_seq | apply wc_region | (apply wr_cmp; (iterate 3 exact rfl); exact cmpF (by dsimp only [cmpN]; first | done | omega)) | (apply wc_false; exact rfl) | (apply wc_exit; try simp only [thenE, inBlockE, bodyQ, ↓reduceIte, Nat.reduceEqDiff]))
  refine wc_drawP (l := _) 16 _ (by kernel_rfl) (by kernel_rfl) rfl (by kernel_rfl) (by kernel_rfl) (by decide) ?_
  apply chP_pure
  focus
    intro xx w' hk hF
    apply wr_move; exact rfl; with_reducible (conv => enter [6, 3]; whnf)
    apply wr_nil
    exact ⟨rfl, Keeps.refl _ _⟩
  focus (intro xx yy h; rfl)
  focus kernel_rfl
  apply chP_pure
  focus
    intro xx w' hk hF
    apply wr_move; exact rfl; with_reducible (conv => enter [6, 3]; whnf)
    apply wr_nil
    exact ⟨rfl, Keeps.refl _ _⟩
  focus (intro xx yy h; rfl)
  focus kernel_rfl
  apply chP_pure
  focus
    intro xx w' hk hF
    refine wr_indexAddr (i := i) rfl rfl rfl hlt ?_
    apply wr_nil
    exact ⟨rfl, Keeps.refl _ _⟩
  focus (intro xx yy h; rfl)
  focus kernel_rfl
  apply chP_pure
  focus
    intro xx w' hk hF
    refine wr_load (v := S (u ++ [32] ++ [UInt8.ofNat (48 + nOfK x y z u 3)])) rfl rfl rfl ((hkz hk).heap hbk7 (fun h => h)) (hkey) ?_
    apply wr_nil
    exact ⟨rfl, Keeps.refl _ _⟩
  focus (intro xx yy h; rfl)
  focus kernel_rfl
  apply chP_pure
  focus
    intro xx w' hk hF
    apply wr_move; exact rfl; with_reducible (conv => enter [6, 3]; whnf)
    apply wr_nil
    exact ⟨rfl, Keeps.refl _ _⟩
  focus (intro xx yy h; rfl)
  focus kernel_rfl
  apply chP_pure
  focus
    intro xx w' hk hF
    apply wr_move; exact rfl; with_reducible (conv => enter [6, 3]; whnf)
    apply wr_nil
    exact ⟨rfl, Keeps.refl _ _⟩
  focus (intro xx yy h; rfl)
  focus kernel_rfl
  apply chP_pure
  focus
    intro xx w' hk hF
    refine wr_indexAddr (i := i) rfl rfl rfl hlt ?_
    apply wr_nil
    exact ⟨rfl, Keeps.refl _ _⟩
  focus (intro xx yy h; rfl)
  focus kernel_rfl
  apply chP_pure
  focus
    intro xx w' hk hF
    refine wr_load (v := S (u)) rfl rfl rfl ((hkz hk).heap hbu7 (fun h => h)) (hui) ?_
    apply wr_nil
    exact ⟨rfl, Keeps.refl _ _⟩
  focus (intro xx yy h; rfl)
  focus kernel_rfl
  apply chP_pure
  focus
    intro xx w' hk hF
    refine wr_cat (a := u) (b := [32]) rfl rfl rfl (by simp only [List.length_cons, List.length_nil]; omega) ?_
    apply wr_nil
    exact ⟨rfl, Keeps.refl _ _⟩
  focus (intro xx yy h; rfl)
  focus kernel_rfl
  apply chP_pure
  focus
    intro xx w' hk hF
    apply wr_move; exact rfl; with_reducible (conv => enter [6, 3]; whnf)
    apply wr_nil
    exact ⟨rfl, Keeps.refl _ _⟩
  focus (intro xx yy h; rfl)
  focus kernel_rfl
  apply chP_pure
  focus
    intro xx w' hk hF
    apply wr_add; (iterate 3 exact rfl); exact w_fit (by dsimp only [kIn]; omega)
    apply wr_nil
    exact ⟨rfl, Keeps.refl _ _⟩
  focus (intro xx yy h; rfl)
  focus kernel_rfl
  apply chP_pure
  focus
    intro xx w' hk hF
    apply wr_conv; (iterate 2 exact rfl); exact w_fit (by dsimp only [kIn]; omega)
    apply wr_nil
    exact ⟨rfl, Keeps.refl _ _⟩
  focus (intro xx yy h; rfl)
  focus kernel_rfl
  refine chP_fact (fun yq => .slice (some ⟨blkOf yq, 0, none⟩) 1 1) (fun yq w' => w'.heap[blkOf yq]? = some (.cells #[.int .u8 (48 + ((nOfK x y z u 3 : Nat) : Int))] 5 (0, 0))) (fun yq w' w'' h k => k.heap h (fun h => h)) ?_ ?_
  focus
    intro xx w' hk hF
    refine wr_buildSlice (vs := [.int .u8 (48 + ((nOfK x y z u 3 : Nat) : Int))]) rfl rfl (by intro v hv; simp at hv; subst hv; rfl) rfl (by decide) (by decide) (by decide) ?_
    apply wr_nil
    exact ⟨.pointer (some ⟨w'.heap.size, 0, none⟩), rfl, heap_alloc_same _ _, (Keeps.refl _ _).alloc _⟩
  apply chP_pure
  focus
    intro xx w' hk hF
    have h3 : w'.heap[blkOf (xx 12)]? = some (.cells #[.int .u8 (48 + ((nOfK x y z u 3 : Nat) : Int))] 5 (0, 0)) := hF 12 (by kernel_rfl)
    refine wr_bytes2str (n := 1) (l := [UInt8.ofNat (48 + nOfK x y z u 3)]) rfl rfl (slR_blk (cs := bytesV [UInt8.ofNat (48 + nOfK x y z u 3)]) (by rw [dig_bytes hn3]; exact h3) rfl) ?_
    apply wr_nil
    exact ⟨rfl, Keeps.refl _ _⟩
  focus (intro xx yy h; rfl)
  focus kernel_rfl
  apply chP_pure
  focus
    intro xx w' hk hF
    refine wr_cat (a := u ++ [32]) (b := [UInt8.ofNat (48 + nOfK x y z u 3)]) rfl rfl rfl (by simp only [List.length_append, List.length_cons, List.length_nil]; omega) ?_
    apply wr_nil
    exact ⟨rfl, Keeps.refl _ _⟩
  focus (intro xx yy h; rfl)
  focus kernel_rfl
  apply chP_pure
  focus
    intro xx w' hk hF
    refine wr_strnec (c := true) rfl rfl rfl (decide_eq_true rfl) ?_
    apply wr_nil
    exact ⟨rfl, Keeps.refl _ _⟩
  focus (intro xx yy h; rfl)
  focus kernel_rfl
  refine chP_nil ?_
  intro xx w10 hk10' hF
  have hk10 := hkz hk10'
  clear hF
  (repeat first | (apply wr_move; exact rfl; with_reducible (conv => enter [6, 3]; whnf)) | (apply wr_assign; exact rfl; with_reducible (conv => enter [6, 3]; whnf)) | apply wr_end | apply wc_region | apply wc_skip | (apply wr_add; (iterate 3 exact rfl); exact w_fit (by dsimp only [kIn]; first | done | omega)) | (apply wc_false; exact rfl))
  exact ⟨i + 1, by omega, ⟨by trivial, hlt, hk7.trans hk10⟩, rfl, rfl, rfl, rfl, rfl, rfl, trivial⟩
end Go.Proofs.YtajajahofkialaaGreatDoor
