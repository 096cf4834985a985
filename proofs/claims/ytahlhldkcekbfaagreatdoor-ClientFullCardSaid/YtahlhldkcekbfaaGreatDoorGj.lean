/- The client: Ask. -/
import Derived.Test.YtahlhldkcekbfaaGreatDoorGi
import Derived.Test.YtahlhldkcekbfaaGreatDoorVO
namespace Go.Proofs.YtahlhldkcekbfaaGreatDoor
open Go Go.V Go.RowKit
set_option linter.unusedVariables false
set_option linter.unusedSimpArgs false

theorem GCl_setT {c : CLc} {q : Nat} {t t' : TPc} (hq : c.2[q]? = some t) : ((GCl c).toArray.toList.take (0 + 1 + q * 4) ++ GTp t' ++ (GCl c).toArray.toList.drop (0 + 1 + q * 4 + 4)).toArray = (GCl (c.1, c.2.set q t')).toArray := by
  obtain ⟨P, R, hP, e1, e2⟩ := GCl_split hq t'
  apply Array.toList_inj.1
  show (Value.bool c.1 :: c.2.flatMap GTp).take (0 + 1 + q * 4) ++ GTp t' ++ (Value.bool c.1 :: c.2.flatMap GTp).drop (0 + 1 + q * 4 + 4) = Value.bool c.1 :: (c.2.set q t').flatMap GTp
  rw [e1, e2, show 0 + 1 + q * 4 = P.length + 1 by omega, show P.length + 1 + 4 = (P.length + 4) + 1 by omega, List.take_succ_cons, List.drop_succ_cons, List.take_left' rfl, ← List.append_assoc, List.drop_left' (by simp [GTp_len])]
  simp
theorem firstO_last (a b : Bool) (x y z : Int) : firstO [errOf a x, errOf b y, errOf false z] ≠ none := by cases a <;> cases b <;> simp [firstO, errOf]
/-- What is had: a name, a version. -/
abbrev HV := TT × Nat
def GHv (h : HV) : List Value := [S h.1, .int .u64 (h.2 : Int)]
theorem GHv_len (h : HV) : (GHv h).length = 2 := rfl
theorem GHv_one (h : HV) : ∀ u ∈ GHv h, u.oneCell' = true := by
  intro u hu
  simp only [GHv, List.mem_cons, List.not_mem_nil, or_false] at hu
  rcases hu with rfl | rfl <;> rfl
theorem listN_ca (n0 : Nat) (s : PS) (sv : Value) (w : World) (hn : n0 ≤ w.heap.size) (hs : SetR w s sv) (hlen : s.2.length ≤ 8796093022000) :
    Ca Tryz.prog 38 #[sv] w fun v w' => w'.ownsRow n0 9 1 v (listP s).length (SL (listP s)) ∧ Keeps NoB w w' :=
  (listO_ca s sv w hs hlen).mono fun v w' h => ⟨own_down h.1 hn, h.2⟩
theorem shortX_ca {b : Bool} (L : List (Value × Nat)) (hb : (L.all fun x => decide (x.2 ≤ 64)) = b) (hL : L.length ≤ 1000) (hs : ∀ x ∈ L, ∃ a c, x.1 = .slice a x.2 c) (g : Nat) (T : TypeId) (fr : Nat × Nat) (w : World) (hg : w.heap[g]? = some (.cells (L.map (·.1)).toArray T fr)) :
    Ca Tryz.prog 41 #[.slice (some ⟨g, 0, none⟩) L.length L.length] w fun v w' => v = .bool b ∧ w' = w := by
  rw [← hb]; exact short_ca L hL hs g T fr w hg
/-- What is asked for, and told of it. -/
def wantP' (want : PS) : PS := ofP (listP want)
def moreL (c : CLc) (t W : PS) : TX := if c.1 = true then listP (lessP W t) else []
def lessL (c : CLc) (t W : PS) : TX := if c.1 = true then listP (lessP t W) else []
def askE (c : CLc) (k : Int) (W : PS) (hn : Nat) : Option Int :=
  firstO [errOf (typedB k) 1, errOf (!(topicOf c k).2.1 || !sameP (topicOf c k).1.1 W) 5,
    errOf ((decide ((listP W).length ≤ 64) && (decide ((moreL c (topicOf c k).1.1 W).length ≤ 64) && (decide ((lessL c (topicOf c k).1.1 W).length ≤ 64) && true))) && decide (hn ≤ 64)) 4]
def setT (t : TPc) (W : PS) (nv : Value) : TPc := ((W, nv), true, t.2.2)
def askC (c : CLc) (k : Int) (W : PS) (nv : Value) : CLc := (c.1, c.2.set k.toNat (setT (topicOf c k) W nv))
def hadL (t : TPc) (W : PS) (hv : List HV) : List HV := if t.2.1 = true then [] else hv.filter fun h => hasP W h.1
/-- What an Ask that goes through leaves. -/
def AskOk (w' : World) (n0 : Nat) (c : CLc) (k : Int) (W : PS) (hv : List HV) (v : Value) : Prop :=
  ∃ nv sub uns hav, v = .tuple #[CliV (askC c k W nv), .agg (GRq k c.1 (if c.1 = true then 0 else (topicOf c k).2.2) sub uns hav []).toArray, .int .i64 0] ∧
    w'.ownsRow n0 9 1 nv W.2.length (SL W.2) ∧
    (∃ ls : TX, ls = (if c.1 = true then moreL c (topicOf c k).1.1 W else listP W) ∧ w'.ownsRow n0 9 1 sub ls.length (SL ls)) ∧
    (∃ ls : TX, ls = lessL c (topicOf c k).1.1 W ∧ w'.ownsRow n0 9 1 uns ls.length (SL ls)) ∧
    (∃ ls : List HV, ls = (if c.1 = true then hadL (topicOf c k) W hv else []) ∧ w'.ownsRow n0 55 2 hav ls.length (ls.flatMap GHv))
theorem own_nilV (w : World) (n0 : Nat) (T : TypeId) (sz : Nat) : w.ownsRow n0 T sz nilV 0 [] := ⟨by simp, .inl ⟨rfl, rfl⟩⟩
/-- Rows of one type and blocks of another. -/
theorem own_neT {w : World} {base n sz q : Nat} {T T' : TypeId} {v : Value} {xs : List Value} {c : Array Value} {fr : Nat × Nat} (h : w.ownsRow base T sz v n xs) (hq : w.heap[q]? = some (.cells c T' fr)) (hT : T ≠ T') : ∀ b, v.ownBlock = some b → b ≠ q := by
  intro b hb e
  rcases h.2 with ⟨rfl, _⟩ | ⟨g, cap, cur, rfl, _, hg, _⟩
  · simp [Value.ownBlock] at hb
  · simp [Value.ownBlock] at hb
    subst hb
    rw [e, hq] at hg
    injection hg with hg
    injection hg with _ hg
    exact hT hg.symm
/- 1: open; 2, 3: more's value and length; 4, 5: less's; 6: short; 7: its proof; 8: second need; 9: third. -/
set_option maxRecDepth 100000 in
set_option maxHeartbeats 8000000 in
theorem ask_ca {c : CLc} {w : World} (h : CliAt w c) (hE : ErrT w) (k : Int) (want : PS) (wv : Value) (hw : SetR w want wv) (hwl : (listP want).length ≤ 8796093022000) (hwn : want.2.length ≤ 8796093022000) (hwx : ∀ x ∈ listP want, x.length ≤ 9223372036854775807) (hWl : (wantP' want).2.length ≤ 8796093022000)
    (hv : List HV) (hvx : ∀ x ∈ hv, x.1.length ≤ 9223372036854775807) (hvv : Value) (hhv : SlR w 2 hvv hv.length (hv.flatMap GHv)) :
    Ca Tryz.prog 12 #[CliV c, .int .i64 k, wv, hvv] w fun v w' => ((∃ e, askE c k (wantP' want) hv.length = some e ∧ v = .tuple #[CliV c, .agg zeroRq.toArray, .int .i64 e]) ∨
      (askE c k (wantP' want) hv.length = none ∧ AskOk w' w.heap.size c k (wantP' want) hv v)) ∧ Keeps NoB w w' := by
  obtain ⟨wn, rfl, hwsl⟩ := hw
  obtain ⟨ha, hc, rfl, hhc, hhm⟩ := hhv.shape
  refine ca_of_body (args := [CliV c, .int .i64 k, SetV want.1 wn, .slice ha hv.length hc]) Tryz.func12 rfl (by kernel_rfl) ?_
  apply wc_seq
  apply wc_region
  refine wr_box (v := CliV c) rfl rfl ?_
  refine wr_name ?_
  intro w1 hww1
  obtain ⟨bw1, hbw1⟩ : ∃ b, b = (w).heap.size := ⟨_, rfl⟩
  have hkw1 : Keeps NoB w w1 := by rw [hww1]; exact (Keeps.refl NoB w).alloc _
  have hcw1 : (w1).heap[bw1]? = some (.cells (GCl c).toArray 32 (0, 0)) := by rw [hww1, hbw1]; exact heap_alloc_same _ _
  rw [← hbw1]
  clear hww1
  obtain ⟨n0, hn0⟩ : ∃ n0, n0 = w.heap.size := ⟨_, rfl⟩
  refine wr_box (v := SetV want.1 wn) rfl rfl ?_
  refine wr_name ?_
  intro w2 hww2
  obtain ⟨bw2, hbw2⟩ : ∃ b, b = (w1).heap.size := ⟨_, rfl⟩
  have hkw2 : Keeps NoB w1 w2 := by rw [hww2]; exact (Keeps.refl NoB w1).alloc _
  have hcw2 : (w2).heap[bw2]? = some (.cells ([.bool want.1, wn]).toArray 26 (0, 0)) := by rw [hww2, hbw2]; exact heap_alloc_same _ _
  rw [← hbw2]
  clear hww2
  apply wr_alloc
  focus exact rfl
  refine wr_name ?_
  intro w3 hww3
  obtain ⟨bw3, hbw3⟩ : ∃ b, b = (w2).heap.size := ⟨_, rfl⟩
  have hkw3 : Keeps NoB w2 w3 := by rw [hww3]; exact (Keeps.refl NoB w2).alloc _
  have hcw3 : (w3).heap[bw3]? = some (.cells (GCl (newC false)).toArray 32 (0, 0)) := by rw [hww3, hbw3]; exact heap_alloc_same _ _
  rw [← hbw3]
  clear hww3
  apply wr_alloc
  focus exact rfl
  refine wr_name ?_
  intro w4 hww4
  obtain ⟨bw4, hbw4⟩ : ∃ b, b = (w3).heap.size := ⟨_, rfl⟩
  have hkw4 : Keeps NoB w3 w4 := by rw [hww4]; exact (Keeps.refl NoB w3).alloc _
  have hcw4 : (w4).heap[bw4]? = some (.cells (zeroRq).toArray 42 (0, 0)) := by rw [hww4, hbw4]; exact heap_alloc_same _ _
  rw [← hbw4]
  clear hww4
  have hk14 := (hkw2.trans hkw3).trans hkw4
  have hk4 := hkw1.trans hk14
  have hc14 := hk14.heap hcw1 (fun h => h)
  have hc24 := (hkw3.trans hkw4).heap hcw2 (fun h => h)
  have hc34 := hkw4.heap hcw3 (fun h => h)
  have hz1 := hkw1.size
  have hz2 := hkw2.size
  have hz3 := hkw3.size
  (repeat first | (apply wr_assign; exact rfl; with_reducible (conv => enter [6, 3]; whnf)) | apply wr_end | apply wc_seq | apply wc_region)
  refine wr_loadAll (cs := [.bool want.1, wn]) rfl rfl rfl hc24 rfl ?_
  refine wr_call (vs := [SetV want.1 wn]) rfl (list_ca want _ w4 ⟨wn, rfl, hwsl.keep hk4 (fun _ _ h => h)⟩ hwn) rfl ?_
  rintro lv w5 ⟨hlv, hk5⟩
  skip
  refine wr_call (vs := [lv]) rfl (ofO_ca (listP want) lv w5 hlv hwl hwx) rfl ?_
  rintro v w6 ⟨⟨nv, rfl, hnv⟩, hk6⟩
  obtain ⟨W, hW⟩ : ∃ W, W = wantP' want := ⟨_, rfl⟩
  rw [← hW] at hWl ⊢
  have hnv : w6.ownsRow w5.heap.size 9 1 nv W.2.length (SL W.2) := by rw [hW]; exact hnv
  rw [show (ofP (listP want)).1 = W.1 by rw [hW]; rfl]
  clear hW hwl hwx
  have hk46 := hk5.trans hk6
  have hc26 := hk46.heap hc24 (fun h => h)
  refine wr_storeAll (cs := [.bool W.1, nv]) rfl rfl rfl (by intro u hu; simp at hu; rcases hu with rfl | rfl; rfl; exact own_one hnv) hc26 rfl rfl ?_
  refine wr_name ?_
  intro w7 hw7
  have hk7 : Keeps (· = bw2) w6 w7 := by rw [hw7]; exact (Keeps.refl _ w6).put _ (fun _ => rfl)
  have hc27 : w7.heap[bw2]? = some (.cells #[.bool W.1, nv] 26 (0, 0)) := by rw [hw7]; exact World.putObj_heap_same (lt_of_heap hc26)
  clear hw7
  have hl24 := lt_of_heap hc24
  have hl1 := lt_of_heap hcw1
  have hl2 := lt_of_heap hcw2
  have hl3 := lt_of_heap hcw3
  have hz5 := hk5.size
  have hc17 := hk7.heap (hk46.heap hc14 (fun h => h)) (fun e => by omega)
  have hc37 := hk7.heap (hk46.heap hc34 (fun h => h)) (fun e => by omega)
  have hc47 := hk7.heap (hk46.heap hcw4 (fun h => h)) (fun e => by omega)
  have hnv7 : w7.ownsRow w4.heap.size 9 1 nv W.2.length (SL W.2) := own_down (own_keep hnv hk7 (fun q hq e => by have := own_ge hnv hq; omega)) hz5
  have hkw7 : Keeps NoB w w7 := (hk4.trans hk46).trans' hk7 (fun i hi e => by omega)
  have hz4 : w.heap.size ≤ w4.heap.size := hk4.size
  obtain ⟨n4, hn4⟩ : ∃ n4, n4 = w4.heap.size := ⟨_, rfl⟩
  rw [← hn4] at hnv7 hz4
  have hz7 : n4 ≤ w7.heap.size := by rw [hn4]; have := hk46.size; have := hk7.size; omega
  have hb4 : bw1 < n4 ∧ bw2 < n4 ∧ bw3 < n4 ∧ bw4 < n4 := by
    have := lt_of_heap hc14
    have := lt_of_heap hc34
    have := lt_of_heap hcw4
    omega
  clear hnv
  (repeat first | apply wr_end | apply wc_seq | apply wc_region)
  refine wr_loadAll (cs := GCl c) rfl rfl rfl hc17 (GCl_len h.len) ?_
  (repeat first | (apply wr_move; exact rfl; with_reducible (conv => enter [6, 3]; whnf)))
  refine wr_call (vs := [CliV c, .int .i64 k]) rfl (topic_ca (h.keep hkw7) k) rfl ?_
  rintro v w8 ⟨rfl, hk8⟩
  obtain ⟨t, ht⟩ : ∃ t, t = topicOf c k := ⟨_, rfl⟩
  have hta : TpAt w8 t := by rw [ht]; exact topicOf_at ((h.keep hkw7).keep hk8) k
  rw [← ht]
  (repeat first | (apply wr_alloc; exact rfl))
  refine wr_storeAll (cs := GTp t) rfl rfl rfl (GTp_one hta) (heap_alloc_same _ _) rfl rfl ?_
  refine wr_name ?_
  intro w9 hww9
  obtain ⟨bw9, hbw9⟩ : ∃ b, b = (w8).heap.size := ⟨_, rfl⟩
  have hkw9 : Keeps NoB w8 w9 := by rw [hww9]; exact ((Keeps.refl NoB w8).alloc _).put _ (fun h => by omega)
  have hcw9 : (w9).heap[bw9]? = some (.cells (GTp t).toArray 29 (0, 0)) := by rw [hww9, hbw9]; exact World.putObj_heap_same (by simp)
  rw [← hbw9]
  clear hww9
  have hk79 := hk8.trans hkw9
  have hkf9 := hkw7.trans hk79
  have hc19 := hk79.heap hc17 (fun h => h)
  have hc29 := hk79.heap hc27 (fun h => h)
  have hc39 := hk79.heap hc37 (fun h => h)
  have hc49 := hk79.heap hc47 (fun h => h)
  have hnv9 := own_keep hnv7 hk79 (fun _ _ h => h)
  have hta9 := hta.keep hkw9
  have hz9 := hk79.size
  have hz8 := hk8.size
  have hk0 : ∀ {w'}, Keeps NoB w9.drew w' → Keeps NoB w9 w' := fun hk => (Keeps.refl NoB w9).drew.trans hk
  have hWR : ∀ {w'}, Keeps NoB w9 w' → SetR w' W (SetV W.1 nv) := fun hk => ⟨nv, rfl, SlR.of_own (own_keep hnv9 hk (fun _ _ h => h))⟩
  have htR : ∀ {w'}, Keeps NoB w9 w' → SetR w' t.1.1 (SetV t.1.1.1 t.1.2) := fun hk => SetV_of (hta9.keep hk)
  (repeat first | apply wr_end | apply wc_seq)
  refine wc_drawP (l := _) 15 _ (by kernel_rfl) (by kernel_rfl) rfl (by kernel_rfl) (by kernel_rfl) (by decide) ?_
  apply chP_pure
  focus
    intro xx w' hk hF
    refine wr_loadAll (cs := [.bool W.1, nv]) rfl rfl rfl ((hk0 hk).heap hc29 (fun h => h)) rfl ?_
    apply wr_nil
    exact ⟨rfl, Keeps.refl _ _⟩
  focus (intro xx yy h; rfl)
  focus kernel_rfl
  refine chP_fact (fun y => y) (fun y w' => w'.ownsRow n4 9 1 y (listP W).length (SL (listP W))) (fun y w' w'' h k => own_keep h k (fun _ _ h => h)) ?_ ?_
  focus
    intro xx w' hk hF
    refine wr_call (vs := [SetV W.1 nv]) rfl (listN_ca n4 W _ w' (by have := (hk0 hk).size; omega) (hWR (hk0 hk)) hWl) rfl ?_
    rintro v w'' ⟨hR, hkc⟩
    apply wr_nil
    exact ⟨v, rfl, hR, hkc⟩
  apply chP_pure
  focus
    intro xx w' hk hF
    refine wr_loadAll (cs := [.bool W.1, nv]) rfl rfl rfl ((hk0 hk).heap hc29 (fun h => h)) rfl ?_
    apply wr_nil
    exact ⟨rfl, Keeps.refl _ _⟩
  focus (intro xx yy h; rfl)
  focus kernel_rfl
  apply chP_pure
  focus
    intro xx w' hk hF
    refine wr_fieldAddr rfl rfl ?_
    apply wr_nil
    exact ⟨rfl, Keeps.refl _ _⟩
  focus (intro xx yy h; rfl)
  focus kernel_rfl
  apply chP_pure
  focus
    intro xx w' hk hF
    refine wr_loadAgg (cs := GSt t.1) rfl rfl rfl rfl (fun q u hq => cell_of_heap ((hk0 hk).heap hcw9 (fun h => h)) (by match q, hq with | 0, hq => exact hq | 1, hq => exact hq | q + 2, hq => simp [GSt] at hq)) ?_
    apply wr_nil
    exact ⟨rfl, Keeps.refl _ _⟩
  focus (intro xx yy h; rfl)
  focus kernel_rfl
  refine chP_fact (fun y => y) (fun y w' => SetR w' (lessP W t.1.1) y) (fun y w' w'' h k => h.keep k) ?_ ?_
  focus
    intro xx w' hk hF
    refine wr_call (vs := [SetV W.1 nv, SetV t.1.1.1 t.1.2]) rfl (less_ca W t.1.1 _ _ w' (hWR (hk0 hk)) (htR (hk0 hk)) hWl hta.2.1) rfl ?_
    rintro v w'' ⟨hR, hkc⟩
    apply wr_nil
    exact ⟨v, rfl, hR, hkc⟩
  refine chP_fact (fun y => y) (fun y w' => w'.ownsRow n4 9 1 y (listP (lessP W t.1.1)).length (SL (listP (lessP W t.1.1)))) (fun y w' w'' h k => own_keep h k (fun _ _ h => h)) ?_ ?_
  focus
    intro xx w' hk hF
    refine wr_call (vs := [xx 5]) rfl (listN_ca n4 (lessP W t.1.1) _ w' (by have := (hk0 hk).size; omega) (hF 5 (by kernel_rfl)) (Nat.le_trans (lessP_le _ _) hWl)) rfl ?_
    rintro v w'' ⟨hR, hkc⟩
    apply wr_nil
    exact ⟨v, rfl, hR, hkc⟩
  apply chP_pure
  focus
    intro xx w' hk hF
    refine wr_fieldAddr rfl rfl ?_
    apply wr_nil
    exact ⟨rfl, Keeps.refl _ _⟩
  focus (intro xx yy h; rfl)
  focus kernel_rfl
  apply chP_pure
  focus
    intro xx w' hk hF
    refine wr_loadAgg (cs := GSt t.1) rfl rfl rfl rfl (fun q u hq => cell_of_heap ((hk0 hk).heap hcw9 (fun h => h)) (by match q, hq with | 0, hq => exact hq | 1, hq => exact hq | q + 2, hq => simp [GSt] at hq)) ?_
    apply wr_nil
    exact ⟨rfl, Keeps.refl _ _⟩
  focus (intro xx yy h; rfl)
  focus kernel_rfl
  apply chP_pure
  focus
    intro xx w' hk hF
    refine wr_loadAll (cs := [.bool W.1, nv]) rfl rfl rfl ((hk0 hk).heap hc29 (fun h => h)) rfl ?_
    apply wr_nil
    exact ⟨rfl, Keeps.refl _ _⟩
  focus (intro xx yy h; rfl)
  focus kernel_rfl
  refine chP_fact (fun y => y) (fun y w' => SetR w' (lessP t.1.1 W) y) (fun y w' w'' h k => h.keep k) ?_ ?_
  focus
    intro xx w' hk hF
    refine wr_call (vs := [SetV t.1.1.1 t.1.2, SetV W.1 nv]) rfl (less_ca t.1.1 W _ _ w' (htR (hk0 hk)) (hWR (hk0 hk)) hta.2.1 hWl) rfl ?_
    rintro v w'' ⟨hR, hkc⟩
    apply wr_nil
    exact ⟨v, rfl, hR, hkc⟩
  refine chP_fact (fun y => y) (fun y w' => w'.ownsRow n4 9 1 y (listP (lessP t.1.1 W)).length (SL (listP (lessP t.1.1 W)))) (fun y w' w'' h k => own_keep h k (fun _ _ h => h)) ?_ ?_
  focus
    intro xx w' hk hF
    refine wr_call (vs := [xx 10]) rfl (listN_ca n4 (lessP t.1.1 W) _ w' (by have := (hk0 hk).size; omega) (hF 10 (by kernel_rfl)) (Nat.le_trans (lessP_le _ _) hta.2.1)) rfl ?_
    rintro v w'' ⟨hR, hkc⟩
    apply wr_nil
    exact ⟨v, rfl, hR, hkc⟩
  apply chP_pure
  focus
    intro xx w' hk hF
    apply wr_assign; exact rfl; with_reducible (conv => enter [6, 3]; whnf)
    apply wr_nil
    exact ⟨rfl, Keeps.refl _ _⟩
  focus (intro xx yy h; exact h 1 (by kernel_rfl))
  focus kernel_rfl
  apply chP_pure
  focus
    intro xx w' hk hF
    apply wr_assign; exact rfl; with_reducible (conv => enter [6, 3]; whnf)
    apply wr_nil
    exact ⟨rfl, Keeps.refl _ _⟩
  focus (intro xx yy h; exact h 6 (by kernel_rfl))
  focus kernel_rfl
  apply chP_pure
  focus
    intro xx w' hk hF
    apply wr_assign; exact rfl; with_reducible (conv => enter [6, 3]; whnf)
    apply wr_nil
    exact ⟨rfl, Keeps.refl _ _⟩
  focus (intro xx yy h; exact h 11 (by kernel_rfl))
  focus kernel_rfl
  refine chP_nil ?_
  intro xx w10 hk10' hF
  have hk10 := hk0 hk10'
  have hall : w10.ownsRow n4 9 1 (xx 1) (listP W).length (SL (listP W)) := hF 1 (by decide)
  have hmore : w10.ownsRow n4 9 1 (xx 6) (listP (lessP W t.1.1)).length (SL (listP (lessP W t.1.1))) := hF 6 (by decide)
  have hless : w10.ownsRow n4 9 1 (xx 11) (listP (lessP t.1.1 W)).length (SL (listP (lessP t.1.1 W))) := hF 11 (by decide)
  clear hF
  (repeat first | apply wr_end | apply wc_seq | apply wc_region | (apply wr_fieldAddr; iterate 2 exact rfl))
  obtain ⟨aa, ac, hxa, _⟩ := slr_strs (SlR.of_own hall)
  obtain ⟨ma, mc, hxm, _⟩ := slr_strs (SlR.of_own hmore)
  obtain ⟨la, lc, hxl, _⟩ := slr_strs (SlR.of_own hless)
  rw [hxa] at hall
  rw [hxm] at hmore
  rw [hxl] at hless
  have hc110 := hk10.heap hc19 (fun h => h)
  have hc210 := hk10.heap hc29 (fun h => h)
  have hc310 := hk10.heap hc39 (fun h => h)
  have hc410 := hk10.heap hc49 (fun h => h)
  have hc910 := hk10.heap hcw9 (fun h => h)
  have hWR10 : ∀ {w'}, Keeps NoB w10 w' → SetR w' W (SetV W.1 nv) := fun hk => hWR (hk10.trans hk)
  have htR10 : ∀ {w'}, Keeps NoB w10 w' → SetR w' t.1.1 (SetV t.1.1.1 t.1.2) := fun hk => htR (hk10.trans hk)
  have hkf10 := hkf9.trans hk10
  clear hk0 hWR htR
  have hk0 : ∀ {w'}, Keeps NoB w10.drew w' → Keeps NoB w10 w' := fun hk => (Keeps.refl NoB w10).drew.trans hk
  obtain ⟨er, her⟩ : ∃ er, er = askE c k W hv.length := ⟨_, rfl⟩
  rw [← her]
  unfold askE at her
  rw [← ht] at her
  obtain ⟨⟨⟨ta, tl⟩, tv⟩, op, no⟩ := t
  dsimp only at hmore hless hxm hxl hc910 htR10 her
  (repeat first | apply wr_end | (apply wr_not; iterate 2 exact rfl) | (apply wr_load; (iterate 3 exact rfl); (focus repeat first | with_reducible assumption | exact heap_alloc_same _ _ | exact World.putObj_heap_same (by first | omega | (simp only [World.size_alloc, World.putObj_size, ne_eq]; omega)) | ((first | refine hAl ?_ ?_ | refine hPu ?_ ?_); focus first | omega | (simp only [World.size_alloc, World.putObj_size, ne_eq]; omega))); exact rfl; conv => enter [6, 3]; whnf))
  cases hd : c.1 with
  | true =>
    (repeat first | apply wc_seq | apply wc_skip | (apply wc_false; exact rfl))
    dsimp only
    rw [show xx (0 + 1) = .slice aa (listP W).length ac from hxa, show xx (0 + 1 + 1 + 1 + 1 + 1 + 1) = _ from hxm, show xx (0 + 1 + 1 + 1 + 1 + 1 + 1 + 1 + 1 + 1 + 1 + 1) = _ from hxl]
    cases op with
    | true =>
      cases hsh : (decide ((listP W).length ≤ 64) && (decide ((listP (lessP W (ta, tl))).length ≤ 64) && (decide ((listP (lessP (ta, tl) W)).length ≤ 64) && true))) with
      | true =>
        have heq : er = firstO [errOf (typedB k) 1, errOf (!sameP (ta, tl) W) 5, errOf (decide (hv.length ≤ 64)) 4] := by
          rw [her]
          simp only [moreL, lessL, hd, if_true]
          rw [hsh]
          simp only [Bool.not_true, Bool.false_or, Bool.true_and]
        refine wc_drawP (l := _) 28 _ (by kernel_rfl) (by kernel_rfl) rfl (by kernel_rfl) (by kernel_rfl) (by decide) ?_
        apply chP_pure
        focus
          intro xx w' hk hF
          apply wr_move; exact rfl; with_reducible (conv => enter [6, 3]; whnf)
          apply wr_nil
          exact ⟨rfl, Keeps.refl _ _⟩
        focus (intro xx yy h; rfl)
        focus kernel_rfl
        apply chP_pure
        focus
          intro xx w' hk hF
          refine wr_call (vs := [.int .i64 k]) rfl (typed_ca k w') rfl ?_
          rintro v w'' ⟨rfl, rfl⟩
          apply wr_nil
          exact ⟨rfl, Keeps.refl _ _⟩
        focus (intro xx yy h; rfl)
        focus kernel_rfl
        apply chP_pure
        focus
          intro xx w' hk hF
          refine wr_call (vs := [.bool (typedB k), .int .i64 1]) rfl (need_ca (typedB k) 1 w') rfl ?_
          rintro v w'' ⟨rfl, rfl⟩
          apply wr_nil
          exact ⟨rfl, Keeps.refl _ _⟩
        focus (intro xx yy h; rfl)
        focus kernel_rfl
        apply chP_pure
        focus
          intro xx w' hk hF
          refine wr_fieldAddr rfl rfl ?_
          apply wr_nil
          exact ⟨rfl, Keeps.refl _ _⟩
        focus (intro xx yy h; rfl)
        focus kernel_rfl
        apply chP_pure
        focus
          intro xx w' hk hF
          refine wr_load (v := .bool true) rfl rfl rfl ((hk0 hk).heap hc910 (fun h => h)) rfl ?_
          apply wr_nil
          exact ⟨rfl, Keeps.refl _ _⟩
        focus (intro xx yy h; rfl)
        focus kernel_rfl
        apply chP_pure
        focus
          intro xx w' hk hF
          apply wr_not; iterate 2 exact rfl
          apply wr_nil
          exact ⟨rfl, Keeps.refl _ _⟩
        focus (intro xx yy h; rfl)
        focus kernel_rfl
        apply chP_pure
        focus
          intro xx w' hk hF
          apply wr_move; exact rfl; with_reducible (conv => enter [6, 3]; whnf)
          apply wr_nil
          exact ⟨rfl, Keeps.refl _ _⟩
        focus (intro xx yy h; rfl)
        focus kernel_rfl
        apply chP_pure
        focus
          intro xx w' hk hF
          first
          | (refine wr_skip rfl ?_; apply wr_nil; exact ⟨rfl, Keeps.refl _ _⟩)
          | ((refine wr_fieldAddr rfl rfl ?_); apply wr_nil; exact ⟨rfl, Keeps.refl _ _⟩)
        focus (intro xx yy h; rfl)
        focus kernel_rfl
        apply chP_pure
        focus
          intro xx w' hk hF
          first
          | (refine wr_skip rfl ?_; apply wr_nil; exact ⟨rfl, Keeps.refl _ _⟩)
          | ((refine wr_loadAgg (cs := [.bool ta, tv]) rfl rfl rfl rfl (fun q u hq => cell_of_heap ((hk0 hk).heap hc910 (fun h => h)) (by match q, hq with | 0, hq => exact hq | 1, hq => exact hq | q + 2, hq => simp at hq)) ?_); apply wr_nil; exact ⟨rfl, Keeps.refl _ _⟩)
        focus (intro xx yy h; rfl)
        focus kernel_rfl
        apply chP_pure
        focus
          intro xx w' hk hF
          first
          | (refine wr_skip rfl ?_; apply wr_nil; exact ⟨rfl, Keeps.refl _ _⟩)
          | ((refine wr_loadAll (cs := [.bool W.1, nv]) rfl rfl rfl ((hk0 hk).heap hc210 (fun h => h)) rfl ?_); apply wr_nil; exact ⟨rfl, Keeps.refl _ _⟩)
        focus (intro xx yy h; rfl)
        focus kernel_rfl
        apply chP_pure
        focus
          intro xx w' hk hF
          first
          | (refine wr_skip rfl ?_; apply wr_nil; exact ⟨rfl, Keeps.refl _ _⟩)
          | (refine wr_call (vs := [SetV ta tv, SetV W.1 nv]) rfl (same_ca (ta, tl) W _ _ w' (htR10 (hk0 hk)) (hWR10 (hk0 hk)) hta.2.1 hWl) rfl ?_; rintro v w'' ⟨rfl, hkc⟩; apply wr_nil; exact ⟨rfl, hkc⟩)
        focus (intro xx yy h; rfl)
        focus kernel_rfl
        apply chP_pure
        focus
          intro xx w' hk hF
          first
          | (refine wr_skip rfl ?_; apply wr_nil; exact ⟨rfl, Keeps.refl _ _⟩)
          | ((apply wr_not; iterate 2 exact rfl); apply wr_nil; exact ⟨rfl, Keeps.refl _ _⟩)
        focus (intro xx yy h; rfl)
        focus kernel_rfl
        apply chP_pure
        focus
          intro xx w' hk hF
          first
          | (apply wr_pick (t := true); (iterate 2 exact rfl); with_reducible (conv => enter [6, 3]; whnf); apply wr_nil; exact ⟨rfl, Keeps.refl _ _⟩)
          | (apply wr_pick (t := false); (iterate 2 exact rfl); with_reducible (conv => enter [6, 3]; whnf); apply wr_nil; exact ⟨rfl, Keeps.refl _ _⟩)
        focus (intro xx yy h; rfl)
        focus kernel_rfl
        apply chP_pure
        focus
          intro xx w' hk hF
          refine wr_call (vs := [.bool (!sameP (ta, tl) W), .int .i64 5]) rfl (need_ca (!sameP (ta, tl) W) 5 w') rfl ?_
          rintro v w'' ⟨rfl, rfl⟩
          apply wr_nil
          exact ⟨rfl, Keeps.refl _ _⟩
        focus (intro xx yy h; rfl)
        focus kernel_rfl
        apply chP_pure
        focus
          intro xx w' hk hF
          apply wr_move; exact rfl; with_reducible (conv => enter [6, 3]; whnf)
          apply wr_nil
          exact ⟨rfl, Keeps.refl _ _⟩
        focus (intro xx yy h; rfl)
        focus kernel_rfl
        apply chP_pure
        focus
          intro xx w' hk hF
          apply wr_move; exact rfl; with_reducible (conv => enter [6, 3]; whnf)
          apply wr_nil
          exact ⟨rfl, Keeps.refl _ _⟩
        focus (intro xx yy h; rfl)
        focus kernel_rfl
        apply chP_pure
        focus
          intro xx w' hk hF
          apply wr_move; exact rfl; with_reducible (conv => enter [6, 3]; whnf)
          apply wr_nil
          exact ⟨rfl, Keeps.refl _ _⟩
        focus (intro xx yy h; rfl)
        focus kernel_rfl
        refine chP_fact (fun y => .slice (some ⟨blkOf y, 0, none⟩) 3 3) (fun y w' => w'.heap[blkOf y]? = some (.cells #[.slice aa (listP W).length ac, .slice ma (listP (lessP W (ta, tl))).length mc, .slice la (listP (lessP (ta, tl) W)).length lc] 24 (0, 0))) (fun y w' w'' h k => k.heap h (fun h => h)) ?_ ?_
        focus
          intro xx w' hk hF
          refine wr_buildSlice (vs := [.slice aa (listP W).length ac, .slice ma (listP (lessP W (ta, tl))).length mc, .slice la (listP (lessP (ta, tl) W)).length lc]) rfl rfl (by intro v hv; simp at hv; rcases hv with rfl | rfl | rfl <;> rfl) rfl (by decide) (by decide) (by decide) ?_
          apply wr_nil
          exact ⟨.pointer (some ⟨w'.heap.size, 0, none⟩), rfl, heap_alloc_same _ _, (Keeps.refl _ _).alloc _⟩
        apply chP_pure
        focus
          intro xx w' hk hF
          refine wr_call (vs := [.slice (some ⟨blkOf (xx 17), 0, none⟩) 3 3]) rfl (shortX_ca (b := true) [(.slice aa (listP W).length ac, (listP W).length), (.slice ma (listP (lessP W (ta, tl))).length mc, (listP (lessP W (ta, tl))).length), (.slice la (listP (lessP (ta, tl) W)).length lc, (listP (lessP (ta, tl) W)).length)] (hsh) (by simp) (by intro x hx; simp at hx; rcases hx with rfl | rfl | rfl <;> exact ⟨_, _, rfl⟩) (blkOf (xx 17)) _ _ w' (hF 17 (by kernel_rfl))) rfl ?_
          rintro v w'' ⟨rfl, rfl⟩
          apply wr_nil
          exact ⟨rfl, Keeps.refl _ _⟩
        focus (intro xx yy h; rfl)
        focus kernel_rfl
        apply chP_pure
        focus
          intro xx w' hk hF
          apply wr_move; exact rfl; with_reducible (conv => enter [6, 3]; whnf)
          apply wr_nil
          exact ⟨rfl, Keeps.refl _ _⟩
        focus (intro xx yy h; rfl)
        focus kernel_rfl
        apply chP_pure
        focus
          intro xx w' hk hF
          first
          | (refine wr_skip rfl ?_; apply wr_nil; exact ⟨rfl, Keeps.refl _ _⟩)
          | ((apply wr_move; exact rfl; with_reducible (conv => enter [6, 3]; whnf)); apply wr_nil; exact ⟨rfl, Keeps.refl _ _⟩)
        focus (intro xx yy h; rfl)
        focus kernel_rfl
        apply chP_pure
        focus
          intro xx w' hk hF
          first
          | (refine wr_skip rfl ?_; apply wr_nil; exact ⟨rfl, Keeps.refl _ _⟩)
          | ((apply wr_len_slice; iterate 2 exact rfl); apply wr_nil; exact ⟨rfl, Keeps.refl _ _⟩)
        focus (intro xx yy h; rfl)
        focus kernel_rfl
        apply chP_pure
        focus
          intro xx w' hk hF
          first
          | (refine wr_skip rfl ?_; apply wr_nil; exact ⟨rfl, Keeps.refl _ _⟩)
          | ((refine wr_cmp (c := decide (hv.length ≤ 64)) rfl rfl rfl (by rcases Decidable.em (hv.length ≤ 64) with h64 | h64; (rw [decide_eq_true h64]; exact cmpT (by dsimp only [cmpP]; omega)); (rw [decide_eq_false h64]; exact cmpF (by dsimp only [cmpN]; omega))) ?_); apply wr_nil; exact ⟨rfl, Keeps.refl _ _⟩)
        focus (intro xx yy h; rfl)
        focus kernel_rfl
        apply chP_pure
        focus
          intro xx w' hk hF
          first
          | (apply wr_pick (t := true); (iterate 2 exact rfl); with_reducible (conv => enter [6, 3]; whnf); apply wr_nil; exact ⟨rfl, Keeps.refl _ _⟩)
          | (apply wr_pick (t := false); (iterate 2 exact rfl); with_reducible (conv => enter [6, 3]; whnf); apply wr_nil; exact ⟨rfl, Keeps.refl _ _⟩)
        focus (intro xx yy h; rfl)
        focus kernel_rfl
        apply chP_pure
        focus
          intro xx w' hk hF
          refine wr_call (vs := [.bool (decide (hv.length ≤ 64)), .int .i64 4]) rfl (need_ca (decide (hv.length ≤ 64)) 4 w') rfl ?_
          rintro v w'' ⟨rfl, rfl⟩
          apply wr_nil
          exact ⟨rfl, Keeps.refl _ _⟩
        focus (intro xx yy h; rfl)
        focus kernel_rfl
        refine chP_fact (fun y => .slice (some ⟨blkOf y, 0, none⟩) 3 3) (fun y w' => w'.heap[blkOf y]? = some (.cells #[erV (errOf (typedB k) 1), erV (errOf (!sameP (ta, tl) W) 5), erV (errOf (decide (hv.length ≤ 64)) 4)] 97 (0, 0))) (fun y w' w'' h k => k.heap h (fun h => h)) ?_ ?_
        focus
          intro xx w' hk hF
          refine wr_buildSlice (vs := [erV (errOf (typedB k) 1), erV (errOf (!sameP (ta, tl) W) 5), erV (errOf (decide (hv.length ≤ 64)) 4)]) rfl rfl (by intro v hv; simp at hv; rcases hv with rfl | rfl | rfl <;> exact er_size _) rfl (by decide) (by decide) (by decide) ?_
          apply wr_nil
          exact ⟨.pointer (some ⟨w'.heap.size, 0, none⟩), rfl, (by rw [← er3]; exact heap_alloc_same _ _), (Keeps.refl _ _).alloc _⟩
        apply chP_pure
        focus
          intro xx w' hk hF
          refine wr_call (vs := [.slice (some ⟨blkOf (xx 25), 0, none⟩) 3 3]) rfl (first_ca [errOf (typedB k) 1, errOf (!sameP (ta, tl) W) 5, errOf (decide (hv.length ≤ 64)) 4] (by simp) (blkOf (xx 25)) _ _ w' (hF 25 (by kernel_rfl))) rfl ?_
          rintro v w'' ⟨rfl, rfl⟩
          apply wr_nil
          exact ⟨rfl, Keeps.refl _ _⟩
        focus (intro xx yy h; rfl)
        focus kernel_rfl
        apply chP_pure
        focus
          intro xx w' hk hF
          apply wr_assign; exact rfl; with_reducible (conv => enter [6, 3]; whnf)
          apply wr_nil
          exact ⟨rfl, Keeps.refl _ _⟩
        focus (intro xx yy h; rfl)
        focus kernel_rfl
        refine chP_nil ?_
        intro yy w11 hk11' hF
        have hk11 := hk0 hk11'
        clear hF
        have hkf11 := hkf10.trans hk11
        have hc111 := hk11.heap hc110 (fun h => h)
        have hc211 := hk11.heap hc210 (fun h => h)
        have hc311 := hk11.heap hc310 (fun h => h)
        have hc411 := hk11.heap hc410 (fun h => h)
        have hc911 := hk11.heap hc910 (fun h => h)
        rw [show firstO _ = er from heq.symm]
        (repeat first | (apply wr_move; exact rfl; with_reducible (conv => enter [6, 3]; whnf)) | apply wr_end | apply wc_seq | apply wc_region)
        refine wr_bin rfl rfl rfl (by cases er <;> simp [eqGuard, erV]) (run_neEr er _) ?_
        cases er with
        | some e =>
          have hc1d : w11.drew.heap[bw1]? = _ := hc111
          have hED : ∀ {w'}, Keeps (fun q => q = bw3 ∨ q = bw4) w11.drew w' → ErrT w' := fun hk => by
            obtain ⟨T, fr, hg⟩ := hE
            have hl := lt_of_heap hg
            exact ⟨T, fr, hk.heap (hkf11.heap hg (fun h => h)) (fun e => by omega)⟩
          (repeat first | apply wr_end | apply wc_seq | (apply wc_true; exact rfl))
          refine V.L.wc_drawL (l := _) (V.L.duo w11.drew 4 5 bw3 bw4 (.cells (GCl (newC false)).toArray 32 (0, 0)) (.cells zeroRq.toArray 42 (0, 0)) (.cells (GCl c).toArray 32 (0, 0)) (.cells zeroRq.toArray 42 (0, 0))) (by kernel_rfl) (by kernel_rfl) ⟨Keeps.refl _ _, hc311, hc411⟩ ?_
          apply V.L.ch_step
          focus
            apply V.L.duo_read rfl rfl
            intro w hk
            refine wr_loadAll (cs := GCl c) rfl rfl rfl (hk.heap hc1d (fun e => by omega)) (GCl_len h.len) ?_
            apply wr_nil
            exact ⟨rfl, Keeps.refl _ _⟩
          apply V.L.ch_step
          focus
            apply V.L.duo_read rfl rfl
            intro w hk
            refine wr_build (ps := []) (cs := zeroRq) rfl rfl rfl rfl ?_
            apply wr_nil
            exact ⟨rfl, Keeps.refl _ _⟩
          apply V.L.ch_step
          focus
            apply V.L.duo_read rfl rfl
            intro w hk
            apply wr_move; exact rfl; with_reducible (conv => enter [6, 3]; whnf)
            apply wr_nil
            exact ⟨rfl, Keeps.refl _ _⟩
          apply V.L.ch_step
          focus
            apply V.L.duo_read rfl rfl
            intro w hk
            refine wr_call (vs := [erV (some e)]) rfl (told_ca (some e) w (hED hk)) rfl ?_
            rintro v w' ⟨rfl, hk'⟩
            apply wr_nil
            exact ⟨rfl, hk'⟩
          apply V.L.ch_step
          focus
            apply V.L.duo_st1 (by omega) rfl
            intro w hk hb
            refine wr_storeAll (cs := GCl c) rfl rfl rfl (GCl_one h) hb (GCl_len h.len) rfl ?_
            apply wr_nil
            exact ⟨rfl, rfl⟩
          apply V.L.ch_step
          focus
            apply V.L.duo_st2 (by omega) rfl
            intro w hk hb
            refine wr_storeAll (cs := zeroRq) rfl rfl rfl zeroRq_one hb rfl rfl ?_
            apply wr_nil
            exact ⟨rfl, rfl⟩
          apply V.L.ch_step
          focus
            apply V.L.duo_read rfl rfl
            intro w hk
            apply wr_assign; exact rfl; with_reducible (conv => enter [6, 3]; whnf)
            apply wr_nil
            exact ⟨rfl, Keeps.refl _ _⟩
          refine V.L.ch_nil ?_
          intro w12 hS
          obtain ⟨hk12, hc312, hc412⟩ := V.L.duo_end hS (by kernel_rfl) (by kernel_rfl)
          (repeat first | (apply wc_ret; try simp only [thenE, inBlockE, bodyQ]))
          exact leaveN (vs := [CliV c, .agg zeroRq.toArray, .int .i64 e]) (resv_cells (cs := GCl c) (e := 32) (fr := (0, 0)) rfl rfl hc312 (GCl_len h.len) (resv_cells (cs := zeroRq) (e := 42) (fr := (0, 0)) rfl rfl hc412 rfl (resv_tmp rfl resv_nil))) ⟨.inl ⟨e, by trivial, rfl⟩, hkf11.drew.trans' hk12 (fun i hi e => by rcases e with e | e <;> omega)⟩
        | none =>
          have hl64 : hv.length ≤ 64 := by
            rcases Decidable.em (hv.length ≤ 64) with h | h
            · exact h
            · rw [decide_eq_false h] at heq
              exact absurd heq.symm (firstO_last _ _ _ _ _)
          (repeat first | (apply wr_move; exact rfl; with_reducible (conv => enter [6, 3]; whnf)) | apply wr_end | apply wc_seq | apply wc_region | apply wc_skip | (apply wr_fieldAddr; iterate 2 exact rfl) | (apply wr_load; (iterate 3 exact rfl); (focus repeat first | with_reducible assumption | exact heap_alloc_same _ _ | exact World.putObj_heap_same (by first | omega | (simp only [World.size_alloc, World.putObj_size, ne_eq]; omega)) | ((first | refine hAl ?_ ?_ | refine hPu ?_ ?_); focus first | omega | (simp only [World.size_alloc, World.putObj_size, ne_eq]; omega))); exact rfl; conv => enter [6, 3]; whnf) | (apply wc_false; exact rfl))
          refine wr_build (ps := [(0, .int .i64 k), (1, .bool c.1), (2, .int .u64 (no : Int)), (3, .slice aa (listP W).length ac)]) (cs := GRq k c.1 no (.slice aa (listP W).length ac) nilV nilV []) rfl rfl rfl rfl ?_
          (repeat first | (apply wr_alloc; exact rfl))
          refine wr_storeAll (cs := GRq k c.1 no (.slice aa (listP W).length ac) nilV nilV []) rfl rfl rfl (GRq_one rfl rfl rfl) (heap_alloc_same _ _) rfl rfl ?_
          refine wr_name ?_
          intro w12 hww12
          obtain ⟨bw12, hbw12⟩ : ∃ b, b = (w11).heap.size := ⟨_, rfl⟩
          have hkw12 : Keeps NoB w11 w12 := by rw [hww12]; exact ((Keeps.refl NoB w11).alloc _).put _ (fun h => by omega)
          have hcw12 : (w12).heap[bw12]? = some (.cells (GRq k c.1 no (.slice aa (listP W).length ac) nilV nilV []).toArray 42 (0, 0)) := by rw [hww12, hbw12]; exact World.putObj_heap_same (by simp)
          rw [← hbw12]
          clear hww12
          have hc112 := hkw12.heap hc111 (fun h => h)
          have hc212 := hkw12.heap hc211 (fun h => h)
          have hc312 := hkw12.heap hc311 (fun h => h)
          have hc412 := hkw12.heap hc411 (fun h => h)
          have hc912 := hkw12.heap hc911 (fun h => h)
          have hkf12 := hkf11.trans hkw12
          have hl11 := lt_of_heap hc411
          have hl911 := lt_of_heap hc911
          have hall12 := own_keep hall (hk11.trans hkw12) (fun _ _ h => h)
          have hmore12 := own_keep hmore (hk11.trans hkw12) (fun _ _ h => h)
          have hless12 := own_keep hless (hk11.trans hkw12) (fun _ _ h => h)
          (repeat first | apply wr_end | apply wc_seq | apply wc_region | (apply wr_fieldAddr; iterate 2 exact rfl) | (apply wr_load; (iterate 3 exact rfl); (focus repeat first | with_reducible assumption | exact heap_alloc_same _ _ | exact World.putObj_heap_same (by first | omega | (simp only [World.size_alloc, World.putObj_size, ne_eq]; omega)) | ((first | refine hAl ?_ ?_ | refine hPu ?_ ?_); focus first | omega | (simp only [World.size_alloc, World.putObj_size, ne_eq]; omega))); exact rfl; conv => enter [6, 3]; whnf))
          rw [hd]
          (repeat first | (apply wr_move; exact rfl; with_reducible (conv => enter [6, 3]; whnf)) | apply wc_seq | apply wc_region | (apply wr_fieldAddr; iterate 2 exact rfl) | (apply wr_store; (iterate 3 exact rfl); (first | exact rfl | with_reducible assumption); (focus repeat first | with_reducible assumption | exact heap_alloc_same _ _ | exact World.putObj_heap_same (by first | omega | (simp only [World.size_alloc, World.putObj_size, ne_eq]; omega)) | ((first | refine hAl ?_ ?_ | refine hPu ?_ ?_); focus first | omega | (simp only [World.size_alloc, World.putObj_size, ne_eq]; omega))); exact rfl) | (apply wc_true; exact rfl))
          generalize hww13 : World.putObj w12 _ _ = w13
          have hcw13 : (w13).heap[bw12]? = some (.cells (GRq k c.1 0 (.slice aa (listP W).length ac) nilV nilV []).toArray 42 (0, 0)) := by rw [← hww13]; exact World.putObj_heap_same (lt_of_heap hcw12)
          have hkw13 : Keeps (· = bw12) w12 w13 := by rw [← hww13]; exact (Keeps.refl _ w12).put _ (fun _ => rfl)
          clear hww13
          (repeat first | (apply wr_fieldAddr; iterate 2 exact rfl) | (apply wr_store; (iterate 3 exact rfl); (first | exact rfl | with_reducible assumption); (focus repeat first | with_reducible assumption | exact heap_alloc_same _ _ | exact World.putObj_heap_same (by first | omega | (simp only [World.size_alloc, World.putObj_size, ne_eq]; omega)) | ((first | refine hAl ?_ ?_ | refine hPu ?_ ?_); focus first | omega | (simp only [World.size_alloc, World.putObj_size, ne_eq]; omega))); exact rfl))
          generalize hww14 : World.putObj w13 _ _ = w14
          have hcw14 : (w14).heap[bw12]? = some (.cells (GRq k c.1 0 (.slice ma (listP (lessP W (ta, tl))).length mc) nilV nilV []).toArray 42 (0, 0)) := by rw [← hww14]; exact World.putObj_heap_same (lt_of_heap hcw13)
          have hkw14 : Keeps (· = bw12) w13 w14 := by rw [← hww14]; exact (Keeps.refl _ w13).put _ (fun _ => rfl)
          clear hww14
          (repeat first | (apply wr_move; exact rfl; with_reducible (conv => enter [6, 3]; whnf)) | apply wr_end | apply wc_seq | apply wc_region | apply wc_block | (apply wr_len_slice; iterate 2 exact rfl) | (apply wr_store; (iterate 3 exact rfl); (first | exact rfl | with_reducible assumption); (focus repeat first | with_reducible assumption | exact heap_alloc_same _ _ | exact World.putObj_heap_same (by first | omega | (simp only [World.size_alloc, World.putObj_size, ne_eq]; omega)) | ((first | refine hAl ?_ ?_ | refine hPu ?_ ?_); focus first | omega | (simp only [World.size_alloc, World.putObj_size, ne_eq]; omega))); exact rfl))
          generalize hww15 : World.putObj w14 _ _ = w15
          have hcw15 : (w15).heap[bw12]? = some (.cells (GRq k c.1 0 (.slice ma (listP (lessP W (ta, tl))).length mc) (.slice la (listP (lessP (ta, tl) W)).length lc) nilV []).toArray 42 (0, 0)) := by rw [← hww15]; exact World.putObj_heap_same (lt_of_heap hcw14)
          have hkw15 : Keeps (· = bw12) w14 w15 := by rw [← hww15]; exact (Keeps.refl _ w14).put _ (fun _ => rfl)
          clear hww15
          have hk1215 := (hkw13.trans hkw14).trans hkw15
          have hk15 : Keeps NoB w w15 := hkf12.trans' hk1215 (fun i hi e => by omega)
          have hl12 : bw12 < w15.heap.size := lt_of_heap hcw15
          have hl1211 : w11.heap.size ≤ bw12 := by omega
          have hc115 := hk1215.heap hc112 (fun e => by omega)
          have hc215 := hk1215.heap hc212 (fun e => by omega)
          have hc315 := hk1215.heap hc312 (fun e => by omega)
          have hc415 := hk1215.heap hc412 (fun e => by omega)
          have hc915 := hk1215.heap hc912 (fun e => by omega)
          have hnv15 : w15.ownsRow n4 9 1 nv W.2.length (SL W.2) := own_keep (own_keep hnv9 ((hk10.trans hk11).trans hkw12) (fun _ _ h => h)) hk1215 (fun q hq e => own_neT (own_keep hnv9 ((hk10.trans hk11).trans hkw12) (fun _ _ h => h)) hcw12 (by decide) q hq e)
          have hmore15 := own_keep hmore12 hk1215 (fun q hq e => own_neT hmore12 hcw12 (by decide) q hq e)
          have hless15 := own_keep hless12 hk1215 (fun q hq e => own_neT hless12 hcw12 (by decide) q hq e)
          skip
          refine wc_loopL (α := Nat × Value × List HV) (fun p => [(1, .int .i64 k), (4, .pointer (some ⟨bw1, 0, none⟩)), (6, .pointer (some ⟨bw2, 0, none⟩)), (8, .pointer (some ⟨bw3, 0, none⟩)), (9, .pointer (some ⟨bw4, 0, none⟩)), (11, .pointer (some ⟨bw9, 0, none⟩)), (16, .pointer (some ⟨bw12, 0, none⟩)), (87, .slice ha hv.length hc), (88, .int .i64 (hv.length : Int)), (89, .int .i64 (p.1 : Int))])
            (fun p ds w' => ds = [] ∧ p.1 ≤ hv.length ∧ p.2.2 = (if true = true then [] else (hv.take p.1).filter fun h => hasP W h.1) ∧ w'.ownsRow w15.heap.size 55 2 p.2.1 p.2.2.length (p.2.2.flatMap GHv) ∧ w'.heap[bw12]? = some (.cells (GRq k c.1 0 (.slice ma (listP (lessP W (ta, tl))).length mc) (.slice la (listP (lessP (ta, tl) W)).length lc) p.2.1 []).toArray 42 (0, 0)) ∧ Keeps (· = bw12) w15 w')
            (fun p => hv.length - p.1) (0, nilV, []) ⟨rfl, Nat.zero_le _, by simp, own_nilV _ _ _ _, hcw15, Keeps.refl _ _⟩ ⟨rfl, rfl, rfl, rfl, rfl, rfl, rfl, rfl, rfl, rfl, trivial⟩ ?_
          rintro ⟨i, hvl, hl⟩ ds f1 w16 ⟨rfl, hi, hlq, hown, hc16, hk16⟩
          dsimp only at hi hlq hown hc16 ⊢
          have hc116 := hk16.heap hc115 (fun e => by omega)
          have hc216 := hk16.heap hc215 (fun e => by omega)
          have hc916 := hk16.heap hc915 (fun e => by omega)
          by_cases hin : i < hv.length
          · obtain ⟨x, hx⟩ : ∃ x, hv[i]? = some x := ⟨hv[i], by simp [hin]⟩
            obtain ⟨hb0, ho0, rfl, cur, ee, fr, hvb, hvr⟩ := hhm (by omega)
            have hkb : Keeps NoB w w16 := hk15.trans' hk16 (fun i hi e => by omega)
            have htake : hv.take (i + 1) = hv.take i ++ [x] := by rw [List.take_add_one, hx]; rfl
            (repeat first | apply wr_end | apply wc_seq | apply wc_region | apply wc_skip | apply wc_block | (apply wr_cmp; (iterate 3 exact rfl); exact cmpT (by dsimp only [cmpP]; first | done | omega)) | (apply wc_true; exact rfl))
            refine wr_indexAddr (i := i) rfl rfl rfl hin ?_
            refine wr_loadElem (G := GHv) (n := hv.length) (l := hv) rfl rfl GHv_len rfl (hkb.heap hvb (fun h => h)) hvr hin hx rfl ?_
            (repeat first | (apply wr_alloc; exact rfl))
            refine wr_storeAll (cs := GHv x) rfl rfl rfl (GHv_one _) (heap_alloc_same _ _) rfl rfl ?_
            refine wr_name ?_
            intro wx hwwx
            obtain ⟨bwx, hbwx⟩ : ∃ b, b = (w16).heap.size := ⟨_, rfl⟩
            have hkwx : Keeps NoB w16 wx := by rw [hwwx]; exact ((Keeps.refl NoB w16).alloc _).put _ (fun h => by omega)
            have hcwx : (wx).heap[bwx]? = some (.cells (GHv x).toArray 55 (0, 0)) := by rw [hwwx, hbwx]; exact World.putObj_heap_same (by simp)
            rw [← hbwx]
            clear hwwx
            have hc9x := hkwx.heap hc916 (fun h => h)
            have hc2x := hkwx.heap hc216 (fun h => h)
            have hc16x := hkwx.heap hc16 (fun h => h)
            have hownx := own_keep hown hkwx (fun _ _ h => h)
            (repeat first | (apply wr_move; exact rfl; with_reducible (conv => enter [6, 3]; whnf)) | apply wr_end | apply wc_seq | apply wc_region | apply wc_skip | (apply wr_fieldAddr; iterate 2 exact rfl) | (apply wr_not; iterate 2 exact rfl) | (apply wr_load; (iterate 3 exact rfl); (focus repeat first | with_reducible assumption | exact heap_alloc_same _ _ | exact World.putObj_heap_same (by first | omega | (simp only [World.size_alloc, World.putObj_size, ne_eq]; omega)) | ((first | refine hAl ?_ ?_ | refine hPu ?_ ?_); focus first | omega | (simp only [World.size_alloc, World.putObj_size, ne_eq]; omega))); exact rfl; conv => enter [6, 3]; whnf) | (apply wr_pick (t := false); (iterate 2 exact rfl); with_reducible (conv => enter [6, 3]; whnf)) | (apply wr_add; (iterate 3 exact rfl); exact w_fit (by dsimp only [kIn]; first | done | omega)) | (apply wc_false; exact rfl) | (apply wr_skip; exact rfl))
            exact ⟨(i + 1, hvl, hl), by dsimp only; omega, ⟨by trivial, by dsimp only; omega, (by dsimp only; rw [hlq]; rfl), hownx, hc16x, hk16.trans hkwx.upD⟩, rfl, rfl, rfl, rfl, rfl, rfl, rfl, rfl, rfl, rfl, trivial⟩
          · have hie : i = hv.length := by omega
            subst hie
            rw [List.take_length] at hlq
            (repeat first | apply wr_end | apply wc_seq | apply wc_region | (apply wr_cmp; (iterate 3 exact rfl); exact cmpF (by dsimp only [cmpN]; first | done | omega)) | (apply wc_false; exact rfl) | (apply wc_exit; try simp only [thenE, inBlockE, bodyQ, ↓reduceIte, Nat.reduceEqDiff]))
            refine wr_loadAll (cs := [.bool W.1, nv]) rfl rfl rfl hc216 rfl ?_
            (repeat first | (apply wr_fieldAddr; iterate 2 exact rfl))
            have hnv16 := own_keep hnv15 hk16 (fun q hq e => own_neT hnv15 hcw15 (by decide) q hq e)
            have hmore16 := own_keep hmore15 hk16 (fun q hq e => own_neT hmore15 hcw15 (by decide) q hq e)
            have hless16 := own_keep hless15 hk16 (fun q hq e => own_neT hless15 hcw15 (by decide) q hq e)
            have hk016 : Keeps NoB w w16 := hk15.trans' hk16 (fun i hi e => by omega)
            refine wr_storePart (cs := [.bool W.1, nv]) rfl rfl rfl (by intro u hu; simp at hu; rcases hu with rfl | rfl; rfl; exact own_one hnv16) hc916 rfl (by show 2 ≤ 4; decide) ?_
            generalize hw17 : World.putObj w16 _ _ = w17
            have hc917 : w17.heap[bw9]? = some (.cells #[.bool W.1, nv, .bool true, .int .u64 (no : Int)] 29 (0, 0)) := by rw [← hw17]; exact World.putObj_heap_same (lt_of_heap hc916)
            have hk17 : Keeps (· = bw9) w16 w17 := by rw [← hw17]; exact (Keeps.refl _ w16).put _ (fun _ => rfl)
            clear hw17
            (repeat first | (apply wr_move; exact rfl; with_reducible (conv => enter [6, 3]; whnf)) | apply wr_end | apply wc_seq | apply wc_region | (apply wr_fieldAddr; iterate 2 exact rfl) | (apply wr_store; (iterate 3 exact rfl); (first | exact rfl | with_reducible assumption); (focus repeat first | with_reducible assumption | exact heap_alloc_same _ _ | exact World.putObj_heap_same (by first | omega | (simp only [World.size_alloc, World.putObj_size, ne_eq]; omega)) | ((first | refine hAl ?_ ?_ | refine hPu ?_ ?_); focus first | omega | (simp only [World.size_alloc, World.putObj_size, ne_eq]; omega))); exact rfl))
            generalize hw18 : World.putObj w17 _ _ = w18
            have hc918 : w18.heap[bw9]? = some (.cells (GTp ((W, nv), true, no)).toArray 29 (0, 0)) := by rw [← hw18]; exact World.putObj_heap_same (lt_of_heap hc917)
            have hk18 : Keeps (· = bw9) w16 w18 := hk17.trans (by rw [← hw18]; exact (Keeps.refl _ w17).put _ (fun _ => rfl))
            clear hw18
            have hc118 := hk18.heap hc116 (fun e => by omega)
            have hc318 := hk18.heap (hk16.heap hc315 (fun e => by omega)) (fun e => by omega)
            have hc418 := hk18.heap (hk16.heap hc415 (fun e => by omega)) (fun e => by omega)
            have hc1218 := hk18.heap hc16 (fun e => by omega)
            skip
            refine wr_loadAll (cs := GTp ((W, nv), true, no)) rfl rfl rfl hc918 rfl ?_
            have hty : typedB k = true := by
              cases hty : typedB k with
              | true => rfl
              | false => rw [hty] at heq; simp [firstO, errOf] at heq
            have hk15' : 1 ≤ k ∧ k ≤ 5 := by unfold typedB at hty; simpa using hty
            obtain ⟨q, rfl⟩ := Int.eq_ofNat_of_zero_le (show 0 ≤ k by omega)
            have hq6 : q < 6 := by omega
            obtain ⟨t1, htq⟩ : ∃ t, c.2[q]? = some t := ⟨c.2[q]'(by rw [h.len]; omega), by simp [h.len, hq6]⟩
            have hac : askC c (q : Int) W nv = (c.1, c.2.set q ((W, nv), true, no)) := by unfold askC; rw [← ht, Int.toNat_natCast]; rfl
            (repeat first | (apply wr_fieldAddr; iterate 2 exact rfl))
            refine wr_indexArr (i := q) rfl rfl rfl hq6 ?_
            have hnvw : TpAt w16 ((W, nv), true, no) := ⟨SlR.of_own hnv16, hWl, hta.2.2⟩
            refine wr_storePart (cs := GTp ((W, nv), true, no)) rfl rfl rfl (GTp_one hnvw) hc118 rfl (by rw [List.size_toArray, GCl_len h.len]; show 0 + 1 + q * 4 + 4 ≤ 25; omega) ?_
            generalize hw19 : World.putObj w18 _ _ = w19
            have hc119 : w19.heap[bw1]? = some (.cells (GCl (askC c (q : Int) W nv)).toArray 32 (0, 0)) := by
              rw [← hw19, hac, ← GCl_setT htq]
              exact World.putObj_heap_same (lt_of_heap hc118)
            have hk19 : Keeps (· = bw1) w18 w19 := by rw [← hw19]; exact (Keeps.refl _ w18).put _ (fun _ => rfl)
            clear hw19
            have hc1219 := hk19.heap hc1218 (fun e => by omega)
            have hc319 := hk19.heap hc318 (fun e => by omega)
            have hc419 := hk19.heap hc418 (fun e => by omega)
            have hc119d : w19.drew.heap[bw1]? = _ := hc119
            have hc1219d : w19.drew.heap[bw12]? = _ := hc1219
            have hl6 : (askC c (q : Int) W nv).2.length = 6 := by rw [hac]; simp [h.len]
            have hone : ∀ u ∈ GCl (askC c (q : Int) W nv), u.oneCell' = true := by
              rw [hac]
              intro u hu
              simp only [GCl, List.mem_cons, List.mem_flatMap] at hu
              rcases hu with rfl | ⟨y, hy, hu⟩
              · rfl
              · rcases List.mem_or_eq_of_mem_set hy with hy | rfl
                · exact GTp_one (h.at' y hy) u hu
                · exact GTp_one hnvw u hu
            (repeat first | apply wr_end | apply wc_seq)
            refine V.L.wc_drawL (l := _) (V.L.duo w19.drew 2 3 bw3 bw4 (.cells (GCl (newC false)).toArray 32 (0, 0)) (.cells zeroRq.toArray 42 (0, 0)) (.cells (GCl (askC c (q : Int) W nv)).toArray 32 (0, 0)) (.cells (GRq (q : Int) c.1 0 (.slice ma (listP (lessP W (ta, tl))).length mc) (.slice la (listP (lessP (ta, tl) W)).length lc) hvl []).toArray 42 (0, 0))) (by kernel_rfl) (by kernel_rfl) ⟨Keeps.refl _ _, hc319, hc419⟩ ?_
            apply V.L.ch_step
            focus
              apply V.L.duo_read rfl rfl
              intro w hk
              refine wr_loadAll (cs := GCl (askC c (q : Int) W nv)) rfl rfl rfl (hk.heap hc119d (fun e => by omega)) (GCl_len hl6) ?_
              apply wr_nil
              exact ⟨rfl, Keeps.refl _ _⟩
            apply V.L.ch_step
            focus
              apply V.L.duo_read rfl rfl
              intro w hk
              refine wr_loadAll (cs := GRq (q : Int) c.1 0 (.slice ma (listP (lessP W (ta, tl))).length mc) (.slice la (listP (lessP (ta, tl) W)).length lc) hvl []) rfl rfl rfl (hk.heap hc1219d (fun e => by omega)) rfl ?_
              apply wr_nil
              exact ⟨rfl, Keeps.refl _ _⟩
            apply V.L.ch_step
            focus
              apply V.L.duo_st1 (by omega) rfl
              intro w hk hb
              refine wr_storeAll (cs := GCl (askC c (q : Int) W nv)) rfl rfl rfl hone hb (GCl_len hl6) rfl ?_
              apply wr_nil
              exact ⟨rfl, rfl⟩
            apply V.L.ch_step
            focus
              apply V.L.duo_st2 (by omega) rfl
              intro w hk hb
              refine wr_storeAll (cs := GRq (q : Int) c.1 0 (.slice ma (listP (lessP W (ta, tl))).length mc) (.slice la (listP (lessP (ta, tl) W)).length lc) hvl []) rfl rfl rfl (GRq_one rfl rfl (own_one hown)) hb rfl rfl ?_
              apply wr_nil
              exact ⟨rfl, rfl⟩
            apply V.L.ch_step
            focus
              apply V.L.duo_read rfl rfl
              intro w hk
              apply wr_assign; exact rfl; with_reducible (conv => enter [6, 3]; whnf)
              apply wr_nil
              exact ⟨rfl, Keeps.refl _ _⟩
            refine V.L.ch_nil ?_
            intro w20 hS
            obtain ⟨hk20, hc320, hc420⟩ := V.L.duo_end hS (by kernel_rfl) (by kernel_rfl)
            have kp : ∀ {T : TypeId} {sz m : Nat} {v : Value} {xs : List Value}, w16.ownsRow n4 T sz v m xs → T ≠ 29 → T ≠ 32 → T ≠ 42 → w20.ownsRow bw1 T sz v m xs := fun ho h1 h2 h3 => by
              have o1 := own_keep ho hk18 (own_neT ho hc916 h1)
              have o2 := own_keep o1 hk19 (own_neT o1 hc118 h2)
              have o3 := own_keep o2 ((Keeps.refl NoB w19).drew.upD.trans hk20) (fun q hq e => e.elim (own_neT o2 hc319 h2 q hq) (own_neT o2 hc419 h3 q hq))
              exact own_down o3 (by omega)
            have hkf20 : Keeps NoB w w20 := ((hk016.trans' hk18 (fun i hi e => by omega)).trans' hk19 (fun i hi e => by omega)).drew.trans' hk20 (fun i hi e => by rcases e with e | e <;> omega)
            (repeat first | (apply wc_ret; try simp only [thenE, inBlockE, bodyQ]))
            refine leaveN (vs := [CliV (askC c (q : Int) W nv), .agg (GRq (q : Int) c.1 0 (.slice ma (listP (lessP W (ta, tl))).length mc) (.slice la (listP (lessP (ta, tl) W)).length lc) hvl []).toArray, .int .i64 0]) (resv_cells (cs := GCl (askC c (q : Int) W nv)) (e := 32) (fr := (0, 0)) rfl rfl hc320 (GCl_len hl6) (resv_cells (cs := GRq (q : Int) c.1 0 (.slice ma (listP (lessP W (ta, tl))).length mc) (.slice la (listP (lessP (ta, tl) W)).length lc) hvl []) (e := 42) (fr := (0, 0)) rfl rfl hc420 rfl (resv_tmp rfl resv_nil))) ⟨.inr ⟨by trivial, ?_⟩, hkf20⟩
            have hhad : hadL (((ta, tl), tv), true, no) W hv = hl := by rw [hlq]; rfl
            refine ⟨nv, .slice ma (listP (lessP W (ta, tl))).length mc, .slice la (listP (lessP (ta, tl) W)).length lc, hvl, by rw [if_pos hd]; rfl, kp hnv16 (by decide) (by decide) (by decide), ⟨_, rfl, ?_⟩, ⟨_, rfl, ?_⟩, ⟨_, rfl, ?_⟩⟩
            focus
              rw [if_pos hd, ← ht]
              unfold moreL
              rw [if_pos hd]
              exact kp hmore16 (by decide) (by decide) (by decide)
            focus
              rw [← ht]
              unfold lessL
              rw [if_pos hd]
              exact kp hless16 (by decide) (by decide) (by decide)
            rw [if_pos hd, ← ht, hhad]
            exact kp (own_down hown (by have := hkf12.size; have := (hk10.trans hk11).size; have := hkw12.size; have := hk1215.size; omega)) (by decide) (by decide) (by decide)
      | false =>
        have heq : er = firstO [errOf (typedB k) 1, errOf (!sameP (ta, tl) W) 5, errOf false 4] := by
          rw [her]
          simp only [moreL, lessL, hd, if_true]
          rw [hsh]
          simp only [Bool.not_true, Bool.not_false, Bool.false_or, Bool.true_or, Bool.false_and]
        refine wc_drawP (l := _) 28 _ (by kernel_rfl) (by kernel_rfl) rfl (by kernel_rfl) (by kernel_rfl) (by decide) ?_
        apply chP_pure
        focus
          intro xx w' hk hF
          apply wr_move; exact rfl; with_reducible (conv => enter [6, 3]; whnf)
          apply wr_nil
          exact ⟨rfl, Keeps.refl _ _⟩
        focus (intro xx yy h; rfl)
        focus kernel_rfl
        apply chP_pure
        focus
          intro xx w' hk hF
          refine wr_call (vs := [.int .i64 k]) rfl (typed_ca k w') rfl ?_
          rintro v w'' ⟨rfl, rfl⟩
          apply wr_nil
          exact ⟨rfl, Keeps.refl _ _⟩
        focus (intro xx yy h; rfl)
        focus kernel_rfl
        apply chP_pure
        focus
          intro xx w' hk hF
          refine wr_call (vs := [.bool (typedB k), .int .i64 1]) rfl (need_ca (typedB k) 1 w') rfl ?_
          rintro v w'' ⟨rfl, rfl⟩
          apply wr_nil
          exact ⟨rfl, Keeps.refl _ _⟩
        focus (intro xx yy h; rfl)
        focus kernel_rfl
        apply chP_pure
        focus
          intro xx w' hk hF
          refine wr_fieldAddr rfl rfl ?_
          apply wr_nil
          exact ⟨rfl, Keeps.refl _ _⟩
        focus (intro xx yy h; rfl)
        focus kernel_rfl
        apply chP_pure
        focus
          intro xx w' hk hF
          refine wr_load (v := .bool true) rfl rfl rfl ((hk0 hk).heap hc910 (fun h => h)) rfl ?_
          apply wr_nil
          exact ⟨rfl, Keeps.refl _ _⟩
        focus (intro xx yy h; rfl)
        focus kernel_rfl
        apply chP_pure
        focus
          intro xx w' hk hF
          apply wr_not; iterate 2 exact rfl
          apply wr_nil
          exact ⟨rfl, Keeps.refl _ _⟩
        focus (intro xx yy h; rfl)
        focus kernel_rfl
        apply chP_pure
        focus
          intro xx w' hk hF
          apply wr_move; exact rfl; with_reducible (conv => enter [6, 3]; whnf)
          apply wr_nil
          exact ⟨rfl, Keeps.refl _ _⟩
        focus (intro xx yy h; rfl)
        focus kernel_rfl
        apply chP_pure
        focus
          intro xx w' hk hF
          first
          | (refine wr_skip rfl ?_; apply wr_nil; exact ⟨rfl, Keeps.refl _ _⟩)
          | ((refine wr_fieldAddr rfl rfl ?_); apply wr_nil; exact ⟨rfl, Keeps.refl _ _⟩)
        focus (intro xx yy h; rfl)
        focus kernel_rfl
        apply chP_pure
        focus
          intro xx w' hk hF
          first
          | (refine wr_skip rfl ?_; apply wr_nil; exact ⟨rfl, Keeps.refl _ _⟩)
          | ((refine wr_loadAgg (cs := [.bool ta, tv]) rfl rfl rfl rfl (fun q u hq => cell_of_heap ((hk0 hk).heap hc910 (fun h => h)) (by match q, hq with | 0, hq => exact hq | 1, hq => exact hq | q + 2, hq => simp at hq)) ?_); apply wr_nil; exact ⟨rfl, Keeps.refl _ _⟩)
        focus (intro xx yy h; rfl)
        focus kernel_rfl
        apply chP_pure
        focus
          intro xx w' hk hF
          first
          | (refine wr_skip rfl ?_; apply wr_nil; exact ⟨rfl, Keeps.refl _ _⟩)
          | ((refine wr_loadAll (cs := [.bool W.1, nv]) rfl rfl rfl ((hk0 hk).heap hc210 (fun h => h)) rfl ?_); apply wr_nil; exact ⟨rfl, Keeps.refl _ _⟩)
        focus (intro xx yy h; rfl)
        focus kernel_rfl
        apply chP_pure
        focus
          intro xx w' hk hF
          first
          | (refine wr_skip rfl ?_; apply wr_nil; exact ⟨rfl, Keeps.refl _ _⟩)
          | (refine wr_call (vs := [SetV ta tv, SetV W.1 nv]) rfl (same_ca (ta, tl) W _ _ w' (htR10 (hk0 hk)) (hWR10 (hk0 hk)) hta.2.1 hWl) rfl ?_; rintro v w'' ⟨rfl, hkc⟩; apply wr_nil; exact ⟨rfl, hkc⟩)
        focus (intro xx yy h; rfl)
        focus kernel_rfl
        apply chP_pure
        focus
          intro xx w' hk hF
          first
          | (refine wr_skip rfl ?_; apply wr_nil; exact ⟨rfl, Keeps.refl _ _⟩)
          | ((apply wr_not; iterate 2 exact rfl); apply wr_nil; exact ⟨rfl, Keeps.refl _ _⟩)
        focus (intro xx yy h; rfl)
        focus kernel_rfl
        apply chP_pure
        focus
          intro xx w' hk hF
          first
          | (apply wr_pick (t := true); (iterate 2 exact rfl); with_reducible (conv => enter [6, 3]; whnf); apply wr_nil; exact ⟨rfl, Keeps.refl _ _⟩)
          | (apply wr_pick (t := false); (iterate 2 exact rfl); with_reducible (conv => enter [6, 3]; whnf); apply wr_nil; exact ⟨rfl, Keeps.refl _ _⟩)
        focus (intro xx yy h; rfl)
        focus kernel_rfl
        apply chP_pure
        focus
          intro xx w' hk hF
          refine wr_call (vs := [.bool (!sameP (ta, tl) W), .int .i64 5]) rfl (need_ca (!sameP (ta, tl) W) 5 w') rfl ?_
          rintro v w'' ⟨rfl, rfl⟩
          apply wr_nil
          exact ⟨rfl, Keeps.refl _ _⟩
        focus (intro xx yy h; rfl)
        focus kernel_rfl
        apply chP_pure
        focus
          intro xx w' hk hF
          apply wr_move; exact rfl; with_reducible (conv => enter [6, 3]; whnf)
          apply wr_nil
          exact ⟨rfl, Keeps.refl _ _⟩
        focus (intro xx yy h; rfl)
        focus kernel_rfl
        apply chP_pure
        focus
          intro xx w' hk hF
          apply wr_move; exact rfl; with_reducible (conv => enter [6, 3]; whnf)
          apply wr_nil
          exact ⟨rfl, Keeps.refl _ _⟩
        focus (intro xx yy h; rfl)
        focus kernel_rfl
        apply chP_pure
        focus
          intro xx w' hk hF
          apply wr_move; exact rfl; with_reducible (conv => enter [6, 3]; whnf)
          apply wr_nil
          exact ⟨rfl, Keeps.refl _ _⟩
        focus (intro xx yy h; rfl)
        focus kernel_rfl
        refine chP_fact (fun y => .slice (some ⟨blkOf y, 0, none⟩) 3 3) (fun y w' => w'.heap[blkOf y]? = some (.cells #[.slice aa (listP W).length ac, .slice ma (listP (lessP W (ta, tl))).length mc, .slice la (listP (lessP (ta, tl) W)).length lc] 24 (0, 0))) (fun y w' w'' h k => k.heap h (fun h => h)) ?_ ?_
        focus
          intro xx w' hk hF
          refine wr_buildSlice (vs := [.slice aa (listP W).length ac, .slice ma (listP (lessP W (ta, tl))).length mc, .slice la (listP (lessP (ta, tl) W)).length lc]) rfl rfl (by intro v hv; simp at hv; rcases hv with rfl | rfl | rfl <;> rfl) rfl (by decide) (by decide) (by decide) ?_
          apply wr_nil
          exact ⟨.pointer (some ⟨w'.heap.size, 0, none⟩), rfl, heap_alloc_same _ _, (Keeps.refl _ _).alloc _⟩
        apply chP_pure
        focus
          intro xx w' hk hF
          refine wr_call (vs := [.slice (some ⟨blkOf (xx 17), 0, none⟩) 3 3]) rfl (shortX_ca (b := false) [(.slice aa (listP W).length ac, (listP W).length), (.slice ma (listP (lessP W (ta, tl))).length mc, (listP (lessP W (ta, tl))).length), (.slice la (listP (lessP (ta, tl) W)).length lc, (listP (lessP (ta, tl) W)).length)] (hsh) (by simp) (by intro x hx; simp at hx; rcases hx with rfl | rfl | rfl <;> exact ⟨_, _, rfl⟩) (blkOf (xx 17)) _ _ w' (hF 17 (by kernel_rfl))) rfl ?_
          rintro v w'' ⟨rfl, rfl⟩
          apply wr_nil
          exact ⟨rfl, Keeps.refl _ _⟩
        focus (intro xx yy h; rfl)
        focus kernel_rfl
        apply chP_pure
        focus
          intro xx w' hk hF
          apply wr_move; exact rfl; with_reducible (conv => enter [6, 3]; whnf)
          apply wr_nil
          exact ⟨rfl, Keeps.refl _ _⟩
        focus (intro xx yy h; rfl)
        focus kernel_rfl
        apply chP_pure
        focus
          intro xx w' hk hF
          first
          | (refine wr_skip rfl ?_; apply wr_nil; exact ⟨rfl, Keeps.refl _ _⟩)
          | ((apply wr_move; exact rfl; with_reducible (conv => enter [6, 3]; whnf)); apply wr_nil; exact ⟨rfl, Keeps.refl _ _⟩)
        focus (intro xx yy h; rfl)
        focus kernel_rfl
        apply chP_pure
        focus
          intro xx w' hk hF
          first
          | (refine wr_skip rfl ?_; apply wr_nil; exact ⟨rfl, Keeps.refl _ _⟩)
          | ((apply wr_len_slice; iterate 2 exact rfl); apply wr_nil; exact ⟨rfl, Keeps.refl _ _⟩)
        focus (intro xx yy h; rfl)
        focus kernel_rfl
        apply chP_pure
        focus
          intro xx w' hk hF
          first
          | (refine wr_skip rfl ?_; apply wr_nil; exact ⟨rfl, Keeps.refl _ _⟩)
          | ((refine wr_cmp (c := decide (hv.length ≤ 64)) rfl rfl rfl (by rcases Decidable.em (hv.length ≤ 64) with h64 | h64; (rw [decide_eq_true h64]; exact cmpT (by dsimp only [cmpP]; omega)); (rw [decide_eq_false h64]; exact cmpF (by dsimp only [cmpN]; omega))) ?_); apply wr_nil; exact ⟨rfl, Keeps.refl _ _⟩)
        focus (intro xx yy h; rfl)
        focus kernel_rfl
        apply chP_pure
        focus
          intro xx w' hk hF
          first
          | (apply wr_pick (t := true); (iterate 2 exact rfl); with_reducible (conv => enter [6, 3]; whnf); apply wr_nil; exact ⟨rfl, Keeps.refl _ _⟩)
          | (apply wr_pick (t := false); (iterate 2 exact rfl); with_reducible (conv => enter [6, 3]; whnf); apply wr_nil; exact ⟨rfl, Keeps.refl _ _⟩)
        focus (intro xx yy h; rfl)
        focus kernel_rfl
        apply chP_pure
        focus
          intro xx w' hk hF
          refine wr_call (vs := [.bool (false), .int .i64 4]) rfl (need_ca (false) 4 w') rfl ?_
          rintro v w'' ⟨rfl, rfl⟩
          apply wr_nil
          exact ⟨rfl, Keeps.refl _ _⟩
        focus (intro xx yy h; rfl)
        focus kernel_rfl
        refine chP_fact (fun y => .slice (some ⟨blkOf y, 0, none⟩) 3 3) (fun y w' => w'.heap[blkOf y]? = some (.cells #[erV (errOf (typedB k) 1), erV (errOf (!sameP (ta, tl) W) 5), erV (errOf (false) 4)] 97 (0, 0))) (fun y w' w'' h k => k.heap h (fun h => h)) ?_ ?_
        focus
          intro xx w' hk hF
          refine wr_buildSlice (vs := [erV (errOf (typedB k) 1), erV (errOf (!sameP (ta, tl) W) 5), erV (errOf (false) 4)]) rfl rfl (by intro v hv; simp at hv; rcases hv with rfl | rfl | rfl <;> exact er_size _) rfl (by decide) (by decide) (by decide) ?_
          apply wr_nil
          exact ⟨.pointer (some ⟨w'.heap.size, 0, none⟩), rfl, (by rw [← er3]; exact heap_alloc_same _ _), (Keeps.refl _ _).alloc _⟩
        apply chP_pure
        focus
          intro xx w' hk hF
          refine wr_call (vs := [.slice (some ⟨blkOf (xx 25), 0, none⟩) 3 3]) rfl (first_ca [errOf (typedB k) 1, errOf (!sameP (ta, tl) W) 5, errOf (false) 4] (by simp) (blkOf (xx 25)) _ _ w' (hF 25 (by kernel_rfl))) rfl ?_
          rintro v w'' ⟨rfl, rfl⟩
          apply wr_nil
          exact ⟨rfl, Keeps.refl _ _⟩
        focus (intro xx yy h; rfl)
        focus kernel_rfl
        apply chP_pure
        focus
          intro xx w' hk hF
          apply wr_assign; exact rfl; with_reducible (conv => enter [6, 3]; whnf)
          apply wr_nil
          exact ⟨rfl, Keeps.refl _ _⟩
        focus (intro xx yy h; rfl)
        focus kernel_rfl
        refine chP_nil ?_
        intro yy w11 hk11' hF
        have hk11 := hk0 hk11'
        clear hF
        have hkf11 := hkf10.trans hk11
        have hc111 := hk11.heap hc110 (fun h => h)
        have hc211 := hk11.heap hc210 (fun h => h)
        have hc311 := hk11.heap hc310 (fun h => h)
        have hc411 := hk11.heap hc410 (fun h => h)
        have hc911 := hk11.heap hc910 (fun h => h)
        rw [show firstO _ = er from heq.symm]
        (repeat first | (apply wr_move; exact rfl; with_reducible (conv => enter [6, 3]; whnf)) | apply wr_end | apply wc_seq | apply wc_region)
        refine wr_bin rfl rfl rfl (by cases er <;> simp [eqGuard, erV]) (run_neEr er _) ?_
        cases er with
        | some e =>
          have hc1d : w11.drew.heap[bw1]? = _ := hc111
          have hED : ∀ {w'}, Keeps (fun q => q = bw3 ∨ q = bw4) w11.drew w' → ErrT w' := fun hk => by
            obtain ⟨T, fr, hg⟩ := hE
            have hl := lt_of_heap hg
            exact ⟨T, fr, hk.heap (hkf11.heap hg (fun h => h)) (fun e => by omega)⟩
          (repeat first | apply wr_end | apply wc_seq | (apply wc_true; exact rfl))
          refine V.L.wc_drawL (l := _) (V.L.duo w11.drew 4 5 bw3 bw4 (.cells (GCl (newC false)).toArray 32 (0, 0)) (.cells zeroRq.toArray 42 (0, 0)) (.cells (GCl c).toArray 32 (0, 0)) (.cells zeroRq.toArray 42 (0, 0))) (by kernel_rfl) (by kernel_rfl) ⟨Keeps.refl _ _, hc311, hc411⟩ ?_
          apply V.L.ch_step
          focus
            apply V.L.duo_read rfl rfl
            intro w hk
            refine wr_loadAll (cs := GCl c) rfl rfl rfl (hk.heap hc1d (fun e => by omega)) (GCl_len h.len) ?_
            apply wr_nil
            exact ⟨rfl, Keeps.refl _ _⟩
          apply V.L.ch_step
          focus
            apply V.L.duo_read rfl rfl
            intro w hk
            refine wr_build (ps := []) (cs := zeroRq) rfl rfl rfl rfl ?_
            apply wr_nil
            exact ⟨rfl, Keeps.refl _ _⟩
          apply V.L.ch_step
          focus
            apply V.L.duo_read rfl rfl
            intro w hk
            apply wr_move; exact rfl; with_reducible (conv => enter [6, 3]; whnf)
            apply wr_nil
            exact ⟨rfl, Keeps.refl _ _⟩
          apply V.L.ch_step
          focus
            apply V.L.duo_read rfl rfl
            intro w hk
            refine wr_call (vs := [erV (some e)]) rfl (told_ca (some e) w (hED hk)) rfl ?_
            rintro v w' ⟨rfl, hk'⟩
            apply wr_nil
            exact ⟨rfl, hk'⟩
          apply V.L.ch_step
          focus
            apply V.L.duo_st1 (by omega) rfl
            intro w hk hb
            refine wr_storeAll (cs := GCl c) rfl rfl rfl (GCl_one h) hb (GCl_len h.len) rfl ?_
            apply wr_nil
            exact ⟨rfl, rfl⟩
          apply V.L.ch_step
          focus
            apply V.L.duo_st2 (by omega) rfl
            intro w hk hb
            refine wr_storeAll (cs := zeroRq) rfl rfl rfl zeroRq_one hb rfl rfl ?_
            apply wr_nil
            exact ⟨rfl, rfl⟩
          apply V.L.ch_step
          focus
            apply V.L.duo_read rfl rfl
            intro w hk
            apply wr_assign; exact rfl; with_reducible (conv => enter [6, 3]; whnf)
            apply wr_nil
            exact ⟨rfl, Keeps.refl _ _⟩
          refine V.L.ch_nil ?_
          intro w12 hS
          obtain ⟨hk12, hc312, hc412⟩ := V.L.duo_end hS (by kernel_rfl) (by kernel_rfl)
          (repeat first | (apply wc_ret; try simp only [thenE, inBlockE, bodyQ]))
          exact leaveN (vs := [CliV c, .agg zeroRq.toArray, .int .i64 e]) (resv_cells (cs := GCl c) (e := 32) (fr := (0, 0)) rfl rfl hc312 (GCl_len h.len) (resv_cells (cs := zeroRq) (e := 42) (fr := (0, 0)) rfl rfl hc412 rfl (resv_tmp rfl resv_nil))) ⟨.inl ⟨e, by trivial, rfl⟩, hkf11.drew.trans' hk12 (fun i hi e => by rcases e with e | e <;> omega)⟩
        | none =>
          exact absurd heq.symm (firstO_last _ _ _ _ _)
    | false =>
      cases hsh : (decide ((listP W).length ≤ 64) && (decide ((listP (lessP W (ta, tl))).length ≤ 64) && (decide ((listP (lessP (ta, tl) W)).length ≤ 64) && true))) with
      | true =>
        have heq : er = firstO [errOf (typedB k) 1, errOf true 5, errOf (decide (hv.length ≤ 64)) 4] := by
          rw [her]
          simp only [moreL, lessL, hd, if_true]
          rw [hsh]
          simp only [Bool.not_false, Bool.true_or, Bool.true_and]
        refine wc_drawP (l := _) 28 _ (by kernel_rfl) (by kernel_rfl) rfl (by kernel_rfl) (by kernel_rfl) (by decide) ?_
        apply chP_pure
        focus
          intro xx w' hk hF
          apply wr_move; exact rfl; with_reducible (conv => enter [6, 3]; whnf)
          apply wr_nil
          exact ⟨rfl, Keeps.refl _ _⟩
        focus (intro xx yy h; rfl)
        focus kernel_rfl
        apply chP_pure
        focus
          intro xx w' hk hF
          refine wr_call (vs := [.int .i64 k]) rfl (typed_ca k w') rfl ?_
          rintro v w'' ⟨rfl, rfl⟩
          apply wr_nil
          exact ⟨rfl, Keeps.refl _ _⟩
        focus (intro xx yy h; rfl)
        focus kernel_rfl
        apply chP_pure
        focus
          intro xx w' hk hF
          refine wr_call (vs := [.bool (typedB k), .int .i64 1]) rfl (need_ca (typedB k) 1 w') rfl ?_
          rintro v w'' ⟨rfl, rfl⟩
          apply wr_nil
          exact ⟨rfl, Keeps.refl _ _⟩
        focus (intro xx yy h; rfl)
        focus kernel_rfl
        apply chP_pure
        focus
          intro xx w' hk hF
          refine wr_fieldAddr rfl rfl ?_
          apply wr_nil
          exact ⟨rfl, Keeps.refl _ _⟩
        focus (intro xx yy h; rfl)
        focus kernel_rfl
        apply chP_pure
        focus
          intro xx w' hk hF
          refine wr_load (v := .bool false) rfl rfl rfl ((hk0 hk).heap hc910 (fun h => h)) rfl ?_
          apply wr_nil
          exact ⟨rfl, Keeps.refl _ _⟩
        focus (intro xx yy h; rfl)
        focus kernel_rfl
        apply chP_pure
        focus
          intro xx w' hk hF
          apply wr_not; iterate 2 exact rfl
          apply wr_nil
          exact ⟨rfl, Keeps.refl _ _⟩
        focus (intro xx yy h; rfl)
        focus kernel_rfl
        apply chP_pure
        focus
          intro xx w' hk hF
          apply wr_move; exact rfl; with_reducible (conv => enter [6, 3]; whnf)
          apply wr_nil
          exact ⟨rfl, Keeps.refl _ _⟩
        focus (intro xx yy h; rfl)
        focus kernel_rfl
        apply chP_pure
        focus
          intro xx w' hk hF
          first
          | (refine wr_skip rfl ?_; apply wr_nil; exact ⟨rfl, Keeps.refl _ _⟩)
          | ((refine wr_fieldAddr rfl rfl ?_); apply wr_nil; exact ⟨rfl, Keeps.refl _ _⟩)
        focus (intro xx yy h; rfl)
        focus kernel_rfl
        apply chP_pure
        focus
          intro xx w' hk hF
          first
          | (refine wr_skip rfl ?_; apply wr_nil; exact ⟨rfl, Keeps.refl _ _⟩)
          | ((refine wr_loadAgg (cs := [.bool ta, tv]) rfl rfl rfl rfl (fun q u hq => cell_of_heap ((hk0 hk).heap hc910 (fun h => h)) (by match q, hq with | 0, hq => exact hq | 1, hq => exact hq | q + 2, hq => simp at hq)) ?_); apply wr_nil; exact ⟨rfl, Keeps.refl _ _⟩)
        focus (intro xx yy h; rfl)
        focus kernel_rfl
        apply chP_pure
        focus
          intro xx w' hk hF
          first
          | (refine wr_skip rfl ?_; apply wr_nil; exact ⟨rfl, Keeps.refl _ _⟩)
          | ((refine wr_loadAll (cs := [.bool W.1, nv]) rfl rfl rfl ((hk0 hk).heap hc210 (fun h => h)) rfl ?_); apply wr_nil; exact ⟨rfl, Keeps.refl _ _⟩)
        focus (intro xx yy h; rfl)
        focus kernel_rfl
        apply chP_pure
        focus
          intro xx w' hk hF
          first
          | (refine wr_skip rfl ?_; apply wr_nil; exact ⟨rfl, Keeps.refl _ _⟩)
          | (refine wr_call (vs := [SetV ta tv, SetV W.1 nv]) rfl (same_ca (ta, tl) W _ _ w' (htR10 (hk0 hk)) (hWR10 (hk0 hk)) hta.2.1 hWl) rfl ?_; rintro v w'' ⟨rfl, hkc⟩; apply wr_nil; exact ⟨rfl, hkc⟩)
        focus (intro xx yy h; rfl)
        focus kernel_rfl
        apply chP_pure
        focus
          intro xx w' hk hF
          first
          | (refine wr_skip rfl ?_; apply wr_nil; exact ⟨rfl, Keeps.refl _ _⟩)
          | ((apply wr_not; iterate 2 exact rfl); apply wr_nil; exact ⟨rfl, Keeps.refl _ _⟩)
        focus (intro xx yy h; rfl)
        focus kernel_rfl
        apply chP_pure
        focus
          intro xx w' hk hF
          first
          | (apply wr_pick (t := true); (iterate 2 exact rfl); with_reducible (conv => enter [6, 3]; whnf); apply wr_nil; exact ⟨rfl, Keeps.refl _ _⟩)
          | (apply wr_pick (t := false); (iterate 2 exact rfl); with_reducible (conv => enter [6, 3]; whnf); apply wr_nil; exact ⟨rfl, Keeps.refl _ _⟩)
        focus (intro xx yy h; rfl)
        focus kernel_rfl
        apply chP_pure
        focus
          intro xx w' hk hF
          refine wr_call (vs := [.bool (true), .int .i64 5]) rfl (need_ca (true) 5 w') rfl ?_
          rintro v w'' ⟨rfl, rfl⟩
          apply wr_nil
          exact ⟨rfl, Keeps.refl _ _⟩
        focus (intro xx yy h; rfl)
        focus kernel_rfl
        apply chP_pure
        focus
          intro xx w' hk hF
          apply wr_move; exact rfl; with_reducible (conv => enter [6, 3]; whnf)
          apply wr_nil
          exact ⟨rfl, Keeps.refl _ _⟩
        focus (intro xx yy h; rfl)
        focus kernel_rfl
        apply chP_pure
        focus
          intro xx w' hk hF
          apply wr_move; exact rfl; with_reducible (conv => enter [6, 3]; whnf)
          apply wr_nil
          exact ⟨rfl, Keeps.refl _ _⟩
        focus (intro xx yy h; rfl)
        focus kernel_rfl
        apply chP_pure
        focus
          intro xx w' hk hF
          apply wr_move; exact rfl; with_reducible (conv => enter [6, 3]; whnf)
          apply wr_nil
          exact ⟨rfl, Keeps.refl _ _⟩
        focus (intro xx yy h; rfl)
        focus kernel_rfl
        refine chP_fact (fun y => .slice (some ⟨blkOf y, 0, none⟩) 3 3) (fun y w' => w'.heap[blkOf y]? = some (.cells #[.slice aa (listP W).length ac, .slice ma (listP (lessP W (ta, tl))).length mc, .slice la (listP (lessP (ta, tl) W)).length lc] 24 (0, 0))) (fun y w' w'' h k => k.heap h (fun h => h)) ?_ ?_
        focus
          intro xx w' hk hF
          refine wr_buildSlice (vs := [.slice aa (listP W).length ac, .slice ma (listP (lessP W (ta, tl))).length mc, .slice la (listP (lessP (ta, tl) W)).length lc]) rfl rfl (by intro v hv; simp at hv; rcases hv with rfl | rfl | rfl <;> rfl) rfl (by decide) (by decide) (by decide) ?_
          apply wr_nil
          exact ⟨.pointer (some ⟨w'.heap.size, 0, none⟩), rfl, heap_alloc_same _ _, (Keeps.refl _ _).alloc _⟩
        apply chP_pure
        focus
          intro xx w' hk hF
          refine wr_call (vs := [.slice (some ⟨blkOf (xx 17), 0, none⟩) 3 3]) rfl (shortX_ca (b := true) [(.slice aa (listP W).length ac, (listP W).length), (.slice ma (listP (lessP W (ta, tl))).length mc, (listP (lessP W (ta, tl))).length), (.slice la (listP (lessP (ta, tl) W)).length lc, (listP (lessP (ta, tl) W)).length)] (hsh) (by simp) (by intro x hx; simp at hx; rcases hx with rfl | rfl | rfl <;> exact ⟨_, _, rfl⟩) (blkOf (xx 17)) _ _ w' (hF 17 (by kernel_rfl))) rfl ?_
          rintro v w'' ⟨rfl, rfl⟩
          apply wr_nil
          exact ⟨rfl, Keeps.refl _ _⟩
        focus (intro xx yy h; rfl)
        focus kernel_rfl
        apply chP_pure
        focus
          intro xx w' hk hF
          apply wr_move; exact rfl; with_reducible (conv => enter [6, 3]; whnf)
          apply wr_nil
          exact ⟨rfl, Keeps.refl _ _⟩
        focus (intro xx yy h; rfl)
        focus kernel_rfl
        apply chP_pure
        focus
          intro xx w' hk hF
          first
          | (refine wr_skip rfl ?_; apply wr_nil; exact ⟨rfl, Keeps.refl _ _⟩)
          | ((apply wr_move; exact rfl; with_reducible (conv => enter [6, 3]; whnf)); apply wr_nil; exact ⟨rfl, Keeps.refl _ _⟩)
        focus (intro xx yy h; rfl)
        focus kernel_rfl
        apply chP_pure
        focus
          intro xx w' hk hF
          first
          | (refine wr_skip rfl ?_; apply wr_nil; exact ⟨rfl, Keeps.refl _ _⟩)
          | ((apply wr_len_slice; iterate 2 exact rfl); apply wr_nil; exact ⟨rfl, Keeps.refl _ _⟩)
        focus (intro xx yy h; rfl)
        focus kernel_rfl
        apply chP_pure
        focus
          intro xx w' hk hF
          first
          | (refine wr_skip rfl ?_; apply wr_nil; exact ⟨rfl, Keeps.refl _ _⟩)
          | ((refine wr_cmp (c := decide (hv.length ≤ 64)) rfl rfl rfl (by rcases Decidable.em (hv.length ≤ 64) with h64 | h64; (rw [decide_eq_true h64]; exact cmpT (by dsimp only [cmpP]; omega)); (rw [decide_eq_false h64]; exact cmpF (by dsimp only [cmpN]; omega))) ?_); apply wr_nil; exact ⟨rfl, Keeps.refl _ _⟩)
        focus (intro xx yy h; rfl)
        focus kernel_rfl
        apply chP_pure
        focus
          intro xx w' hk hF
          first
          | (apply wr_pick (t := true); (iterate 2 exact rfl); with_reducible (conv => enter [6, 3]; whnf); apply wr_nil; exact ⟨rfl, Keeps.refl _ _⟩)
          | (apply wr_pick (t := false); (iterate 2 exact rfl); with_reducible (conv => enter [6, 3]; whnf); apply wr_nil; exact ⟨rfl, Keeps.refl _ _⟩)
        focus (intro xx yy h; rfl)
        focus kernel_rfl
        apply chP_pure
        focus
          intro xx w' hk hF
          refine wr_call (vs := [.bool (decide (hv.length ≤ 64)), .int .i64 4]) rfl (need_ca (decide (hv.length ≤ 64)) 4 w') rfl ?_
          rintro v w'' ⟨rfl, rfl⟩
          apply wr_nil
          exact ⟨rfl, Keeps.refl _ _⟩
        focus (intro xx yy h; rfl)
        focus kernel_rfl
        refine chP_fact (fun y => .slice (some ⟨blkOf y, 0, none⟩) 3 3) (fun y w' => w'.heap[blkOf y]? = some (.cells #[erV (errOf (typedB k) 1), erV (errOf (true) 5), erV (errOf (decide (hv.length ≤ 64)) 4)] 97 (0, 0))) (fun y w' w'' h k => k.heap h (fun h => h)) ?_ ?_
        focus
          intro xx w' hk hF
          refine wr_buildSlice (vs := [erV (errOf (typedB k) 1), erV (errOf (true) 5), erV (errOf (decide (hv.length ≤ 64)) 4)]) rfl rfl (by intro v hv; simp at hv; rcases hv with rfl | rfl | rfl <;> exact er_size _) rfl (by decide) (by decide) (by decide) ?_
          apply wr_nil
          exact ⟨.pointer (some ⟨w'.heap.size, 0, none⟩), rfl, (by rw [← er3]; exact heap_alloc_same _ _), (Keeps.refl _ _).alloc _⟩
        apply chP_pure
        focus
          intro xx w' hk hF
          refine wr_call (vs := [.slice (some ⟨blkOf (xx 25), 0, none⟩) 3 3]) rfl (first_ca [errOf (typedB k) 1, errOf (true) 5, errOf (decide (hv.length ≤ 64)) 4] (by simp) (blkOf (xx 25)) _ _ w' (hF 25 (by kernel_rfl))) rfl ?_
          rintro v w'' ⟨rfl, rfl⟩
          apply wr_nil
          exact ⟨rfl, Keeps.refl _ _⟩
        focus (intro xx yy h; rfl)
        focus kernel_rfl
        apply chP_pure
        focus
          intro xx w' hk hF
          apply wr_assign; exact rfl; with_reducible (conv => enter [6, 3]; whnf)
          apply wr_nil
          exact ⟨rfl, Keeps.refl _ _⟩
        focus (intro xx yy h; rfl)
        focus kernel_rfl
        refine chP_nil ?_
        intro yy w11 hk11' hF
        have hk11 := hk0 hk11'
        clear hF
        have hkf11 := hkf10.trans hk11
        have hc111 := hk11.heap hc110 (fun h => h)
        have hc211 := hk11.heap hc210 (fun h => h)
        have hc311 := hk11.heap hc310 (fun h => h)
        have hc411 := hk11.heap hc410 (fun h => h)
        have hc911 := hk11.heap hc910 (fun h => h)
        rw [show firstO _ = er from heq.symm]
        (repeat first | (apply wr_move; exact rfl; with_reducible (conv => enter [6, 3]; whnf)) | apply wr_end | apply wc_seq | apply wc_region)
        refine wr_bin rfl rfl rfl (by cases er <;> simp [eqGuard, erV]) (run_neEr er _) ?_
        cases er with
        | some e =>
          have hc1d : w11.drew.heap[bw1]? = _ := hc111
          have hED : ∀ {w'}, Keeps (fun q => q = bw3 ∨ q = bw4) w11.drew w' → ErrT w' := fun hk => by
            obtain ⟨T, fr, hg⟩ := hE
            have hl := lt_of_heap hg
            exact ⟨T, fr, hk.heap (hkf11.heap hg (fun h => h)) (fun e => by omega)⟩
          (repeat first | apply wr_end | apply wc_seq | (apply wc_true; exact rfl))
          refine V.L.wc_drawL (l := _) (V.L.duo w11.drew 4 5 bw3 bw4 (.cells (GCl (newC false)).toArray 32 (0, 0)) (.cells zeroRq.toArray 42 (0, 0)) (.cells (GCl c).toArray 32 (0, 0)) (.cells zeroRq.toArray 42 (0, 0))) (by kernel_rfl) (by kernel_rfl) ⟨Keeps.refl _ _, hc311, hc411⟩ ?_
          apply V.L.ch_step
          focus
            apply V.L.duo_read rfl rfl
            intro w hk
            refine wr_loadAll (cs := GCl c) rfl rfl rfl (hk.heap hc1d (fun e => by omega)) (GCl_len h.len) ?_
            apply wr_nil
            exact ⟨rfl, Keeps.refl _ _⟩
          apply V.L.ch_step
          focus
            apply V.L.duo_read rfl rfl
            intro w hk
            refine wr_build (ps := []) (cs := zeroRq) rfl rfl rfl rfl ?_
            apply wr_nil
            exact ⟨rfl, Keeps.refl _ _⟩
          apply V.L.ch_step
          focus
            apply V.L.duo_read rfl rfl
            intro w hk
            apply wr_move; exact rfl; with_reducible (conv => enter [6, 3]; whnf)
            apply wr_nil
            exact ⟨rfl, Keeps.refl _ _⟩
          apply V.L.ch_step
          focus
            apply V.L.duo_read rfl rfl
            intro w hk
            refine wr_call (vs := [erV (some e)]) rfl (told_ca (some e) w (hED hk)) rfl ?_
            rintro v w' ⟨rfl, hk'⟩
            apply wr_nil
            exact ⟨rfl, hk'⟩
          apply V.L.ch_step
          focus
            apply V.L.duo_st1 (by omega) rfl
            intro w hk hb
            refine wr_storeAll (cs := GCl c) rfl rfl rfl (GCl_one h) hb (GCl_len h.len) rfl ?_
            apply wr_nil
            exact ⟨rfl, rfl⟩
          apply V.L.ch_step
          focus
            apply V.L.duo_st2 (by omega) rfl
            intro w hk hb
            refine wr_storeAll (cs := zeroRq) rfl rfl rfl zeroRq_one hb rfl rfl ?_
            apply wr_nil
            exact ⟨rfl, rfl⟩
          apply V.L.ch_step
          focus
            apply V.L.duo_read rfl rfl
            intro w hk
            apply wr_assign; exact rfl; with_reducible (conv => enter [6, 3]; whnf)
            apply wr_nil
            exact ⟨rfl, Keeps.refl _ _⟩
          refine V.L.ch_nil ?_
          intro w12 hS
          obtain ⟨hk12, hc312, hc412⟩ := V.L.duo_end hS (by kernel_rfl) (by kernel_rfl)
          (repeat first | (apply wc_ret; try simp only [thenE, inBlockE, bodyQ]))
          exact leaveN (vs := [CliV c, .agg zeroRq.toArray, .int .i64 e]) (resv_cells (cs := GCl c) (e := 32) (fr := (0, 0)) rfl rfl hc312 (GCl_len h.len) (resv_cells (cs := zeroRq) (e := 42) (fr := (0, 0)) rfl rfl hc412 rfl (resv_tmp rfl resv_nil))) ⟨.inl ⟨e, by trivial, rfl⟩, hkf11.drew.trans' hk12 (fun i hi e => by rcases e with e | e <;> omega)⟩
        | none =>
          have hl64 : hv.length ≤ 64 := by
            rcases Decidable.em (hv.length ≤ 64) with h | h
            · exact h
            · rw [decide_eq_false h] at heq
              exact absurd heq.symm (firstO_last _ _ _ _ _)
          (repeat first | (apply wr_move; exact rfl; with_reducible (conv => enter [6, 3]; whnf)) | apply wr_end | apply wc_seq | apply wc_region | apply wc_skip | (apply wr_fieldAddr; iterate 2 exact rfl) | (apply wr_load; (iterate 3 exact rfl); (focus repeat first | with_reducible assumption | exact heap_alloc_same _ _ | exact World.putObj_heap_same (by first | omega | (simp only [World.size_alloc, World.putObj_size, ne_eq]; omega)) | ((first | refine hAl ?_ ?_ | refine hPu ?_ ?_); focus first | omega | (simp only [World.size_alloc, World.putObj_size, ne_eq]; omega))); exact rfl; conv => enter [6, 3]; whnf) | (apply wc_false; exact rfl))
          refine wr_build (ps := [(0, .int .i64 k), (1, .bool c.1), (2, .int .u64 (no : Int)), (3, .slice aa (listP W).length ac)]) (cs := GRq k c.1 no (.slice aa (listP W).length ac) nilV nilV []) rfl rfl rfl rfl ?_
          (repeat first | (apply wr_alloc; exact rfl))
          refine wr_storeAll (cs := GRq k c.1 no (.slice aa (listP W).length ac) nilV nilV []) rfl rfl rfl (GRq_one rfl rfl rfl) (heap_alloc_same _ _) rfl rfl ?_
          refine wr_name ?_
          intro w12 hww12
          obtain ⟨bw12, hbw12⟩ : ∃ b, b = (w11).heap.size := ⟨_, rfl⟩
          have hkw12 : Keeps NoB w11 w12 := by rw [hww12]; exact ((Keeps.refl NoB w11).alloc _).put _ (fun h => by omega)
          have hcw12 : (w12).heap[bw12]? = some (.cells (GRq k c.1 no (.slice aa (listP W).length ac) nilV nilV []).toArray 42 (0, 0)) := by rw [hww12, hbw12]; exact World.putObj_heap_same (by simp)
          rw [← hbw12]
          clear hww12
          have hc112 := hkw12.heap hc111 (fun h => h)
          have hc212 := hkw12.heap hc211 (fun h => h)
          have hc312 := hkw12.heap hc311 (fun h => h)
          have hc412 := hkw12.heap hc411 (fun h => h)
          have hc912 := hkw12.heap hc911 (fun h => h)
          have hkf12 := hkf11.trans hkw12
          have hl11 := lt_of_heap hc411
          have hl911 := lt_of_heap hc911
          have hall12 := own_keep hall (hk11.trans hkw12) (fun _ _ h => h)
          have hmore12 := own_keep hmore (hk11.trans hkw12) (fun _ _ h => h)
          have hless12 := own_keep hless (hk11.trans hkw12) (fun _ _ h => h)
          (repeat first | apply wr_end | apply wc_seq | apply wc_region | (apply wr_fieldAddr; iterate 2 exact rfl) | (apply wr_load; (iterate 3 exact rfl); (focus repeat first | with_reducible assumption | exact heap_alloc_same _ _ | exact World.putObj_heap_same (by first | omega | (simp only [World.size_alloc, World.putObj_size, ne_eq]; omega)) | ((first | refine hAl ?_ ?_ | refine hPu ?_ ?_); focus first | omega | (simp only [World.size_alloc, World.putObj_size, ne_eq]; omega))); exact rfl; conv => enter [6, 3]; whnf))
          rw [hd]
          (repeat first | (apply wr_move; exact rfl; with_reducible (conv => enter [6, 3]; whnf)) | apply wc_seq | apply wc_region | (apply wr_fieldAddr; iterate 2 exact rfl) | (apply wr_store; (iterate 3 exact rfl); (first | exact rfl | with_reducible assumption); (focus repeat first | with_reducible assumption | exact heap_alloc_same _ _ | exact World.putObj_heap_same (by first | omega | (simp only [World.size_alloc, World.putObj_size, ne_eq]; omega)) | ((first | refine hAl ?_ ?_ | refine hPu ?_ ?_); focus first | omega | (simp only [World.size_alloc, World.putObj_size, ne_eq]; omega))); exact rfl) | (apply wc_true; exact rfl))
          generalize hww13 : World.putObj w12 _ _ = w13
          have hcw13 : (w13).heap[bw12]? = some (.cells (GRq k c.1 0 (.slice aa (listP W).length ac) nilV nilV []).toArray 42 (0, 0)) := by rw [← hww13]; exact World.putObj_heap_same (lt_of_heap hcw12)
          have hkw13 : Keeps (· = bw12) w12 w13 := by rw [← hww13]; exact (Keeps.refl _ w12).put _ (fun _ => rfl)
          clear hww13
          (repeat first | (apply wr_fieldAddr; iterate 2 exact rfl) | (apply wr_store; (iterate 3 exact rfl); (first | exact rfl | with_reducible assumption); (focus repeat first | with_reducible assumption | exact heap_alloc_same _ _ | exact World.putObj_heap_same (by first | omega | (simp only [World.size_alloc, World.putObj_size, ne_eq]; omega)) | ((first | refine hAl ?_ ?_ | refine hPu ?_ ?_); focus first | omega | (simp only [World.size_alloc, World.putObj_size, ne_eq]; omega))); exact rfl))
          generalize hww14 : World.putObj w13 _ _ = w14
          have hcw14 : (w14).heap[bw12]? = some (.cells (GRq k c.1 0 (.slice ma (listP (lessP W (ta, tl))).length mc) nilV nilV []).toArray 42 (0, 0)) := by rw [← hww14]; exact World.putObj_heap_same (lt_of_heap hcw13)
          have hkw14 : Keeps (· = bw12) w13 w14 := by rw [← hww14]; exact (Keeps.refl _ w13).put _ (fun _ => rfl)
          clear hww14
          (repeat first | (apply wr_move; exact rfl; with_reducible (conv => enter [6, 3]; whnf)) | apply wr_end | apply wc_seq | apply wc_region | apply wc_block | (apply wr_len_slice; iterate 2 exact rfl) | (apply wr_store; (iterate 3 exact rfl); (first | exact rfl | with_reducible assumption); (focus repeat first | with_reducible assumption | exact heap_alloc_same _ _ | exact World.putObj_heap_same (by first | omega | (simp only [World.size_alloc, World.putObj_size, ne_eq]; omega)) | ((first | refine hAl ?_ ?_ | refine hPu ?_ ?_); focus first | omega | (simp only [World.size_alloc, World.putObj_size, ne_eq]; omega))); exact rfl))
          generalize hww15 : World.putObj w14 _ _ = w15
          have hcw15 : (w15).heap[bw12]? = some (.cells (GRq k c.1 0 (.slice ma (listP (lessP W (ta, tl))).length mc) (.slice la (listP (lessP (ta, tl) W)).length lc) nilV []).toArray 42 (0, 0)) := by rw [← hww15]; exact World.putObj_heap_same (lt_of_heap hcw14)
          have hkw15 : Keeps (· = bw12) w14 w15 := by rw [← hww15]; exact (Keeps.refl _ w14).put _ (fun _ => rfl)
          clear hww15
          have hk1215 := (hkw13.trans hkw14).trans hkw15
          have hk15 : Keeps NoB w w15 := hkf12.trans' hk1215 (fun i hi e => by omega)
          have hl12 : bw12 < w15.heap.size := lt_of_heap hcw15
          have hl1211 : w11.heap.size ≤ bw12 := by omega
          have hc115 := hk1215.heap hc112 (fun e => by omega)
          have hc215 := hk1215.heap hc212 (fun e => by omega)
          have hc315 := hk1215.heap hc312 (fun e => by omega)
          have hc415 := hk1215.heap hc412 (fun e => by omega)
          have hc915 := hk1215.heap hc912 (fun e => by omega)
          have hnv15 : w15.ownsRow n4 9 1 nv W.2.length (SL W.2) := own_keep (own_keep hnv9 ((hk10.trans hk11).trans hkw12) (fun _ _ h => h)) hk1215 (fun q hq e => own_neT (own_keep hnv9 ((hk10.trans hk11).trans hkw12) (fun _ _ h => h)) hcw12 (by decide) q hq e)
          have hmore15 := own_keep hmore12 hk1215 (fun q hq e => own_neT hmore12 hcw12 (by decide) q hq e)
          have hless15 := own_keep hless12 hk1215 (fun q hq e => own_neT hless12 hcw12 (by decide) q hq e)
          skip
          refine wc_loopL (α := Nat × Value × List HV) (fun p => [(1, .int .i64 k), (4, .pointer (some ⟨bw1, 0, none⟩)), (6, .pointer (some ⟨bw2, 0, none⟩)), (8, .pointer (some ⟨bw3, 0, none⟩)), (9, .pointer (some ⟨bw4, 0, none⟩)), (11, .pointer (some ⟨bw9, 0, none⟩)), (16, .pointer (some ⟨bw12, 0, none⟩)), (87, .slice ha hv.length hc), (88, .int .i64 (hv.length : Int)), (89, .int .i64 (p.1 : Int))])
            (fun p ds w' => ds = [] ∧ p.1 ≤ hv.length ∧ p.2.2 = (if false = true then [] else (hv.take p.1).filter fun h => hasP W h.1) ∧ w'.ownsRow w15.heap.size 55 2 p.2.1 p.2.2.length (p.2.2.flatMap GHv) ∧ w'.heap[bw12]? = some (.cells (GRq k c.1 0 (.slice ma (listP (lessP W (ta, tl))).length mc) (.slice la (listP (lessP (ta, tl) W)).length lc) p.2.1 []).toArray 42 (0, 0)) ∧ Keeps (· = bw12) w15 w')
            (fun p => hv.length - p.1) (0, nilV, []) ⟨rfl, Nat.zero_le _, by simp, own_nilV _ _ _ _, hcw15, Keeps.refl _ _⟩ ⟨rfl, rfl, rfl, rfl, rfl, rfl, rfl, rfl, rfl, rfl, trivial⟩ ?_
          rintro ⟨i, hvl, hl⟩ ds f1 w16 ⟨rfl, hi, hlq, hown, hc16, hk16⟩
          dsimp only at hi hlq hown hc16 ⊢
          have hc116 := hk16.heap hc115 (fun e => by omega)
          have hc216 := hk16.heap hc215 (fun e => by omega)
          have hc916 := hk16.heap hc915 (fun e => by omega)
          by_cases hin : i < hv.length
          · obtain ⟨x, hx⟩ : ∃ x, hv[i]? = some x := ⟨hv[i], by simp [hin]⟩
            obtain ⟨hb0, ho0, rfl, cur, ee, fr, hvb, hvr⟩ := hhm (by omega)
            have hkb : Keeps NoB w w16 := hk15.trans' hk16 (fun i hi e => by omega)
            have htake : hv.take (i + 1) = hv.take i ++ [x] := by rw [List.take_add_one, hx]; rfl
            (repeat first | apply wr_end | apply wc_seq | apply wc_region | apply wc_skip | apply wc_block | (apply wr_cmp; (iterate 3 exact rfl); exact cmpT (by dsimp only [cmpP]; first | done | omega)) | (apply wc_true; exact rfl))
            refine wr_indexAddr (i := i) rfl rfl rfl hin ?_
            refine wr_loadElem (G := GHv) (n := hv.length) (l := hv) rfl rfl GHv_len rfl (hkb.heap hvb (fun h => h)) hvr hin hx rfl ?_
            (repeat first | (apply wr_alloc; exact rfl))
            refine wr_storeAll (cs := GHv x) rfl rfl rfl (GHv_one _) (heap_alloc_same _ _) rfl rfl ?_
            refine wr_name ?_
            intro wx hwwx
            obtain ⟨bwx, hbwx⟩ : ∃ b, b = (w16).heap.size := ⟨_, rfl⟩
            have hkwx : Keeps NoB w16 wx := by rw [hwwx]; exact ((Keeps.refl NoB w16).alloc _).put _ (fun h => by omega)
            have hcwx : (wx).heap[bwx]? = some (.cells (GHv x).toArray 55 (0, 0)) := by rw [hwwx, hbwx]; exact World.putObj_heap_same (by simp)
            rw [← hbwx]
            clear hwwx
            have hc9x := hkwx.heap hc916 (fun h => h)
            have hc2x := hkwx.heap hc216 (fun h => h)
            have hc16x := hkwx.heap hc16 (fun h => h)
            have hownx := own_keep hown hkwx (fun _ _ h => h)
            have hlx := hvx x (List.mem_of_getElem? hx)
            have hnvx : SlR wx 1 nv W.2.length (SL W.2) := SlR.of_own (own_keep (own_keep hnv15 hk16 (fun q hq e => own_neT hnv15 hcw15 (by decide) q hq e)) hkwx (fun _ _ h => h))
            (repeat first | (apply wr_move; exact rfl; with_reducible (conv => enter [6, 3]; whnf)) | apply wr_end | apply wc_seq | apply wc_region | (apply wr_fieldAddr; iterate 2 exact rfl) | (apply wr_not; iterate 2 exact rfl) | (apply wr_load; (iterate 3 exact rfl); (focus repeat first | with_reducible assumption | exact heap_alloc_same _ _ | exact World.putObj_heap_same (by first | omega | (simp only [World.size_alloc, World.putObj_size, ne_eq]; omega)) | ((first | refine hAl ?_ ?_ | refine hPu ?_ ?_); focus first | omega | (simp only [World.size_alloc, World.putObj_size, ne_eq]; omega))); exact rfl; conv => enter [6, 3]; whnf))
            refine wr_loadAll (cs := [.bool W.1, nv]) rfl rfl rfl hc2x rfl ?_
            (repeat first | (apply wr_fieldAddr; iterate 2 exact rfl) | (apply wr_load; (iterate 3 exact rfl); (focus repeat first | with_reducible assumption | exact heap_alloc_same _ _ | exact World.putObj_heap_same (by first | omega | (simp only [World.size_alloc, World.putObj_size, ne_eq]; omega)) | ((first | refine hAl ?_ ?_ | refine hPu ?_ ?_); focus first | omega | (simp only [World.size_alloc, World.putObj_size, ne_eq]; omega))); exact rfl; conv => enter [6, 3]; whnf))
            refine wr_call (vs := [SetV W.1 nv, S x.1]) rfl (has_ca W.1 W.2 x.1 nv wx hlx hnvx hWl) rfl ?_
            rintro v wy ⟨rfl, hky⟩
            have hc16y := hky.heap hc16x (fun h => h)
            have howny := own_keep hownx hky (fun _ _ h => h)
            have hcxy := hky.heap hcwx (fun h => h)
            have hkxy := hkwx.trans hky
            cases hh : hasN W.1 W.2 x.1 with
            | false =>
              (repeat first | (apply wr_move; exact rfl; with_reducible (conv => enter [6, 3]; whnf)) | apply wr_end | apply wc_region | apply wc_skip | (apply wr_pick (t := true); (iterate 2 exact rfl); with_reducible (conv => enter [6, 3]; whnf)) | (apply wr_add; (iterate 3 exact rfl); exact w_fit (by dsimp only [kIn]; first | done | omega)) | (apply wc_false; exact rfl))
              refine ⟨(i + 1, hvl, hl), by dsimp only; omega, ⟨by trivial, by dsimp only; omega, ?_, howny, hc16y, hk16.trans hkxy.upD⟩, rfl, rfl, rfl, rfl, rfl, rfl, rfl, rfl, rfl, rfl, trivial⟩
              dsimp only
              rw [hlq, htake, List.filter_append]
              simp [hasP, hh]
            | true =>
              have hll : hl.length ≤ hv.length := by
                rw [hlq]
                split
                · simp
                · have := List.length_filter_le (fun h : HV => hasP W h.1) (hv.take i)
                  rw [List.length_take] at this
                  omega
              (repeat first | apply wr_end | apply wc_region | (apply wr_fieldAddr; iterate 2 exact rfl) | (apply wr_load; (iterate 3 exact rfl); (focus repeat first | with_reducible assumption | exact heap_alloc_same _ _ | exact World.putObj_heap_same (by first | omega | (simp only [World.size_alloc, World.putObj_size, ne_eq]; omega)) | ((first | refine hAl ?_ ?_ | refine hPu ?_ ?_); focus first | omega | (simp only [World.size_alloc, World.putObj_size, ne_eq]; omega))); exact rfl; conv => enter [6, 3]; whnf) | (apply wr_pick (t := true); (iterate 2 exact rfl); with_reducible (conv => enter [6, 3]; whnf)) | (apply wc_true; exact rfl))
              refine wr_loadAll (cs := GHv x) rfl rfl rfl hcxy rfl ?_
              refine wr_buildSlice (vs := [.agg (GHv x).toArray]) rfl rfl (by intro v hv; simp at hv; subst hv; rfl) rfl (by decide) (by decide) (by decide) ?_
              refine wr_append (base := w15.heap.size) (v := hvl) (n := hl.length) (m := 1) (news := GHv x) rfl rfl (own_keep howny ((Keeps.refl NoB wy).alloc _) (fun _ _ h => h)) rfl (heap_alloc_same _ _) rfl (GHv_one _) rfl (by decide) (by omega) (by omega) (by have := hkxy.size; have := hk16.size; simp; omega) ?_
              intro hvl' w17 hown17 hk17 _
              have hky17 : Keeps (fun q => hvl.ownBlock = some q) wy w17 := (((Keeps.refl NoB wy).alloc _).upD).trans hk17
              have hc1617 := hky17.heap hc16y (fun e => own_neT howny hc16y (by decide) _ e rfl)
              have hownq := fun q hq => own_ge hown (b := q) hq
              (repeat first | (apply wr_fieldAddr; iterate 2 exact rfl))
              refine wr_store (v := hvl') (u := hvl) rfl rfl rfl (own_one hown17) hc1617 rfl ?_
              generalize hw18 : World.putObj w17 _ _ = w18
              have hc1618 : w18.heap[bw12]? = some (.cells (GRq k c.1 0 (.slice ma (listP (lessP W (ta, tl))).length mc) (.slice la (listP (lessP (ta, tl) W)).length lc) hvl' []).toArray 42 (0, 0)) := by rw [← hw18]; exact World.putObj_heap_same (lt_of_heap hc1617)
              have hk18 : Keeps (· = bw12) w17 w18 := by rw [← hw18]; exact (Keeps.refl _ w17).put _ (fun _ => rfl)
              clear hw18
              have hown18 := own_keep hown17 hk18 (fun q hq e => own_neT hown17 hc1617 (by decide) q hq e)
              have hkend : Keeps (· = bw12) w15 w18 := ((hk16.trans hkxy.upD).trans' hky17 (fun q hq e => by have := hownq q e; omega)).trans hk18
              (repeat first | (apply wr_move; exact rfl; with_reducible (conv => enter [6, 3]; whnf)) | apply wr_end | apply wc_region | (apply wr_add; (iterate 3 exact rfl); exact w_fit (by dsimp only [kIn]; first | done | omega)) | (apply wr_nil; try simp only [thenE, inBlockE, bodyQ]))
              refine ⟨(i + 1, hvl', hl ++ [x]), by dsimp only; omega, ⟨by trivial, by dsimp only; omega, ?_, ?_, hc1618, hkend⟩, rfl, rfl, rfl, rfl, rfl, rfl, rfl, rfl, rfl, rfl, trivial⟩
              focus
                dsimp only
                rw [hlq, htake, List.filter_append]
                simp [hasP, hh]
              dsimp only
              rw [List.length_append, List.flatMap_append]
              simpa using hown18
          · have hie : i = hv.length := by omega
            subst hie
            rw [List.take_length] at hlq
            (repeat first | apply wr_end | apply wc_seq | apply wc_region | (apply wr_cmp; (iterate 3 exact rfl); exact cmpF (by dsimp only [cmpN]; first | done | omega)) | (apply wc_false; exact rfl) | (apply wc_exit; try simp only [thenE, inBlockE, bodyQ, ↓reduceIte, Nat.reduceEqDiff]))
            refine wr_loadAll (cs := [.bool W.1, nv]) rfl rfl rfl hc216 rfl ?_
            (repeat first | (apply wr_fieldAddr; iterate 2 exact rfl))
            have hnv16 := own_keep hnv15 hk16 (fun q hq e => own_neT hnv15 hcw15 (by decide) q hq e)
            have hmore16 := own_keep hmore15 hk16 (fun q hq e => own_neT hmore15 hcw15 (by decide) q hq e)
            have hless16 := own_keep hless15 hk16 (fun q hq e => own_neT hless15 hcw15 (by decide) q hq e)
            have hk016 : Keeps NoB w w16 := hk15.trans' hk16 (fun i hi e => by omega)
            refine wr_storePart (cs := [.bool W.1, nv]) rfl rfl rfl (by intro u hu; simp at hu; rcases hu with rfl | rfl; rfl; exact own_one hnv16) hc916 rfl (by show 2 ≤ 4; decide) ?_
            generalize hw17 : World.putObj w16 _ _ = w17
            have hc917 : w17.heap[bw9]? = some (.cells #[.bool W.1, nv, .bool false, .int .u64 (no : Int)] 29 (0, 0)) := by rw [← hw17]; exact World.putObj_heap_same (lt_of_heap hc916)
            have hk17 : Keeps (· = bw9) w16 w17 := by rw [← hw17]; exact (Keeps.refl _ w16).put _ (fun _ => rfl)
            clear hw17
            (repeat first | (apply wr_move; exact rfl; with_reducible (conv => enter [6, 3]; whnf)) | apply wr_end | apply wc_seq | apply wc_region | (apply wr_fieldAddr; iterate 2 exact rfl) | (apply wr_store; (iterate 3 exact rfl); (first | exact rfl | with_reducible assumption); (focus repeat first | with_reducible assumption | exact heap_alloc_same _ _ | exact World.putObj_heap_same (by first | omega | (simp only [World.size_alloc, World.putObj_size, ne_eq]; omega)) | ((first | refine hAl ?_ ?_ | refine hPu ?_ ?_); focus first | omega | (simp only [World.size_alloc, World.putObj_size, ne_eq]; omega))); exact rfl))
            generalize hw18 : World.putObj w17 _ _ = w18
            have hc918 : w18.heap[bw9]? = some (.cells (GTp ((W, nv), true, no)).toArray 29 (0, 0)) := by rw [← hw18]; exact World.putObj_heap_same (lt_of_heap hc917)
            have hk18 : Keeps (· = bw9) w16 w18 := hk17.trans (by rw [← hw18]; exact (Keeps.refl _ w17).put _ (fun _ => rfl))
            clear hw18
            have hc118 := hk18.heap hc116 (fun e => by omega)
            have hc318 := hk18.heap (hk16.heap hc315 (fun e => by omega)) (fun e => by omega)
            have hc418 := hk18.heap (hk16.heap hc415 (fun e => by omega)) (fun e => by omega)
            have hc1218 := hk18.heap hc16 (fun e => by omega)
            skip
            refine wr_loadAll (cs := GTp ((W, nv), true, no)) rfl rfl rfl hc918 rfl ?_
            have hty : typedB k = true := by
              cases hty : typedB k with
              | true => rfl
              | false => rw [hty] at heq; simp [firstO, errOf] at heq
            have hk15' : 1 ≤ k ∧ k ≤ 5 := by unfold typedB at hty; simpa using hty
            obtain ⟨q, rfl⟩ := Int.eq_ofNat_of_zero_le (show 0 ≤ k by omega)
            have hq6 : q < 6 := by omega
            obtain ⟨t1, htq⟩ : ∃ t, c.2[q]? = some t := ⟨c.2[q]'(by rw [h.len]; omega), by simp [h.len, hq6]⟩
            have hac : askC c (q : Int) W nv = (c.1, c.2.set q ((W, nv), true, no)) := by unfold askC; rw [← ht, Int.toNat_natCast]; rfl
            (repeat first | (apply wr_fieldAddr; iterate 2 exact rfl))
            refine wr_indexArr (i := q) rfl rfl rfl hq6 ?_
            have hnvw : TpAt w16 ((W, nv), true, no) := ⟨SlR.of_own hnv16, hWl, hta.2.2⟩
            refine wr_storePart (cs := GTp ((W, nv), true, no)) rfl rfl rfl (GTp_one hnvw) hc118 rfl (by rw [List.size_toArray, GCl_len h.len]; show 0 + 1 + q * 4 + 4 ≤ 25; omega) ?_
            generalize hw19 : World.putObj w18 _ _ = w19
            have hc119 : w19.heap[bw1]? = some (.cells (GCl (askC c (q : Int) W nv)).toArray 32 (0, 0)) := by
              rw [← hw19, hac, ← GCl_setT htq]
              exact World.putObj_heap_same (lt_of_heap hc118)
            have hk19 : Keeps (· = bw1) w18 w19 := by rw [← hw19]; exact (Keeps.refl _ w18).put _ (fun _ => rfl)
            clear hw19
            have hc1219 := hk19.heap hc1218 (fun e => by omega)
            have hc319 := hk19.heap hc318 (fun e => by omega)
            have hc419 := hk19.heap hc418 (fun e => by omega)
            have hc119d : w19.drew.heap[bw1]? = _ := hc119
            have hc1219d : w19.drew.heap[bw12]? = _ := hc1219
            have hl6 : (askC c (q : Int) W nv).2.length = 6 := by rw [hac]; simp [h.len]
            have hone : ∀ u ∈ GCl (askC c (q : Int) W nv), u.oneCell' = true := by
              rw [hac]
              intro u hu
              simp only [GCl, List.mem_cons, List.mem_flatMap] at hu
              rcases hu with rfl | ⟨y, hy, hu⟩
              · rfl
              · rcases List.mem_or_eq_of_mem_set hy with hy | rfl
                · exact GTp_one (h.at' y hy) u hu
                · exact GTp_one hnvw u hu
            (repeat first | apply wr_end | apply wc_seq)
            refine V.L.wc_drawL (l := _) (V.L.duo w19.drew 2 3 bw3 bw4 (.cells (GCl (newC false)).toArray 32 (0, 0)) (.cells zeroRq.toArray 42 (0, 0)) (.cells (GCl (askC c (q : Int) W nv)).toArray 32 (0, 0)) (.cells (GRq (q : Int) c.1 0 (.slice ma (listP (lessP W (ta, tl))).length mc) (.slice la (listP (lessP (ta, tl) W)).length lc) hvl []).toArray 42 (0, 0))) (by kernel_rfl) (by kernel_rfl) ⟨Keeps.refl _ _, hc319, hc419⟩ ?_
            apply V.L.ch_step
            focus
              apply V.L.duo_read rfl rfl
              intro w hk
              refine wr_loadAll (cs := GCl (askC c (q : Int) W nv)) rfl rfl rfl (hk.heap hc119d (fun e => by omega)) (GCl_len hl6) ?_
              apply wr_nil
              exact ⟨rfl, Keeps.refl _ _⟩
            apply V.L.ch_step
            focus
              apply V.L.duo_read rfl rfl
              intro w hk
              refine wr_loadAll (cs := GRq (q : Int) c.1 0 (.slice ma (listP (lessP W (ta, tl))).length mc) (.slice la (listP (lessP (ta, tl) W)).length lc) hvl []) rfl rfl rfl (hk.heap hc1219d (fun e => by omega)) rfl ?_
              apply wr_nil
              exact ⟨rfl, Keeps.refl _ _⟩
            apply V.L.ch_step
            focus
              apply V.L.duo_st1 (by omega) rfl
              intro w hk hb
              refine wr_storeAll (cs := GCl (askC c (q : Int) W nv)) rfl rfl rfl hone hb (GCl_len hl6) rfl ?_
              apply wr_nil
              exact ⟨rfl, rfl⟩
            apply V.L.ch_step
            focus
              apply V.L.duo_st2 (by omega) rfl
              intro w hk hb
              refine wr_storeAll (cs := GRq (q : Int) c.1 0 (.slice ma (listP (lessP W (ta, tl))).length mc) (.slice la (listP (lessP (ta, tl) W)).length lc) hvl []) rfl rfl rfl (GRq_one rfl rfl (own_one hown)) hb rfl rfl ?_
              apply wr_nil
              exact ⟨rfl, rfl⟩
            apply V.L.ch_step
            focus
              apply V.L.duo_read rfl rfl
              intro w hk
              apply wr_assign; exact rfl; with_reducible (conv => enter [6, 3]; whnf)
              apply wr_nil
              exact ⟨rfl, Keeps.refl _ _⟩
            refine V.L.ch_nil ?_
            intro w20 hS
            obtain ⟨hk20, hc320, hc420⟩ := V.L.duo_end hS (by kernel_rfl) (by kernel_rfl)
            have kp : ∀ {T : TypeId} {sz m : Nat} {v : Value} {xs : List Value}, w16.ownsRow n4 T sz v m xs → T ≠ 29 → T ≠ 32 → T ≠ 42 → w20.ownsRow bw1 T sz v m xs := fun ho h1 h2 h3 => by
              have o1 := own_keep ho hk18 (own_neT ho hc916 h1)
              have o2 := own_keep o1 hk19 (own_neT o1 hc118 h2)
              have o3 := own_keep o2 ((Keeps.refl NoB w19).drew.upD.trans hk20) (fun q hq e => e.elim (own_neT o2 hc319 h2 q hq) (own_neT o2 hc419 h3 q hq))
              exact own_down o3 (by omega)
            have hkf20 : Keeps NoB w w20 := ((hk016.trans' hk18 (fun i hi e => by omega)).trans' hk19 (fun i hi e => by omega)).drew.trans' hk20 (fun i hi e => by rcases e with e | e <;> omega)
            (repeat first | (apply wc_ret; try simp only [thenE, inBlockE, bodyQ]))
            refine leaveN (vs := [CliV (askC c (q : Int) W nv), .agg (GRq (q : Int) c.1 0 (.slice ma (listP (lessP W (ta, tl))).length mc) (.slice la (listP (lessP (ta, tl) W)).length lc) hvl []).toArray, .int .i64 0]) (resv_cells (cs := GCl (askC c (q : Int) W nv)) (e := 32) (fr := (0, 0)) rfl rfl hc320 (GCl_len hl6) (resv_cells (cs := GRq (q : Int) c.1 0 (.slice ma (listP (lessP W (ta, tl))).length mc) (.slice la (listP (lessP (ta, tl) W)).length lc) hvl []) (e := 42) (fr := (0, 0)) rfl rfl hc420 rfl (resv_tmp rfl resv_nil))) ⟨.inr ⟨by trivial, ?_⟩, hkf20⟩
            have hhad : hadL (((ta, tl), tv), false, no) W hv = hl := by rw [hlq]; rfl
            refine ⟨nv, .slice ma (listP (lessP W (ta, tl))).length mc, .slice la (listP (lessP (ta, tl) W)).length lc, hvl, by rw [if_pos hd]; rfl, kp hnv16 (by decide) (by decide) (by decide), ⟨_, rfl, ?_⟩, ⟨_, rfl, ?_⟩, ⟨_, rfl, ?_⟩⟩
            focus
              rw [if_pos hd, ← ht]
              unfold moreL
              rw [if_pos hd]
              exact kp hmore16 (by decide) (by decide) (by decide)
            focus
              rw [← ht]
              unfold lessL
              rw [if_pos hd]
              exact kp hless16 (by decide) (by decide) (by decide)
            rw [if_pos hd, ← ht, hhad]
            exact kp (own_down hown (by have := hkf12.size; have := (hk10.trans hk11).size; have := hkw12.size; have := hk1215.size; omega)) (by decide) (by decide) (by decide)
      | false =>
        have heq : er = firstO [errOf (typedB k) 1, errOf (true) 5, errOf false 4] := by
          rw [her]
          simp only [moreL, lessL, hd, if_true]
          rw [hsh]
          simp only [Bool.not_true, Bool.not_false, Bool.false_or, Bool.true_or, Bool.false_and]
        refine wc_drawP (l := _) 28 _ (by kernel_rfl) (by kernel_rfl) rfl (by kernel_rfl) (by kernel_rfl) (by decide) ?_
        apply chP_pure
        focus
          intro xx w' hk hF
          apply wr_move; exact rfl; with_reducible (conv => enter [6, 3]; whnf)
          apply wr_nil
          exact ⟨rfl, Keeps.refl _ _⟩
        focus (intro xx yy h; rfl)
        focus kernel_rfl
        apply chP_pure
        focus
          intro xx w' hk hF
          refine wr_call (vs := [.int .i64 k]) rfl (typed_ca k w') rfl ?_
          rintro v w'' ⟨rfl, rfl⟩
          apply wr_nil
          exact ⟨rfl, Keeps.refl _ _⟩
        focus (intro xx yy h; rfl)
        focus kernel_rfl
        apply chP_pure
        focus
          intro xx w' hk hF
          refine wr_call (vs := [.bool (typedB k), .int .i64 1]) rfl (need_ca (typedB k) 1 w') rfl ?_
          rintro v w'' ⟨rfl, rfl⟩
          apply wr_nil
          exact ⟨rfl, Keeps.refl _ _⟩
        focus (intro xx yy h; rfl)
        focus kernel_rfl
        apply chP_pure
        focus
          intro xx w' hk hF
          refine wr_fieldAddr rfl rfl ?_
          apply wr_nil
          exact ⟨rfl, Keeps.refl _ _⟩
        focus (intro xx yy h; rfl)
        focus kernel_rfl
        apply chP_pure
        focus
          intro xx w' hk hF
          refine wr_load (v := .bool false) rfl rfl rfl ((hk0 hk).heap hc910 (fun h => h)) rfl ?_
          apply wr_nil
          exact ⟨rfl, Keeps.refl _ _⟩
        focus (intro xx yy h; rfl)
        focus kernel_rfl
        apply chP_pure
        focus
          intro xx w' hk hF
          apply wr_not; iterate 2 exact rfl
          apply wr_nil
          exact ⟨rfl, Keeps.refl _ _⟩
        focus (intro xx yy h; rfl)
        focus kernel_rfl
        apply chP_pure
        focus
          intro xx w' hk hF
          apply wr_move; exact rfl; with_reducible (conv => enter [6, 3]; whnf)
          apply wr_nil
          exact ⟨rfl, Keeps.refl _ _⟩
        focus (intro xx yy h; rfl)
        focus kernel_rfl
        apply chP_pure
        focus
          intro xx w' hk hF
          first
          | (refine wr_skip rfl ?_; apply wr_nil; exact ⟨rfl, Keeps.refl _ _⟩)
          | ((refine wr_fieldAddr rfl rfl ?_); apply wr_nil; exact ⟨rfl, Keeps.refl _ _⟩)
        focus (intro xx yy h; rfl)
        focus kernel_rfl
        apply chP_pure
        focus
          intro xx w' hk hF
          first
          | (refine wr_skip rfl ?_; apply wr_nil; exact ⟨rfl, Keeps.refl _ _⟩)
          | ((refine wr_loadAgg (cs := [.bool ta, tv]) rfl rfl rfl rfl (fun q u hq => cell_of_heap ((hk0 hk).heap hc910 (fun h => h)) (by match q, hq with | 0, hq => exact hq | 1, hq => exact hq | q + 2, hq => simp at hq)) ?_); apply wr_nil; exact ⟨rfl, Keeps.refl _ _⟩)
        focus (intro xx yy h; rfl)
        focus kernel_rfl
        apply chP_pure
        focus
          intro xx w' hk hF
          first
          | (refine wr_skip rfl ?_; apply wr_nil; exact ⟨rfl, Keeps.refl _ _⟩)
          | ((refine wr_loadAll (cs := [.bool W.1, nv]) rfl rfl rfl ((hk0 hk).heap hc210 (fun h => h)) rfl ?_); apply wr_nil; exact ⟨rfl, Keeps.refl _ _⟩)
        focus (intro xx yy h; rfl)
        focus kernel_rfl
        apply chP_pure
        focus
          intro xx w' hk hF
          first
          | (refine wr_skip rfl ?_; apply wr_nil; exact ⟨rfl, Keeps.refl _ _⟩)
          | (refine wr_call (vs := [SetV ta tv, SetV W.1 nv]) rfl (same_ca (ta, tl) W _ _ w' (htR10 (hk0 hk)) (hWR10 (hk0 hk)) hta.2.1 hWl) rfl ?_; rintro v w'' ⟨rfl, hkc⟩; apply wr_nil; exact ⟨rfl, hkc⟩)
        focus (intro xx yy h; rfl)
        focus kernel_rfl
        apply chP_pure
        focus
          intro xx w' hk hF
          first
          | (refine wr_skip rfl ?_; apply wr_nil; exact ⟨rfl, Keeps.refl _ _⟩)
          | ((apply wr_not; iterate 2 exact rfl); apply wr_nil; exact ⟨rfl, Keeps.refl _ _⟩)
        focus (intro xx yy h; rfl)
        focus kernel_rfl
        apply chP_pure
        focus
          intro xx w' hk hF
          first
          | (apply wr_pick (t := true); (iterate 2 exact rfl); with_reducible (conv => enter [6, 3]; whnf); apply wr_nil; exact ⟨rfl, Keeps.refl _ _⟩)
          | (apply wr_pick (t := false); (iterate 2 exact rfl); with_reducible (conv => enter [6, 3]; whnf); apply wr_nil; exact ⟨rfl, Keeps.refl _ _⟩)
        focus (intro xx yy h; rfl)
        focus kernel_rfl
        apply chP_pure
        focus
          intro xx w' hk hF
          refine wr_call (vs := [.bool (true), .int .i64 5]) rfl (need_ca (true) 5 w') rfl ?_
          rintro v w'' ⟨rfl, rfl⟩
          apply wr_nil
          exact ⟨rfl, Keeps.refl _ _⟩
        focus (intro xx yy h; rfl)
        focus kernel_rfl
        apply chP_pure
        focus
          intro xx w' hk hF
          apply wr_move; exact rfl; with_reducible (conv => enter [6, 3]; whnf)
          apply wr_nil
          exact ⟨rfl, Keeps.refl _ _⟩
        focus (intro xx yy h; rfl)
        focus kernel_rfl
        apply chP_pure
        focus
          intro xx w' hk hF
          apply wr_move; exact rfl; with_reducible (conv => enter [6, 3]; whnf)
          apply wr_nil
          exact ⟨rfl, Keeps.refl _ _⟩
        focus (intro xx yy h; rfl)
        focus kernel_rfl
        apply chP_pure
        focus
          intro xx w' hk hF
          apply wr_move; exact rfl; with_reducible (conv => enter [6, 3]; whnf)
          apply wr_nil
          exact ⟨rfl, Keeps.refl _ _⟩
        focus (intro xx yy h; rfl)
        focus kernel_rfl
        refine chP_fact (fun y => .slice (some ⟨blkOf y, 0, none⟩) 3 3) (fun y w' => w'.heap[blkOf y]? = some (.cells #[.slice aa (listP W).length ac, .slice ma (listP (lessP W (ta, tl))).length mc, .slice la (listP (lessP (ta, tl) W)).length lc] 24 (0, 0))) (fun y w' w'' h k => k.heap h (fun h => h)) ?_ ?_
        focus
          intro xx w' hk hF
          refine wr_buildSlice (vs := [.slice aa (listP W).length ac, .slice ma (listP (lessP W (ta, tl))).length mc, .slice la (listP (lessP (ta, tl) W)).length lc]) rfl rfl (by intro v hv; simp at hv; rcases hv with rfl | rfl | rfl <;> rfl) rfl (by decide) (by decide) (by decide) ?_
          apply wr_nil
          exact ⟨.pointer (some ⟨w'.heap.size, 0, none⟩), rfl, heap_alloc_same _ _, (Keeps.refl _ _).alloc _⟩
        apply chP_pure
        focus
          intro xx w' hk hF
          refine wr_call (vs := [.slice (some ⟨blkOf (xx 17), 0, none⟩) 3 3]) rfl (shortX_ca (b := false) [(.slice aa (listP W).length ac, (listP W).length), (.slice ma (listP (lessP W (ta, tl))).length mc, (listP (lessP W (ta, tl))).length), (.slice la (listP (lessP (ta, tl) W)).length lc, (listP (lessP (ta, tl) W)).length)] (hsh) (by simp) (by intro x hx; simp at hx; rcases hx with rfl | rfl | rfl <;> exact ⟨_, _, rfl⟩) (blkOf (xx 17)) _ _ w' (hF 17 (by kernel_rfl))) rfl ?_
          rintro v w'' ⟨rfl, rfl⟩
          apply wr_nil
          exact ⟨rfl, Keeps.refl _ _⟩
        focus (intro xx yy h; rfl)
        focus kernel_rfl
        apply chP_pure
        focus
          intro xx w' hk hF
          apply wr_move; exact rfl; with_reducible (conv => enter [6, 3]; whnf)
          apply wr_nil
          exact ⟨rfl, Keeps.refl _ _⟩
        focus (intro xx yy h; rfl)
        focus kernel_rfl
        apply chP_pure
        focus
          intro xx w' hk hF
          first
          | (refine wr_skip rfl ?_; apply wr_nil; exact ⟨rfl, Keeps.refl _ _⟩)
          | ((apply wr_move; exact rfl; with_reducible (conv => enter [6, 3]; whnf)); apply wr_nil; exact ⟨rfl, Keeps.refl _ _⟩)
        focus (intro xx yy h; rfl)
        focus kernel_rfl
        apply chP_pure
        focus
          intro xx w' hk hF
          first
          | (refine wr_skip rfl ?_; apply wr_nil; exact ⟨rfl, Keeps.refl _ _⟩)
          | ((apply wr_len_slice; iterate 2 exact rfl); apply wr_nil; exact ⟨rfl, Keeps.refl _ _⟩)
        focus (intro xx yy h; rfl)
        focus kernel_rfl
        apply chP_pure
        focus
          intro xx w' hk hF
          first
          | (refine wr_skip rfl ?_; apply wr_nil; exact ⟨rfl, Keeps.refl _ _⟩)
          | ((refine wr_cmp (c := decide (hv.length ≤ 64)) rfl rfl rfl (by rcases Decidable.em (hv.length ≤ 64) with h64 | h64; (rw [decide_eq_true h64]; exact cmpT (by dsimp only [cmpP]; omega)); (rw [decide_eq_false h64]; exact cmpF (by dsimp only [cmpN]; omega))) ?_); apply wr_nil; exact ⟨rfl, Keeps.refl _ _⟩)
        focus (intro xx yy h; rfl)
        focus kernel_rfl
        apply chP_pure
        focus
          intro xx w' hk hF
          first
          | (apply wr_pick (t := true); (iterate 2 exact rfl); with_reducible (conv => enter [6, 3]; whnf); apply wr_nil; exact ⟨rfl, Keeps.refl _ _⟩)
          | (apply wr_pick (t := false); (iterate 2 exact rfl); with_reducible (conv => enter [6, 3]; whnf); apply wr_nil; exact ⟨rfl, Keeps.refl _ _⟩)
        focus (intro xx yy h; rfl)
        focus kernel_rfl
        apply chP_pure
        focus
          intro xx w' hk hF
          refine wr_call (vs := [.bool (false), .int .i64 4]) rfl (need_ca (false) 4 w') rfl ?_
          rintro v w'' ⟨rfl, rfl⟩
          apply wr_nil
          exact ⟨rfl, Keeps.refl _ _⟩
        focus (intro xx yy h; rfl)
        focus kernel_rfl
        refine chP_fact (fun y => .slice (some ⟨blkOf y, 0, none⟩) 3 3) (fun y w' => w'.heap[blkOf y]? = some (.cells #[erV (errOf (typedB k) 1), erV (errOf (true) 5), erV (errOf (false) 4)] 97 (0, 0))) (fun y w' w'' h k => k.heap h (fun h => h)) ?_ ?_
        focus
          intro xx w' hk hF
          refine wr_buildSlice (vs := [erV (errOf (typedB k) 1), erV (errOf (true) 5), erV (errOf (false) 4)]) rfl rfl (by intro v hv; simp at hv; rcases hv with rfl | rfl | rfl <;> exact er_size _) rfl (by decide) (by decide) (by decide) ?_
          apply wr_nil
          exact ⟨.pointer (some ⟨w'.heap.size, 0, none⟩), rfl, (by rw [← er3]; exact heap_alloc_same _ _), (Keeps.refl _ _).alloc _⟩
        apply chP_pure
        focus
          intro xx w' hk hF
          refine wr_call (vs := [.slice (some ⟨blkOf (xx 25), 0, none⟩) 3 3]) rfl (first_ca [errOf (typedB k) 1, errOf (true) 5, errOf (false) 4] (by simp) (blkOf (xx 25)) _ _ w' (hF 25 (by kernel_rfl))) rfl ?_
          rintro v w'' ⟨rfl, rfl⟩
          apply wr_nil
          exact ⟨rfl, Keeps.refl _ _⟩
        focus (intro xx yy h; rfl)
        focus kernel_rfl
        apply chP_pure
        focus
          intro xx w' hk hF
          apply wr_assign; exact rfl; with_reducible (conv => enter [6, 3]; whnf)
          apply wr_nil
          exact ⟨rfl, Keeps.refl _ _⟩
        focus (intro xx yy h; rfl)
        focus kernel_rfl
        refine chP_nil ?_
        intro yy w11 hk11' hF
        have hk11 := hk0 hk11'
        clear hF
        have hkf11 := hkf10.trans hk11
        have hc111 := hk11.heap hc110 (fun h => h)
        have hc211 := hk11.heap hc210 (fun h => h)
        have hc311 := hk11.heap hc310 (fun h => h)
        have hc411 := hk11.heap hc410 (fun h => h)
        have hc911 := hk11.heap hc910 (fun h => h)
        rw [show firstO _ = er from heq.symm]
        (repeat first | (apply wr_move; exact rfl; with_reducible (conv => enter [6, 3]; whnf)) | apply wr_end | apply wc_seq | apply wc_region)
        refine wr_bin rfl rfl rfl (by cases er <;> simp [eqGuard, erV]) (run_neEr er _) ?_
        cases er with
        | some e =>
          have hc1d : w11.drew.heap[bw1]? = _ := hc111
          have hED : ∀ {w'}, Keeps (fun q => q = bw3 ∨ q = bw4) w11.drew w' → ErrT w' := fun hk => by
            obtain ⟨T, fr, hg⟩ := hE
            have hl := lt_of_heap hg
            exact ⟨T, fr, hk.heap (hkf11.heap hg (fun h => h)) (fun e => by omega)⟩
          (repeat first | apply wr_end | apply wc_seq | (apply wc_true; exact rfl))
          refine V.L.wc_drawL (l := _) (V.L.duo w11.drew 4 5 bw3 bw4 (.cells (GCl (newC false)).toArray 32 (0, 0)) (.cells zeroRq.toArray 42 (0, 0)) (.cells (GCl c).toArray 32 (0, 0)) (.cells zeroRq.toArray 42 (0, 0))) (by kernel_rfl) (by kernel_rfl) ⟨Keeps.refl _ _, hc311, hc411⟩ ?_
          apply V.L.ch_step
          focus
            apply V.L.duo_read rfl rfl
            intro w hk
            refine wr_loadAll (cs := GCl c) rfl rfl rfl (hk.heap hc1d (fun e => by omega)) (GCl_len h.len) ?_
            apply wr_nil
            exact ⟨rfl, Keeps.refl _ _⟩
          apply V.L.ch_step
          focus
            apply V.L.duo_read rfl rfl
            intro w hk
            refine wr_build (ps := []) (cs := zeroRq) rfl rfl rfl rfl ?_
            apply wr_nil
            exact ⟨rfl, Keeps.refl _ _⟩
          apply V.L.ch_step
          focus
            apply V.L.duo_read rfl rfl
            intro w hk
            apply wr_move; exact rfl; with_reducible (conv => enter [6, 3]; whnf)
            apply wr_nil
            exact ⟨rfl, Keeps.refl _ _⟩
          apply V.L.ch_step
          focus
            apply V.L.duo_read rfl rfl
            intro w hk
            refine wr_call (vs := [erV (some e)]) rfl (told_ca (some e) w (hED hk)) rfl ?_
            rintro v w' ⟨rfl, hk'⟩
            apply wr_nil
            exact ⟨rfl, hk'⟩
          apply V.L.ch_step
          focus
            apply V.L.duo_st1 (by omega) rfl
            intro w hk hb
            refine wr_storeAll (cs := GCl c) rfl rfl rfl (GCl_one h) hb (GCl_len h.len) rfl ?_
            apply wr_nil
            exact ⟨rfl, rfl⟩
          apply V.L.ch_step
          focus
            apply V.L.duo_st2 (by omega) rfl
            intro w hk hb
            refine wr_storeAll (cs := zeroRq) rfl rfl rfl zeroRq_one hb rfl rfl ?_
            apply wr_nil
            exact ⟨rfl, rfl⟩
          apply V.L.ch_step
          focus
            apply V.L.duo_read rfl rfl
            intro w hk
            apply wr_assign; exact rfl; with_reducible (conv => enter [6, 3]; whnf)
            apply wr_nil
            exact ⟨rfl, Keeps.refl _ _⟩
          refine V.L.ch_nil ?_
          intro w12 hS
          obtain ⟨hk12, hc312, hc412⟩ := V.L.duo_end hS (by kernel_rfl) (by kernel_rfl)
          (repeat first | (apply wc_ret; try simp only [thenE, inBlockE, bodyQ]))
          exact leaveN (vs := [CliV c, .agg zeroRq.toArray, .int .i64 e]) (resv_cells (cs := GCl c) (e := 32) (fr := (0, 0)) rfl rfl hc312 (GCl_len h.len) (resv_cells (cs := zeroRq) (e := 42) (fr := (0, 0)) rfl rfl hc412 rfl (resv_tmp rfl resv_nil))) ⟨.inl ⟨e, by trivial, rfl⟩, hkf11.drew.trans' hk12 (fun i hi e => by rcases e with e | e <;> omega)⟩
        | none =>
          exact absurd heq.symm (firstO_last _ _ _ _ _)
  | false =>
    (repeat first | (apply wr_assign; exact rfl; with_reducible (conv => enter [6, 3]; whnf)) | apply wr_end | apply wc_seq | apply wc_region | (apply wc_true; exact rfl))
    dsimp only
    rw [show xx (0 + 1) = .slice aa (listP W).length ac from hxa]
    have hsimp : er = firstO [errOf (typedB k) 1, errOf (!op || !sameP (ta, tl) W) 5, errOf ((decide ((listP W).length ≤ 64) && (decide (0 ≤ 64) && (decide (0 ≤ 64) && true))) && decide (hv.length ≤ 64)) 4] := by
      rw [her]
      simp only [moreL, lessL, hd, Bool.false_eq_true, if_false, List.length_nil]
    cases op with
    | true =>
      cases hsh : (decide ((listP W).length ≤ 64) && (decide (0 ≤ 64) && (decide (0 ≤ 64) && true))) with
      | true =>
        have heq : er = firstO [errOf (typedB k) 1, errOf (!sameP (ta, tl) W) 5, errOf (decide (hv.length ≤ 64)) 4] := by
          rw [hsimp, hsh]
          simp only [Bool.not_true, Bool.false_or, Bool.true_and]
        refine wc_drawP (l := _) 28 _ (by kernel_rfl) (by kernel_rfl) rfl (by kernel_rfl) (by kernel_rfl) (by decide) ?_
        apply chP_pure
        focus
          intro xx w' hk hF
          apply wr_move; exact rfl; with_reducible (conv => enter [6, 3]; whnf)
          apply wr_nil
          exact ⟨rfl, Keeps.refl _ _⟩
        focus (intro xx yy h; rfl)
        focus kernel_rfl
        apply chP_pure
        focus
          intro xx w' hk hF
          refine wr_call (vs := [.int .i64 k]) rfl (typed_ca k w') rfl ?_
          rintro v w'' ⟨rfl, rfl⟩
          apply wr_nil
          exact ⟨rfl, Keeps.refl _ _⟩
        focus (intro xx yy h; rfl)
        focus kernel_rfl
        apply chP_pure
        focus
          intro xx w' hk hF
          refine wr_call (vs := [.bool (typedB k), .int .i64 1]) rfl (need_ca (typedB k) 1 w') rfl ?_
          rintro v w'' ⟨rfl, rfl⟩
          apply wr_nil
          exact ⟨rfl, Keeps.refl _ _⟩
        focus (intro xx yy h; rfl)
        focus kernel_rfl
        apply chP_pure
        focus
          intro xx w' hk hF
          refine wr_fieldAddr rfl rfl ?_
          apply wr_nil
          exact ⟨rfl, Keeps.refl _ _⟩
        focus (intro xx yy h; rfl)
        focus kernel_rfl
        apply chP_pure
        focus
          intro xx w' hk hF
          refine wr_load (v := .bool true) rfl rfl rfl ((hk0 hk).heap hc910 (fun h => h)) rfl ?_
          apply wr_nil
          exact ⟨rfl, Keeps.refl _ _⟩
        focus (intro xx yy h; rfl)
        focus kernel_rfl
        apply chP_pure
        focus
          intro xx w' hk hF
          apply wr_not; iterate 2 exact rfl
          apply wr_nil
          exact ⟨rfl, Keeps.refl _ _⟩
        focus (intro xx yy h; rfl)
        focus kernel_rfl
        apply chP_pure
        focus
          intro xx w' hk hF
          apply wr_move; exact rfl; with_reducible (conv => enter [6, 3]; whnf)
          apply wr_nil
          exact ⟨rfl, Keeps.refl _ _⟩
        focus (intro xx yy h; rfl)
        focus kernel_rfl
        apply chP_pure
        focus
          intro xx w' hk hF
          first
          | (refine wr_skip rfl ?_; apply wr_nil; exact ⟨rfl, Keeps.refl _ _⟩)
          | ((refine wr_fieldAddr rfl rfl ?_); apply wr_nil; exact ⟨rfl, Keeps.refl _ _⟩)
        focus (intro xx yy h; rfl)
        focus kernel_rfl
        apply chP_pure
        focus
          intro xx w' hk hF
          first
          | (refine wr_skip rfl ?_; apply wr_nil; exact ⟨rfl, Keeps.refl _ _⟩)
          | ((refine wr_loadAgg (cs := [.bool ta, tv]) rfl rfl rfl rfl (fun q u hq => cell_of_heap ((hk0 hk).heap hc910 (fun h => h)) (by match q, hq with | 0, hq => exact hq | 1, hq => exact hq | q + 2, hq => simp at hq)) ?_); apply wr_nil; exact ⟨rfl, Keeps.refl _ _⟩)
        focus (intro xx yy h; rfl)
        focus kernel_rfl
        apply chP_pure
        focus
          intro xx w' hk hF
          first
          | (refine wr_skip rfl ?_; apply wr_nil; exact ⟨rfl, Keeps.refl _ _⟩)
          | ((refine wr_loadAll (cs := [.bool W.1, nv]) rfl rfl rfl ((hk0 hk).heap hc210 (fun h => h)) rfl ?_); apply wr_nil; exact ⟨rfl, Keeps.refl _ _⟩)
        focus (intro xx yy h; rfl)
        focus kernel_rfl
        apply chP_pure
        focus
          intro xx w' hk hF
          first
          | (refine wr_skip rfl ?_; apply wr_nil; exact ⟨rfl, Keeps.refl _ _⟩)
          | (refine wr_call (vs := [SetV ta tv, SetV W.1 nv]) rfl (same_ca (ta, tl) W _ _ w' (htR10 (hk0 hk)) (hWR10 (hk0 hk)) hta.2.1 hWl) rfl ?_; rintro v w'' ⟨rfl, hkc⟩; apply wr_nil; exact ⟨rfl, hkc⟩)
        focus (intro xx yy h; rfl)
        focus kernel_rfl
        apply chP_pure
        focus
          intro xx w' hk hF
          first
          | (refine wr_skip rfl ?_; apply wr_nil; exact ⟨rfl, Keeps.refl _ _⟩)
          | ((apply wr_not; iterate 2 exact rfl); apply wr_nil; exact ⟨rfl, Keeps.refl _ _⟩)
        focus (intro xx yy h; rfl)
        focus kernel_rfl
        apply chP_pure
        focus
          intro xx w' hk hF
          first
          | (apply wr_pick (t := true); (iterate 2 exact rfl); with_reducible (conv => enter [6, 3]; whnf); apply wr_nil; exact ⟨rfl, Keeps.refl _ _⟩)
          | (apply wr_pick (t := false); (iterate 2 exact rfl); with_reducible (conv => enter [6, 3]; whnf); apply wr_nil; exact ⟨rfl, Keeps.refl _ _⟩)
        focus (intro xx yy h; rfl)
        focus kernel_rfl
        apply chP_pure
        focus
          intro xx w' hk hF
          refine wr_call (vs := [.bool (!sameP (ta, tl) W), .int .i64 5]) rfl (need_ca (!sameP (ta, tl) W) 5 w') rfl ?_
          rintro v w'' ⟨rfl, rfl⟩
          apply wr_nil
          exact ⟨rfl, Keeps.refl _ _⟩
        focus (intro xx yy h; rfl)
        focus kernel_rfl
        apply chP_pure
        focus
          intro xx w' hk hF
          apply wr_move; exact rfl; with_reducible (conv => enter [6, 3]; whnf)
          apply wr_nil
          exact ⟨rfl, Keeps.refl _ _⟩
        focus (intro xx yy h; rfl)
        focus kernel_rfl
        apply chP_pure
        focus
          intro xx w' hk hF
          apply wr_move; exact rfl; with_reducible (conv => enter [6, 3]; whnf)
          apply wr_nil
          exact ⟨rfl, Keeps.refl _ _⟩
        focus (intro xx yy h; rfl)
        focus kernel_rfl
        apply chP_pure
        focus
          intro xx w' hk hF
          apply wr_move; exact rfl; with_reducible (conv => enter [6, 3]; whnf)
          apply wr_nil
          exact ⟨rfl, Keeps.refl _ _⟩
        focus (intro xx yy h; rfl)
        focus kernel_rfl
        refine chP_fact (fun y => .slice (some ⟨blkOf y, 0, none⟩) 3 3) (fun y w' => w'.heap[blkOf y]? = some (.cells #[.slice aa (listP W).length ac, nilV, nilV] 24 (0, 0))) (fun y w' w'' h k => k.heap h (fun h => h)) ?_ ?_
        focus
          intro xx w' hk hF
          refine wr_buildSlice (vs := [.slice aa (listP W).length ac, nilV, nilV]) rfl rfl (by intro v hv; simp at hv; rcases hv with rfl | rfl | rfl <;> rfl) rfl (by decide) (by decide) (by decide) ?_
          apply wr_nil
          exact ⟨.pointer (some ⟨w'.heap.size, 0, none⟩), rfl, heap_alloc_same _ _, (Keeps.refl _ _).alloc _⟩
        apply chP_pure
        focus
          intro xx w' hk hF
          refine wr_call (vs := [.slice (some ⟨blkOf (xx 17), 0, none⟩) 3 3]) rfl (shortX_ca (b := true) [(.slice aa (listP W).length ac, (listP W).length), (nilV, 0), (nilV, 0)] (hsh) (by simp) (by intro x hx; simp at hx; rcases hx with rfl | rfl | rfl <;> exact ⟨_, _, rfl⟩) (blkOf (xx 17)) _ _ w' (hF 17 (by kernel_rfl))) rfl ?_
          rintro v w'' ⟨rfl, rfl⟩
          apply wr_nil
          exact ⟨rfl, Keeps.refl _ _⟩
        focus (intro xx yy h; rfl)
        focus kernel_rfl
        apply chP_pure
        focus
          intro xx w' hk hF
          apply wr_move; exact rfl; with_reducible (conv => enter [6, 3]; whnf)
          apply wr_nil
          exact ⟨rfl, Keeps.refl _ _⟩
        focus (intro xx yy h; rfl)
        focus kernel_rfl
        apply chP_pure
        focus
          intro xx w' hk hF
          first
          | (refine wr_skip rfl ?_; apply wr_nil; exact ⟨rfl, Keeps.refl _ _⟩)
          | ((apply wr_move; exact rfl; with_reducible (conv => enter [6, 3]; whnf)); apply wr_nil; exact ⟨rfl, Keeps.refl _ _⟩)
        focus (intro xx yy h; rfl)
        focus kernel_rfl
        apply chP_pure
        focus
          intro xx w' hk hF
          first
          | (refine wr_skip rfl ?_; apply wr_nil; exact ⟨rfl, Keeps.refl _ _⟩)
          | ((apply wr_len_slice; iterate 2 exact rfl); apply wr_nil; exact ⟨rfl, Keeps.refl _ _⟩)
        focus (intro xx yy h; rfl)
        focus kernel_rfl
        apply chP_pure
        focus
          intro xx w' hk hF
          first
          | (refine wr_skip rfl ?_; apply wr_nil; exact ⟨rfl, Keeps.refl _ _⟩)
          | ((refine wr_cmp (c := decide (hv.length ≤ 64)) rfl rfl rfl (by rcases Decidable.em (hv.length ≤ 64) with h64 | h64; (rw [decide_eq_true h64]; exact cmpT (by dsimp only [cmpP]; omega)); (rw [decide_eq_false h64]; exact cmpF (by dsimp only [cmpN]; omega))) ?_); apply wr_nil; exact ⟨rfl, Keeps.refl _ _⟩)
        focus (intro xx yy h; rfl)
        focus kernel_rfl
        apply chP_pure
        focus
          intro xx w' hk hF
          first
          | (apply wr_pick (t := true); (iterate 2 exact rfl); with_reducible (conv => enter [6, 3]; whnf); apply wr_nil; exact ⟨rfl, Keeps.refl _ _⟩)
          | (apply wr_pick (t := false); (iterate 2 exact rfl); with_reducible (conv => enter [6, 3]; whnf); apply wr_nil; exact ⟨rfl, Keeps.refl _ _⟩)
        focus (intro xx yy h; rfl)
        focus kernel_rfl
        apply chP_pure
        focus
          intro xx w' hk hF
          refine wr_call (vs := [.bool (decide (hv.length ≤ 64)), .int .i64 4]) rfl (need_ca (decide (hv.length ≤ 64)) 4 w') rfl ?_
          rintro v w'' ⟨rfl, rfl⟩
          apply wr_nil
          exact ⟨rfl, Keeps.refl _ _⟩
        focus (intro xx yy h; rfl)
        focus kernel_rfl
        refine chP_fact (fun y => .slice (some ⟨blkOf y, 0, none⟩) 3 3) (fun y w' => w'.heap[blkOf y]? = some (.cells #[erV (errOf (typedB k) 1), erV (errOf (!sameP (ta, tl) W) 5), erV (errOf (decide (hv.length ≤ 64)) 4)] 97 (0, 0))) (fun y w' w'' h k => k.heap h (fun h => h)) ?_ ?_
        focus
          intro xx w' hk hF
          refine wr_buildSlice (vs := [erV (errOf (typedB k) 1), erV (errOf (!sameP (ta, tl) W) 5), erV (errOf (decide (hv.length ≤ 64)) 4)]) rfl rfl (by intro v hv; simp at hv; rcases hv with rfl | rfl | rfl <;> exact er_size _) rfl (by decide) (by decide) (by decide) ?_
          apply wr_nil
          exact ⟨.pointer (some ⟨w'.heap.size, 0, none⟩), rfl, (by rw [← er3]; exact heap_alloc_same _ _), (Keeps.refl _ _).alloc _⟩
        apply chP_pure
        focus
          intro xx w' hk hF
          refine wr_call (vs := [.slice (some ⟨blkOf (xx 25), 0, none⟩) 3 3]) rfl (first_ca [errOf (typedB k) 1, errOf (!sameP (ta, tl) W) 5, errOf (decide (hv.length ≤ 64)) 4] (by simp) (blkOf (xx 25)) _ _ w' (hF 25 (by kernel_rfl))) rfl ?_
          rintro v w'' ⟨rfl, rfl⟩
          apply wr_nil
          exact ⟨rfl, Keeps.refl _ _⟩
        focus (intro xx yy h; rfl)
        focus kernel_rfl
        apply chP_pure
        focus
          intro xx w' hk hF
          apply wr_assign; exact rfl; with_reducible (conv => enter [6, 3]; whnf)
          apply wr_nil
          exact ⟨rfl, Keeps.refl _ _⟩
        focus (intro xx yy h; rfl)
        focus kernel_rfl
        refine chP_nil ?_
        intro yy w11 hk11' hF
        have hk11 := hk0 hk11'
        clear hF
        have hkf11 := hkf10.trans hk11
        have hc111 := hk11.heap hc110 (fun h => h)
        have hc211 := hk11.heap hc210 (fun h => h)
        have hc311 := hk11.heap hc310 (fun h => h)
        have hc411 := hk11.heap hc410 (fun h => h)
        have hc911 := hk11.heap hc910 (fun h => h)
        rw [show firstO _ = er from heq.symm]
        (repeat first | (apply wr_move; exact rfl; with_reducible (conv => enter [6, 3]; whnf)) | apply wr_end | apply wc_seq | apply wc_region)
        refine wr_bin rfl rfl rfl (by cases er <;> simp [eqGuard, erV]) (run_neEr er _) ?_
        cases er with
        | some e =>
          have hc1d : w11.drew.heap[bw1]? = _ := hc111
          have hED : ∀ {w'}, Keeps (fun q => q = bw3 ∨ q = bw4) w11.drew w' → ErrT w' := fun hk => by
            obtain ⟨T, fr, hg⟩ := hE
            have hl := lt_of_heap hg
            exact ⟨T, fr, hk.heap (hkf11.heap hg (fun h => h)) (fun e => by omega)⟩
          (repeat first | apply wr_end | apply wc_seq | (apply wc_true; exact rfl))
          refine V.L.wc_drawL (l := _) (V.L.duo w11.drew 4 5 bw3 bw4 (.cells (GCl (newC false)).toArray 32 (0, 0)) (.cells zeroRq.toArray 42 (0, 0)) (.cells (GCl c).toArray 32 (0, 0)) (.cells zeroRq.toArray 42 (0, 0))) (by kernel_rfl) (by kernel_rfl) ⟨Keeps.refl _ _, hc311, hc411⟩ ?_
          apply V.L.ch_step
          focus
            apply V.L.duo_read rfl rfl
            intro w hk
            refine wr_loadAll (cs := GCl c) rfl rfl rfl (hk.heap hc1d (fun e => by omega)) (GCl_len h.len) ?_
            apply wr_nil
            exact ⟨rfl, Keeps.refl _ _⟩
          apply V.L.ch_step
          focus
            apply V.L.duo_read rfl rfl
            intro w hk
            refine wr_build (ps := []) (cs := zeroRq) rfl rfl rfl rfl ?_
            apply wr_nil
            exact ⟨rfl, Keeps.refl _ _⟩
          apply V.L.ch_step
          focus
            apply V.L.duo_read rfl rfl
            intro w hk
            apply wr_move; exact rfl; with_reducible (conv => enter [6, 3]; whnf)
            apply wr_nil
            exact ⟨rfl, Keeps.refl _ _⟩
          apply V.L.ch_step
          focus
            apply V.L.duo_read rfl rfl
            intro w hk
            refine wr_call (vs := [erV (some e)]) rfl (told_ca (some e) w (hED hk)) rfl ?_
            rintro v w' ⟨rfl, hk'⟩
            apply wr_nil
            exact ⟨rfl, hk'⟩
          apply V.L.ch_step
          focus
            apply V.L.duo_st1 (by omega) rfl
            intro w hk hb
            refine wr_storeAll (cs := GCl c) rfl rfl rfl (GCl_one h) hb (GCl_len h.len) rfl ?_
            apply wr_nil
            exact ⟨rfl, rfl⟩
          apply V.L.ch_step
          focus
            apply V.L.duo_st2 (by omega) rfl
            intro w hk hb
            refine wr_storeAll (cs := zeroRq) rfl rfl rfl zeroRq_one hb rfl rfl ?_
            apply wr_nil
            exact ⟨rfl, rfl⟩
          apply V.L.ch_step
          focus
            apply V.L.duo_read rfl rfl
            intro w hk
            apply wr_assign; exact rfl; with_reducible (conv => enter [6, 3]; whnf)
            apply wr_nil
            exact ⟨rfl, Keeps.refl _ _⟩
          refine V.L.ch_nil ?_
          intro w12 hS
          obtain ⟨hk12, hc312, hc412⟩ := V.L.duo_end hS (by kernel_rfl) (by kernel_rfl)
          (repeat first | (apply wc_ret; try simp only [thenE, inBlockE, bodyQ]))
          exact leaveN (vs := [CliV c, .agg zeroRq.toArray, .int .i64 e]) (resv_cells (cs := GCl c) (e := 32) (fr := (0, 0)) rfl rfl hc312 (GCl_len h.len) (resv_cells (cs := zeroRq) (e := 42) (fr := (0, 0)) rfl rfl hc412 rfl (resv_tmp rfl resv_nil))) ⟨.inl ⟨e, by trivial, rfl⟩, hkf11.drew.trans' hk12 (fun i hi e => by rcases e with e | e <;> omega)⟩
        | none =>
          have hl64 : hv.length ≤ 64 := by
            rcases Decidable.em (hv.length ≤ 64) with h | h
            · exact h
            · rw [decide_eq_false h] at heq
              exact absurd heq.symm (firstO_last _ _ _ _ _)
          (repeat first | (apply wr_move; exact rfl; with_reducible (conv => enter [6, 3]; whnf)) | apply wr_end | apply wc_seq | apply wc_region | apply wc_skip | (apply wr_fieldAddr; iterate 2 exact rfl) | (apply wr_load; (iterate 3 exact rfl); (focus repeat first | with_reducible assumption | exact heap_alloc_same _ _ | exact World.putObj_heap_same (by first | omega | (simp only [World.size_alloc, World.putObj_size, ne_eq]; omega)) | ((first | refine hAl ?_ ?_ | refine hPu ?_ ?_); focus first | omega | (simp only [World.size_alloc, World.putObj_size, ne_eq]; omega))); exact rfl; conv => enter [6, 3]; whnf) | (apply wc_false; exact rfl))
          refine wr_build (ps := [(0, .int .i64 k), (1, .bool c.1), (2, .int .u64 (no : Int)), (3, .slice aa (listP W).length ac)]) (cs := GRq k c.1 no (.slice aa (listP W).length ac) nilV nilV []) rfl rfl rfl rfl ?_
          (repeat first | (apply wr_alloc; exact rfl))
          refine wr_storeAll (cs := GRq k c.1 no (.slice aa (listP W).length ac) nilV nilV []) rfl rfl rfl (GRq_one rfl rfl rfl) (heap_alloc_same _ _) rfl rfl ?_
          refine wr_name ?_
          intro w12 hww12
          obtain ⟨bw12, hbw12⟩ : ∃ b, b = (w11).heap.size := ⟨_, rfl⟩
          have hkw12 : Keeps NoB w11 w12 := by rw [hww12]; exact ((Keeps.refl NoB w11).alloc _).put _ (fun h => by omega)
          have hcw12 : (w12).heap[bw12]? = some (.cells (GRq k c.1 no (.slice aa (listP W).length ac) nilV nilV []).toArray 42 (0, 0)) := by rw [hww12, hbw12]; exact World.putObj_heap_same (by simp)
          rw [← hbw12]
          clear hww12
          have hc112 := hkw12.heap hc111 (fun h => h)
          have hc212 := hkw12.heap hc211 (fun h => h)
          have hc312 := hkw12.heap hc311 (fun h => h)
          have hc412 := hkw12.heap hc411 (fun h => h)
          have hc912 := hkw12.heap hc911 (fun h => h)
          have hkf12 := hkf11.trans hkw12
          have hl11 := lt_of_heap hc411
          have hl911 := lt_of_heap hc911
          have hall12 := own_keep hall (hk11.trans hkw12) (fun _ _ h => h)
          (repeat first | apply wr_end | apply wc_seq | apply wc_region | (apply wr_fieldAddr; iterate 2 exact rfl) | (apply wr_load; (iterate 3 exact rfl); (focus repeat first | with_reducible assumption | exact heap_alloc_same _ _ | exact World.putObj_heap_same (by first | omega | (simp only [World.size_alloc, World.putObj_size, ne_eq]; omega)) | ((first | refine hAl ?_ ?_ | refine hPu ?_ ?_); focus first | omega | (simp only [World.size_alloc, World.putObj_size, ne_eq]; omega))); exact rfl; conv => enter [6, 3]; whnf))
          rw [hd]
          (repeat first | apply wc_seq | apply wc_region | apply wc_skip | (apply wc_false; exact rfl))
          have hk16 : Keeps (· = bw12) w12 w12 := Keeps.refl _ _
          have hl12 : bw12 < w12.heap.size := lt_of_heap hcw12
          have hl1211 : w11.heap.size ≤ bw12 := by omega
          have hk15 := hkf12
          have hc216 := hc212
          have hc916 := hc912
          have hc116 := hc112
          have hc315 := hc312
          have hc415 := hc412
          have hc16 := hcw12
          have hcw15 := hcw12
          have hnv15 : w12.ownsRow n4 9 1 nv W.2.length (SL W.2) := own_keep hnv9 ((hk10.trans hk11).trans hkw12) (fun _ _ h => h)
          have hmore15 := own_keep hmore (hk11.trans hkw12) (fun _ _ h => h)
          have hless15 := own_keep hless (hk11.trans hkw12) (fun _ _ h => h)
          refine wr_loadAll (cs := [.bool W.1, nv]) rfl rfl rfl hc216 rfl ?_
          (repeat first | (apply wr_fieldAddr; iterate 2 exact rfl))
          have hnv16 := own_keep hnv15 hk16 (fun q hq e => own_neT hnv15 hcw15 (by decide) q hq e)
          have hmore16 := own_keep hmore15 hk16 (fun q hq e => own_neT hmore15 hcw15 (by decide) q hq e)
          have hless16 := own_keep hless15 hk16 (fun q hq e => own_neT hless15 hcw15 (by decide) q hq e)
          have hk016 : Keeps NoB w w12 := hk15.trans' hk16 (fun i hi e => by omega)
          refine wr_storePart (cs := [.bool W.1, nv]) rfl rfl rfl (by intro u hu; simp at hu; rcases hu with rfl | rfl; rfl; exact own_one hnv16) hc916 rfl (by show 2 ≤ 4; decide) ?_
          generalize hw17 : World.putObj w12 _ _ = w17
          have hc917 : w17.heap[bw9]? = some (.cells #[.bool W.1, nv, .bool true, .int .u64 (no : Int)] 29 (0, 0)) := by rw [← hw17]; exact World.putObj_heap_same (lt_of_heap hc916)
          have hk17 : Keeps (· = bw9) w12 w17 := by rw [← hw17]; exact (Keeps.refl _ w12).put _ (fun _ => rfl)
          clear hw17
          (repeat first | (apply wr_move; exact rfl; with_reducible (conv => enter [6, 3]; whnf)) | apply wr_end | apply wc_seq | apply wc_region | (apply wr_fieldAddr; iterate 2 exact rfl) | (apply wr_store; (iterate 3 exact rfl); (first | exact rfl | with_reducible assumption); (focus repeat first | with_reducible assumption | exact heap_alloc_same _ _ | exact World.putObj_heap_same (by first | omega | (simp only [World.size_alloc, World.putObj_size, ne_eq]; omega)) | ((first | refine hAl ?_ ?_ | refine hPu ?_ ?_); focus first | omega | (simp only [World.size_alloc, World.putObj_size, ne_eq]; omega))); exact rfl))
          generalize hw18 : World.putObj w17 _ _ = w18
          have hc918 : w18.heap[bw9]? = some (.cells (GTp ((W, nv), true, no)).toArray 29 (0, 0)) := by rw [← hw18]; exact World.putObj_heap_same (lt_of_heap hc917)
          have hk18 : Keeps (· = bw9) w12 w18 := hk17.trans (by rw [← hw18]; exact (Keeps.refl _ w17).put _ (fun _ => rfl))
          clear hw18
          have hc118 := hk18.heap hc116 (fun e => by omega)
          have hc318 := hk18.heap (hk16.heap hc315 (fun e => by omega)) (fun e => by omega)
          have hc418 := hk18.heap (hk16.heap hc415 (fun e => by omega)) (fun e => by omega)
          have hc1218 := hk18.heap hc16 (fun e => by omega)
          skip
          refine wr_loadAll (cs := GTp ((W, nv), true, no)) rfl rfl rfl hc918 rfl ?_
          have hty : typedB k = true := by
            cases hty : typedB k with
            | true => rfl
            | false => rw [hty] at heq; simp [firstO, errOf] at heq
          have hk15' : 1 ≤ k ∧ k ≤ 5 := by unfold typedB at hty; simpa using hty
          obtain ⟨q, rfl⟩ := Int.eq_ofNat_of_zero_le (show 0 ≤ k by omega)
          have hq6 : q < 6 := by omega
          obtain ⟨t1, htq⟩ : ∃ t, c.2[q]? = some t := ⟨c.2[q]'(by rw [h.len]; omega), by simp [h.len, hq6]⟩
          have hac : askC c (q : Int) W nv = (c.1, c.2.set q ((W, nv), true, no)) := by unfold askC; rw [← ht, Int.toNat_natCast]; rfl
          (repeat first | (apply wr_fieldAddr; iterate 2 exact rfl))
          refine wr_indexArr (i := q) rfl rfl rfl hq6 ?_
          have hnvw : TpAt w12 ((W, nv), true, no) := ⟨SlR.of_own hnv16, hWl, hta.2.2⟩
          refine wr_storePart (cs := GTp ((W, nv), true, no)) rfl rfl rfl (GTp_one hnvw) hc118 rfl (by rw [List.size_toArray, GCl_len h.len]; show 0 + 1 + q * 4 + 4 ≤ 25; omega) ?_
          generalize hw19 : World.putObj w18 _ _ = w19
          have hc119 : w19.heap[bw1]? = some (.cells (GCl (askC c (q : Int) W nv)).toArray 32 (0, 0)) := by
            rw [← hw19, hac, ← GCl_setT htq]
            exact World.putObj_heap_same (lt_of_heap hc118)
          have hk19 : Keeps (· = bw1) w18 w19 := by rw [← hw19]; exact (Keeps.refl _ w18).put _ (fun _ => rfl)
          clear hw19
          have hc1219 := hk19.heap hc1218 (fun e => by omega)
          have hc319 := hk19.heap hc318 (fun e => by omega)
          have hc419 := hk19.heap hc418 (fun e => by omega)
          have hc119d : w19.drew.heap[bw1]? = _ := hc119
          have hc1219d : w19.drew.heap[bw12]? = _ := hc1219
          have hl6 : (askC c (q : Int) W nv).2.length = 6 := by rw [hac]; simp [h.len]
          have hone : ∀ u ∈ GCl (askC c (q : Int) W nv), u.oneCell' = true := by
            rw [hac]
            intro u hu
            simp only [GCl, List.mem_cons, List.mem_flatMap] at hu
            rcases hu with rfl | ⟨y, hy, hu⟩
            · rfl
            · rcases List.mem_or_eq_of_mem_set hy with hy | rfl
              · exact GTp_one (h.at' y hy) u hu
              · exact GTp_one hnvw u hu
          (repeat first | apply wr_end | apply wc_seq)
          refine V.L.wc_drawL (l := _) (V.L.duo w19.drew 2 3 bw3 bw4 (.cells (GCl (newC false)).toArray 32 (0, 0)) (.cells zeroRq.toArray 42 (0, 0)) (.cells (GCl (askC c (q : Int) W nv)).toArray 32 (0, 0)) (.cells (GRq (q : Int) c.1 no (.slice aa (listP W).length ac) nilV nilV []).toArray 42 (0, 0))) (by kernel_rfl) (by kernel_rfl) ⟨Keeps.refl _ _, hc319, hc419⟩ ?_
          apply V.L.ch_step
          focus
            apply V.L.duo_read rfl rfl
            intro w hk
            refine wr_loadAll (cs := GCl (askC c (q : Int) W nv)) rfl rfl rfl (hk.heap hc119d (fun e => by omega)) (GCl_len hl6) ?_
            apply wr_nil
            exact ⟨rfl, Keeps.refl _ _⟩
          apply V.L.ch_step
          focus
            apply V.L.duo_read rfl rfl
            intro w hk
            refine wr_loadAll (cs := GRq (q : Int) c.1 no (.slice aa (listP W).length ac) nilV nilV []) rfl rfl rfl (hk.heap hc1219d (fun e => by omega)) rfl ?_
            apply wr_nil
            exact ⟨rfl, Keeps.refl _ _⟩
          apply V.L.ch_step
          focus
            apply V.L.duo_st1 (by omega) rfl
            intro w hk hb
            refine wr_storeAll (cs := GCl (askC c (q : Int) W nv)) rfl rfl rfl hone hb (GCl_len hl6) rfl ?_
            apply wr_nil
            exact ⟨rfl, rfl⟩
          apply V.L.ch_step
          focus
            apply V.L.duo_st2 (by omega) rfl
            intro w hk hb
            refine wr_storeAll (cs := GRq (q : Int) c.1 no (.slice aa (listP W).length ac) nilV nilV []) rfl rfl rfl (GRq_one rfl rfl (rfl)) hb rfl rfl ?_
            apply wr_nil
            exact ⟨rfl, rfl⟩
          apply V.L.ch_step
          focus
            apply V.L.duo_read rfl rfl
            intro w hk
            apply wr_assign; exact rfl; with_reducible (conv => enter [6, 3]; whnf)
            apply wr_nil
            exact ⟨rfl, Keeps.refl _ _⟩
          refine V.L.ch_nil ?_
          intro w20 hS
          obtain ⟨hk20, hc320, hc420⟩ := V.L.duo_end hS (by kernel_rfl) (by kernel_rfl)
          have kp : ∀ {T : TypeId} {sz m : Nat} {v : Value} {xs : List Value}, w12.ownsRow n4 T sz v m xs → T ≠ 29 → T ≠ 32 → T ≠ 42 → w20.ownsRow bw1 T sz v m xs := fun ho h1 h2 h3 => by
            have o1 := own_keep ho hk18 (own_neT ho hc916 h1)
            have o2 := own_keep o1 hk19 (own_neT o1 hc118 h2)
            have o3 := own_keep o2 ((Keeps.refl NoB w19).drew.upD.trans hk20) (fun q hq e => e.elim (own_neT o2 hc319 h2 q hq) (own_neT o2 hc419 h3 q hq))
            exact own_down o3 (by omega)
          have hkf20 : Keeps NoB w w20 := ((hk016.trans' hk18 (fun i hi e => by omega)).trans' hk19 (fun i hi e => by omega)).drew.trans' hk20 (fun i hi e => by rcases e with e | e <;> omega)
          (repeat first | (apply wc_ret; try simp only [thenE, inBlockE, bodyQ]))
          refine leaveN (vs := [CliV (askC c (q : Int) W nv), .agg (GRq (q : Int) c.1 no (.slice aa (listP W).length ac) nilV nilV []).toArray, .int .i64 0]) (resv_cells (cs := GCl (askC c (q : Int) W nv)) (e := 32) (fr := (0, 0)) rfl rfl hc320 (GCl_len hl6) (resv_cells (cs := GRq (q : Int) c.1 no (.slice aa (listP W).length ac) nilV nilV []) (e := 42) (fr := (0, 0)) rfl rfl hc420 rfl (resv_tmp rfl resv_nil))) ⟨.inr ⟨by trivial, ?_⟩, hkf20⟩
          refine ⟨nv, .slice aa (listP W).length ac, nilV, nilV, by rw [if_neg (by rw [hd]; decide), ← ht]; rfl, kp hnv16 (by decide) (by decide) (by decide), ⟨_, rfl, ?_⟩, ⟨_, rfl, ?_⟩, ⟨_, rfl, ?_⟩⟩
          focus
            rw [if_neg (by rw [hd]; decide)]
            exact kp hall12 (by decide) (by decide) (by decide)
          focus
            unfold lessL
            rw [if_neg (by rw [hd]; decide)]
            exact own_nilV _ _ _ _
          rw [if_neg (by rw [hd]; decide)]
          exact own_nilV _ _ _ _
      | false =>
        have heq : er = firstO [errOf (typedB k) 1, errOf (!sameP (ta, tl) W) 5, errOf false 4] := by
          rw [hsimp, hsh]
          simp only [Bool.not_true, Bool.false_or, Bool.false_and]
        refine wc_drawP (l := _) 28 _ (by kernel_rfl) (by kernel_rfl) rfl (by kernel_rfl) (by kernel_rfl) (by decide) ?_
        apply chP_pure
        focus
          intro xx w' hk hF
          apply wr_move; exact rfl; with_reducible (conv => enter [6, 3]; whnf)
          apply wr_nil
          exact ⟨rfl, Keeps.refl _ _⟩
        focus (intro xx yy h; rfl)
        focus kernel_rfl
        apply chP_pure
        focus
          intro xx w' hk hF
          refine wr_call (vs := [.int .i64 k]) rfl (typed_ca k w') rfl ?_
          rintro v w'' ⟨rfl, rfl⟩
          apply wr_nil
          exact ⟨rfl, Keeps.refl _ _⟩
        focus (intro xx yy h; rfl)
        focus kernel_rfl
        apply chP_pure
        focus
          intro xx w' hk hF
          refine wr_call (vs := [.bool (typedB k), .int .i64 1]) rfl (need_ca (typedB k) 1 w') rfl ?_
          rintro v w'' ⟨rfl, rfl⟩
          apply wr_nil
          exact ⟨rfl, Keeps.refl _ _⟩
        focus (intro xx yy h; rfl)
        focus kernel_rfl
        apply chP_pure
        focus
          intro xx w' hk hF
          refine wr_fieldAddr rfl rfl ?_
          apply wr_nil
          exact ⟨rfl, Keeps.refl _ _⟩
        focus (intro xx yy h; rfl)
        focus kernel_rfl
        apply chP_pure
        focus
          intro xx w' hk hF
          refine wr_load (v := .bool true) rfl rfl rfl ((hk0 hk).heap hc910 (fun h => h)) rfl ?_
          apply wr_nil
          exact ⟨rfl, Keeps.refl _ _⟩
        focus (intro xx yy h; rfl)
        focus kernel_rfl
        apply chP_pure
        focus
          intro xx w' hk hF
          apply wr_not; iterate 2 exact rfl
          apply wr_nil
          exact ⟨rfl, Keeps.refl _ _⟩
        focus (intro xx yy h; rfl)
        focus kernel_rfl
        apply chP_pure
        focus
          intro xx w' hk hF
          apply wr_move; exact rfl; with_reducible (conv => enter [6, 3]; whnf)
          apply wr_nil
          exact ⟨rfl, Keeps.refl _ _⟩
        focus (intro xx yy h; rfl)
        focus kernel_rfl
        apply chP_pure
        focus
          intro xx w' hk hF
          first
          | (refine wr_skip rfl ?_; apply wr_nil; exact ⟨rfl, Keeps.refl _ _⟩)
          | ((refine wr_fieldAddr rfl rfl ?_); apply wr_nil; exact ⟨rfl, Keeps.refl _ _⟩)
        focus (intro xx yy h; rfl)
        focus kernel_rfl
        apply chP_pure
        focus
          intro xx w' hk hF
          first
          | (refine wr_skip rfl ?_; apply wr_nil; exact ⟨rfl, Keeps.refl _ _⟩)
          | ((refine wr_loadAgg (cs := [.bool ta, tv]) rfl rfl rfl rfl (fun q u hq => cell_of_heap ((hk0 hk).heap hc910 (fun h => h)) (by match q, hq with | 0, hq => exact hq | 1, hq => exact hq | q + 2, hq => simp at hq)) ?_); apply wr_nil; exact ⟨rfl, Keeps.refl _ _⟩)
        focus (intro xx yy h; rfl)
        focus kernel_rfl
        apply chP_pure
        focus
          intro xx w' hk hF
          first
          | (refine wr_skip rfl ?_; apply wr_nil; exact ⟨rfl, Keeps.refl _ _⟩)
          | ((refine wr_loadAll (cs := [.bool W.1, nv]) rfl rfl rfl ((hk0 hk).heap hc210 (fun h => h)) rfl ?_); apply wr_nil; exact ⟨rfl, Keeps.refl _ _⟩)
        focus (intro xx yy h; rfl)
        focus kernel_rfl
        apply chP_pure
        focus
          intro xx w' hk hF
          first
          | (refine wr_skip rfl ?_; apply wr_nil; exact ⟨rfl, Keeps.refl _ _⟩)
          | (refine wr_call (vs := [SetV ta tv, SetV W.1 nv]) rfl (same_ca (ta, tl) W _ _ w' (htR10 (hk0 hk)) (hWR10 (hk0 hk)) hta.2.1 hWl) rfl ?_; rintro v w'' ⟨rfl, hkc⟩; apply wr_nil; exact ⟨rfl, hkc⟩)
        focus (intro xx yy h; rfl)
        focus kernel_rfl
        apply chP_pure
        focus
          intro xx w' hk hF
          first
          | (refine wr_skip rfl ?_; apply wr_nil; exact ⟨rfl, Keeps.refl _ _⟩)
          | ((apply wr_not; iterate 2 exact rfl); apply wr_nil; exact ⟨rfl, Keeps.refl _ _⟩)
        focus (intro xx yy h; rfl)
        focus kernel_rfl
        apply chP_pure
        focus
          intro xx w' hk hF
          first
          | (apply wr_pick (t := true); (iterate 2 exact rfl); with_reducible (conv => enter [6, 3]; whnf); apply wr_nil; exact ⟨rfl, Keeps.refl _ _⟩)
          | (apply wr_pick (t := false); (iterate 2 exact rfl); with_reducible (conv => enter [6, 3]; whnf); apply wr_nil; exact ⟨rfl, Keeps.refl _ _⟩)
        focus (intro xx yy h; rfl)
        focus kernel_rfl
        apply chP_pure
        focus
          intro xx w' hk hF
          refine wr_call (vs := [.bool (!sameP (ta, tl) W), .int .i64 5]) rfl (need_ca (!sameP (ta, tl) W) 5 w') rfl ?_
          rintro v w'' ⟨rfl, rfl⟩
          apply wr_nil
          exact ⟨rfl, Keeps.refl _ _⟩
        focus (intro xx yy h; rfl)
        focus kernel_rfl
        apply chP_pure
        focus
          intro xx w' hk hF
          apply wr_move; exact rfl; with_reducible (conv => enter [6, 3]; whnf)
          apply wr_nil
          exact ⟨rfl, Keeps.refl _ _⟩
        focus (intro xx yy h; rfl)
        focus kernel_rfl
        apply chP_pure
        focus
          intro xx w' hk hF
          apply wr_move; exact rfl; with_reducible (conv => enter [6, 3]; whnf)
          apply wr_nil
          exact ⟨rfl, Keeps.refl _ _⟩
        focus (intro xx yy h; rfl)
        focus kernel_rfl
        apply chP_pure
        focus
          intro xx w' hk hF
          apply wr_move; exact rfl; with_reducible (conv => enter [6, 3]; whnf)
          apply wr_nil
          exact ⟨rfl, Keeps.refl _ _⟩
        focus (intro xx yy h; rfl)
        focus kernel_rfl
        refine chP_fact (fun y => .slice (some ⟨blkOf y, 0, none⟩) 3 3) (fun y w' => w'.heap[blkOf y]? = some (.cells #[.slice aa (listP W).length ac, nilV, nilV] 24 (0, 0))) (fun y w' w'' h k => k.heap h (fun h => h)) ?_ ?_
        focus
          intro xx w' hk hF
          refine wr_buildSlice (vs := [.slice aa (listP W).length ac, nilV, nilV]) rfl rfl (by intro v hv; simp at hv; rcases hv with rfl | rfl | rfl <;> rfl) rfl (by decide) (by decide) (by decide) ?_
          apply wr_nil
          exact ⟨.pointer (some ⟨w'.heap.size, 0, none⟩), rfl, heap_alloc_same _ _, (Keeps.refl _ _).alloc _⟩
        apply chP_pure
        focus
          intro xx w' hk hF
          refine wr_call (vs := [.slice (some ⟨blkOf (xx 17), 0, none⟩) 3 3]) rfl (shortX_ca (b := false) [(.slice aa (listP W).length ac, (listP W).length), (nilV, 0), (nilV, 0)] (hsh) (by simp) (by intro x hx; simp at hx; rcases hx with rfl | rfl | rfl <;> exact ⟨_, _, rfl⟩) (blkOf (xx 17)) _ _ w' (hF 17 (by kernel_rfl))) rfl ?_
          rintro v w'' ⟨rfl, rfl⟩
          apply wr_nil
          exact ⟨rfl, Keeps.refl _ _⟩
        focus (intro xx yy h; rfl)
        focus kernel_rfl
        apply chP_pure
        focus
          intro xx w' hk hF
          apply wr_move; exact rfl; with_reducible (conv => enter [6, 3]; whnf)
          apply wr_nil
          exact ⟨rfl, Keeps.refl _ _⟩
        focus (intro xx yy h; rfl)
        focus kernel_rfl
        apply chP_pure
        focus
          intro xx w' hk hF
          first
          | (refine wr_skip rfl ?_; apply wr_nil; exact ⟨rfl, Keeps.refl _ _⟩)
          | ((apply wr_move; exact rfl; with_reducible (conv => enter [6, 3]; whnf)); apply wr_nil; exact ⟨rfl, Keeps.refl _ _⟩)
        focus (intro xx yy h; rfl)
        focus kernel_rfl
        apply chP_pure
        focus
          intro xx w' hk hF
          first
          | (refine wr_skip rfl ?_; apply wr_nil; exact ⟨rfl, Keeps.refl _ _⟩)
          | ((apply wr_len_slice; iterate 2 exact rfl); apply wr_nil; exact ⟨rfl, Keeps.refl _ _⟩)
        focus (intro xx yy h; rfl)
        focus kernel_rfl
        apply chP_pure
        focus
          intro xx w' hk hF
          first
          | (refine wr_skip rfl ?_; apply wr_nil; exact ⟨rfl, Keeps.refl _ _⟩)
          | ((refine wr_cmp (c := decide (hv.length ≤ 64)) rfl rfl rfl (by rcases Decidable.em (hv.length ≤ 64) with h64 | h64; (rw [decide_eq_true h64]; exact cmpT (by dsimp only [cmpP]; omega)); (rw [decide_eq_false h64]; exact cmpF (by dsimp only [cmpN]; omega))) ?_); apply wr_nil; exact ⟨rfl, Keeps.refl _ _⟩)
        focus (intro xx yy h; rfl)
        focus kernel_rfl
        apply chP_pure
        focus
          intro xx w' hk hF
          first
          | (apply wr_pick (t := true); (iterate 2 exact rfl); with_reducible (conv => enter [6, 3]; whnf); apply wr_nil; exact ⟨rfl, Keeps.refl _ _⟩)
          | (apply wr_pick (t := false); (iterate 2 exact rfl); with_reducible (conv => enter [6, 3]; whnf); apply wr_nil; exact ⟨rfl, Keeps.refl _ _⟩)
        focus (intro xx yy h; rfl)
        focus kernel_rfl
        apply chP_pure
        focus
          intro xx w' hk hF
          refine wr_call (vs := [.bool (false), .int .i64 4]) rfl (need_ca (false) 4 w') rfl ?_
          rintro v w'' ⟨rfl, rfl⟩
          apply wr_nil
          exact ⟨rfl, Keeps.refl _ _⟩
        focus (intro xx yy h; rfl)
        focus kernel_rfl
        refine chP_fact (fun y => .slice (some ⟨blkOf y, 0, none⟩) 3 3) (fun y w' => w'.heap[blkOf y]? = some (.cells #[erV (errOf (typedB k) 1), erV (errOf (!sameP (ta, tl) W) 5), erV (errOf (false) 4)] 97 (0, 0))) (fun y w' w'' h k => k.heap h (fun h => h)) ?_ ?_
        focus
          intro xx w' hk hF
          refine wr_buildSlice (vs := [erV (errOf (typedB k) 1), erV (errOf (!sameP (ta, tl) W) 5), erV (errOf (false) 4)]) rfl rfl (by intro v hv; simp at hv; rcases hv with rfl | rfl | rfl <;> exact er_size _) rfl (by decide) (by decide) (by decide) ?_
          apply wr_nil
          exact ⟨.pointer (some ⟨w'.heap.size, 0, none⟩), rfl, (by rw [← er3]; exact heap_alloc_same _ _), (Keeps.refl _ _).alloc _⟩
        apply chP_pure
        focus
          intro xx w' hk hF
          refine wr_call (vs := [.slice (some ⟨blkOf (xx 25), 0, none⟩) 3 3]) rfl (first_ca [errOf (typedB k) 1, errOf (!sameP (ta, tl) W) 5, errOf (false) 4] (by simp) (blkOf (xx 25)) _ _ w' (hF 25 (by kernel_rfl))) rfl ?_
          rintro v w'' ⟨rfl, rfl⟩
          apply wr_nil
          exact ⟨rfl, Keeps.refl _ _⟩
        focus (intro xx yy h; rfl)
        focus kernel_rfl
        apply chP_pure
        focus
          intro xx w' hk hF
          apply wr_assign; exact rfl; with_reducible (conv => enter [6, 3]; whnf)
          apply wr_nil
          exact ⟨rfl, Keeps.refl _ _⟩
        focus (intro xx yy h; rfl)
        focus kernel_rfl
        refine chP_nil ?_
        intro yy w11 hk11' hF
        have hk11 := hk0 hk11'
        clear hF
        have hkf11 := hkf10.trans hk11
        have hc111 := hk11.heap hc110 (fun h => h)
        have hc211 := hk11.heap hc210 (fun h => h)
        have hc311 := hk11.heap hc310 (fun h => h)
        have hc411 := hk11.heap hc410 (fun h => h)
        have hc911 := hk11.heap hc910 (fun h => h)
        rw [show firstO _ = er from heq.symm]
        (repeat first | (apply wr_move; exact rfl; with_reducible (conv => enter [6, 3]; whnf)) | apply wr_end | apply wc_seq | apply wc_region)
        refine wr_bin rfl rfl rfl (by cases er <;> simp [eqGuard, erV]) (run_neEr er _) ?_
        cases er with
        | some e =>
          have hc1d : w11.drew.heap[bw1]? = _ := hc111
          have hED : ∀ {w'}, Keeps (fun q => q = bw3 ∨ q = bw4) w11.drew w' → ErrT w' := fun hk => by
            obtain ⟨T, fr, hg⟩ := hE
            have hl := lt_of_heap hg
            exact ⟨T, fr, hk.heap (hkf11.heap hg (fun h => h)) (fun e => by omega)⟩
          (repeat first | apply wr_end | apply wc_seq | (apply wc_true; exact rfl))
          refine V.L.wc_drawL (l := _) (V.L.duo w11.drew 4 5 bw3 bw4 (.cells (GCl (newC false)).toArray 32 (0, 0)) (.cells zeroRq.toArray 42 (0, 0)) (.cells (GCl c).toArray 32 (0, 0)) (.cells zeroRq.toArray 42 (0, 0))) (by kernel_rfl) (by kernel_rfl) ⟨Keeps.refl _ _, hc311, hc411⟩ ?_
          apply V.L.ch_step
          focus
            apply V.L.duo_read rfl rfl
            intro w hk
            refine wr_loadAll (cs := GCl c) rfl rfl rfl (hk.heap hc1d (fun e => by omega)) (GCl_len h.len) ?_
            apply wr_nil
            exact ⟨rfl, Keeps.refl _ _⟩
          apply V.L.ch_step
          focus
            apply V.L.duo_read rfl rfl
            intro w hk
            refine wr_build (ps := []) (cs := zeroRq) rfl rfl rfl rfl ?_
            apply wr_nil
            exact ⟨rfl, Keeps.refl _ _⟩
          apply V.L.ch_step
          focus
            apply V.L.duo_read rfl rfl
            intro w hk
            apply wr_move; exact rfl; with_reducible (conv => enter [6, 3]; whnf)
            apply wr_nil
            exact ⟨rfl, Keeps.refl _ _⟩
          apply V.L.ch_step
          focus
            apply V.L.duo_read rfl rfl
            intro w hk
            refine wr_call (vs := [erV (some e)]) rfl (told_ca (some e) w (hED hk)) rfl ?_
            rintro v w' ⟨rfl, hk'⟩
            apply wr_nil
            exact ⟨rfl, hk'⟩
          apply V.L.ch_step
          focus
            apply V.L.duo_st1 (by omega) rfl
            intro w hk hb
            refine wr_storeAll (cs := GCl c) rfl rfl rfl (GCl_one h) hb (GCl_len h.len) rfl ?_
            apply wr_nil
            exact ⟨rfl, rfl⟩
          apply V.L.ch_step
          focus
            apply V.L.duo_st2 (by omega) rfl
            intro w hk hb
            refine wr_storeAll (cs := zeroRq) rfl rfl rfl zeroRq_one hb rfl rfl ?_
            apply wr_nil
            exact ⟨rfl, rfl⟩
          apply V.L.ch_step
          focus
            apply V.L.duo_read rfl rfl
            intro w hk
            apply wr_assign; exact rfl; with_reducible (conv => enter [6, 3]; whnf)
            apply wr_nil
            exact ⟨rfl, Keeps.refl _ _⟩
          refine V.L.ch_nil ?_
          intro w12 hS
          obtain ⟨hk12, hc312, hc412⟩ := V.L.duo_end hS (by kernel_rfl) (by kernel_rfl)
          (repeat first | (apply wc_ret; try simp only [thenE, inBlockE, bodyQ]))
          exact leaveN (vs := [CliV c, .agg zeroRq.toArray, .int .i64 e]) (resv_cells (cs := GCl c) (e := 32) (fr := (0, 0)) rfl rfl hc312 (GCl_len h.len) (resv_cells (cs := zeroRq) (e := 42) (fr := (0, 0)) rfl rfl hc412 rfl (resv_tmp rfl resv_nil))) ⟨.inl ⟨e, by trivial, rfl⟩, hkf11.drew.trans' hk12 (fun i hi e => by rcases e with e | e <;> omega)⟩
        | none =>
          exact absurd heq.symm (firstO_last _ _ _ _ _)
    | false =>
      cases hsh : (decide ((listP W).length ≤ 64) && (decide (0 ≤ 64) && (decide (0 ≤ 64) && true))) with
      | true =>
        have heq : er = firstO [errOf (typedB k) 1, errOf true 5, errOf (decide (hv.length ≤ 64)) 4] := by
          rw [hsimp, hsh]
          simp only [Bool.not_false, Bool.true_or, Bool.true_and]
        refine wc_drawP (l := _) 28 _ (by kernel_rfl) (by kernel_rfl) rfl (by kernel_rfl) (by kernel_rfl) (by decide) ?_
        apply chP_pure
        focus
          intro xx w' hk hF
          apply wr_move; exact rfl; with_reducible (conv => enter [6, 3]; whnf)
          apply wr_nil
          exact ⟨rfl, Keeps.refl _ _⟩
        focus (intro xx yy h; rfl)
        focus kernel_rfl
        apply chP_pure
        focus
          intro xx w' hk hF
          refine wr_call (vs := [.int .i64 k]) rfl (typed_ca k w') rfl ?_
          rintro v w'' ⟨rfl, rfl⟩
          apply wr_nil
          exact ⟨rfl, Keeps.refl _ _⟩
        focus (intro xx yy h; rfl)
        focus kernel_rfl
        apply chP_pure
        focus
          intro xx w' hk hF
          refine wr_call (vs := [.bool (typedB k), .int .i64 1]) rfl (need_ca (typedB k) 1 w') rfl ?_
          rintro v w'' ⟨rfl, rfl⟩
          apply wr_nil
          exact ⟨rfl, Keeps.refl _ _⟩
        focus (intro xx yy h; rfl)
        focus kernel_rfl
        apply chP_pure
        focus
          intro xx w' hk hF
          refine wr_fieldAddr rfl rfl ?_
          apply wr_nil
          exact ⟨rfl, Keeps.refl _ _⟩
        focus (intro xx yy h; rfl)
        focus kernel_rfl
        apply chP_pure
        focus
          intro xx w' hk hF
          refine wr_load (v := .bool false) rfl rfl rfl ((hk0 hk).heap hc910 (fun h => h)) rfl ?_
          apply wr_nil
          exact ⟨rfl, Keeps.refl _ _⟩
        focus (intro xx yy h; rfl)
        focus kernel_rfl
        apply chP_pure
        focus
          intro xx w' hk hF
          apply wr_not; iterate 2 exact rfl
          apply wr_nil
          exact ⟨rfl, Keeps.refl _ _⟩
        focus (intro xx yy h; rfl)
        focus kernel_rfl
        apply chP_pure
        focus
          intro xx w' hk hF
          apply wr_move; exact rfl; with_reducible (conv => enter [6, 3]; whnf)
          apply wr_nil
          exact ⟨rfl, Keeps.refl _ _⟩
        focus (intro xx yy h; rfl)
        focus kernel_rfl
        apply chP_pure
        focus
          intro xx w' hk hF
          first
          | (refine wr_skip rfl ?_; apply wr_nil; exact ⟨rfl, Keeps.refl _ _⟩)
          | ((refine wr_fieldAddr rfl rfl ?_); apply wr_nil; exact ⟨rfl, Keeps.refl _ _⟩)
        focus (intro xx yy h; rfl)
        focus kernel_rfl
        apply chP_pure
        focus
          intro xx w' hk hF
          first
          | (refine wr_skip rfl ?_; apply wr_nil; exact ⟨rfl, Keeps.refl _ _⟩)
          | ((refine wr_loadAgg (cs := [.bool ta, tv]) rfl rfl rfl rfl (fun q u hq => cell_of_heap ((hk0 hk).heap hc910 (fun h => h)) (by match q, hq with | 0, hq => exact hq | 1, hq => exact hq | q + 2, hq => simp at hq)) ?_); apply wr_nil; exact ⟨rfl, Keeps.refl _ _⟩)
        focus (intro xx yy h; rfl)
        focus kernel_rfl
        apply chP_pure
        focus
          intro xx w' hk hF
          first
          | (refine wr_skip rfl ?_; apply wr_nil; exact ⟨rfl, Keeps.refl _ _⟩)
          | ((refine wr_loadAll (cs := [.bool W.1, nv]) rfl rfl rfl ((hk0 hk).heap hc210 (fun h => h)) rfl ?_); apply wr_nil; exact ⟨rfl, Keeps.refl _ _⟩)
        focus (intro xx yy h; rfl)
        focus kernel_rfl
        apply chP_pure
        focus
          intro xx w' hk hF
          first
          | (refine wr_skip rfl ?_; apply wr_nil; exact ⟨rfl, Keeps.refl _ _⟩)
          | (refine wr_call (vs := [SetV ta tv, SetV W.1 nv]) rfl (same_ca (ta, tl) W _ _ w' (htR10 (hk0 hk)) (hWR10 (hk0 hk)) hta.2.1 hWl) rfl ?_; rintro v w'' ⟨rfl, hkc⟩; apply wr_nil; exact ⟨rfl, hkc⟩)
        focus (intro xx yy h; rfl)
        focus kernel_rfl
        apply chP_pure
        focus
          intro xx w' hk hF
          first
          | (refine wr_skip rfl ?_; apply wr_nil; exact ⟨rfl, Keeps.refl _ _⟩)
          | ((apply wr_not; iterate 2 exact rfl); apply wr_nil; exact ⟨rfl, Keeps.refl _ _⟩)
        focus (intro xx yy h; rfl)
        focus kernel_rfl
        apply chP_pure
        focus
          intro xx w' hk hF
          first
          | (apply wr_pick (t := true); (iterate 2 exact rfl); with_reducible (conv => enter [6, 3]; whnf); apply wr_nil; exact ⟨rfl, Keeps.refl _ _⟩)
          | (apply wr_pick (t := false); (iterate 2 exact rfl); with_reducible (conv => enter [6, 3]; whnf); apply wr_nil; exact ⟨rfl, Keeps.refl _ _⟩)
        focus (intro xx yy h; rfl)
        focus kernel_rfl
        apply chP_pure
        focus
          intro xx w' hk hF
          refine wr_call (vs := [.bool (true), .int .i64 5]) rfl (need_ca (true) 5 w') rfl ?_
          rintro v w'' ⟨rfl, rfl⟩
          apply wr_nil
          exact ⟨rfl, Keeps.refl _ _⟩
        focus (intro xx yy h; rfl)
        focus kernel_rfl
        apply chP_pure
        focus
          intro xx w' hk hF
          apply wr_move; exact rfl; with_reducible (conv => enter [6, 3]; whnf)
          apply wr_nil
          exact ⟨rfl, Keeps.refl _ _⟩
        focus (intro xx yy h; rfl)
        focus kernel_rfl
        apply chP_pure
        focus
          intro xx w' hk hF
          apply wr_move; exact rfl; with_reducible (conv => enter [6, 3]; whnf)
          apply wr_nil
          exact ⟨rfl, Keeps.refl _ _⟩
        focus (intro xx yy h; rfl)
        focus kernel_rfl
        apply chP_pure
        focus
          intro xx w' hk hF
          apply wr_move; exact rfl; with_reducible (conv => enter [6, 3]; whnf)
          apply wr_nil
          exact ⟨rfl, Keeps.refl _ _⟩
        focus (intro xx yy h; rfl)
        focus kernel_rfl
        refine chP_fact (fun y => .slice (some ⟨blkOf y, 0, none⟩) 3 3) (fun y w' => w'.heap[blkOf y]? = some (.cells #[.slice aa (listP W).length ac, nilV, nilV] 24 (0, 0))) (fun y w' w'' h k => k.heap h (fun h => h)) ?_ ?_
        focus
          intro xx w' hk hF
          refine wr_buildSlice (vs := [.slice aa (listP W).length ac, nilV, nilV]) rfl rfl (by intro v hv; simp at hv; rcases hv with rfl | rfl | rfl <;> rfl) rfl (by decide) (by decide) (by decide) ?_
          apply wr_nil
          exact ⟨.pointer (some ⟨w'.heap.size, 0, none⟩), rfl, heap_alloc_same _ _, (Keeps.refl _ _).alloc _⟩
        apply chP_pure
        focus
          intro xx w' hk hF
          refine wr_call (vs := [.slice (some ⟨blkOf (xx 17), 0, none⟩) 3 3]) rfl (shortX_ca (b := true) [(.slice aa (listP W).length ac, (listP W).length), (nilV, 0), (nilV, 0)] (hsh) (by simp) (by intro x hx; simp at hx; rcases hx with rfl | rfl | rfl <;> exact ⟨_, _, rfl⟩) (blkOf (xx 17)) _ _ w' (hF 17 (by kernel_rfl))) rfl ?_
          rintro v w'' ⟨rfl, rfl⟩
          apply wr_nil
          exact ⟨rfl, Keeps.refl _ _⟩
        focus (intro xx yy h; rfl)
        focus kernel_rfl
        apply chP_pure
        focus
          intro xx w' hk hF
          apply wr_move; exact rfl; with_reducible (conv => enter [6, 3]; whnf)
          apply wr_nil
          exact ⟨rfl, Keeps.refl _ _⟩
        focus (intro xx yy h; rfl)
        focus kernel_rfl
        apply chP_pure
        focus
          intro xx w' hk hF
          first
          | (refine wr_skip rfl ?_; apply wr_nil; exact ⟨rfl, Keeps.refl _ _⟩)
          | ((apply wr_move; exact rfl; with_reducible (conv => enter [6, 3]; whnf)); apply wr_nil; exact ⟨rfl, Keeps.refl _ _⟩)
        focus (intro xx yy h; rfl)
        focus kernel_rfl
        apply chP_pure
        focus
          intro xx w' hk hF
          first
          | (refine wr_skip rfl ?_; apply wr_nil; exact ⟨rfl, Keeps.refl _ _⟩)
          | ((apply wr_len_slice; iterate 2 exact rfl); apply wr_nil; exact ⟨rfl, Keeps.refl _ _⟩)
        focus (intro xx yy h; rfl)
        focus kernel_rfl
        apply chP_pure
        focus
          intro xx w' hk hF
          first
          | (refine wr_skip rfl ?_; apply wr_nil; exact ⟨rfl, Keeps.refl _ _⟩)
          | ((refine wr_cmp (c := decide (hv.length ≤ 64)) rfl rfl rfl (by rcases Decidable.em (hv.length ≤ 64) with h64 | h64; (rw [decide_eq_true h64]; exact cmpT (by dsimp only [cmpP]; omega)); (rw [decide_eq_false h64]; exact cmpF (by dsimp only [cmpN]; omega))) ?_); apply wr_nil; exact ⟨rfl, Keeps.refl _ _⟩)
        focus (intro xx yy h; rfl)
        focus kernel_rfl
        apply chP_pure
        focus
          intro xx w' hk hF
          first
          | (apply wr_pick (t := true); (iterate 2 exact rfl); with_reducible (conv => enter [6, 3]; whnf); apply wr_nil; exact ⟨rfl, Keeps.refl _ _⟩)
          | (apply wr_pick (t := false); (iterate 2 exact rfl); with_reducible (conv => enter [6, 3]; whnf); apply wr_nil; exact ⟨rfl, Keeps.refl _ _⟩)
        focus (intro xx yy h; rfl)
        focus kernel_rfl
        apply chP_pure
        focus
          intro xx w' hk hF
          refine wr_call (vs := [.bool (decide (hv.length ≤ 64)), .int .i64 4]) rfl (need_ca (decide (hv.length ≤ 64)) 4 w') rfl ?_
          rintro v w'' ⟨rfl, rfl⟩
          apply wr_nil
          exact ⟨rfl, Keeps.refl _ _⟩
        focus (intro xx yy h; rfl)
        focus kernel_rfl
        refine chP_fact (fun y => .slice (some ⟨blkOf y, 0, none⟩) 3 3) (fun y w' => w'.heap[blkOf y]? = some (.cells #[erV (errOf (typedB k) 1), erV (errOf (true) 5), erV (errOf (decide (hv.length ≤ 64)) 4)] 97 (0, 0))) (fun y w' w'' h k => k.heap h (fun h => h)) ?_ ?_
        focus
          intro xx w' hk hF
          refine wr_buildSlice (vs := [erV (errOf (typedB k) 1), erV (errOf (true) 5), erV (errOf (decide (hv.length ≤ 64)) 4)]) rfl rfl (by intro v hv; simp at hv; rcases hv with rfl | rfl | rfl <;> exact er_size _) rfl (by decide) (by decide) (by decide) ?_
          apply wr_nil
          exact ⟨.pointer (some ⟨w'.heap.size, 0, none⟩), rfl, (by rw [← er3]; exact heap_alloc_same _ _), (Keeps.refl _ _).alloc _⟩
        apply chP_pure
        focus
          intro xx w' hk hF
          refine wr_call (vs := [.slice (some ⟨blkOf (xx 25), 0, none⟩) 3 3]) rfl (first_ca [errOf (typedB k) 1, errOf (true) 5, errOf (decide (hv.length ≤ 64)) 4] (by simp) (blkOf (xx 25)) _ _ w' (hF 25 (by kernel_rfl))) rfl ?_
          rintro v w'' ⟨rfl, rfl⟩
          apply wr_nil
          exact ⟨rfl, Keeps.refl _ _⟩
        focus (intro xx yy h; rfl)
        focus kernel_rfl
        apply chP_pure
        focus
          intro xx w' hk hF
          apply wr_assign; exact rfl; with_reducible (conv => enter [6, 3]; whnf)
          apply wr_nil
          exact ⟨rfl, Keeps.refl _ _⟩
        focus (intro xx yy h; rfl)
        focus kernel_rfl
        refine chP_nil ?_
        intro yy w11 hk11' hF
        have hk11 := hk0 hk11'
        clear hF
        have hkf11 := hkf10.trans hk11
        have hc111 := hk11.heap hc110 (fun h => h)
        have hc211 := hk11.heap hc210 (fun h => h)
        have hc311 := hk11.heap hc310 (fun h => h)
        have hc411 := hk11.heap hc410 (fun h => h)
        have hc911 := hk11.heap hc910 (fun h => h)
        rw [show firstO _ = er from heq.symm]
        (repeat first | (apply wr_move; exact rfl; with_reducible (conv => enter [6, 3]; whnf)) | apply wr_end | apply wc_seq | apply wc_region)
        refine wr_bin rfl rfl rfl (by cases er <;> simp [eqGuard, erV]) (run_neEr er _) ?_
        cases er with
        | some e =>
          have hc1d : w11.drew.heap[bw1]? = _ := hc111
          have hED : ∀ {w'}, Keeps (fun q => q = bw3 ∨ q = bw4) w11.drew w' → ErrT w' := fun hk => by
            obtain ⟨T, fr, hg⟩ := hE
            have hl := lt_of_heap hg
            exact ⟨T, fr, hk.heap (hkf11.heap hg (fun h => h)) (fun e => by omega)⟩
          (repeat first | apply wr_end | apply wc_seq | (apply wc_true; exact rfl))
          refine V.L.wc_drawL (l := _) (V.L.duo w11.drew 4 5 bw3 bw4 (.cells (GCl (newC false)).toArray 32 (0, 0)) (.cells zeroRq.toArray 42 (0, 0)) (.cells (GCl c).toArray 32 (0, 0)) (.cells zeroRq.toArray 42 (0, 0))) (by kernel_rfl) (by kernel_rfl) ⟨Keeps.refl _ _, hc311, hc411⟩ ?_
          apply V.L.ch_step
          focus
            apply V.L.duo_read rfl rfl
            intro w hk
            refine wr_loadAll (cs := GCl c) rfl rfl rfl (hk.heap hc1d (fun e => by omega)) (GCl_len h.len) ?_
            apply wr_nil
            exact ⟨rfl, Keeps.refl _ _⟩
          apply V.L.ch_step
          focus
            apply V.L.duo_read rfl rfl
            intro w hk
            refine wr_build (ps := []) (cs := zeroRq) rfl rfl rfl rfl ?_
            apply wr_nil
            exact ⟨rfl, Keeps.refl _ _⟩
          apply V.L.ch_step
          focus
            apply V.L.duo_read rfl rfl
            intro w hk
            apply wr_move; exact rfl; with_reducible (conv => enter [6, 3]; whnf)
            apply wr_nil
            exact ⟨rfl, Keeps.refl _ _⟩
          apply V.L.ch_step
          focus
            apply V.L.duo_read rfl rfl
            intro w hk
            refine wr_call (vs := [erV (some e)]) rfl (told_ca (some e) w (hED hk)) rfl ?_
            rintro v w' ⟨rfl, hk'⟩
            apply wr_nil
            exact ⟨rfl, hk'⟩
          apply V.L.ch_step
          focus
            apply V.L.duo_st1 (by omega) rfl
            intro w hk hb
            refine wr_storeAll (cs := GCl c) rfl rfl rfl (GCl_one h) hb (GCl_len h.len) rfl ?_
            apply wr_nil
            exact ⟨rfl, rfl⟩
          apply V.L.ch_step
          focus
            apply V.L.duo_st2 (by omega) rfl
            intro w hk hb
            refine wr_storeAll (cs := zeroRq) rfl rfl rfl zeroRq_one hb rfl rfl ?_
            apply wr_nil
            exact ⟨rfl, rfl⟩
          apply V.L.ch_step
          focus
            apply V.L.duo_read rfl rfl
            intro w hk
            apply wr_assign; exact rfl; with_reducible (conv => enter [6, 3]; whnf)
            apply wr_nil
            exact ⟨rfl, Keeps.refl _ _⟩
          refine V.L.ch_nil ?_
          intro w12 hS
          obtain ⟨hk12, hc312, hc412⟩ := V.L.duo_end hS (by kernel_rfl) (by kernel_rfl)
          (repeat first | (apply wc_ret; try simp only [thenE, inBlockE, bodyQ]))
          exact leaveN (vs := [CliV c, .agg zeroRq.toArray, .int .i64 e]) (resv_cells (cs := GCl c) (e := 32) (fr := (0, 0)) rfl rfl hc312 (GCl_len h.len) (resv_cells (cs := zeroRq) (e := 42) (fr := (0, 0)) rfl rfl hc412 rfl (resv_tmp rfl resv_nil))) ⟨.inl ⟨e, by trivial, rfl⟩, hkf11.drew.trans' hk12 (fun i hi e => by rcases e with e | e <;> omega)⟩
        | none =>
          have hl64 : hv.length ≤ 64 := by
            rcases Decidable.em (hv.length ≤ 64) with h | h
            · exact h
            · rw [decide_eq_false h] at heq
              exact absurd heq.symm (firstO_last _ _ _ _ _)
          (repeat first | (apply wr_move; exact rfl; with_reducible (conv => enter [6, 3]; whnf)) | apply wr_end | apply wc_seq | apply wc_region | apply wc_skip | (apply wr_fieldAddr; iterate 2 exact rfl) | (apply wr_load; (iterate 3 exact rfl); (focus repeat first | with_reducible assumption | exact heap_alloc_same _ _ | exact World.putObj_heap_same (by first | omega | (simp only [World.size_alloc, World.putObj_size, ne_eq]; omega)) | ((first | refine hAl ?_ ?_ | refine hPu ?_ ?_); focus first | omega | (simp only [World.size_alloc, World.putObj_size, ne_eq]; omega))); exact rfl; conv => enter [6, 3]; whnf) | (apply wc_false; exact rfl))
          refine wr_build (ps := [(0, .int .i64 k), (1, .bool c.1), (2, .int .u64 (no : Int)), (3, .slice aa (listP W).length ac)]) (cs := GRq k c.1 no (.slice aa (listP W).length ac) nilV nilV []) rfl rfl rfl rfl ?_
          (repeat first | (apply wr_alloc; exact rfl))
          refine wr_storeAll (cs := GRq k c.1 no (.slice aa (listP W).length ac) nilV nilV []) rfl rfl rfl (GRq_one rfl rfl rfl) (heap_alloc_same _ _) rfl rfl ?_
          refine wr_name ?_
          intro w12 hww12
          obtain ⟨bw12, hbw12⟩ : ∃ b, b = (w11).heap.size := ⟨_, rfl⟩
          have hkw12 : Keeps NoB w11 w12 := by rw [hww12]; exact ((Keeps.refl NoB w11).alloc _).put _ (fun h => by omega)
          have hcw12 : (w12).heap[bw12]? = some (.cells (GRq k c.1 no (.slice aa (listP W).length ac) nilV nilV []).toArray 42 (0, 0)) := by rw [hww12, hbw12]; exact World.putObj_heap_same (by simp)
          rw [← hbw12]
          clear hww12
          have hc112 := hkw12.heap hc111 (fun h => h)
          have hc212 := hkw12.heap hc211 (fun h => h)
          have hc312 := hkw12.heap hc311 (fun h => h)
          have hc412 := hkw12.heap hc411 (fun h => h)
          have hc912 := hkw12.heap hc911 (fun h => h)
          have hkf12 := hkf11.trans hkw12
          have hl11 := lt_of_heap hc411
          have hl911 := lt_of_heap hc911
          have hall12 := own_keep hall (hk11.trans hkw12) (fun _ _ h => h)
          (repeat first | apply wr_end | apply wc_seq | apply wc_region | (apply wr_fieldAddr; iterate 2 exact rfl) | (apply wr_load; (iterate 3 exact rfl); (focus repeat first | with_reducible assumption | exact heap_alloc_same _ _ | exact World.putObj_heap_same (by first | omega | (simp only [World.size_alloc, World.putObj_size, ne_eq]; omega)) | ((first | refine hAl ?_ ?_ | refine hPu ?_ ?_); focus first | omega | (simp only [World.size_alloc, World.putObj_size, ne_eq]; omega))); exact rfl; conv => enter [6, 3]; whnf))
          rw [hd]
          (repeat first | apply wc_seq | apply wc_region | apply wc_skip | (apply wc_false; exact rfl))
          have hk16 : Keeps (· = bw12) w12 w12 := Keeps.refl _ _
          have hl12 : bw12 < w12.heap.size := lt_of_heap hcw12
          have hl1211 : w11.heap.size ≤ bw12 := by omega
          have hk15 := hkf12
          have hc216 := hc212
          have hc916 := hc912
          have hc116 := hc112
          have hc315 := hc312
          have hc415 := hc412
          have hc16 := hcw12
          have hcw15 := hcw12
          have hnv15 : w12.ownsRow n4 9 1 nv W.2.length (SL W.2) := own_keep hnv9 ((hk10.trans hk11).trans hkw12) (fun _ _ h => h)
          have hmore15 := own_keep hmore (hk11.trans hkw12) (fun _ _ h => h)
          have hless15 := own_keep hless (hk11.trans hkw12) (fun _ _ h => h)
          refine wr_loadAll (cs := [.bool W.1, nv]) rfl rfl rfl hc216 rfl ?_
          (repeat first | (apply wr_fieldAddr; iterate 2 exact rfl))
          have hnv16 := own_keep hnv15 hk16 (fun q hq e => own_neT hnv15 hcw15 (by decide) q hq e)
          have hmore16 := own_keep hmore15 hk16 (fun q hq e => own_neT hmore15 hcw15 (by decide) q hq e)
          have hless16 := own_keep hless15 hk16 (fun q hq e => own_neT hless15 hcw15 (by decide) q hq e)
          have hk016 : Keeps NoB w w12 := hk15.trans' hk16 (fun i hi e => by omega)
          refine wr_storePart (cs := [.bool W.1, nv]) rfl rfl rfl (by intro u hu; simp at hu; rcases hu with rfl | rfl; rfl; exact own_one hnv16) hc916 rfl (by show 2 ≤ 4; decide) ?_
          generalize hw17 : World.putObj w12 _ _ = w17
          have hc917 : w17.heap[bw9]? = some (.cells #[.bool W.1, nv, .bool false, .int .u64 (no : Int)] 29 (0, 0)) := by rw [← hw17]; exact World.putObj_heap_same (lt_of_heap hc916)
          have hk17 : Keeps (· = bw9) w12 w17 := by rw [← hw17]; exact (Keeps.refl _ w12).put _ (fun _ => rfl)
          clear hw17
          (repeat first | (apply wr_move; exact rfl; with_reducible (conv => enter [6, 3]; whnf)) | apply wr_end | apply wc_seq | apply wc_region | (apply wr_fieldAddr; iterate 2 exact rfl) | (apply wr_store; (iterate 3 exact rfl); (first | exact rfl | with_reducible assumption); (focus repeat first | with_reducible assumption | exact heap_alloc_same _ _ | exact World.putObj_heap_same (by first | omega | (simp only [World.size_alloc, World.putObj_size, ne_eq]; omega)) | ((first | refine hAl ?_ ?_ | refine hPu ?_ ?_); focus first | omega | (simp only [World.size_alloc, World.putObj_size, ne_eq]; omega))); exact rfl))
          generalize hw18 : World.putObj w17 _ _ = w18
          have hc918 : w18.heap[bw9]? = some (.cells (GTp ((W, nv), true, no)).toArray 29 (0, 0)) := by rw [← hw18]; exact World.putObj_heap_same (lt_of_heap hc917)
          have hk18 : Keeps (· = bw9) w12 w18 := hk17.trans (by rw [← hw18]; exact (Keeps.refl _ w17).put _ (fun _ => rfl))
          clear hw18
          have hc118 := hk18.heap hc116 (fun e => by omega)
          have hc318 := hk18.heap (hk16.heap hc315 (fun e => by omega)) (fun e => by omega)
          have hc418 := hk18.heap (hk16.heap hc415 (fun e => by omega)) (fun e => by omega)
          have hc1218 := hk18.heap hc16 (fun e => by omega)
          skip
          refine wr_loadAll (cs := GTp ((W, nv), true, no)) rfl rfl rfl hc918 rfl ?_
          have hty : typedB k = true := by
            cases hty : typedB k with
            | true => rfl
            | false => rw [hty] at heq; simp [firstO, errOf] at heq
          have hk15' : 1 ≤ k ∧ k ≤ 5 := by unfold typedB at hty; simpa using hty
          obtain ⟨q, rfl⟩ := Int.eq_ofNat_of_zero_le (show 0 ≤ k by omega)
          have hq6 : q < 6 := by omega
          obtain ⟨t1, htq⟩ : ∃ t, c.2[q]? = some t := ⟨c.2[q]'(by rw [h.len]; omega), by simp [h.len, hq6]⟩
          have hac : askC c (q : Int) W nv = (c.1, c.2.set q ((W, nv), true, no)) := by unfold askC; rw [← ht, Int.toNat_natCast]; rfl
          (repeat first | (apply wr_fieldAddr; iterate 2 exact rfl))
          refine wr_indexArr (i := q) rfl rfl rfl hq6 ?_
          have hnvw : TpAt w12 ((W, nv), true, no) := ⟨SlR.of_own hnv16, hWl, hta.2.2⟩
          refine wr_storePart (cs := GTp ((W, nv), true, no)) rfl rfl rfl (GTp_one hnvw) hc118 rfl (by rw [List.size_toArray, GCl_len h.len]; show 0 + 1 + q * 4 + 4 ≤ 25; omega) ?_
          generalize hw19 : World.putObj w18 _ _ = w19
          have hc119 : w19.heap[bw1]? = some (.cells (GCl (askC c (q : Int) W nv)).toArray 32 (0, 0)) := by
            rw [← hw19, hac, ← GCl_setT htq]
            exact World.putObj_heap_same (lt_of_heap hc118)
          have hk19 : Keeps (· = bw1) w18 w19 := by rw [← hw19]; exact (Keeps.refl _ w18).put _ (fun _ => rfl)
          clear hw19
          have hc1219 := hk19.heap hc1218 (fun e => by omega)
          have hc319 := hk19.heap hc318 (fun e => by omega)
          have hc419 := hk19.heap hc418 (fun e => by omega)
          have hc119d : w19.drew.heap[bw1]? = _ := hc119
          have hc1219d : w19.drew.heap[bw12]? = _ := hc1219
          have hl6 : (askC c (q : Int) W nv).2.length = 6 := by rw [hac]; simp [h.len]
          have hone : ∀ u ∈ GCl (askC c (q : Int) W nv), u.oneCell' = true := by
            rw [hac]
            intro u hu
            simp only [GCl, List.mem_cons, List.mem_flatMap] at hu
            rcases hu with rfl | ⟨y, hy, hu⟩
            · rfl
            · rcases List.mem_or_eq_of_mem_set hy with hy | rfl
              · exact GTp_one (h.at' y hy) u hu
              · exact GTp_one hnvw u hu
          (repeat first | apply wr_end | apply wc_seq)
          refine V.L.wc_drawL (l := _) (V.L.duo w19.drew 2 3 bw3 bw4 (.cells (GCl (newC false)).toArray 32 (0, 0)) (.cells zeroRq.toArray 42 (0, 0)) (.cells (GCl (askC c (q : Int) W nv)).toArray 32 (0, 0)) (.cells (GRq (q : Int) c.1 no (.slice aa (listP W).length ac) nilV nilV []).toArray 42 (0, 0))) (by kernel_rfl) (by kernel_rfl) ⟨Keeps.refl _ _, hc319, hc419⟩ ?_
          apply V.L.ch_step
          focus
            apply V.L.duo_read rfl rfl
            intro w hk
            refine wr_loadAll (cs := GCl (askC c (q : Int) W nv)) rfl rfl rfl (hk.heap hc119d (fun e => by omega)) (GCl_len hl6) ?_
            apply wr_nil
            exact ⟨rfl, Keeps.refl _ _⟩
          apply V.L.ch_step
          focus
            apply V.L.duo_read rfl rfl
            intro w hk
            refine wr_loadAll (cs := GRq (q : Int) c.1 no (.slice aa (listP W).length ac) nilV nilV []) rfl rfl rfl (hk.heap hc1219d (fun e => by omega)) rfl ?_
            apply wr_nil
            exact ⟨rfl, Keeps.refl _ _⟩
          apply V.L.ch_step
          focus
            apply V.L.duo_st1 (by omega) rfl
            intro w hk hb
            refine wr_storeAll (cs := GCl (askC c (q : Int) W nv)) rfl rfl rfl hone hb (GCl_len hl6) rfl ?_
            apply wr_nil
            exact ⟨rfl, rfl⟩
          apply V.L.ch_step
          focus
            apply V.L.duo_st2 (by omega) rfl
            intro w hk hb
            refine wr_storeAll (cs := GRq (q : Int) c.1 no (.slice aa (listP W).length ac) nilV nilV []) rfl rfl rfl (GRq_one rfl rfl (rfl)) hb rfl rfl ?_
            apply wr_nil
            exact ⟨rfl, rfl⟩
          apply V.L.ch_step
          focus
            apply V.L.duo_read rfl rfl
            intro w hk
            apply wr_assign; exact rfl; with_reducible (conv => enter [6, 3]; whnf)
            apply wr_nil
            exact ⟨rfl, Keeps.refl _ _⟩
          refine V.L.ch_nil ?_
          intro w20 hS
          obtain ⟨hk20, hc320, hc420⟩ := V.L.duo_end hS (by kernel_rfl) (by kernel_rfl)
          have kp : ∀ {T : TypeId} {sz m : Nat} {v : Value} {xs : List Value}, w12.ownsRow n4 T sz v m xs → T ≠ 29 → T ≠ 32 → T ≠ 42 → w20.ownsRow bw1 T sz v m xs := fun ho h1 h2 h3 => by
            have o1 := own_keep ho hk18 (own_neT ho hc916 h1)
            have o2 := own_keep o1 hk19 (own_neT o1 hc118 h2)
            have o3 := own_keep o2 ((Keeps.refl NoB w19).drew.upD.trans hk20) (fun q hq e => e.elim (own_neT o2 hc319 h2 q hq) (own_neT o2 hc419 h3 q hq))
            exact own_down o3 (by omega)
          have hkf20 : Keeps NoB w w20 := ((hk016.trans' hk18 (fun i hi e => by omega)).trans' hk19 (fun i hi e => by omega)).drew.trans' hk20 (fun i hi e => by rcases e with e | e <;> omega)
          (repeat first | (apply wc_ret; try simp only [thenE, inBlockE, bodyQ]))
          refine leaveN (vs := [CliV (askC c (q : Int) W nv), .agg (GRq (q : Int) c.1 no (.slice aa (listP W).length ac) nilV nilV []).toArray, .int .i64 0]) (resv_cells (cs := GCl (askC c (q : Int) W nv)) (e := 32) (fr := (0, 0)) rfl rfl hc320 (GCl_len hl6) (resv_cells (cs := GRq (q : Int) c.1 no (.slice aa (listP W).length ac) nilV nilV []) (e := 42) (fr := (0, 0)) rfl rfl hc420 rfl (resv_tmp rfl resv_nil))) ⟨.inr ⟨by trivial, ?_⟩, hkf20⟩
          refine ⟨nv, .slice aa (listP W).length ac, nilV, nilV, by rw [if_neg (by rw [hd]; decide), ← ht]; rfl, kp hnv16 (by decide) (by decide) (by decide), ⟨_, rfl, ?_⟩, ⟨_, rfl, ?_⟩, ⟨_, rfl, ?_⟩⟩
          focus
            rw [if_neg (by rw [hd]; decide)]
            exact kp hall12 (by decide) (by decide) (by decide)
          focus
            unfold lessL
            rw [if_neg (by rw [hd]; decide)]
            exact own_nilV _ _ _ _
          rw [if_neg (by rw [hd]; decide)]
          exact own_nilV _ _ _ _
      | false =>
        have heq : er = firstO [errOf (typedB k) 1, errOf true 5, errOf false 4] := by
          rw [hsimp, hsh]
          simp only [Bool.not_false, Bool.true_or, Bool.false_and]
        refine wc_drawP (l := _) 28 _ (by kernel_rfl) (by kernel_rfl) rfl (by kernel_rfl) (by kernel_rfl) (by decide) ?_
        apply chP_pure
        focus
          intro xx w' hk hF
          apply wr_move; exact rfl; with_reducible (conv => enter [6, 3]; whnf)
          apply wr_nil
          exact ⟨rfl, Keeps.refl _ _⟩
        focus (intro xx yy h; rfl)
        focus kernel_rfl
        apply chP_pure
        focus
          intro xx w' hk hF
          refine wr_call (vs := [.int .i64 k]) rfl (typed_ca k w') rfl ?_
          rintro v w'' ⟨rfl, rfl⟩
          apply wr_nil
          exact ⟨rfl, Keeps.refl _ _⟩
        focus (intro xx yy h; rfl)
        focus kernel_rfl
        apply chP_pure
        focus
          intro xx w' hk hF
          refine wr_call (vs := [.bool (typedB k), .int .i64 1]) rfl (need_ca (typedB k) 1 w') rfl ?_
          rintro v w'' ⟨rfl, rfl⟩
          apply wr_nil
          exact ⟨rfl, Keeps.refl _ _⟩
        focus (intro xx yy h; rfl)
        focus kernel_rfl
        apply chP_pure
        focus
          intro xx w' hk hF
          refine wr_fieldAddr rfl rfl ?_
          apply wr_nil
          exact ⟨rfl, Keeps.refl _ _⟩
        focus (intro xx yy h; rfl)
        focus kernel_rfl
        apply chP_pure
        focus
          intro xx w' hk hF
          refine wr_load (v := .bool false) rfl rfl rfl ((hk0 hk).heap hc910 (fun h => h)) rfl ?_
          apply wr_nil
          exact ⟨rfl, Keeps.refl _ _⟩
        focus (intro xx yy h; rfl)
        focus kernel_rfl
        apply chP_pure
        focus
          intro xx w' hk hF
          apply wr_not; iterate 2 exact rfl
          apply wr_nil
          exact ⟨rfl, Keeps.refl _ _⟩
        focus (intro xx yy h; rfl)
        focus kernel_rfl
        apply chP_pure
        focus
          intro xx w' hk hF
          apply wr_move; exact rfl; with_reducible (conv => enter [6, 3]; whnf)
          apply wr_nil
          exact ⟨rfl, Keeps.refl _ _⟩
        focus (intro xx yy h; rfl)
        focus kernel_rfl
        apply chP_pure
        focus
          intro xx w' hk hF
          first
          | (refine wr_skip rfl ?_; apply wr_nil; exact ⟨rfl, Keeps.refl _ _⟩)
          | ((refine wr_fieldAddr rfl rfl ?_); apply wr_nil; exact ⟨rfl, Keeps.refl _ _⟩)
        focus (intro xx yy h; rfl)
        focus kernel_rfl
        apply chP_pure
        focus
          intro xx w' hk hF
          first
          | (refine wr_skip rfl ?_; apply wr_nil; exact ⟨rfl, Keeps.refl _ _⟩)
          | ((refine wr_loadAgg (cs := [.bool ta, tv]) rfl rfl rfl rfl (fun q u hq => cell_of_heap ((hk0 hk).heap hc910 (fun h => h)) (by match q, hq with | 0, hq => exact hq | 1, hq => exact hq | q + 2, hq => simp at hq)) ?_); apply wr_nil; exact ⟨rfl, Keeps.refl _ _⟩)
        focus (intro xx yy h; rfl)
        focus kernel_rfl
        apply chP_pure
        focus
          intro xx w' hk hF
          first
          | (refine wr_skip rfl ?_; apply wr_nil; exact ⟨rfl, Keeps.refl _ _⟩)
          | ((refine wr_loadAll (cs := [.bool W.1, nv]) rfl rfl rfl ((hk0 hk).heap hc210 (fun h => h)) rfl ?_); apply wr_nil; exact ⟨rfl, Keeps.refl _ _⟩)
        focus (intro xx yy h; rfl)
        focus kernel_rfl
        apply chP_pure
        focus
          intro xx w' hk hF
          first
          | (refine wr_skip rfl ?_; apply wr_nil; exact ⟨rfl, Keeps.refl _ _⟩)
          | (refine wr_call (vs := [SetV ta tv, SetV W.1 nv]) rfl (same_ca (ta, tl) W _ _ w' (htR10 (hk0 hk)) (hWR10 (hk0 hk)) hta.2.1 hWl) rfl ?_; rintro v w'' ⟨rfl, hkc⟩; apply wr_nil; exact ⟨rfl, hkc⟩)
        focus (intro xx yy h; rfl)
        focus kernel_rfl
        apply chP_pure
        focus
          intro xx w' hk hF
          first
          | (refine wr_skip rfl ?_; apply wr_nil; exact ⟨rfl, Keeps.refl _ _⟩)
          | ((apply wr_not; iterate 2 exact rfl); apply wr_nil; exact ⟨rfl, Keeps.refl _ _⟩)
        focus (intro xx yy h; rfl)
        focus kernel_rfl
        apply chP_pure
        focus
          intro xx w' hk hF
          first
          | (apply wr_pick (t := true); (iterate 2 exact rfl); with_reducible (conv => enter [6, 3]; whnf); apply wr_nil; exact ⟨rfl, Keeps.refl _ _⟩)
          | (apply wr_pick (t := false); (iterate 2 exact rfl); with_reducible (conv => enter [6, 3]; whnf); apply wr_nil; exact ⟨rfl, Keeps.refl _ _⟩)
        focus (intro xx yy h; rfl)
        focus kernel_rfl
        apply chP_pure
        focus
          intro xx w' hk hF
          refine wr_call (vs := [.bool (true), .int .i64 5]) rfl (need_ca (true) 5 w') rfl ?_
          rintro v w'' ⟨rfl, rfl⟩
          apply wr_nil
          exact ⟨rfl, Keeps.refl _ _⟩
        focus (intro xx yy h; rfl)
        focus kernel_rfl
        apply chP_pure
        focus
          intro xx w' hk hF
          apply wr_move; exact rfl; with_reducible (conv => enter [6, 3]; whnf)
          apply wr_nil
          exact ⟨rfl, Keeps.refl _ _⟩
        focus (intro xx yy h; rfl)
        focus kernel_rfl
        apply chP_pure
        focus
          intro xx w' hk hF
          apply wr_move; exact rfl; with_reducible (conv => enter [6, 3]; whnf)
          apply wr_nil
          exact ⟨rfl, Keeps.refl _ _⟩
        focus (intro xx yy h; rfl)
        focus kernel_rfl
        apply chP_pure
        focus
          intro xx w' hk hF
          apply wr_move; exact rfl; with_reducible (conv => enter [6, 3]; whnf)
          apply wr_nil
          exact ⟨rfl, Keeps.refl _ _⟩
        focus (intro xx yy h; rfl)
        focus kernel_rfl
        refine chP_fact (fun y => .slice (some ⟨blkOf y, 0, none⟩) 3 3) (fun y w' => w'.heap[blkOf y]? = some (.cells #[.slice aa (listP W).length ac, nilV, nilV] 24 (0, 0))) (fun y w' w'' h k => k.heap h (fun h => h)) ?_ ?_
        focus
          intro xx w' hk hF
          refine wr_buildSlice (vs := [.slice aa (listP W).length ac, nilV, nilV]) rfl rfl (by intro v hv; simp at hv; rcases hv with rfl | rfl | rfl <;> rfl) rfl (by decide) (by decide) (by decide) ?_
          apply wr_nil
          exact ⟨.pointer (some ⟨w'.heap.size, 0, none⟩), rfl, heap_alloc_same _ _, (Keeps.refl _ _).alloc _⟩
        apply chP_pure
        focus
          intro xx w' hk hF
          refine wr_call (vs := [.slice (some ⟨blkOf (xx 17), 0, none⟩) 3 3]) rfl (shortX_ca (b := false) [(.slice aa (listP W).length ac, (listP W).length), (nilV, 0), (nilV, 0)] (hsh) (by simp) (by intro x hx; simp at hx; rcases hx with rfl | rfl | rfl <;> exact ⟨_, _, rfl⟩) (blkOf (xx 17)) _ _ w' (hF 17 (by kernel_rfl))) rfl ?_
          rintro v w'' ⟨rfl, rfl⟩
          apply wr_nil
          exact ⟨rfl, Keeps.refl _ _⟩
        focus (intro xx yy h; rfl)
        focus kernel_rfl
        apply chP_pure
        focus
          intro xx w' hk hF
          apply wr_move; exact rfl; with_reducible (conv => enter [6, 3]; whnf)
          apply wr_nil
          exact ⟨rfl, Keeps.refl _ _⟩
        focus (intro xx yy h; rfl)
        focus kernel_rfl
        apply chP_pure
        focus
          intro xx w' hk hF
          first
          | (refine wr_skip rfl ?_; apply wr_nil; exact ⟨rfl, Keeps.refl _ _⟩)
          | ((apply wr_move; exact rfl; with_reducible (conv => enter [6, 3]; whnf)); apply wr_nil; exact ⟨rfl, Keeps.refl _ _⟩)
        focus (intro xx yy h; rfl)
        focus kernel_rfl
        apply chP_pure
        focus
          intro xx w' hk hF
          first
          | (refine wr_skip rfl ?_; apply wr_nil; exact ⟨rfl, Keeps.refl _ _⟩)
          | ((apply wr_len_slice; iterate 2 exact rfl); apply wr_nil; exact ⟨rfl, Keeps.refl _ _⟩)
        focus (intro xx yy h; rfl)
        focus kernel_rfl
        apply chP_pure
        focus
          intro xx w' hk hF
          first
          | (refine wr_skip rfl ?_; apply wr_nil; exact ⟨rfl, Keeps.refl _ _⟩)
          | ((refine wr_cmp (c := decide (hv.length ≤ 64)) rfl rfl rfl (by rcases Decidable.em (hv.length ≤ 64) with h64 | h64; (rw [decide_eq_true h64]; exact cmpT (by dsimp only [cmpP]; omega)); (rw [decide_eq_false h64]; exact cmpF (by dsimp only [cmpN]; omega))) ?_); apply wr_nil; exact ⟨rfl, Keeps.refl _ _⟩)
        focus (intro xx yy h; rfl)
        focus kernel_rfl
        apply chP_pure
        focus
          intro xx w' hk hF
          first
          | (apply wr_pick (t := true); (iterate 2 exact rfl); with_reducible (conv => enter [6, 3]; whnf); apply wr_nil; exact ⟨rfl, Keeps.refl _ _⟩)
          | (apply wr_pick (t := false); (iterate 2 exact rfl); with_reducible (conv => enter [6, 3]; whnf); apply wr_nil; exact ⟨rfl, Keeps.refl _ _⟩)
        focus (intro xx yy h; rfl)
        focus kernel_rfl
        apply chP_pure
        focus
          intro xx w' hk hF
          refine wr_call (vs := [.bool (false), .int .i64 4]) rfl (need_ca (false) 4 w') rfl ?_
          rintro v w'' ⟨rfl, rfl⟩
          apply wr_nil
          exact ⟨rfl, Keeps.refl _ _⟩
        focus (intro xx yy h; rfl)
        focus kernel_rfl
        refine chP_fact (fun y => .slice (some ⟨blkOf y, 0, none⟩) 3 3) (fun y w' => w'.heap[blkOf y]? = some (.cells #[erV (errOf (typedB k) 1), erV (errOf (true) 5), erV (errOf (false) 4)] 97 (0, 0))) (fun y w' w'' h k => k.heap h (fun h => h)) ?_ ?_
        focus
          intro xx w' hk hF
          refine wr_buildSlice (vs := [erV (errOf (typedB k) 1), erV (errOf (true) 5), erV (errOf (false) 4)]) rfl rfl (by intro v hv; simp at hv; rcases hv with rfl | rfl | rfl <;> exact er_size _) rfl (by decide) (by decide) (by decide) ?_
          apply wr_nil
          exact ⟨.pointer (some ⟨w'.heap.size, 0, none⟩), rfl, (by rw [← er3]; exact heap_alloc_same _ _), (Keeps.refl _ _).alloc _⟩
        apply chP_pure
        focus
          intro xx w' hk hF
          refine wr_call (vs := [.slice (some ⟨blkOf (xx 25), 0, none⟩) 3 3]) rfl (first_ca [errOf (typedB k) 1, errOf (true) 5, errOf (false) 4] (by simp) (blkOf (xx 25)) _ _ w' (hF 25 (by kernel_rfl))) rfl ?_
          rintro v w'' ⟨rfl, rfl⟩
          apply wr_nil
          exact ⟨rfl, Keeps.refl _ _⟩
        focus (intro xx yy h; rfl)
        focus kernel_rfl
        apply chP_pure
        focus
          intro xx w' hk hF
          apply wr_assign; exact rfl; with_reducible (conv => enter [6, 3]; whnf)
          apply wr_nil
          exact ⟨rfl, Keeps.refl _ _⟩
        focus (intro xx yy h; rfl)
        focus kernel_rfl
        refine chP_nil ?_
        intro yy w11 hk11' hF
        have hk11 := hk0 hk11'
        clear hF
        have hkf11 := hkf10.trans hk11
        have hc111 := hk11.heap hc110 (fun h => h)
        have hc211 := hk11.heap hc210 (fun h => h)
        have hc311 := hk11.heap hc310 (fun h => h)
        have hc411 := hk11.heap hc410 (fun h => h)
        have hc911 := hk11.heap hc910 (fun h => h)
        rw [show firstO _ = er from heq.symm]
        (repeat first | (apply wr_move; exact rfl; with_reducible (conv => enter [6, 3]; whnf)) | apply wr_end | apply wc_seq | apply wc_region)
        refine wr_bin rfl rfl rfl (by cases er <;> simp [eqGuard, erV]) (run_neEr er _) ?_
        cases er with
        | some e =>
          have hc1d : w11.drew.heap[bw1]? = _ := hc111
          have hED : ∀ {w'}, Keeps (fun q => q = bw3 ∨ q = bw4) w11.drew w' → ErrT w' := fun hk => by
            obtain ⟨T, fr, hg⟩ := hE
            have hl := lt_of_heap hg
            exact ⟨T, fr, hk.heap (hkf11.heap hg (fun h => h)) (fun e => by omega)⟩
          (repeat first | apply wr_end | apply wc_seq | (apply wc_true; exact rfl))
          refine V.L.wc_drawL (l := _) (V.L.duo w11.drew 4 5 bw3 bw4 (.cells (GCl (newC false)).toArray 32 (0, 0)) (.cells zeroRq.toArray 42 (0, 0)) (.cells (GCl c).toArray 32 (0, 0)) (.cells zeroRq.toArray 42 (0, 0))) (by kernel_rfl) (by kernel_rfl) ⟨Keeps.refl _ _, hc311, hc411⟩ ?_
          apply V.L.ch_step
          focus
            apply V.L.duo_read rfl rfl
            intro w hk
            refine wr_loadAll (cs := GCl c) rfl rfl rfl (hk.heap hc1d (fun e => by omega)) (GCl_len h.len) ?_
            apply wr_nil
            exact ⟨rfl, Keeps.refl _ _⟩
          apply V.L.ch_step
          focus
            apply V.L.duo_read rfl rfl
            intro w hk
            refine wr_build (ps := []) (cs := zeroRq) rfl rfl rfl rfl ?_
            apply wr_nil
            exact ⟨rfl, Keeps.refl _ _⟩
          apply V.L.ch_step
          focus
            apply V.L.duo_read rfl rfl
            intro w hk
            apply wr_move; exact rfl; with_reducible (conv => enter [6, 3]; whnf)
            apply wr_nil
            exact ⟨rfl, Keeps.refl _ _⟩
          apply V.L.ch_step
          focus
            apply V.L.duo_read rfl rfl
            intro w hk
            refine wr_call (vs := [erV (some e)]) rfl (told_ca (some e) w (hED hk)) rfl ?_
            rintro v w' ⟨rfl, hk'⟩
            apply wr_nil
            exact ⟨rfl, hk'⟩
          apply V.L.ch_step
          focus
            apply V.L.duo_st1 (by omega) rfl
            intro w hk hb
            refine wr_storeAll (cs := GCl c) rfl rfl rfl (GCl_one h) hb (GCl_len h.len) rfl ?_
            apply wr_nil
            exact ⟨rfl, rfl⟩
          apply V.L.ch_step
          focus
            apply V.L.duo_st2 (by omega) rfl
            intro w hk hb
            refine wr_storeAll (cs := zeroRq) rfl rfl rfl zeroRq_one hb rfl rfl ?_
            apply wr_nil
            exact ⟨rfl, rfl⟩
          apply V.L.ch_step
          focus
            apply V.L.duo_read rfl rfl
            intro w hk
            apply wr_assign; exact rfl; with_reducible (conv => enter [6, 3]; whnf)
            apply wr_nil
            exact ⟨rfl, Keeps.refl _ _⟩
          refine V.L.ch_nil ?_
          intro w12 hS
          obtain ⟨hk12, hc312, hc412⟩ := V.L.duo_end hS (by kernel_rfl) (by kernel_rfl)
          (repeat first | (apply wc_ret; try simp only [thenE, inBlockE, bodyQ]))
          exact leaveN (vs := [CliV c, .agg zeroRq.toArray, .int .i64 e]) (resv_cells (cs := GCl c) (e := 32) (fr := (0, 0)) rfl rfl hc312 (GCl_len h.len) (resv_cells (cs := zeroRq) (e := 42) (fr := (0, 0)) rfl rfl hc412 rfl (resv_tmp rfl resv_nil))) ⟨.inl ⟨e, by trivial, rfl⟩, hkf11.drew.trans' hk12 (fun i hi e => by rcases e with e | e <;> omega)⟩
        | none =>
          exact absurd heq.symm (firstO_last _ _ _ _ _)
end Go.Proofs.YtahlhldkcekbfaaGreatDoor
