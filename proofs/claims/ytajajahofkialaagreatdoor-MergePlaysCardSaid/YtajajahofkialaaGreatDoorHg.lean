/- merge: set. -/
import Derived.Test.YtajajahofkialaaGreatDoorHf
import Derived.Test.YtajajahofkialaaGreatDoorMg
namespace Go.Proofs.YtajajahofkialaaGreatDoor
open Go Go.V Go.RowKit
set_option linter.unusedVariables false
set_option linter.unusedSimpArgs false

theorem kp_none {i : Nat} {w w' : World} (k : V.F.Kp (V.E.othE (fun _ _ _ => False) i w) w w') : Keeps NoB w w' := k.1.mono fun q _ h => by
  obtain ⟨j, _, h⟩ := h
  exact h
theorem mon_none {i B : Nat} {w w' : World} (k : Keeps (V.E.monE (fun _ _ => False) B i) w w') : Keeps NoB w w' := k.mono fun q _ h => by
  obtain ⟨j, h, _⟩ := h
  exact h
section
variable {P : Program} {ops : Array Oper} {s1 s2 b1 b2 i : Nat} {w0 : World} {o1 o2 : Obj} {f : Env} {o : Oper} {v : Value}
/-- As duo_read, where what is stored is what stood there. -/
theorem duoS_read (h1 : Nat.beq s1 i = false) (h2 : Nat.beq s2 i = false) (h : ∀ w, Keeps (fun q => q = b1 ∨ q = b2) w0 w → w.heap[b1]? = some o1 → w.heap[b2]? = some o2 → Wr P ops (fun _ _ f' w' => f' = setO f o.dst v ∧ Keeps NoB w w') [] [o] f w) : V.L.One P ops (V.L.duo w0 s1 s2 b1 b2 o1 o2 o1 o2) i f o v := by
  intro L w hL hC hd hS
  obtain ⟨hk, hb1, hb2⟩ := hS
  have e1 : w.heap[b1]? = some o1 := by rw [hb1]; cases L s1 <;> rfl
  have e2 : w.heap[b2]? = some o2 := by rw [hb2]; cases L s2 <;> rfl
  refine V.L.wr_post (h w hk e1 e2) ?_
  rintro f' w' ⟨e, k⟩
  refine ⟨e, hk.trans k.upD, ?_, ?_⟩
  · rw [k.heap e1 (fun h => h)]
    dsimp only
    cases (L s1 || Nat.beq s1 i) <;> rfl
  · rw [k.heap e2 (fun h => h)]
    dsimp only
    cases (L s2 || Nat.beq s2 i) <;> rfl
end
theorem max_int (a b : Nat) : (if (b : Int) > (a : Int) then (b : Int) else (a : Int)) = ((max a b : Nat) : Int) := by
  rcases Nat.le_total a b with h | h
  · rw [Nat.max_eq_right h]
    split <;> omega
  · rw [Nat.max_eq_left h, if_neg (by omega)]
/-- A block of cells that is no merge, and no row of texts, may be written. -/
theorem MgAt.keepC {w w' : World} {n0 ab wb : Nat} {cb : List Nat} {Wn : WF} {b : Nat} {c : Array Value} {T : TypeId} {fr : Nat × Nat} (h : MgAt w n0 ab wb cb Wn) (k : Keeps (· = b) w w') (hb : w.heap[b]? = some (.cells c T fr)) (h1 : 76 ≠ T) (h2 : 9 ≠ T) : MgAt w' n0 ab wb cb Wn := by
  obtain ⟨M, hM, _⟩ := h.want
  refine h.keep k (fun e => V.F.heap_neT h.cells hb h1 e) (fun e => ?_) (fun q hq e => ?_) (fun q e cs hq => ?_)
  · subst e; exact map_ne hM hb rfl
  · obtain ⟨i, hi⟩ := List.getElem?_of_mem hq
    have e : q = b := e
    subst e
    exact mapb_ne (h.cnt i q hi) hb rfl
  · have e : q = b := e
    subst e
    rw [hb] at hq
    injection hq with hq
    injection hq with _ hq
    exact h2 hq.symm
theorem want_O {w : World} {n0 : Nat} {s : PS} {o : Option Value} (h : WantV w n0 s o) : SetO w n0 s (o.getD (SetV false nilV)) := by
  unfold WantV at h
  split at h
  · rename_i e
    rw [h, e]
    exact ⟨nilV, rfl, own_nilV _ _ _ _⟩
  · obtain ⟨v, rfl, h2⟩ := h
    exact ⟨v, rfl, h2⟩
def zO : Obj := .cells #[.bool false, nilV] 41 (0, 0)
theorem zset_one : ∀ u ∈ ([.bool false, nilV] : List Value), u.oneCell' = true := by intro u hu; simp at hu; rcases hu with rfl | rfl <;> rfl
theorem updW_back (Wn : WF) (t : TY) (s : PS) : updW (updW Wn t s) t (Wn t) = Wn := by
  funext u
  unfold updW
  by_cases h : u = t
  · rw [if_pos h, h]
  · rw [if_neg h, if_neg h]
/-- What set tells, and leaves. -/
def fitsS (Wn : WF) (t : TY) (k : Nat) (s : PS) : Bool := decide ((listP s).length ≤ 64) && decide ((listP (unionK (updW Wn t s) k)).length ≤ 64)
def SetOut (w' : World) (n0 ab wb : Nat) (cb : List Nat) (Wn : WF) (t : TY) (k : Nat) (s : PS) (p : Addr) (v : Value) : Prop :=
  (fitsS Wn t k s = true ∧ MgAt w' n0 ab wb cb (updW Wn t s) ∧ ∃ mv lv, v = .tuple #[mv, lv, .nilIface] ∧ SetR w' (lessP (unionK (updW Wn t s) k) (unionK Wn k)) mv ∧ SetR w' (lessP (unionK Wn k) (unionK (updW Wn t s) k)) lv) ∨
  (fitsS Wn t k s = false ∧ MgAt w' n0 ab wb cb Wn ∧ v = .tuple #[SetV false nilV, SetV false nilV, At t (Er p)])
set_option maxRecDepth 100000 in
set_option maxHeartbeats 16000000 in
theorem set_ca {w : World} {n0 ab wb : Nat} {cb : List Nat} {Wn : WF} (h : MgAt w n0 ab wb cb Wn) {p q : Addr} (hg : GloM w p q) (id : Int) (k : Nat) (ht : inDom (id, (k : Int))) {s : PS} {sv : Value} (hs : SetO w n0 s sv) (hsf : Fine s) (hsl : s.2.length ≤ 100000) :
    Ca Tryz.prog 41 #[.pointer (some ⟨ab, 0, none⟩), encT (id, (k : Int)), sv] w fun v w' => SetOut w' n0 ab wb cb Wn (id, (k : Int)) k s p v ∧ Keeps (mD wb cb) w w' := by
  obtain ⟨nv, rfl, hnv⟩ := hs
  have hk15 : 1 ≤ k ∧ k ≤ 5 := by obtain ⟨_, _, h1, h2⟩ := ht; simp at h1 h2; omega
  refine ca_of_body (args := [.pointer (some ⟨ab, 0, none⟩), encT (id, (k : Int)), SetV s.1 nv]) Tryz.func41 rfl (by kernel_rfl) ?_
  apply wc_seq
  apply wc_region
  refine wr_box (v := encT (id, (k : Int))) rfl rfl ?_
  refine wr_name ?_
  intro w1 hww1
  obtain ⟨bw1, hbw1⟩ : ∃ b, b = (w).heap.size := ⟨_, rfl⟩
  have hkw1 : Keeps NoB w w1 := by rw [hww1]; exact (Keeps.refl NoB w).alloc _
  have hcw1 : (w1).heap[bw1]? = some (.cells ([.int .i64 id, .int .i64 (k : Int)]).toArray 78 (0, 0)) := by rw [hww1, hbw1]; exact heap_alloc_same _ _
  rw [← hbw1]
  clear hww1
  refine wr_box (v := SetV s.1 nv) rfl rfl ?_
  refine wr_name ?_
  intro w2 hww2
  obtain ⟨bw2, hbw2⟩ : ∃ b, b = (w1).heap.size := ⟨_, rfl⟩
  have hkw2 : Keeps NoB w1 w2 := by rw [hww2]; exact (Keeps.refl NoB w1).alloc _
  have hcw2 : (w2).heap[bw2]? = some (.cells ([.bool s.1, nv]).toArray 41 (0, 0)) := by rw [hww2, hbw2]; exact heap_alloc_same _ _
  rw [← hbw2]
  clear hww2
  apply wr_alloc
  focus exact rfl
  refine wr_name ?_
  intro w3 hww3
  obtain ⟨bw3, hbw3⟩ : ∃ b, b = (w2).heap.size := ⟨_, rfl⟩
  have hkw3 : Keeps NoB w2 w3 := by rw [hww3]; exact (Keeps.refl NoB w2).alloc _
  have hcw3 : (w3).heap[bw3]? = some (.cells ([.bool false, nilV]).toArray 41 (0, 0)) := by rw [hww3, hbw3]; exact heap_alloc_same _ _
  rw [← hbw3]
  clear hww3
  apply wr_alloc
  focus exact rfl
  refine wr_name ?_
  intro w4 hww4
  obtain ⟨bw4, hbw4⟩ : ∃ b, b = (w3).heap.size := ⟨_, rfl⟩
  have hkw4 : Keeps NoB w3 w4 := by rw [hww4]; exact (Keeps.refl NoB w3).alloc _
  have hcw4 : (w4).heap[bw4]? = some (.cells ([.bool false, nilV]).toArray 41 (0, 0)) := by rw [hww4, hbw4]; exact heap_alloc_same _ _
  rw [← hbw4]
  clear hww4
  have hk24 := hkw3.trans hkw4
  have hk14 := hkw2.trans hk24
  have hk04 := hkw1.trans hk14
  have h4 := h.keepN hk04
  have hg4 := hg.keep hk04
  have hc14 := hk14.heap hcw1 (fun h => h)
  have hc24 := hk24.heap hcw2 (fun h => h)
  have hc34 := hkw4.heap hcw3 (fun h => h)
  have hnv4 := own_keep hnv hk04 (fun _ _ h => h)
  have hl1 := lt_of_heap hcw1
  have hl2 := lt_of_heap hcw2
  have hl3 := lt_of_heap hcw3
  have hl4 := lt_of_heap hcw4
  (repeat first | (apply wr_assign; exact rfl; with_reducible (conv => enter [6, 3]; whnf)) | apply wr_end | apply wc_seq | apply wc_region)
  refine wr_loadAll (cs := [.int .i64 id, .int .i64 (k : Int)]) rfl rfl rfl hc14 rfl ?_
  refine wr_call (vs := [encT (id, (k : Int))]) rfl (right_ca (id, (k : Int)) hg4) rfl ?_
  rintro v w5 ⟨rfl, hk5⟩
  rw [if_pos ht]
  have h5 := h4.keepN hk5
  have hc15 := hk5.heap hc14 (fun h => h)
  have hc25 := hk5.heap hc24 (fun h => h)
  have hc35 := hk5.heap hc34 (fun h => h)
  have hc45 := hk5.heap hcw4 (fun h => h)
  have hnv5 := own_keep hnv4 hk5 (fun _ _ h => h)
  have hk05 := hk04.trans hk5
  obtain ⟨M, hM, hMW⟩ := h5.want
  have hWO := want_O (hMW (id, (k : Int)))
  obtain ⟨wv, hwe, hwv⟩ := hWO
  obtain ⟨n1, hn1⟩ : ∃ n1, n1 = w5.heap.size := ⟨_, rfl⟩
  (repeat first | (apply wr_move; exact rfl; with_reducible (conv => enter [6, 3]; whnf)) | (apply wr_assign; exact rfl; with_reducible (conv => enter [6, 3]; whnf)) | apply wr_end | apply wc_seq | apply wc_region | apply wc_skip | (apply wr_nenil_f; iterate 2 exact rfl) | (apply wc_false; exact rfl))
  refine V.T.wc_drawE (l := _) 10 11 (fun _ _ _ => False) (fun _ _ => False) 12 _ (by kernel_rfl) (by kernel_rfl) rfl (by kernel_rfl) (by kernel_rfl) (by decide) (fun _ _ _ _ h => h) (by decide) (by decide) (by decide) ?_
  apply V.T.chP_pure
  focus
    intro xx w' hk hF
    apply wr_move; exact rfl; with_reducible (conv => enter [6, 3]; whnf)
    apply wr_nil
    exact ⟨rfl, V.F.Kp.of (Keeps.refl _ _)⟩
  focus (intro xx yy h; rfl)
  focus kernel_rfl
  focus kernel_rfl
  apply V.T.chP_pure
  focus
    intro xx w' hk hF
    (apply wr_nilCheck; iterate 2 exact rfl)
    apply wr_nil
    exact ⟨rfl, V.F.Kp.of (Keeps.refl _ _)⟩
  focus (intro xx yy h; rfl)
  focus kernel_rfl
  focus kernel_rfl
  apply V.T.chP_pure
  focus
    intro xx w' hk hF
    refine wr_fieldAddr rfl rfl ?_
    apply wr_nil
    exact ⟨rfl, V.F.Kp.of (Keeps.refl _ _)⟩
  focus (intro xx yy h; rfl)
  focus kernel_rfl
  focus kernel_rfl
  apply V.T.chP_pure
  focus
    intro xx w' hk hF
    refine wr_load (v := .map (some wb)) rfl rfl rfl (((Keeps.refl NoB w5).drew.trans (mon_none hk)).heap h5.cells (fun h => h)) rfl ?_
    apply wr_nil
    exact ⟨rfl, V.F.Kp.of (Keeps.refl _ _)⟩
  focus (intro xx yy h; rfl)
  focus kernel_rfl
  focus kernel_rfl
  apply V.T.chP_pure
  focus
    intro xx w' hk hF
    refine wr_loadAll (cs := [.int .i64 id, .int .i64 (k : Int)]) rfl rfl rfl (((Keeps.refl NoB w5).drew.trans (mon_none hk)).heap hc15 (fun h => h)) rfl ?_
    apply wr_nil
    exact ⟨rfl, V.F.Kp.of (Keeps.refl _ _)⟩
  focus (intro xx yy h; rfl)
  focus kernel_rfl
  focus kernel_rfl
  apply V.T.chP_pure
  focus
    intro xx w' hk hF
    refine wr_lookup (l := M) (a := (id, (k : Int))) rfl rfl (hM.keep ((Keeps.refl NoB w5).drew.trans (mon_none hk)) (fun h => h)) rfl ?_
    rw [show (getM M (id, (k : Int))).getD _ = SetV (Wn (id, (k : Int))).1 wv from hwe]
    apply wr_nil
    exact ⟨rfl, V.F.Kp.of (Keeps.refl _ _)⟩
  focus (intro xx yy h; rfl)
  focus kernel_rfl
  focus kernel_rfl
  apply V.T.chP_pure
  focus
    intro xx w' hk hF
    apply wr_move; exact rfl; with_reducible (conv => enter [6, 3]; whnf)
    apply wr_nil
    exact ⟨rfl, V.F.Kp.of (Keeps.refl _ _)⟩
  focus (intro xx yy h; rfl)
  focus kernel_rfl
  focus kernel_rfl
  apply V.T.chP_pure
  focus
    intro xx w' hk hF
    refine wr_fieldAddr rfl rfl ?_
    apply wr_nil
    exact ⟨rfl, V.F.Kp.of (Keeps.refl _ _)⟩
  focus (intro xx yy h; rfl)
  focus kernel_rfl
  focus kernel_rfl
  apply V.T.chP_pure
  focus
    intro xx w' hk hF
    refine wr_load (v := .int .i64 (k : Int)) rfl rfl rfl (((Keeps.refl NoB w5).drew.trans (mon_none hk)).heap hc15 (fun h => h)) rfl ?_
    apply wr_nil
    exact ⟨rfl, V.F.Kp.of (Keeps.refl _ _)⟩
  focus (intro xx yy h; rfl)
  focus kernel_rfl
  focus kernel_rfl
  refine V.T.chP_fact (fun y => y) (fun _ y w' => ∃ n, SetO w' n (unionK Wn k) y) (fun _ _ _ _ _ a => a) (by kernel_rfl) (fun x y w w' h k => h.elim fun n h => ⟨n, h.keepT (kp_none k) (fun _ h => h.elim)⟩) ?_ ?_
  focus
    intro xx w' hk hF
    refine wr_call (vs := [.pointer (some ⟨ab, 0, none⟩), .int .i64 (k : Int)]) rfl (unionM_ca (h5.keepN ((Keeps.refl NoB w5).drew.trans (mon_none hk))) k hk15.1 hk15.2) rfl ?_
    rintro v w'' ⟨hR, hkc⟩
    apply wr_nil
    exact ⟨v, rfl, ⟨_, hR⟩, V.F.Kp.of hkc, V.T.nw_none (by kernel_rfl)⟩
  refine V.T.chP_fact (fun y => .pointer (some ⟨blkOf y, 0, none⟩)) (fun _ y w' => n1 ≤ blkOf y ∧ w'.heap[blkOf y]? = some (.cells [.bool false, nilV].toArray 41 (0, 0))) (fun _ _ _ _ _ a => a) (by kernel_rfl) (fun x y w w' h k => ⟨h.1, (kp_none k).heap h.2 (fun h => h)⟩) ?_ ?_
  focus
    intro xx w' hk hF
    have hsz := (mon_none hk).size
    apply wr_alloc
    focus exact rfl
    apply wr_nil
    exact ⟨.pointer (some ⟨w'.heap.size, 0, none⟩), rfl, ⟨hn1 ▸ hsz, heap_alloc_same _ _⟩, V.F.Kp.of ((Keeps.refl _ _).alloc _), fun _ => ⟨Nat.le_refl _, by simp [V.T.blkV]⟩⟩
  refine V.T.chP_fact (fun y => .pointer (some ⟨blkOf y, 0, none⟩)) (fun _ y w' => n1 ≤ blkOf y ∧ w'.heap[blkOf y]? = some (.cells [.bool false, nilV].toArray 41 (0, 0))) (fun _ _ _ _ _ a => a) (by kernel_rfl) (fun x y w w' h k => ⟨h.1, (kp_none k).heap h.2 (fun h => h)⟩) ?_ ?_
  focus
    intro xx w' hk hF
    have hsz := (mon_none hk).size
    apply wr_alloc
    focus exact rfl
    apply wr_nil
    exact ⟨.pointer (some ⟨w'.heap.size, 0, none⟩), rfl, ⟨hn1 ▸ hsz, heap_alloc_same _ _⟩, V.F.Kp.of ((Keeps.refl _ _).alloc _), fun _ => ⟨Nat.le_refl _, by simp [V.T.blkV]⟩⟩
  refine V.T.chP_nil ?_
  intro xx w6 hk6' hF hne
  have hk56 : Keeps NoB w5 w6 := (Keeps.refl NoB w5).drew.trans (hk6'.mono fun q _ h => by obtain ⟨j, h⟩ := h; exact h)
  obtain ⟨nu, uv, hx9, huv⟩ : ∃ n, SetO w6 n (unionK Wn k) (xx 9) := hF 9 (by decide)
  obtain ⟨hza, hca6⟩ : n1 ≤ blkOf (xx 10) ∧ w6.heap[blkOf (xx 10)]? = some (.cells [.bool false, nilV].toArray 41 (0, 0)) := hF 10 (by decide)
  obtain ⟨hzb, hcb6⟩ : n1 ≤ blkOf (xx 11) ∧ w6.heap[blkOf (xx 11)]? = some (.cells [.bool false, nilV].toArray 41 (0, 0)) := hF 11 (by decide)
  clear hF
  obtain ⟨ba, hba⟩ : ∃ b, b = blkOf (xx 10) := ⟨_, rfl⟩
  obtain ⟨bb, hbb⟩ : ∃ b, b = blkOf (xx 11) := ⟨_, rfl⟩
  have hne : ba ≠ bb := by rw [hba, hbb]; exact hne
  rw [← hba] at hca6 hza
  rw [← hbb] at hcb6 hzb
  dsimp only [Nat.reduceAdd]
  rw [hx9, ← hba, ← hbb]
  clear hx9 hba hbb
  have hz5 := hk5.size
  have hlt : bw1 < n1 ∧ bw2 < n1 ∧ bw3 < n1 ∧ bw4 < n1 := by
    have := lt_of_heap hc15
    have := lt_of_heap hc25
    have := lt_of_heap hc35
    have := lt_of_heap hc45
    omega
  have hwv6 := own_keep hwv hk56 (fun _ _ h => h)
  refine wr_storeAll (cs := [.bool (Wn (id, (k : Int))).1, wv]) rfl rfl rfl (by intro u hu; simp at hu; rcases hu with rfl | rfl; rfl; exact own_one hwv) hca6 (rfl) (rfl) ?_
  refine wr_name ?_
  intro w7 hww7
  have hkw7 : Keeps (· = ba) w6 w7 := by rw [hww7]; exact (Keeps.refl _ w6).put _ (fun _ => rfl)
  have hcw7 : (w7).heap[ba]? = some (.cells ([.bool (Wn (id, (k : Int))).1, wv]).toArray 41 (0, 0)) := by rw [hww7]; exact World.putObj_heap_same (lt_of_heap hca6)
  clear hww7
  have hcb7 := hkw7.heap hcb6 (fun e => hne e.symm)
  refine wr_storeAll (cs := [.bool (unionK Wn k).1, uv]) rfl rfl rfl (by intro u hu; simp at hu; rcases hu with rfl | rfl; rfl; exact own_one huv) hcb7 (rfl) (rfl) ?_
  refine wr_name ?_
  intro w8 hww8
  have hkw8 : Keeps (· = bb) w7 w8 := by rw [hww8]; exact (Keeps.refl _ w7).put _ (fun _ => rfl)
  have hcw8 : (w8).heap[bb]? = some (.cells ([.bool (unionK Wn k).1, uv]).toArray 41 (0, 0)) := by rw [hww8]; exact World.putObj_heap_same (lt_of_heap hcb7)
  clear hww8
  have hca8 := hkw8.heap hcw7 (fun e => hne e)
  have hz05 := hk05.size
  have hk68 : Keeps (fun q => q = ba ∨ q = bb) w6 w8 := (hkw7.mono fun _ _ h => .inl h).trans (hkw8.mono fun _ _ h => .inr h)
  have mv : ∀ {T : TypeId} {base sz m : Nat} {v : Value} {xs : List Value}, w6.ownsRow base T sz v m xs → T ≠ 41 → w8.ownsRow base T sz v m xs := fun ho hT => by
    have o1 := own_keep ho hkw7 (V.F.own_neT ho hca6 hT)
    exact own_keep o1 hkw8 (V.F.own_neT o1 hcb7 hT)
  have hwv8 := mv hwv6 (by decide)
  have huv8 := mv huv (by decide)
  have hnv8 := mv (own_keep hnv5 hk56 (fun _ _ h => h)) (by decide)
  have hpd : ∀ {b : Nat} {o : Obj}, w5.heap[b]? = some o → w8.heap[b]? = some o := fun hb => by
    have h1 := lt_of_heap hb
    exact hk68.heap (hk56.heap hb (fun h => h)) (fun e => by omega)
  have hk58 : Keeps NoB w5 w8 := hk56.trans' hk68 (fun q hq e => by omega)
  have h8 := h5.keepN hk58
  have hg8 := (hg4.keep hk5).keep hk58
  (repeat first | (apply wr_move; exact rfl; with_reducible (conv => enter [6, 3]; whnf)) | apply wr_end | apply wc_seq | apply wc_region)
  refine wr_loadAll (cs := [.int .i64 id, .int .i64 (k : Int)]) rfl rfl rfl (hpd hc15) rfl ?_
  refine wr_loadAll (cs := [.bool s.1, nv]) rfl rfl rfl (hpd hc25) rfl ?_
  refine wr_call (vs := [.pointer (some ⟨ab, 0, none⟩), encT (id, (k : Int)), SetV s.1 nv]) rfl (turn_ca h8 id k ht ⟨nv, rfl, hnv8⟩ hsf hsl) rfl ?_
  rintro v w9 ⟨rfl, h9, hk9⟩
  have kc : ∀ {b : Nat} {c : Array Value} {T : TypeId} {r : Nat × Nat}, w8.heap[b]? = some (.cells c T r) → w9.heap[b]? = some (.cells c T r) := fun hb => hk9.heap hb (fun e => mD_nc h8 _ e _ _ _ hb)
  have ko : ∀ {T : TypeId} {base sz m : Nat} {v : Value} {xs : List Value}, w8.ownsRow base T sz v m xs → w9.ownsRow base T sz v m xs := fun ho => own_keep ho hk9 (fun q hq e => by
    rcases ho.2 with ⟨rfl, _⟩ | ⟨g, cap, cur, rfl, _, hg, _⟩
    · cases hq
    · simp [Value.ownBlock] at hq
      subst hq
      exact mD_nc h8 _ e _ _ _ hg)
  have hg9 := hg8.keepD hk9 (mD_nc h8)
  have hz58 := hk58.size
  have hz9 := hk9.size
  have hc19 := kc (hpd hc15)
  have hc29 := kc (hpd hc25)
  have hc39 := kc (hpd hc35)
  have hc49 := kc (hpd hc45)
  have hca9 := kc hca8
  have hcb9 := kc hcw8
  have hwv9 := ko hwv8
  have huv9 := ko huv8
  have hnv9 := ko hnv8
  (repeat first | (apply wr_move; exact rfl; with_reducible (conv => enter [6, 3]; whnf)) | apply wr_end | apply wc_seq | apply wc_region | (apply wr_fieldAddr; iterate 2 exact rfl) | (apply wr_load; (iterate 3 exact rfl); (focus repeat first | with_reducible assumption | exact heap_alloc_same _ _ | exact World.putObj_heap_same (by first | omega | (simp only [World.size_alloc, World.putObj_size, ne_eq]; omega)) | ((first | refine hAl ?_ ?_ | refine hPu ?_ ?_); focus first | omega | (simp only [World.size_alloc, World.putObj_size, ne_eq]; omega))); exact rfl; conv => enter [6, 3]; whnf))
  refine wr_call (vs := [.pointer (some ⟨ab, 0, none⟩), .int .i64 (k : Int)]) rfl (unionM_ca h9 k hk15.1 hk15.2) rfl ?_
  rintro sv w10 ⟨⟨nw, rfl, hnw⟩, hk10⟩
  obtain ⟨U', hU'⟩ : ∃ U', U' = unionK (updW Wn (id, (k : Int)) s) k := ⟨_, rfl⟩
  obtain ⟨U, hU⟩ : ∃ U, U = unionK Wn k := ⟨_, rfl⟩
  rw [← hU'] at hnw ⊢
  rw [← hU] at huv9 hcb9
  have hUf : Fine U := by rw [hU]; exact ofP_fine _
  have hUf' : Fine U' := by rw [hU']; exact ofP_fine _
  have hUl : U.2.length ≤ 3400000 := by rw [hU]; exact Nat.le_trans (ofP_le _) (allL_len h.small k)
  have hUl' : U'.2.length ≤ 3400000 := by rw [hU']; exact Nat.le_trans (ofP_le _) (allL_len h9.small k)
  (repeat first | (apply wr_alloc; exact rfl))
  refine wr_storeAll (cs := [.bool U'.1, nw]) rfl rfl rfl (by intro u hu; simp at hu; rcases hu with rfl | rfl; rfl; exact own_one hnw) (heap_alloc_same _ _) rfl rfl ?_
  refine wr_name ?_
  intro w11 hww11
  obtain ⟨bw11, hbw11⟩ : ∃ b, b = (w10).heap.size := ⟨_, rfl⟩
  have hkw11 : Keeps NoB w10 w11 := by rw [hww11]; exact ((Keeps.refl NoB w10).alloc _).put _ (fun h => by omega)
  have hcw11 : (w11).heap[bw11]? = some (.cells ([.bool U'.1, nw]).toArray 41 (0, 0)) := by rw [hww11, hbw11]; exact World.putObj_heap_same (by simp)
  rw [← hbw11]
  clear hww11
  have hk911 := hk10.trans hkw11
  have h11 := h9.keepN hk911
  have hg11 := hg9.keep hk911
  have hc111 := hk911.heap hc19 (fun h => h)
  have hc211 := hk911.heap hc29 (fun h => h)
  have hc311 := hk911.heap hc39 (fun h => h)
  have hc411 := hk911.heap hc49 (fun h => h)
  have hca11 := hk911.heap hca9 (fun h => h)
  have hcb11 := hk911.heap hcb9 (fun h => h)
  have hwv11 := own_keep hwv9 hk911 (fun _ _ h => h)
  have huv11 := own_keep huv9 hk911 (fun _ _ h => h)
  have hnv11 := own_keep hnv9 hk911 (fun _ _ h => h)
  have hnw11 := own_keep hnw hkw11 (fun _ _ h => h)
  have hz911 := hk911.size
  have hls := listP_le s
  have hlU := listP_le U'
  have hk0 : ∀ {w'}, Keeps NoB w11.drew w' → Keeps NoB w11 w' := fun hk => (Keeps.refl NoB w11).drew.trans hk
  have rdR : ∀ {w' : World} {n : Nat} {s : PS} {v : Value}, w11.ownsRow n 9 1 v s.2.length (SL s.2) → Keeps NoB w11 w' → SetR w' s (SetV s.1 v) := fun ho hk => ⟨_, rfl, SlR.of_own (own_keep ho hk (fun _ _ h => h))⟩
  (repeat first | apply wr_end | apply wc_seq)
  refine wc_drawP (l := _) 8 _ (by kernel_rfl) (by kernel_rfl) rfl (by kernel_rfl) (by kernel_rfl) (by decide) ?_
  apply chP_pure
  focus
    intro xx w' hk hF
    refine wr_loadAll (cs := [.bool s.1, nv]) rfl rfl rfl ((hk0 hk).heap hc211 (fun h => h)) rfl ?_
    apply wr_nil
    exact ⟨rfl, Keeps.refl _ _⟩
  focus (intro xx yy h; rfl)
  focus kernel_rfl
  refine chP_fact (fun y => y) (fun y w' => SlR w' 1 y (listP s).length (SL (listP s))) (fun y w' w'' h k => h.keep k (fun _ _ h => h)) ?_ ?_
  focus
    intro xx w' hk hF
    refine wr_call (vs := [SetV s.1 nv]) rfl (list_ca s _ w' (rdR hnv11 (hk0 hk)) (by omega)) rfl ?_
    rintro v w'' ⟨hR, hkc⟩
    apply wr_nil
    exact ⟨v, rfl, hR, hkc⟩
  apply chP_pure
  focus
    intro xx w' hk hF
    obtain ⟨a, c, e, _⟩ := slr_strs (hF 1 (by kernel_rfl) : SlR w' 1 (xx 1) (listP s).length (SL (listP s)))
    refine wr_len_slice rfl e ?_
    apply wr_nil
    exact ⟨rfl, Keeps.refl _ _⟩
  focus (intro xx yy h; rfl)
  focus kernel_rfl
  apply chP_pure
  focus
    intro xx w' hk hF
    refine wr_loadAll (cs := [.bool U'.1, nw]) rfl rfl rfl ((hk0 hk).heap hcw11 (fun h => h)) rfl ?_
    apply wr_nil
    exact ⟨rfl, Keeps.refl _ _⟩
  focus (intro xx yy h; rfl)
  focus kernel_rfl
  refine chP_fact (fun y => y) (fun y w' => SlR w' 1 y (listP U').length (SL (listP U'))) (fun y w' w'' h k => h.keep k (fun _ _ h => h)) ?_ ?_
  focus
    intro xx w' hk hF
    refine wr_call (vs := [SetV U'.1 nw]) rfl (list_ca U' _ w' (rdR hnw11 (hk0 hk)) (by omega)) rfl ?_
    rintro v w'' ⟨hR, hkc⟩
    apply wr_nil
    exact ⟨v, rfl, hR, hkc⟩
  apply chP_pure
  focus
    intro xx w' hk hF
    obtain ⟨a, c, e, _⟩ := slr_strs (hF 4 (by kernel_rfl) : SlR w' 1 (xx 4) (listP U').length (SL (listP U')))
    refine wr_len_slice rfl e ?_
    apply wr_nil
    exact ⟨rfl, Keeps.refl _ _⟩
  focus (intro xx yy h; rfl)
  focus kernel_rfl
  apply chP_pure
  focus
    intro xx w' hk hF
    refine wr_max (c := ((max (listP s).length (listP U').length : Nat) : Int)) rfl rfl rfl (max_int _ _) ?_
    apply wr_nil
    exact ⟨rfl, Keeps.refl _ _⟩
  focus (intro xx yy h; rfl)
  focus kernel_rfl
  apply chP_pure
  focus
    intro xx w' hk hF
    refine wr_cmp (c := decide (64 < max (listP s).length (listP U').length)) rfl rfl rfl (by rcases Decidable.em (64 < max (listP s).length (listP U').length) with h64 | h64; (rw [decide_eq_true h64]; exact cmpT (by dsimp only [cmpP]; omega)); (rw [decide_eq_false h64]; exact cmpF (by dsimp only [cmpN]; omega))) ?_
    apply wr_nil
    exact ⟨rfl, Keeps.refl _ _⟩
  focus (intro xx yy h; rfl)
  focus kernel_rfl
  refine chP_nil ?_
  intro yy w12 hk12' hF
  clear hF
  have hk12 := hk0 hk12'
  clear hk0
  have h12 := h11.keepN hk12
  have hg12 := hg11.keep hk12
  have hc112 := hk12.heap hc111 (fun h => h)
  have hc312 := hk12.heap hc311 (fun h => h)
  have hc412 := hk12.heap hc411 (fun h => h)
  have hca12 := hk12.heap hca11 (fun h => h)
  have hcb12 := hk12.heap hcb11 (fun h => h)
  have hcU12 := hk12.heap hcw11 (fun h => h)
  have hwv12 := own_keep hwv11 hk12 (fun _ _ h => h)
  have huv12 := own_keep huv11 hk12 (fun _ _ h => h)
  have hnw12 := own_keep hnw11 hk12 (fun _ _ h => h)
  have hmD8 : Keeps (mD wb cb) w w9 := (hk05.trans hk58).upD.trans hk9
  have hmD : Keeps (mD wb cb) w w12 := hmD8.trans (hk911.trans hk12).upD
  have hfit : fitsS Wn (id, (k : Int)) k s = !decide (64 < max (listP s).length (listP U').length) := by
    unfold fitsS
    rw [← hU']
    by_cases h1 : (listP s).length ≤ 64
    · rw [decide_eq_true h1, Bool.true_and]
      by_cases h2 : (listP U').length ≤ 64
      · rw [decide_eq_true h2, decide_eq_false (by omega)]; rfl
      · rw [decide_eq_false h2, decide_eq_true (by omega)]; rfl
    · rw [decide_eq_false h1, Bool.false_and, decide_eq_true (by omega)]; rfl
  cases hmx : decide (64 < max (listP s).length (listP U').length) with
  | true =>
    rw [hmx] at hfit
    (repeat first | (apply wr_move; exact rfl; with_reducible (conv => enter [6, 3]; whnf)) | apply wr_end | apply wc_seq | apply wc_region | (apply wc_true; exact rfl))
    refine wr_loadAll (cs := [.int .i64 id, .int .i64 (k : Int)]) rfl rfl rfl hc112 rfl ?_
    refine wr_loadAll (cs := [.bool (Wn (id, (k : Int))).1, wv]) rfl rfl rfl hca12 rfl ?_
    refine wr_call (vs := [.pointer (some ⟨ab, 0, none⟩), encT (id, (k : Int)), SetV (Wn (id, (k : Int))).1 wv]) rfl (turn_ca h12 id k ht ⟨wv, rfl, hwv12⟩ (h.fine _) (h.small _)) rfl ?_
    rintro v w13 ⟨rfl, h13, hk13⟩
    rw [updW_back] at h13
    have kc13 : ∀ {b : Nat} {c : Array Value} {T : TypeId} {r : Nat × Nat}, w12.heap[b]? = some (.cells c T r) → w13.heap[b]? = some (.cells c T r) := fun hb => hk13.heap hb (fun e => mD_nc h12 _ e _ _ _ hb)
    have hg13 := hg12.keepD hk13 (mD_nc h12)
    have hc113 := kc13 hc112
    have hc313 := kc13 hc312
    have hc413 := kc13 hc412
    obtain ⟨tg, rg, hgm⟩ := hg13.many
    have hgb : 1 ≠ bw3 ∧ 1 ≠ bw4 := by
      obtain ⟨t0, r0, h0⟩ := hg.many
      have := lt_of_heap h0
      have := hkw1.size
      have := hkw2.size
      have := hkw3.size
      omega
    (repeat first | apply wr_end | apply wc_seq)
    refine V.L.wc_drawL (l := _) (V.L.duo w13.drew 6 7 bw3 bw4 zO zO zO zO) (by kernel_rfl) (by kernel_rfl) ⟨Keeps.refl _ _, (show w13.drew.heap[bw3]? = some zO from hc313), (show w13.drew.heap[bw4]? = some zO from hc413)⟩ ?_
    apply V.L.ch_step
    focus
      apply duoS_read rfl rfl
      intro w hk hb1 hb2
      refine wr_loadAll (cs := [.bool false, nilV]) rfl rfl rfl hb1 rfl ?_
      apply wr_nil
      exact ⟨rfl, Keeps.refl _ _⟩
    apply V.L.ch_step
    focus
      apply duoS_read rfl rfl
      intro w hk hb1 hb2
      refine wr_loadAll (cs := [.bool false, nilV]) rfl rfl rfl hb2 rfl ?_
      apply wr_nil
      exact ⟨rfl, Keeps.refl _ _⟩
    apply V.L.ch_step
    focus
      apply duoS_read rfl rfl
      intro w hk hb1 hb2
      refine wr_loadAll (cs := [.int .i64 id, .int .i64 (k : Int)]) rfl rfl rfl (hk.heap (show w13.drew.heap[bw1]? = _ from hc113) (fun e => by omega)) rfl ?_
      apply wr_nil
      exact ⟨rfl, Keeps.refl _ _⟩
    apply V.L.ch_step
    focus
      apply duoS_read rfl rfl
      intro w hk hb1 hb2
      refine wr_load (v := Er p) rfl rfl rfl (hk.heap (show w13.drew.heap[1]? = _ from hgm) (fun e => by rcases e with e | e; exact hgb.1 e; exact hgb.2 e)) rfl ?_
      apply wr_nil
      exact ⟨rfl, Keeps.refl _ _⟩
    apply V.L.ch_step
    focus
      apply duoS_read rfl rfl
      intro w hk hb1 hb2
      refine wr_build (ps := [(0, .agg #[.int .i64 id, .int .i64 (k : Int)]), (1, Er p)]) (cs := [.int .i64 id, .int .i64 (k : Int), Er p]) rfl rfl rfl rfl ?_
      apply wr_nil
      exact ⟨rfl, Keeps.refl _ _⟩
    apply V.L.ch_step
    focus
      apply duoS_read rfl rfl
      intro w hk hb1 hb2
      refine wr_makeIface (v := .agg #[.int .i64 id, .int .i64 (k : Int), Er p]) rfl rfl rfl ?_
      apply wr_nil
      exact ⟨rfl, Keeps.refl _ _⟩
    apply V.L.ch_step
    focus
      apply V.L.duo_st1 (by omega) rfl
      intro w hk hb
      refine wr_storeAll (cs := [.bool false, nilV]) rfl rfl rfl (zset_one) hb rfl rfl ?_
      apply wr_nil
      exact ⟨rfl, rfl⟩
    apply V.L.ch_step
    focus
      apply V.L.duo_st2 (by omega) rfl
      intro w hk hb
      refine wr_storeAll (cs := [.bool false, nilV]) rfl rfl rfl (zset_one) hb rfl rfl ?_
      apply wr_nil
      exact ⟨rfl, rfl⟩
    apply V.L.ch_step
    focus
      apply duoS_read rfl rfl
      intro w hk hb1 hb2
      apply wr_assign; exact rfl; with_reducible (conv => enter [6, 3]; whnf)
      apply wr_nil
      exact ⟨rfl, Keeps.refl _ _⟩
    refine V.L.ch_nil ?_
    intro w14 hS
    obtain ⟨hk14', hc314, hc414⟩ := V.L.duo_end hS (by kernel_rfl) (by kernel_rfl)
    have hk1314 : Keeps (fun q => q = bw3 ∨ q = bw4) w13 w14 := (Keeps.refl NoB w13).drew.upD.trans hk14'
    (repeat first | (apply wc_ret; try simp only [thenE, inBlockE, bodyQ]))
    refine leaveN (vs := [SetV false nilV, SetV false nilV, At (id, (k : Int)) (Er p)]) (resv_cells (cs := [.bool false, nilV]) (e := 41) (fr := (0, 0)) rfl rfl hc314 rfl (resv_cells (cs := [.bool false, nilV]) (e := 41) (fr := (0, 0)) rfl rfl hc414 rfl (resv_tmp rfl resv_nil))) ⟨.inr ⟨hfit, ?_, rfl⟩, ?_⟩
    · have : Keeps NoB w13 w14 := ⟨hk1314.os, hk1314.tape, hk1314.output, hk1314.size, fun i hi _ => by
        by_cases e3 : i = bw3
        · subst e3; rw [hc314, hc313]; rfl
        · by_cases e4 : i = bw4
          · subst e4; rw [hc414, hc413]; rfl
          · exact hk1314.block i hi (fun e => e.elim e3 e4)⟩
      exact h13.keepN this
    · exact (hmD.trans hk13).trans' hk1314 (fun i hi e => by have := hkw1.size; have := hkw2.size; have := hkw3.size; omega)
  | false =>
    rw [hmx] at hfit
    have hk0 : ∀ {w'}, Keeps NoB w12.drew w' → Keeps NoB w12 w' := fun hk => (Keeps.refl NoB w12).drew.trans hk
    have rdR2 : ∀ {w' : World} {n : Nat} {s : PS} {v : Value}, w12.ownsRow n 9 1 v s.2.length (SL s.2) → Keeps NoB w12 w' → SetR w' s (SetV s.1 v) := fun ho hk => ⟨_, rfl, SlR.of_own (own_keep ho hk (fun _ _ h => h))⟩
    (repeat first | apply wr_end | apply wc_seq | apply wc_skip | (apply wc_false; exact rfl))
    refine wc_drawP (l := _) 6 _ (by kernel_rfl) (by kernel_rfl) rfl (by kernel_rfl) (by kernel_rfl) (by decide) ?_
    apply chP_pure
    focus
      intro xx w' hk hF
      refine wr_loadAll (cs := [.bool U'.1, nw]) rfl rfl rfl ((hk0 hk).heap hcU12 (fun h => h)) rfl ?_
      apply wr_nil
      exact ⟨rfl, Keeps.refl _ _⟩
    focus (intro xx yy h; rfl)
    focus kernel_rfl
    apply chP_pure
    focus
      intro xx w' hk hF
      refine wr_loadAll (cs := [.bool U.1, uv]) rfl rfl rfl ((hk0 hk).heap hcb12 (fun h => h)) rfl ?_
      apply wr_nil
      exact ⟨rfl, Keeps.refl _ _⟩
    focus (intro xx yy h; rfl)
    focus kernel_rfl
    refine chP_fact (fun y => y) (fun y w' => SetR w' (lessP U' U) y) (fun y w' w'' h k => h.keep k) ?_ ?_
    focus
      intro xx w' hk hF
      refine wr_call (vs := [SetV U'.1 nw, SetV U.1 uv]) rfl (less_ca U' U _ _ w' (rdR2 hnw12 (hk0 hk)) (rdR2 huv12 (hk0 hk)) (by omega) (by omega)) rfl ?_
      rintro v w'' ⟨hR, hkc⟩
      apply wr_nil
      exact ⟨v, rfl, hR, hkc⟩
    apply chP_pure
    focus
      intro xx w' hk hF
      refine wr_loadAll (cs := [.bool U.1, uv]) rfl rfl rfl ((hk0 hk).heap hcb12 (fun h => h)) rfl ?_
      apply wr_nil
      exact ⟨rfl, Keeps.refl _ _⟩
    focus (intro xx yy h; rfl)
    focus kernel_rfl
    apply chP_pure
    focus
      intro xx w' hk hF
      refine wr_loadAll (cs := [.bool U'.1, nw]) rfl rfl rfl ((hk0 hk).heap hcU12 (fun h => h)) rfl ?_
      apply wr_nil
      exact ⟨rfl, Keeps.refl _ _⟩
    focus (intro xx yy h; rfl)
    focus kernel_rfl
    refine chP_fact (fun y => y) (fun y w' => SetR w' (lessP U U') y) (fun y w' w'' h k => h.keep k) ?_ ?_
    focus
      intro xx w' hk hF
      refine wr_call (vs := [SetV U.1 uv, SetV U'.1 nw]) rfl (less_ca U U' _ _ w' (rdR2 huv12 (hk0 hk)) (rdR2 hnw12 (hk0 hk)) (by omega) (by omega)) rfl ?_
      rintro v w'' ⟨hR, hkc⟩
      apply wr_nil
      exact ⟨v, rfl, hR, hkc⟩
    refine chP_nil ?_
    intro zz w13 hk13' hF
    have hk13 := hk0 hk13'
    obtain ⟨mv1, hz2, hmv1⟩ : SetR w13 (lessP U' U) (zz 2) := hF 2 (by decide)
    obtain ⟨lv1, hz5, hlv1⟩ : SetR w13 (lessP U U') (zz 5) := hF 5 (by decide)
    clear hF
    have hR1 : SetR w13 (lessP U' U) (SetV (lessP U' U).1 mv1) := ⟨mv1, rfl, hmv1⟩
    have hR2 : SetR w13 (lessP U U') (SetV (lessP U U').1 lv1) := ⟨lv1, rfl, hlv1⟩
    have hc313 := hk13.heap hc312 (fun h => h)
    have hc413 := hk13.heap hc412 (fun h => h)
    dsimp only [Nat.reduceAdd]
    rw [hz2, hz5]
    clear hz2 hz5
    refine wr_storeAll (cs := [.bool (lessP U' U).1, mv1]) rfl rfl rfl (by intro u hu; simp at hu; rcases hu with rfl | rfl; rfl; exact hR1.one.1) hc313 (rfl) (rfl) ?_
    refine wr_name ?_
    intro w14 hww14
    have hkw14 : Keeps (· = bw3) w13 w14 := by rw [hww14]; exact (Keeps.refl _ w13).put _ (fun _ => rfl)
    have hcw14 : (w14).heap[bw3]? = some (.cells ([.bool (lessP U' U).1, mv1]).toArray 41 (0, 0)) := by rw [hww14]; exact World.putObj_heap_same (lt_of_heap hc313)
    clear hww14
    have hc414 := hkw14.heap hc413 (fun e => by omega)
    have zne : ∀ (j : Nat) (t : TT), (#[.bool false, nilV] : Array Value)[j]? ≠ some (S t) := setCells_ne false nilV (fun t h => by cases h)
    have hR14 := hR1.put hkw14 hc313 zne
    have hL14 := hR2.put hkw14 hc313 zne
    refine wr_storeAll (cs := [.bool (lessP U U').1, lv1]) rfl rfl rfl (by intro u hu; simp at hu; rcases hu with rfl | rfl; rfl; exact hR2.one.1) hc414 (rfl) (rfl) ?_
    refine wr_name ?_
    intro w15 hww15
    have hkw15 : Keeps (· = bw4) w14 w15 := by rw [hww15]; exact (Keeps.refl _ w14).put _ (fun _ => rfl)
    have hcw15 : (w15).heap[bw4]? = some (.cells ([.bool (lessP U U').1, lv1]).toArray 41 (0, 0)) := by rw [hww15]; exact World.putObj_heap_same (lt_of_heap hc414)
    clear hww15
    have hR15 := hR14.put hkw15 hc414 zne
    have hL15 := hL14.put hkw15 hc414 zne
    have hc315 := hkw15.heap hcw14 (fun e => by omega)
    have h15 := ((h12.keepN hk13).keepC hkw14 hc313 (by decide) (by decide)).keepC hkw15 hc414 (by decide) (by decide)
    have hsz := hkw1.size
    have hsz2 := hkw2.size
    have hsz3 := hkw3.size
    have hk015 : Keeps (mD wb cb) w w15 := ((hmD.trans hk13.upD).trans' hkw14 (fun i hi e => by omega)).trans' hkw15 (fun i hi e => by omega)
    (repeat first | (apply wr_assign; exact rfl; with_reducible (conv => enter [6, 3]; whnf)) | apply wr_end | (apply wc_ret; try simp only [thenE, inBlockE, bodyQ]))
    refine leaveN (vs := [SetV (lessP U' U).1 mv1, SetV (lessP U U').1 lv1, .nilIface]) (resv_cells (cs := [.bool (lessP U' U).1, mv1]) (e := 41) (fr := (0, 0)) rfl rfl hc315 rfl (resv_cells (cs := [.bool (lessP U U').1, lv1]) (e := 41) (fr := (0, 0)) rfl rfl hcw15 rfl (resv_tmp rfl resv_nil))) ⟨.inl ⟨hfit, h15, _, _, rfl, ?_, ?_⟩, hk015⟩
    · rw [← hU', ← hU]; exact hR15
    · rw [← hU', ← hU]; exact hL15
end Go.Proofs.YtajajahofkialaaGreatDoor
