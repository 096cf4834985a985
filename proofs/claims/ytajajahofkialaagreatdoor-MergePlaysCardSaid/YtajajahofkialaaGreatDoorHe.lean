/- merge: turn. -/
import Derived.Test.YtajajahofkialaaGreatDoorHc2
namespace Go.Proofs.YtajajahofkialaaGreatDoor
open Go Go.V Go.RowKit
set_option linter.unusedVariables false
set_option linter.unusedSimpArgs false

theorem listP_nodup {s : PS} (h : Fine s) : (listP s).Nodup := by
  have h2 : s.2.Nodup := h.1.imp fun {a b} hab e => by subst e; exact ltT_irrefl _ hab
  unfold listP
  split
  · exact List.nodup_cons.2 ⟨fun hm => star_no (h.2 _ hm), h2⟩
  · exact h2
theorem noneP_iff (s : PS) : (!s.1 && decide (s.2.length = 0)) = true ↔ s = noneP := by
  obtain ⟨a, l⟩ := s
  cases a <;> cases l <;> simp [noneP]
theorem want_R {w : World} {n0 : Nat} {s : PS} {o : Option Value} (h : WantV w n0 s o) : SetR w s (o.getD (SetV false nilV)) := by
  unfold WantV at h
  split at h
  · rename_i e
    rw [h, e]
    exact ⟨nilV, rfl, slr_none w⟩
  · obtain ⟨v, rfl, h2⟩ := h
    exact ⟨v, rfl, SlR.of_own h2⟩
abbrev mD (wb : Nat) (cb : List Nat) : Nat → Prop := fun q => q = wb ∨ q ∈ cb
theorem mapb_ne {w : World} {b : Nat} {f : TT → Int} (h : CntAt w b f) {q : Nat} {c : Array Value} {T : TypeId} {fr : Nat × Nat} (hq : w.heap[q]? = some (.cells c T fr)) : q ≠ b := by
  obtain ⟨C, hC, _⟩ := h
  exact map_ne hC hq
theorem map_nc {α : Type} [DecidableEq α] {w : World} {enc : α → Value} {b : Nat} {M : List (α × Value)} (h : MapAt w enc b M) (c : Array Value) (T : TypeId) (fr : Nat × Nat) : w.heap[b]? ≠ some (.cells c T fr) := fun e => map_ne h e rfl
theorem mg_after {w3 w' : World} {n0 ab wb : Nat} {cb : List Nat} {Wn : WF} {id : Int} {k b : Nat} {s : PS} {M' : List (TY × Value)} (h3 : MgAt w3 n0 ab wb cb Wn) (hk : Keeps (fun q => q = b ∨ q = wb) w3 w') (hb : cb[k]? = some b) (ht : inDom (id, (k : Int)))
    (hf : CntAt w' b (cntW (updW Wn (id, (k : Int)) s) k)) (hM : MapAt w' encT wb M') (hMW : ∀ u, WantV w' n0 (updW Wn (id, (k : Int)) s u) (getM M' u)) (hsf : Fine s) (hsl : s.2.length ≤ 100000) : MgAt w' n0 ab wb cb (updW Wn (id, (k : Int)) s) := by
  obtain ⟨M3, hM3, _⟩ := h3.want
  refine ⟨hk.heap h3.cells (fun e => ?_), h3.len, fun j c hj => ?_, ⟨M', hM, hMW⟩, fun u => ?_, fun u hu => ?_, fun u => ?_, h3.nd, h3.nw⟩
  · rcases e with e | e
    · exact mapb_ne (h3.cnt k b hb) h3.cells e
    · exact map_ne hM3 h3.cells e
  · by_cases hjk : j = k
    · subst hjk
      rw [hb] at hj
      cases hj
      exact hf
    · have hcb : c ≠ b := fun e => by
        subst e
        obtain ⟨h1, h2⟩ := List.getElem?_eq_some_iff.1 hj
        obtain ⟨h3', h4⟩ := List.getElem?_eq_some_iff.1 hb
        rcases Nat.lt_or_gt_of_ne hjk with hl | hl
        · exact List.pairwise_iff_getElem.1 h3.nd j k h1 h3' hl (h2.trans h4.symm)
        · exact List.pairwise_iff_getElem.1 h3.nd k j h3' h1 hl (h4.trans h2.symm)
      rw [cntW_other s (show (j : Int) ≠ (id, (k : Int)).2 from fun e => by have e : (j : Int) = (k : Int) := e; exact hjk (by omega))]
      exact (h3.cnt j c hj).keep hk (fun e => by
        rcases e with e | e
        · exact hcb e
        · exact h3.nw (by rw [← e]; exact List.mem_of_getElem? hj))
  · unfold updW
    split
    · exact hsf
    · exact h3.fine u
  · unfold updW
    rw [if_neg (fun e => hu (by rw [e]; exact ht))]
    exact h3.dom u hu
  · unfold updW
    split
    · exact hsl
    · exact h3.small u
set_option maxRecDepth 100000 in
set_option maxHeartbeats 8000000 in
theorem turn_ca {w : World} {n0 ab wb : Nat} {cb : List Nat} {Wn : WF} (h : MgAt w n0 ab wb cb Wn) (id : Int) (k : Nat) (ht : inDom (id, (k : Int))) {s : PS} {sv : Value} (hs : SetO w n0 s sv) (hsf : Fine s) (hsl : s.2.length ≤ 100000) :
    Ca Tryz.prog 39 #[.pointer (some ⟨ab, 0, none⟩), encT (id, (k : Int)), sv] w fun v w' => v = .tuple #[] ∧ MgAt w' n0 ab wb cb (updW Wn (id, (k : Int)) s) ∧ Keeps (mD wb cb) w w' := by
  obtain ⟨nv, rfl, hnv⟩ := hs
  refine ca_of_body (args := [.pointer (some ⟨ab, 0, none⟩), encT (id, (k : Int)), SetV s.1 nv]) Tryz.func39 rfl (by kernel_rfl) ?_
  apply wc_seq
  apply wc_region
  refine wr_box (v := encT (id, (k : Int))) rfl rfl ?_
  refine wr_name ?_
  intro w1 hww1
  obtain ⟨bw1, hbw1⟩ : ∃ b, b = (w).heap.size := ⟨_, rfl⟩
  have hkw1 : Keeps NoB w w1 := by rw [hww1]; exact (Keeps.refl NoB w).alloc _
  have hcw1 : (w1).heap[bw1]? = some (.cells ([.int .i64 id, .int .i64 (k : Int)]).toArray 78 (0, 0)) := by rw [hww1, hbw1]; exact heap_alloc_same _ _
  rw [← hbw1]
  clear hww1
  refine wr_box (v := SetV s.1 nv) rfl rfl ?_
  refine wr_name ?_
  intro w2 hww2
  obtain ⟨bw2, hbw2⟩ : ∃ b, b = (w1).heap.size := ⟨_, rfl⟩
  have hkw2 : Keeps NoB w1 w2 := by rw [hww2]; exact (Keeps.refl NoB w1).alloc _
  have hcw2 : (w2).heap[bw2]? = some (.cells ([.bool s.1, nv]).toArray 41 (0, 0)) := by rw [hww2, hbw2]; exact heap_alloc_same _ _
  rw [← hbw2]
  clear hww2
  have hk02 := hkw1.trans hkw2
  have hk6 : k < 6 := by have := ht.2.2.2; simp at this; omega
  obtain ⟨b, hb⟩ : ∃ b, cb[k]? = some b := ⟨cb[k]'(by rw [h.len]; omega), by simp [h.len, hk6]⟩
  have hbm := List.mem_of_getElem? hb
  have hwb : wb ≠ b := fun e => h.nw (by rw [e]; exact hbm)
  have h2 := h.keepN hk02
  obtain ⟨M, hM2, hMW2⟩ := h2.want
  have hf2 := h2.cnt k b hb
  have hc12 := hkw2.heap hcw1 (fun h => h)
  have hnv2 := own_keep hnv hk02 (fun _ _ h => h)
  have hR : ∀ {w'}, Keeps NoB w2 w' → SetR w' (Wn (id, (k : Int))) ((getM M (id, (k : Int))).getD (SetV false nilV)) := fun hk => (want_R (hMW2 (id, (k : Int)))).keep hk
  obtain ⟨lk, hlk⟩ : ∃ v, v = (getM M (id, (k : Int))).getD (SetV false nilV) := ⟨_, rfl⟩
  rw [← hlk] at hR
  have hk0 : ∀ {w'}, Keeps NoB w2.drew w' → Keeps NoB w2 w' := fun hk => (Keeps.refl NoB w2).drew.trans hk
  (repeat first | apply wr_end | apply wc_seq)
  refine wc_drawP (l := _) 10 _ (by kernel_rfl) (by kernel_rfl) rfl (by kernel_rfl) (by kernel_rfl) (by decide) ?_
  apply chP_pure
  focus
    intro xx w' hk hF
    apply wr_move; exact rfl; with_reducible (conv => enter [6, 3]; whnf)
    apply wr_nil
    exact ⟨rfl, Keeps.refl _ _⟩
  focus (intro xx yy h; rfl)
  focus kernel_rfl
  apply chP_pure
  focus
    intro xx w' hk hF
    refine wr_fieldAddr rfl rfl ?_
    apply wr_nil
    exact ⟨rfl, Keeps.refl _ _⟩
  focus (intro xx yy h; rfl)
  focus kernel_rfl
  apply chP_pure
  focus
    intro xx w' hk hF
    refine wr_load (v := .int .i64 (k : Int)) rfl rfl rfl ((hk0 hk).heap hc12 (fun h => h)) rfl ?_
    apply wr_nil
    exact ⟨rfl, Keeps.refl _ _⟩
  focus (intro xx yy h; rfl)
  focus kernel_rfl
  apply chP_pure
  focus
    intro xx w' hk hF
    apply wr_move; exact rfl; with_reducible (conv => enter [6, 3]; whnf)
    apply wr_nil
    exact ⟨rfl, Keeps.refl _ _⟩
  focus (intro xx yy h; rfl)
  focus kernel_rfl
  apply chP_pure
  focus
    intro xx w' hk hF
    (apply wr_nilCheck; iterate 2 exact rfl)
    apply wr_nil
    exact ⟨rfl, Keeps.refl _ _⟩
  focus (intro xx yy h; rfl)
  focus kernel_rfl
  apply chP_pure
  focus
    intro xx w' hk hF
    refine wr_fieldAddr rfl rfl ?_
    apply wr_nil
    exact ⟨rfl, Keeps.refl _ _⟩
  focus (intro xx yy h; rfl)
  focus kernel_rfl
  apply chP_pure
  focus
    intro xx w' hk hF
    refine wr_load (v := .map (some wb)) rfl rfl rfl ((hk0 hk).heap h2.cells (fun h => h)) rfl ?_
    apply wr_nil
    exact ⟨rfl, Keeps.refl _ _⟩
  focus (intro xx yy h; rfl)
  focus kernel_rfl
  apply chP_pure
  focus
    intro xx w' hk hF
    refine wr_loadAll (cs := [.int .i64 id, .int .i64 (k : Int)]) rfl rfl rfl ((hk0 hk).heap hc12 (fun h => h)) rfl ?_
    apply wr_nil
    exact ⟨rfl, Keeps.refl _ _⟩
  focus (intro xx yy h; rfl)
  focus kernel_rfl
  apply chP_pure
  focus
    intro xx w' hk hF
    refine wr_lookup (l := M) (a := (id, (k : Int))) rfl rfl (hM2.keep (hk0 hk) (fun h => h)) rfl ?_
    rw [show (getM M (id, (k : Int))).getD _ = lk from hlk.symm]
    apply wr_nil
    exact ⟨rfl, Keeps.refl _ _⟩
  focus (intro xx yy h; rfl)
  focus kernel_rfl
  refine chP_fact (fun y => y) (fun y w' => SlR w' 1 y (listP (Wn (id, (k : Int)))).length (SL (listP (Wn (id, (k : Int)))))) (fun y w' w'' h k => h.keep k (fun _ _ h => h)) ?_ ?_
  focus
    intro xx w' hk hF
    refine wr_call (vs := [lk]) rfl (list_ca (Wn (id, (k : Int))) _ w' (hR (hk0 hk)) (by have := h.small (id, (k : Int)); omega)) rfl ?_
    rintro v w'' ⟨hR, hkc⟩
    apply wr_nil
    exact ⟨v, rfl, hR, hkc⟩
  refine chP_nil ?_
  intro xx w3 hk3' hF
  have hk3 := hk0 hk3'
  have hl9 : SlR w3 1 (xx 9) (listP (Wn (id, (k : Int)))).length (SL (listP (Wn (id, (k : Int))))) := hF 9 (by decide)
  clear hF
  have h3 := h2.keepN hk3
  have hc13 := hk3.heap hc12 (fun h => h)
  have hc23 := hk3.heap hcw2 (fun h => h)
  have hnv3 := own_keep hnv2 hk3 (fun _ _ h => h)
  have hM3 := hM2.keep hk3 (fun h => h)
  have hln := listP_le (Wn (id, (k : Int)))
  have hls := listP_le s
  have hsm := h.small (id, (k : Int))
  refine wr_call (vs := [.pointer (some ⟨ab, 0, none⟩), .int .i64 (k : Int), .int .i64 (-1), xx 9]) rfl (count_ca h3.cells hk6 hb (h3.cnt k b hb) (-1) (.inr rfl) hl9 (listP_nodup (h.fine _)) (by omega) (fun x => by have := cntW_bound Wn k x; omega)) rfl ?_
  rintro v w4 ⟨rfl, hf4, hk4⟩
  have hc4 := hk4.heap h3.cells (mapb_ne (h3.cnt k b hb) h3.cells)
  have hc14 := hk4.heap hc13 (mapb_ne (h3.cnt k b hb) hc13)
  have hc24 := hk4.heap hc23 (mapb_ne (h3.cnt k b hb) hc23)
  have hM4 := hM3.keep hk4 hwb
  have hnv4 := own_keep hnv3 hk4 (fun q hq e => by
    rcases hnv3.2 with ⟨rfl, _⟩ | ⟨g, cap, cur, rfl, _, hg, _⟩
    · cases hq
    · simp [Value.ownBlock] at hq
      subst hq
      exact mapb_ne (h3.cnt k b hb) hg e)
  clear hk0
  have hk0 : ∀ {w'}, Keeps NoB w4.drew w' → Keeps NoB w4 w' := fun hk => (Keeps.refl NoB w4).drew.trans hk
  have hS4 : ∀ {w'}, Keeps NoB w4 w' → SetR w' s (SetV s.1 nv) := fun hk => ⟨nv, rfl, SlR.of_own (own_keep hnv4 hk (fun _ _ h => h))⟩
  (repeat first | apply wr_end | apply wc_seq)
  refine wc_drawP (l := _) 5 _ (by kernel_rfl) (by kernel_rfl) rfl (by kernel_rfl) (by kernel_rfl) (by decide) ?_
  apply chP_pure
  focus
    intro xx w' hk hF
    apply wr_move; exact rfl; with_reducible (conv => enter [6, 3]; whnf)
    apply wr_nil
    exact ⟨rfl, Keeps.refl _ _⟩
  focus (intro xx yy h; rfl)
  focus kernel_rfl
  apply chP_pure
  focus
    intro xx w' hk hF
    refine wr_fieldAddr rfl rfl ?_
    apply wr_nil
    exact ⟨rfl, Keeps.refl _ _⟩
  focus (intro xx yy h; rfl)
  focus kernel_rfl
  apply chP_pure
  focus
    intro xx w' hk hF
    refine wr_load (v := .int .i64 (k : Int)) rfl rfl rfl ((hk0 hk).heap hc14 (fun h => h)) rfl ?_
    apply wr_nil
    exact ⟨rfl, Keeps.refl _ _⟩
  focus (intro xx yy h; rfl)
  focus kernel_rfl
  apply chP_pure
  focus
    intro xx w' hk hF
    refine wr_loadAll (cs := [.bool s.1, nv]) rfl rfl rfl ((hk0 hk).heap hc24 (fun h => h)) rfl ?_
    apply wr_nil
    exact ⟨rfl, Keeps.refl _ _⟩
  focus (intro xx yy h; rfl)
  focus kernel_rfl
  refine chP_fact (fun y => y) (fun y w' => SlR w' 1 y (listP s).length (SL (listP s))) (fun y w' w'' h k => h.keep k (fun _ _ h => h)) ?_ ?_
  focus
    intro xx w' hk hF
    refine wr_call (vs := [SetV s.1 nv]) rfl (list_ca s _ w' (hS4 (hk0 hk)) (by omega)) rfl ?_
    rintro v w'' ⟨hR, hkc⟩
    apply wr_nil
    exact ⟨v, rfl, hR, hkc⟩
  refine chP_nil ?_
  intro yy w5 hk5' hF
  have hk5 := hk0 hk5'
  have hl5 : SlR w5 1 (yy 4) (listP s).length (SL (listP s)) := hF 4 (by decide)
  clear hF
  refine wr_call (vs := [.pointer (some ⟨ab, 0, none⟩), .int .i64 (k : Int), .int .i64 1, yy 4]) rfl (count_ca (hk5.heap hc4 (fun h => h)) hk6 hb (hf4.keep hk5 (fun h => h)) 1 (.inl rfl) hl5 (listP_nodup hsf) (by omega) (fun x => by have := cntW_bound Wn k x; unfold addC; split <;> omega)) rfl ?_
  rintro v w6 ⟨rfl, hf6, hk6'⟩
  have hf5 := hf4.keep hk5 (fun h => h)
  have hc6 := hk6'.heap (hk5.heap hc4 (fun h => h)) (mapb_ne hf5 (hk5.heap hc4 (fun h => h)))
  have hc16 := hk6'.heap (hk5.heap hc14 (fun h => h)) (mapb_ne hf5 (hk5.heap hc14 (fun h => h)))
  have hc26 := hk6'.heap (hk5.heap hc24 (fun h => h)) (mapb_ne hf5 (hk5.heap hc24 (fun h => h)))
  have hM6 := (hM4.keep hk5 (fun h => h)).keep hk6' hwb
  have hnv5 := own_keep hnv4 hk5 (fun _ _ h => h)
  have hnv6 := own_keep hnv5 hk6' (fun q hq e => by
    rcases hnv5.2 with ⟨rfl, _⟩ | ⟨g, cap, cur, rfl, _, hg, _⟩
    · cases hq
    · simp [Value.ownBlock] at hq
      subst hq
      exact mapb_ne hf5 hg e)
  have hfk : addC (addC (cntW Wn k) (listP (Wn (id, (k : Int)))) (-1)) (listP s) 1 = cntW (updW Wn (id, (k : Int)) s) k := by
    funext x
    rw [cntW_upd ht s rfl x]
    rfl
  rw [hfk] at hf6
  have hk36 : Keeps (· = b) w3 w6 := (hk4.trans hk5.upD).trans hk6'
  clear hk0
  have hk0 : ∀ {w'}, Keeps NoB w6.drew w' → Keeps NoB w6 w' := fun hk => (Keeps.refl NoB w6).drew.trans hk
  (repeat first | apply wr_end | apply wc_seq)
  refine wc_drawP (l := _) 6 _ (by kernel_rfl) (by kernel_rfl) rfl (by kernel_rfl) (by kernel_rfl) (by decide) ?_
  apply chP_pure
  focus
    intro xx w' hk hF
    apply wr_move; exact rfl; with_reducible (conv => enter [6, 3]; whnf)
    apply wr_nil
    exact ⟨rfl, Keeps.refl _ _⟩
  focus (intro xx yy h; rfl)
  focus kernel_rfl
  apply chP_pure
  focus
    intro xx w' hk hF
    (apply wr_nilCheck; iterate 2 exact rfl)
    apply wr_nil
    exact ⟨rfl, Keeps.refl _ _⟩
  focus (intro xx yy h; rfl)
  focus kernel_rfl
  apply chP_pure
  focus
    intro xx w' hk hF
    refine wr_fieldAddr rfl rfl ?_
    apply wr_nil
    exact ⟨rfl, Keeps.refl _ _⟩
  focus (intro xx yy h; rfl)
  focus kernel_rfl
  apply chP_pure
  focus
    intro xx w' hk hF
    refine wr_load (v := .map (some wb)) rfl rfl rfl ((hk0 hk).heap hc6 (fun h => h)) rfl ?_
    apply wr_nil
    exact ⟨rfl, Keeps.refl _ _⟩
  focus (intro xx yy h; rfl)
  focus kernel_rfl
  apply chP_pure
  focus
    intro xx w' hk hF
    refine wr_loadAll (cs := [.int .i64 id, .int .i64 (k : Int)]) rfl rfl rfl ((hk0 hk).heap hc16 (fun h => h)) rfl ?_
    apply wr_nil
    exact ⟨rfl, Keeps.refl _ _⟩
  focus (intro xx yy h; rfl)
  focus kernel_rfl
  apply chP_pure
  focus
    intro xx w' hk hF
    refine wr_loadAll (cs := [.bool s.1, nv]) rfl rfl rfl ((hk0 hk).heap hc26 (fun h => h)) rfl ?_
    apply wr_nil
    exact ⟨rfl, Keeps.refl _ _⟩
  focus (intro xx yy h; rfl)
  focus kernel_rfl
  refine chP_nil ?_
  intro zz w7 hk7' hF
  have hk7 := hk0 hk7'
  clear hF
  refine wr_update (l := M) (a := (id, (k : Int))) rfl rfl (hM6.keep hk7 (fun h => h)) rfl rfl ?_
  intro w8 hM8 hk8
  have hM7 := hM6.keep hk7 (fun h => h)
  have hnq : ∀ {q : Nat} {c : Array Value} {T : TypeId} {fr : Nat × Nat}, w7.heap[q]? = some (.cells c T fr) → q ≠ wb := fun hq => map_ne hM7 hq
  have hc7 := hk7.heap hc6 (fun h => h)
  have hc17 := hk7.heap hc16 (fun h => h)
  have hc27 := hk7.heap hc26 (fun h => h)
  have hc8 := hk8.heap hc7 (hnq hc7)
  have hc18 := hk8.heap hc17 (hnq hc17)
  have hc28 := hk8.heap hc27 (hnq hc27)
  have hnv7 := own_keep hnv6 hk7 (fun _ _ h => h)
  have hnv8 := own_keep hnv7 hk8 (fun q hq e => by
    rcases hnv7.2 with ⟨rfl, _⟩ | ⟨g, cap, cur, rfl, _, hg, _⟩
    · cases hq
    · simp [Value.ownBlock] at hq
      subst hq
      exact hnq hg e)
  have hf8 := (hf6.keep hk7 (fun h => h)).keep hk8 (fun e => hwb e.symm)
  have hk38 : Keeps (fun q => q = b ∨ q = wb) w3 w8 := ((hk36.mono fun _ _ h => .inl h).trans hk7.upD).trans (hk8.mono fun _ _ h => .inr h)
  have hC3 := h3.cnt k b hb
  have hW3 : ∀ {w'}, Keeps (fun q => q = b ∨ q = wb) w3 w' → ∀ u, WantV w' n0 (Wn u) (getM M u) := fun hk u => ((hMW2 u).keep hk3 (fun _ h => h.elim)).keep hk (fun q hq cs e => by
    rcases hq with rfl | rfl
    · exact mapb_ne hC3 e rfl
    · exact map_ne hM3 e rfl)
  have hput : ∀ u, getM (putM M (id, (k : Int)) (SetV s.1 nv)) u = if u = (id, (k : Int)) then some (SetV s.1 nv) else getM M u := fun u => getM_putM M _ u _
  have hkm : ∀ {w'}, Keeps (fun q => q = b ∨ q = wb) w3 w' → Keeps (mD wb cb) w w' := fun hk => (hk02.trans hk3).upD.trans (hk.mono fun q _ e => by
    rcases e with rfl | rfl
    · exact .inr hbm
    · exact .inl rfl)
  cases hem : (!s.1 && decide (s.2.length = 0)) with
  | true =>
    have hsn := (noneP_iff s).1 hem
    (repeat first | apply wr_end | apply wc_seq | apply wc_region)
    refine wr_loadAll (cs := [.bool s.1, nv]) rfl rfl rfl hc28 rfl ?_
    refine wr_call (vs := [SetV s.1 nv]) rfl (empty_cb true hem ⟨nv, rfl, SlR.of_own hnv8⟩) rfl ?_
    rintro v w9 ⟨rfl, hk9⟩
    have hc9 := hk9.heap hc8 (fun h => h)
    have hc19 := hk9.heap hc18 (fun h => h)
    clear hk0
    have hk0 : ∀ {w'}, Keeps NoB w9.drew w' → Keeps NoB w9 w' := fun hk => (Keeps.refl NoB w9).drew.trans hk
    (repeat first | apply wr_end | (apply wc_true; exact rfl))
    refine wc_drawP (l := _) 5 _ (by kernel_rfl) (by kernel_rfl) rfl (by kernel_rfl) (by kernel_rfl) (by decide) ?_
    apply chP_pure
    focus
      intro xx w' hk hF
      apply wr_move; exact rfl; with_reducible (conv => enter [6, 3]; whnf)
      apply wr_nil
      exact ⟨rfl, Keeps.refl _ _⟩
    focus (intro xx yy h; rfl)
    focus kernel_rfl
    apply chP_pure
    focus
      intro xx w' hk hF
      (apply wr_nilCheck; iterate 2 exact rfl)
      apply wr_nil
      exact ⟨rfl, Keeps.refl _ _⟩
    focus (intro xx yy h; rfl)
    focus kernel_rfl
    apply chP_pure
    focus
      intro xx w' hk hF
      refine wr_fieldAddr rfl rfl ?_
      apply wr_nil
      exact ⟨rfl, Keeps.refl _ _⟩
    focus (intro xx yy h; rfl)
    focus kernel_rfl
    apply chP_pure
    focus
      intro xx w' hk hF
      refine wr_load (v := .map (some wb)) rfl rfl rfl ((hk0 hk).heap hc9 (fun h => h)) rfl ?_
      apply wr_nil
      exact ⟨rfl, Keeps.refl _ _⟩
    focus (intro xx yy h; rfl)
    focus kernel_rfl
    apply chP_pure
    focus
      intro xx w' hk hF
      refine wr_loadAll (cs := [.int .i64 id, .int .i64 (k : Int)]) rfl rfl rfl ((hk0 hk).heap hc19 (fun h => h)) rfl ?_
      apply wr_nil
      exact ⟨rfl, Keeps.refl _ _⟩
    focus (intro xx yy h; rfl)
    focus kernel_rfl
    refine chP_nil ?_
    intro uu wa hka' hF
    have hka := hk0 hka'
    clear hF
    refine wr_delete (l := putM M (id, (k : Int)) (SetV s.1 nv)) (a := (id, (k : Int))) rfl rfl ((hM8.keep hk9 (fun h => h)).keep hka (fun h => h)) rfl ?_
    intro wc hMc hkc
    have hk3c : Keeps (fun q => q = b ∨ q = wb) w3 wc := ((hk38.trans hk9.upD).trans hka.upD).trans (hkc.mono fun _ _ h => .inr h)
    (repeat first | (apply wr_nil; try simp only [thenE, inBlockE, bodyQ]))
    refine leave0 rfl ⟨rfl, mg_after h3 hk3c hb ht (((hf8.keep hk9 (fun h => h)).keep hka (fun h => h)).keep hkc (fun e => hwb e.symm)) hMc (fun u => ?_) hsf hsl, hkm hk3c⟩
    rw [getM_delM, hput]
    by_cases hu : u = (id, (k : Int))
    · rw [if_pos hu]
      unfold WantV updW
      rw [if_pos hu, if_pos hsn]
    · rw [if_neg hu, if_neg hu]
      have := hW3 hk3c u
      unfold updW
      rw [if_neg hu]
      exact this
  | false =>
    have hsn : ¬ s = noneP := fun e => by rw [(noneP_iff s).2 e] at hem; cases hem
    (repeat first | apply wr_end | apply wc_seq | apply wc_region)
    refine wr_loadAll (cs := [.bool s.1, nv]) rfl rfl rfl hc28 rfl ?_
    refine wr_call (vs := [SetV s.1 nv]) rfl (empty_cb false hem ⟨nv, rfl, SlR.of_own hnv8⟩) rfl ?_
    rintro v w9 ⟨rfl, hk9⟩
    have hk39 : Keeps (fun q => q = b ∨ q = wb) w3 w9 := hk38.trans hk9.upD
    (repeat first | apply wr_end | apply wc_skip | (apply wc_false; exact rfl))
    simp only [bodyQ]
    refine leave0 rfl ⟨rfl, mg_after h3 hk39 hb ht (hf8.keep hk9 (fun h => h)) (hM8.keep hk9 (fun h => h)) (fun u => ?_) hsf hsl, hkm hk39⟩
    rw [hput]
    by_cases hu : u = (id, (k : Int))
    · rw [if_pos hu]
      unfold WantV updW
      rw [if_pos hu, if_neg hsn]
      exact ⟨nv, rfl, own_keep hnv8 hk9 (fun _ _ h => h)⟩
    · rw [if_neg hu]
      have := hW3 hk39 u
      unfold updW
      rw [if_neg hu]
      exact this
end Go.Proofs.YtajajahofkialaaGreatDoor
