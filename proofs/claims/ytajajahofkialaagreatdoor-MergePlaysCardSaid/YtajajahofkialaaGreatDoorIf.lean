/- noriaref14: Set. -/
import Derived.Test.YtajajahofkialaaGreatDoorIe
namespace Go.Proofs.YtajajahofkialaaGreatDoor
open Go Go.V Go.RowKit
set_option linter.unusedVariables false
set_option linter.unusedSimpArgs false

/- The head: $1 after New. -/
/- A set of a few: $1 slice, $2 bytes, $3 world, $4 stem, $5 SlR, $6 bytes small, $7 how many. -/
theorem RefAt_set {w w' : World} {xb id k : Nat} {Wn : WF} {L : List SE} {x : PS} {xn : Value} (hid : id < 33) (hk6 : k < 6) (h1 : L.length = 198) (h2 : w.heap[xb]? = some (.cells (L.flatMap GSt).toArray 33 (0, 0))) (h3 : ∀ id k : Nat, id < 33 → k < 6 → ∃ v, L[id * 6 + k]? = some (Wn ((id : Int), (k : Int)), v))
    (h4 : ∀ x ∈ L, SlR w 1 x.2 x.1.2.length (SL x.1.2)) (hx : SetR w x (SetV x.1 xn)) (kk : Keeps (· = xb) w w') (hw : w'.heap[xb]? = some (.cells ((L.set (id * 6 + k) (x, xn)).flatMap GSt).toArray 33 (0, 0))) : RefAt w' xb (updW Wn ((id : Int), (k : Int)) x) := by
  refine ⟨L.set (id * 6 + k) (x, xn), by simpa using h1, hw, fun i j hi hj => ?_, fun y hy => ?_⟩
  · by_cases e : i * 6 + j = id * 6 + k
    · have e1 : i = id := by omega
      have e2 : j = k := by omega
      subst e1 e2
      exact ⟨xn, by rw [updW_get, List.getElem?_set_self (by omega)]⟩
    · rw [updW_ne _ (fun h => e (by have h5 := congrArg Prod.fst h; have h6 := congrArg Prod.snd h; dsimp only at h5 h6; omega)), List.getElem?_set_ne (Ne.symm e)]
      exact h3 i j hi hj
  · rcases List.mem_or_eq_of_mem_set hy with hy | rfl
    · exact ((SE_R (h4 y hy)).put kk h2 (arr_ne2 h4)).row
    · exact (hx.put kk h2 (arr_ne2 h4)).row
theorem RefAt.put {w w' : World} {b q : Nat} {Wn : WF} {c : Array Value} {T : TypeId} {fr : Nat × Nat} (h : RefAt w b Wn) (k : Keeps (· = q) w w') (hq : w.heap[q]? = some (.cells c T fr)) (hc : ∀ (j : Nat) (t : TT), c[j]? ≠ some (S t)) (hn : b ≠ q) : RefAt w' b Wn := by
  obtain ⟨L, h1, h2, h3, h4⟩ := h.at'
  exact ⟨L, h1, k.heap h2 hn, h3, fun x hx => ((SE_R (h4 x hx)).put k hq hc).row⟩
abbrev zR : Obj := .cells ([.bool false, nilV] : List Value).toArray 29 (0, 0)
theorem zne2 : ∀ (j : Nat) (t : TT), (#[.bool false, nilV] : Array Value)[j]? ≠ some (S t) := setCells_ne false nilV (fun t h => by cases h)
set_option maxRecDepth 100000 in
set_option maxHeartbeats 8000000 in
theorem refSetZ_ca {w : World} {xb : Nat} {Wn : WF} (h : RefAt w xb Wn) {id kk : Int} (hin : ¬ inDom (id, kk)) {s : PS} {sv : Value} (hs : SetR w s sv) :
    Ca Tryz.prog 15 #[.pointer (some ⟨xb, 0, none⟩), .int .i64 id, .int .i64 kk, sv] w fun v w' => v = .tuple #[SetV false nilV, SetV false nilV, .int .i64 1] ∧ RefAt w' xb Wn ∧ Keeps NoB w w' := by
  obtain ⟨nv, rfl, hnv⟩ := hs
  refine ca_of_body (args := [.pointer (some ⟨xb, 0, none⟩), .int .i64 id, .int .i64 kk, SetV s.1 nv]) Tryz.func15 rfl (by kernel_rfl) ?_
  apply wc_seq
  apply wc_region
  refine wr_box (v := SetV s.1 nv) rfl rfl ?_
  refine wr_name ?_
  intro w1 hww1
  obtain ⟨bw1, hbw1⟩ : ∃ b, b = (w).heap.size := ⟨_, rfl⟩
  have hkw1 : Keeps NoB w w1 := by rw [hww1]; exact (Keeps.refl NoB w).alloc _
  have hcw1 : (w1).heap[bw1]? = some (.cells ([.bool s.1, nv]).toArray 29 (0, 0)) := by rw [hww1, hbw1]; exact heap_alloc_same _ _
  rw [← hbw1]
  clear hww1
  apply wr_alloc
  focus exact rfl
  refine wr_name ?_
  intro w2 hww2
  obtain ⟨bw2, hbw2⟩ : ∃ b, b = (w1).heap.size := ⟨_, rfl⟩
  have hkw2 : Keeps NoB w1 w2 := by rw [hww2]; exact (Keeps.refl NoB w1).alloc _
  have hcw2 : (w2).heap[bw2]? = some (.cells ([.bool false, nilV]).toArray 29 (0, 0)) := by rw [hww2, hbw2]; exact heap_alloc_same _ _
  rw [← hbw2]
  clear hww2
  apply wr_alloc
  focus exact rfl
  refine wr_name ?_
  intro w3 hww3
  obtain ⟨bw3, hbw3⟩ : ∃ b, b = (w2).heap.size := ⟨_, rfl⟩
  have hkw3 : Keeps NoB w2 w3 := by rw [hww3]; exact (Keeps.refl NoB w2).alloc _
  have hcw3 : (w3).heap[bw3]? = some (.cells ([.bool false, nilV]).toArray 29 (0, 0)) := by rw [hww3, hbw3]; exact heap_alloc_same _ _
  rw [← hbw3]
  clear hww3
  (repeat first | (apply wr_assign; exact rfl; with_reducible (conv => enter [6, 3]; whnf)) | apply wr_end | apply wc_seq | apply wc_region)
  refine wr_build (ps := []) (cs := [.bool false, nilV]) rfl rfl rfl rfl ?_
  (repeat first | (apply wr_alloc; exact rfl))
  refine wr_storeAll (cs := [.bool false, nilV]) rfl rfl rfl (zset_one) (heap_alloc_same _ _) rfl rfl ?_
  refine wr_name ?_
  intro w4 hww4
  obtain ⟨bw4, hbw4⟩ : ∃ b, b = (w3).heap.size := ⟨_, rfl⟩
  have hkw4 : Keeps NoB w3 w4 := by rw [hww4]; exact ((Keeps.refl NoB w3).alloc _).put _ (fun h => by omega)
  have hcw4 : (w4).heap[bw4]? = some (.cells ([.bool false, nilV]).toArray 29 (0, 0)) := by rw [hww4, hbw4]; exact World.putObj_heap_same (by simp)
  rw [← hbw4]
  clear hww4
  have hk04 := ((hkw1.trans hkw2).trans hkw3).trans hkw4
  have hc24 := (hkw3.trans hkw4).heap hcw2 (fun h => h)
  have hc34 := hkw4.heap hcw3 (fun h => h)
  have hl2 := lt_of_heap hcw2
  have hl3 := lt_of_heap hcw3
  have hz1 := hkw1.size
  have hex : id < 1 ∨ (¬ id < 1 ∧ id > 32) ∨ (¬ id < 1 ∧ ¬ id > 32 ∧ kk < 1) ∨ (¬ id < 1 ∧ ¬ id > 32 ∧ ¬ kk < 1 ∧ kk > 5) := by
    rcases Decidable.em (id < 1) with h | h
    · exact .inl h
    · rcases Decidable.em (id > 32) with h2 | h2
      · exact .inr (.inl ⟨h, h2⟩)
      · rcases Decidable.em (kk < 1) with h3 | h3
        · exact .inr (.inr (.inl ⟨h, h2, h3⟩))
        · refine .inr (.inr (.inr ⟨h, h2, h3, ?_⟩))
          rcases Decidable.em (kk > 5) with h4 | h4
          · exact h4
          · exact absurd ⟨by dsimp only; omega, by dsimp only; omega, by dsimp only; omega, by dsimp only; omega⟩ hin
  rcases hex with e1 | ⟨e1, e2⟩ | ⟨e1, e2, e3⟩ | ⟨e1, e2, e3, e4⟩
  all_goals
    (repeat first | (apply wr_move; exact rfl; with_reducible (conv => enter [6, 3]; whnf)) | apply wr_end | apply wc_seq | apply wc_region | (apply wr_cmp; (iterate 3 exact rfl); exact cmpT (by dsimp only [cmpP]; first | done | omega)) | (apply wr_cmp; (iterate 3 exact rfl); exact cmpF (by dsimp only [cmpN]; first | done | omega)) | (apply wr_pick (t := true); (iterate 2 exact rfl); with_reducible (conv => enter [6, 3]; whnf)) | (apply wr_pick (t := false); (iterate 2 exact rfl); with_reducible (conv => enter [6, 3]; whnf)) | (apply wc_true; exact rfl) | (apply wr_skip; exact rfl))
    refine V.L.wc_drawL (l := _) (V.L.duo w4.drew 2 3 bw2 bw3 zR zR zR zR) (by kernel_rfl) (by kernel_rfl) ⟨Keeps.refl _ _, (show w4.drew.heap[bw2]? = some zR from hc24), (show w4.drew.heap[bw3]? = some zR from hc34)⟩ ?_
    apply V.L.ch_step
    focus
      apply duoS_read rfl rfl
      intro w hk hb1 hb2
      refine wr_loadAll (cs := [.bool false, nilV]) rfl rfl rfl (hk.heap (show w4.drew.heap[bw4]? = _ from hcw4) (fun e => by omega)) rfl ?_
      apply wr_nil
      exact ⟨rfl, Keeps.refl _ _⟩
    apply V.L.ch_step
    focus
      apply duoS_read rfl rfl
      intro w hk hb1 hb2
      refine wr_loadAll (cs := [.bool false, nilV]) rfl rfl rfl (hk.heap (show w4.drew.heap[bw4]? = _ from hcw4) (fun e => by omega)) rfl ?_
      apply wr_nil
      exact ⟨rfl, Keeps.refl _ _⟩
    apply V.L.ch_step
    focus
      apply V.L.duo_st1 (by omega) rfl
      intro w hk hb
      refine wr_storeAll (cs := [.bool false, nilV]) rfl rfl rfl (zset_one) hb rfl rfl ?_
      apply wr_nil
      exact ⟨rfl, rfl⟩
    apply V.L.ch_step
    focus
      apply V.L.duo_st2 (by omega) rfl
      intro w hk hb
      refine wr_storeAll (cs := [.bool false, nilV]) rfl rfl rfl (zset_one) hb rfl rfl ?_
      apply wr_nil
      exact ⟨rfl, rfl⟩
    apply V.L.ch_step
    focus
      apply duoS_read rfl rfl
      intro w hk hb1 hb2
      apply wr_assign; exact rfl; with_reducible (conv => enter [6, 3]; whnf)
      apply wr_nil
      exact ⟨rfl, Keeps.refl _ _⟩
    refine V.L.ch_nil ?_
    intro w5 hS
    obtain ⟨hk5', hc25, hc35⟩ := V.L.duo_end hS (by kernel_rfl) (by kernel_rfl)
    have hk45 : Keeps (fun q => q = bw2 ∨ q = bw3) w4 w5 := (Keeps.refl NoB w4).drew.upD.trans hk5'
    have hkN : Keeps NoB w4 w5 := ⟨hk45.os, hk45.tape, hk45.output, hk45.size, fun i hi _ => by
      by_cases e3 : i = bw2
      · subst e3; rw [hc25, hc24]
      · by_cases e4 : i = bw3
        · subst e4; rw [hc35, hc34]
        · exact hk45.block i hi (fun e => e.elim e3 e4)⟩
    (repeat first | (apply wc_ret; try simp only [thenE, inBlockE, bodyQ]))
    exact leaveN (vs := [SetV false nilV, SetV false nilV, .int .i64 1]) (resv_cells (cs := [.bool false, nilV]) (e := 29) (fr := (0, 0)) rfl rfl hc25 rfl (resv_cells (cs := [.bool false, nilV]) (e := 29) (fr := (0, 0)) rfl rfl hc35 rfl (resv_tmp rfl resv_nil))) ⟨rfl, (h.keep hk04).keep hkN, hk04.trans hkN⟩
end Go.Proofs.YtajajahofkialaaGreatDoor
