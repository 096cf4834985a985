/- norialaw15.examples. -/
import Derived.Test.YtjaojihogmnjhaaGreatDoorKm
namespace Go.Proofs.YtjaojihogmnjhaaGreatDoor
open Go Go.V Go.RowKit
set_option linter.unusedVariables false
set_option linter.unusedSimpArgs false

def IB (l : List Nat) : List Value := l.map fun (n : Nat) => .int .u8 ((n : Nat) : Int)
theorem wc_name {r : Option Nat} {P : Program} {n : Nat} {c : Code} {Q : Post} {ds : List Deferred} {f : Env} {w : World} (kk : ∀ w', w' = w → Wc r P n c Q ds f w') : Wc r P n c Q ds f w := kk w rfl
theorem slR_block {w : World} {b n sz : Nat} {cs : List Value} {T : TypeId} {fr : Nat × Nat} (hb : w.heap[b]? = some (.cells cs.toArray T fr)) (hl : cs.length = n * sz) : SlR w sz (.slice (some ⟨b, 0, none⟩) n n) n cs :=
  ⟨hl, _, n, rfl, Nat.le_refl _, .inr ⟨b, 0, _, _, _, rfl, hb, fun j hj => by simp⟩⟩
theorem slR_nil (w : World) (sz : Nat) : SlR w sz (.slice none 0 0) 0 [] := ⟨by simp, none, 0, rfl, Nat.le_refl _, .inl ⟨rfl, fun _ => rfl⟩⟩
theorem putL_one {β : Type} (k : KY) (a b : β) : putL [(k, a)] k b = [(k, b)] := by simp [putL]
theorem putL_nil {β : Type} (k : KY) (b : β) : putL [] k b = [(k, b)] := by simp [putL]
theorem getL_one {β : Type} (k : KY) (a : β) : getL [(k, a)] k = some a := by simp [getL]
theorem getL_nil {β : Type} (k : KY) : getL ([] : List (KY × β)) k = none := rfl
theorem PL_len (L : List (KY × ND)) : (PL L).length = L.length := by simp [PL]
theorem PL_keys (L : List (KY × ND)) : (PL L).map (·.1) = L.map (·.1) := by simp [PL, Function.comp_def]
/-- Nothing of it lies below n. -/
def Above (n mb : Nat) (L : List (KY × ND)) : Prop := ∀ q, aD mb L q → n ≤ q
theorem Above.sub {n mb : Nat} {L L' : List (KY × ND)} {w : World} (h : Above n mb L) (hs : Sub w L L') (hn : n ≤ w.heap.size) : Above n mb L' := fun q hq => by
  rcases hq with rfl | ⟨x, hx, hq⟩
  · exact h _ (.inl rfl)
  · rcases hs x hx q hq with h1 | h1
    · exact h q (.inr h1)
    · omega
theorem Above.nil {n mb : Nat} (h : n ≤ mb) : Above n mb [] := fun q hq => by
  rcases hq with rfl | ⟨x, hx, _⟩
  · exact h
  · cases hx
theorem Above.keeps {w w' w'' : World} {mb : Nat} {L : List (KY × ND)} (h : Above w.heap.size mb L) (k : Keeps NoB w w') (k' : Keeps (aD mb L) w' w'') : Keeps NoB w w'' := k.trans' k' fun i hi e => by have := h i e; omega
/-- What stands in a row of the call's own. -/
theorem own_row {w : World} {base n k : Nat} {T : TypeId} {v : Value} {xs : List Value} (h : w.ownsRow base T k v n xs) : ∃ a c, v = .slice a n c ∧ (0 < n → ∃ b cur, a = some ⟨b, 0, none⟩ ∧ base ≤ b ∧ w.heap[b]? = some (.cells cur T (0, 0)) ∧ ∀ j, j < n * k → cur[j]? = xs[j]?) := by
  rcases h.2 with ⟨rfl, rfl⟩ | ⟨g, cap, cur, rfl, hb, hg, hn, hm, hs, ht⟩
  · exact ⟨none, 0, rfl, fun h => absurd h (by omega)⟩
  · exact ⟨_, cap, rfl, fun _ => ⟨g, cur, rfl, hb, hg, fun j hj => by rw [← ht, List.getElem?_take_of_lt hj]; simp⟩⟩
abbrev kA : KY := (1, [97])
theorem kA_ok : keyOk kA := by decide +kernel
theorem stOkA (q : Nat) (h : 1 ≤ q) : stOk (kA, q, true, []) := ⟨kA_ok, by show ([97] : TT) ≠ [42]; decide, h, by show (0 : Nat) ≤ 256; decide, fun _ => rfl⟩
set_option maxRecDepth 100000 in
set_option maxHeartbeats 8000000 in
theorem examples_ca (w : World) : Ca Tryz.prog 4 #[] w fun v w' => v = .bool true ∧ Keeps NoB w w' := by
  refine ca_of_body (args := []) Tryz.func4 rfl (by kernel_rfl) ?_
  (repeat first | (apply wr_assign; exact rfl; with_reducible (conv => enter [6, 3]; whnf)) | apply wr_end | apply wc_seq | apply wc_region)
  refine wr_call (vs := []) rfl (new_ca w) rfl ?_
  rintro v w1 ⟨ab, mb, rfl, h1, hk1, hmb, hab⟩
  have hA1 : Above w.heap.size mb [] := Above.nil hmb
  have hz1 := hk1.size
  (repeat first | (apply wr_move; exact rfl; with_reducible (conv => enter [6, 3]; whnf)) | (apply wr_assign; exact rfl; with_reducible (conv => enter [6, 3]; whnf)) | apply wr_end | apply wc_seq | apply wc_region)
  refine wr_ptrNil rfl rfl ?_
  (repeat first | apply wr_end | apply wc_seq | apply wc_region | apply wc_skip | (apply wc_false; exact rfl))
  refine wr_build (ps := [(0, .int .i64 kA.1), (1, S kA.2)]) (cs := [.int .i64 kA.1, S kA.2]) rfl rfl rfl rfl ?_
  (repeat first | (apply wr_alloc; exact rfl))
  refine wr_storeAll (cs := [.int .i64 kA.1, S kA.2]) rfl rfl rfl (by intro u hu; simp at hu; rcases hu with rfl | rfl <;> rfl) (heap_alloc_same _ _) rfl rfl ?_
  refine wr_name ?_
  intro w2 hww2
  obtain ⟨bw2, hbw2⟩ : ∃ b, b = (w1).heap.size := ⟨_, rfl⟩
  have hkw2 : Keeps NoB w1 w2 := by rw [hww2]; exact ((Keeps.refl NoB w1).alloc _).put _ (fun h => by omega)
  have hcw2 : (w2).heap[bw2]? = some (.cells #[.int .i64 kA.1, S kA.2] 36 (0, 0)) := by rw [hww2, hbw2]; exact World.putObj_heap_same (by simp)
  rw [← hbw2]
  clear hww2
  have h2 := h1.keep hkw2
  have hz2 := hkw2.size
  have hK2 := hk1.trans hkw2
  (repeat first | (apply wr_move; exact rfl; with_reducible (conv => enter [6, 3]; whnf)) | apply wr_end | apply wc_seq | apply wc_region)
  refine wr_loadAll (cs := [.int .i64 kA.1, S kA.2]) rfl rfl rfl hcw2 rfl ?_
  refine wr_build (ps := [(0, .agg #[.int .i64 kA.1, S kA.2]), (1, .int .u64 5), (2, .bool true)]) (cs := GS (kA, 5, true, [])) rfl rfl rfl rfl ?_
  refine wr_call (vs := [.pointer (some ⟨ab, 0, none⟩), .int .i64 2, SdV (kA, 5, true, [])]) rfl (note_ca h2 (by omega) 2 (kA, 5, true, []) (by decide) (by decide) (by decide)) rfl ?_
  rintro v w3 (⟨hnow3, _, _⟩ | ⟨_, rfl, Lw3, hw3, hpw3, hkw3, hsw3⟩)
  focus exact absurd ⟨stOkA 5 (by decide), (by decide : idOk 2)⟩ hnow3
  have hc3 := hkw3.heap hcw2 (h2.free hcw2 (by decide) (by decide))
  have hz3 := hkw3.size
  have hK3 := hA1.keeps hK2 hkw3
  have hA3 := hA1.sub hsw3 (by omega)
  have hP3 : PL Lw3 = [(kA, noteP PN.new 2 (kA, 5, true, []))] := hpw3.trans (putL_nil _ _)
  (repeat first | (apply wr_move; exact rfl; with_reducible (conv => enter [6, 3]; whnf)) | (apply wr_assign; exact rfl; with_reducible (conv => enter [6, 3]; whnf)) | apply wr_end | apply wc_seq | apply wc_region)
  refine wr_loadAll (cs := [.int .i64 kA.1, S kA.2]) rfl rfl rfl hc3 rfl ?_
  refine wr_build (ps := [(0, .agg #[.int .i64 kA.1, S kA.2]), (1, .int .u64 4), (2, .bool true)]) (cs := GS (kA, 4, true, [])) rfl rfl rfl rfl ?_
  refine wr_call (vs := [.pointer (some ⟨ab, 0, none⟩), .int .i64 3, SdV (kA, 4, true, [])]) rfl (note_ca hw3 (by omega) 3 (kA, 4, true, []) (by decide) (by decide) (by decide)) rfl ?_
  rintro v w4 (⟨hnow4, _, _⟩ | ⟨_, rfl, Lw4, hw4, hpw4, hkw4, hsw4⟩)
  focus exact absurd ⟨stOkA 4 (by decide), (by decide : idOk 3)⟩ hnow4
  have hc4 := hkw4.heap hc3 (hw3.free hc3 (by decide) (by decide))
  have hz4 := hkw4.size
  have hK4 := hA3.keeps hK3 hkw4
  have hA4 := hA3.sub hsw4 (by omega)
  have hP4 : PL Lw4 = [(kA, noteP (noteP PN.new 2 (kA, 5, true, [])) 3 (kA, 4, true, []))] := by rw [hpw4, hP3, getL_one, putL_one]; rfl
  (repeat first | (apply wr_move; exact rfl; with_reducible (conv => enter [6, 3]; whnf)) | (apply wr_assign; exact rfl; with_reducible (conv => enter [6, 3]; whnf)) | apply wr_end | apply wc_seq | apply wc_region)
  refine wr_loadAll (cs := [.int .i64 kA.1, S kA.2]) rfl rfl rfl hc4 rfl ?_
  refine wr_build (ps := [(0, .agg #[.int .i64 kA.1, S kA.2]), (1, .int .u64 4), (2, .bool true)]) (cs := GS (kA, 4, true, [])) rfl rfl rfl rfl ?_
  refine wr_call (vs := [.pointer (some ⟨ab, 0, none⟩), .int .i64 0, SdV (kA, 4, true, [])]) rfl (note_ca hw4 (by omega) 0 (kA, 4, true, []) (by decide) (by decide) (by decide)) rfl ?_
  rintro v w5 (⟨_, rfl, hk5⟩ | ⟨⟨_, hno⟩, _⟩)
  rotate_left
  · exact absurd hno (by decide)
  have hc5 := hk5.heap hc4 (fun h => h)
  have h5 := hw4.keep hk5
  have hz5 := hk5.size
  have hK5 := hK4.trans hk5
  (repeat first | (apply wr_move; exact rfl; with_reducible (conv => enter [6, 3]; whnf)) | (apply wr_assign; exact rfl; with_reducible (conv => enter [6, 3]; whnf)) | apply wr_end | apply wc_seq | apply wc_region)
  refine wr_loadAll (cs := [.int .i64 kA.1, S kA.2]) rfl rfl rfl hc5 rfl ?_
  refine wr_buildSlice (vs := ([2, 3] : List Int).map (Value.int .i64)) rfl rfl (by intro v hv; obtain ⟨z, _, rfl⟩ := List.mem_map.1 hv; rfl) rfl (by decide) (by decide) (by decide) ?_
  refine wr_name ?_
  intro w6 hww6
  obtain ⟨bw6, hbw6⟩ : ∃ b, b = (w5).heap.size := ⟨_, rfl⟩
  have hkw6 : Keeps NoB w5 w6 := by rw [hww6]; exact (Keeps.refl NoB w5).alloc _
  have hcw6 : (w6).heap[bw6]? = some (.cells (([2, 3] : List Int).map (Value.int .i64)).toArray 3 (0, 0)) := by rw [hww6, hbw6]; exact heap_alloc_same _ _
  rw [← hbw6]
  clear hww6
  have h6 := h5.keep hkw6
  have hc6 := hkw6.heap hc5 (fun h => h)
  have hz6 := hkw6.size
  have hK6 := hK5.trans hkw6
  refine wr_call (vs := [.pointer (some ⟨ab, 0, none⟩), encK kA, .slice (some ⟨bw6, 0, none⟩) 2 2]) rfl (ready_ca h6 kA [2, 3] _ (slR_block hcw6 rfl) (by decide) (fun q hq => by cases hq; exact (h6).free hcw6 (by decide) (by decide)) (fun q hq => by cases hq; exact lt_of_heap hcw6)) rfl ?_
  rintro rw7 w7 ⟨Lw7, hw7, hpw7, how7, hkw7, hsw7⟩
  have hc7 := hkw7.heap hc6 (h6.free hc6 (by decide) (by decide))
  have hz7 := hkw7.size
  have hK7 := hA4.keeps hK6 hkw7
  have hA7 := hA4.sub hsw7 (by omega)
  rw [hP4, getL_one] at how7
  have hP7 : PL Lw7 = [(kA, readyN (noteP (noteP PN.new 2 (kA, 5, true, [])) 3 (kA, 4, true, [])) 4)] := by
    rw [hpw7, hP4]; unfold afterP; rw [getL_one]; dsimp only; rw [putL_one]; rfl
  have ho7 : w7.ownsRow w6.heap.size StT 5 rw7 1 (GS (kA, 4, true, [])) := how7
  obtain ⟨a7, c7, rfl, hr7⟩ := own_row ho7
  obtain ⟨g7, cur7, rfl, hg7, hcg7, hrd7⟩ := hr7 (by decide)
  (repeat first | (apply wr_move; exact rfl; with_reducible (conv => enter [6, 3]; whnf)) | (apply wr_assign; exact rfl; with_reducible (conv => enter [6, 3]; whnf)) | apply wr_end | apply wc_seq | apply wc_region)
  refine wr_loadAll (cs := [.int .i64 kA.1, S kA.2]) rfl rfl rfl hc7 rfl ?_
  refine wr_buildSlice (vs := ([2, 3] : List Int).map (Value.int .i64)) rfl rfl (by intro v hv; obtain ⟨z, _, rfl⟩ := List.mem_map.1 hv; rfl) rfl (by decide) (by decide) (by decide) ?_
  refine wr_name ?_
  intro w8 hww8
  obtain ⟨bw8, hbw8⟩ : ∃ b, b = (w7).heap.size := ⟨_, rfl⟩
  have hkw8 : Keeps NoB w7 w8 := by rw [hww8]; exact (Keeps.refl NoB w7).alloc _
  have hcw8 : (w8).heap[bw8]? = some (.cells (([2, 3] : List Int).map (Value.int .i64)).toArray 3 (0, 0)) := by rw [hww8, hbw8]; exact heap_alloc_same _ _
  rw [← hbw8]
  clear hww8
  have h8 := hw7.keep hkw8
  have hc8 := hkw8.heap hc7 (fun h => h)
  have hz8 := hkw8.size
  have hK8 := hK7.trans hkw8
  have hcg8 := hkw8.heap hcg7 (fun h => h)
  refine wr_call (vs := [.pointer (some ⟨ab, 0, none⟩), encK kA, .slice (some ⟨bw8, 0, none⟩) 2 2]) rfl (ready_ca h8 kA [2, 3] _ (slR_block hcw8 rfl) (by decide) (fun q hq => by cases hq; exact (h8).free hcw8 (by decide) (by decide)) (fun q hq => by cases hq; exact lt_of_heap hcw8)) rfl ?_
  rintro rw9 w9 ⟨Lw9, hw9, hpw9, how9, hkw9, hsw9⟩
  have hc9 := hkw9.heap hc8 (h8.free hc8 (by decide) (by decide))
  have hcg9 := hkw9.heap hcg8 (h8.free hcg8 (by decide) (by decide))
  have hz9 := hkw9.size
  have hK9 := hA7.keeps hK8 hkw9
  have hA9 := hA7.sub hsw9 (by omega)
  rw [hP7, getL_one] at how9
  have ho9 : w9.ownsRow w8.heap.size StT 5 rw9 0 [] := how9
  obtain ⟨a9, c9, rfl, _⟩ := own_row ho9
  have hP9 : PL Lw9 = [(kA, readyN (readyN (noteP (noteP PN.new 2 (kA, 5, true, [])) 3 (kA, 4, true, [])) 4) 4)] := by
    rw [hpw9, hP7]; unfold afterP; rw [getL_one]; dsimp only; rw [putL_one]; rfl
  have hG9 : (getL Lw9 kA).map (·.p) = some (readyN (readyN (noteP (noteP PN.new 2 (kA, 5, true, [])) 3 (kA, 4, true, [])) 4) 4) := by rw [← getPL, hP9, getL_one]
  have hcgr9 : ∀ (o : Nat) (v : Value), (GS (kA, 4, true, []))[o]? = some v → cur7[0 + 0 * 5 + o]? = some v := fun o v h => by
    simp only [Nat.zero_mul, Nat.zero_add]; rw [hrd7 o (by have := (List.getElem?_eq_some_iff.1 h).1; rw [GS_len] at this; omega), h]
  (repeat first | (apply wr_move; exact rfl; with_reducible (conv => enter [6, 3]; whnf)) | (apply wr_assign; exact rfl; with_reducible (conv => enter [6, 3]; whnf)) | apply wr_end | apply wc_seq | apply wc_region | (apply wr_len_slice; iterate 2 exact rfl) | (apply wr_cmp; (iterate 3 exact rfl); exact cmpT (by dsimp only [cmpP]; first | done | omega)) | (apply wr_pick (t := true); (iterate 2 exact rfl); with_reducible (conv => enter [6, 3]; whnf)))
  refine wr_indexAddr (i := 0) rfl rfl rfl (by decide) ?_
  (repeat first | (apply wr_fieldAddr; iterate 2 exact rfl))
  refine wr_load (v := .int .u64 4) rfl rfl rfl hcg9 (hcgr9 2 _ rfl) ?_
  (repeat first | (apply wr_move; exact rfl; with_reducible (conv => enter [6, 3]; whnf)) | (apply wr_cmp; (iterate 3 exact rfl); exact cmpT (by dsimp only [cmpP]; first | done | omega)) | (apply wr_pick (t := true); (iterate 2 exact rfl); with_reducible (conv => enter [6, 3]; whnf)))
  refine wr_indexAddr (i := 0) rfl rfl rfl (by decide) ?_
  (repeat first | (apply wr_fieldAddr; iterate 2 exact rfl))
  refine wr_load (v := .bool true) rfl rfl rfl hcg9 (hcgr9 3 _ rfl) ?_
  (repeat first | (apply wr_move; exact rfl; with_reducible (conv => enter [6, 3]; whnf)) | (apply wr_len_slice; iterate 2 exact rfl) | (apply wr_cmp; (iterate 3 exact rfl); exact cmpT (by dsimp only [cmpP]; first | done | omega)) | (apply wr_pick (t := true); (iterate 2 exact rfl); with_reducible (conv => enter [6, 3]; whnf)))
  refine wr_loadAll (cs := [.int .i64 kA.1, S kA.2]) rfl rfl rfl hc9 rfl ?_
  refine wr_buildSlice (vs := ([2] : List Int).map (Value.int .i64)) rfl rfl (by intro v hv; obtain ⟨z, _, rfl⟩ := List.mem_map.1 hv; rfl) rfl (by decide) (by decide) (by decide) ?_
  refine wr_name ?_
  intro wa hwwa
  obtain ⟨bwa, hbwa⟩ : ∃ b, b = (w9).heap.size := ⟨_, rfl⟩
  have hkwa : Keeps NoB w9 wa := by rw [hwwa]; exact (Keeps.refl NoB w9).alloc _
  have hcwa : (wa).heap[bwa]? = some (.cells (([2] : List Int).map (Value.int .i64)).toArray 3 (0, 0)) := by rw [hwwa, hbwa]; exact heap_alloc_same _ _
  rw [← hbwa]
  clear hwwa
  have ha := hw9.keep hkwa
  have hca := hkwa.heap hc9 (fun h => h)
  refine wr_call (vs := [.pointer (some ⟨ab, 0, none⟩), encK kA, .slice (some ⟨bwa, 0, none⟩) 1 1]) rfl (least_ca ha kA [2] _ (slR_block hcwa rfl) (by decide)) rfl ?_
  rintro v wb ⟨rfl, hkb⟩
  rw [hG9]
  have hb := ha.keep hkb
  have hcb := hkb.heap hca (fun h => h)
  rw [show leastP (some (readyN (readyN (noteP (noteP PN.new 2 (kA, 5, true, [])) 3 (kA, 4, true, [])) 4) 4)) [2] = 5 from rfl]
  (repeat first | (apply wr_move; exact rfl; with_reducible (conv => enter [6, 3]; whnf)) | (apply wr_cmp; (iterate 3 exact rfl); exact cmpT (by dsimp only [cmpP]; first | done | omega)) | (apply wr_pick (t := true); (iterate 2 exact rfl); with_reducible (conv => enter [6, 3]; whnf)))
  refine wr_loadAll (cs := [.int .i64 kA.1, S kA.2]) rfl rfl rfl hcb rfl ?_
  refine wr_call (vs := [.pointer (some ⟨ab, 0, none⟩), encK kA, .slice none 0 0]) rfl (least_ca hb kA [] _ (slR_nil _ _) (by decide)) rfl ?_
  rintro v wc ⟨rfl, hkc⟩
  rw [hG9]
  rw [show leastP (some (readyN (readyN (noteP (noteP PN.new 2 (kA, 5, true, [])) 3 (kA, 4, true, [])) 4) 4)) [] = 0 from rfl]
  have hLl : Lw9.length = 1 := by rw [← PL_len, hP9]; rfl
  (repeat first | (apply wr_move; exact rfl; with_reducible (conv => enter [6, 3]; whnf)) | (apply wr_cmp; (iterate 3 exact rfl); exact cmpT (by dsimp only [cmpP]; first | done | omega)) | (apply wr_pick (t := true); (iterate 2 exact rfl); with_reducible (conv => enter [6, 3]; whnf)))
  refine wr_call (vs := [.pointer (some ⟨ab, 0, none⟩)]) rfl (keys_ca (hb.keep hkc) (by omega)) rfl ?_
  rintro v wd ⟨l, hlp, _, hlo, hkd⟩
  have hll : l.length = 1 := by rw [hlp.length_eq, List.length_map, hLl]
  obtain ⟨ad, cd, rfl, _⟩ := own_row hlo
  rw [hll]
  (repeat first | (apply wr_assign; exact rfl; with_reducible (conv => enter [6, 3]; whnf)) | apply wr_end | (apply wr_len_slice; iterate 2 exact rfl) | (apply wr_cmp; (iterate 3 exact rfl); exact cmpT (by dsimp only [cmpP]; first | done | omega)) | (apply wr_pick (t := true); (iterate 2 exact rfl); with_reducible (conv => enter [6, 3]; whnf)) | (apply wc_ret; try simp only [thenE, inBlockE, bodyQ]))
  exact leave1 (v := .bool true) rfl rfl ⟨rfl, (((hK9.trans hkwa).trans hkb).trans hkc).trans hkd⟩
end Go.Proofs.YtjaojihogmnjhaaGreatDoor
