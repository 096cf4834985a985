/- norialaw02.examples: it is true. -/
import Derived.Test.YthlbgeonobicbaaDoorYl
namespace Go.Proofs.YthlbgeonobicbaaDoor
open Go Go.V Go.RowKit
set_option linter.unusedVariables false
set_option linter.unusedSimpArgs false

def exP1 : PL := ⟨[97], 0, [], [], 0, [], [], [107]⟩
def exP2 : PL := ⟨[], 1, [], [], 0, [], [], []⟩
def exP3 : PL := ⟨[97], 0, [], [], 0, [115], [], []⟩
theorem ex_t1 : textF 1 [97] = [10, 1, 97] := by rw [textF_eq (by decide), varint_lt (by decide), varint_lt (by decide)]; rfl
theorem ex_t8 : textF 8 [107] = [66, 1, 107] := by rw [textF_eq (by decide), varint_lt (by decide), varint_lt (by decide)]; rfl
theorem ex_parts : partsB exP1 = [[10, 1, 97], [], [], [], [], [], [], [66, 1, 107]] := by
  have h1 : txt 1 [97] = [10, 1, 97] := by unfold txt; rw [if_neg (by decide), ex_t1]
  have h8 : txt 8 [107] = [66, 1, 107] := by unfold txt; rw [if_neg (by decide), ex_t8]
  unfold partsB exP1
  simp only
  rw [h1, h8]
  rfl
theorem ex_put1 : putP 5 exP1 = some [10, 1, 97, 66, 1, 107] := by
  have h : (List.range 8).all (fitK (hasF 5).1 exP1) = true := by
    refine List.all_eq_true.2 fun i hi => ?_
    have hi' := List.mem_range.1 hi
    unfold fitK
    rw [ex_parts]
    match i with
    | 0 | 1 | 2 | 3 | 4 | 5 | 6 | 7 => rfl
    | i + 8 => omega
  unfold putP
  rw [if_pos ⟨rfl, by decide, by decide, h⟩, ex_parts]; rfl
theorem ex_put2 : putP 5 exP2 = none := by
  refine if_neg fun h => ?_
  have h1 := List.all_eq_true.1 h.2.2.2 1 (by decide)
  have h2 : (partsB exP2).getD 1 [] = numberF 2 1 := rfl
  have h3 : numberF 2 1 ≠ [] := numberF_ne (by decide)
  unfold fitK at h1
  rw [h2, decide_eq_false h3] at h1
  exact absurd h1 (by decide)
theorem ex_tk1 : takeF [10, 1, 97, 66, 1, 107] = .ok ⟨1, 2, 0, [97]⟩ [66, 1, 107] := by rfl
theorem ex_tk2 : takeF [66, 1, 107] = .ok ⟨8, 2, 0, [107]⟩ [] := by rfl
theorem ex_parse : parseF [10, 1, 97, 66, 1, 107] = some [⟨1, 2, 0, [97]⟩, ⟨8, 2, 0, [107]⟩] := by
  rw [parseF_ok (by decide) ex_tk1, parseF_ok (by decide) ex_tk2, parseF_nil]; rfl
theorem ex_get : getP 5 [10, 1, 97, 66, 1, 107] = some exP1 := by
  unfold getP
  rw [ex_parse]; rfl
theorem ex_refs : refsP 3 exP3 = [(4, [97]), (5, [115])] := rfl
theorem exOk (p : PL) (h : p = exP1 ∨ p = exP2 ∨ p = exP3) : p.ok := by
  rcases h with rfl | rfl | rfl <;> (refine ⟨by decide, by decide, by decide, (fun _ hr => nomatch hr), by decide, by decide, by decide, (fun _ hr => nomatch hr), by decide, by decide⟩)
theorem PlS.none (w : World) (p : PL) (hr : p.rules = []) (ha : p.addrs = []) : PlS w p (.slice none 0 0) (.slice none 0 0) := ⟨by rw [hr]; exact (PlS.zero w).r, by rw [ha]; exact (PlS.zero w).a⟩
theorem getR_some {kind : Int} {s : List UInt8} {v : Value} {w' : World} {p : PL} (h : getR kind s v w') (hp : getP kind s = some p) : ∃ rv av, v = .tuple #[PlV p rv av, .bool true] ∧ PlS w' p rv av := by
  obtain ⟨p', rv, av, b, rfl, hs, ⟨rfl, h1⟩ | ⟨rfl, h1, _⟩⟩ := h
  · rw [hp] at h1
    cases h1
    exact ⟨rv, av, rfl, hs⟩
  · rw [hp] at h1; cases h1
set_option maxRecDepth 100000 in
set_option maxHeartbeats 4000000 in
theorem examples_ca {p q : Addr} {w : World} (hg : Glo w p q) : Ca Tryd.prog 10 #[] w fun v w' => v = .bool true ∧ Keeps NoB w w' := by
  refine ca_of_body (args := []) Tryd.func10 rfl (by kernel_rfl) ?_
  (repeat first | (apply wr_assign; exact rfl; with_reducible (conv => enter [6, 3]; whnf)) | apply wr_end | apply wc_seq | apply wc_region)
  refine wr_build (ps := [(0, S [97]), (7, S [107])]) (cs := PlC exP1 (.slice none 0 0) (.slice none 0 0)) rfl rfl rfl rfl ?_
  refine wr_call (vs := [.int .i64 5, PlV exP1 (.slice none 0 0) (.slice none 0 0)]) rfl (pPut_ca 5 exP1 (exOk _ (.inl rfl)) _ _ _ (PlS.none _ _ rfl rfl)) rfl ?_
  rintro v w1 ⟨rfl, hk1⟩
  rw [ex_put1]
  dsimp only [putV]
  have hg1 := hg.keep hk1 (fun i hi h => h)
  (repeat first | (apply wr_move; exact rfl; with_reducible (conv => enter [6, 3]; whnf)) | (apply wr_assign; exact rfl; with_reducible (conv => enter [6, 3]; whnf)) | apply wr_end | apply wc_seq | apply wc_region | (apply wr_extract; (iterate 3 exact rfl); with_reducible (conv => enter [6, 3]; whnf)))
  refine wr_call (vs := [.int .i64 5, S [10, 1, 97, 66, 1, 107]]) rfl (pGet_ca 5 [10, 1, 97, 66, 1, 107] (by decide) hg1) rfl ?_
  rintro v w2 ⟨hv, hk2⟩
  obtain ⟨rv, av, rfl, hs2⟩ := getR_some hv ex_get
  have hr1 := slR_one hs2.r
  have ha1 := slR_one hs2.a
  clear hv
  (repeat first | (apply wr_move; exact rfl; with_reducible (conv => enter [6, 3]; whnf)) | (apply wr_alloc; exact rfl) | (apply wr_extract; (iterate 3 exact rfl); with_reducible (conv => enter [6, 3]; whnf)))
  refine wr_storeAll (cs := PlC exP1 rv av) rfl rfl rfl (PlC_one hr1 ha1) (heap_alloc_same _ _) rfl rfl ?_
  obtain ⟨w3, hw3⟩ : ∃ w3, w3 = (w2.alloc (.cells (Value.agg PlZ.toArray).cells 26)).putObj w2.heap.size (.cells (PlC exP1 rv av).toArray 26 (0, 0)) := ⟨_, rfl⟩
  have hk3 : Keeps NoB w2 w3 := by rw [hw3]; exact ((Keeps.refl NoB w2).alloc _).put _ (fun h => by omega)
  have hf3 : w3.heap[w2.heap.size]? = some (.cells (PlC exP1 rv av).toArray 26 (0, 0)) := by rw [hw3]; exact World.putObj_heap_same (by simp)
  rw [← hw3]
  clear hw3
  generalize w2.heap.size = fb at hf3 ⊢
  have hk03 := hk1.trans (hk2.trans hk3)
  (repeat first | (apply wr_assign; exact rfl; with_reducible (conv => enter [6, 3]; whnf)) | apply wr_end | apply wc_seq | apply wc_region)
  refine wr_call (vs := [.int .i64 3]) rfl (has_ca 3 _) rfl ?_
  rintro v w4 ⟨rfl, hk4⟩
  have hf4 := hk4.heap hf3 (fun h => h)
  (repeat first | (apply wr_move; exact rfl; with_reducible (conv => enter [6, 3]; whnf)) | (apply wr_assign; exact rfl; with_reducible (conv => enter [6, 3]; whnf)) | apply wr_end | apply wc_seq | apply wc_region | (apply wr_extract; (iterate 3 exact rfl); with_reducible (conv => enter [6, 3]; whnf)))
  refine wr_build (ps := [(1, .int .u64 1)]) (cs := PlC exP2 (.slice none 0 0) (.slice none 0 0)) rfl rfl rfl rfl ?_
  refine wr_call (vs := [.int .i64 5, PlV exP2 (.slice none 0 0) (.slice none 0 0)]) rfl (pPut_ca 5 exP2 (exOk _ (.inr (.inl rfl))) _ _ _ (PlS.none _ _ rfl rfl)) rfl ?_
  rintro v w5 ⟨rfl, hk5⟩
  rw [ex_put2]
  dsimp only [putV]
  have hf5 := hk5.heap hf4 (fun h => h)
  (repeat first | (apply wr_move; exact rfl; with_reducible (conv => enter [6, 3]; whnf)) | (apply wr_assign; exact rfl; with_reducible (conv => enter [6, 3]; whnf)) | apply wr_end | apply wc_seq | apply wc_region | (apply wr_fieldAddr; iterate 2 exact rfl) | (apply wr_not; iterate 2 exact rfl) | (apply wr_load; (iterate 3 exact rfl); (focus repeat first | with_reducible assumption | exact heap_alloc_same _ _ | exact World.putObj_heap_same (by first | omega | (simp only [World.size_alloc, World.putObj_size, ne_eq]; omega)) | ((first | refine hAl ?_ ?_ | refine hPu ?_ ?_); focus first | omega | (simp only [World.size_alloc, World.putObj_size, ne_eq]; omega))); exact rfl; conv => enter [6, 3]; whnf) | (apply wr_pick (t := true); (iterate 2 exact rfl); with_reducible (conv => enter [6, 3]; whnf)) | (apply wr_extract; (iterate 3 exact rfl); with_reducible (conv => enter [6, 3]; whnf)) | (apply wr_streqc; (iterate 3 exact rfl); (first | exact decide_eq_true (by with_reducible assumption) | exact decide_eq_false (by with_reducible assumption) | exact decide_eq_true rfl | exact rfl)))
  refine wr_build (ps := [(0, S [97]), (5, S [115])]) (cs := PlC exP3 (.slice none 0 0) (.slice none 0 0)) rfl rfl rfl rfl ?_
  refine wr_call (vs := [.int .i64 3, PlV exP3 (.slice none 0 0) (.slice none 0 0)]) rfl (refs_ca 3 exP3 (exOk _ (.inr (.inr rfl))) _ _ _ (PlS.none _ _ rfl rfl)) rfl ?_
  rintro v w6 ⟨ho, hk6⟩
  obtain ⟨al, cl, rfl, _, _⟩ := (SlR.of_own ho).shape
  (repeat first | (apply wr_assign; exact rfl; with_reducible (conv => enter [6, 3]; whnf)) | apply wr_end | (apply wr_len_slice; iterate 2 exact rfl) | (apply wr_cmp; (iterate 3 exact rfl); exact cmp_eq _ _) | (apply wr_pick (t := true); (iterate 2 exact rfl); with_reducible (conv => enter [6, 3]; whnf)) | (apply wc_ret; try simp only [thenE, inBlockE, bodyQ]))
  exact leave1 (v := .bool true) rfl rfl ⟨rfl, hk03.trans (hk4.trans (hk5.trans hk6))⟩
end Go.Proofs.YthlbgeonobicbaaDoor
