/- norialaw02.PayloadMany: there may be just so many rules, and addresses. -/
import Derived.Test.YthlbgeonobicbaaDoorYs
namespace Go.Proofs.YthlbgeonobicbaaDoor
open Go Go.V Go.RowKit
set_option linter.unusedVariables false
set_option linter.unusedSimpArgs false

theorem tkAll_none {τ : Type} (tk : Nat → τ → List WF → Option τ) (l : List WF) (j : Nat) (I : τ → Prop) (hI : ∀ k s s', k < j → I s → tk k s (allF l ((k + 1 : Nat) : Int)) = some s' → I s') (hno : ∀ s, I s → tk j s (allF l ((j + 1 : Nat) : Int)) = none) :
    ∀ (n k : Nat) (s : τ), k ≤ j → j < k + n → I s → tkAll tk l n k s = none
  | 0, k, s, h1, h2, _ => by omega
  | n + 1, k, s, h1, h2, hs => by
    show (tk k s _).bind _ = none
    by_cases e : k = j
    · subst e
      rw [hno s hs]; rfl
    · cases ht : tk k s (allF l ((k + 1 : Nat) : Int)) with
      | none => rfl
      | some s' => exact tkAll_none tk l j I hI hno n (k + 1) s' (by omega) (by omega) (hI k s s' (by omega) hs ht)
theorem tkPay_rules {has : List UInt8} {k : Nat} {s s' : PL} {l : List WF} (hk : k < 3) (hs : s.rules = []) (h : tkPay has k s l = some s') : s'.rules = [] := by
  unfold tkPay at h
  split at h
  · cases h; exact hs
  · split at h
    all_goals first
      | omega
      | (split at h; (injection h with h; subst h; exact hs); (cases h; done))
      | (cases h; done)
theorem tkPay_addrs {has : List UInt8} {k : Nat} {s s' : PL} {l : List WF} (hk : k < 6) (hs : s.addrs = []) (h : tkPay has k s l = some s') : s'.addrs = [] := by
  unfold tkPay at h
  split at h
  · cases h; exact hs
  · split at h
    all_goals first
      | omega
      | (split at h; (injection h with h; subst h; exact hs); (cases h; done))
      | (cases h; done)
      | (obtain ⟨x, _, rfl⟩ := Option.map_eq_some_iff.1 h; exact hs)
def rr : RuleD := ([47], [])
def aa : AddrD := ([], 1, 0)
def manyP (route : Bool) (k : Nat) : PL := if route = true then { bareP [97] with rules := List.replicate k rr } else { bareP [97] with addrs := List.replicate k aa }
def manyK (route : Bool) (k : Nat) : Int := if route = true ∧ k ≠ 0 then 2 else 4
def manyB (route : Bool) (k : Nat) : List UInt8 := textF 1 [97] ++ (if route = true then listB 4 ruleB (List.replicate k rr) else listB 7 addrB (List.replicate k aa))
theorem many_ok (route : Bool) {k : Nat} (hk : k < 71) : (manyP route k).ok := by
  unfold manyP
  split
  · exact ⟨by simp [bareP], by simp [bareP], by simp [bareP], (fun r hr => by have := (List.mem_replicate.1 hr).2; subst this; exact ⟨by simp [rr], by simp [rr]⟩), by simp [bareP]; omega, by simp [bareP], by simp [bareP], (fun _ h => nomatch h), by simp [bareP], by simp [bareP]⟩
  · exact ⟨by simp [bareP], by simp [bareP], by simp [bareP], (fun _ h => nomatch h), by simp [bareP], by simp [bareP], by simp [bareP], (fun r hr => by have := (List.mem_replicate.1 hr).2; subst this; exact ⟨by simp [aa], by simp [aa], by simp [aa]⟩), by simp [bareP]; omega, by simp [bareP]⟩
theorem many_parts (route : Bool) (k : Nat) : (partsB (manyP route k)).flatten = manyB route k := by
  have e1 : txt 1 [97] = textF 1 [97] := if_neg (by decide)
  unfold manyP manyB partsB
  cases route <;> simp [bareP, e1, txt, nmb, listB]
theorem many_restr (route : Bool) (k : Nat) : restr (hasF (manyK route k)).1 (manyP route k) = manyP route k := by
  unfold manyK manyP
  cases route
  · simp [restr, hasF, inF, bareP]
  · by_cases h : k = 0
    · subst h; simp [restr, hasF, inF, bareP]
    · simp [h, restr, hasF, inF, bareP]
theorem many_has (route : Bool) (k : Nat) : (hasF (manyK route k)).2 = true := by
  unfold manyK; split <;> rfl
theorem many_lens (route : Bool) (k : Nat) : ((manyP route k).rules.length ≤ 64 ∧ (manyP route k).addrs.length ≤ 64) ↔ k ≤ 64 := by
  unfold manyP
  cases route <;> simp [bareP]
theorem many_put (route : Bool) (k : Nat) : putP (manyK route k) (manyP route k) = if k ≤ 64 then some (manyB route k) else none := by
  unfold putP
  have h := many_lens route k
  by_cases hk : k ≤ 64
  · obtain ⟨h1, h2⟩ := h.2 hk
    rw [if_pos ⟨many_has _ _, h1, h2, (fits_restr _ _).2 (many_restr _ _)⟩, if_pos hk, many_parts]
  · rw [if_neg (fun hh => hk (h.1 ⟨hh.2.1, hh.2.2.1⟩)), if_neg hk]
theorem many_get (route : Bool) {k : Nat} (hk71 : k < 71) : getP (manyK route k) (manyB route k) = if k ≤ 64 then some (manyP route k) else none := by
  have h := many_lens route k
  have hp := parse_parts (many_ok route hk71)
  rw [many_parts] at hp
  unfold getP
  rw [if_pos (many_has _ _), hp, Option.bind_some]
  by_cases hk : k ≤ 64
  · obtain ⟨h1, h2⟩ := h.2 hk
    have hg := get_all (hasF (manyK route k)).1 (many_ok route hk71) (fun _ => h1) (fun _ => h2) [] (fun _ _ _ => rfl) rfl
    rw [List.append_nil] at hg
    rw [hg, if_pos hk, many_restr]; rfl
  · rw [if_neg hk]
    cases route with
    | true =>
      have e : (hasF (manyK true k)).1 = [114] := by unfold manyK; rw [if_pos ⟨rfl, by omega⟩]; rfl
      rw [e]
      refine tkAll_none (tkPay [114]) _ 3 (fun s => s.rules = []) (fun k s s' hk hs h => tkPay_rules hk hs h) (fun s hs => ?_) 8 0 PL0 (by omega) (by omega) rfl
      rw [partsW_all]
      unfold tkPay
      rw [if_neg (by simp [lets, inF])]
      simp only [hs]
      rw [if_neg (by decide), if_neg (by decide), if_neg (by decide), if_pos (by rfl), tkList_many _ _ _ _ (by simp [manyP]; omega)]; rfl
    | false =>
      have e : (hasF (manyK false k)).1 = [97] := by unfold manyK; rw [if_neg (by simp)]; rfl
      rw [e]
      refine tkAll_none (tkPay [97]) _ 6 (fun s => s.addrs = []) (fun k s s' hk hs h => tkPay_addrs hk hs h) (fun s hs => ?_) 8 0 PL0 (by omega) (by omega) rfl
      rw [partsW_all]
      unfold tkPay
      rw [if_neg (by simp [lets, inF])]
      simp only [hs]
      rw [if_neg (by decide), if_neg (by decide), if_neg (by decide), if_neg (by decide), if_neg (by decide), if_neg (by decide), if_pos (by rfl), tkList_many _ _ _ _ (by simp [manyP]; omega)]; rfl
theorem listB_snoc {α : Type} (num : Int) (f : α → List UInt8) (x : α) (i : Nat) : listB num f (List.replicate (i + 1) x) = listB num f (List.replicate i x) ++ textF num (f x) := by
  unfold listB
  rw [List.replicate_succ', List.map_append, List.flatten_append]; simp
theorem manyB_len (route : Bool) {k : Nat} (hk : k < 71) : (manyB route k).length ≤ 1000000000 := by
  have h0 := textF_len (num := 1) (s := [97]) (by decide)
  have h4 := listB_len 4 ruleB (m := 6000040) (List.replicate k rr) (fun x hx => ruleB_len (by have := (List.mem_replicate.1 hx).2; subst this; exact ⟨by simp [rr], by simp [rr]⟩)) (by decide)
  have h7 := listB_len 7 addrB (m := 6000060) (List.replicate k aa) (fun x hx => addrB_len (by have := (List.mem_replicate.1 hx).2; subst this; exact ⟨by simp [aa], by simp [aa], by simp [aa]⟩)) (by decide)
  rw [List.length_replicate] at h4 h7
  have m4 : k * (6000040 + 20) ≤ 71 * (6000040 + 20) := Nat.mul_le_mul_right _ (by omega)
  have m7 : k * (6000060 + 20) ≤ 71 * (6000060 + 20) := Nat.mul_le_mul_right _ (by omega)
  unfold manyB
  rw [List.length_append]
  simp at h0
  split <;> omega
theorem rr_bytes : ruleB rr = textF 1 [47] := by
  unfold ruleB rr
  rw [show txt 1 ([47], ([] : List UInt8)).1 = textF 1 [47] from if_neg (by decide), show txt 2 ([47], ([] : List UInt8)).2 = [] from if_pos rfl, List.append_nil]
theorem aa_bytes : addrB aa = numberF 2 1 := by
  unfold addrB aa
  rw [show txt 1 (([], 1, 0) : AddrD).1 = [] from if_pos rfl, show nmb 2 (([], 1, 0) : AddrD).2.1 = numberF 2 1 from if_neg (by decide), show nmb 3 (([], 1, 0) : AddrD).2.2 = [] from if_pos rfl, List.append_nil, List.nil_append]
set_option maxRecDepth 100000 in
set_option maxHeartbeats 4000000 in
theorem payloadMany_ca (n : Nat) (hn : n < 256) (route : Bool) {p q : Addr} (w : World) (hg : Glo w p q) :
    Ca Tryd.prog 9 #[.int .u8 (n : Int), .bool route] w fun v w' => v = .bool true ∧ Keeps NoB w w' := by
  refine ca_of_body (args := [.int .u8 (n : Int), .bool route]) Tryd.func9 rfl (by kernel_rfl) ?_
  (repeat first | (apply wr_assign; exact rfl; with_reducible (conv => enter [6, 3]; whnf)) | apply wr_end | apply wc_seq | apply wc_region)
  refine wr_call (vs := []) rfl (examples_ca hg) rfl ?_
  rintro v w2 ⟨rfl, hk2⟩
  (repeat first | (apply wr_move; exact rfl; with_reducible (conv => enter [6, 3]; whnf)) | (apply wr_assign; exact rfl; with_reducible (conv => enter [6, 3]; whnf)) | apply wr_end | apply wc_seq | apply wc_region | apply wc_skip | (apply wr_not; iterate 2 exact rfl) | (apply wc_false; exact rfl))
  refine wr_remN (n := n) (m := 71) rfl rfl rfl (by decide) ?_
  have hk71 : n % 71 < 71 := Nat.mod_lt _ (by decide)
  generalize n % 71 = k at hk71 ⊢
  (repeat first | (apply wr_assign; exact rfl; with_reducible (conv => enter [6, 3]; whnf)) | apply wr_end | apply wc_seq | apply wc_region | (apply wr_conv; (iterate 2 exact rfl); exact w_fit (by dsimp only [kIn]; first | done | omega)))
  refine wr_build (ps := [(0, S [97])]) (cs := PlC (bareP [97]) (.slice none 0 0) (.slice none 0 0)) rfl rfl rfl rfl ?_
  refine wr_alloc rfl ?_
  refine wr_storeAll (cs := PlC (bareP [97]) (.slice none 0 0) (.slice none 0 0)) rfl rfl rfl (PlC_one rfl rfl) (heap_alloc_same _ _) rfl rfl ?_
  obtain ⟨w3, hw3⟩ : ∃ w', w' = (w2.alloc (.cells (Value.agg PlZ.toArray).cells 26)).putObj w2.heap.size (.cells (PlC (bareP [97]) (.slice none 0 0) (.slice none 0 0)).toArray 26 (0, 0)) := ⟨_, rfl⟩
  have kw3 : Keeps NoB w2 w3 := by rw [hw3]; exact ((Keeps.refl NoB w2).alloc _).put _ (fun h => by omega)
  have bw3 : w3.heap[w2.heap.size]? = some (.cells (PlC (bareP [97]) (.slice none 0 0) (.slice none 0 0)).toArray 26 (0, 0)) := by rw [hw3]; exact World.putObj_heap_same (by simp)
  rw [← hw3]
  clear hw3
  obtain ⟨pb, epb⟩ : ∃ b, b = w2.heap.size := ⟨_, rfl⟩
  rw [← epb] at bw3 ⊢
  (repeat first | apply wr_end | apply wc_seq | apply wc_region)
  refine wr_call (vs := [.int .i64 1, S [97]]) rfl (text_ca 1 [97] (by decide) (by decide) w3) rfl ?_
  rintro v w4 ⟨rfl, hk4⟩
  have hb4 := hk4.heap bw3 (fun h => h)
  have hkw4 : Keeps NoB w w4 := hk2.trans (kw3.trans hk4)
  have hpbw : w.heap.size ≤ pb := by have := hk2.size; omega
  have hpb4 := lt_of_heap hb4
  cases route with
  | true =>
    (repeat first | (apply wr_assign; exact rfl; with_reducible (conv => enter [6, 3]; whnf)) | apply wr_end | apply wc_seq | apply wc_region | apply wc_block)
    refine wc_loopL (α := Nat × Value) (fun x => [(1, .bool true), (5, .bool true), (6, .int .i64 (k : Int)), (7, .int .i64 (manyK true x.1)), (8, .pointer (some ⟨pb, 0, none⟩)), (9, S (manyB true x.1)), (10, .int .i64 (x.1 : Int))])
      (fun x ds w' => ds = [] ∧ x.1 ≤ k ∧ w'.heap[pb]? = some (.cells (PlC (manyP true x.1) x.2 (.slice none 0 0)).toArray 26 (0, 0)) ∧ w'.ownsRow (pb + 1) 51 2 x.2 x.1 ((List.replicate x.1 rr).flatMap GR) ∧ Keeps NoB w w') (fun x => k - x.1) (0, .slice none 0 0)
      ⟨rfl, Nat.zero_le _, hb4, own_nil _ _ _ _, hkw4⟩ ⟨rfl, rfl, rfl, rfl, rfl, (by show S _ = S _; simp [manyB, listB]), rfl, trivial⟩ ?_
    rintro ⟨i, v⟩ ds f0 w7 ⟨rfl, hi, hb7, ho7, hk7⟩
    dsimp only at hi hb7 ho7 ⊢
    by_cases hlt : i < k
    · (repeat first | (apply wr_move; exact rfl; with_reducible (conv => enter [6, 3]; whnf)) | (apply wr_assign; exact rfl; with_reducible (conv => enter [6, 3]; whnf)) | apply wr_end | apply wc_seq | apply wc_region | apply wc_skip | apply wc_block | (apply wr_fieldAddr; iterate 2 exact rfl) | (apply wr_load; (iterate 3 exact rfl); (focus repeat first | with_reducible assumption | exact heap_alloc_same _ _ | exact World.putObj_heap_same (by first | omega | (simp only [World.size_alloc, World.putObj_size, ne_eq]; omega)) | ((first | refine hAl ?_ ?_ | refine hPu ?_ ?_); focus first | omega | (simp only [World.size_alloc, World.putObj_size, ne_eq]; omega))); exact rfl; conv => enter [6, 3]; whnf) | (apply wr_cmp; (iterate 3 exact rfl); exact cmpT (by dsimp only [cmpP]; first | done | omega)) | (apply wc_true; exact rfl))
      refine wr_build (ps := [(0, S [47])]) (cs := [S [47], S []]) rfl rfl rfl rfl ?_
      refine wr_buildSlice (vs := [.agg #[S [47], S []]]) rfl rfl (by intro v hv; simp at hv; subst hv; rfl) rfl (by decide) (by decide) (by decide) ?_
      have hbl := lt_of_heap hb7
      refine wr_append (v := v) (n := i) (m := 1) (news := [S [47], S []]) rfl rfl (ho7.alloc _) rfl (heap_alloc_same _ _) rfl (by intro u hu; simp at hu; rcases hu with rfl | rfl <;> rfl) rfl (by decide) (by omega) (by omega) (by simp only [World.size_alloc]; omega) ?_
      intro v2 w8 ho8 hk8 _
      have hk78 : Keeps (fun b => pb + 1 ≤ b) w7 w8 := Keeps.trans' ((Keeps.refl _ w7).alloc _) hk8 (fun b _ e => own_ge ho7 e)
      have hb8 := hk78.heap hb7 (by omega)
      have hv2 := own_one ho8
      refine wr_fieldAddr rfl rfl ?_
      refine wr_store (v := v2) rfl rfl rfl hv2 hb8 rfl ?_
      obtain ⟨w9, h9⟩ : ∃ w', w' = w8.putObj pb (.cells ((PlC (manyP true i) v (.slice none 0 0)).toArray.setIfInBounds (0 + 3) v2) 26 (0, 0)) := ⟨_, rfl⟩
      have hk89 : Keeps (· = pb) w8 w9 := by rw [h9]; exact (Keeps.refl _ _).put _ (fun _ => rfl)
      have hb9 : w9.heap[pb]? = some (.cells (PlC (manyP true (i + 1)) v2 (.slice none 0 0)).toArray 26 (0, 0)) := by rw [h9]; exact World.putObj_heap_same (lt_of_heap hb8)
      rw [← h9]
      clear h9
      have ho9 : w9.ownsRow (pb + 1) 51 2 v2 (i + 1) ((List.replicate (i + 1) rr).flatMap GR) := by
        rw [List.replicate_succ', List.flatMap_append]
        exact own_keep ho8 hk89 (fun b hb e => by have := own_ge ho8 hb; omega)
      have hkw9 : Keeps NoB w w9 := Keeps.trans' (Keeps.trans' hk7 hk78 (fun b _ e => by omega)) hk89 (fun b hb e => by omega)
      have hml := manyB_len true (k := i) (by omega)
      (repeat first | (apply wr_move; exact rfl; with_reducible (conv => enter [6, 3]; whnf)) | apply wr_end | apply wc_region)
      refine wr_call (vs := [.int .i64 1, S [47]]) rfl (text_ca 1 [47] (by decide) (by decide) w9) rfl ?_
      rintro v w10 ⟨rfl, hk10⟩
      have hl1 := textF_len (num := 1) (s := [47]) (by decide)
      simp only [List.length_cons, List.length_nil] at hl1
      refine wr_call (vs := [.int .i64 4, S (textF 1 [47])]) rfl (text_ca 4 (textF 1 [47]) (by decide) (by omega) w10) rfl ?_
      rintro v w11 ⟨rfl, hk11⟩
      have hl2 := textF_len (num := 4) (s := textF 1 [47]) (by omega)
      have hk911 := hk10.trans hk11
      (repeat first | (apply wr_move; exact rfl; with_reducible (conv => enter [6, 3]; whnf)) | (apply wr_assign; exact rfl; with_reducible (conv => enter [6, 3]; whnf)) | apply wr_end | apply wc_region | (apply wr_add; (iterate 3 exact rfl); exact w_fit (by dsimp only [kIn]; first | done | omega)) | (apply wr_cat; (iterate 3 exact rfl); (first | omega | (simp only [List.length_append]; omega))) | (apply wr_nil; try simp only [thenE, inBlockE, bodyQ]))
      exact ⟨(i + 1, v2), by dsimp only; omega, ⟨by trivial, hlt, hk911.heap hb9 (fun h => h), own_keep ho9 hk911 (fun _ _ h => h), hkw9.trans hk911⟩, rfl, rfl, rfl, (by show Value.int .i64 2 = _; rw [show manyK true (i + 1) = 2 from by simp [manyK]]), rfl, (by show S _ = S _; simp only [manyB, if_true, listB_snoc, rr_bytes, List.append_assoc]), (by show Value.int .i64 _ = Value.int .i64 _; congr 1), trivial⟩
    · have he : i = k := by omega
      subst he
      have hs7 : PlS w7 (manyP true i) v (.slice none 0 0) := ⟨by have := SlR.of_own ho7; show SlR _ _ _ (List.replicate i rr).length _; rw [List.length_replicate]; exact this, (PlS.zero w7).a⟩
      (repeat first | (apply wr_move; exact rfl; with_reducible (conv => enter [6, 3]; whnf)) | apply wr_end | apply wc_seq | apply wc_region | (apply wr_cmp; (iterate 3 exact rfl); exact cmpF (by dsimp only [cmpN]; first | done | omega)) | (apply wc_false; exact rfl) | (apply wc_exit; try simp only [thenE, inBlockE, bodyQ, ↓reduceIte, Nat.reduceEqDiff]))
      refine wr_loadAll (cs := PlC (manyP true i) v (.slice none 0 0)) rfl rfl rfl hb7 rfl ?_
      refine wr_call (vs := [.int .i64 (manyK true i), PlV (manyP true i) v (.slice none 0 0)]) rfl (pPut_ca _ (manyP true i) (many_ok true hk71) v (.slice none 0 0) w7 hs7) rfl ?_
      rintro v w8 ⟨rfl, hk8⟩
      obtain ⟨t8, ok8, hv8, ht8⟩ : ∃ t b, putV (putP (manyK true i) (manyP true i)) = .tuple #[S t, .bool b] ∧ b = decide (i ≤ 64) ∧ (i ≤ 64 → t = manyB true i) := by
        rw [many_put]
        by_cases h : i ≤ 64
        · rw [if_pos h]; exact ⟨_, true, rfl, by simp [h], fun _ => rfl⟩
        · rw [if_neg h]; exact ⟨[], false, rfl, by simp [h], fun h' => absurd h' h⟩
      rw [hv8]
      (repeat first | (apply wr_move; exact rfl; with_reducible (conv => enter [6, 3]; whnf)) | (apply wr_assign; exact rfl; with_reducible (conv => enter [6, 3]; whnf)) | apply wr_end | apply wc_seq | apply wc_region | (apply wr_extract; (iterate 3 exact rfl); with_reducible (conv => enter [6, 3]; whnf)))
      refine wr_call (vs := [.int .i64 (manyK true i), S (manyB true i)]) rfl (pGet_ca _ _ (manyB_len true hk71) (hg.keep (hk7.trans hk8) (fun _ _ h => h))) rfl ?_
      rintro v w9 ⟨hgr, hk9⟩
      obtain ⟨Q, rq, aq, ok9, rfl, hsq, hQ⟩ : ∃ Q rq aq b, v = .tuple #[PlV Q rq aq, .bool b] ∧ PlS w9 Q rq aq ∧ b = decide (i ≤ 64) ∧ (i ≤ 64 → Q = manyP true i) := by
        obtain ⟨Q, rq, aq, b, rfl, hs, ⟨rfl, h1⟩ | ⟨rfl, h1, rfl⟩⟩ := hgr
        · rw [many_get true hk71] at h1
          split at h1
          · rename_i h; cases h1; exact ⟨_, rq, aq, true, rfl, hs, by simp [h], fun _ => rfl⟩
          · cases h1
        · rw [many_get true hk71] at h1
          split at h1
          · cases h1
          · rename_i h; exact ⟨_, rq, aq, false, rfl, hs, by simp [h], fun h' => absurd h' h⟩
      obtain ⟨e9, hQ⟩ := hQ
      obtain ⟨e8, ht8⟩ := ht8
      (repeat first | (apply wr_move; exact rfl; with_reducible (conv => enter [6, 3]; whnf)) | (apply wr_alloc; exact rfl) | (apply wr_extract; (iterate 3 exact rfl); with_reducible (conv => enter [6, 3]; whnf)))
      refine wr_storeAll (cs := PlC Q rq aq) rfl rfl rfl (PlC_one (slR_one hsq.r) (slR_one hsq.a)) (heap_alloc_same _ _) rfl rfl ?_
      obtain ⟨w10, hw10⟩ : ∃ w', w' = (w9.alloc (.cells (Value.agg PlZ.toArray).cells 26)).putObj w9.heap.size (.cells (PlC Q rq aq).toArray 26 (0, 0)) := ⟨_, rfl⟩
      have kw10 : Keeps NoB w9 w10 := by rw [hw10]; exact ((Keeps.refl NoB w9).alloc _).put _ (fun h => by omega)
      have bw10 : w10.heap[w9.heap.size]? = some (.cells (PlC Q rq aq).toArray 26 (0, 0)) := by rw [hw10]; exact World.putObj_heap_same (by simp)
      rw [← hw10]
      clear hw10
      obtain ⟨qb, eqb⟩ : ∃ b, b = w9.heap.size := ⟨_, rfl⟩
      rw [← eqb] at bw10 ⊢
      have hk710 := hk8.trans (hk9.trans kw10)
      have hb10 := hk710.heap hb7 (fun h => h)
      by_cases hk64 : i ≤ 64
      · rw [decide_eq_true hk64] at e8 e9
        have e1 := ht8 hk64
        have e2 := hQ hk64
        subst e8 e9 e1 e2
        (repeat first | (apply wr_move; exact rfl; with_reducible (conv => enter [6, 3]; whnf)) | (apply wr_assign; exact rfl; with_reducible (conv => enter [6, 3]; whnf)) | apply wr_end | apply wc_seq | apply wc_region | (apply wr_cmp; (iterate 3 exact rfl); exact cmpT (by dsimp only [cmpP]; first | done | omega)))
        refine wr_boolEq (c := true) rfl rfl rfl rfl ?_
        (repeat first | (apply wr_move; exact rfl; with_reducible (conv => enter [6, 3]; whnf)) | (apply wr_pick (t := true); (iterate 2 exact rfl); with_reducible (conv => enter [6, 3]; whnf)))
        refine wr_boolEq (c := true) rfl rfl rfl rfl ?_
        (repeat first | (apply wr_move; exact rfl; with_reducible (conv => enter [6, 3]; whnf)) | (apply wr_not; iterate 2 exact rfl) | (apply wr_pick (t := true); (iterate 2 exact rfl); with_reducible (conv => enter [6, 3]; whnf)) | (apply wr_streqc; (iterate 3 exact rfl); (first | exact decide_eq_true (by with_reducible assumption) | exact decide_eq_false (by with_reducible assumption) | exact decide_eq_true rfl | exact rfl)))
        refine wr_loadAll (cs := PlC (manyP true i) v (.slice none 0 0)) rfl rfl rfl hb10 rfl ?_
        refine wr_loadAll (cs := PlC (manyP true i) rq aq) rfl rfl rfl bw10 rfl ?_
        refine wr_call (vs := [PlV (manyP true i) v (.slice none 0 0), PlV (manyP true i) rq aq]) rfl (same_ca (manyP true i) (manyP true i) ⟨by have := (many_lens true i).2 hk64; omega, by have := (many_lens true i).2 hk64; omega⟩ ⟨by have := (many_lens true i).2 hk64; omega, by have := (many_lens true i).2 hk64; omega⟩ v (.slice none 0 0) rq aq w10 (hs7.kin hk710) (hsq.kin kw10)) rfl ?_
        rintro v w11 ⟨rfl, hk11⟩
        rw [(sameB_iff (manyP true i) (manyP true i)).2 rfl]
        (repeat first | (apply wr_assign; exact rfl; with_reducible (conv => enter [6, 3]; whnf)) | apply wr_end | (apply wr_pick (t := true); (iterate 2 exact rfl); with_reducible (conv => enter [6, 3]; whnf)) | (apply wr_pick (t := false); (iterate 2 exact rfl); with_reducible (conv => enter [6, 3]; whnf)) | (apply wc_ret; try simp only [thenE, inBlockE, bodyQ]))
        exact leave1 (v := .bool true) rfl rfl ⟨rfl, hk7.trans (hk710.trans hk11)⟩
      · rw [decide_eq_false hk64] at e8 e9
        subst e8 e9
        (repeat first | (apply wr_move; exact rfl; with_reducible (conv => enter [6, 3]; whnf)) | (apply wr_assign; exact rfl; with_reducible (conv => enter [6, 3]; whnf)) | apply wr_end | apply wc_seq | apply wc_region | (apply wr_cmp; (iterate 3 exact rfl); exact cmpF (by dsimp only [cmpN]; first | done | omega)))
        refine wr_boolEq (c := true) rfl rfl rfl rfl ?_
        (repeat first | (apply wr_move; exact rfl; with_reducible (conv => enter [6, 3]; whnf)) | (apply wr_pick (t := true); (iterate 2 exact rfl); with_reducible (conv => enter [6, 3]; whnf)))
        refine wr_boolEq (c := true) rfl rfl rfl rfl ?_
        (repeat first | (apply wr_move; exact rfl; with_reducible (conv => enter [6, 3]; whnf)) | (apply wr_assign; exact rfl; with_reducible (conv => enter [6, 3]; whnf)) | apply wr_end | (apply wr_not; iterate 2 exact rfl) | (apply wr_pick (t := true); (iterate 2 exact rfl); with_reducible (conv => enter [6, 3]; whnf)) | (apply wc_ret; try simp only [thenE, inBlockE, bodyQ]) | (apply wr_skip; exact rfl))
        exact leave1 (v := .bool true) rfl rfl ⟨rfl, hk7.trans hk710⟩
  | false =>
    (repeat first | (apply wr_assign; exact rfl; with_reducible (conv => enter [6, 3]; whnf)) | apply wr_end | apply wc_seq | apply wc_region | apply wc_block)
    refine wc_loopL (α := Nat × Value) (fun x => [(1, .bool false), (5, .bool true), (6, .int .i64 (k : Int)), (7, .int .i64 (manyK false x.1)), (8, .pointer (some ⟨pb, 0, none⟩)), (9, S (manyB false x.1)), (10, .int .i64 (x.1 : Int))])
      (fun x ds w' => ds = [] ∧ x.1 ≤ k ∧ w'.heap[pb]? = some (.cells (PlC (manyP false x.1) (.slice none 0 0) x.2).toArray 26 (0, 0)) ∧ w'.ownsRow (pb + 1) 65 3 x.2 x.1 ((List.replicate x.1 aa).flatMap GA) ∧ Keeps NoB w w') (fun x => k - x.1) (0, .slice none 0 0)
      ⟨rfl, Nat.zero_le _, hb4, own_nil _ _ _ _, hkw4⟩ ⟨rfl, rfl, rfl, rfl, rfl, (by show S _ = S _; simp [manyB, listB]), rfl, trivial⟩ ?_
    rintro ⟨i, v⟩ ds f0 w7 ⟨rfl, hi, hb7, ho7, hk7⟩
    dsimp only at hi hb7 ho7 ⊢
    by_cases hlt : i < k
    · (repeat first | (apply wr_move; exact rfl; with_reducible (conv => enter [6, 3]; whnf)) | apply wr_end | apply wc_seq | apply wc_region | apply wc_skip | apply wc_block | (apply wr_fieldAddr; iterate 2 exact rfl) | (apply wr_load; (iterate 3 exact rfl); (focus repeat first | with_reducible assumption | exact heap_alloc_same _ _ | exact World.putObj_heap_same (by first | omega | (simp only [World.size_alloc, World.putObj_size, ne_eq]; omega)) | ((first | refine hAl ?_ ?_ | refine hPu ?_ ?_); focus first | omega | (simp only [World.size_alloc, World.putObj_size, ne_eq]; omega))); exact rfl; conv => enter [6, 3]; whnf) | (apply wr_cmp; (iterate 3 exact rfl); exact cmpT (by dsimp only [cmpP]; first | done | omega)) | (apply wc_true; exact rfl) | (apply wc_false; exact rfl))
      refine wr_build (ps := [(1, .int .u64 1)]) (cs := [S [], .int .u64 1, .int .u64 0]) rfl rfl rfl rfl ?_
      refine wr_buildSlice (vs := [.agg #[S [], .int .u64 1, .int .u64 0]]) rfl rfl (by intro v hv; simp at hv; subst hv; rfl) rfl (by decide) (by decide) (by decide) ?_
      have hbl := lt_of_heap hb7
      refine wr_append (v := v) (n := i) (m := 1) (news := [S [], .int .u64 1, .int .u64 0]) rfl rfl (ho7.alloc _) rfl (heap_alloc_same _ _) rfl (by intro u hu; simp at hu; rcases hu with rfl | rfl | rfl <;> rfl) rfl (by decide) (by omega) (by omega) (by simp only [World.size_alloc]; omega) ?_
      intro v2 w8 ho8 hk8 _
      have hk78 : Keeps (fun b => pb + 1 ≤ b) w7 w8 := Keeps.trans' ((Keeps.refl _ w7).alloc _) hk8 (fun b _ e => own_ge ho7 e)
      have hb8 := hk78.heap hb7 (by omega)
      have hv2 := own_one ho8
      refine wr_fieldAddr rfl rfl ?_
      refine wr_store (v := v2) rfl rfl rfl hv2 hb8 rfl ?_
      obtain ⟨w9, h9⟩ : ∃ w', w' = w8.putObj pb (.cells ((PlC (manyP false i) (.slice none 0 0) v).toArray.setIfInBounds (0 + 6) v2) 26 (0, 0)) := ⟨_, rfl⟩
      have hk89 : Keeps (· = pb) w8 w9 := by rw [h9]; exact (Keeps.refl _ _).put _ (fun _ => rfl)
      have hb9 : w9.heap[pb]? = some (.cells (PlC (manyP false (i + 1)) (.slice none 0 0) v2).toArray 26 (0, 0)) := by rw [h9]; exact World.putObj_heap_same (lt_of_heap hb8)
      rw [← h9]
      clear h9
      have ho9 : w9.ownsRow (pb + 1) 65 3 v2 (i + 1) ((List.replicate (i + 1) aa).flatMap GA) := by
        rw [List.replicate_succ', List.flatMap_append]
        exact own_keep ho8 hk89 (fun b hb e => by have := own_ge ho8 hb; omega)
      have hkw9 : Keeps NoB w w9 := Keeps.trans' (Keeps.trans' hk7 hk78 (fun b _ e => by omega)) hk89 (fun b hb e => by omega)
      have hml := manyB_len false (k := i) (by omega)
      (repeat first | (apply wr_move; exact rfl; with_reducible (conv => enter [6, 3]; whnf)) | apply wr_end | apply wc_region)
      refine wr_call (vs := [.int .i64 2, .int .u64 1]) rfl (number_ca 2 1 (by decide) (by decide) w9) rfl ?_
      rintro v w10 ⟨rfl, hk10⟩
      have hl1 : (numberF 2 1).length ≤ 20 := by
        have h := nmb_len (k := 2) (n := 1) (by decide)
        exact h
      refine wr_call (vs := [.int .i64 7, S (numberF 2 1)]) rfl (text_ca 7 (numberF 2 1) (by decide) (by omega) w10) rfl ?_
      rintro v w11 ⟨rfl, hk11⟩
      have hl2 := textF_len (num := 7) (s := numberF 2 1) (by omega)
      have hk911 := hk10.trans hk11
      (repeat first | (apply wr_move; exact rfl; with_reducible (conv => enter [6, 3]; whnf)) | (apply wr_assign; exact rfl; with_reducible (conv => enter [6, 3]; whnf)) | apply wr_end | apply wc_region | (apply wr_add; (iterate 3 exact rfl); exact w_fit (by dsimp only [kIn]; first | done | omega)) | (apply wr_cat; (iterate 3 exact rfl); (first | omega | (simp only [List.length_append]; omega))) | (apply wr_nil; try simp only [thenE, inBlockE, bodyQ]))
      exact ⟨(i + 1, v2), by dsimp only; omega, ⟨by trivial, hlt, hk911.heap hb9 (fun h => h), own_keep ho9 hk911 (fun _ _ h => h), hkw9.trans hk911⟩, rfl, rfl, rfl, rfl, rfl, (by show S _ = S _; simp only [manyB, Bool.false_eq_true, if_false, listB_snoc, aa_bytes, List.append_assoc]), (by show Value.int .i64 _ = Value.int .i64 _; congr 1), trivial⟩
    · have he : i = k := by omega
      subst he
      have hs7 : PlS w7 (manyP false i) (.slice none 0 0) v := ⟨(PlS.zero w7).r, by have := SlR.of_own ho7; show SlR _ _ _ (List.replicate i aa).length _; rw [List.length_replicate]; exact this⟩
      (repeat first | (apply wr_move; exact rfl; with_reducible (conv => enter [6, 3]; whnf)) | apply wr_end | apply wc_seq | apply wc_region | (apply wr_cmp; (iterate 3 exact rfl); exact cmpF (by dsimp only [cmpN]; first | done | omega)) | (apply wc_false; exact rfl) | (apply wc_exit; try simp only [thenE, inBlockE, bodyQ, ↓reduceIte, Nat.reduceEqDiff]))
      refine wr_loadAll (cs := PlC (manyP false i) (.slice none 0 0) v) rfl rfl rfl hb7 rfl ?_
      refine wr_call (vs := [.int .i64 (manyK false i), PlV (manyP false i) (.slice none 0 0) v]) rfl (pPut_ca _ (manyP false i) (many_ok false hk71) (.slice none 0 0) v w7 hs7) rfl ?_
      rintro v w8 ⟨rfl, hk8⟩
      obtain ⟨t8, ok8, hv8, ht8⟩ : ∃ t b, putV (putP (manyK false i) (manyP false i)) = .tuple #[S t, .bool b] ∧ b = decide (i ≤ 64) ∧ (i ≤ 64 → t = manyB false i) := by
        rw [many_put]
        by_cases h : i ≤ 64
        · rw [if_pos h]; exact ⟨_, true, rfl, by simp [h], fun _ => rfl⟩
        · rw [if_neg h]; exact ⟨[], false, rfl, by simp [h], fun h' => absurd h' h⟩
      rw [hv8]
      (repeat first | (apply wr_move; exact rfl; with_reducible (conv => enter [6, 3]; whnf)) | (apply wr_assign; exact rfl; with_reducible (conv => enter [6, 3]; whnf)) | apply wr_end | apply wc_seq | apply wc_region | (apply wr_extract; (iterate 3 exact rfl); with_reducible (conv => enter [6, 3]; whnf)))
      refine wr_call (vs := [.int .i64 (manyK false i), S (manyB false i)]) rfl (pGet_ca _ _ (manyB_len false hk71) (hg.keep (hk7.trans hk8) (fun _ _ h => h))) rfl ?_
      rintro v w9 ⟨hgr, hk9⟩
      obtain ⟨Q, rq, aq, ok9, rfl, hsq, hQ⟩ : ∃ Q rq aq b, v = .tuple #[PlV Q rq aq, .bool b] ∧ PlS w9 Q rq aq ∧ b = decide (i ≤ 64) ∧ (i ≤ 64 → Q = manyP false i) := by
        obtain ⟨Q, rq, aq, b, rfl, hs, ⟨rfl, h1⟩ | ⟨rfl, h1, rfl⟩⟩ := hgr
        · rw [many_get false hk71] at h1
          split at h1
          · rename_i h; cases h1; exact ⟨_, rq, aq, true, rfl, hs, by simp [h], fun _ => rfl⟩
          · cases h1
        · rw [many_get false hk71] at h1
          split at h1
          · cases h1
          · rename_i h; exact ⟨_, rq, aq, false, rfl, hs, by simp [h], fun h' => absurd h' h⟩
      obtain ⟨e9, hQ⟩ := hQ
      obtain ⟨e8, ht8⟩ := ht8
      (repeat first | (apply wr_move; exact rfl; with_reducible (conv => enter [6, 3]; whnf)) | (apply wr_alloc; exact rfl) | (apply wr_extract; (iterate 3 exact rfl); with_reducible (conv => enter [6, 3]; whnf)))
      refine wr_storeAll (cs := PlC Q rq aq) rfl rfl rfl (PlC_one (slR_one hsq.r) (slR_one hsq.a)) (heap_alloc_same _ _) rfl rfl ?_
      obtain ⟨w10, hw10⟩ : ∃ w', w' = (w9.alloc (.cells (Value.agg PlZ.toArray).cells 26)).putObj w9.heap.size (.cells (PlC Q rq aq).toArray 26 (0, 0)) := ⟨_, rfl⟩
      have kw10 : Keeps NoB w9 w10 := by rw [hw10]; exact ((Keeps.refl NoB w9).alloc _).put _ (fun h => by omega)
      have bw10 : w10.heap[w9.heap.size]? = some (.cells (PlC Q rq aq).toArray 26 (0, 0)) := by rw [hw10]; exact World.putObj_heap_same (by simp)
      rw [← hw10]
      clear hw10
      obtain ⟨qb, eqb⟩ : ∃ b, b = w9.heap.size := ⟨_, rfl⟩
      rw [← eqb] at bw10 ⊢
      have hk710 := hk8.trans (hk9.trans kw10)
      have hb10 := hk710.heap hb7 (fun h => h)
      by_cases hk64 : i ≤ 64
      · rw [decide_eq_true hk64] at e8 e9
        have e1 := ht8 hk64
        have e2 := hQ hk64
        subst e8 e9 e1 e2
        (repeat first | (apply wr_move; exact rfl; with_reducible (conv => enter [6, 3]; whnf)) | (apply wr_assign; exact rfl; with_reducible (conv => enter [6, 3]; whnf)) | apply wr_end | apply wc_seq | apply wc_region | (apply wr_cmp; (iterate 3 exact rfl); exact cmpT (by dsimp only [cmpP]; first | done | omega)))
        refine wr_boolEq (c := true) rfl rfl rfl rfl ?_
        (repeat first | (apply wr_move; exact rfl; with_reducible (conv => enter [6, 3]; whnf)) | (apply wr_pick (t := true); (iterate 2 exact rfl); with_reducible (conv => enter [6, 3]; whnf)))
        refine wr_boolEq (c := true) rfl rfl rfl rfl ?_
        (repeat first | (apply wr_move; exact rfl; with_reducible (conv => enter [6, 3]; whnf)) | (apply wr_not; iterate 2 exact rfl) | (apply wr_pick (t := true); (iterate 2 exact rfl); with_reducible (conv => enter [6, 3]; whnf)) | (apply wr_streqc; (iterate 3 exact rfl); (first | exact decide_eq_true (by with_reducible assumption) | exact decide_eq_false (by with_reducible assumption) | exact decide_eq_true rfl | exact rfl)))
        refine wr_loadAll (cs := PlC (manyP false i) (.slice none 0 0) v) rfl rfl rfl hb10 rfl ?_
        refine wr_loadAll (cs := PlC (manyP false i) rq aq) rfl rfl rfl bw10 rfl ?_
        refine wr_call (vs := [PlV (manyP false i) (.slice none 0 0) v, PlV (manyP false i) rq aq]) rfl (same_ca (manyP false i) (manyP false i) ⟨by have := (many_lens false i).2 hk64; omega, by have := (many_lens false i).2 hk64; omega⟩ ⟨by have := (many_lens false i).2 hk64; omega, by have := (many_lens false i).2 hk64; omega⟩ (.slice none 0 0) v rq aq w10 (hs7.kin hk710) (hsq.kin kw10)) rfl ?_
        rintro v w11 ⟨rfl, hk11⟩
        rw [(sameB_iff (manyP false i) (manyP false i)).2 rfl]
        (repeat first | (apply wr_assign; exact rfl; with_reducible (conv => enter [6, 3]; whnf)) | apply wr_end | (apply wr_pick (t := true); (iterate 2 exact rfl); with_reducible (conv => enter [6, 3]; whnf)) | (apply wr_pick (t := false); (iterate 2 exact rfl); with_reducible (conv => enter [6, 3]; whnf)) | (apply wc_ret; try simp only [thenE, inBlockE, bodyQ]))
        exact leave1 (v := .bool true) rfl rfl ⟨rfl, hk7.trans (hk710.trans hk11)⟩
      · rw [decide_eq_false hk64] at e8 e9
        subst e8 e9
        (repeat first | (apply wr_move; exact rfl; with_reducible (conv => enter [6, 3]; whnf)) | (apply wr_assign; exact rfl; with_reducible (conv => enter [6, 3]; whnf)) | apply wr_end | apply wc_seq | apply wc_region | (apply wr_cmp; (iterate 3 exact rfl); exact cmpF (by dsimp only [cmpN]; first | done | omega)))
        refine wr_boolEq (c := true) rfl rfl rfl rfl ?_
        (repeat first | (apply wr_move; exact rfl; with_reducible (conv => enter [6, 3]; whnf)) | (apply wr_pick (t := true); (iterate 2 exact rfl); with_reducible (conv => enter [6, 3]; whnf)))
        refine wr_boolEq (c := true) rfl rfl rfl rfl ?_
        (repeat first | (apply wr_move; exact rfl; with_reducible (conv => enter [6, 3]; whnf)) | (apply wr_assign; exact rfl; with_reducible (conv => enter [6, 3]; whnf)) | apply wr_end | (apply wr_not; iterate 2 exact rfl) | (apply wr_pick (t := true); (iterate 2 exact rfl); with_reducible (conv => enter [6, 3]; whnf)) | (apply wc_ret; try simp only [thenE, inBlockE, bodyQ]) | (apply wr_skip; exact rfl))
        exact leave1 (v := .bool true) rfl rfl ⟨rfl, hk7.trans hk710⟩
end Go.Proofs.YthlbgeonobicbaaDoor
