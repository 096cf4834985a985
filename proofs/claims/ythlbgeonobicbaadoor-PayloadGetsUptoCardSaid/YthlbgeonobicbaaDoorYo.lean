/- norialaw02.PayloadRefs: the plain facts; what it does. -/
import Derived.Test.YthlbgeonobicbaaDoorMd
namespace Go.Proofs.YthlbgeonobicbaaDoor
open Go Go.V Go.RowKit
set_option linter.unusedVariables false
set_option linter.unusedSimpArgs false

theorem wordOf_ne (n : Nat) : wordOf n ≠ [] := by
  have h := wordOf_get n
  intro h0
  rw [h0] at h
  have := List.mem_of_getElem? h
  simp [wordL] at this
theorem wordOf_len (n : Nat) : (wordOf n).length ≤ 3 := by
  have h := List.mem_of_getElem? (wordOf_get n)
  simp [wordL] at h
  rcases h with h | h | h | h | h | h <;> rw [h] <;> decide
theorem refsAdd_nodup {l : List KeyD} {k : KeyD} (h : l.Nodup) : (refsAdd l k).Nodup := by
  unfold refsAdd
  split
  · rename_i hh
    rw [List.nodup_append]
    exact ⟨h, by simp, fun a ha b hb => by simp at hb; subst hb; rintro rfl; exact hh.2 ha⟩
  · exact h
theorem refsAdd_mem {l : List KeyD} {k x : KeyD} (h : x ∈ refsAdd l k) : x ∈ l ∨ x = k := by
  unfold refsAdd at h
  split at h
  · simpa using h
  · exact .inl h
theorem refsAdd_ge (l : List KeyD) (k : KeyD) : l.length ≤ (refsAdd l k).length := by
  unfold refsAdd; split <;> simp
theorem rfold : ∀ (rs : List RuleD) (l : List KeyD), l.Nodup → (rs.foldl (fun l r => refsAdd l (3, r.2)) l).Nodup ∧ l.length ≤ (rs.foldl (fun l r => refsAdd l (3, r.2)) l).length ∧ ∀ x ∈ rs.foldl (fun l r => refsAdd l (3, r.2)) l, x ∈ l ∨ x.1 = 3 ∧ ∃ r ∈ rs, r.2 = x.2
  | [], l, h => ⟨h, Nat.le_refl _, fun x hx => .inl hx⟩
  | r :: rs, l, h => by
    obtain ⟨h1, h2, h3⟩ := rfold rs (refsAdd l (3, r.2)) (refsAdd_nodup h)
    have h4 := refsAdd_ge l (3, r.2)
    refine ⟨h1, by simp only [List.foldl_cons]; omega, fun x hx => ?_⟩
    rcases h3 x hx with hx | ⟨hx, r', hr', e⟩
    · rcases refsAdd_mem hx with hx | rfl
      · exact .inl hx
      · exact .inr ⟨rfl, r, by simp, rfl⟩
    · exact .inr ⟨hx, r', by simp [hr'], e⟩
structure ROkP (kind : Int) (p : PL) (L : List KeyD) : Prop where
  nd : L.Nodup
  c1 : kind = 1 → L = [(2, p.route)]
  c2 : kind = 2 → 1 ≤ L.length ∧ L.length ≤ p.rules.length ∧ ∀ x ∈ L, x.1 = 3 ∧ ∃ r ∈ p.rules, r.2 = x.2
  c3 : kind = 3 → L = if p.secret = [] then [(4, p.name)] else [(4, p.name), (5, p.secret)]
  c4 : kind ≠ 1 → kind ≠ 2 → kind ≠ 3 → L = []
theorem refs_rok (kind : Int) (p : PL) (h1 : kind = 1 → p.route ≠ []) (h2 : kind = 2 → ∃ r rs, p.rules = r :: rs ∧ r.2 ≠ []) : ROkP kind p (refsP kind p) := by
  have c3 : refsAdd [(4, p.name)] (5, p.secret) = if p.secret = [] then [(4, p.name)] else [(4, p.name), (5, p.secret)] := by
    unfold refsAdd
    by_cases hs : p.secret = []
    · rw [if_pos hs, if_neg (fun h => h.1 hs)]
    · rw [if_neg hs, if_pos ⟨hs, by simp⟩]; rfl
  unfold refsP
  by_cases k1 : kind = 1
  · subst k1
    rw [if_pos rfl]
    have e : refsAdd [] (2, p.route) = [(2, p.route)] := if_pos ⟨h1 rfl, by simp⟩
    rw [e]
    exact ⟨by simp, fun _ => rfl, fun h => by omega, fun h => by omega, fun h => absurd rfl h⟩
  rw [if_neg k1]
  by_cases k2 : kind = 2
  · subst k2
    rw [if_pos rfl]
    obtain ⟨r, rs, e, hr⟩ := h2 rfl
    obtain ⟨q1, q2, q3⟩ := rfold p.rules [] (by simp)
    have q4 := refs_foldl_len p.rules []
    refine ⟨q1, fun h => by omega, fun _ => ⟨?_, by simpa using q4, fun x hx => ?_⟩, fun h => by omega, fun _ h => absurd rfl h⟩
    · rw [e, List.foldl_cons, show refsAdd [] (3, r.2) = [(3, r.2)] from if_pos ⟨hr, by simp⟩]
      exact (rfold rs [(3, r.2)] (by simp)).2.1
    · rcases q3 x hx with h | h
      · cases h
      · exact h
  rw [if_neg k2]
  by_cases k3 : kind = 3
  · subst k3
    rw [if_pos rfl]
    refine ⟨refsAdd_nodup (by simp), fun h => by omega, fun h => by omega, fun _ => c3, fun _ _ h => absurd rfl h⟩
  · rw [if_neg k3]
    exact ⟨by simp, fun h => absurd h k1, fun h => absurd h k2, fun h => absurd h k3, fun _ _ _ => rfl⟩
theorem made_own_rok (m : MD) (ho : m.own = true) : ROkP m.out.1 m.out.2 (refsP m.out.1 m.out.2) ∧ 1 ≤ m.out.1 ∧ m.out.1 ≤ 5 := by
  have hk : kOf m.kind < 5 := Nat.mod_lt _ (by decide)
  have e1 : m.out.1 = ((1 + kOf m.kind : Nat) : Int) := by unfold MD.out; rw [if_pos ho]
  have e2 : m.out.2 = madeOwn m := by unfold MD.out; rw [if_pos ho]
  refine ⟨refs_rok _ _ (fun h => ?_) (fun h => ?_), by omega, by omega⟩
  · have h0 : kOf m.kind = 0 := by omega
    rw [e2]; unfold madeOwn; simp only [h0]; exact wordOf_ne _
  · have h0 : kOf m.kind = 1 := by omega
    rw [e2]; unfold madeOwn; simp only [h0]
    refine ⟨madeRule m.many 0, (List.range (m.many % 3)).map (fun i => madeRule m.many (i + 1)), ?_, wordOf_ne _⟩
    rw [List.range_succ_eq_map, List.map_cons, List.map_map]; rfl
theorem madeOwn_ok (m : MD) (hm : m.ok) : (madeOwn m).ok := by
  have hw := wordOf_len
  have h3 : ∀ n, (wordOf n).length ≤ 3000000 := fun n => by have := hw n; omega
  unfold madeOwn
  split
  · exact ⟨h3 _, by simp only [bareP]; omega, h3 _, (fun _ h => nomatch h), (by simp only [bareP, List.length_nil] <;> omega), (by simp only [bareP, List.length_nil] <;> omega), (by simp only [bareP, List.length_nil] <;> omega), (fun _ h => nomatch h), (by simp only [bareP, List.length_nil] <;> omega), (by simp only [bareP, List.length_nil] <;> omega)⟩
  · exact ⟨h3 _, (by simp only [bareP, List.length_nil] <;> omega), (by simp only [bareP, List.length_nil] <;> omega), (fun r hr => by simp only [List.mem_map] at hr; obtain ⟨i, _, rfl⟩ := hr; exact ⟨by simp [madeRule], h3 _⟩), (by simp only [List.length_map, List.length_range]; omega), (by simp only [bareP, List.length_nil] <;> omega), (by simp only [bareP, List.length_nil] <;> omega), (fun _ h => nomatch h), (by simp only [bareP, List.length_nil] <;> omega), (by simp only [bareP, List.length_nil] <;> omega)⟩
  · refine ⟨h3 _, (by simp only [bareP, List.length_nil] <;> omega), (by simp only [bareP, List.length_nil] <;> omega), (fun _ h => nomatch h), (by simp only [bareP, List.length_nil] <;> omega), by simp only [bareP]; omega, ?_, (fun _ h => nomatch h), (by simp only [bareP, List.length_nil] <;> omega), (by simp only [bareP, List.length_nil] <;> omega)⟩
    simp only [bareP]; split; exact h3 _; decide
  · exact ⟨h3 _, (by simp only [bareP, List.length_nil] <;> omega), (by simp only [bareP, List.length_nil] <;> omega), (fun _ h => nomatch h), (by simp only [bareP, List.length_nil] <;> omega), (by simp only [bareP, List.length_nil] <;> omega), (by simp only [bareP, List.length_nil] <;> omega), (fun r hr => by simp only [List.mem_map] at hr; obtain ⟨i, hi, rfl⟩ := hr; have := List.mem_range.1 hi; exact ⟨h3 _, by simp only [madeAddr]; omega, by simp only [madeAddr]; omega⟩), (by simp only [List.length_map, List.length_range]; omega), (by simp only [bareP, List.length_nil] <;> omega)⟩
  · exact ⟨h3 _, (by simp only [bareP, List.length_nil] <;> omega), (by simp only [bareP, List.length_nil] <;> omega), (fun _ h => nomatch h), (by simp only [bareP, List.length_nil] <;> omega), (by simp only [bareP, List.length_nil] <;> omega), (by simp only [bareP, List.length_nil] <;> omega), (fun _ h => nomatch h), (by simp only [bareP, List.length_nil] <;> omega), by simp only [bareP, List.length_take]; omega⟩
theorem out_ok (m : MD) (hm : m.ok) : m.out.2.ok := by
  unfold MD.out; split; exact madeOwn_ok m hm; exact hm.p
set_option maxRecDepth 100000 in
set_option maxHeartbeats 4000000 in
theorem payloadRefs_ca (m : MD) (hm : m.ok) (rv av : Value) {p q : Addr} (w : World) (hs : PlS w m.p rv av) (hg : Glo w p q) :
    Ca Tryd.prog 4 #[MdV m rv av] w fun v w' => v = .bool true ∧ Keeps NoB w w' := by
  have hr1 := slR_one hs.r
  have ha1 := slR_one hs.a
  have hok2 : (MD.out { m with own := true }).2.ok := out_ok _ ⟨hm.p, hm.kind, hm.name, hm.many⟩
  obtain ⟨hrok, hK1, hK5⟩ := made_own_rok { m with own := true } rfl
  have hmade := fun (w : World) (hs : PlS w m.p rv av) => made_ca { m with own := true } ⟨hm.p, hm.kind, hm.name, hm.many⟩ rv av w hs
  obtain ⟨P, hP⟩ : ∃ P, P = (MD.out { m with own := true }).2 := ⟨_, rfl⟩
  obtain ⟨K, hK⟩ : ∃ K, K = (MD.out { m with own := true }).1 := ⟨_, rfl⟩
  rw [← hP, ← hK] at hrok
  rw [← hP] at hok2
  rw [← hK] at hK1 hK5
  simp only [← hP, ← hK] at hmade
  clear hP hK
  obtain ⟨mp, kind, own, name, many⟩ := m
  simp only at hmade hs
  refine ca_of_body (args := [MdV ⟨mp, kind, own, name, many⟩ rv av]) Tryd.func4 rfl (by kernel_rfl) ?_
  (repeat first | (apply wr_assign; exact rfl; with_reducible (conv => enter [6, 3]; whnf)) | apply wr_end | apply wc_seq | apply wc_region | (apply wr_box; iterate 2 exact rfl))
  refine wr_call (vs := []) rfl (examples_ca (hg.keep ((Keeps.refl NoB w).alloc _) (fun _ _ h => h))) rfl ?_
  rintro v w2 ⟨rfl, hk2⟩
  have hm2 : w2.heap[w.heap.size]? = some (.cells #[S mp.name, .int .u64 (mp.port : Int), S mp.route, rv, .int .u64 (mp.policy : Int), S mp.secret, av, S mp.key, .int .i64 kind, .bool own, .int .u8 (name : Int), .int .u8 (many : Int)] 28 (0, 0)) := hk2.heap (heap_alloc_same w (.cells (MdV ⟨mp, kind, own, name, many⟩ rv av).cells 28)) (fun h => h)
  have hkw2 : Keeps NoB w w2 := ((Keeps.refl NoB w).alloc _).trans hk2
  have hml := lt_of_heap hm2
  (repeat first | (apply wr_move; exact rfl; with_reducible (conv => enter [6, 3]; whnf)) | (apply wr_assign; exact rfl; with_reducible (conv => enter [6, 3]; whnf)) | apply wr_end | apply wc_seq | apply wc_region | apply wc_skip | (apply wr_fieldAddr; iterate 2 exact rfl) | (apply wr_not; iterate 2 exact rfl) | (apply wr_store; (iterate 3 exact rfl); (first | exact rfl | with_reducible assumption); (focus repeat first | with_reducible assumption | exact heap_alloc_same _ _ | exact World.putObj_heap_same (by first | omega | (simp only [World.size_alloc, World.putObj_size, ne_eq]; omega)) | ((first | refine hAl ?_ ?_ | refine hPu ?_ ?_); focus first | omega | (simp only [World.size_alloc, World.putObj_size, ne_eq]; omega))); exact rfl) | (apply wc_false; exact rfl))
  obtain ⟨w3, hw3⟩ : ∃ w3, w3 = w2.putObj w.heap.size (.cells ((#[S mp.name, .int .u64 (mp.port : Int), S mp.route, rv, .int .u64 (mp.policy : Int), S mp.secret, av, S mp.key, .int .i64 kind, .bool own, .int .u8 (name : Int), .int .u8 (many : Int)] : Array Value).setIfInBounds (0 + 9) (.bool true)) 28 (0, 0)) := ⟨_, rfl⟩
  have hkw3 : Keeps NoB w w3 := by rw [hw3]; exact hkw2.put _ (fun h => by omega)
  have hm3 : w3.heap[w.heap.size]? = some (.cells (MdC ⟨mp, kind, true, name, many⟩ rv av).toArray 28 (0, 0)) := by rw [hw3]; exact World.putObj_heap_same hml
  rw [← hw3]
  clear hw3 hk2 hm2 hml hkw2
  refine wr_loadAll (cs := MdC ⟨mp, kind, true, name, many⟩ rv av) rfl rfl rfl hm3 rfl ?_
  refine wr_call (vs := [MdV ⟨mp, kind, true, name, many⟩ rv av]) rfl (hmade w3 (hs.kin hkw3)) rfl ?_
  rintro v w4 ⟨rv', av', rfl, hs4, hk4⟩
  have hr4 := slR_one hs4.r
  have ha4 := slR_one hs4.a
  (repeat first | (apply wr_move; exact rfl; with_reducible (conv => enter [6, 3]; whnf)) | (apply wr_assign; exact rfl; with_reducible (conv => enter [6, 3]; whnf)) | (apply wr_alloc; exact rfl) | (apply wr_extract; (iterate 3 exact rfl); with_reducible (conv => enter [6, 3]; whnf)))
  refine wr_storeAll (cs := PlC P rv' av') rfl rfl rfl (PlC_one hr4 ha4) (heap_alloc_same _ _) rfl rfl ?_
  obtain ⟨w5, hw5⟩ : ∃ w5, w5 = (w4.alloc (.cells (Value.agg PlZ.toArray).cells 26)).putObj w4.heap.size (.cells (PlC P rv' av').toArray 26 (0, 0)) := ⟨_, rfl⟩
  have hk5 : Keeps NoB w4 w5 := by rw [hw5]; exact ((Keeps.refl NoB w4).alloc _).put _ (fun h => by omega)
  have hb5 : w5.heap[w4.heap.size]? = some (.cells (PlC P rv' av').toArray 26 (0, 0)) := by rw [hw5]; exact World.putObj_heap_same (by simp)
  rw [← hw5]
  clear hw5
  have hs5 := hs4.kin hk5
  generalize w4.heap.size = pb at hb5 ⊢
  (repeat first | (apply wr_move; exact rfl; with_reducible (conv => enter [6, 3]; whnf)) | apply wr_end | apply wc_seq | apply wc_region)
  refine wr_loadAll (cs := PlC P rv' av') rfl rfl rfl hb5 rfl ?_
  refine wr_call (vs := [.int .i64 K, PlV P rv' av']) rfl (refs_ca K P hok2 rv' av' w5 hs5) rfl ?_
  rintro v w6 ⟨hown, hk6⟩
  have hb6 := hk6.heap hb5 (fun h => h)
  have hs6 := hs5.kin hk6
  have hsl := SlR.of_own hown
  have hkw6 : Keeps NoB w w6 := hkw3.trans (hk4.trans (hk5.trans hk6))
  generalize refsP K P = L at hrok hsl
  clear hown hk6 hk5 hk4 hs5 hb5 hmade hm3 hkw3 hs hg hm hr1 ha1 hs4
  obtain ⟨ar, cr, rfl, hcr, hatr⟩ := hs6.r.shape
  obtain ⟨al, cl, rfl, hcl, hatl⟩ := hsl.shape
  have hrn := hok2.rulesN
  have hLn : L.length ≤ 3000001 := by
    by_cases h1 : K = 1
    · rw [hrok.c1 h1]; simp
    by_cases h2 : K = 2
    · have := (hrok.c2 h2).2.1; omega
    by_cases h3 : K = 3
    · rw [hrok.c3 h3]; split <;> simp
    · rw [hrok.c4 h1 h2 h3]; simp
  (repeat first | (apply wr_assign; exact rfl; with_reducible (conv => enter [6, 3]; whnf)) | apply wr_end | apply wc_seq | apply wc_region | apply wc_block)
  refine wc_loopL (α := Nat) (fun i => [(3, .bool true), (4, .int .i64 K), (5, .pointer (some ⟨pb, 0, none⟩)), (6, .slice al L.length cl), (7, .int .i64 (i : Int))])
    (fun i ds w' => ds = [] ∧ i ≤ L.length ∧ Keeps NoB w6 w') (fun i => L.length - i) 0 ⟨rfl, Nat.zero_le _, Keeps.refl _ _⟩ ⟨rfl, rfl, rfl, rfl, rfl, trivial⟩ ?_
  rintro i ds f0 w7 ⟨rfl, hi, hk7⟩
  by_cases hlt : i < L.length
  · obtain ⟨bl, ol, rfl, curl, el, frl, hbl, hrl⟩ := hatl (by omega)
    obtain ⟨⟨x1, x2⟩, hx⟩ : ∃ x, L[i]? = some x := ⟨L[i], by simp [hlt]⟩
    have hx1 : curl[ol + i * 2 + 0]? = some (.int .i64 x1) := cell_elem (j := 0) GK_len hrl hlt hx rfl
    have hx2 : curl[ol + i * 2 + 1]? = some (S x2) := cell_elem (j := 1) GK_len hrl hlt hx rfl
    (repeat first | (apply wr_move; exact rfl; with_reducible (conv => enter [6, 3]; whnf)) | (apply wr_assign; exact rfl; with_reducible (conv => enter [6, 3]; whnf)) | apply wr_end | apply wc_seq | apply wc_region | apply wc_skip | apply wc_block | (apply wr_len_slice; iterate 2 exact rfl) | (apply wr_cmp; (iterate 3 exact rfl); exact cmpT (by dsimp only [cmpP]; first | done | omega)) | (apply wc_true; exact rfl))
    refine wc_loopL (α := Nat) (fun k => [(3, .bool true), (4, .int .i64 K), (5, .pointer (some ⟨pb, 0, none⟩)), (6, .slice (some ⟨bl, ol, none⟩) L.length cl), (7, .int .i64 (i : Int)), (8, .int .i64 (k : Int))])
      (fun k ds w' => ds = [] ∧ k ≤ i ∧ Keeps NoB w6 w') (fun k => i - k) 0 ⟨rfl, Nat.zero_le _, hk7⟩ ⟨rfl, rfl, rfl, rfl, rfl, rfl, trivial⟩ ?_
    rintro k ds f1 w8 ⟨rfl, hki, hk8⟩
    by_cases hlk : k < i
    · obtain ⟨⟨y1, y2⟩, hy⟩ : ∃ y, L[k]? = some y := ⟨L[k]'(by omega), by simp [show k < L.length by omega]⟩
      have hne : (x1, x2) ≠ (y1, y2) := fun e => by
        rw [← e, ← hx] at hy
        have := (List.getElem?_inj hlt hrok.nd).1 hy.symm; omega
      have hbl8 := hk8.heap hbl (fun h => h)
      obtain ⟨cc, hcc⟩ : ∃ cc : Bool, cc = decide ((x1, x2) = (y1, y2)) := ⟨_, rfl⟩
      (repeat first | (apply wr_move; exact rfl; with_reducible (conv => enter [6, 3]; whnf)) | apply wr_end | apply wc_seq | apply wc_region | apply wc_skip | apply wc_block | (apply wr_cmp; (iterate 3 exact rfl); exact cmpT (by dsimp only [cmpP]; first | done | omega)) | (apply wc_true; exact rfl))
      refine wc_drawS (l := _) (S := fun w' => w' = w8.drew) (by kernel_rfl) (by kernel_rfl) rfl ?_
      apply ch_step
      focus
        intro w' hS
        subst hS
        apply wr_move; exact rfl; with_reducible (conv => enter [6, 3]; whnf)
        apply wr_nil
        exact ⟨rfl, rfl⟩
      apply ch_step
      focus
        intro w' hS
        subst hS
        apply wr_move; exact rfl; with_reducible (conv => enter [6, 3]; whnf)
        apply wr_nil
        exact ⟨rfl, rfl⟩
      apply ch_step
      focus
        intro w' hS
        subst hS
        refine wr_indexAddr (i := i) rfl rfl rfl hlt ?_
        apply wr_nil
        exact ⟨rfl, rfl⟩
      apply ch_step
      focus
        intro w' hS
        subst hS
        refine wr_loadElem (G := GK) (n := L.length) rfl rfl GK_len rfl hbl8 hrl hlt hx rfl ?_
        apply wr_nil
        exact ⟨rfl, rfl⟩
      apply ch_step
      focus
        intro w' hS
        subst hS
        apply wr_move; exact rfl; with_reducible (conv => enter [6, 3]; whnf)
        apply wr_nil
        exact ⟨rfl, rfl⟩
      apply ch_step
      focus
        intro w' hS
        subst hS
        apply wr_move; exact rfl; with_reducible (conv => enter [6, 3]; whnf)
        apply wr_nil
        exact ⟨rfl, rfl⟩
      apply ch_step
      focus
        intro w' hS
        subst hS
        refine wr_indexAddr (i := k) rfl rfl rfl (by omega) ?_
        apply wr_nil
        exact ⟨rfl, rfl⟩
      apply ch_step
      focus
        intro w' hS
        subst hS
        refine wr_loadElem (G := GK) (n := L.length) rfl rfl GK_len rfl hbl8 hrl (by omega) hy rfl ?_
        apply wr_nil
        exact ⟨rfl, rfl⟩
      apply ch_step
      focus
        intro w' hS
        subst hS
        refine wr_structEq (c := cc) rfl rfl rfl key_stood key_guard (key_eqOk (x1, x2) (y1, y2) _) (by rw [hcc]; simp [List.all_cons, Prod.mk.injEq, Bool.decide_and]) ?_
        apply wr_nil
        exact ⟨rfl, rfl⟩
      refine ch_nil ?_
      intro w' hS
      subst hS
      rw [decide_eq_false hne] at hcc
      subst hcc
      (repeat first | (apply wr_move; exact rfl; with_reducible (conv => enter [6, 3]; whnf)) | (apply wr_assign; exact rfl; with_reducible (conv => enter [6, 3]; whnf)) | apply wr_end | apply wc_region | apply wc_skip | (apply wr_add; (iterate 3 exact rfl); exact w_fit (by dsimp only [kIn]; first | done | omega)) | (apply wc_false; exact rfl))
      exact ⟨k + 1, by omega, ⟨by trivial, hlk, hk8.drew⟩, rfl, rfl, rfl, rfl, rfl, by simp, trivial⟩
    · have he : k = i := by omega
      subst he
      (repeat first | (apply wr_move; exact rfl; with_reducible (conv => enter [6, 3]; whnf)) | (apply wr_assign; exact rfl; with_reducible (conv => enter [6, 3]; whnf)) | apply wr_end | apply wc_seq | apply wc_region | apply wc_block | (apply wr_cmp; (iterate 3 exact rfl); exact cmpF (by dsimp only [cmpN]; first | done | omega)) | (apply wc_false; exact rfl) | (apply wc_exit; try simp only [thenE, inBlockE, bodyQ, ↓reduceIte, Nat.reduceEqDiff]))
      refine wc_loopL (α := Nat) (fun j => [(3, .bool true), (4, .int .i64 K), (5, .pointer (some ⟨pb, 0, none⟩)), (6, .slice (some ⟨bl, ol, none⟩) L.length cl), (7, .int .i64 (k : Int)), (9, .bool (decide (x2 ∈ (P.rules.take j).map Prod.snd))), (10, .int .i64 (j : Int))])
        (fun j ds w' => ds = [] ∧ j ≤ P.rules.length ∧ Keeps NoB w6 w') (fun j => P.rules.length - j) 0 ⟨rfl, Nat.zero_le _, hk8⟩ ⟨rfl, rfl, rfl, rfl, rfl, by show Value.bool _ = _; simp, rfl, trivial⟩ ?_
      rintro j ds f2 w9 ⟨rfl, hj, hk9⟩
      have hb9 := hk9.heap hb6 (fun h => h)
      have hbl9 := hk9.heap hbl (fun h => h)
      by_cases hlj : j < P.rules.length
      · obtain ⟨br, or_, rfl, curr, er, frr, hbr, hrr⟩ := hatr (by omega)
        have hbr9 := hk9.heap hbr (fun h => h)
        obtain ⟨⟨r1, r2⟩, hr⟩ : ∃ r, P.rules[j]? = some r := ⟨P.rules[j], by simp [hlj]⟩
        have hr2 : curr[or_ + j * 2 + 1]? = some (S r2) := cell_elem (j := 1) (g := GR) (fun _ => rfl) hrr hlj hr rfl
        have hnx : decide (x2 ∈ (P.rules.take (j + 1)).map Prod.snd) = (decide (x2 ∈ (P.rules.take j).map Prod.snd) || decide (r2 = x2)) := by
          rw [List.take_add_one, hr]
          rw [Bool.eq_iff_iff]
          simp only [Option.toList_some, List.map_append, List.map_cons, List.map_nil, List.mem_append, List.mem_singleton, decide_eq_true_eq, Bool.or_eq_true]
          exact or_congr Iff.rfl eq_comm
        obtain ⟨nb, hnb⟩ : ∃ nb, nb = decide (x2 ∈ (P.rules.take j).map Prod.snd) := ⟨_, rfl⟩
        rw [← hnb] at hnx ⊢
        (repeat first | (apply wr_move; exact rfl; with_reducible (conv => enter [6, 3]; whnf)) | apply wr_end | apply wc_seq | apply wc_region | apply wc_skip | apply wc_block | (apply wr_fieldAddr; iterate 2 exact rfl) | (apply wr_len_slice; iterate 2 exact rfl) | (apply wr_load; (iterate 3 exact rfl); (focus repeat first | with_reducible assumption | exact heap_alloc_same _ _ | exact World.putObj_heap_same (by first | omega | (simp only [World.size_alloc, World.putObj_size, ne_eq]; omega)) | ((first | refine hAl ?_ ?_ | refine hPu ?_ ?_); focus first | omega | (simp only [World.size_alloc, World.putObj_size, ne_eq]; omega))); exact rfl; conv => enter [6, 3]; whnf) | (apply wr_cmp; (iterate 3 exact rfl); exact cmpT (by dsimp only [cmpP]; first | done | omega)) | (apply wc_true; exact rfl))
        refine wc_drawS (l := _) (S := fun w' => w' = w9.drew) (by kernel_rfl) (by kernel_rfl) rfl ?_
        cases nb with
        | true =>
          repeat
            apply ch_step
            focus
              intro w' hS
              subst hS
              (repeat first | (apply wr_move; exact rfl; with_reducible (conv => enter [6, 3]; whnf)) | (apply wr_assign; exact rfl; with_reducible (conv => enter [6, 3]; whnf)) | (apply wr_pick (t := true); (iterate 2 exact rfl); with_reducible (conv => enter [6, 3]; whnf)) | (apply wr_nil; try simp only [thenE, inBlockE, bodyQ]) | (apply wr_skip; exact rfl))
              exact ⟨rfl, by trivial⟩
          refine ch_nil ?_
          intro w' hS
          subst hS
          (repeat first | (apply wr_move; exact rfl; with_reducible (conv => enter [6, 3]; whnf)) | (apply wr_assign; exact rfl; with_reducible (conv => enter [6, 3]; whnf)) | apply wr_end | apply wc_region | (apply wr_add; (iterate 3 exact rfl); exact w_fit (by dsimp only [kIn]; first | done | omega)))
          exact ⟨j + 1, by omega, ⟨by trivial, hlj, hk9.drew⟩, rfl, rfl, rfl, rfl, rfl, by rw [hnx]; rfl, by simp, trivial⟩
        | false =>
          apply ch_step
          focus
            intro w' hS
            subst hS
            apply wr_move; exact rfl; with_reducible (conv => enter [6, 3]; whnf)
            apply wr_nil
            exact ⟨rfl, rfl⟩
          apply ch_step
          focus
            intro w' hS
            subst hS
            apply wr_move; exact rfl; with_reducible (conv => enter [6, 3]; whnf)
            apply wr_nil
            exact ⟨rfl, rfl⟩
          apply ch_step
          focus
            intro w' hS
            subst hS
            (repeat first | (apply wr_fieldAddr; iterate 2 exact rfl) | (apply wr_nil; try simp only [thenE, inBlockE, bodyQ]))
            exact ⟨rfl, by trivial⟩
          apply ch_step
          focus
            intro w' hS
            subst hS
            refine wr_load (v := .slice (some ⟨br, or_, none⟩) P.rules.length cr) rfl rfl rfl hb9 rfl ?_
            apply wr_nil
            exact ⟨rfl, rfl⟩
          apply ch_step
          focus
            intro w' hS
            subst hS
            apply wr_move; exact rfl; with_reducible (conv => enter [6, 3]; whnf)
            apply wr_nil
            exact ⟨rfl, rfl⟩
          apply ch_step
          focus
            intro w' hS
            subst hS
            refine wr_indexAddr (i := j) rfl rfl rfl hlj ?_
            apply wr_nil
            exact ⟨rfl, rfl⟩
          apply ch_step
          focus
            intro w' hS
            subst hS
            refine wr_fieldAddr rfl rfl ?_
            apply wr_nil
            exact ⟨rfl, rfl⟩
          apply ch_step
          focus
            intro w' hS
            subst hS
            refine wr_load (v := S r2) rfl rfl rfl hbr9 hr2 ?_
            apply wr_nil
            exact ⟨rfl, rfl⟩
          apply ch_step
          focus
            intro w' hS
            subst hS
            apply wr_move; exact rfl; with_reducible (conv => enter [6, 3]; whnf)
            apply wr_nil
            exact ⟨rfl, rfl⟩
          apply ch_step
          focus
            intro w' hS
            subst hS
            apply wr_move; exact rfl; with_reducible (conv => enter [6, 3]; whnf)
            apply wr_nil
            exact ⟨rfl, rfl⟩
          apply ch_step
          focus
            intro w' hS
            subst hS
            refine wr_indexAddr (i := k) rfl rfl rfl hlt ?_
            apply wr_nil
            exact ⟨rfl, rfl⟩
          apply ch_step
          focus
            intro w' hS
            subst hS
            refine wr_fieldAddr rfl rfl ?_
            apply wr_nil
            exact ⟨rfl, rfl⟩
          apply ch_step
          focus
            intro w' hS
            subst hS
            refine wr_load (v := S x2) rfl rfl rfl hbl9 hx2 ?_
            apply wr_nil
            exact ⟨rfl, rfl⟩
          apply ch_step
          focus
            intro w' hS
            subst hS
            refine wr_streqc (c := decide (r2 = x2)) rfl rfl rfl rfl ?_
            apply wr_nil
            exact ⟨rfl, rfl⟩
          apply ch_step
          focus
            intro w' hS
            subst hS
            (repeat first | (apply wr_pick (t := false); (iterate 2 exact rfl); with_reducible (conv => enter [6, 3]; whnf)) | (apply wr_nil; try simp only [thenE, inBlockE, bodyQ]))
            exact ⟨rfl, by trivial⟩
          apply ch_step
          focus
            intro w' hS
            subst hS
            apply wr_assign; exact rfl; with_reducible (conv => enter [6, 3]; whnf)
            apply wr_nil
            exact ⟨rfl, rfl⟩
          refine ch_nil ?_
          intro w' hS
          subst hS
          (repeat first | (apply wr_move; exact rfl; with_reducible (conv => enter [6, 3]; whnf)) | (apply wr_assign; exact rfl; with_reducible (conv => enter [6, 3]; whnf)) | apply wr_end | apply wc_region | (apply wr_add; (iterate 3 exact rfl); exact w_fit (by dsimp only [kIn]; first | done | omega)))
          exact ⟨j + 1, by omega, ⟨by trivial, hlj, hk9.drew⟩, rfl, rfl, rfl, rfl, rfl, by rw [hnx]; rfl, by simp, trivial⟩
      · have he : j = P.rules.length := by omega
        subst he
        rw [List.take_length]
        obtain ⟨nb, hnb⟩ : ∃ nb, nb = decide (x2 ∈ P.rules.map Prod.snd) := ⟨_, rfl⟩
        rw [← hnb]
        (repeat first | (apply wr_move; exact rfl; with_reducible (conv => enter [6, 3]; whnf)) | apply wr_end | apply wc_seq | apply wc_region | (apply wr_fieldAddr; iterate 2 exact rfl) | (apply wr_len_slice; iterate 2 exact rfl) | (apply wr_load; (iterate 3 exact rfl); (focus repeat first | with_reducible assumption | exact heap_alloc_same _ _ | exact World.putObj_heap_same (by first | omega | (simp only [World.size_alloc, World.putObj_size, ne_eq]; omega)) | ((first | refine hAl ?_ ?_ | refine hPu ?_ ?_); focus first | omega | (simp only [World.size_alloc, World.putObj_size, ne_eq]; omega))); exact rfl; conv => enter [6, 3]; whnf) | (apply wr_cmp; (iterate 3 exact rfl); exact cmpF (by dsimp only [cmpN]; first | done | omega)) | (apply wc_false; exact rfl) | (apply wc_exit; try simp only [thenE, inBlockE, bodyQ, ↓reduceIte, Nat.reduceEqDiff]))
        refine wc_drawS (l := _) (S := fun w' => w' = w9.drew) (by kernel_rfl) (by kernel_rfl) rfl ?_
        have h123 : K = 1 ∨ K = 2 ∨ K = 3 := by
          by_cases h1 : K = 1
          · exact .inl h1
          by_cases h2 : K = 2
          · exact .inr (.inl h2)
          by_cases h3 : K = 3
          · exact .inr (.inr h3)
          · rw [hrok.c4 h1 h2 h3] at hlt; exact absurd hlt (Nat.not_lt_zero _)
        rcases h123 with hK | hK | hK
        · have hL := hrok.c1 hK
          rw [hL] at hx
          have hk0 : k = 0 := by
            have := (List.getElem?_eq_some_iff.1 hx).1
            simp at this; exact this
          have e1 : x1 = 2 ∧ x2 = P.route := by
            rw [hk0] at hx
            simp at hx
            exact ⟨hx.1.symm, hx.2.symm⟩
          obtain ⟨e1, e2⟩ := e1
          subst hK e1
          repeat
            apply ch_step
            focus
              intro w' hS
              subst hS
              first
                | (refine wr_indexAddr (i := k) rfl rfl rfl hlt ?_; apply wr_nil; exact ⟨rfl, rfl⟩)
                | (refine wr_load (v := S P.route) rfl rfl rfl hb9 rfl ?_; apply wr_nil; exact ⟨rfl, rfl⟩)
                | (refine wr_load (v := S P.name) rfl rfl rfl hb9 rfl ?_; apply wr_nil; exact ⟨rfl, rfl⟩)
                | (refine wr_load (v := S P.secret) rfl rfl rfl hb9 rfl ?_; apply wr_nil; exact ⟨rfl, rfl⟩)
                | (refine wr_load rfl rfl rfl hbl9 hx1 ?_; apply wr_nil; exact ⟨rfl, rfl⟩)
                | (refine wr_load rfl rfl rfl hbl9 hx2 ?_; apply wr_nil; exact ⟨rfl, rfl⟩)
                | ((repeat first | (apply wr_move; exact rfl; with_reducible (conv => enter [6, 3]; whnf)) | (apply wr_fieldAddr; iterate 2 exact rfl) | (apply wr_cmp; (iterate 3 exact rfl); exact cmpT (by dsimp only [cmpP]; first | done | omega)) | (apply wr_cmp; (iterate 3 exact rfl); exact cmpF (by dsimp only [cmpN]; first | done | omega)) | (apply wr_pick (t := true); (iterate 2 exact rfl); with_reducible (conv => enter [6, 3]; whnf)) | (apply wr_pick (t := false); (iterate 2 exact rfl); with_reducible (conv => enter [6, 3]; whnf)) | (apply wr_strnec; (iterate 3 exact rfl); (first | exact decide_eq_true (by with_reducible assumption) | exact decide_eq_false (by with_reducible assumption) | exact decide_eq_true rfl | exact rfl); with_reducible (conv => enter [6, 3]; whnf)) | (apply wr_nil; try simp only [thenE, inBlockE, bodyQ]) | (apply wr_skip; exact rfl)); exact ⟨rfl, by trivial⟩)
          refine ch_nil ?_
          intro w' hS
          subst hS
          (repeat first | (apply wr_move; exact rfl; with_reducible (conv => enter [6, 3]; whnf)) | (apply wr_assign; exact rfl; with_reducible (conv => enter [6, 3]; whnf)) | apply wr_end | apply wc_region | apply wc_skip | (apply wr_add; (iterate 3 exact rfl); exact w_fit (by dsimp only [kIn]; first | done | omega)) | (apply wc_false; exact rfl))
          exact ⟨k + 1, by omega, ⟨by trivial, hlt, hk9.drew⟩, rfl, rfl, rfl, rfl, by simp, trivial⟩
        · obtain ⟨_, _, c2⟩ := hrok.c2 hK
          obtain ⟨e1, r, hrm, hr2⟩ := c2 _ (List.mem_of_getElem? hx)
          simp only at e1 hr2
          have hnt : nb = true := by rw [hnb]; exact decide_eq_true (List.mem_map.2 ⟨r, hrm, hr2⟩)
          clear hnb
          subst hnt hK e1
          repeat
            apply ch_step
            focus
              intro w' hS
              subst hS
              first
                | (refine wr_indexAddr (i := k) rfl rfl rfl hlt ?_; apply wr_nil; exact ⟨rfl, rfl⟩)
                | (refine wr_load (v := S P.route) rfl rfl rfl hb9 rfl ?_; apply wr_nil; exact ⟨rfl, rfl⟩)
                | (refine wr_load (v := S P.name) rfl rfl rfl hb9 rfl ?_; apply wr_nil; exact ⟨rfl, rfl⟩)
                | (refine wr_load (v := S P.secret) rfl rfl rfl hb9 rfl ?_; apply wr_nil; exact ⟨rfl, rfl⟩)
                | (refine wr_load rfl rfl rfl hbl9 hx1 ?_; apply wr_nil; exact ⟨rfl, rfl⟩)
                | (refine wr_load rfl rfl rfl hbl9 hx2 ?_; apply wr_nil; exact ⟨rfl, rfl⟩)
                | ((repeat first | (apply wr_move; exact rfl; with_reducible (conv => enter [6, 3]; whnf)) | (apply wr_fieldAddr; iterate 2 exact rfl) | (apply wr_not; iterate 2 exact rfl) | (apply wr_cmp; (iterate 3 exact rfl); exact cmpT (by dsimp only [cmpP]; first | done | omega)) | (apply wr_cmp; (iterate 3 exact rfl); exact cmpF (by dsimp only [cmpN]; first | done | omega)) | (apply wr_pick (t := true); (iterate 2 exact rfl); with_reducible (conv => enter [6, 3]; whnf)) | (apply wr_pick (t := false); (iterate 2 exact rfl); with_reducible (conv => enter [6, 3]; whnf)) | (apply wr_nil; try simp only [thenE, inBlockE, bodyQ]) | (apply wr_skip; exact rfl)); exact ⟨rfl, by trivial⟩)
          refine ch_nil ?_
          intro w' hS
          subst hS
          (repeat first | (apply wr_move; exact rfl; with_reducible (conv => enter [6, 3]; whnf)) | (apply wr_assign; exact rfl; with_reducible (conv => enter [6, 3]; whnf)) | apply wr_end | apply wc_region | apply wc_skip | (apply wr_add; (iterate 3 exact rfl); exact w_fit (by dsimp only [kIn]; first | done | omega)) | (apply wc_false; exact rfl))
          exact ⟨k + 1, by omega, ⟨by trivial, hlt, hk9.drew⟩, rfl, rfl, rfl, rfl, by simp, trivial⟩
        · have hL := hrok.c3 hK
          have hkk : k = 0 ∧ x2 = P.name ∨ k = 1 ∧ x2 = P.secret := by
            rw [hL] at hx
            split at hx
            · have := (List.getElem?_eq_some_iff.1 hx).1
              have hk0 : k = 0 := by simp at this; exact this
              rw [hk0] at hx
              simp at hx
              exact .inl ⟨hk0, hx.2.symm⟩
            · have := (List.getElem?_eq_some_iff.1 hx).1
              simp at this
              have hk0 : k = 0 ∨ k = 1 := by omega
              rcases hk0 with hk0 | hk0
              · rw [hk0] at hx
                simp at hx
                exact .inl ⟨hk0, hx.2.symm⟩
              · rw [hk0] at hx
                simp at hx
                exact .inr ⟨hk0, hx.2.symm⟩
          subst hK
          rcases hkk with ⟨hk0, e2⟩ | ⟨hk0, e2⟩
          · skip
            repeat
              apply ch_step
              focus
                intro w' hS
                subst hS
                first
                  | (refine wr_indexAddr (i := k) rfl rfl rfl hlt ?_; apply wr_nil; exact ⟨rfl, rfl⟩)
                  | (refine wr_load (v := S P.route) rfl rfl rfl hb9 rfl ?_; apply wr_nil; exact ⟨rfl, rfl⟩)
                  | (refine wr_load (v := S P.name) rfl rfl rfl hb9 rfl ?_; apply wr_nil; exact ⟨rfl, rfl⟩)
                  | (refine wr_load (v := S P.secret) rfl rfl rfl hb9 rfl ?_; apply wr_nil; exact ⟨rfl, rfl⟩)
                  | (refine wr_load rfl rfl rfl hbl9 hx1 ?_; apply wr_nil; exact ⟨rfl, rfl⟩)
                  | (refine wr_load rfl rfl rfl hbl9 hx2 ?_; apply wr_nil; exact ⟨rfl, rfl⟩)
                  | ((repeat first | (apply wr_move; exact rfl; with_reducible (conv => enter [6, 3]; whnf)) | (apply wr_fieldAddr; iterate 2 exact rfl) | (apply wr_cmp; (iterate 3 exact rfl); exact cmpT (by dsimp only [cmpP]; first | done | omega)) | (apply wr_cmp; (iterate 3 exact rfl); exact cmpF (by dsimp only [cmpN]; first | done | omega)) | (apply wr_pick (t := true); (iterate 2 exact rfl); with_reducible (conv => enter [6, 3]; whnf)) | (apply wr_pick (t := false); (iterate 2 exact rfl); with_reducible (conv => enter [6, 3]; whnf)) | (apply wr_strnec; (iterate 3 exact rfl); (first | exact decide_eq_true (by with_reducible assumption) | exact decide_eq_false (by with_reducible assumption) | exact decide_eq_true rfl | exact rfl); with_reducible (conv => enter [6, 3]; whnf)) | (apply wr_nil; try simp only [thenE, inBlockE, bodyQ]) | (apply wr_skip; exact rfl)); exact ⟨rfl, by trivial⟩)
            refine ch_nil ?_
            intro w' hS
            subst hS
            (repeat first | (apply wr_move; exact rfl; with_reducible (conv => enter [6, 3]; whnf)) | (apply wr_assign; exact rfl; with_reducible (conv => enter [6, 3]; whnf)) | apply wr_end | apply wc_region | apply wc_skip | (apply wr_add; (iterate 3 exact rfl); exact w_fit (by dsimp only [kIn]; first | done | omega)) | (apply wc_false; exact rfl))
            exact ⟨k + 1, by omega, ⟨by trivial, hlt, hk9.drew⟩, rfl, rfl, rfl, rfl, by simp, trivial⟩
          · skip
            repeat
              apply ch_step
              focus
                intro w' hS
                subst hS
                first
                  | (refine wr_indexAddr (i := k) rfl rfl rfl hlt ?_; apply wr_nil; exact ⟨rfl, rfl⟩)
                  | (refine wr_load (v := S P.route) rfl rfl rfl hb9 rfl ?_; apply wr_nil; exact ⟨rfl, rfl⟩)
                  | (refine wr_load (v := S P.name) rfl rfl rfl hb9 rfl ?_; apply wr_nil; exact ⟨rfl, rfl⟩)
                  | (refine wr_load (v := S P.secret) rfl rfl rfl hb9 rfl ?_; apply wr_nil; exact ⟨rfl, rfl⟩)
                  | (refine wr_load rfl rfl rfl hbl9 hx1 ?_; apply wr_nil; exact ⟨rfl, rfl⟩)
                  | (refine wr_load rfl rfl rfl hbl9 hx2 ?_; apply wr_nil; exact ⟨rfl, rfl⟩)
                  | ((repeat first | (apply wr_move; exact rfl; with_reducible (conv => enter [6, 3]; whnf)) | (apply wr_fieldAddr; iterate 2 exact rfl) | (apply wr_cmp; (iterate 3 exact rfl); exact cmpT (by dsimp only [cmpP]; first | done | omega)) | (apply wr_cmp; (iterate 3 exact rfl); exact cmpF (by dsimp only [cmpN]; first | done | omega)) | (apply wr_pick (t := true); (iterate 2 exact rfl); with_reducible (conv => enter [6, 3]; whnf)) | (apply wr_pick (t := false); (iterate 2 exact rfl); with_reducible (conv => enter [6, 3]; whnf)) | (apply wr_strnec; (iterate 3 exact rfl); (first | exact decide_eq_true (by with_reducible assumption) | exact decide_eq_false (by with_reducible assumption) | exact decide_eq_true rfl | exact rfl); with_reducible (conv => enter [6, 3]; whnf)) | (apply wr_nil; try simp only [thenE, inBlockE, bodyQ]) | (apply wr_skip; exact rfl)); exact ⟨rfl, by trivial⟩)
            refine ch_nil ?_
            intro w' hS
            subst hS
            (repeat first | (apply wr_move; exact rfl; with_reducible (conv => enter [6, 3]; whnf)) | (apply wr_assign; exact rfl; with_reducible (conv => enter [6, 3]; whnf)) | apply wr_end | apply wc_region | apply wc_skip | (apply wr_add; (iterate 3 exact rfl); exact w_fit (by dsimp only [kIn]; first | done | omega)) | (apply wc_false; exact rfl))
            exact ⟨k + 1, by omega, ⟨by trivial, hlt, hk9.drew⟩, rfl, rfl, rfl, rfl, by simp, trivial⟩
  · have he : i = L.length := by omega
    subst he
    have hb7 := hk7.heap hb6 (fun h => h)
    have hkw7 := hkw6.trans hk7
    have hcs : K = 1 ∨ K = 2 ∨ K = 3 ∨ K = 4 ∨ K = 5 := by omega
    rcases hcs with hK | hK | hK | hK | hK
    · have hl : L.length = 1 := by rw [hrok.c1 hK]; rfl
      subst hK
      by_cases h0 : P.secret = []
      · (repeat first | (apply wr_move; exact rfl; with_reducible (conv => enter [6, 3]; whnf)) | (apply wr_assign; exact rfl; with_reducible (conv => enter [6, 3]; whnf)) | apply wr_end | apply wc_seq | apply wc_region | apply wc_skip | apply wc_block | (apply wr_fieldAddr; iterate 2 exact rfl) | (apply wr_len_slice; iterate 2 exact rfl) | (apply wr_load; (iterate 3 exact rfl); (focus repeat first | with_reducible assumption | exact heap_alloc_same _ _ | exact World.putObj_heap_same (by first | omega | (simp only [World.size_alloc, World.putObj_size, ne_eq]; omega)) | ((first | refine hAl ?_ ?_ | refine hPu ?_ ?_); focus first | omega | (simp only [World.size_alloc, World.putObj_size, ne_eq]; omega))); exact rfl; conv => enter [6, 3]; whnf) | (apply wr_cmp; (iterate 3 exact rfl); exact cmpT (by dsimp only [cmpP]; first | done | omega)) | (apply wr_cmp; (iterate 3 exact rfl); exact cmpF (by dsimp only [cmpN]; first | done | omega)) | (apply wr_pick (t := true); (iterate 2 exact rfl); with_reducible (conv => enter [6, 3]; whnf)) | (apply wr_strnec; (iterate 3 exact rfl); (first | exact decide_eq_true (by with_reducible assumption) | exact decide_eq_false (by with_reducible assumption) | exact decide_eq_true rfl | exact rfl); with_reducible (conv => enter [6, 3]; whnf)) | (apply wc_true; exact rfl) | (apply wc_false; exact rfl) | (apply wc_exit; try simp only [thenE, inBlockE, bodyQ, ↓reduceIte, Nat.reduceEqDiff]) | (apply wc_ret; try simp only [thenE, inBlockE, bodyQ]))
        exact leave1 (v := .bool true) rfl rfl ⟨rfl, hkw7⟩
      · (repeat first | (apply wr_move; exact rfl; with_reducible (conv => enter [6, 3]; whnf)) | (apply wr_assign; exact rfl; with_reducible (conv => enter [6, 3]; whnf)) | apply wr_end | apply wc_seq | apply wc_region | apply wc_block | (apply wr_fieldAddr; iterate 2 exact rfl) | (apply wr_len_slice; iterate 2 exact rfl) | (apply wr_load; (iterate 3 exact rfl); (focus repeat first | with_reducible assumption | exact heap_alloc_same _ _ | exact World.putObj_heap_same (by first | omega | (simp only [World.size_alloc, World.putObj_size, ne_eq]; omega)) | ((first | refine hAl ?_ ?_ | refine hPu ?_ ?_); focus first | omega | (simp only [World.size_alloc, World.putObj_size, ne_eq]; omega))); exact rfl; conv => enter [6, 3]; whnf) | (apply wr_cmp; (iterate 3 exact rfl); exact cmpT (by dsimp only [cmpP]; first | done | omega)) | (apply wr_cmp; (iterate 3 exact rfl); exact cmpF (by dsimp only [cmpN]; first | done | omega)) | (apply wr_pick (t := true); (iterate 2 exact rfl); with_reducible (conv => enter [6, 3]; whnf)) | (apply wr_strnec; (iterate 3 exact rfl); (first | exact decide_eq_true (by with_reducible assumption) | exact decide_eq_false (by with_reducible assumption) | exact decide_eq_true rfl | exact rfl); with_reducible (conv => enter [6, 3]; whnf)) | (apply wc_true; exact rfl) | (apply wc_false; exact rfl) | (apply wc_exit; try simp only [thenE, inBlockE, bodyQ, ↓reduceIte, Nat.reduceEqDiff]) | (apply wc_ret; try simp only [thenE, inBlockE, bodyQ]))
        exact leave1 (v := .bool true) rfl rfl ⟨rfl, hkw7⟩
    · obtain ⟨hl1, hl2, _⟩ := hrok.c2 hK
      subst hK
      by_cases h0 : P.secret = []
      · (repeat first | (apply wr_move; exact rfl; with_reducible (conv => enter [6, 3]; whnf)) | (apply wr_assign; exact rfl; with_reducible (conv => enter [6, 3]; whnf)) | apply wr_end | apply wc_seq | apply wc_region | apply wc_skip | apply wc_block | (apply wr_fieldAddr; iterate 2 exact rfl) | (apply wr_len_slice; iterate 2 exact rfl) | (apply wr_load; (iterate 3 exact rfl); (focus repeat first | with_reducible assumption | exact heap_alloc_same _ _ | exact World.putObj_heap_same (by first | omega | (simp only [World.size_alloc, World.putObj_size, ne_eq]; omega)) | ((first | refine hAl ?_ ?_ | refine hPu ?_ ?_); focus first | omega | (simp only [World.size_alloc, World.putObj_size, ne_eq]; omega))); exact rfl; conv => enter [6, 3]; whnf) | (apply wr_cmp; (iterate 3 exact rfl); exact cmpT (by dsimp only [cmpP]; first | done | omega)) | (apply wr_cmp; (iterate 3 exact rfl); exact cmpF (by dsimp only [cmpN]; first | done | omega)) | (apply wr_pick (t := true); (iterate 2 exact rfl); with_reducible (conv => enter [6, 3]; whnf)) | (apply wr_strnec; (iterate 3 exact rfl); (first | exact decide_eq_true (by with_reducible assumption) | exact decide_eq_false (by with_reducible assumption) | exact decide_eq_true rfl | exact rfl); with_reducible (conv => enter [6, 3]; whnf)) | (apply wc_true; exact rfl) | (apply wc_false; exact rfl) | (apply wc_exit; try simp only [thenE, inBlockE, bodyQ, ↓reduceIte, Nat.reduceEqDiff]) | (apply wc_ret; try simp only [thenE, inBlockE, bodyQ]))
        exact leave1 (v := .bool true) rfl rfl ⟨rfl, hkw7⟩
      · (repeat first | (apply wr_move; exact rfl; with_reducible (conv => enter [6, 3]; whnf)) | (apply wr_assign; exact rfl; with_reducible (conv => enter [6, 3]; whnf)) | apply wr_end | apply wc_seq | apply wc_region | apply wc_block | (apply wr_fieldAddr; iterate 2 exact rfl) | (apply wr_len_slice; iterate 2 exact rfl) | (apply wr_load; (iterate 3 exact rfl); (focus repeat first | with_reducible assumption | exact heap_alloc_same _ _ | exact World.putObj_heap_same (by first | omega | (simp only [World.size_alloc, World.putObj_size, ne_eq]; omega)) | ((first | refine hAl ?_ ?_ | refine hPu ?_ ?_); focus first | omega | (simp only [World.size_alloc, World.putObj_size, ne_eq]; omega))); exact rfl; conv => enter [6, 3]; whnf) | (apply wr_cmp; (iterate 3 exact rfl); exact cmpT (by dsimp only [cmpP]; first | done | omega)) | (apply wr_cmp; (iterate 3 exact rfl); exact cmpF (by dsimp only [cmpN]; first | done | omega)) | (apply wr_pick (t := true); (iterate 2 exact rfl); with_reducible (conv => enter [6, 3]; whnf)) | (apply wr_strnec; (iterate 3 exact rfl); (first | exact decide_eq_true (by with_reducible assumption) | exact decide_eq_false (by with_reducible assumption) | exact decide_eq_true rfl | exact rfl); with_reducible (conv => enter [6, 3]; whnf)) | (apply wc_true; exact rfl) | (apply wc_false; exact rfl) | (apply wc_exit; try simp only [thenE, inBlockE, bodyQ, ↓reduceIte, Nat.reduceEqDiff]) | (apply wc_ret; try simp only [thenE, inBlockE, bodyQ]))
        exact leave1 (v := .bool true) rfl rfl ⟨rfl, hkw7⟩
    · have hL := hrok.c3 hK
      have hl : 0 < L.length := by rw [hL]; split <;> simp
      have hx0 : L[0]? = some (4, P.name) := by rw [hL]; split <;> rfl
      obtain ⟨bl, ol, rfl, curl, el, frl, hbl, hrl⟩ := hatl (by omega)
      have hbl7 := hk7.heap hbl (fun h => h)
      have hc0 : curl[ol + 0 * 2 + 0]? = some (.int .i64 4) := cell_elem (j := 0) GK_len hrl hl hx0 rfl
      subst hK
      by_cases h0 : P.secret = []
      · have hl1 : L.length = 1 := by rw [hL, if_pos h0]; rfl
        (repeat first | (apply wr_move; exact rfl; with_reducible (conv => enter [6, 3]; whnf)) | (apply wr_assign; exact rfl; with_reducible (conv => enter [6, 3]; whnf)) | apply wr_end | apply wc_seq | apply wc_region | apply wc_skip | apply wc_block | (apply wr_fieldAddr; iterate 2 exact rfl) | (apply wr_len_slice; iterate 2 exact rfl) | (apply wr_load; (iterate 3 exact rfl); (focus repeat first | with_reducible assumption | exact heap_alloc_same _ _ | exact World.putObj_heap_same (by first | omega | (simp only [World.size_alloc, World.putObj_size, ne_eq]; omega)) | ((first | refine hAl ?_ ?_ | refine hPu ?_ ?_); focus first | omega | (simp only [World.size_alloc, World.putObj_size, ne_eq]; omega))); exact rfl; conv => enter [6, 3]; whnf) | (apply wr_cmp; (iterate 3 exact rfl); exact cmpT (by dsimp only [cmpP]; first | done | omega)) | (apply wr_cmp; (iterate 3 exact rfl); exact cmpF (by dsimp only [cmpN]; first | done | omega)) | (apply wr_pick (t := true); (iterate 2 exact rfl); with_reducible (conv => enter [6, 3]; whnf)) | (apply wr_add; (iterate 3 exact rfl); exact w_fit (by dsimp only [kIn]; first | done | omega)) | (apply wr_strnec; (iterate 3 exact rfl); (first | exact decide_eq_true (by with_reducible assumption) | exact decide_eq_false (by with_reducible assumption) | exact decide_eq_true rfl | exact rfl); with_reducible (conv => enter [6, 3]; whnf)) | (apply wc_true; exact rfl) | (apply wc_false; exact rfl) | (apply wc_exit; try simp only [thenE, inBlockE, bodyQ, ↓reduceIte, Nat.reduceEqDiff]))
        refine wr_indexAddr (i := 0) rfl rfl rfl hl ?_
        refine wr_fieldAddr rfl rfl ?_
        refine wr_load rfl rfl rfl hbl7 hc0 ?_
        (repeat first | (apply wr_assign; exact rfl; with_reducible (conv => enter [6, 3]; whnf)) | apply wr_end | (apply wr_cmp; (iterate 3 exact rfl); exact cmpT (by dsimp only [cmpP]; first | done | omega)) | (apply wr_pick (t := true); (iterate 2 exact rfl); with_reducible (conv => enter [6, 3]; whnf)) | (apply wc_ret; try simp only [thenE, inBlockE, bodyQ]))
        exact leave1 (v := .bool true) rfl rfl ⟨rfl, hkw7⟩
      · have hl2 : L.length = 2 := by rw [hL, if_neg h0]; rfl
        (repeat first | (apply wr_move; exact rfl; with_reducible (conv => enter [6, 3]; whnf)) | (apply wr_assign; exact rfl; with_reducible (conv => enter [6, 3]; whnf)) | apply wr_end | apply wc_seq | apply wc_region | apply wc_block | (apply wr_fieldAddr; iterate 2 exact rfl) | (apply wr_len_slice; iterate 2 exact rfl) | (apply wr_load; (iterate 3 exact rfl); (focus repeat first | with_reducible assumption | exact heap_alloc_same _ _ | exact World.putObj_heap_same (by first | omega | (simp only [World.size_alloc, World.putObj_size, ne_eq]; omega)) | ((first | refine hAl ?_ ?_ | refine hPu ?_ ?_); focus first | omega | (simp only [World.size_alloc, World.putObj_size, ne_eq]; omega))); exact rfl; conv => enter [6, 3]; whnf) | (apply wr_cmp; (iterate 3 exact rfl); exact cmpT (by dsimp only [cmpP]; first | done | omega)) | (apply wr_cmp; (iterate 3 exact rfl); exact cmpF (by dsimp only [cmpN]; first | done | omega)) | (apply wr_pick (t := true); (iterate 2 exact rfl); with_reducible (conv => enter [6, 3]; whnf)) | (apply wr_add; (iterate 3 exact rfl); exact w_fit (by dsimp only [kIn]; first | done | omega)) | (apply wr_strnec; (iterate 3 exact rfl); (first | exact decide_eq_true (by with_reducible assumption) | exact decide_eq_false (by with_reducible assumption) | exact decide_eq_true rfl | exact rfl); with_reducible (conv => enter [6, 3]; whnf)) | (apply wc_true; exact rfl) | (apply wc_false; exact rfl) | (apply wc_exit; try simp only [thenE, inBlockE, bodyQ, ↓reduceIte, Nat.reduceEqDiff]))
        refine wr_indexAddr (i := 0) rfl rfl rfl hl ?_
        refine wr_fieldAddr rfl rfl ?_
        refine wr_load rfl rfl rfl hbl7 hc0 ?_
        (repeat first | (apply wr_assign; exact rfl; with_reducible (conv => enter [6, 3]; whnf)) | apply wr_end | (apply wr_cmp; (iterate 3 exact rfl); exact cmpT (by dsimp only [cmpP]; first | done | omega)) | (apply wr_pick (t := true); (iterate 2 exact rfl); with_reducible (conv => enter [6, 3]; whnf)) | (apply wc_ret; try simp only [thenE, inBlockE, bodyQ]))
        exact leave1 (v := .bool true) rfl rfl ⟨rfl, hkw7⟩
    · have hl : L.length = 0 := by rw [hrok.c4 (by omega) (by omega) (by omega)]; rfl
      subst hK
      by_cases h0 : P.secret = []
      · (repeat first | (apply wr_move; exact rfl; with_reducible (conv => enter [6, 3]; whnf)) | (apply wr_assign; exact rfl; with_reducible (conv => enter [6, 3]; whnf)) | apply wr_end | apply wc_seq | apply wc_region | apply wc_skip | apply wc_block | (apply wr_fieldAddr; iterate 2 exact rfl) | (apply wr_len_slice; iterate 2 exact rfl) | (apply wr_load; (iterate 3 exact rfl); (focus repeat first | with_reducible assumption | exact heap_alloc_same _ _ | exact World.putObj_heap_same (by first | omega | (simp only [World.size_alloc, World.putObj_size, ne_eq]; omega)) | ((first | refine hAl ?_ ?_ | refine hPu ?_ ?_); focus first | omega | (simp only [World.size_alloc, World.putObj_size, ne_eq]; omega))); exact rfl; conv => enter [6, 3]; whnf) | (apply wr_cmp; (iterate 3 exact rfl); exact cmpT (by dsimp only [cmpP]; first | done | omega)) | (apply wr_cmp; (iterate 3 exact rfl); exact cmpF (by dsimp only [cmpN]; first | done | omega)) | (apply wr_pick (t := true); (iterate 2 exact rfl); with_reducible (conv => enter [6, 3]; whnf)) | (apply wr_strnec; (iterate 3 exact rfl); (first | exact decide_eq_true (by with_reducible assumption) | exact decide_eq_false (by with_reducible assumption) | exact decide_eq_true rfl | exact rfl); with_reducible (conv => enter [6, 3]; whnf)) | (apply wc_false; exact rfl) | (apply wc_exit; try simp only [thenE, inBlockE, bodyQ, ↓reduceIte, Nat.reduceEqDiff]) | (apply wc_ret; try simp only [thenE, inBlockE, bodyQ]))
        exact leave1 (v := .bool true) rfl rfl ⟨rfl, hkw7⟩
      · (repeat first | (apply wr_move; exact rfl; with_reducible (conv => enter [6, 3]; whnf)) | (apply wr_assign; exact rfl; with_reducible (conv => enter [6, 3]; whnf)) | apply wr_end | apply wc_seq | apply wc_region | apply wc_skip | apply wc_block | (apply wr_fieldAddr; iterate 2 exact rfl) | (apply wr_len_slice; iterate 2 exact rfl) | (apply wr_load; (iterate 3 exact rfl); (focus repeat first | with_reducible assumption | exact heap_alloc_same _ _ | exact World.putObj_heap_same (by first | omega | (simp only [World.size_alloc, World.putObj_size, ne_eq]; omega)) | ((first | refine hAl ?_ ?_ | refine hPu ?_ ?_); focus first | omega | (simp only [World.size_alloc, World.putObj_size, ne_eq]; omega))); exact rfl; conv => enter [6, 3]; whnf) | (apply wr_cmp; (iterate 3 exact rfl); exact cmpT (by dsimp only [cmpP]; first | done | omega)) | (apply wr_cmp; (iterate 3 exact rfl); exact cmpF (by dsimp only [cmpN]; first | done | omega)) | (apply wr_pick (t := true); (iterate 2 exact rfl); with_reducible (conv => enter [6, 3]; whnf)) | (apply wr_strnec; (iterate 3 exact rfl); (first | exact decide_eq_true (by with_reducible assumption) | exact decide_eq_false (by with_reducible assumption) | exact decide_eq_true rfl | exact rfl); with_reducible (conv => enter [6, 3]; whnf)) | (apply wc_true; exact rfl) | (apply wc_false; exact rfl) | (apply wc_exit; try simp only [thenE, inBlockE, bodyQ, ↓reduceIte, Nat.reduceEqDiff]) | (apply wc_ret; try simp only [thenE, inBlockE, bodyQ]))
        exact leave1 (v := .bool true) rfl rfl ⟨rfl, hkw7⟩
    · have hl : L.length = 0 := by rw [hrok.c4 (by omega) (by omega) (by omega)]; rfl
      subst hK
      by_cases h0 : P.secret = []
      · (repeat first | (apply wr_move; exact rfl; with_reducible (conv => enter [6, 3]; whnf)) | (apply wr_assign; exact rfl; with_reducible (conv => enter [6, 3]; whnf)) | apply wr_end | apply wc_seq | apply wc_region | apply wc_skip | apply wc_block | (apply wr_fieldAddr; iterate 2 exact rfl) | (apply wr_len_slice; iterate 2 exact rfl) | (apply wr_load; (iterate 3 exact rfl); (focus repeat first | with_reducible assumption | exact heap_alloc_same _ _ | exact World.putObj_heap_same (by first | omega | (simp only [World.size_alloc, World.putObj_size, ne_eq]; omega)) | ((first | refine hAl ?_ ?_ | refine hPu ?_ ?_); focus first | omega | (simp only [World.size_alloc, World.putObj_size, ne_eq]; omega))); exact rfl; conv => enter [6, 3]; whnf) | (apply wr_cmp; (iterate 3 exact rfl); exact cmpT (by dsimp only [cmpP]; first | done | omega)) | (apply wr_cmp; (iterate 3 exact rfl); exact cmpF (by dsimp only [cmpN]; first | done | omega)) | (apply wr_pick (t := true); (iterate 2 exact rfl); with_reducible (conv => enter [6, 3]; whnf)) | (apply wr_strnec; (iterate 3 exact rfl); (first | exact decide_eq_true (by with_reducible assumption) | exact decide_eq_false (by with_reducible assumption) | exact decide_eq_true rfl | exact rfl); with_reducible (conv => enter [6, 3]; whnf)) | (apply wc_false; exact rfl) | (apply wc_exit; try simp only [thenE, inBlockE, bodyQ, ↓reduceIte, Nat.reduceEqDiff]) | (apply wc_ret; try simp only [thenE, inBlockE, bodyQ]))
        exact leave1 (v := .bool true) rfl rfl ⟨rfl, hkw7⟩
      · (repeat first | (apply wr_move; exact rfl; with_reducible (conv => enter [6, 3]; whnf)) | (apply wr_assign; exact rfl; with_reducible (conv => enter [6, 3]; whnf)) | apply wr_end | apply wc_seq | apply wc_region | apply wc_skip | apply wc_block | (apply wr_fieldAddr; iterate 2 exact rfl) | (apply wr_len_slice; iterate 2 exact rfl) | (apply wr_load; (iterate 3 exact rfl); (focus repeat first | with_reducible assumption | exact heap_alloc_same _ _ | exact World.putObj_heap_same (by first | omega | (simp only [World.size_alloc, World.putObj_size, ne_eq]; omega)) | ((first | refine hAl ?_ ?_ | refine hPu ?_ ?_); focus first | omega | (simp only [World.size_alloc, World.putObj_size, ne_eq]; omega))); exact rfl; conv => enter [6, 3]; whnf) | (apply wr_cmp; (iterate 3 exact rfl); exact cmpT (by dsimp only [cmpP]; first | done | omega)) | (apply wr_cmp; (iterate 3 exact rfl); exact cmpF (by dsimp only [cmpN]; first | done | omega)) | (apply wr_pick (t := true); (iterate 2 exact rfl); with_reducible (conv => enter [6, 3]; whnf)) | (apply wr_strnec; (iterate 3 exact rfl); (first | exact decide_eq_true (by with_reducible assumption) | exact decide_eq_false (by with_reducible assumption) | exact decide_eq_true rfl | exact rfl); with_reducible (conv => enter [6, 3]; whnf)) | (apply wc_true; exact rfl) | (apply wc_false; exact rfl) | (apply wc_exit; try simp only [thenE, inBlockE, bodyQ, ↓reduceIte, Nat.reduceEqDiff]) | (apply wc_ret; try simp only [thenE, inBlockE, bodyQ]))
        exact leave1 (v := .bool true) rfl rfl ⟨rfl, hkw7⟩
end Go.Proofs.YthlbgeonobicbaaDoor
