/- norialaw02.PayloadSame: a payload is the same as itself alone. -/
import Derived.Test.YthlbgeonobicbaaDoorYp
namespace Go.Proofs.YthlbgeonobicbaaDoor
open Go Go.V Go.RowKit
set_option linter.unusedVariables false
set_option linter.unusedSimpArgs false

/-- What a law holds when it has made its payload: P of type K, that is right, in block pb. -/
structure Own (m : MD) (K : Int) (P : PL) : Prop where
  k : K = ((1 + kOf m.kind : Nat) : Int)
  p : P = madeOwn m
  ok : P.ok
theorem own_out (m : MD) (hm : m.ok) : Own m (MD.out { m with own := true }).1 (MD.out { m with own := true }).2 := ⟨rfl, rfl, out_ok { m with own := true } ⟨hm.p, hm.kind, hm.name, hm.many⟩⟩
theorem own_small (m : MD) : (madeOwn m).port ≤ 65535 ∧ (madeOwn m).policy ≤ 2 := by
  unfold madeOwn
  split <;> simp only [bareP] <;> omega
theorem own_nil (w : World) (base : Nat) (e : TypeId) (sz : Nat) : w.ownsRow base e sz (.slice none 0 0) 0 [] := ⟨by simp, .inl ⟨rfl, rfl⟩⟩
theorem own_fresh {w : World} {base n size : Nat} {e : TypeId} {cs : List Value} (h : cs.length = n * size) (hn : n ≤ 9223372036854775807) (hb : base ≤ w.heap.size) : (w.alloc (.cells cs.toArray e)).ownsRow base e size (.slice (some ⟨w.heap.size, 0, none⟩) n n) n cs :=
  ⟨h, .inr ⟨w.heap.size, n, cs.toArray, rfl, hb, heap_alloc_same _ _, Nat.le_refl _, by unfold maxLen; exact hn, by simpa using h, by simp [List.take_of_length_le, h]⟩⟩
theorem GR_one (l : List RuleD) : ∀ u ∈ l.flatMap GR, u.oneCell' = true := by
  intro u hu
  obtain ⟨r, _, h⟩ := List.mem_flatMap.1 hu
  simp [GR] at h
  rcases h with rfl | rfl <;> rfl
theorem GA_one (l : List AddrD) : ∀ u ∈ l.flatMap GA, u.oneCell' = true := by
  intro u hu
  obtain ⟨r, _, h⟩ := List.mem_flatMap.1 hu
  simp [GA] at h
  rcases h with rfl | rfl | rfl <;> rfl
theorem PlS.re {w : World} {p q : PL} {rv av : Value} (h : PlS w p rv av) (hr : q.rules = p.rules) (ha : q.addrs = p.addrs) : PlS w q rv av := ⟨by rw [hr]; exact h.r, by rw [ha]; exact h.a⟩
theorem own_ge {w : World} {base : Nat} {e : TypeId} {sz n b : Nat} {v : Value} {xs : List Value} (h : w.ownsRow base e sz v n xs) (hb : v.ownBlock = some b) : base ≤ b := by
  rcases h.2 with ⟨rfl, _⟩ | ⟨g, cap, cur, rfl, hg, _⟩
  · cases hb
  · cases hb; exact hg
/-- What the change of one field leaves: q, another payload, in block qb. -/
def ChgJ (w7 : World) (P : PL) (rv av : Value) (pb qb : Nat) (ds : List Deferred) (f : Env) (w' : World) : Prop :=
  ds = [] ∧ f 5 = .bool true ∧ f 7 = .pointer (some ⟨pb, 0, none⟩) ∧ f 8 = .pointer (some ⟨qb, 0, none⟩) ∧ Keeps (· = qb) w7 w' ∧
    ∃ (q : PL) (rq aq : Value), q ≠ P ∧ w'.heap[qb]? = some (.cells (PlC q rq aq).toArray 26 (0, 0)) ∧ PlS w' q rq aq ∧ q.rules.length ≤ 1000000000000 ∧ q.addrs.length ≤ 1000000000000
set_option maxRecDepth 100000 in
set_option maxHeartbeats 4000000 in
theorem payloadSame_ca (m : MD) (hm : m.ok) (how : Nat) (hh : how < 256) (rv av : Value) {p q : Addr} (w : World) (hs : PlS w m.p rv av) (hg : Glo w p q) :
    Ca Tryd.prog 8 #[MdV m rv av, .int .u8 (how : Int)] w fun v w' => v = .bool true ∧ Keeps NoB w w' := by
  have hr1 := slR_one hs.r
  have ha1 := slR_one hs.a
  have hown := own_out m hm
  have hmade := fun (w : World) (hs : PlS w m.p rv av) => made_ca { m with own := true } ⟨hm.p, hm.kind, hm.name, hm.many⟩ rv av w hs
  obtain ⟨P, hP⟩ : ∃ P, P = (MD.out { m with own := true }).2 := ⟨_, rfl⟩
  obtain ⟨K, hK⟩ : ∃ K, K = (MD.out { m with own := true }).1 := ⟨_, rfl⟩
  rw [← hP, ← hK] at hown
  simp only [← hP, ← hK] at hmade
  clear hP hK
  have hok := hown.ok
  obtain ⟨mp, kind, own, name, many⟩ := m
  simp only at hmade hs
  refine ca_of_body (args := [MdV ⟨mp, kind, own, name, many⟩ rv av, .int .u8 (how : Int)]) Tryd.func8 rfl (by kernel_rfl) ?_
  (repeat first | (apply wr_assign; exact rfl; with_reducible (conv => enter [6, 3]; whnf)) | apply wr_end | apply wc_seq | apply wc_region | (apply wr_box; iterate 2 exact rfl))
  refine wr_call (vs := []) rfl (examples_ca (hg.keep ((Keeps.refl NoB w).alloc _) (fun _ _ h => h))) rfl ?_
  rintro v w2 ⟨rfl, hk2⟩
  have hm2 : w2.heap[w.heap.size]? = some (.cells #[S mp.name, .int .u64 (mp.port : Int), S mp.route, rv, .int .u64 (mp.policy : Int), S mp.secret, av, S mp.key, .int .i64 kind, .bool own, .int .u8 (name : Int), .int .u8 (many : Int)] 28 (0, 0)) := hk2.heap (heap_alloc_same w (.cells (MdV ⟨mp, kind, own, name, many⟩ rv av).cells 28)) (fun h => h)
  have hkw2 : Keeps NoB w w2 := ((Keeps.refl NoB w).alloc _).trans hk2
  have hml := lt_of_heap hm2
  (repeat first | (apply wr_move; exact rfl; with_reducible (conv => enter [6, 3]; whnf)) | (apply wr_assign; exact rfl; with_reducible (conv => enter [6, 3]; whnf)) | apply wr_end | apply wc_seq | apply wc_region | apply wc_skip | (apply wr_fieldAddr; iterate 2 exact rfl) | (apply wr_not; iterate 2 exact rfl) | (apply wr_store; (iterate 3 exact rfl); (first | exact rfl | with_reducible assumption); (focus repeat first | with_reducible assumption | exact heap_alloc_same _ _ | exact World.putObj_heap_same (by first | omega | (simp only [World.size_alloc, World.putObj_size, ne_eq]; omega)) | ((first | refine hAl ?_ ?_ | refine hPu ?_ ?_); focus first | omega | (simp only [World.size_alloc, World.putObj_size, ne_eq]; omega))); exact rfl) | (apply wc_false; exact rfl))
  obtain ⟨w3, hw3⟩ : ∃ w3, w3 = w2.putObj w.heap.size (.cells ((#[S mp.name, .int .u64 (mp.port : Int), S mp.route, rv, .int .u64 (mp.policy : Int), S mp.secret, av, S mp.key, .int .i64 kind, .bool own, .int .u8 (name : Int), .int .u8 (many : Int)] : Array Value).setIfInBounds (0 + 9) (.bool true)) 28 (0, 0)) := ⟨_, rfl⟩
  have hkw3 : Keeps NoB w w3 := by rw [hw3]; exact hkw2.put _ (fun h => by omega)
  have hm3 : w3.heap[w.heap.size]? = some (.cells (MdC ⟨mp, kind, true, name, many⟩ rv av).toArray 28 (0, 0)) := by rw [hw3]; exact World.putObj_heap_same hml
  rw [← hw3]
  clear hw3 hk2 hm2 hml hkw2
  refine wr_loadAll (cs := MdC ⟨mp, kind, true, name, many⟩ rv av) rfl rfl rfl hm3 rfl ?_
  refine wr_call (vs := [MdV ⟨mp, kind, true, name, many⟩ rv av]) rfl (hmade w3 (hs.kin hkw3)) rfl ?_
  rintro v w4 ⟨rv', av', rfl, hs4, hk4⟩
  have hr4 := slR_one hs4.r
  have ha4 := slR_one hs4.a
  (repeat first | (apply wr_move; exact rfl; with_reducible (conv => enter [6, 3]; whnf)) | (apply wr_assign; exact rfl; with_reducible (conv => enter [6, 3]; whnf)) | (apply wr_alloc; exact rfl) | (apply wr_extract; (iterate 3 exact rfl); with_reducible (conv => enter [6, 3]; whnf)))
  refine wr_storeAll (cs := PlC P rv' av') rfl rfl rfl (PlC_one hr4 ha4) (heap_alloc_same _ _) rfl rfl ?_
  obtain ⟨w5, hw5⟩ : ∃ w5, w5 = (w4.alloc (.cells (Value.agg PlZ.toArray).cells 26)).putObj w4.heap.size (.cells (PlC P rv' av').toArray 26 (0, 0)) := ⟨_, rfl⟩
  have hk5 : Keeps NoB w4 w5 := by rw [hw5]; exact ((Keeps.refl NoB w4).alloc _).put _ (fun h => by omega)
  have hb5 : w5.heap[w4.heap.size]? = some (.cells (PlC P rv' av').toArray 26 (0, 0)) := by rw [hw5]; exact World.putObj_heap_same (by simp)
  rw [← hw5]
  have hsz5 : w4.heap.size < w5.heap.size := by rw [hw5]; simp
  clear hw5
  have hs5 := hs4.kin hk5
  have hkw5 : Keeps NoB w w5 := hkw3.trans (hk4.trans hk5)
  have hpbw : w.heap.size ≤ w4.heap.size := (hkw3.trans hk4).size
  have hg5 := hg.keep hkw5 (fun _ _ h => h)
  generalize w4.heap.size = pb at hb5 hsz5 hpbw ⊢
  clear hmade hs hm3 hkw3 hk4 hk5 hs4
  refine wr_end ?_
  apply wc_seq
  apply wc_region
  refine wr_loadAll (cs := PlC P rv' av') rfl rfl rfl hb5 rfl ?_
  refine wr_alloc rfl ?_
  refine wr_storeAll (cs := PlC P rv' av') rfl rfl rfl (PlC_one hr4 ha4) (heap_alloc_same _ _) rfl rfl ?_
  obtain ⟨w7, hw7⟩ : ∃ w7, w7 = (w5.alloc (.cells (Value.agg PlZ.toArray).cells 26)).putObj w5.heap.size (.cells (PlC P rv' av').toArray 26 (0, 0)) := ⟨_, rfl⟩
  have hk7 : Keeps NoB w5 w7 := by rw [hw7]; exact ((Keeps.refl NoB w5).alloc _).put _ (fun h => by omega)
  have hb7 : w7.heap[w5.heap.size]? = some (.cells (PlC P rv' av').toArray 26 (0, 0)) := by rw [hw7]; exact World.putObj_heap_same (by simp)
  have hsz7 : w5.heap.size < w7.heap.size := by rw [hw7]; simp
  have hne7 : pb ≠ w5.heap.size := by omega
  rw [← hw7]
  clear hw7
  have hp7 := hk7.heap hb5 (fun h => h)
  have hs7 := hs5.kin hk7
  have hqbw : w.heap.size ≤ w5.heap.size := by omega
  obtain ⟨qb, hqb⟩ : ∃ qb, qb = w5.heap.size := ⟨_, rfl⟩
  rw [← hqb] at hb7 hne7 hqbw hsz7 ⊢
  refine wr_end ?_
  have h8 : how % 8 < 8 := Nat.mod_lt _ (by decide)
  have hsm := own_small ⟨mp, kind, own, name, many⟩
  rw [← hown.p] at hsm
  have n1 := hok.name
  have n2 := hok.route
  have n3 := hok.secret
  have n4 := hok.key
  have n5 := hok.rulesN
  have n6 := hok.addrsN
  refine wc_seqCut (ChgJ w7 P rv' av' pb qb) ?_ ?_
  · (repeat first | (apply wr_move; exact rfl; with_reducible (conv => enter [6, 3]; whnf)) | apply wc_seq | apply wc_region)
    refine wr_remN (n := how) (m := 8) rfl rfl rfl (by decide) ?_
    have h8' : how % 8 = 0 ∨ how % 8 = 1 ∨ how % 8 = 2 ∨ how % 8 = 3 ∨ how % 8 = 4 ∨ how % 8 = 5 ∨ how % 8 = 6 ∨ how % 8 = 7 := by omega
    rcases h8' with h | h | h | h | h | h | h | h
    · rw [h]
      (repeat first | (apply wr_assign; exact rfl; with_reducible (conv => enter [6, 3]; whnf)) | apply wr_end | apply wc_seq | apply wc_region | apply wc_block | (apply wr_fieldAddr; iterate 2 exact rfl) | (apply wr_load; (iterate 3 exact rfl); (focus repeat first | with_reducible assumption | exact heap_alloc_same _ _ | exact World.putObj_heap_same (by first | omega | (simp only [World.size_alloc, World.putObj_size, ne_eq]; omega)) | ((first | refine hAl ?_ ?_ | refine hPu ?_ ?_); focus first | omega | (simp only [World.size_alloc, World.putObj_size, ne_eq]; omega))); exact rfl; conv => enter [6, 3]; whnf) | (apply wr_cmp; (iterate 3 exact rfl); exact cmpT (by dsimp only [cmpP]; first | done | omega)) | (apply wc_true; exact rfl))
      try (refine wr_cat (b := [120]) rfl rfl rfl (by simp only [List.length_cons, List.length_nil]; omega) ?_)
      (repeat first | (apply wr_fieldAddr; iterate 2 exact rfl) | (apply wr_store; (iterate 3 exact rfl); (first | exact rfl | with_reducible assumption); (focus repeat first | with_reducible assumption | exact heap_alloc_same _ _ | exact World.putObj_heap_same (by first | omega | (simp only [World.size_alloc, World.putObj_size, ne_eq]; omega)) | ((first | refine hAl ?_ ?_ | refine hPu ?_ ?_); focus first | omega | (simp only [World.size_alloc, World.putObj_size, ne_eq]; omega))); exact rfl) | (apply wr_nil; try simp only [thenE, inBlockE, bodyQ]))
      exact ⟨rfl, rfl, rfl, rfl, (Keeps.refl _ _).put _ (fun _ => rfl), { P with name := P.name ++ [120] }, rv', av', fun e => by have := congrArg (fun x : PL => x.name.length) e; simp at this, World.putObj_heap_same (lt_of_heap hb7), (hs5.kin (Keeps.trans' hk7 ((Keeps.refl (· = qb) _).put _ (fun _ => rfl)) (fun i hi e => by omega))).re rfl rfl, by dsimp only; omega, by dsimp only; omega⟩
    · rw [h]
      (repeat first | (apply wr_assign; exact rfl; with_reducible (conv => enter [6, 3]; whnf)) | apply wr_end | apply wc_seq | apply wc_region | apply wc_block | (apply wr_fieldAddr; iterate 2 exact rfl) | (apply wr_load; (iterate 3 exact rfl); (focus repeat first | with_reducible assumption | exact heap_alloc_same _ _ | exact World.putObj_heap_same (by first | omega | (simp only [World.size_alloc, World.putObj_size, ne_eq]; omega)) | ((first | refine hAl ?_ ?_ | refine hPu ?_ ?_); focus first | omega | (simp only [World.size_alloc, World.putObj_size, ne_eq]; omega))); exact rfl; conv => enter [6, 3]; whnf) | (apply wr_cmp; (iterate 3 exact rfl); exact cmpT (by dsimp only [cmpP]; first | done | omega)) | (apply wr_cmp; (iterate 3 exact rfl); exact cmpF (by dsimp only [cmpN]; first | done | omega)) | (apply wr_add; (iterate 3 exact rfl); exact w_fit (by dsimp only [kIn]; first | done | omega)) | (apply wr_store; (iterate 3 exact rfl); (first | exact rfl | with_reducible assumption); (focus repeat first | with_reducible assumption | exact heap_alloc_same _ _ | exact World.putObj_heap_same (by first | omega | (simp only [World.size_alloc, World.putObj_size, ne_eq]; omega)) | ((first | refine hAl ?_ ?_ | refine hPu ?_ ?_); focus first | omega | (simp only [World.size_alloc, World.putObj_size, ne_eq]; omega))); exact rfl) | (apply wc_true; exact rfl) | (apply wc_false; exact rfl) | (apply wr_nil; try simp only [thenE, inBlockE, bodyQ]))
      try (refine wr_cat (b := [120]) rfl rfl rfl (by simp only [List.length_cons, List.length_nil]; omega) ?_)
      skip
      exact ⟨rfl, rfl, rfl, rfl, (Keeps.refl _ _).put _ (fun _ => rfl), { P with port := P.port + 1 }, rv', av', fun e => by have := congrArg (fun x : PL => x.port) e; simp at this, World.putObj_heap_same (lt_of_heap hb7), (hs5.kin (Keeps.trans' hk7 ((Keeps.refl (· = qb) _).put _ (fun _ => rfl)) (fun i hi e => by omega))).re rfl rfl, by dsimp only; omega, by dsimp only; omega⟩
    · rw [h]
      (repeat first | (apply wr_assign; exact rfl; with_reducible (conv => enter [6, 3]; whnf)) | apply wr_end | apply wc_seq | apply wc_region | apply wc_block | (apply wr_fieldAddr; iterate 2 exact rfl) | (apply wr_load; (iterate 3 exact rfl); (focus repeat first | with_reducible assumption | exact heap_alloc_same _ _ | exact World.putObj_heap_same (by first | omega | (simp only [World.size_alloc, World.putObj_size, ne_eq]; omega)) | ((first | refine hAl ?_ ?_ | refine hPu ?_ ?_); focus first | omega | (simp only [World.size_alloc, World.putObj_size, ne_eq]; omega))); exact rfl; conv => enter [6, 3]; whnf) | (apply wr_cmp; (iterate 3 exact rfl); exact cmpT (by dsimp only [cmpP]; first | done | omega)) | (apply wr_cmp; (iterate 3 exact rfl); exact cmpF (by dsimp only [cmpN]; first | done | omega)) | (apply wc_true; exact rfl) | (apply wc_false; exact rfl))
      try (refine wr_cat (b := [120]) rfl rfl rfl (by simp only [List.length_cons, List.length_nil]; omega) ?_)
      (repeat first | (apply wr_fieldAddr; iterate 2 exact rfl) | (apply wr_store; (iterate 3 exact rfl); (first | exact rfl | with_reducible assumption); (focus repeat first | with_reducible assumption | exact heap_alloc_same _ _ | exact World.putObj_heap_same (by first | omega | (simp only [World.size_alloc, World.putObj_size, ne_eq]; omega)) | ((first | refine hAl ?_ ?_ | refine hPu ?_ ?_); focus first | omega | (simp only [World.size_alloc, World.putObj_size, ne_eq]; omega))); exact rfl) | (apply wr_nil; try simp only [thenE, inBlockE, bodyQ]))
      exact ⟨rfl, rfl, rfl, rfl, (Keeps.refl _ _).put _ (fun _ => rfl), { P with route := P.route ++ [120] }, rv', av', fun e => by have := congrArg (fun x : PL => x.route.length) e; simp at this, World.putObj_heap_same (lt_of_heap hb7), (hs5.kin (Keeps.trans' hk7 ((Keeps.refl (· = qb) _).put _ (fun _ => rfl)) (fun i hi e => by omega))).re rfl rfl, by dsimp only; omega, by dsimp only; omega⟩
    · rw [h]
      (repeat first | (apply wr_assign; exact rfl; with_reducible (conv => enter [6, 3]; whnf)) | apply wr_end | apply wc_seq | apply wc_region | apply wc_block | (apply wr_fieldAddr; iterate 2 exact rfl) | (apply wr_load; (iterate 3 exact rfl); (focus repeat first | with_reducible assumption | exact heap_alloc_same _ _ | exact World.putObj_heap_same (by first | omega | (simp only [World.size_alloc, World.putObj_size, ne_eq]; omega)) | ((first | refine hAl ?_ ?_ | refine hPu ?_ ?_); focus first | omega | (simp only [World.size_alloc, World.putObj_size, ne_eq]; omega))); exact rfl; conv => enter [6, 3]; whnf) | (apply wr_cmp; (iterate 3 exact rfl); exact cmpT (by dsimp only [cmpP]; first | done | omega)) | (apply wr_cmp; (iterate 3 exact rfl); exact cmpF (by dsimp only [cmpN]; first | done | omega)) | (apply wr_add; (iterate 3 exact rfl); exact w_fit (by dsimp only [kIn]; first | done | omega)) | (apply wr_store; (iterate 3 exact rfl); (first | exact rfl | with_reducible assumption); (focus repeat first | with_reducible assumption | exact heap_alloc_same _ _ | exact World.putObj_heap_same (by first | omega | (simp only [World.size_alloc, World.putObj_size, ne_eq]; omega)) | ((first | refine hAl ?_ ?_ | refine hPu ?_ ?_); focus first | omega | (simp only [World.size_alloc, World.putObj_size, ne_eq]; omega))); exact rfl) | (apply wc_true; exact rfl) | (apply wc_false; exact rfl) | (apply wr_nil; try simp only [thenE, inBlockE, bodyQ]))
      try (refine wr_cat (b := [120]) rfl rfl rfl (by simp only [List.length_cons, List.length_nil]; omega) ?_)
      skip
      exact ⟨rfl, rfl, rfl, rfl, (Keeps.refl _ _).put _ (fun _ => rfl), { P with policy := P.policy + 1 }, rv', av', fun e => by have := congrArg (fun x : PL => x.policy) e; simp at this, World.putObj_heap_same (lt_of_heap hb7), (hs5.kin (Keeps.trans' hk7 ((Keeps.refl (· = qb) _).put _ (fun _ => rfl)) (fun i hi e => by omega))).re rfl rfl, by dsimp only; omega, by dsimp only; omega⟩
    · rw [h]
      (repeat first | (apply wr_assign; exact rfl; with_reducible (conv => enter [6, 3]; whnf)) | apply wr_end | apply wc_seq | apply wc_region | apply wc_block | (apply wr_fieldAddr; iterate 2 exact rfl) | (apply wr_load; (iterate 3 exact rfl); (focus repeat first | with_reducible assumption | exact heap_alloc_same _ _ | exact World.putObj_heap_same (by first | omega | (simp only [World.size_alloc, World.putObj_size, ne_eq]; omega)) | ((first | refine hAl ?_ ?_ | refine hPu ?_ ?_); focus first | omega | (simp only [World.size_alloc, World.putObj_size, ne_eq]; omega))); exact rfl; conv => enter [6, 3]; whnf) | (apply wr_cmp; (iterate 3 exact rfl); exact cmpT (by dsimp only [cmpP]; first | done | omega)) | (apply wr_cmp; (iterate 3 exact rfl); exact cmpF (by dsimp only [cmpN]; first | done | omega)) | (apply wc_true; exact rfl) | (apply wc_false; exact rfl))
      try (refine wr_cat (b := [120]) rfl rfl rfl (by simp only [List.length_cons, List.length_nil]; omega) ?_)
      (repeat first | (apply wr_fieldAddr; iterate 2 exact rfl) | (apply wr_store; (iterate 3 exact rfl); (first | exact rfl | with_reducible assumption); (focus repeat first | with_reducible assumption | exact heap_alloc_same _ _ | exact World.putObj_heap_same (by first | omega | (simp only [World.size_alloc, World.putObj_size, ne_eq]; omega)) | ((first | refine hAl ?_ ?_ | refine hPu ?_ ?_); focus first | omega | (simp only [World.size_alloc, World.putObj_size, ne_eq]; omega))); exact rfl) | (apply wr_nil; try simp only [thenE, inBlockE, bodyQ]))
      exact ⟨rfl, rfl, rfl, rfl, (Keeps.refl _ _).put _ (fun _ => rfl), { P with secret := P.secret ++ [120] }, rv', av', fun e => by have := congrArg (fun x : PL => x.secret.length) e; simp at this, World.putObj_heap_same (lt_of_heap hb7), (hs5.kin (Keeps.trans' hk7 ((Keeps.refl (· = qb) _).put _ (fun _ => rfl)) (fun i hi e => by omega))).re rfl rfl, by dsimp only; omega, by dsimp only; omega⟩
    · rw [h]
      (repeat first | (apply wr_assign; exact rfl; with_reducible (conv => enter [6, 3]; whnf)) | apply wr_end | apply wc_seq | apply wc_region | apply wc_block | (apply wr_fieldAddr; iterate 2 exact rfl) | (apply wr_load; (iterate 3 exact rfl); (focus repeat first | with_reducible assumption | exact heap_alloc_same _ _ | exact World.putObj_heap_same (by first | omega | (simp only [World.size_alloc, World.putObj_size, ne_eq]; omega)) | ((first | refine hAl ?_ ?_ | refine hPu ?_ ?_); focus first | omega | (simp only [World.size_alloc, World.putObj_size, ne_eq]; omega))); exact rfl; conv => enter [6, 3]; whnf) | (apply wr_cmp; (iterate 3 exact rfl); exact cmpT (by dsimp only [cmpP]; first | done | omega)) | (apply wr_cmp; (iterate 3 exact rfl); exact cmpF (by dsimp only [cmpN]; first | done | omega)) | (apply wc_true; exact rfl) | (apply wc_false; exact rfl))
      try (refine wr_cat (b := [120]) rfl rfl rfl (by simp only [List.length_cons, List.length_nil]; omega) ?_)
      (repeat first | (apply wr_fieldAddr; iterate 2 exact rfl) | (apply wr_store; (iterate 3 exact rfl); (first | exact rfl | with_reducible assumption); (focus repeat first | with_reducible assumption | exact heap_alloc_same _ _ | exact World.putObj_heap_same (by first | omega | (simp only [World.size_alloc, World.putObj_size, ne_eq]; omega)) | ((first | refine hAl ?_ ?_ | refine hPu ?_ ?_); focus first | omega | (simp only [World.size_alloc, World.putObj_size, ne_eq]; omega))); exact rfl) | (apply wr_nil; try simp only [thenE, inBlockE, bodyQ]))
      exact ⟨rfl, rfl, rfl, rfl, (Keeps.refl _ _).put _ (fun _ => rfl), { P with key := P.key ++ [120] }, rv', av', fun e => by have := congrArg (fun x : PL => x.key.length) e; simp at this, World.putObj_heap_same (lt_of_heap hb7), (hs5.kin (Keeps.trans' hk7 ((Keeps.refl (· = qb) _).put _ (fun _ => rfl)) (fun i hi e => by omega))).re rfl rfl, by dsimp only; omega, by dsimp only; omega⟩
    · rw [h]
      (repeat first | (apply wr_assign; exact rfl; with_reducible (conv => enter [6, 3]; whnf)) | apply wr_end | apply wc_seq | apply wc_region | apply wc_block | (apply wr_fieldAddr; iterate 2 exact rfl) | (apply wr_load; (iterate 3 exact rfl); (focus repeat first | with_reducible assumption | exact heap_alloc_same _ _ | exact World.putObj_heap_same (by first | omega | (simp only [World.size_alloc, World.putObj_size, ne_eq]; omega)) | ((first | refine hAl ?_ ?_ | refine hPu ?_ ?_); focus first | omega | (simp only [World.size_alloc, World.putObj_size, ne_eq]; omega))); exact rfl; conv => enter [6, 3]; whnf) | (apply wr_cmp; (iterate 3 exact rfl); exact cmpT (by dsimp only [cmpP]; first | done | omega)) | (apply wr_cmp; (iterate 3 exact rfl); exact cmpF (by dsimp only [cmpN]; first | done | omega)) | (apply wc_true; exact rfl) | (apply wc_false; exact rfl))
      refine wr_appendR (v := .slice none 0 0) (base := w7.heap.size) (n := 0) (m := P.rules.length) (xs := []) (news := P.rules.flatMap GR) rfl rfl (own_nil _ _ _ _) rfl hs7.r (GR_one _) rfl (by decide) (by omega) (by omega) (by omega) ?_
      intro v1 w8 ho8 hk8 _
      rw [Nat.zero_add, List.nil_append] at ho8
      have hk8' : Keeps NoB w7 w8 := hk8.mono (fun k _ e => by cases e)
      refine wr_build (ps := []) (cs := [S [], S []]) rfl rfl rfl rfl ?_
      refine wr_buildSlice (vs := [.agg #[S [], S []]]) rfl rfl (by intro v hv; simp at hv; subst hv; rfl) rfl (by decide) (by decide) (by decide) ?_
      refine wr_append (v := v1) (n := P.rules.length) (m := 1) (news := [S [], S []]) rfl rfl (ho8.alloc _) rfl (heap_alloc_same _ _) rfl (by intro u hu; simp at hu; subst hu; rfl) rfl (by decide) (by omega) (by omega) (by have := hk8'.size; simp; omega) ?_
      intro v2 w9 ho9 hk9 _
      have hk79 : Keeps NoB w7 w9 := Keeps.trans' (hk8'.alloc _) hk9 (fun i hi e => by have := own_ge ho8 e; omega)
      have hb9 := hk79.heap hb7 (fun h => h)
      have hv2 := own_one ho9
      (repeat first | (apply wr_fieldAddr; iterate 2 exact rfl) | (apply wr_store; (iterate 3 exact rfl); (first | exact rfl | with_reducible assumption); (focus repeat first | with_reducible assumption | exact heap_alloc_same _ _ | exact World.putObj_heap_same (by first | omega | (simp only [World.size_alloc, World.putObj_size, ne_eq]; omega)) | ((first | refine hAl ?_ ?_ | refine hPu ?_ ?_); focus first | omega | (simp only [World.size_alloc, World.putObj_size, ne_eq]; omega))); exact rfl) | (apply wr_nil; try simp only [thenE, inBlockE, bodyQ]))
      refine ⟨rfl, rfl, rfl, rfl, ((hk79.upD).put _ (fun _ => rfl)), { P with rules := P.rules ++ [([], [])] }, v2, av', fun e => by have := congrArg (fun x : PL => x.rules.length) e; simp at this, World.putObj_heap_same (by have := lt_of_heap hb9; exact this), ?_, by simp; omega, by simp; omega⟩
      have ho9' : w9.ownsRow w7.heap.size 51 2 v2 (P.rules ++ [([], [])]).length ((P.rules ++ [([], [])]).flatMap GR) := by
        rw [List.flatMap_append, List.length_append]; exact ho9
      exact ⟨(SlR.of_own ho9').keep ((Keeps.refl (· = qb) w9).put _ (fun _ => rfl)) (fun b hb e => by have := own_ge ho9 hb; omega), hs5.a.keep (Keeps.trans' (hk7.trans hk79) ((Keeps.refl (· = qb) w9).put _ (fun _ => rfl)) (fun i hi e => by omega)) (fun _ _ h => h)⟩
    · rw [h]
      (repeat first | (apply wr_assign; exact rfl; with_reducible (conv => enter [6, 3]; whnf)) | apply wr_end | apply wc_seq | apply wc_region | apply wc_block | (apply wr_cmp; (iterate 3 exact rfl); exact cmpT (by dsimp only [cmpP]; first | done | omega)) | (apply wr_cmp; (iterate 3 exact rfl); exact cmpF (by dsimp only [cmpN]; first | done | omega)) | (apply wc_true; exact rfl) | (apply wc_false; exact rfl))
      refine wr_build (ps := [(0, S [104])]) (cs := [S [104], .int .u64 0, .int .u64 0]) rfl rfl rfl rfl ?_
      refine wr_buildSlice (vs := [.agg #[S [104], .int .u64 0, .int .u64 0]]) rfl rfl (by intro v hv; simp at hv; subst hv; rfl) rfl (by decide) (by decide) (by decide) ?_
      have ho8 : (w7.alloc (.cells [S [104], .int .u64 0, .int .u64 0].toArray 65)).ownsRow w7.heap.size 65 3 (.slice (some ⟨w7.heap.size, 0, none⟩) 1 1) 1 [S [104], .int .u64 0, .int .u64 0] := own_fresh rfl (by decide) (Nat.le_refl _)
      have hk8 : Keeps NoB w7 (w7.alloc (.cells [S [104], .int .u64 0, .int .u64 0].toArray 65)) := (Keeps.refl NoB w7).alloc _
      have hp8 := hk8.heap hp7 (fun h => h)
      refine wr_fieldAddr rfl rfl ?_
      refine wr_load (v := av') rfl rfl rfl hp8 rfl ?_
      refine wr_appendR (v := .slice (some ⟨w7.heap.size, 0, none⟩) 1 1) (base := w7.heap.size) (n := 1) (m := P.addrs.length) (xs := [S [104], .int .u64 0, .int .u64 0]) (news := P.addrs.flatMap GA) rfl rfl ho8 rfl (hs7.a.keep hk8 (fun _ _ h => h)) (GA_one _) rfl (by decide) (by omega) (by omega) (by simp) ?_
      intro v2 w9 ho9 hk9 _
      have hk79 : Keeps NoB w7 w9 := Keeps.trans' hk8 hk9 (fun i hi e => by have := own_ge ho8 e; omega)
      have hb9 := hk79.heap hb7 (fun h => h)
      have hv2 := own_one ho9
      (repeat first | (apply wr_fieldAddr; iterate 2 exact rfl) | (apply wr_store; (iterate 3 exact rfl); (first | exact rfl | with_reducible assumption); (focus repeat first | with_reducible assumption | exact heap_alloc_same _ _ | exact World.putObj_heap_same (by first | omega | (simp only [World.size_alloc, World.putObj_size, ne_eq]; omega)) | ((first | refine hAl ?_ ?_ | refine hPu ?_ ?_); focus first | omega | (simp only [World.size_alloc, World.putObj_size, ne_eq]; omega))); exact rfl) | (apply wr_nil; try simp only [thenE, inBlockE, bodyQ]))
      refine ⟨rfl, rfl, rfl, rfl, ((hk79.upD).put _ (fun _ => rfl)), { P with addrs := ([104], 0, 0) :: P.addrs }, rv', v2, fun e => by have := congrArg (fun x : PL => x.addrs.length) e; simp at this, World.putObj_heap_same (by have := lt_of_heap hb9; exact this), ?_, by simp; omega, by simp; omega⟩
      have ho9' : w9.ownsRow w7.heap.size 65 3 v2 (([104], 0, 0) :: P.addrs).length ((([104], 0, 0) :: P.addrs).flatMap GA) := by
        rw [List.flatMap_cons, List.length_cons, Nat.add_comm P.addrs.length]; exact ho9
      exact ⟨hs5.r.keep (Keeps.trans' (hk7.trans hk79) ((Keeps.refl (· = qb) w9).put _ (fun _ => rfl)) (fun i hi e => by omega)) (fun _ _ h => h), (SlR.of_own ho9').keep ((Keeps.refl (· = qb) w9).put _ (fun _ => rfl)) (fun b hb e => by have := own_ge ho9 hb; omega)⟩
  · rintro ds f w8 ⟨rfl, h5, h7, h8', hk8, q, rq, aq, hqP, hq, hsq, hq1, hq2⟩
    have hp8 := hk8.heap hp7 hne7
    have hs8 : PlS w8 P rv' av' := hs5.kin (Keeps.trans' hk7 hk8 (fun i hi e => by omega))
    have hkw8 : Keeps NoB w w8 := Keeps.trans' (hkw5.trans hk7) hk8 (fun i hi e => by omega)
    refine wc_keep [(5, .bool true), (7, .pointer (some ⟨pb, 0, none⟩)), (8, .pointer (some ⟨qb, 0, none⟩))] ⟨h5, h7, h8', trivial⟩ ?_
    intro f0
    (repeat first | (apply wr_move; exact rfl; with_reducible (conv => enter [6, 3]; whnf)) | apply wc_seq | apply wc_region)
    refine wr_loadAll (cs := PlC P rv' av') rfl rfl rfl hp8 rfl ?_
    refine wr_loadAll (cs := PlC P rv' av') rfl rfl rfl hp8 rfl ?_
    refine wr_call (vs := [PlV P rv' av', PlV P rv' av']) rfl (same_ca P P ⟨by omega, by omega⟩ ⟨by omega, by omega⟩ rv' av' rv' av' w8 hs8 hs8) rfl ?_
    rintro v w9 ⟨rfl, hk9⟩
    rw [(sameB_iff P P).2 rfl]
    (repeat first | (apply wr_move; exact rfl; with_reducible (conv => enter [6, 3]; whnf)) | (apply wr_pick (t := true); (iterate 2 exact rfl); with_reducible (conv => enter [6, 3]; whnf)))
    refine wr_loadAll (cs := PlC P rv' av') rfl rfl rfl (hk9.heap hp8 (fun h => h)) rfl ?_
    refine wr_loadAll (cs := PlC q rq aq) rfl rfl rfl (hk9.heap hq (fun h => h)) rfl ?_
    refine wr_call (vs := [PlV P rv' av', PlV q rq aq]) rfl (same_ca P q ⟨by omega, by omega⟩ ⟨by omega, by omega⟩ rv' av' rq aq w9 (hs8.kin hk9) (hsq.kin hk9)) rfl ?_
    rintro v w10 ⟨rfl, hk10⟩
    rw [Bool.eq_false_iff.2 (fun h => hqP ((sameB_iff P q).1 h).symm)]
    (repeat first | (apply wr_move; exact rfl; with_reducible (conv => enter [6, 3]; whnf)) | (apply wr_not; iterate 2 exact rfl) | (apply wr_pick (t := true); (iterate 2 exact rfl); with_reducible (conv => enter [6, 3]; whnf)))
    have hk910 := hk9.trans hk10
    refine wr_loadAll (cs := PlC q rq aq) rfl rfl rfl (hk910.heap hq (fun h => h)) rfl ?_
    refine wr_loadAll (cs := PlC P rv' av') rfl rfl rfl (hk910.heap hp8 (fun h => h)) rfl ?_
    refine wr_call (vs := [PlV q rq aq, PlV P rv' av']) rfl (same_ca q P ⟨by omega, by omega⟩ ⟨by omega, by omega⟩ rq aq rv' av' w10 (hsq.kin hk910) (hs8.kin hk910)) rfl ?_
    rintro v w11 ⟨rfl, hk11⟩
    rw [Bool.eq_false_iff.2 (fun h => hqP ((sameB_iff q P).1 h))]
    (repeat first | (apply wr_assign; exact rfl; with_reducible (conv => enter [6, 3]; whnf)) | apply wr_end | (apply wr_not; iterate 2 exact rfl) | (apply wr_pick (t := true); (iterate 2 exact rfl); with_reducible (conv => enter [6, 3]; whnf)) | (apply wc_ret; try simp only [thenE, inBlockE, bodyQ]))
    exact leave1 (v := .bool true) rfl rfl ⟨rfl, hkw8.trans (hk910.trans hk11)⟩
end Go.Proofs.YthlbgeonobicbaaDoor
