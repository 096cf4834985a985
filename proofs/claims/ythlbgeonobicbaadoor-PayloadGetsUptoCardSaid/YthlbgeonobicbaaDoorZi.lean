/- norialaw02.PayloadGets: any bytes, and those of a payload with a byte another one, are the payload, of any type, or none, that the chapter says. -/
import Derived.Test.YthlbgeonobicbaaDoorZh
namespace Go.Proofs.YthlbgeonobicbaaDoor
open Go Go.V Go.RowKit
set_option linter.unusedVariables false
set_option linter.unusedSimpArgs false

def IsPl (P : PL) (y : Value) (w : World) : Prop := ∃ rv av, y = PlV P rv av ∧ PlS w P rv av
theorem IsPl.keep {P : PL} {y : Value} {w w' : World} (h : IsPl P y w) (k : Keeps NoB w w') : IsPl P y w' := by
  obtain ⟨rv, av, e, h⟩ := h
  exact ⟨rv, av, e, h.kin k⟩
theorem putV_len (K : Int) {P : PL} (h : P.ok) : ∃ x ok, putV (putP K P) = .tuple #[S x, .bool ok] ∧ x.length ≤ 1000000000 := by
  unfold putP
  by_cases hc : (hasF K).2 = true ∧ P.rules.length ≤ 64 ∧ P.addrs.length ≤ 64 ∧ (List.range 8).all (fitK (hasF K).1 P) = true
  · rw [if_pos hc]
    refine ⟨_, true, rfl, ?_⟩
    have h1 := txt_len (k := 1) (s := P.name) (by have := h.name; omega)
    have h2 := nmb_len (k := 2) h.port
    have h3 := txt_len (k := 3) (s := P.route) (by have := h.route; omega)
    have h4 := listB_len 4 ruleB (m := 6000040) P.rules (fun x hx => ruleB_len (h.rules x hx)) (by decide)
    have h5 := nmb_len (k := 5) h.policy
    have h6 := txt_len (k := 6) (s := P.secret) (by have := h.secret; omega)
    have h7 := listB_len 7 addrB (m := 6000060) P.addrs (fun x hx => addrB_len (h.addrs x hx)) (by decide)
    have h8 := txt_len (k := 8) (s := P.key) (by have := h.key; omega)
    have n1 := h.name
    have n3 := h.route
    have n6 := h.secret
    have n8 := h.key
    have m4 : P.rules.length * (6000040 + 20) ≤ 64 * (6000040 + 20) := Nat.mul_le_mul_right _ hc.2.1
    have m7 : P.addrs.length * (6000060 + 20) ≤ 64 * (6000060 + 20) := Nat.mul_le_mul_right _ hc.2.2.1
    unfold partsB
    simp only [List.flatten_cons, List.flatten_nil, List.length_append, List.length_nil]
    omega
  · rw [if_neg hc]
    exact ⟨[], false, rfl, by decide⟩
structure LJ (k : Nat) (c : PL) : Prop where
  r0 : k ≤ 3 → c.rules = []
  a0 : k ≤ 6 → c.addrs = []
  r : c.rules.length ≤ 64
  a : c.addrs.length ≤ 64
theorem tkList_len {α : Type} {tk : List UInt8 → Option α} {A : List WF} {x : List α} (h : tkList tk [] A = some x) : x.length ≤ 64 := by
  unfold tkList at h
  split at h
  · rename_i hc
    cases h
    have := List.length_filterMap_le (fun f : WF => tk f.s) A
    simp only [List.nil_append]
    omega
  · cases h
theorem tkPay_lj {has : List UInt8} {k : Nat} {s s' : PL} {l : List WF} (hk : k < 8) (hs : LJ k s) (h : tkPay has k s l = some s') : LJ (k + 1) s' := by
  have up : ∀ s', s'.rules = s.rules → s'.addrs = s.addrs → LJ (k + 1) s' := fun s' h1 h2 => ⟨fun e => by rw [h1]; exact hs.r0 (by omega), fun e => by rw [h2]; exact hs.a0 (by omega), by rw [h1]; exact hs.r, by rw [h2]; exact hs.a⟩
  unfold tkPay at h
  split at h
  · cases h; exact up _ rfl rfl
  · split at h
    all_goals first
      | (split at h; (injection h with h; subst h; exact up _ rfl rfl); (cases h; done))
      | (rw [hs.r0 (by omega)] at h
         obtain ⟨x, hx, rfl⟩ := Option.map_eq_some_iff.1 h
         exact ⟨fun e => by omega, fun e => hs.a0 (by omega), tkList_len hx, hs.a⟩)
      | (rw [hs.a0 (by omega)] at h
         obtain ⟨x, hx, rfl⟩ := Option.map_eq_some_iff.1 h
         exact ⟨fun e => hs.r0 (by omega), fun e => by omega, hs.r, tkList_len hx⟩)
      | (cases h; done)
theorem tkAll_lj {has : List UInt8} {l : List WF} : ∀ (n k : Nat) (s s' : PL), k + n ≤ 8 → LJ k s → tkAll (tkPay has) l n k s = some s' → LJ (k + n) s'
  | 0, k, s, s', _, hs, h => by cases h; exact hs
  | n + 1, k, s, s', hn, hs, h => by
    have h' : (tkPay has k s (allF l ((k + 1 : Nat) : Int))).bind (fun s' => tkAll (tkPay has) l n (k + 1) s') = some s' := h
    cases ht : tkPay has k s (allF l ((k + 1 : Nat) : Int)) with
    | none => rw [ht] at h'; cases h'
    | some c =>
      rw [ht] at h'
      have := tkAll_lj n (k + 1) c s' (by omega) (tkPay_lj (by omega) hs ht) h'
      rwa [show k + (n + 1) = k + 1 + n by omega]
theorem get_len {kind : Int} {s : List UInt8} {P : PL} (h : getP kind s = some P) : P.rules.length ≤ 64 ∧ P.addrs.length ≤ 64 := by
  unfold getP at h
  split at h
  · cases hp : parseF s with
    | none => rw [hp] at h; cases h
    | some l =>
      rw [hp] at h
      have := tkAll_lj 8 0 PL0 P (by omega) ⟨fun _ => rfl, fun _ => rfl, by decide, by decide⟩ h
      exact ⟨this.r, this.a⟩
  · cases h
theorem getR_all {kind : Int} {s : List UInt8} : ∃ (P : PL) (ok : Bool), (P.rules.length ≤ 64 ∧ P.addrs.length ≤ 64) ∧ ∀ v w', getR kind s v w' → ∃ rv av, v = .tuple #[PlV P rv av, .bool ok] ∧ PlS w' P rv av := by
  cases hg : getP kind s with
  | none =>
    refine ⟨PL0, false, ⟨by decide, by decide⟩, fun v w' h => ?_⟩
    obtain ⟨p, rv, av, b, rfl, hs, ⟨rfl, h1⟩ | ⟨rfl, h1, rfl⟩⟩ := h
    · rw [hg] at h1; cases h1
    · exact ⟨rv, av, rfl, hs⟩
  | some P =>
    refine ⟨P, true, get_len hg, fun v w' h => ?_⟩
    obtain ⟨p, rv, av, b, rfl, hs, ⟨rfl, h1⟩ | ⟨rfl, h1, _⟩⟩ := h
    · rw [hg] at h1; cases h1; exact ⟨rv, av, rfl, hs⟩
    · rw [hg] at h1; cases h1
set_option maxRecDepth 100000 in
set_option maxHeartbeats 8000000 in
theorem payloadGets_ca (m : MD) (hm : m.ok) (s : List UInt8) (hs0 : s.length ≤ 1000000000) (own : Bool) (at' : Int) (hat : -9223372036854775808 ≤ at' ∧ at' ≤ 9223372036854775807) (by' : UInt8) (kind : Int) (rv av : Value) {p q : Addr} (w : World) (hs : PlS w m.p rv av) (hg : Glo w p q) :
    Ca Tryd.prog 3 #[MdV m rv av, S s, .bool own, .int .i64 at', .int .u8 (by'.toNat : Int), .int .i64 kind] w fun v w' => v = .bool true ∧ Keeps NoB w w' := by
  have hr1 := slR_one hs.r
  have ha1 := slR_one hs.a
  have hby := by'.toNat_lt
  refine ca_of_body (args := [MdV m rv av, S s, .bool own, .int .i64 at', .int .u8 (by'.toNat : Int), .int .i64 kind]) Tryd.func3 rfl (by kernel_rfl) ?_
  apply wc_seq
  apply wc_region
  refine wr_box (v := MdV m rv av) rfl rfl ?_
  obtain ⟨w1, hw1⟩ : ∃ w1, w1 = w.alloc (.cells (MdV m rv av).cells 28) := ⟨_, rfl⟩
  have hk1 : Keeps NoB w w1 := by rw [hw1]; exact (Keeps.refl NoB w).alloc _
  obtain ⟨pa, hpa⟩ : ∃ pa, pa = w.heap.size := ⟨_, rfl⟩
  have hA1 : w1.heap[pa]? = some (.cells (MdC m rv av).toArray 28 (0, 0)) := by
    rw [hw1, hpa]; exact heap_alloc_same _ _
  rw [← hw1, ← hpa]
  clear hw1 hpa
  (repeat first | (apply wr_assign; exact rfl; with_reducible (conv => enter [6, 3]; whnf)) | apply wr_end | apply wc_seq | apply wc_region)
  refine wr_call (vs := []) rfl (examples_ca (hg.keep hk1 (fun _ _ h => h))) rfl ?_
  rintro v w2 ⟨rfl, hk2⟩
  have hw2 := hk1.trans hk2
  (repeat first | (apply wr_move; exact rfl; with_reducible (conv => enter [6, 3]; whnf)) | (apply wr_assign; exact rfl; with_reducible (conv => enter [6, 3]; whnf)) | apply wr_end | apply wc_seq | apply wc_region | apply wc_skip | (apply wr_not; iterate 2 exact rfl) | (apply wc_false; exact rfl))
  refine wr_loadAll (cs := MdC m rv av) rfl rfl rfl (hk2.heap hA1 (fun h => h)) rfl ?_
  refine wr_call (vs := [MdV m rv av]) rfl (made_ca m hm rv av w2 (hs.kin hw2)) rfl ?_
  rintro v w3 ⟨rv', av', rfl, hs3, hk3⟩
  have hok := out_ok m hm
  generalize m.out.2 = P at hs3 hok ⊢
  generalize m.out.1 = K
  (repeat first | (apply wr_move; exact rfl; with_reducible (conv => enter [6, 3]; whnf)) | (apply wr_assign; exact rfl; with_reducible (conv => enter [6, 3]; whnf)) | (apply wr_alloc; exact rfl) | (apply wr_extract; (iterate 3 exact rfl); with_reducible (conv => enter [6, 3]; whnf)))
  refine wr_storeAll (cs := PlC P rv' av') rfl rfl rfl (PlC_one (slR_one hs3.r) (slR_one hs3.a)) (heap_alloc_same _ _) rfl rfl ?_
  obtain ⟨w4, hw4⟩ : ∃ w', w' = (w3.alloc (.cells (Value.agg PlZ.toArray).cells 26)).putObj w3.heap.size (.cells (PlC P rv' av').toArray 26 (0, 0)) := ⟨_, rfl⟩
  have kw4 : Keeps NoB w3 w4 := by rw [hw4]; exact ((Keeps.refl NoB w3).alloc _).put _ (fun h => by omega)
  have bw4 : w4.heap[w3.heap.size]? = some (.cells (PlC P rv' av').toArray 26 (0, 0)) := by rw [hw4]; exact World.putObj_heap_same (by simp)
  rw [← hw4]
  clear hw4
  obtain ⟨bp, ebp⟩ : ∃ b, b = w3.heap.size := ⟨_, rfl⟩
  rw [← ebp] at bw4 ⊢
  have hs4 := hs3.kin kw4
  have hw4 := hw2.trans (hk3.trans kw4)
  have n5 := hok.rulesN
  have n6 := hok.addrsN
  refine wr_end ?_
  refine wc_seqCut (fun ds f w' => ds = [] ∧ ∃ (kd : Int) (s' : List UInt8), Slots f [(1, S s'), (5, .int .i64 kd), (13, .bool true)] ∧ s'.length ≤ 1000000000 ∧ Keeps NoB w w') ?_ ?_
  · cases own with
    | false =>
      (repeat first | (apply wr_move; exact rfl; with_reducible (conv => enter [6, 3]; whnf)) | apply wr_end | apply wc_seq | apply wc_region | apply wc_skip | (apply wc_false; exact rfl))
      exact ⟨by trivial, kind, s, ⟨rfl, rfl, rfl, trivial⟩, hs0, hw4⟩
    | true =>
      (repeat first | (apply wr_move; exact rfl; with_reducible (conv => enter [6, 3]; whnf)) | apply wr_end | apply wc_seq | apply wc_region | (apply wc_true; exact rfl))
      refine wr_loadAll (cs := PlC P rv' av') rfl rfl rfl bw4 rfl ?_
      refine wr_call (vs := [PlV P rv' av']) rfl (refP_ca P (by omega) (by omega) rv' av' w4 hs4) rfl ?_
      rintro v w5 ⟨r5, a5, rfl, hs5, hk5⟩
      refine wr_call (vs := [.int .i64 K, PlV P r5 a5]) rfl (rPut_ca K P hok r5 a5 w5 hs5) rfl ?_
      rintro v w6 ⟨rfl, hk6⟩
      obtain ⟨px, pok, hpx, hpl⟩ := putV_len K hok
      rw [hpx]
      (repeat first | (apply wr_move; exact rfl; with_reducible (conv => enter [6, 3]; whnf)) | (apply wr_assign; exact rfl; with_reducible (conv => enter [6, 3]; whnf)) | apply wr_end | apply wc_seq | apply wc_region | (apply wr_extract; (iterate 3 exact rfl); with_reducible (conv => enter [6, 3]; whnf)))
      refine wr_call (vs := [S px, .int .i64 at', .int .u8 (by'.toNat : Int)]) rfl (bend_ca px at' by' hpl hat w6) rfl ?_
      rintro v w7 ⟨⟨s', rfl, hls'⟩, hk7⟩
      have hw7 := hw4.trans (hk5.trans (hk6.trans hk7))
      (repeat first | (apply wr_move; exact rfl; with_reducible (conv => enter [6, 3]; whnf)) | (apply wr_assign; exact rfl; with_reducible (conv => enter [6, 3]; whnf)) | apply wr_end | apply wc_seq | apply wc_region)
      refine wr_remN (n := by'.toNat) (m := 8) rfl rfl rfl (by decide) ?_
      by_cases h7 : by'.toNat % 8 = 7
      · (repeat first | apply wr_end | apply wc_skip | (apply wr_cmp; (iterate 3 exact rfl); exact cmpF (by dsimp only [cmpN]; first | done | omega)) | (apply wc_false; exact rfl))
        exact ⟨by trivial, kind, s', ⟨rfl, rfl, rfl, trivial⟩, by omega, hw7⟩
      · (repeat first | (apply wr_move; exact rfl; with_reducible (conv => enter [6, 3]; whnf)) | (apply wr_assign; exact rfl; with_reducible (conv => enter [6, 3]; whnf)) | apply wr_end | apply wc_region | (apply wr_cmp; (iterate 3 exact rfl); exact cmpT (by dsimp only [cmpP]; first | done | omega)) | (apply wc_true; exact rfl))
        exact ⟨by trivial, K, s', ⟨rfl, rfl, rfl, trivial⟩, by omega, hw7⟩
  · rintro ds f w5 ⟨rfl, kd, s', hsl, hl', hw5⟩
    refine wc_keep _ hsl ?_
    intro f0
    clear hsl
    obtain ⟨Q, ok, hQl, hQ⟩ := getR_all (kind := kd) (s := s')
    (repeat first | (apply wr_move; exact rfl; with_reducible (conv => enter [6, 3]; whnf)) | apply wc_seq | apply wc_region)
    refine wr_call (vs := [.int .i64 kd, S s']) rfl (pGet_ca kd s' hl' (hg.keep hw5 (fun _ _ h => h))) rfl ?_
    rintro v w6 ⟨hgr, hk6⟩
    obtain ⟨r6, a6, rfl, hq6⟩ := hQ _ _ hgr
    (repeat first | (apply wr_move; exact rfl; with_reducible (conv => enter [6, 3]; whnf)) | (apply wr_alloc; exact rfl) | (apply wr_extract; (iterate 3 exact rfl); with_reducible (conv => enter [6, 3]; whnf)))
    refine wr_storeAll (cs := PlC Q r6 a6) rfl rfl rfl (PlC_one (slR_one hq6.r) (slR_one hq6.a)) (heap_alloc_same _ _) rfl rfl ?_
    obtain ⟨w7, hw7⟩ : ∃ w', w' = (w6.alloc (.cells (Value.agg PlZ.toArray).cells 26)).putObj w6.heap.size (.cells (PlC Q r6 a6).toArray 26 (0, 0)) := ⟨_, rfl⟩
    have kw7 : Keeps NoB w6 w7 := by rw [hw7]; exact ((Keeps.refl NoB w6).alloc _).put _ (fun h => by omega)
    have bw7 : w7.heap[w6.heap.size]? = some (.cells (PlC Q r6 a6).toArray 26 (0, 0)) := by rw [hw7]; exact World.putObj_heap_same (by simp)
    rw [← hw7]
    clear hw7
    obtain ⟨qb, eqb⟩ : ∃ b, b = w6.heap.size := ⟨_, rfl⟩
    rw [← eqb] at bw7 ⊢
    have hq7 := hq6.kin kw7
    (repeat first | (apply wr_move; exact rfl; with_reducible (conv => enter [6, 3]; whnf)) | (apply wr_assign; exact rfl; with_reducible (conv => enter [6, 3]; whnf)) | apply wr_end | apply wc_seq | apply wc_region)
    refine wr_call (vs := [.int .i64 kd, S s']) rfl (rGet_ca kd s' hl' w7) rfl ?_
    rintro v w8 ⟨hgr2, hk8⟩
    obtain ⟨r8, a8, rfl, hq8⟩ := hQ _ _ hgr2
    (repeat first | (apply wr_move; exact rfl; with_reducible (conv => enter [6, 3]; whnf)) | (apply wr_alloc; exact rfl) | (apply wr_extract; (iterate 3 exact rfl); with_reducible (conv => enter [6, 3]; whnf)))
    refine wr_storeAll (cs := PlC Q r8 a8) rfl rfl rfl (PlC_one (slR_one hq8.r) (slR_one hq8.a)) (heap_alloc_same _ _) rfl rfl ?_
    obtain ⟨w9, h9⟩ : ∃ w', w' = (w8.alloc (.cells (Value.agg PlZ.toArray).cells 37)).putObj w8.heap.size (.cells (PlC Q r8 a8).toArray 37 (0, 0)) := ⟨_, rfl⟩
    have kw9 : Keeps NoB w8 w9 := by rw [h9]; exact ((Keeps.refl NoB w8).alloc _).put _ (fun h => by omega)
    have bw9 : w9.heap[w8.heap.size]? = some (.cells (PlC Q r8 a8).toArray 37 (0, 0)) := by rw [h9]; exact World.putObj_heap_same (by simp)
    rw [← h9]
    clear h9
    have hq79 := hk8.trans kw9
    have bq9 := hq79.heap bw7 (fun h => h)
    have hq9 : PlS w9.drew Q r6 a6 := (hq7.kin hq79).kin (Keeps.refl NoB w9).drew
    have hz9 : PlS w9.drew Q r8 a8 := (hq8.kin kw9).kin (Keeps.refl NoB w9).drew
    have hw9 := hw5.trans (hk6.trans (kw7.trans hq79))
    (repeat first | (apply wr_assign; exact rfl; with_reducible (conv => enter [6, 3]; whnf)) | apply wr_end | apply wc_seq)
    refine wc_drawP (l := _) 12 _ (by kernel_rfl) (by kernel_rfl) rfl (by kernel_rfl) (by kernel_rfl) (by decide) ?_
    apply chP_pure
    focus
      intro x w' hk hF
      (repeat first | (apply wr_move; exact rfl; with_reducible (conv => enter [6, 3]; whnf)) | (apply wr_nil; try simp only [thenE, inBlockE, bodyQ]))
      exact ⟨rfl, Keeps.refl _ _⟩
    focus (intro x y h; rfl)
    focus kernel_rfl
    apply chP_pure
    focus
      intro x w' hk hF
      (repeat first | (apply wr_move; exact rfl; with_reducible (conv => enter [6, 3]; whnf)) | (apply wr_nil; try simp only [thenE, inBlockE, bodyQ]))
      exact ⟨rfl, Keeps.refl _ _⟩
    focus (intro x y h; rfl)
    focus kernel_rfl
    apply chP_pure
    focus
      intro x w' hk hF
      (repeat first | (apply wr_move; exact rfl; with_reducible (conv => enter [6, 3]; whnf)) | (apply wr_nil; try simp only [thenE, inBlockE, bodyQ]))
      exact ⟨rfl, Keeps.refl _ _⟩
    focus (intro x y h; rfl)
    focus kernel_rfl
    apply chP_pure
    focus
      intro x w' hk hF
      (repeat first | (apply wr_move; exact rfl; with_reducible (conv => enter [6, 3]; whnf)) | (apply wr_nil; try simp only [thenE, inBlockE, bodyQ]))
      exact ⟨rfl, Keeps.refl _ _⟩
    focus (intro x y h; rfl)
    focus kernel_rfl
    apply chP_pure
    focus
      intro x w' hk hF
      refine wr_boolEq (c := true) rfl rfl rfl (by simp) ?_
      apply wr_nil
      exact ⟨rfl, Keeps.refl _ _⟩
    focus (intro x y h; rfl)
    focus kernel_rfl
    apply chP_pure
    focus
      intro x w' hk hF
      (repeat first | (apply wr_pick (t := true); (iterate 2 exact rfl); with_reducible (conv => enter [6, 3]; whnf)) | (apply wr_nil; try simp only [thenE, inBlockE, bodyQ]))
      exact ⟨rfl, Keeps.refl _ _⟩
    focus (intro x y h; rfl)
    focus kernel_rfl
    apply chP_pure
    focus
      intro x w' hk hF
      (repeat first | (apply wr_move; exact rfl; with_reducible (conv => enter [6, 3]; whnf)) | (apply wr_nil; try simp only [thenE, inBlockE, bodyQ]))
      exact ⟨rfl, Keeps.refl _ _⟩
    focus (intro x y h; rfl)
    focus kernel_rfl
    apply chP_pure
    focus
      intro x w' hk hF
      refine wr_loadAll (cs := PlC Q r6 a6) rfl rfl rfl (hk.heap (a := w9.drew) bq9 (fun h => h)) rfl ?_
      apply wr_nil
      exact ⟨rfl, Keeps.refl _ _⟩
    focus (intro x y h; rfl)
    focus kernel_rfl
    refine chP_fact (fun y => y) (fun y w => IsPl Q y w) (fun y w w' h k => h.keep k) ?_ ?_
    focus
      intro x w' hk hF
      refine wr_call (vs := [PlV Q r6 a6]) rfl (refP_ca Q (by omega) (by omega) r6 a6 w' (hq9.kin hk)) rfl ?_; rintro v'' w'' ⟨r', a', e', hs', hk'⟩
      apply wr_nil
      exact ⟨v'', rfl, ⟨r', a', e', hs'⟩, hk'⟩
    apply chP_pure
    focus
      intro x w' hk hF
      refine wr_loadAll (cs := PlC Q r8 a8) rfl rfl rfl (hk.heap (a := w9.drew) bw9 (fun h => h)) rfl ?_
      apply wr_nil
      exact ⟨rfl, Keeps.refl _ _⟩
    focus (intro x y h; rfl)
    focus kernel_rfl
    apply chP_pure
    focus
      intro x w' hk hF
      refine wr_call (vs := [x 8, PlV Q r8 a8]) rfl (by obtain ⟨r1, a1, e1, h1⟩ := hF 8 (by kernel_rfl); rw [e1]; exact refSame_ca Q Q ⟨by omega, by omega⟩ ⟨by omega, by omega⟩ r1 a1 r8 a8 w' h1 (hz9.kin hk)) rfl ?_; rintro v'' w'' ⟨rfl, hk'⟩; rw [(sameB_iff Q Q).2 rfl]
      apply wr_nil
      exact ⟨rfl, hk'⟩
    focus (intro x y h; rfl)
    focus kernel_rfl
    apply chP_pure
    focus
      intro x w' hk hF
      (repeat first | (apply wr_pick (t := true); (iterate 2 exact rfl); with_reducible (conv => enter [6, 3]; whnf)) | (apply wr_nil; try simp only [thenE, inBlockE, bodyQ]))
      exact ⟨rfl, Keeps.refl _ _⟩
    focus (intro x y h; rfl)
    focus kernel_rfl
    refine chP_nil ?_
    intro x w10 hk10 hF
    apply wr_assign
    exact rfl
    apply wr_end
    (repeat first | (apply wc_ret; try simp only [thenE, inBlockE, bodyQ]))
    exact leave1 (v := .bool true) rfl rfl ⟨rfl, hw9.trans ((Keeps.refl NoB w9).drew.trans hk10)⟩
end Go.Proofs.YthlbgeonobicbaaDoor
