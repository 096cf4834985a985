/- payload.Put: what it does. -/
import Derived.Test.YthlbgeonobicbaaDoorMa
namespace Go.Proofs.YthlbgeonobicbaaDoor
open Go Go.V Go.RowKit
set_option linter.unusedVariables false
set_option linter.unusedSimpArgs false

/-- A payload. -/
structure PL where
  name : List UInt8
  port : Nat
  route : List UInt8
  rules : List RuleD
  policy : Nat
  secret : List UInt8
  addrs : List AddrD
  key : List UInt8
  deriving DecidableEq
structure PL.ok (p : PL) : Prop where
  name : p.name.length ≤ 3000000
  port : p.port < 18446744073709551616
  route : p.route.length ≤ 3000000
  rules : ∀ r ∈ p.rules, r.ok
  rulesN : p.rules.length ≤ 3000000
  policy : p.policy < 18446744073709551616
  secret : p.secret.length ≤ 3000000
  addrs : ∀ a ∈ p.addrs, a.ok
  addrsN : p.addrs.length ≤ 3000000
  key : p.key.length ≤ 3000000
def PlC (p : PL) (rv av : Value) : List Value := [S p.name, .int .u64 (p.port : Int), S p.route, rv, .int .u64 (p.policy : Int), S p.secret, av, S p.key]
abbrev PlV (p : PL) (rv av : Value) : Value := .agg #[S p.name, .int .u64 (p.port : Int), S p.route, rv, .int .u64 (p.policy : Int), S p.secret, av, S p.key]
/-- What its two slices read. -/
structure PlS (w : World) (p : PL) (rv av : Value) : Prop where
  r : SlR w 2 rv p.rules.length (p.rules.flatMap GR)
  a : SlR w 3 av p.addrs.length (p.addrs.flatMap GA)
theorem PlS.keep {D : Nat → Prop} {w w' : World} {p : PL} {rv av : Value} (h : PlS w p rv av) (k : Keeps D w w') (hr : ∀ b, rv.ownBlock = some b → ¬ D b) (ha : ∀ b, av.ownBlock = some b → ¬ D b) : PlS w' p rv av := ⟨h.r.keep k hr, h.a.keep k ha⟩
theorem PlS.kin {w w' : World} {p : PL} {rv av : Value} (h : PlS w p rv av) (k : Keeps NoB w w') : PlS w' p rv av := h.keep k (fun _ _ h => h) (fun _ _ h => h)
theorem slR_one {w : World} {sz n : Nat} {v : Value} {cs : List Value} (h : SlR w sz v n cs) : v.oneCell' = true := by
  obtain ⟨_, a, c, rfl, _⟩ := h; rfl
def partsB (p : PL) : List (List UInt8) := [txt 1 p.name, nmb 2 p.port, txt 3 p.route, listB 4 ruleB p.rules, nmb 5 p.policy, txt 6 p.secret, listB 7 addrB p.addrs, txt 8 p.key]
def lets : List (List UInt8) := [[], [112], [111], [114], [108], [115], [97], [107]]
def fldL (B : Nat → Nat) : List Fd := [textT [] (B 0), numT [112] (B 1), textT [111] (B 2), rulesT [114] (B 3) (B 8), numT [108] (B 4), textT [115] (B 5), addrsT [97] (B 6) (B 9), textT [107] (B 7)]
theorem fldL_flat (B : Nat → Nat) : (fldL B).flatMap G3 = (fldCs B).flatten := rfl
theorem fldL_one (B : Nat → Nat) : ∀ x ∈ fldL B, x.one := by
  intro x hx
  simp [fldL] at hx
  rcases hx with rfl | rfl | rfl | rfl | rfl | rfl | rfl | rfl <;> exact ⟨rfl, rfl, rfl⟩
theorem parts_len {p : PL} (h : p.ok) : (partsB p).flatten.length ≤ 40000000000000 := by
  have h1 := txt_len (k := 1) (s := p.name) (by have := h.name; omega)
  have h2 := nmb_len (k := 2) h.port
  have h3 := txt_len (k := 3) (s := p.route) (by have := h.route; omega)
  have h4 := listB_len 4 ruleB (m := 6000040) p.rules (fun x hx => ruleB_len (h.rules x hx)) (by decide)
  have h5 := nmb_len (k := 5) h.policy
  have h6 := txt_len (k := 6) (s := p.secret) (by have := h.secret; omega)
  have h7 := listB_len 7 addrB (m := 6000060) p.addrs (fun x hx => addrB_len (h.addrs x hx)) (by decide)
  have h8 := txt_len (k := 8) (s := p.key) (by have := h.key; omega)
  have m4 : p.rules.length * (6000040 + 20) ≤ 3000000 * (6000040 + 20) := Nat.mul_le_mul_right _ h.rulesN
  have m7 : p.addrs.length * (6000060 + 20) ≤ 3000000 * (6000060 + 20) := Nat.mul_le_mul_right _ h.addrsN
  have := h.name
  have := h.route
  have := h.secret
  have := h.key
  simp only [partsB, List.flatten_cons, List.flatten_nil, List.length_append, List.length_nil]
  omega
theorem fields_put {w : World} {p : PL} {rv av : Value} {b base : Nat} {B : Nat → Nat} {e : TypeId} {fr : Nat × Nat} (hp : p.ok) (hs : PlS w p rv av) (hFB : FB w b base B) (hb : w.heap[b]? = some (.cells (PlC p rv av).toArray e fr)) (k : Nat) (x : Fd) (bk : List UInt8) (hx : (fldL B)[k]? = some x) (hbk : (partsB p)[k]? = some bk) : PutAs w k x bk := by
  match k with
  | 0 => simp [fldL, partsB] at hx hbk; subst hx hbk; exact textT_put (k := 0) _ (by decide) (by have := hp.name; omega) hFB.h0.1 hb rfl
  | 1 => simp [fldL, partsB] at hx hbk; subst hx hbk; exact numT_put (k := 1) _ (by decide) hp.port hFB.h1.1 hb rfl
  | 2 => simp [fldL, partsB] at hx hbk; subst hx hbk; exact textT_put (k := 2) _ (by decide) (by have := hp.route; omega) hFB.h2.1 hb rfl
  | 3 =>
    simp [fldL, partsB] at hx hbk; subst hx hbk
    exact fun w' hk' => callV_of (by kernel_rfl) (rulesP_ca 4 (by decide) p.rules hp.rules hp.rulesN rv (hk'.heap hFB.h3.1 (fun h => h)) (hk'.heap hFB.h3.2.1 (fun h => h)) (hk'.heap hb (fun h => h)) rfl (hs.kin hk').r)
  | 4 => simp [fldL, partsB] at hx hbk; subst hx hbk; exact numT_put (k := 4) _ (by decide) hp.policy hFB.h4.1 hb rfl
  | 5 => simp [fldL, partsB] at hx hbk; subst hx hbk; exact textT_put (k := 5) _ (by decide) (by have := hp.secret; omega) hFB.h5.1 hb rfl
  | 6 =>
    simp [fldL, partsB] at hx hbk; subst hx hbk
    exact fun w' hk' => callV_of (by kernel_rfl) (addrsP_ca 7 (by decide) p.addrs hp.addrs hp.addrsN av (hk'.heap hFB.h6.1 (fun h => h)) (hk'.heap hFB.h6.2.1 (fun h => h)) (hk'.heap hb (fun h => h)) rfl (hs.kin hk').a)
  | 7 => simp [fldL, partsB] at hx hbk; subst hx hbk; exact textT_put (k := 7) _ (by decide) (by have := hp.key; omega) hFB.h7.1 hb rfl
  | k + 8 => simp [fldL] at hx
/-- May field i stand in a payload that has these letters? -/
def fitK (has : List UInt8) (p : PL) (i : Nat) : Bool := inF has (lets.getD i []) || decide ((partsB p).getD i [] = [])
def putP (kind : Int) (p : PL) : Option (List UInt8) :=
  if (hasF kind).2 = true ∧ p.rules.length ≤ 64 ∧ p.addrs.length ≤ 64 ∧ (List.range 8).all (fitK (hasF kind).1 p) = true then some (partsB p).flatten else none
theorem lets_letter (B : Nat → Nat) {k : Nat} {x : Fd} (hx : (fldL B)[k]? = some x) : x.1 = S (lets.getD k []) ∧ (lets.getD k []).length ≤ 1 := by
  match k with
  | 0 | 1 | 2 | 3 | 4 | 5 | 6 | 7 => simp [fldL] at hx; subst hx; exact ⟨rfl, by decide⟩
  | k + 8 => simp [fldL] at hx
set_option maxRecDepth 100000 in
set_option maxHeartbeats 4000000 in
theorem pPut_ca (kind : Int) (p : PL) (hp : p.ok) (rv av : Value) (w : World) (hs : PlS w p rv av) :
    Ca Tryd.prog 19 #[.int .i64 kind, PlV p rv av] w fun v w' => v = putV (putP kind p) ∧ Keeps NoB w w' := by
  have hr1 := slR_one hs.r
  have ha1 := slR_one hs.a
  refine ca_of_body (args := [.int .i64 kind, PlV p rv av]) Tryd.func19 rfl (by kernel_rfl) ?_
  (repeat first | (apply wr_move; exact rfl; with_reducible (conv => enter [6, 3]; whnf)) | (apply wr_assign; exact rfl; with_reducible (conv => enter [6, 3]; whnf)) | apply wr_end | apply wc_seq | apply wc_region | (apply wr_box; iterate 2 exact rfl))
  refine wr_call (vs := [.int .i64 kind]) rfl (has_ca kind _) rfl ?_
  rintro v w1 ⟨rfl, hk1⟩
  have hkw1 := ((Keeps.refl NoB w).alloc (.cells (PlV p rv av).cells 26)).trans hk1
  have hb1 : w1.heap[w.heap.size]? = some (.cells (PlC p rv av).toArray 26 (0, 0)) := hk1.heap (heap_alloc_same w (.cells (PlV p rv av).cells 26)) (fun h => h)
  have hs1 := hs.kin hkw1
  clear hk1
  obtain ⟨ar, cr, rfl, hcr, _⟩ := hs1.r.shape
  obtain ⟨aa, ca, rfl, hca, _⟩ := hs1.a.shape
  cases hok : (hasF kind).2 with
  | false =>
    (repeat first | (apply wr_move; exact rfl; with_reducible (conv => enter [6, 3]; whnf)) | (apply wr_assign; exact rfl; with_reducible (conv => enter [6, 3]; whnf)) | apply wr_end | apply wc_seq | apply wc_region | (apply wr_not; iterate 2 exact rfl) | (apply wr_pick (t := true); (iterate 2 exact rfl); with_reducible (conv => enter [6, 3]; whnf)) | (apply wr_extract; (iterate 3 exact rfl); with_reducible (conv => enter [6, 3]; whnf)) | (apply wc_true; exact rfl) | (apply wc_ret; try simp only [thenE, inBlockE, bodyQ]) | (apply wr_skip; exact rfl))
    refine leave2 (v1 := S []) (v2 := .bool false) rfl rfl rfl ⟨?_, hkw1⟩
    rw [show putP kind p = none from if_neg (fun h => by rw [hok] at h; exact absurd h.1 (by decide))]; rfl
  | true =>
    by_cases h64 : 64 < p.rules.length
    · (repeat first | (apply wr_move; exact rfl; with_reducible (conv => enter [6, 3]; whnf)) | (apply wr_assign; exact rfl; with_reducible (conv => enter [6, 3]; whnf)) | apply wr_end | apply wc_seq | apply wc_region | (apply wr_fieldAddr; iterate 2 exact rfl) | (apply wr_not; iterate 2 exact rfl) | (apply wr_len_slice; iterate 2 exact rfl) | (apply wr_load; (iterate 3 exact rfl); (focus repeat first | with_reducible assumption | exact heap_alloc_same _ _ | exact World.putObj_heap_same (by first | omega | (simp only [World.size_alloc, World.putObj_size, ne_eq]; omega)) | ((first | refine hAl ?_ ?_ | refine hPu ?_ ?_); focus first | omega | (simp only [World.size_alloc, World.putObj_size, ne_eq]; omega))); exact rfl; conv => enter [6, 3]; whnf) | (apply wr_cmp; (iterate 3 exact rfl); exact cmpT (by dsimp only [cmpP]; first | done | omega)) | (apply wr_pick (t := true); (iterate 2 exact rfl); with_reducible (conv => enter [6, 3]; whnf)) | (apply wr_pick (t := false); (iterate 2 exact rfl); with_reducible (conv => enter [6, 3]; whnf)) | (apply wr_extract; (iterate 3 exact rfl); with_reducible (conv => enter [6, 3]; whnf)) | (apply wc_true; exact rfl) | (apply wc_ret; try simp only [thenE, inBlockE, bodyQ]) | (apply wr_skip; exact rfl))
      refine leave2 (v1 := S []) (v2 := .bool false) rfl rfl rfl ⟨?_, hkw1⟩
      rw [show putP kind p = none from if_neg (fun h => by omega)]; rfl
    by_cases h64' : 64 < p.addrs.length
    · (repeat first | (apply wr_move; exact rfl; with_reducible (conv => enter [6, 3]; whnf)) | (apply wr_assign; exact rfl; with_reducible (conv => enter [6, 3]; whnf)) | apply wr_end | apply wc_seq | apply wc_region | (apply wr_fieldAddr; iterate 2 exact rfl) | (apply wr_not; iterate 2 exact rfl) | (apply wr_len_slice; iterate 2 exact rfl) | (apply wr_load; (iterate 3 exact rfl); (focus repeat first | with_reducible assumption | exact heap_alloc_same _ _ | exact World.putObj_heap_same (by first | omega | (simp only [World.size_alloc, World.putObj_size, ne_eq]; omega)) | ((first | refine hAl ?_ ?_ | refine hPu ?_ ?_); focus first | omega | (simp only [World.size_alloc, World.putObj_size, ne_eq]; omega))); exact rfl; conv => enter [6, 3]; whnf) | (apply wr_cmp; (iterate 3 exact rfl); exact cmpT (by dsimp only [cmpP]; first | done | omega)) | (apply wr_cmp; (iterate 3 exact rfl); exact cmpF (by dsimp only [cmpN]; first | done | omega)) | (apply wr_pick (t := false); (iterate 2 exact rfl); with_reducible (conv => enter [6, 3]; whnf)) | (apply wr_extract; (iterate 3 exact rfl); with_reducible (conv => enter [6, 3]; whnf)) | (apply wc_true; exact rfl) | (apply wc_ret; try simp only [thenE, inBlockE, bodyQ]))
      refine leave2 (v1 := S []) (v2 := .bool false) rfl rfl rfl ⟨?_, hkw1⟩
      rw [show putP kind p = none from if_neg (fun h => by omega)]; rfl
    (repeat first | (apply wr_move; exact rfl; with_reducible (conv => enter [6, 3]; whnf)) | (apply wr_assign; exact rfl; with_reducible (conv => enter [6, 3]; whnf)) | apply wr_end | apply wc_seq | apply wc_region | apply wc_skip | (apply wr_fieldAddr; iterate 2 exact rfl) | (apply wr_not; iterate 2 exact rfl) | (apply wr_len_slice; iterate 2 exact rfl) | (apply wr_load; (iterate 3 exact rfl); (focus repeat first | with_reducible assumption | exact heap_alloc_same _ _ | exact World.putObj_heap_same (by first | omega | (simp only [World.size_alloc, World.putObj_size, ne_eq]; omega)) | ((first | refine hAl ?_ ?_ | refine hPu ?_ ?_); focus first | omega | (simp only [World.size_alloc, World.putObj_size, ne_eq]; omega))); exact rfl; conv => enter [6, 3]; whnf) | (apply wr_cmp; (iterate 3 exact rfl); exact cmpF (by dsimp only [cmpN]; first | done | omega)) | (apply wr_pick (t := false); (iterate 2 exact rfl); with_reducible (conv => enter [6, 3]; whnf)) | (apply wr_extract; (iterate 3 exact rfl); with_reducible (conv => enter [6, 3]; whnf)) | (apply wc_false; exact rfl))
    refine wr_call (vs := [.pointer (some ⟨w.heap.size, 0, none⟩)]) rfl (fields_ca2 w.heap.size _) rfl ?_
    rintro v w2 ⟨g, B, rfl, hFS, hFB, hg, hk2⟩
    have hkw2 := hkw1.trans hk2
    have hs2 := hs1.kin hk2
    have hb2 := hk2.heap hb1 (fun h => h)
    have hputs := fields_put hp hs2 hFB hb2
    have hsl2 := FS_slR (L := fldL B) (n := 8) (by rw [fldL_flat]; exact hFS) rfl
    obtain ⟨hasL, hhas⟩ : ∃ l, l = (hasF kind).1 := ⟨_, rfl⟩
    rw [← hhas]
    (repeat first | (apply wr_move; exact rfl; with_reducible (conv => enter [6, 3]; whnf)) | (apply wr_assign; exact rfl; with_reducible (conv => enter [6, 3]; whnf)) | apply wr_end | apply wc_seq | apply wc_region | apply wc_block | (apply wr_len_slice; iterate 2 exact rfl))
    refine wc_loopL (α := Nat) (fun k => [(6, S hasL), (8, .slice (some ⟨g, 0, none⟩) 8 8), (31, .slice (some ⟨g, 0, none⟩) 8 8), (32, .int .i64 8), (33, .int .i64 (k : Int))])
      (fun k ds w' => ds = [] ∧ k ≤ 8 ∧ (∀ i, i < k → fitK hasL p i = true) ∧ Keeps NoB w2 w') (fun k => 8 - k) 0 ⟨rfl, Nat.zero_le _, fun i hi => by omega, Keeps.refl _ _⟩ ⟨rfl, rfl, rfl, rfl, rfl, trivial⟩ ?_
    rintro k ds f0 w3 ⟨rfl, hk8, hfit, hk3⟩
    by_cases hlt : k < 8
    · obtain ⟨x, hx⟩ : ∃ x, (fldL B)[k]? = some x := ⟨(fldL B)[k]'(by simp [fldL]; omega), by simp [fldL, hlt]⟩
      obtain ⟨bk, hbk⟩ : ∃ bk, (partsB p)[k]? = some bk := ⟨(partsB p)[k]'(by simp [partsB]; omega), by simp [partsB, hlt]⟩
      obtain ⟨hlet, hlet1⟩ := lets_letter B hx
      obtain ⟨o1, o2, o3⟩ := fldL_one B x (List.mem_of_getElem? hx)
      have hP := hputs k x bk hx hbk
      have hfk : fitK hasL p k = (inF hasL (lets.getD k []) || decide (bk = [])) := by unfold fitK; rw [List.getD_eq_getElem?_getD (l := partsB p), hbk]; rfl
      obtain ⟨x1, x2, x3⟩ := x
      dsimp only at hlet hP o1 o2 o3
      subst hlet
      have hgb := hk3.heap hFS (fun h => h)
      have hcast : (k : Int) + 1 = ((k + 1 : Nat) : Int) := by omega
      have hs3 := hk3.size
      (repeat first | (apply wr_move; exact rfl; with_reducible (conv => enter [6, 3]; whnf)) | apply wr_end | apply wc_seq | apply wc_region | apply wc_skip | apply wc_block | (apply wr_cmp; (iterate 3 exact rfl); exact cmpT (by dsimp only [cmpP]; first | done | omega)) | (apply wc_true; exact rfl))
      refine wr_indexAddr (i := k) rfl rfl rfl hlt ?_
      refine wr_loadElem (G := G3) (n := 8) (l := fldL B) rfl rfl G3_len rfl hgb (o := 0) (fun j hj => by rw [Nat.zero_add, fldL_flat, List.getElem?_toArray]) hlt hx rfl ?_
      (repeat first | (apply wr_assign; exact rfl; with_reducible (conv => enter [6, 3]; whnf)) | (apply wr_alloc; exact rfl))
      refine wr_storeAll (cs := [S (lets.getD k []), x2, x3]) rfl rfl rfl (by intro u hu; simp at hu; rcases hu with rfl | rfl | rfl; exact o1; exact o2; exact o3) (heap_alloc_same _ _) rfl rfl ?_
      obtain ⟨w4, hw4⟩ : ∃ w4, w4 = (w3.alloc (.cells (Value.agg #[S [], .nilFunc, .nilFunc]).cells 79)).putObj w3.heap.size (.cells #[S (lets.getD k []), x2, x3] 79 (0, 0)) := ⟨_, rfl⟩
      have hk4 : Keeps NoB w3 w4 := by rw [hw4]; exact ((Keeps.refl NoB w3).alloc _).put _ (fun h => by omega)
      have hf4 : w4.heap[w3.heap.size]? = some (.cells #[S (lets.getD k []), x2, x3] 79 (0, 0)) := by rw [hw4]; exact World.putObj_heap_same (by simp)
      rw [← hw4]
      clear hw4
      (repeat first | (apply wr_move; exact rfl; with_reducible (conv => enter [6, 3]; whnf)) | apply wr_end | apply wc_seq | apply wc_region | (apply wr_fieldAddr; iterate 2 exact rfl) | (apply wr_load; (iterate 3 exact rfl); (focus repeat first | with_reducible assumption | exact heap_alloc_same _ _ | exact World.putObj_heap_same (by first | omega | (simp only [World.size_alloc, World.putObj_size, ne_eq]; omega)) | ((first | refine hAl ?_ ?_ | refine hPu ?_ ?_); focus first | omega | (simp only [World.size_alloc, World.putObj_size, ne_eq]; omega))); exact rfl; conv => enter [6, 3]; whnf))
      refine wr_call (vs := [S hasL, S (lets.getD k [])]) rfl (contains_ca hasL (lets.getD k []) hlet1 _) rfl ?_
      rintro v w5 ⟨rfl, hw5⟩
      subst hw5
      cases hin : inF hasL (lets.getD k []) with
      | true =>
        (repeat first | (apply wr_move; exact rfl; with_reducible (conv => enter [6, 3]; whnf)) | apply wr_end | apply wc_region | apply wc_skip | (apply wr_not; iterate 2 exact rfl) | (apply wr_pick (t := false); (iterate 2 exact rfl); with_reducible (conv => enter [6, 3]; whnf)) | (apply wr_add; (iterate 3 exact rfl); exact w_fit (by dsimp only [kIn]; first | done | omega)) | (apply wc_false; exact rfl) | (apply wr_skip; exact rfl))
        exact ⟨k + 1, by omega, ⟨by trivial, hlt, fun i hi => by rcases Nat.lt_or_eq_of_le (Nat.le_of_lt_succ hi) with h | rfl; exact hfit i h; rw [hfk, hin]; rfl, hk3.trans hk4⟩, rfl, rfl, rfl, rfl, by simp, trivial⟩
      | false =>
        (repeat first | (apply wr_move; exact rfl; with_reducible (conv => enter [6, 3]; whnf)) | (apply wr_fieldAddr; iterate 2 exact rfl) | (apply wr_not; iterate 2 exact rfl) | (apply wr_load; (iterate 3 exact rfl); (focus repeat first | with_reducible assumption | exact heap_alloc_same _ _ | exact World.putObj_heap_same (by first | omega | (simp only [World.size_alloc, World.putObj_size, ne_eq]; omega)) | ((first | refine hAl ?_ ?_ | refine hPu ?_ ?_); focus first | omega | (simp only [World.size_alloc, World.putObj_size, ne_eq]; omega))); exact rfl; conv => enter [6, 3]; whnf) | (apply wr_add; (iterate 3 exact rfl); exact w_fit (by dsimp only [kIn]; first | done | omega)))
        rw [hcast]
        refine wr_callv rfl (hP w5 (hk3.trans hk4)) rfl rfl ?_
        rintro v w6 ⟨rfl, hk6⟩
        by_cases h0 : bk = []
        · subst h0
          (repeat first | (apply wr_move; exact rfl; with_reducible (conv => enter [6, 3]; whnf)) | apply wr_end | apply wc_region | apply wc_skip | (apply wr_pick (t := true); (iterate 2 exact rfl); with_reducible (conv => enter [6, 3]; whnf)) | (apply wr_add; (iterate 3 exact rfl); exact w_fit (by dsimp only [kIn]; first | done | omega)) | (apply wr_strnec; (iterate 3 exact rfl); (first | exact decide_eq_true (by with_reducible assumption) | exact decide_eq_false (by with_reducible assumption) | exact decide_eq_true rfl | exact rfl); with_reducible (conv => enter [6, 3]; whnf)) | (apply wc_false; exact rfl))
          exact ⟨k + 1, by omega, ⟨by trivial, hlt, fun i hi => by rcases Nat.lt_or_eq_of_le (Nat.le_of_lt_succ hi) with h | rfl; exact hfit i h; rw [hfk]; simp, hk3.trans (hk4.trans hk6)⟩, rfl, rfl, rfl, rfl, by simp, trivial⟩
        · (repeat first | (apply wr_assign; exact rfl; with_reducible (conv => enter [6, 3]; whnf)) | apply wr_end | apply wc_seq | apply wc_region | (apply wr_pick (t := true); (iterate 2 exact rfl); with_reducible (conv => enter [6, 3]; whnf)) | (apply wr_strnec; (iterate 3 exact rfl); (first | exact decide_eq_true (by with_reducible assumption) | exact decide_eq_false (by with_reducible assumption) | exact decide_eq_true rfl | exact rfl); with_reducible (conv => enter [6, 3]; whnf)) | (apply wc_true; exact rfl) | (apply wc_ret; try simp only [thenE, inBlockE, bodyQ]))
          refine leave2 (v1 := S []) (v2 := .bool false) rfl rfl rfl ⟨?_, hkw2.trans (hk3.trans (hk4.trans hk6))⟩
          rw [show putP kind p = none from if_neg (fun h => by have := List.all_eq_true.1 h.2.2.2 k (List.mem_range.2 hlt); rw [← hhas, hfk, hin, decide_eq_false h0] at this; exact absurd this (by decide))]; rfl
    · have he : k = 8 := by omega
      subst he
      (repeat first | (apply wr_move; exact rfl; with_reducible (conv => enter [6, 3]; whnf)) | apply wr_end | apply wc_seq | apply wc_region | (apply wr_cmp; (iterate 3 exact rfl); exact cmpF (by dsimp only [cmpN]; first | done | omega)) | (apply wc_false; exact rfl) | (apply wc_exit; try simp only [thenE, inBlockE, bodyQ, ↓reduceIte, Nat.reduceEqDiff]))
      refine wr_call (vs := [.slice (some ⟨g, 0, none⟩) 8 8]) rfl (pput_ca (fldL B) (partsB p) _ w3 (hsl2.keep hk3 (fun _ _ h => h)) (fldL_one B) rfl (by simp [fldL]) (fun k x bk hx hbk w' hk' => hputs k x bk hx hbk w' (hk3.trans hk')) (by have := parts_len hp; omega)) rfl ?_
      rintro v w4 ⟨rfl, hk4⟩
      (repeat first | (apply wr_assign; exact rfl; with_reducible (conv => enter [6, 3]; whnf)) | apply wr_end | (apply wc_ret; try simp only [thenE, inBlockE, bodyQ]))
      refine leave2 (v1 := S (partsB p).flatten) (v2 := .bool true) rfl rfl rfl ⟨?_, hkw2.trans (hk3.trans hk4)⟩
      rw [show putP kind p = some (partsB p).flatten from if_pos ⟨hok, by omega, by omega, by rw [← hhas]; exact List.all_eq_true.2 fun i hi => hfit i (List.mem_range.1 hi)⟩]; rfl
end Go.Proofs.YthlbgeonobicbaaDoor

namespace Go.Proofs.YthlbgeonobicbaaDoor
open Go Go.V Go.RowKit
set_option linter.unusedVariables false
set_option linter.unusedSimpArgs false

def kindsB (l : List WF) (kind : Int) : Bool := l.all fun x => x.kind == kind
theorem kindsB_take {l : List WF} {kind : Int} {i : Nat} {x : WF} (h : kindsB (l.take i) kind = true) (hx : l[i]? = some x) (hk : x.kind = kind) : kindsB (l.take (i + 1)) kind = true := by
  unfold kindsB at *
  rw [List.take_add_one, hx]
  simp only [Option.toList_some, List.all_append, h, List.all_cons, List.all_nil, hk]; simp
theorem kindsB_no {l : List WF} {kind : Int} {i : Nat} {x : WF} (hx : l[i]? = some x) (hk : x.kind ≠ kind) : kindsB l kind = false := by
  unfold kindsB
  rw [List.all_eq_false]
  exact ⟨x, List.mem_of_getElem? hx, by simpa using hk⟩
set_option maxRecDepth 100000 in
set_option maxHeartbeats 1000000 in
theorem plain_ca (l : List WF) (kind : Int) (dov sl : Value) (I : Nat → World → Prop) (w : World) (hlen : l.length ≤ 1000000000000) (h0 : I 0 w) (hI : ∀ i w' w'', I i w' → Keeps NoB w' w'' → I i w'') (hsl : ∀ i w', I i w' → SlR w' 4 sl l.length (FL l))
    (hdo : ∀ i x w', l[i]? = some x → I i w' → CallV Tryd.prog dov #[x.v] w' fun _ w'' => I (i + 1) w'') :
    Ca Tryd.prog 68 #[sl, .int .i64 kind, dov] w fun v w' => (v = .bool true ∧ kindsB l kind = true ∧ I l.length w') ∨ (v = .bool false ∧ kindsB l kind = false ∧ ∃ i, I i w') := by
  obtain ⟨a, c, rfl, hc, _⟩ := (hsl 0 w h0).shape
  refine ca_of_body (args := [.slice a l.length c, .int .i64 kind, dov]) Tryd.func68 rfl (by kernel_rfl) ?_
  (repeat first | (apply wr_move; exact rfl; with_reducible (conv => enter [6, 3]; whnf)) | (apply wr_assign; exact rfl; with_reducible (conv => enter [6, 3]; whnf)) | apply wr_end | apply wc_seq | apply wc_region | apply wc_block | (apply wr_len_slice; iterate 2 exact rfl))
  refine wc_loopL (α := Nat) (fun i => [(1, .int .i64 kind), (2, dov), (9, .slice a l.length c), (10, .int .i64 (l.length : Int)), (11, .int .i64 (i : Int))])
    (fun i ds w' => ds = [] ∧ i ≤ l.length ∧ kindsB (l.take i) kind = true ∧ I i w') (fun i => l.length - i) 0 ⟨rfl, Nat.zero_le _, rfl, h0⟩ ⟨rfl, rfl, rfl, rfl, rfl, trivial⟩ ?_
  rintro i ds f0 w2 ⟨rfl, hi, hkb, hIi⟩
  by_cases hlt : i < l.length
  · obtain ⟨a', c', hs', _, hat⟩ := (hsl i w2 hIi).shape
    simp only [Value.slice.injEq, true_and] at hs'
    obtain ⟨rfl, rfl⟩ := hs'
    obtain ⟨b, o, rfl, cur, e, fr, hb, hr⟩ := hat (by omega)
    obtain ⟨x, hx⟩ : ∃ x, l[i]? = some x := ⟨l[i], by simp [hlt]⟩
    obtain ⟨xn, xk, xv, xs⟩ := x
    (repeat first | apply wr_end | apply wc_seq | apply wc_region | apply wc_skip | apply wc_block | (apply wr_cmp; (iterate 3 exact rfl); exact cmpT (by dsimp only [cmpP]; first | done | omega)) | (apply wc_true; exact rfl))
    refine wr_indexAddr (i := i) rfl rfl rfl hlt ?_
    refine wr_loadElem (G := WF.cs) rfl rfl WF.cs_len rfl hb hr hlt hx rfl ?_
    (repeat first | (apply wr_alloc; exact rfl))
    refine wr_storeAll (cs := [.int .i64 xn, .int .i64 xk, .int .u64 (xv : Int), S xs]) rfl rfl rfl (by intro u hu; simp at hu; rcases hu with rfl | rfl | rfl | rfl <;> rfl) (heap_alloc_same _ _) rfl rfl ?_
    obtain ⟨w3, hw3⟩ : ∃ w3, w3 = (w2.alloc (.cells (Value.agg #[.int .i64 0, .int .i64 0, .int .u64 0, S []]).cells 101)).putObj w2.heap.size (.cells #[.int .i64 xn, .int .i64 xk, .int .u64 (xv : Int), S xs] 101 (0, 0)) := ⟨_, rfl⟩
    have hk3 : Keeps NoB w2 w3 := by rw [hw3]; exact ((Keeps.refl NoB w2).alloc _).put _ (fun h => by omega)
    have hf3 : w3.heap[w2.heap.size]? = some (.cells #[.int .i64 xn, .int .i64 xk, .int .u64 (xv : Int), S xs] 101 (0, 0)) := by rw [hw3]; exact World.putObj_heap_same (by simp)
    rw [← hw3]
    clear hw3
    have hI3 := hI i w2 w3 hIi hk3
    by_cases he : xk = kind
    · (repeat first | (apply wr_move; exact rfl; with_reducible (conv => enter [6, 3]; whnf)) | apply wr_end | apply wc_seq | apply wc_region | apply wc_skip | (apply wr_fieldAddr; iterate 2 exact rfl) | (apply wr_load; (iterate 3 exact rfl); (focus repeat first | with_reducible assumption | exact heap_alloc_same _ _ | exact World.putObj_heap_same (by first | omega | (simp only [World.size_alloc, World.putObj_size, ne_eq]; omega)) | ((first | refine hAl ?_ ?_ | refine hPu ?_ ?_); focus first | omega | (simp only [World.size_alloc, World.putObj_size, ne_eq]; omega))); exact rfl; conv => enter [6, 3]; whnf) | (apply wr_cmp; (iterate 3 exact rfl); exact cmpF (by dsimp only [cmpN]; first | done | omega)) | (apply wc_false; exact rfl))
      refine wr_loadAll (cs := [.int .i64 xn, .int .i64 xk, .int .u64 (xv : Int), S xs]) rfl rfl rfl hf3 rfl ?_
      refine wr_callv rfl (hdo i ⟨xn, xk, xv, xs⟩ w3 hx hI3) rfl rfl ?_
      intro v w4 hI4
      (repeat first | (apply wr_move; exact rfl; with_reducible (conv => enter [6, 3]; whnf)) | apply wr_end | apply wc_region | (apply wr_add; (iterate 3 exact rfl); exact w_fit (by dsimp only [kIn]; first | done | omega)) | (apply wr_nil; try simp only [thenE, inBlockE, bodyQ]))
      exact ⟨i + 1, by omega, ⟨by trivial, hlt, kindsB_take hkb hx he, hI4⟩, rfl, rfl, rfl, rfl, by simp, trivial⟩
    · (repeat first | (apply wr_move; exact rfl; with_reducible (conv => enter [6, 3]; whnf)) | (apply wr_assign; exact rfl; with_reducible (conv => enter [6, 3]; whnf)) | apply wr_end | apply wc_seq | apply wc_region | (apply wr_fieldAddr; iterate 2 exact rfl) | (apply wr_load; (iterate 3 exact rfl); (focus repeat first | with_reducible assumption | exact heap_alloc_same _ _ | exact World.putObj_heap_same (by first | omega | (simp only [World.size_alloc, World.putObj_size, ne_eq]; omega)) | ((first | refine hAl ?_ ?_ | refine hPu ?_ ?_); focus first | omega | (simp only [World.size_alloc, World.putObj_size, ne_eq]; omega))); exact rfl; conv => enter [6, 3]; whnf) | (apply wr_cmp; (iterate 3 exact rfl); exact cmpT (by dsimp only [cmpP]; first | done | omega)) | (apply wc_true; exact rfl) | (apply wc_ret; try simp only [thenE, inBlockE, bodyQ]))
      exact leave1 (v := .bool false) rfl rfl (.inr ⟨rfl, kindsB_no hx he, i, hI3⟩)
  · have he : i = l.length := by omega
    subst he
    rw [List.take_length] at hkb
    (repeat first | (apply wr_assign; exact rfl; with_reducible (conv => enter [6, 3]; whnf)) | apply wr_end | apply wc_seq | apply wc_region | (apply wr_cmp; (iterate 3 exact rfl); exact cmpF (by dsimp only [cmpN]; first | done | omega)) | (apply wc_false; exact rfl) | (apply wc_exit; try simp only [thenE, inBlockE, bodyQ, ↓reduceIte, Nat.reduceEqDiff]) | (apply wc_ret; try simp only [thenE, inBlockE, bodyQ]))
    exact leave1 (v := .bool true) rfl rfl (.inl ⟨rfl, hkb, hIi⟩)
def lastS (s0 : List UInt8) (l : List WF) : List UInt8 := (l.getLast?.map (·.s)).getD s0
def lastN (n0 : Nat) (l : List WF) : Nat := (l.getLast?.map (·.n)).getD n0
theorem lastS_take {l : List WF} {s0 : List UInt8} {i : Nat} {x : WF} (hx : l[i]? = some x) : lastS s0 (l.take (i + 1)) = x.s := by
  unfold lastS
  rw [List.take_add_one, hx]; simp
theorem lastN_take {l : List WF} {n0 : Nat} {i : Nat} {x : WF} (hx : l[i]? = some x) : lastN n0 (l.take (i + 1)) = x.n := by
  unfold lastN
  rw [List.take_add_one, hx]; simp
set_option maxRecDepth 100000 in
theorem textDo_ca {bx b o : Nat} {cur : Array Value} {e : TypeId} (x : WF) {w : World} (hx : w.heap[bx]? = some (.cells #[.pointer (some ⟨b, o, none⟩)] 104 (0, 0))) (hb : w.heap[b]? = some (.cells cur e (0, 0))) (ho : o < cur.size) :
    Ca Tryd.prog 69 #[x.v, .pointer (some ⟨bx, 0, none⟩)] w fun v w' => w'.heap[b]? = some (.cells (cur.setIfInBounds o (S x.s)) e (0, 0)) ∧ Keeps (· = b) w w' := by
  obtain ⟨xn, xk, xv, xs⟩ := x
  refine ca_of_body (args := [.agg #[.int .i64 xn, .int .i64 xk, .int .u64 (xv : Int), S xs], .pointer (some ⟨bx, 0, none⟩)]) Tryd.func69 rfl (by kernel_rfl) ?_
  have hbx := lt_of_heap hx
  have hbb := lt_of_heap hb
  have hc : (Value.agg #[.int .i64 xn, .int .i64 xk, .int .u64 (xv : Int), S xs]).cells = #[.int .i64 xn, .int .i64 xk, .int .u64 (xv : Int), S xs] := rfl
  obtain ⟨u, hu⟩ : ∃ u, cur[o]? = some u := ⟨cur[o], by simp [ho]⟩
  (repeat first | apply wr_end | apply wc_seq | apply wc_region | (apply wr_fieldAddr; iterate 2 exact rfl) | (apply wr_box; iterate 2 exact rfl) | (apply wr_nilCheck; iterate 2 exact rfl) | (apply wr_load; (iterate 3 exact rfl); (focus repeat first | with_reducible assumption | exact heap_alloc_same _ _ | exact World.putObj_heap_same (by first | omega | (simp only [World.size_alloc, World.putObj_size, ne_eq]; omega)) | ((first | refine hAl ?_ ?_ | refine hPu ?_ ?_); focus first | omega | (simp only [World.size_alloc, World.putObj_size, ne_eq]; omega))); exact rfl; conv => enter [6, 3]; whnf))
  refine wr_store rfl rfl rfl rfl (hAl (by omega) hb) hu ?_
  (repeat first | (apply wr_nil; try simp only [thenE, inBlockE, bodyQ]))
  try simp only [bodyQ]
  exact leave0 rfl ⟨World.putObj_heap_same (by simp only [World.size_alloc]; omega), ((Keeps.refl _ w).alloc _).put _ (fun _ => rfl)⟩
set_option maxRecDepth 100000 in
/-- The last one counts. -/
theorem textTk_ca (l : List WF) (hlen : l.length ≤ 1000000000000) {bx b o : Nat} {cur : Array Value} {e : TypeId} (s0 : List UInt8) (sl : Value) {w : World} (hbx : w.heap[bx]? = some (.cells #[.pointer (some ⟨b, o, none⟩)] 104 (0, 0))) (hb : w.heap[b]? = some (.cells cur e (0, 0))) (ho : cur[o]? = some (S s0)) (hne : bx ≠ b) (hsl : SlR w 4 sl l.length (FL l)) (hsb : sl.ownBlock ≠ some b) :
    Ca Tryd.prog 67 #[sl, .pointer (some ⟨bx, 0, none⟩)] w fun v w' => ∃ y0 : List UInt8, w'.heap[b]? = some (.cells (cur.setIfInBounds o (S y0)) e (0, 0)) ∧ Keeps (· = b) w w' ∧ ((v = .bool true ∧ kindsB l 2 = true ∧ y0 = lastS s0 l) ∨ (v = .bool false ∧ kindsB l 2 = false)) ∧ (y0 = s0 ∨ ∃ x ∈ l, y0 = x.s) := by
  refine ca_of_body (args := [sl, .pointer (some ⟨bx, 0, none⟩)]) Tryd.func67 rfl (by kernel_rfl) ?_
  have hosz : o < cur.size := (Array.getElem?_eq_some_iff.1 ho).1
  have hset : cur.setIfInBounds o (S s0) = cur := by
    apply Array.ext_getElem?
    intro j
    rw [Array.getElem?_setIfInBounds]
    split
    · rename_i h; subst h; first | (rw [ho]; done) | (rw [ho]; simp [hosz])
    · rfl
  (repeat first | (apply wr_move; exact rfl; with_reducible (conv => enter [6, 3]; whnf)) | (apply wr_assign; exact rfl; with_reducible (conv => enter [6, 3]; whnf)) | apply wr_end | apply wc_seq | apply wc_region)
  refine wr_makeFunc rfl rfl rfl ?_
  refine wr_call (vs := [sl, .int .i64 2, .func (.func 69) #[] #[.pointer (some ⟨bx, 0, none⟩)]]) rfl (plain_ca l 2 _ sl (fun i w' => ∃ y0 : List UInt8, w'.heap[b]? = some (.cells (cur.setIfInBounds o (S y0)) e (0, 0)) ∧ Keeps (· = b) w w' ∧ y0 = lastS s0 (l.take i) ∧ (y0 = s0 ∨ ∃ x ∈ l, y0 = x.s)) w hlen ⟨s0, by rw [hset]; exact hb, Keeps.refl _ w, rfl, .inl rfl⟩ ?_ ?_ ?_) rfl ?_
  · rintro i w' w'' ⟨y0, h1, h2, h3, h4⟩ k
    exact ⟨y0, k.heap h1 (fun h => h), h2.trans' k (fun i hi h => h.elim), h3, h4⟩
  · rintro i w' ⟨y0, h1, h2, h3, h4⟩
    exact hsl.keep h2 (fun b' hb' e => hsb (by rw [hb', e]))
  · rintro i x w' hx ⟨y0, h1, h2, h3, h4⟩
    refine callV_of (args := [x.v]) (by kernel_rfl) (Ca.mono (textDo_ca x (h2.heap hbx hne) h1 (by simpa using hosz)) ?_)
    rintro v w'' ⟨h5, h6⟩
    refine ⟨x.s, ?_, h2.trans h6, (lastS_take hx).symm, .inr ⟨x, List.mem_of_getElem? hx, rfl⟩⟩
    rw [h5]
    congr 2
    simp
  · rintro v w1 (⟨rfl, hk, y0, h1, h2, h3, h4⟩ | ⟨rfl, hk, i, y0, h1, h2, h3, h4⟩)
    · rw [List.take_length] at h3
      (repeat first | (apply wr_assign; exact rfl; with_reducible (conv => enter [6, 3]; whnf)) | apply wr_end | (apply wc_ret; try simp only [thenE, inBlockE, bodyQ]))
      exact leave1 (v := .bool true) rfl rfl ⟨y0, h1, h2, .inl ⟨rfl, hk, h3⟩, h4⟩
    · (repeat first | (apply wr_assign; exact rfl; with_reducible (conv => enter [6, 3]; whnf)) | apply wr_end | (apply wc_ret; try simp only [thenE, inBlockE, bodyQ]))
      exact leave1 (v := .bool false) rfl rfl ⟨y0, h1, h2, .inr ⟨rfl, hk⟩, h4⟩
set_option maxRecDepth 100000 in
theorem numDo_ca {bx b o : Nat} {cur : Array Value} {e : TypeId} (x : WF) {w : World} (hx : w.heap[bx]? = some (.cells #[.pointer (some ⟨b, o, none⟩)] 106 (0, 0))) (hb : w.heap[b]? = some (.cells cur e (0, 0))) (ho : o < cur.size) :
    Ca Tryd.prog 72 #[x.v, .pointer (some ⟨bx, 0, none⟩)] w fun v w' => w'.heap[b]? = some (.cells (cur.setIfInBounds o (.int .u64 (x.n : Int))) e (0, 0)) ∧ Keeps (· = b) w w' := by
  obtain ⟨xn, xk, xv, xs⟩ := x
  refine ca_of_body (args := [.agg #[.int .i64 xn, .int .i64 xk, .int .u64 (xv : Int), S xs], .pointer (some ⟨bx, 0, none⟩)]) Tryd.func72 rfl (by kernel_rfl) ?_
  have hbx := lt_of_heap hx
  have hbb := lt_of_heap hb
  have hc : (Value.agg #[.int .i64 xn, .int .i64 xk, .int .u64 (xv : Int), S xs]).cells = #[.int .i64 xn, .int .i64 xk, .int .u64 (xv : Int), S xs] := rfl
  obtain ⟨u, hu⟩ : ∃ u, cur[o]? = some u := ⟨cur[o], by simp [ho]⟩
  (repeat first | apply wr_end | apply wc_seq | apply wc_region | (apply wr_fieldAddr; iterate 2 exact rfl) | (apply wr_box; iterate 2 exact rfl) | (apply wr_nilCheck; iterate 2 exact rfl) | (apply wr_load; (iterate 3 exact rfl); (focus repeat first | with_reducible assumption | exact heap_alloc_same _ _ | exact World.putObj_heap_same (by first | omega | (simp only [World.size_alloc, World.putObj_size, ne_eq]; omega)) | ((first | refine hAl ?_ ?_ | refine hPu ?_ ?_); focus first | omega | (simp only [World.size_alloc, World.putObj_size, ne_eq]; omega))); exact rfl; conv => enter [6, 3]; whnf))
  refine wr_store rfl rfl rfl rfl (hAl (by omega) hb) hu ?_
  (repeat first | (apply wr_nil; try simp only [thenE, inBlockE, bodyQ]))
  try simp only [bodyQ]
  exact leave0 rfl ⟨World.putObj_heap_same (by simp only [World.size_alloc]; omega), ((Keeps.refl _ w).alloc _).put _ (fun _ => rfl)⟩
set_option maxRecDepth 100000 in
/-- The last one counts. -/
theorem numTk_ca (l : List WF) (hlen : l.length ≤ 1000000000000) {bx b o : Nat} {cur : Array Value} {e : TypeId} (s0 : Nat) (sl : Value) {w : World} (hbx : w.heap[bx]? = some (.cells #[.pointer (some ⟨b, o, none⟩)] 106 (0, 0))) (hb : w.heap[b]? = some (.cells cur e (0, 0))) (ho : cur[o]? = some (.int .u64 (s0 : Int))) (hne : bx ≠ b) (hsl : SlR w 4 sl l.length (FL l)) (hsb : sl.ownBlock ≠ some b) :
    Ca Tryd.prog 71 #[sl, .pointer (some ⟨bx, 0, none⟩)] w fun v w' => ∃ y0 : Nat, w'.heap[b]? = some (.cells (cur.setIfInBounds o (.int .u64 (y0 : Int))) e (0, 0)) ∧ Keeps (· = b) w w' ∧ ((v = .bool true ∧ kindsB l 0 = true ∧ y0 = lastN s0 l) ∨ (v = .bool false ∧ kindsB l 0 = false)) ∧ (y0 = s0 ∨ ∃ x ∈ l, y0 = x.n) := by
  refine ca_of_body (args := [sl, .pointer (some ⟨bx, 0, none⟩)]) Tryd.func71 rfl (by kernel_rfl) ?_
  have hosz : o < cur.size := (Array.getElem?_eq_some_iff.1 ho).1
  have hset : cur.setIfInBounds o (.int .u64 (s0 : Int)) = cur := by
    apply Array.ext_getElem?
    intro j
    rw [Array.getElem?_setIfInBounds]
    split
    · rename_i h; subst h; first | (rw [ho]; done) | (rw [ho]; simp [hosz])
    · rfl
  (repeat first | (apply wr_move; exact rfl; with_reducible (conv => enter [6, 3]; whnf)) | (apply wr_assign; exact rfl; with_reducible (conv => enter [6, 3]; whnf)) | apply wr_end | apply wc_seq | apply wc_region)
  refine wr_makeFunc rfl rfl rfl ?_
  refine wr_call (vs := [sl, .int .i64 0, .func (.func 72) #[] #[.pointer (some ⟨bx, 0, none⟩)]]) rfl (plain_ca l 0 _ sl (fun i w' => ∃ y0 : Nat, w'.heap[b]? = some (.cells (cur.setIfInBounds o (.int .u64 (y0 : Int))) e (0, 0)) ∧ Keeps (· = b) w w' ∧ y0 = lastN s0 (l.take i) ∧ (y0 = s0 ∨ ∃ x ∈ l, y0 = x.n)) w hlen ⟨s0, by rw [hset]; exact hb, Keeps.refl _ w, rfl, .inl rfl⟩ ?_ ?_ ?_) rfl ?_
  · rintro i w' w'' ⟨y0, h1, h2, h3, h4⟩ k
    exact ⟨y0, k.heap h1 (fun h => h), h2.trans' k (fun i hi h => h.elim), h3, h4⟩
  · rintro i w' ⟨y0, h1, h2, h3, h4⟩
    exact hsl.keep h2 (fun b' hb' e => hsb (by rw [hb', e]))
  · rintro i x w' hx ⟨y0, h1, h2, h3, h4⟩
    refine callV_of (args := [x.v]) (by kernel_rfl) (Ca.mono (numDo_ca x (h2.heap hbx hne) h1 (by simpa using hosz)) ?_)
    rintro v w'' ⟨h5, h6⟩
    refine ⟨x.n, ?_, h2.trans h6, (lastN_take hx).symm, .inr ⟨x, List.mem_of_getElem? hx, rfl⟩⟩
    rw [h5]
    congr 2
    simp
  · rintro v w1 (⟨rfl, hk, y0, h1, h2, h3, h4⟩ | ⟨rfl, hk, i, y0, h1, h2, h3, h4⟩)
    · rw [List.take_length] at h3
      (repeat first | (apply wr_assign; exact rfl; with_reducible (conv => enter [6, 3]; whnf)) | apply wr_end | (apply wc_ret; try simp only [thenE, inBlockE, bodyQ]))
      exact leave1 (v := .bool true) rfl rfl ⟨y0, h1, h2, .inl ⟨rfl, hk, h3⟩, h4⟩
    · (repeat first | (apply wr_assign; exact rfl; with_reducible (conv => enter [6, 3]; whnf)) | apply wr_end | (apply wc_ret; try simp only [thenE, inBlockE, bodyQ]))
      exact leave1 (v := .bool false) rfl rfl ⟨y0, h1, h2, .inr ⟨rfl, hk⟩, h4⟩
end Go.Proofs.YthlbgeonobicbaaDoor

namespace Go.Proofs.YthlbgeonobicbaaDoor
open Go Go.V Go.RowKit
set_option linter.unusedVariables false
set_option linter.unusedSimpArgs false

/-- What a message's fields are taken into: St s w: the world holds s; own s: the blocks that taking may write. -/
structure Mach {σ τ : Type} (St : σ → World → Prop) (own : σ → Nat → Prop) (slL : Value) (L : List Fd) (pi : σ → τ) (inv : Nat → σ → Prop) (tk : Nat → τ → List WF → Option τ) : Prop where
  keep : ∀ s w w', St s w → Keeps NoB w w' → St s w'
  lt : ∀ s w k, St s w → own s k → k < w.heap.size
  sl : ∀ s w, St s w → SlR w 3 slL L.length (L.flatMap G3)
  glo : ∀ s w, St s w → ∃ p q, Glo w p q
  one : ∀ x ∈ L, x.one
  len : L.length ≤ 1000
  step : ∀ k x, L[k]? = some x → ∀ s w fl sl, St s w → inv k s → fl.length ≤ 1000000000 → (∀ f ∈ fl, f.s.length ≤ 1000000000 ∧ f.n < 18446744073709551616) → SlR w 4 sl fl.length (FL fl) → (∀ b, sl.ownBlock = some b → b < w.heap.size ∧ ¬ own s b) →
    CallV Tryd.prog x.2.2 #[sl] w fun v w' => ∃ s', St s' w' ∧ Keeps (own s) w w' ∧ (∀ b, own s' b → own s b ∨ w.heap.size ≤ b) ∧ ((v = .bool true ∧ tk k (pi s) fl = some (pi s') ∧ inv (k + 1) s') ∨ (v = .bool false ∧ tk k (pi s) fl = none))
def tkAll {τ : Type} (tk : Nat → τ → List WF → Option τ) (l : List WF) : Nat → Nat → τ → Option τ
  | 0, _, s => some s
  | n + 1, k, s => (tk k s (allF l ((k + 1 : Nat) : Int))).bind fun s' => tkAll tk l n (k + 1) s'
theorem takeF_n {s : List UInt8} {f : WF} {r : List UInt8} (h : takeF s = .ok f r) : f.n < 18446744073709551616 := by
  unfold takeF at h
  cases hrv : readVarint s with
  | none => rw [hrv] at h; cases h
  | some nk =>
    obtain ⟨tag, n⟩ := nk
    rw [hrv] at h
    dsimp only at h
    split at h
    · cases h
    · split at h
      · cases hr2 : readVarint (s.drop n) with
        | none => rw [hr2] at h; cases h
        | some vm =>
          obtain ⟨v, m⟩ := vm
          rw [hr2] at h
          have := (readVarint_bounds hr2).1
          simp only [TR.ok.injEq] at h
          rw [← h.1]; exact this
      · split at h
        · split at h
          · cases h
          · split at h
            · cases h
            · simp only [TR.ok.injEq] at h
              rw [← h.1]; exact (by decide : (0 : Nat) < 18446744073709551616)
        · split at h
          · split at h
            · cases h
            · simp only [TR.ok.injEq] at h
              rw [← h.1]; exact (by decide : (0 : Nat) < 18446744073709551616)
          · split at h
            · split at h
              · cases h
              · simp only [TR.ok.injEq] at h
                rw [← h.1]; exact (by decide : (0 : Nat) < 18446744073709551616)
            · cases h
theorem parse_slen : ∀ (n : Nat) (s : List UInt8) (l : List WF), s.length ≤ n → parseF s = some l → ∀ f ∈ l, f.s.length ≤ s.length ∧ f.n < 18446744073709551616
  | 0, s, l, hn, h, f, hf => by
    have : s = [] := List.eq_nil_of_length_eq_zero (by omega)
    subst this
    rw [parseF_nil] at h; cases h; cases hf
  | n + 1, s, l, hn, h, f, hf => by
    by_cases hs : s = []
    · subst hs; rw [parseF_nil] at h; cases h; cases hf
    · cases hT : takeF s with
      | ok g r =>
        rw [parseF_ok hs hT] at h
        have hlt := takeF_lt hT
        cases hp : parseF r with
        | none => rw [hp] at h; cases h
        | some l' =>
          rw [hp] at h
          simp at h; subst h
          rcases List.mem_cons.1 hf with rfl | hf
          · refine ⟨?_, takeF_n hT⟩
            obtain ⟨a, b, c, d⟩ := f
            exact takeF_s hT
          · have := parse_slen n r l' (by omega) hp f hf
            exact ⟨by omega, this.2⟩
      | short => rw [parseF_no hs (.inl hT)] at h; cases h
      | wrong => rw [parseF_no hs (.inr hT)] at h; cases h
theorem parse_own {s : List UInt8} {w w' : World} {v : Value} (h : parseR s w v w') : ∃ sl, v = .tuple #[sl, .bool (parseF s).isSome] ∧ SlR w' 4 sl ((parseF s).getD []).length (FL ((parseF s).getD [])) ∧ ∀ b, sl.ownBlock = some b → w.heap.size ≤ b ∧ b < w'.heap.size := by
  unfold parseR at h
  cases hp : parseF s with
  | some l =>
    rw [hp] at h
    obtain ⟨sl, rfl, ho⟩ := h
    exact ⟨sl, rfl, SlR.of_own ho, fun b hb => ho.lt b hb⟩
  | none =>
    rw [hp] at h
    exact ⟨.slice none 0 0, h, ⟨rfl, none, 0, rfl, Nat.le_refl _, .inl ⟨rfl, fun _ => rfl⟩⟩, fun b hb => by simp [Value.ownBlock] at hb⟩
set_option maxRecDepth 100000 in
set_option maxHeartbeats 4000000 in
theorem ptake_ca {σ τ : Type} {St : σ → World → Prop} {own : σ → Nat → Prop} {slL : Value} {L : List Fd} {pi : σ → τ} {inv : Nat → σ → Prop} {tk : Nat → τ → List WF → Option τ} (M : Mach St own slL L pi inv tk) (s : List UInt8) (hs : s.length ≤ 1000000000) (st0 : σ) (hi0 : inv 0 st0) {w : World} (h0 : St st0 w) :
    Ca Tryd.prog 35 #[S s, slL] w fun v w' => ∃ st', St st' w' ∧ Keeps (own st0) w w' ∧ (∀ b, own st' b → own st0 b ∨ w.heap.size ≤ b) ∧ ((v = .bool true ∧ ((parseF s).bind fun l => tkAll tk l L.length 0 (pi st0)) = some (pi st')) ∨ (v = .bool false ∧ ((parseF s).bind fun l => tkAll tk l L.length 0 (pi st0)) = none)) := by
  obtain ⟨p, q, hg⟩ := M.glo st0 w h0
  obtain ⟨aL, cL, rfl, hcL, _⟩ := (M.sl st0 w h0).shape
  have hML := M.len
  refine ca_of_body (args := [S s, .slice aL L.length cL]) Tryd.func35 rfl (by kernel_rfl) ?_
  (repeat first | (apply wr_move; exact rfl; with_reducible (conv => enter [6, 3]; whnf)) | (apply wr_assign; exact rfl; with_reducible (conv => enter [6, 3]; whnf)) | apply wr_end | apply wc_seq | apply wc_region)
  refine wr_call (vs := [S s]) rfl (parse_ca s (by omega) hg) rfl ?_
  rintro v w1 ⟨hv, hk1⟩
  obtain ⟨sf, rfl, hsf1, hsfb⟩ := parse_own hv
  clear hv
  obtain ⟨l, hl⟩ : ∃ l, l = (parseF s).getD [] := ⟨_, rfl⟩
  rw [← hl] at hsf1
  obtain ⟨pok, hpok⟩ : ∃ b, b = (parseF s).isSome := ⟨_, rfl⟩
  rw [← hpok]
  have hll : l.length ≤ 1000000000 ∧ ∀ f ∈ l, f.s.length ≤ 1000000000 ∧ f.n < 18446744073709551616 := by
    cases hp : parseF s with
    | none => rw [hl, hp]; simp
    | some l' =>
      have h1 := parseF_len s.length s l' (Nat.le_refl _) hp
      have h2 := parse_slen s.length s l' (Nat.le_refl _) hp
      rw [hl, hp]
      exact ⟨by simp only [Option.getD_some]; omega, fun f hf => by have := h2 f hf; exact ⟨by omega, this.2⟩⟩
  have hres : pok = true → ((parseF s).bind fun l => tkAll tk l L.length 0 (pi st0)) = tkAll tk l L.length 0 (pi st0) := by
    intro h
    cases hp : parseF s with
    | none => rw [hpok, hp] at h; cases h
    | some l' => rw [hl, hp]; rfl
  have hres0 : pok = false → ((parseF s).bind fun l => tkAll tk l L.length 0 (pi st0)) = none := by
    intro h
    cases hp : parseF s with
    | none => rfl
    | some l' => rw [hpok, hp] at h; cases h
  generalize ((parseF s).bind fun l => tkAll tk l L.length 0 (pi st0)) = R at hres hres0 ⊢
  have hst1 := M.keep st0 w w1 h0 hk1
  have hs1 := hk1.size
  obtain ⟨af, cf, hsfe, _, _⟩ := hsf1.shape
  clear hl hpok
  (repeat first | (apply wr_move; exact rfl; with_reducible (conv => enter [6, 3]; whnf)) | (apply wr_assign; exact rfl; with_reducible (conv => enter [6, 3]; whnf)) | apply wr_end | apply wc_seq | apply wc_region | apply wc_block | (apply wr_len_slice; iterate 2 exact rfl) | (apply wr_extract; (iterate 3 exact rfl); with_reducible (conv => enter [6, 3]; whnf)))
  refine wc_loopL (α := Nat × Bool × σ) (fun x => [(5, sf), (6, .bool x.2.1), (14, .slice aL L.length cL), (15, .int .i64 (L.length : Int)), (16, .int .i64 (x.1 : Int))])
    (fun x ds w' => ds = [] ∧ x.1 ≤ L.length ∧ St x.2.2 w' ∧ Keeps (own st0) w w' ∧ (∀ b, own x.2.2 b → own st0 b ∨ w1.heap.size ≤ b) ∧ w1.heap.size ≤ w'.heap.size ∧ SlR w' 4 sf l.length (FL l) ∧ ((x.2.1 = true ∧ R = tkAll tk l (L.length - x.1) x.1 (pi x.2.2) ∧ inv x.1 x.2.2) ∨ (x.2.1 = false ∧ R = none))) (fun x => L.length - x.1) (0, pok, st0)
    ⟨rfl, Nat.zero_le _, hst1, hk1.upD, fun b hb => .inl hb, Nat.le_refl _, hsf1, by cases hp : pok; exact .inr ⟨rfl, hres0 hp⟩; exact .inl ⟨rfl, hres hp, hi0⟩⟩ ⟨rfl, rfl, rfl, rfl, rfl, trivial⟩ ?_
  rintro ⟨k, ok, st⟩ ds f0 w2 ⟨rfl, hk, hst, hk2, hown, hs2, hsf2, hR⟩
  dsimp only at hk hst hk2 hown hs2 hsf2 hR ⊢
  by_cases hlt : k < L.length
  · have hslL := M.sl st w2 hst
    obtain ⟨a', c', he', _, hat⟩ := hslL.shape
    simp only [Value.slice.injEq, true_and] at he'
    obtain ⟨rfl, rfl⟩ := he'
    obtain ⟨b, o, rfl, cur, e, fr, hb, hr⟩ := hat (by omega)
    obtain ⟨x, hx⟩ : ∃ x, L[k]? = some x := ⟨L[k], by simp [hlt]⟩
    obtain ⟨o1, o2, o3⟩ := M.one x (List.mem_of_getElem? hx)
    have hstep := M.step k x hx
    obtain ⟨x1, x2, x3⟩ := x
    dsimp only at o1 o2 o3 hstep
    have hcast : (k : Int) + 1 = ((k + 1 : Nat) : Int) := by omega
    (repeat first | (apply wr_move; exact rfl; with_reducible (conv => enter [6, 3]; whnf)) | apply wr_end | apply wc_seq | apply wc_region | apply wc_skip | apply wc_block | (apply wr_cmp; (iterate 3 exact rfl); exact cmpT (by dsimp only [cmpP]; first | done | omega)) | (apply wc_true; exact rfl))
    refine wr_indexAddr (i := k) rfl rfl rfl hlt ?_
    refine wr_loadElem (G := G3) (n := L.length) rfl rfl G3_len rfl hb hr hlt hx rfl ?_
    (repeat first | (apply wr_assign; exact rfl; with_reducible (conv => enter [6, 3]; whnf)) | (apply wr_alloc; exact rfl))
    refine wr_storeAll (cs := [x1, x2, x3]) rfl rfl rfl (by intro u hu; simp at hu; rcases hu with rfl | rfl | rfl; exact o1; exact o2; exact o3) (heap_alloc_same _ _) rfl rfl ?_
    obtain ⟨w3, hw3⟩ : ∃ w3, w3 = (w2.alloc (.cells (Value.agg #[S [], .nilFunc, .nilFunc]).cells 79)).putObj w2.heap.size (.cells #[x1, x2, x3] 79 (0, 0)) := ⟨_, rfl⟩
    have hk3 : Keeps NoB w2 w3 := by rw [hw3]; exact ((Keeps.refl NoB w2).alloc _).put _ (fun h => by omega)
    have hf3 : w3.heap[w2.heap.size]? = some (.cells #[x1, x2, x3] 79 (0, 0)) := by rw [hw3]; exact World.putObj_heap_same (by simp)
    rw [← hw3]
    clear hw3
    have hst3 := M.keep st w2 w3 hst hk3
    have hs3 := hk3.size
    (repeat first | apply wr_end)
    rcases hR with ⟨rfl, hR, hik⟩ | ⟨rfl, hR⟩
    · have hdec : L.length - k = (L.length - (k + 1)) + 1 := by omega
      rw [hdec] at hR
      refine wc_drawP (l := _) 8 _ (by kernel_rfl) (by kernel_rfl) rfl (by kernel_rfl) (by kernel_rfl) (by decide) ?_
      apply chP_pure
      focus
        intro x w' hk hF
        apply wr_move; exact rfl; with_reducible (conv => enter [6, 3]; whnf)
        apply wr_nil
        exact ⟨rfl, Keeps.refl _ _⟩
      focus (intro x y h; rfl)
      focus kernel_rfl
      apply chP_pure
      focus
        intro x w' hk hF
        apply wr_move; exact rfl; with_reducible (conv => enter [6, 3]; whnf)
        apply wr_nil
        exact ⟨rfl, Keeps.refl _ _⟩
      focus (intro x y h; rfl)
      focus kernel_rfl
      apply chP_pure
      focus
        intro x w' hk hF
        refine wr_fieldAddr rfl rfl ?_
        apply wr_nil
        exact ⟨rfl, Keeps.refl _ _⟩
      focus (intro x y h; rfl)
      focus kernel_rfl
      apply chP_pure
      focus
        intro x w' hk hF
        refine wr_load (v := x3) rfl rfl rfl (hk.heap (a := w3.drew) hf3 (fun h => h)) rfl ?_
        apply wr_nil
        exact ⟨rfl, Keeps.refl _ _⟩
      focus (intro x y h; rfl)
      focus kernel_rfl
      apply chP_pure
      focus
        intro x w' hk hF
        apply wr_move; exact rfl; with_reducible (conv => enter [6, 3]; whnf)
        apply wr_nil
        exact ⟨rfl, Keeps.refl _ _⟩
      focus (intro x y h; rfl)
      focus kernel_rfl
      apply chP_pure
      focus
        intro x w' hk hF
        apply wr_move; exact rfl; with_reducible (conv => enter [6, 3]; whnf)
        apply wr_nil
        exact ⟨rfl, Keeps.refl _ _⟩
      focus (intro x y h; rfl)
      focus kernel_rfl
      apply chP_pure
      focus
        intro x w' hk hF
        refine wr_add (c := ((k + 1 : Nat) : Int)) rfl rfl rfl (by rw [hcast]; exact w_i64 (by omega)) ?_
        apply wr_nil
        exact ⟨rfl, Keeps.refl _ _⟩
      focus (intro x y h; rfl)
      focus kernel_rfl
      refine chP_fact (fun y => y) (fun y w' => SlR w' 4 y (allF l ((k + 1 : Nat) : Int)).length (FL (allF l ((k + 1 : Nat) : Int))) ∧ ∀ b, y.ownBlock = some b → w3.heap.size ≤ b ∧ b < w'.heap.size) (fun y w w' h k => ⟨h.1.keep k (fun _ _ h => h), fun b hb => ⟨(h.2 b hb).1, Nat.lt_of_lt_of_le (h.2 b hb).2 k.size⟩⟩) ?_ ?_
      focus
        intro x w' hk' hF
        refine wr_call (vs := [sf, .int .i64 ((k + 1 : Nat) : Int)]) rfl (all_ca l ((k + 1 : Nat) : Int) sf _ (hsf2.keep (hk3.trans ((Keeps.refl NoB w3).drew.trans hk')) (fun _ _ h => h)) (by omega)) rfl ?_
        rintro v w'' ⟨ho, hk''⟩
        apply wr_nil
        exact ⟨v, rfl, ⟨SlR.of_own ho, fun b hb => ⟨Nat.le_trans hk'.size (ho.lt b hb).1, (ho.lt b hb).2⟩⟩, hk''⟩
      refine chP_nil ?_
      intro x w4 hk4' hF
      obtain ⟨hsl4, hsb4⟩ : SlR w4 4 (x 7) (allF l ((k + 1 : Nat) : Int)).length (FL (allF l ((k + 1 : Nat) : Int))) ∧ ∀ b, (x 7).ownBlock = some b → w3.heap.size ≤ b ∧ b < w4.heap.size := hF 7 (by decide)
      have hk4 : Keeps NoB w3 w4 := (Keeps.refl NoB w3).drew.trans hk4'
      have hst4 := M.keep st w3 w4 hst3 hk4
      have hall : ∀ f ∈ allF l ((k + 1 : Nat) : Int), f.s.length ≤ 1000000000 ∧ f.n < 18446744073709551616 := fun f hf => hll.2 f (List.mem_filter.1 hf).1
      refine wr_callv rfl (hstep st w4 (allF l ((k + 1 : Nat) : Int)) (x 7) hst4 hik (Nat.le_trans (List.length_filter_le _ _) hll.1) hall hsl4 (fun b hb => ⟨(hsb4 b hb).2, fun h => by have h1 := M.lt st w2 b hst h; have h2 := hsb4 b hb; omega⟩)) rfl rfl ?_
      rintro v w5 ⟨st', hst', hk5, hown', hv⟩
      have hk25 : Keeps (own st) w2 w5 := (hk3.trans hk4).upD.trans hk5
      have hs24 := (hk3.trans hk4).size
      have hk05 : Keeps (own st0) w w5 := hk2.trans' hk25 fun i hi h => by
        rcases hown i h with h | h
        · exact h
        · omega
      have hown5 : ∀ b, own st' b → own st0 b ∨ w1.heap.size ≤ b := fun b hb => by
        rcases hown' b hb with h | h
        · exact hown b h
        · exact .inr (by omega)
      have hsf5 : SlR w5 4 sf l.length (FL l) := hsf2.keep hk25 fun b hb h => by
        obtain ⟨h1, h2⟩ := hsfb b hb
        rcases hown b h with h | h
        · have := M.lt st0 w b h0 h; omega
        · omega
      have hs5 := hk25.size
      unfold tkAll at hR
      rcases hv with ⟨rfl, hv, hik'⟩ | ⟨rfl, hv⟩
      · rw [hv] at hR
        (repeat first | (apply wr_move; exact rfl; with_reducible (conv => enter [6, 3]; whnf)) | (apply wr_assign; exact rfl; with_reducible (conv => enter [6, 3]; whnf)) | apply wr_end | apply wc_region | (apply wr_pick (t := true); (iterate 2 exact rfl); with_reducible (conv => enter [6, 3]; whnf)) | (apply wr_add; (iterate 3 exact rfl); exact w_fit (by dsimp only [kIn]; first | done | omega)) | (apply wr_nil; try simp only [thenE, inBlockE, bodyQ]))
        exact ⟨(k + 1, true, st'), by dsimp only; omega, ⟨by trivial, hlt, hst', hk05, hown5, by omega, hsf5, .inl ⟨rfl, hR, hik'⟩⟩, rfl, rfl, rfl, rfl, by simp, trivial⟩
      · rw [hv] at hR
        (repeat first | (apply wr_move; exact rfl; with_reducible (conv => enter [6, 3]; whnf)) | (apply wr_assign; exact rfl; with_reducible (conv => enter [6, 3]; whnf)) | apply wr_end | apply wc_region | (apply wr_pick (t := true); (iterate 2 exact rfl); with_reducible (conv => enter [6, 3]; whnf)) | (apply wr_add; (iterate 3 exact rfl); exact w_fit (by dsimp only [kIn]; first | done | omega)) | (apply wr_nil; try simp only [thenE, inBlockE, bodyQ]))
        exact ⟨(k + 1, false, st'), by dsimp only; omega, ⟨by trivial, hlt, hst', hk05, hown5, by omega, hsf5, .inr ⟨rfl, hR⟩⟩, rfl, rfl, rfl, rfl, by simp, trivial⟩
    · refine wc_drawS (l := _) (S := fun w' => w' = w3.drew) (by kernel_rfl) (by kernel_rfl) rfl ?_
      repeat
        apply ch_step
        focus
          intro w' hS
          subst hS
          (repeat first | (apply wr_move; exact rfl; with_reducible (conv => enter [6, 3]; whnf)) | (apply wr_assign; exact rfl; with_reducible (conv => enter [6, 3]; whnf)) | (apply wr_pick (t := false); (iterate 2 exact rfl); with_reducible (conv => enter [6, 3]; whnf)) | (apply wr_nil; try simp only [thenE, inBlockE, bodyQ]) | (apply wr_skip; exact rfl))
          exact ⟨rfl, by trivial⟩
      refine ch_nil ?_
      intro w' hS
      subst hS
      have hkd : Keeps NoB w2 w3.drew := hk3.drew
      (repeat first | (apply wr_move; exact rfl; with_reducible (conv => enter [6, 3]; whnf)) | apply wr_end | apply wc_region | (apply wr_add; (iterate 3 exact rfl); exact w_fit (by dsimp only [kIn]; first | done | omega)))
      exact ⟨(k + 1, false, st), by dsimp only; omega, ⟨by trivial, hlt, M.keep st w2 _ hst hkd, hk2.trans' hkd (fun i hi h => h.elim), hown, Nat.le_trans hs2 hkd.size, hsf2.keep hkd (fun _ _ h => h), .inr ⟨rfl, hR⟩⟩, rfl, rfl, rfl, rfl, by simp, trivial⟩
  · have he : k = L.length := by omega
    subst he
    have hfin : ∀ b, own st b → own st0 b ∨ w.heap.size ≤ b := fun b hb => by
      rcases hown b hb with h | h
      · exact .inl h
      · exact .inr (by omega)
    rw [Nat.sub_self] at hR
    unfold tkAll at hR
    rcases hR with ⟨rfl, hR, _⟩ | ⟨rfl, hR⟩
    · (repeat first | (apply wr_move; exact rfl; with_reducible (conv => enter [6, 3]; whnf)) | (apply wr_assign; exact rfl; with_reducible (conv => enter [6, 3]; whnf)) | apply wr_end | apply wc_seq | apply wc_region | (apply wr_cmp; (iterate 3 exact rfl); exact cmpF (by dsimp only [cmpN]; first | done | omega)) | (apply wc_false; exact rfl) | (apply wc_exit; try simp only [thenE, inBlockE, bodyQ, ↓reduceIte, Nat.reduceEqDiff]) | (apply wc_ret; try simp only [thenE, inBlockE, bodyQ]))
      exact leave1 (v := .bool true) rfl rfl ⟨st, hst, hk2, hfin, .inl ⟨rfl, hR⟩⟩
    · (repeat first | (apply wr_move; exact rfl; with_reducible (conv => enter [6, 3]; whnf)) | (apply wr_assign; exact rfl; with_reducible (conv => enter [6, 3]; whnf)) | apply wr_end | apply wc_seq | apply wc_region | (apply wr_cmp; (iterate 3 exact rfl); exact cmpF (by dsimp only [cmpN]; first | done | omega)) | (apply wc_false; exact rfl) | (apply wc_exit; try simp only [thenE, inBlockE, bodyQ, ↓reduceIte, Nat.reduceEqDiff]) | (apply wc_ret; try simp only [thenE, inBlockE, bodyQ]))
      exact leave1 (v := .bool false) rfl rfl ⟨st, hst, hk2, hfin, .inr ⟨rfl, hR⟩⟩
end Go.Proofs.YthlbgeonobicbaaDoor
