/- payload.Put: what it does. -/
import Derived.Test.YthlbgeonobicbaaDoorYe
namespace Go.Proofs.YthlbgeonobicbaaDoor
open Go Go.V Go.RowKit
set_option linter.unusedVariables false
set_option linter.unusedSimpArgs false

/-- A payload. -/
structure PL where
  name : List UInt8
  port : Nat
  route : List UInt8
  rules : List RuleD
  policy : Nat
  secret : List UInt8
  addrs : List AddrD
  key : List UInt8
  deriving DecidableEq
structure PL.ok (p : PL) : Prop where
  name : p.name.length ≤ 3000000
  port : p.port < 18446744073709551616
  route : p.route.length ≤ 3000000
  rules : ∀ r ∈ p.rules, r.ok
  rulesN : p.rules.length ≤ 3000000
  policy : p.policy < 18446744073709551616
  secret : p.secret.length ≤ 3000000
  addrs : ∀ a ∈ p.addrs, a.ok
  addrsN : p.addrs.length ≤ 3000000
  key : p.key.length ≤ 3000000
def PlC (p : PL) (rv av : Value) : List Value := [S p.name, .int .u64 (p.port : Int), S p.route, rv, .int .u64 (p.policy : Int), S p.secret, av, S p.key]
abbrev PlV (p : PL) (rv av : Value) : Value := .agg #[S p.name, .int .u64 (p.port : Int), S p.route, rv, .int .u64 (p.policy : Int), S p.secret, av, S p.key]
/-- What its two slices read. -/
structure PlS (w : World) (p : PL) (rv av : Value) : Prop where
  r : SlR w 2 rv p.rules.length (p.rules.flatMap GR)
  a : SlR w 3 av p.addrs.length (p.addrs.flatMap GA)
theorem PlS.keep {D : Nat → Prop} {w w' : World} {p : PL} {rv av : Value} (h : PlS w p rv av) (k : Keeps D w w') (hr : ∀ b, rv.ownBlock = some b → ¬ D b) (ha : ∀ b, av.ownBlock = some b → ¬ D b) : PlS w' p rv av := ⟨h.r.keep k hr, h.a.keep k ha⟩
theorem PlS.kin {w w' : World} {p : PL} {rv av : Value} (h : PlS w p rv av) (k : Keeps NoB w w') : PlS w' p rv av := h.keep k (fun _ _ h => h) (fun _ _ h => h)
theorem slR_one {w : World} {sz n : Nat} {v : Value} {cs : List Value} (h : SlR w sz v n cs) : v.oneCell' = true := by
  obtain ⟨_, a, c, rfl, _⟩ := h; rfl
def partsB (p : PL) : List (List UInt8) := [txt 1 p.name, nmb 2 p.port, txt 3 p.route, listB 4 ruleB p.rules, nmb 5 p.policy, txt 6 p.secret, listB 7 addrB p.addrs, txt 8 p.key]
def lets : List (List UInt8) := [[], [112], [111], [114], [108], [115], [97], [107]]
def fldL (B : Nat → Nat) : List Fd := [textT [] (B 0), numT [112] (B 1), textT [111] (B 2), rulesT [114] (B 3) (B 8), numT [108] (B 4), textT [115] (B 5), addrsT [97] (B 6) (B 9), textT [107] (B 7)]
theorem fldL_flat (B : Nat → Nat) : (fldL B).flatMap G3 = (fldCs B).flatten := rfl
theorem fldL_one (B : Nat → Nat) : ∀ x ∈ fldL B, x.one := by
  intro x hx
  simp [fldL] at hx
  rcases hx with rfl | rfl | rfl | rfl | rfl | rfl | rfl | rfl <;> exact ⟨rfl, rfl, rfl⟩
theorem parts_len {p : PL} (h : p.ok) : (partsB p).flatten.length ≤ 40000000000000 := by
  have h1 := txt_len (k := 1) (s := p.name) (by have := h.name; omega)
  have h2 := nmb_len (k := 2) h.port
  have h3 := txt_len (k := 3) (s := p.route) (by have := h.route; omega)
  have h4 := listB_len 4 ruleB (m := 6000040) p.rules (fun x hx => ruleB_len (h.rules x hx)) (by decide)
  have h5 := nmb_len (k := 5) h.policy
  have h6 := txt_len (k := 6) (s := p.secret) (by have := h.secret; omega)
  have h7 := listB_len 7 addrB (m := 6000060) p.addrs (fun x hx => addrB_len (h.addrs x hx)) (by decide)
  have h8 := txt_len (k := 8) (s := p.key) (by have := h.key; omega)
  have m4 : p.rules.length * (6000040 + 20) ≤ 3000000 * (6000040 + 20) := Nat.mul_le_mul_right _ h.rulesN
  have m7 : p.addrs.length * (6000060 + 20) ≤ 3000000 * (6000060 + 20) := Nat.mul_le_mul_right _ h.addrsN
  have := h.name
  have := h.route
  have := h.secret
  have := h.key
  simp only [partsB, List.flatten_cons, List.flatten_nil, List.length_append, List.length_nil]
  omega
theorem fields_put {w : World} {p : PL} {rv av : Value} {b base : Nat} {B : Nat → Nat} {e : TypeId} {fr : Nat × Nat} (hp : p.ok) (hs : PlS w p rv av) (hFB : FB w b base B) (hb : w.heap[b]? = some (.cells (PlC p rv av).toArray e fr)) (k : Nat) (x : Fd) (bk : List UInt8) (hx : (fldL B)[k]? = some x) (hbk : (partsB p)[k]? = some bk) : PutAs w k x bk := by
  match k with
  | 0 => simp [fldL, partsB] at hx hbk; subst hx hbk; exact textT_put (k := 0) _ (by decide) (by have := hp.name; omega) hFB.h0.1 hb rfl
  | 1 => simp [fldL, partsB] at hx hbk; subst hx hbk; exact numT_put (k := 1) _ (by decide) hp.port hFB.h1.1 hb rfl
  | 2 => simp [fldL, partsB] at hx hbk; subst hx hbk; exact textT_put (k := 2) _ (by decide) (by have := hp.route; omega) hFB.h2.1 hb rfl
  | 3 =>
    simp [fldL, partsB] at hx hbk; subst hx hbk
    exact fun w' hk' => callV_of (by kernel_rfl) (rulesP_ca 4 (by decide) p.rules hp.rules hp.rulesN rv (hk'.heap hFB.h3.1 (fun h => h)) (hk'.heap hFB.h3.2.1 (fun h => h)) (hk'.heap hb (fun h => h)) rfl (hs.kin hk').r)
  | 4 => simp [fldL, partsB] at hx hbk; subst hx hbk; exact numT_put (k := 4) _ (by decide) hp.policy hFB.h4.1 hb rfl
  | 5 => simp [fldL, partsB] at hx hbk; subst hx hbk; exact textT_put (k := 5) _ (by decide) (by have := hp.secret; omega) hFB.h5.1 hb rfl
  | 6 =>
    simp [fldL, partsB] at hx hbk; subst hx hbk
    exact fun w' hk' => callV_of (by kernel_rfl) (addrsP_ca 7 (by decide) p.addrs hp.addrs hp.addrsN av (hk'.heap hFB.h6.1 (fun h => h)) (hk'.heap hFB.h6.2.1 (fun h => h)) (hk'.heap hb (fun h => h)) rfl (hs.kin hk').a)
  | 7 => simp [fldL, partsB] at hx hbk; subst hx hbk; exact textT_put (k := 7) _ (by decide) (by have := hp.key; omega) hFB.h7.1 hb rfl
  | k + 8 => simp [fldL] at hx
/-- May field i stand in a payload that has these letters? -/
def fitK (has : List UInt8) (p : PL) (i : Nat) : Bool := inF has (lets.getD i []) || decide ((partsB p).getD i [] = [])
def putP (kind : Int) (p : PL) : Option (List UInt8) :=
  if (hasF kind).2 = true ∧ p.rules.length ≤ 64 ∧ p.addrs.length ≤ 64 ∧ (List.range 8).all (fitK (hasF kind).1 p) = true then some (partsB p).flatten else none
theorem lets_letter (B : Nat → Nat) {k : Nat} {x : Fd} (hx : (fldL B)[k]? = some x) : x.1 = S (lets.getD k []) ∧ (lets.getD k []).length ≤ 1 := by
  match k with
  | 0 | 1 | 2 | 3 | 4 | 5 | 6 | 7 => simp [fldL] at hx; subst hx; exact ⟨rfl, by decide⟩
  | k + 8 => simp [fldL] at hx
set_option maxRecDepth 100000 in
set_option maxHeartbeats 4000000 in
theorem pPut_ca (kind : Int) (p : PL) (hp : p.ok) (rv av : Value) (w : World) (hs : PlS w p rv av) :
    Ca Tryd.prog 19 #[.int .i64 kind, PlV p rv av] w fun v w' => v = putV (putP kind p) ∧ Keeps NoB w w' := by
  have hr1 := slR_one hs.r
  have ha1 := slR_one hs.a
  refine ca_of_body (args := [.int .i64 kind, PlV p rv av]) Tryd.func19 rfl (by kernel_rfl) ?_
  (repeat first | (apply wr_move; exact rfl; with_reducible (conv => enter [6, 3]; whnf)) | (apply wr_assign; exact rfl; with_reducible (conv => enter [6, 3]; whnf)) | apply wr_end | apply wc_seq | apply wc_region | (apply wr_box; iterate 2 exact rfl))
  refine wr_call (vs := [.int .i64 kind]) rfl (has_ca kind _) rfl ?_
  rintro v w1 ⟨rfl, hk1⟩
  have hkw1 := ((Keeps.refl NoB w).alloc (.cells (PlV p rv av).cells 26)).trans hk1
  have hb1 : w1.heap[w.heap.size]? = some (.cells (PlC p rv av).toArray 26 (0, 0)) := hk1.heap (heap_alloc_same w (.cells (PlV p rv av).cells 26)) (fun h => h)
  have hs1 := hs.kin hkw1
  clear hk1
  obtain ⟨ar, cr, rfl, hcr, _⟩ := hs1.r.shape
  obtain ⟨aa, ca, rfl, hca, _⟩ := hs1.a.shape
  cases hok : (hasF kind).2 with
  | false =>
    (repeat first | (apply wr_move; exact rfl; with_reducible (conv => enter [6, 3]; whnf)) | (apply wr_assign; exact rfl; with_reducible (conv => enter [6, 3]; whnf)) | apply wr_end | apply wc_seq | apply wc_region | (apply wr_not; iterate 2 exact rfl) | (apply wr_pick (t := true); (iterate 2 exact rfl); with_reducible (conv => enter [6, 3]; whnf)) | (apply wr_extract; (iterate 3 exact rfl); with_reducible (conv => enter [6, 3]; whnf)) | (apply wc_true; exact rfl) | (apply wc_ret; try simp only [thenE, inBlockE, bodyQ]) | (apply wr_skip; exact rfl))
    refine leave2 (v1 := S []) (v2 := .bool false) rfl rfl rfl ⟨?_, hkw1⟩
    rw [show putP kind p = none from if_neg (fun h => by rw [hok] at h; exact absurd h.1 (by decide))]; rfl
  | true =>
    by_cases h64 : 64 < p.rules.length
    · (repeat first | (apply wr_move; exact rfl; with_reducible (conv => enter [6, 3]; whnf)) | (apply wr_assign; exact rfl; with_reducible (conv => enter [6, 3]; whnf)) | apply wr_end | apply wc_seq | apply wc_region | (apply wr_fieldAddr; iterate 2 exact rfl) | (apply wr_not; iterate 2 exact rfl) | (apply wr_len_slice; iterate 2 exact rfl) | (apply wr_load; (iterate 3 exact rfl); (focus repeat first | with_reducible assumption | exact heap_alloc_same _ _ | exact World.putObj_heap_same (by first | omega | (simp only [World.size_alloc, World.putObj_size, ne_eq]; omega)) | ((first | refine hAl ?_ ?_ | refine hPu ?_ ?_); focus first | omega | (simp only [World.size_alloc, World.putObj_size, ne_eq]; omega))); exact rfl; conv => enter [6, 3]; whnf) | (apply wr_cmp; (iterate 3 exact rfl); exact cmpT (by dsimp only [cmpP]; first | done | omega)) | (apply wr_pick (t := true); (iterate 2 exact rfl); with_reducible (conv => enter [6, 3]; whnf)) | (apply wr_pick (t := false); (iterate 2 exact rfl); with_reducible (conv => enter [6, 3]; whnf)) | (apply wr_extract; (iterate 3 exact rfl); with_reducible (conv => enter [6, 3]; whnf)) | (apply wc_true; exact rfl) | (apply wc_ret; try simp only [thenE, inBlockE, bodyQ]) | (apply wr_skip; exact rfl))
      refine leave2 (v1 := S []) (v2 := .bool false) rfl rfl rfl ⟨?_, hkw1⟩
      rw [show putP kind p = none from if_neg (fun h => by omega)]; rfl
    by_cases h64' : 64 < p.addrs.length
    · (repeat first | (apply wr_move; exact rfl; with_reducible (conv => enter [6, 3]; whnf)) | (apply wr_assign; exact rfl; with_reducible (conv => enter [6, 3]; whnf)) | apply wr_end | apply wc_seq | apply wc_region | (apply wr_fieldAddr; iterate 2 exact rfl) | (apply wr_not; iterate 2 exact rfl) | (apply wr_len_slice; iterate 2 exact rfl) | (apply wr_load; (iterate 3 exact rfl); (focus repeat first | with_reducible assumption | exact heap_alloc_same _ _ | exact World.putObj_heap_same (by first | omega | (simp only [World.size_alloc, World.putObj_size, ne_eq]; omega)) | ((first | refine hAl ?_ ?_ | refine hPu ?_ ?_); focus first | omega | (simp only [World.size_alloc, World.putObj_size, ne_eq]; omega))); exact rfl; conv => enter [6, 3]; whnf) | (apply wr_cmp; (iterate 3 exact rfl); exact cmpT (by dsimp only [cmpP]; first | done | omega)) | (apply wr_cmp; (iterate 3 exact rfl); exact cmpF (by dsimp only [cmpN]; first | done | omega)) | (apply wr_pick (t := false); (iterate 2 exact rfl); with_reducible (conv => enter [6, 3]; whnf)) | (apply wr_extract; (iterate 3 exact rfl); with_reducible (conv => enter [6, 3]; whnf)) | (apply wc_true; exact rfl) | (apply wc_ret; try simp only [thenE, inBlockE, bodyQ]))
      refine leave2 (v1 := S []) (v2 := .bool false) rfl rfl rfl ⟨?_, hkw1⟩
      rw [show putP kind p = none from if_neg (fun h => by omega)]; rfl
    (repeat first | (apply wr_move; exact rfl; with_reducible (conv => enter [6, 3]; whnf)) | (apply wr_assign; exact rfl; with_reducible (conv => enter [6, 3]; whnf)) | apply wr_end | apply wc_seq | apply wc_region | apply wc_skip | (apply wr_fieldAddr; iterate 2 exact rfl) | (apply wr_not; iterate 2 exact rfl) | (apply wr_len_slice; iterate 2 exact rfl) | (apply wr_load; (iterate 3 exact rfl); (focus repeat first | with_reducible assumption | exact heap_alloc_same _ _ | exact World.putObj_heap_same (by first | omega | (simp only [World.size_alloc, World.putObj_size, ne_eq]; omega)) | ((first | refine hAl ?_ ?_ | refine hPu ?_ ?_); focus first | omega | (simp only [World.size_alloc, World.putObj_size, ne_eq]; omega))); exact rfl; conv => enter [6, 3]; whnf) | (apply wr_cmp; (iterate 3 exact rfl); exact cmpF (by dsimp only [cmpN]; first | done | omega)) | (apply wr_pick (t := false); (iterate 2 exact rfl); with_reducible (conv => enter [6, 3]; whnf)) | (apply wr_extract; (iterate 3 exact rfl); with_reducible (conv => enter [6, 3]; whnf)) | (apply wc_false; exact rfl))
    refine wr_call (vs := [.pointer (some ⟨w.heap.size, 0, none⟩)]) rfl (fields_ca2 w.heap.size _) rfl ?_
    rintro v w2 ⟨g, B, rfl, hFS, hFB, hg, hk2⟩
    have hkw2 := hkw1.trans hk2
    have hs2 := hs1.kin hk2
    have hb2 := hk2.heap hb1 (fun h => h)
    have hputs := fields_put hp hs2 hFB hb2
    have hsl2 := FS_slR (L := fldL B) (n := 8) (by rw [fldL_flat]; exact hFS) rfl
    obtain ⟨hasL, hhas⟩ : ∃ l, l = (hasF kind).1 := ⟨_, rfl⟩
    rw [← hhas]
    (repeat first | (apply wr_move; exact rfl; with_reducible (conv => enter [6, 3]; whnf)) | (apply wr_assign; exact rfl; with_reducible (conv => enter [6, 3]; whnf)) | apply wr_end | apply wc_seq | apply wc_region | apply wc_block | (apply wr_len_slice; iterate 2 exact rfl))
    refine wc_loopL (α := Nat) (fun k => [(6, S hasL), (8, .slice (some ⟨g, 0, none⟩) 8 8), (31, .slice (some ⟨g, 0, none⟩) 8 8), (32, .int .i64 8), (33, .int .i64 (k : Int))])
      (fun k ds w' => ds = [] ∧ k ≤ 8 ∧ (∀ i, i < k → fitK hasL p i = true) ∧ Keeps NoB w2 w') (fun k => 8 - k) 0 ⟨rfl, Nat.zero_le _, fun i hi => by omega, Keeps.refl _ _⟩ ⟨rfl, rfl, rfl, rfl, rfl, trivial⟩ ?_
    rintro k ds f0 w3 ⟨rfl, hk8, hfit, hk3⟩
    by_cases hlt : k < 8
    · obtain ⟨x, hx⟩ : ∃ x, (fldL B)[k]? = some x := ⟨(fldL B)[k]'(by simp [fldL]; omega), by simp [fldL, hlt]⟩
      obtain ⟨bk, hbk⟩ : ∃ bk, (partsB p)[k]? = some bk := ⟨(partsB p)[k]'(by simp [partsB]; omega), by simp [partsB, hlt]⟩
      obtain ⟨hlet, hlet1⟩ := lets_letter B hx
      obtain ⟨o1, o2, o3⟩ := fldL_one B x (List.mem_of_getElem? hx)
      have hP := hputs k x bk hx hbk
      have hfk : fitK hasL p k = (inF hasL (lets.getD k []) || decide (bk = [])) := by unfold fitK; rw [List.getD_eq_getElem?_getD (l := partsB p), hbk]; rfl
      obtain ⟨x1, x2, x3⟩ := x
      dsimp only at hlet hP o1 o2 o3
      subst hlet
      have hgb := hk3.heap hFS (fun h => h)
      have hcast : (k : Int) + 1 = ((k + 1 : Nat) : Int) := by omega
      have hs3 := hk3.size
      (repeat first | (apply wr_move; exact rfl; with_reducible (conv => enter [6, 3]; whnf)) | apply wr_end | apply wc_seq | apply wc_region | apply wc_skip | apply wc_block | (apply wr_cmp; (iterate 3 exact rfl); exact cmpT (by dsimp only [cmpP]; first | done | omega)) | (apply wc_true; exact rfl))
      refine wr_indexAddr (i := k) rfl rfl rfl hlt ?_
      refine wr_loadElem (G := G3) (n := 8) (l := fldL B) rfl rfl G3_len rfl hgb (o := 0) (fun j hj => by rw [Nat.zero_add, fldL_flat, List.getElem?_toArray]) hlt hx rfl ?_
      (repeat first | (apply wr_assign; exact rfl; with_reducible (conv => enter [6, 3]; whnf)) | (apply wr_alloc; exact rfl))
      refine wr_storeAll (cs := [S (lets.getD k []), x2, x3]) rfl rfl rfl (by intro u hu; simp at hu; rcases hu with rfl | rfl | rfl; exact o1; exact o2; exact o3) (heap_alloc_same _ _) rfl rfl ?_
      obtain ⟨w4, hw4⟩ : ∃ w4, w4 = (w3.alloc (.cells (Value.agg #[S [], .nilFunc, .nilFunc]).cells 79)).putObj w3.heap.size (.cells #[S (lets.getD k []), x2, x3] 79 (0, 0)) := ⟨_, rfl⟩
      have hk4 : Keeps NoB w3 w4 := by rw [hw4]; exact ((Keeps.refl NoB w3).alloc _).put _ (fun h => by omega)
      have hf4 : w4.heap[w3.heap.size]? = some (.cells #[S (lets.getD k []), x2, x3] 79 (0, 0)) := by rw [hw4]; exact World.putObj_heap_same (by simp)
      rw [← hw4]
      clear hw4
      (repeat first | (apply wr_move; exact rfl; with_reducible (conv => enter [6, 3]; whnf)) | apply wr_end | apply wc_seq | apply wc_region | (apply wr_fieldAddr; iterate 2 exact rfl) | (apply wr_load; (iterate 3 exact rfl); (focus repeat first | with_reducible assumption | exact heap_alloc_same _ _ | exact World.putObj_heap_same (by first | omega | (simp only [World.size_alloc, World.putObj_size, ne_eq]; omega)) | ((first | refine hAl ?_ ?_ | refine hPu ?_ ?_); focus first | omega | (simp only [World.size_alloc, World.putObj_size, ne_eq]; omega))); exact rfl; conv => enter [6, 3]; whnf))
      refine wr_call (vs := [S hasL, S (lets.getD k [])]) rfl (contains_ca hasL (lets.getD k []) hlet1 _) rfl ?_
      rintro v w5 ⟨rfl, hw5⟩
      subst hw5
      cases hin : inF hasL (lets.getD k []) with
      | true =>
        (repeat first | (apply wr_move; exact rfl; with_reducible (conv => enter [6, 3]; whnf)) | apply wr_end | apply wc_region | apply wc_skip | (apply wr_not; iterate 2 exact rfl) | (apply wr_pick (t := false); (iterate 2 exact rfl); with_reducible (conv => enter [6, 3]; whnf)) | (apply wr_add; (iterate 3 exact rfl); exact w_fit (by dsimp only [kIn]; first | done | omega)) | (apply wc_false; exact rfl) | (apply wr_skip; exact rfl))
        exact ⟨k + 1, by omega, ⟨by trivial, hlt, fun i hi => by rcases Nat.lt_or_eq_of_le (Nat.le_of_lt_succ hi) with h | rfl; exact hfit i h; rw [hfk, hin]; rfl, hk3.trans hk4⟩, rfl, rfl, rfl, rfl, by simp, trivial⟩
      | false =>
        (repeat first | (apply wr_move; exact rfl; with_reducible (conv => enter [6, 3]; whnf)) | (apply wr_fieldAddr; iterate 2 exact rfl) | (apply wr_not; iterate 2 exact rfl) | (apply wr_load; (iterate 3 exact rfl); (focus repeat first | with_reducible assumption | exact heap_alloc_same _ _ | exact World.putObj_heap_same (by first | omega | (simp only [World.size_alloc, World.putObj_size, ne_eq]; omega)) | ((first | refine hAl ?_ ?_ | refine hPu ?_ ?_); focus first | omega | (simp only [World.size_alloc, World.putObj_size, ne_eq]; omega))); exact rfl; conv => enter [6, 3]; whnf) | (apply wr_add; (iterate 3 exact rfl); exact w_fit (by dsimp only [kIn]; first | done | omega)))
        rw [hcast]
        refine wr_callv rfl (hP w5 (hk3.trans hk4)) rfl rfl ?_
        rintro v w6 ⟨rfl, hk6⟩
        by_cases h0 : bk = []
        · subst h0
          (repeat first | (apply wr_move; exact rfl; with_reducible (conv => enter [6, 3]; whnf)) | apply wr_end | apply wc_region | apply wc_skip | (apply wr_pick (t := true); (iterate 2 exact rfl); with_reducible (conv => enter [6, 3]; whnf)) | (apply wr_add; (iterate 3 exact rfl); exact w_fit (by dsimp only [kIn]; first | done | omega)) | (apply wr_strnec; (iterate 3 exact rfl); (first | exact decide_eq_true (by with_reducible assumption) | exact decide_eq_false (by with_reducible assumption) | exact decide_eq_true rfl | exact rfl); with_reducible (conv => enter [6, 3]; whnf)) | (apply wc_false; exact rfl))
          exact ⟨k + 1, by omega, ⟨by trivial, hlt, fun i hi => by rcases Nat.lt_or_eq_of_le (Nat.le_of_lt_succ hi) with h | rfl; exact hfit i h; rw [hfk]; simp, hk3.trans (hk4.trans hk6)⟩, rfl, rfl, rfl, rfl, by simp, trivial⟩
        · (repeat first | (apply wr_assign; exact rfl; with_reducible (conv => enter [6, 3]; whnf)) | apply wr_end | apply wc_seq | apply wc_region | (apply wr_pick (t := true); (iterate 2 exact rfl); with_reducible (conv => enter [6, 3]; whnf)) | (apply wr_strnec; (iterate 3 exact rfl); (first | exact decide_eq_true (by with_reducible assumption) | exact decide_eq_false (by with_reducible assumption) | exact decide_eq_true rfl | exact rfl); with_reducible (conv => enter [6, 3]; whnf)) | (apply wc_true; exact rfl) | (apply wc_ret; try simp only [thenE, inBlockE, bodyQ]))
          refine leave2 (v1 := S []) (v2 := .bool false) rfl rfl rfl ⟨?_, hkw2.trans (hk3.trans (hk4.trans hk6))⟩
          rw [show putP kind p = none from if_neg (fun h => by have := List.all_eq_true.1 h.2.2.2 k (List.mem_range.2 hlt); rw [← hhas, hfk, hin, decide_eq_false h0] at this; exact absurd this (by decide))]; rfl
    · have he : k = 8 := by omega
      subst he
      (repeat first | (apply wr_move; exact rfl; with_reducible (conv => enter [6, 3]; whnf)) | apply wr_end | apply wc_seq | apply wc_region | (apply wr_cmp; (iterate 3 exact rfl); exact cmpF (by dsimp only [cmpN]; first | done | omega)) | (apply wc_false; exact rfl) | (apply wc_exit; try simp only [thenE, inBlockE, bodyQ, ↓reduceIte, Nat.reduceEqDiff]))
      refine wr_call (vs := [.slice (some ⟨g, 0, none⟩) 8 8]) rfl (pput_ca (fldL B) (partsB p) _ w3 (hsl2.keep hk3 (fun _ _ h => h)) (fldL_one B) rfl (by simp [fldL]) (fun k x bk hx hbk w' hk' => hputs k x bk hx hbk w' (hk3.trans hk')) (by have := parts_len hp; omega)) rfl ?_
      rintro v w4 ⟨rfl, hk4⟩
      (repeat first | (apply wr_assign; exact rfl; with_reducible (conv => enter [6, 3]; whnf)) | apply wr_end | (apply wc_ret; try simp only [thenE, inBlockE, bodyQ]))
      refine leave2 (v1 := S (partsB p).flatten) (v2 := .bool true) rfl rfl rfl ⟨?_, hkw2.trans (hk3.trans hk4)⟩
      rw [show putP kind p = some (partsB p).flatten from if_pos ⟨hok, by omega, by omega, by rw [← hhas]; exact List.all_eq_true.2 fun i hi => hfit i (List.mem_range.1 hi)⟩]; rfl
end Go.Proofs.YthlbgeonobicbaaDoor
