/- The document's answer to chapter 2: its Put. -/
import Derived.Test.YthlbgeonobicbaaDoorMe
import Derived.Test.YthlbgeonobicbaaDoorYs
namespace Go.Proofs.YthlbgeonobicbaaDoor
open Go Go.V Go.RowKit
set_option linter.unusedVariables false
set_option linter.unusedSimpArgs false

def bad1 (has : List UInt8) (p : PL) : Bool := !inF has [112] && !decide (p.port = 0)
def bad2 (has : List UInt8) (p : PL) : Bool := !inF has [111] && !decide (p.route = [])
def bad3 (has : List UInt8) (p : PL) : Bool := !inF has [114] && !decide (p.rules.length = 0)
def bad4 (has : List UInt8) (p : PL) : Bool := !inF has [108] && !decide (p.policy = 0)
def bad5 (has : List UInt8) (p : PL) : Bool := !inF has [115] && !decide (p.secret = [])
def bad6 (has : List UInt8) (p : PL) : Bool := !inF has [97] && !decide (p.addrs.length = 0)
def bad7 (has : List UInt8) (p : PL) : Bool := !inF has [107] && !decide (p.key = [])
theorem wr_cutN {P : Program} {ops : Array Oper} {Q : Post} {ds : List Deferred} {l : List Oper} {f : Env} {w : World} (n : Nat) (J : Env → World → Prop) (h1 : Wr P ops (fun e ds' f' w' => match e with | .normal => ds' = ds ∧ J f' w' | _ => False) ds (l.take n) f w)
    (h2 : ∀ f' w', J f' w' → Wr P ops Q ds (l.drop n) f' w') : Wr P ops Q ds l f w := by
  have := wr_cut (l.take n) (l2 := l.drop n) J h1 h2
  rwa [List.take_append_drop] at this
theorem fits_bad (has : List UInt8) (p : PL) : (List.range 8).all (fitK has p) = true ↔ bad1 has p = false ∧ bad2 has p = false ∧ bad3 has p = false ∧ bad4 has p = false ∧ bad5 has p = false ∧ bad6 has p = false ∧ bad7 has p = false := by
  rw [show List.range 8 = [0, 1, 2, 3, 4, 5, 6, 7] from rfl]
  obtain ⟨a1, a2, a3, a4, a5, a6, a7, a8⟩ := p
  simp only [List.all_cons, List.all_nil, fitK, Bool.and_eq_true, Bool.or_eq_true, decide_eq_true_eq, partsB, lets, List.getD_cons_zero, List.getD_cons_succ, and_true]
  rw [txt_nil (by decide), nmb_nil (by decide), txt_nil (by decide), listB_nil (by decide), nmb_nil (by decide), txt_nil (by decide), listB_nil (by decide), txt_nil (by decide)]
  rw [show inF has [] = true from rfl]
  unfold bad1 bad2 bad3 bad4 bad5 bad6 bad7
  have key : ∀ (b : Bool) (q : Prop) [Decidable q], (b = true ∨ q) ↔ ((!b && !decide q) = false) := fun b q _ => by
    cases b <;> by_cases q <;> simp [*]
  have l1 : (a4 = []) ↔ a4.length = 0 := List.length_eq_zero_iff.symm
  have l2 : (a7 = []) ↔ a7.length = 0 := List.length_eq_zero_iff.symm
  rw [l1, l2]
  simp only [true_or, true_and]
  rw [key, key, key, key, key, key, key]
theorem putP_bad {kind : Int} {p : PL} (h : ¬ ((bad1 (hasF kind).1 p = false ∧ bad2 (hasF kind).1 p = false ∧ bad3 (hasF kind).1 p = false ∧ bad4 (hasF kind).1 p = false ∧ bad5 (hasF kind).1 p = false ∧ bad6 (hasF kind).1 p = false ∧ bad7 (hasF kind).1 p = false))) : putP kind p = none := by
  unfold putP
  rw [if_neg (fun hh => h ((fits_bad _ _).1 hh.2.2.2))]
set_option maxRecDepth 100000 in
set_option maxHeartbeats 8000000 in
theorem rPut_ca (kind : Int) (p : PL) (hp : p.ok) (rv av : Value) (w : World) (hs : PlS w p rv av) :
    Ca Tryd.prog 12 #[.int .i64 kind, PlV p rv av] w fun v w' => v = putV (putP kind p) ∧ Keeps NoB w w' := by
  obtain ⟨ar, cr, rfl, hcr, hatr⟩ := hs.r.shape
  obtain ⟨aa, ca, rfl, hca, hata⟩ := hs.a.shape
  refine ca_of_body (args := [.int .i64 kind, PlV p (.slice ar p.rules.length cr) (.slice aa p.addrs.length ca)]) Tryd.func12 rfl (by kernel_rfl) ?_
  apply wc_seq
  apply wc_region
  refine wr_box (v := PlV p (.slice ar p.rules.length cr) (.slice aa p.addrs.length ca)) rfl rfl ?_
  obtain ⟨w0, hw0⟩ : ∃ w0, w0 = w.alloc (.cells (PlV p (.slice ar p.rules.length cr) (.slice aa p.addrs.length ca)).cells 37) := ⟨_, rfl⟩
  have hk0 : Keeps NoB w w0 := by rw [hw0]; exact (Keeps.refl NoB w).alloc _
  obtain ⟨pa, hpa⟩ : ∃ pa, pa = w.heap.size := ⟨_, rfl⟩
  have hA0 : w0.heap[pa]? = some (.cells (PlC p (.slice ar p.rules.length cr) (.slice aa p.addrs.length ca)).toArray 37 (0, 0)) := by rw [hw0, hpa]; exact heap_alloc_same _ _
  rw [← hw0, ← hpa]
  clear hw0
  (repeat first | (apply wr_move; exact rfl; with_reducible (conv => enter [6, 3]; whnf)) | (apply wr_assign; exact rfl; with_reducible (conv => enter [6, 3]; whnf)) | apply wr_end | apply wc_seq | apply wc_region)
  refine wr_call (vs := [.int .i64 kind]) rfl (rHas_ca kind w0) rfl ?_
  rintro v w1 ⟨rfl, hk1⟩
  have hw1 := hk0.trans hk1
  have hA := hk1.heap hA0 (fun h => h)
  have hhl : (hasF kind).1.length ≤ 2 := by unfold hasF; split; decide; split; decide; split; decide; split; decide; split; decide; decide
  have hpb := @putP_bad kind p
  have hpu : putP kind p = if (hasF kind).2 = true ∧ p.rules.length ≤ 64 ∧ p.addrs.length ≤ 64 ∧ (List.range 8).all (fitK (hasF kind).1 p) = true then some (partsB p).flatten else none := rfl
  generalize (hasF kind).1 = has at hhl hpb hpu ⊢
  generalize (hasF kind).2 = okh at hpu ⊢
  cases okh with
  | false =>
    rw [if_neg (fun h => by cases h.1)] at hpu
    (repeat first | (apply wr_move; exact rfl; with_reducible (conv => enter [6, 3]; whnf)) | (apply wr_assign; exact rfl; with_reducible (conv => enter [6, 3]; whnf)) | apply wr_end | apply wc_seq | apply wc_region | (apply wr_not; iterate 2 exact rfl) | (apply wr_pick (t := true); (iterate 2 exact rfl); with_reducible (conv => enter [6, 3]; whnf)) | (apply wr_extract; (iterate 3 exact rfl); with_reducible (conv => enter [6, 3]; whnf)) | (apply wc_true; exact rfl) | (apply wc_ret; try simp only [thenE, inBlockE, bodyQ]) | (apply wr_skip; exact rfl))
    exact leave2 (v1 := S []) (v2 := .bool false) rfl rfl rfl ⟨by rw [hpu]; rfl, hw1⟩
  | true =>
  by_cases hl1 : p.rules.length ≤ 64
  rotate_left
  · rw [if_neg (fun h => hl1 h.2.1)] at hpu
    (repeat first | (apply wr_move; exact rfl; with_reducible (conv => enter [6, 3]; whnf)) | (apply wr_assign; exact rfl; with_reducible (conv => enter [6, 3]; whnf)) | apply wr_end | apply wc_seq | apply wc_region | (apply wr_fieldAddr; iterate 2 exact rfl) | (apply wr_not; iterate 2 exact rfl) | (apply wr_len_slice; iterate 2 exact rfl) | (apply wr_load; (iterate 3 exact rfl); (focus repeat first | with_reducible assumption | exact heap_alloc_same _ _ | exact World.putObj_heap_same (by first | omega | (simp only [World.size_alloc, World.putObj_size, ne_eq]; omega)) | ((first | refine hAl ?_ ?_ | refine hPu ?_ ?_); focus first | omega | (simp only [World.size_alloc, World.putObj_size, ne_eq]; omega))); exact rfl; conv => enter [6, 3]; whnf) | (apply wr_cmp; (iterate 3 exact rfl); exact cmpT (by dsimp only [cmpP]; first | done | omega)) | (apply wr_pick (t := true); (iterate 2 exact rfl); with_reducible (conv => enter [6, 3]; whnf)) | (apply wr_pick (t := false); (iterate 2 exact rfl); with_reducible (conv => enter [6, 3]; whnf)) | (apply wr_extract; (iterate 3 exact rfl); with_reducible (conv => enter [6, 3]; whnf)) | (apply wc_true; exact rfl) | (apply wc_ret; try simp only [thenE, inBlockE, bodyQ]) | (apply wr_skip; exact rfl))
    exact leave2 (v1 := S []) (v2 := .bool false) rfl rfl rfl ⟨by rw [hpu]; rfl, hw1⟩
  by_cases hl2 : p.addrs.length ≤ 64
  rotate_left
  · rw [if_neg (fun h => hl2 h.2.2.1)] at hpu
    (repeat first | (apply wr_move; exact rfl; with_reducible (conv => enter [6, 3]; whnf)) | (apply wr_assign; exact rfl; with_reducible (conv => enter [6, 3]; whnf)) | apply wr_end | apply wc_seq | apply wc_region | (apply wr_fieldAddr; iterate 2 exact rfl) | (apply wr_not; iterate 2 exact rfl) | (apply wr_len_slice; iterate 2 exact rfl) | (apply wr_load; (iterate 3 exact rfl); (focus repeat first | with_reducible assumption | exact heap_alloc_same _ _ | exact World.putObj_heap_same (by first | omega | (simp only [World.size_alloc, World.putObj_size, ne_eq]; omega)) | ((first | refine hAl ?_ ?_ | refine hPu ?_ ?_); focus first | omega | (simp only [World.size_alloc, World.putObj_size, ne_eq]; omega))); exact rfl; conv => enter [6, 3]; whnf) | (apply wr_cmp; (iterate 3 exact rfl); exact cmpT (by dsimp only [cmpP]; first | done | omega)) | (apply wr_cmp; (iterate 3 exact rfl); exact cmpF (by dsimp only [cmpN]; first | done | omega)) | (apply wr_pick (t := false); (iterate 2 exact rfl); with_reducible (conv => enter [6, 3]; whnf)) | (apply wr_extract; (iterate 3 exact rfl); with_reducible (conv => enter [6, 3]; whnf)) | (apply wc_true; exact rfl) | (apply wc_ret; try simp only [thenE, inBlockE, bodyQ]))
    exact leave2 (v1 := S []) (v2 := .bool false) rfl rfl rfl ⟨by rw [hpu]; rfl, hw1⟩
  (repeat first | (apply wr_move; exact rfl; with_reducible (conv => enter [6, 3]; whnf)) | (apply wr_assign; exact rfl; with_reducible (conv => enter [6, 3]; whnf)) | apply wr_end | apply wc_seq | apply wc_region | apply wc_skip | (apply wr_fieldAddr; iterate 2 exact rfl) | (apply wr_not; iterate 2 exact rfl) | (apply wr_len_slice; iterate 2 exact rfl) | (apply wr_load; (iterate 3 exact rfl); (focus repeat first | with_reducible assumption | exact heap_alloc_same _ _ | exact World.putObj_heap_same (by first | omega | (simp only [World.size_alloc, World.putObj_size, ne_eq]; omega)) | ((first | refine hAl ?_ ?_ | refine hPu ?_ ?_); focus first | omega | (simp only [World.size_alloc, World.putObj_size, ne_eq]; omega))); exact rfl; conv => enter [6, 3]; whnf) | (apply wr_cmp; (iterate 3 exact rfl); exact cmpF (by dsimp only [cmpN]; first | done | omega)) | (apply wr_pick (t := false); (iterate 2 exact rfl); with_reducible (conv => enter [6, 3]; whnf)) | (apply wr_extract; (iterate 3 exact rfl); with_reducible (conv => enter [6, 3]; whnf)) | (apply wc_false; exact rfl))
  refine wr_cutN 8 (fun f' w' => Slots f' [(3, .pointer (some ⟨pa, 0, none⟩)), (6, S has), (38, .bool (bad1 has p))] ∧ Keeps NoB w1 w') ?_ ?_
  · skip
    refine wr_call (vs := [S has, .int .u8 112]) rfl (rIn_ca has 112 (by omega) w1) rfl ?_
    rintro v w'' ⟨rfl, hkk⟩
    have hA := hkk.heap hA (fun h => h)
    cases hin : inF has [112] with
    | true =>
      have hb : bad1 has p = false := by unfold bad1; rw [hin]; rfl
      rw [hb]
      (repeat first | (apply wr_move; exact rfl; with_reducible (conv => enter [6, 3]; whnf)) | (apply wr_not; iterate 2 exact rfl) | (apply wr_pick (t := false); (iterate 2 exact rfl); with_reducible (conv => enter [6, 3]; whnf)) | (apply wr_nil; try simp only [thenE, inBlockE, bodyQ]) | (apply wr_skip; exact rfl))
      exact ⟨by trivial, ⟨rfl, rfl, rfl, trivial⟩, hkk⟩
    | false =>
      by_cases hz : p.port = 0
      · have hb : bad1 has p = false := by unfold bad1; rw [hin, decide_eq_true hz]; rfl
        rw [hb]
        (repeat first | (apply wr_move; exact rfl; with_reducible (conv => enter [6, 3]; whnf)) | (apply wr_fieldAddr; iterate 2 exact rfl) | (apply wr_not; iterate 2 exact rfl) | (apply wr_load; (iterate 3 exact rfl); (focus repeat first | with_reducible assumption | exact heap_alloc_same _ _ | exact World.putObj_heap_same (by first | omega | (simp only [World.size_alloc, World.putObj_size, ne_eq]; omega)) | ((first | refine hAl ?_ ?_ | refine hPu ?_ ?_); focus first | omega | (simp only [World.size_alloc, World.putObj_size, ne_eq]; omega))); exact rfl; conv => enter [6, 3]; whnf) | (apply wr_cmp; (iterate 3 exact rfl); exact cmpF (by dsimp only [cmpN]; first | done | omega)) | (apply wr_pick (t := true); (iterate 2 exact rfl); with_reducible (conv => enter [6, 3]; whnf)) | (apply wr_nil; try simp only [thenE, inBlockE, bodyQ]))
        exact ⟨by trivial, ⟨rfl, rfl, rfl, trivial⟩, hkk⟩
      · have hb : bad1 has p = true := by unfold bad1; rw [hin, decide_eq_false hz]; rfl
        rw [hb]
        (repeat first | (apply wr_move; exact rfl; with_reducible (conv => enter [6, 3]; whnf)) | (apply wr_fieldAddr; iterate 2 exact rfl) | (apply wr_not; iterate 2 exact rfl) | (apply wr_load; (iterate 3 exact rfl); (focus repeat first | with_reducible assumption | exact heap_alloc_same _ _ | exact World.putObj_heap_same (by first | omega | (simp only [World.size_alloc, World.putObj_size, ne_eq]; omega)) | ((first | refine hAl ?_ ?_ | refine hPu ?_ ?_); focus first | omega | (simp only [World.size_alloc, World.putObj_size, ne_eq]; omega))); exact rfl; conv => enter [6, 3]; whnf) | (apply wr_cmp; (iterate 3 exact rfl); exact cmpT (by dsimp only [cmpP]; first | done | omega)) | (apply wr_pick (t := true); (iterate 2 exact rfl); with_reducible (conv => enter [6, 3]; whnf)) | (apply wr_nil; try simp only [thenE, inBlockE, bodyQ]))
        exact ⟨by trivial, ⟨rfl, rfl, rfl, trivial⟩, hkk⟩
  rintro f2 w2 ⟨hsl, hk2⟩
  refine wr_keep _ hsl ?_
  intro f0
  clear hsl
  have hw2 := hw1.trans hk2
  replace hA := hk2.heap hA (fun h => h)
  cases hb1 : bad1 has p with
  | true =>
    (repeat first | (apply wr_move; exact rfl; with_reducible (conv => enter [6, 3]; whnf)) | (apply wr_assign; exact rfl; with_reducible (conv => enter [6, 3]; whnf)) | apply wr_end | apply wc_seq | apply wc_region | (apply wr_pick (t := true); (iterate 2 exact rfl); with_reducible (conv => enter [6, 3]; whnf)) | (apply wc_true; exact rfl) | (apply wc_ret; try simp only [thenE, inBlockE, bodyQ]) | (apply wr_skip; exact rfl))
    exact leave2 (v1 := S []) (v2 := .bool false) rfl rfl rfl ⟨by rw [hpb (fun hh => by have := hh.1; rw [hb1] at this; cases this)]; rfl, hw2⟩
  | false =>
  refine wr_cutN 10 (fun f' w' => Slots f' [(3, .pointer (some ⟨pa, 0, none⟩)), (6, S has), (48, .bool (bad2 has p))] ∧ Keeps NoB w2 w') ?_ ?_
  · (repeat first | (apply wr_move; exact rfl; with_reducible (conv => enter [6, 3]; whnf)))
    refine wr_call (vs := [S has, .int .u8 111]) rfl (rIn_ca has 111 (by omega) w2) rfl ?_
    rintro v w'' ⟨rfl, hkk⟩
    have hA := hkk.heap hA (fun h => h)
    cases hin : inF has [111] with
    | true =>
      have hb : bad2 has p = false := by unfold bad2; rw [hin]; rfl
      rw [hb]
      (repeat first | (apply wr_move; exact rfl; with_reducible (conv => enter [6, 3]; whnf)) | (apply wr_not; iterate 2 exact rfl) | (apply wr_pick (t := false); (iterate 2 exact rfl); with_reducible (conv => enter [6, 3]; whnf)) | (apply wr_nil; try simp only [thenE, inBlockE, bodyQ]) | (apply wr_skip; exact rfl))
      exact ⟨by trivial, ⟨rfl, rfl, rfl, trivial⟩, hkk⟩
    | false =>
      by_cases hz : p.route = []
      · have hb : bad2 has p = false := by unfold bad2; rw [hin, decide_eq_true hz]; rfl
        rw [hb]
        (repeat first | (apply wr_move; exact rfl; with_reducible (conv => enter [6, 3]; whnf)) | (apply wr_fieldAddr; iterate 2 exact rfl) | (apply wr_not; iterate 2 exact rfl) | (apply wr_load; (iterate 3 exact rfl); (focus repeat first | with_reducible assumption | exact heap_alloc_same _ _ | exact World.putObj_heap_same (by first | omega | (simp only [World.size_alloc, World.putObj_size, ne_eq]; omega)) | ((first | refine hAl ?_ ?_ | refine hPu ?_ ?_); focus first | omega | (simp only [World.size_alloc, World.putObj_size, ne_eq]; omega))); exact rfl; conv => enter [6, 3]; whnf) | (apply wr_pick (t := true); (iterate 2 exact rfl); with_reducible (conv => enter [6, 3]; whnf)) | (apply wr_pick (t := false); (iterate 2 exact rfl); with_reducible (conv => enter [6, 3]; whnf)) | (apply wr_strnec; (iterate 3 exact rfl); (first | exact decide_eq_true (by with_reducible assumption) | exact decide_eq_false (by with_reducible assumption) | exact decide_eq_true rfl | exact rfl); with_reducible (conv => enter [6, 3]; whnf)) | (apply wr_nil; try simp only [thenE, inBlockE, bodyQ]))
        exact ⟨by trivial, ⟨rfl, rfl, rfl, trivial⟩, hkk⟩
      · have hb : bad2 has p = true := by unfold bad2; rw [hin, decide_eq_false hz]; rfl
        rw [hb]
        (repeat first | (apply wr_move; exact rfl; with_reducible (conv => enter [6, 3]; whnf)) | (apply wr_fieldAddr; iterate 2 exact rfl) | (apply wr_not; iterate 2 exact rfl) | (apply wr_load; (iterate 3 exact rfl); (focus repeat first | with_reducible assumption | exact heap_alloc_same _ _ | exact World.putObj_heap_same (by first | omega | (simp only [World.size_alloc, World.putObj_size, ne_eq]; omega)) | ((first | refine hAl ?_ ?_ | refine hPu ?_ ?_); focus first | omega | (simp only [World.size_alloc, World.putObj_size, ne_eq]; omega))); exact rfl; conv => enter [6, 3]; whnf) | (apply wr_pick (t := true); (iterate 2 exact rfl); with_reducible (conv => enter [6, 3]; whnf)) | (apply wr_pick (t := false); (iterate 2 exact rfl); with_reducible (conv => enter [6, 3]; whnf)) | (apply wr_strnec; (iterate 3 exact rfl); (first | exact decide_eq_true (by with_reducible assumption) | exact decide_eq_false (by with_reducible assumption) | exact decide_eq_true rfl | exact rfl); with_reducible (conv => enter [6, 3]; whnf)) | (apply wr_nil; try simp only [thenE, inBlockE, bodyQ]))
        exact ⟨by trivial, ⟨rfl, rfl, rfl, trivial⟩, hkk⟩
  rintro f3 w3 ⟨hsl, hk3⟩
  refine wr_keep _ hsl ?_
  intro f0
  clear hsl
  have hw3 := hw2.trans hk3
  replace hA := hk3.heap hA (fun h => h)
  cases hb2 : bad2 has p with
  | true =>
    (repeat first | (apply wr_move; exact rfl; with_reducible (conv => enter [6, 3]; whnf)) | (apply wr_assign; exact rfl; with_reducible (conv => enter [6, 3]; whnf)) | apply wr_end | apply wc_seq | apply wc_region | (apply wr_pick (t := true); (iterate 2 exact rfl); with_reducible (conv => enter [6, 3]; whnf)) | (apply wc_true; exact rfl) | (apply wc_ret; try simp only [thenE, inBlockE, bodyQ]) | (apply wr_skip; exact rfl))
    exact leave2 (v1 := S []) (v2 := .bool false) rfl rfl rfl ⟨by rw [hpb (fun hh => by have := hh.2.1; rw [hb2] at this; cases this)]; rfl, hw3⟩
  | false =>
  refine wr_cutN 11 (fun f' w' => Slots f' [(3, .pointer (some ⟨pa, 0, none⟩)), (6, S has), (59, .bool (bad3 has p))] ∧ Keeps NoB w3 w') ?_ ?_
  · (repeat first | (apply wr_move; exact rfl; with_reducible (conv => enter [6, 3]; whnf)))
    refine wr_call (vs := [S has, .int .u8 114]) rfl (rIn_ca has 114 (by omega) w3) rfl ?_
    rintro v w'' ⟨rfl, hkk⟩
    have hA := hkk.heap hA (fun h => h)
    cases hin : inF has [114] with
    | true =>
      have hb : bad3 has p = false := by unfold bad3; rw [hin]; rfl
      rw [hb]
      (repeat first | (apply wr_move; exact rfl; with_reducible (conv => enter [6, 3]; whnf)) | (apply wr_not; iterate 2 exact rfl) | (apply wr_pick (t := false); (iterate 2 exact rfl); with_reducible (conv => enter [6, 3]; whnf)) | (apply wr_nil; try simp only [thenE, inBlockE, bodyQ]) | (apply wr_skip; exact rfl))
      exact ⟨by trivial, ⟨rfl, rfl, rfl, trivial⟩, hkk⟩
    | false =>
      by_cases hz : p.rules.length = 0
      · have hb : bad3 has p = false := by unfold bad3; rw [hin, decide_eq_true hz]; rfl
        rw [hb]
        (repeat first | (apply wr_move; exact rfl; with_reducible (conv => enter [6, 3]; whnf)) | (apply wr_fieldAddr; iterate 2 exact rfl) | (apply wr_not; iterate 2 exact rfl) | (apply wr_len_slice; iterate 2 exact rfl) | (apply wr_load; (iterate 3 exact rfl); (focus repeat first | with_reducible assumption | exact heap_alloc_same _ _ | exact World.putObj_heap_same (by first | omega | (simp only [World.size_alloc, World.putObj_size, ne_eq]; omega)) | ((first | refine hAl ?_ ?_ | refine hPu ?_ ?_); focus first | omega | (simp only [World.size_alloc, World.putObj_size, ne_eq]; omega))); exact rfl; conv => enter [6, 3]; whnf) | (apply wr_cmp; (iterate 3 exact rfl); exact cmpF (by dsimp only [cmpN]; first | done | omega)) | (apply wr_pick (t := true); (iterate 2 exact rfl); with_reducible (conv => enter [6, 3]; whnf)) | (apply wr_pick (t := false); (iterate 2 exact rfl); with_reducible (conv => enter [6, 3]; whnf)) | (apply wr_nil; try simp only [thenE, inBlockE, bodyQ]))
        exact ⟨by trivial, ⟨rfl, rfl, rfl, trivial⟩, hkk⟩
      · have hb : bad3 has p = true := by unfold bad3; rw [hin, decide_eq_false hz]; rfl
        rw [hb]
        (repeat first | (apply wr_move; exact rfl; with_reducible (conv => enter [6, 3]; whnf)) | (apply wr_fieldAddr; iterate 2 exact rfl) | (apply wr_not; iterate 2 exact rfl) | (apply wr_len_slice; iterate 2 exact rfl) | (apply wr_load; (iterate 3 exact rfl); (focus repeat first | with_reducible assumption | exact heap_alloc_same _ _ | exact World.putObj_heap_same (by first | omega | (simp only [World.size_alloc, World.putObj_size, ne_eq]; omega)) | ((first | refine hAl ?_ ?_ | refine hPu ?_ ?_); focus first | omega | (simp only [World.size_alloc, World.putObj_size, ne_eq]; omega))); exact rfl; conv => enter [6, 3]; whnf) | (apply wr_cmp; (iterate 3 exact rfl); exact cmpT (by dsimp only [cmpP]; first | done | omega)) | (apply wr_pick (t := true); (iterate 2 exact rfl); with_reducible (conv => enter [6, 3]; whnf)) | (apply wr_pick (t := false); (iterate 2 exact rfl); with_reducible (conv => enter [6, 3]; whnf)) | (apply wr_nil; try simp only [thenE, inBlockE, bodyQ]))
        exact ⟨by trivial, ⟨rfl, rfl, rfl, trivial⟩, hkk⟩
  rintro f4 w4 ⟨hsl, hk4⟩
  refine wr_keep _ hsl ?_
  intro f0
  clear hsl
  have hw4 := hw3.trans hk4
  replace hA := hk4.heap hA (fun h => h)
  cases hb3 : bad3 has p with
  | true =>
    (repeat first | (apply wr_move; exact rfl; with_reducible (conv => enter [6, 3]; whnf)) | (apply wr_assign; exact rfl; with_reducible (conv => enter [6, 3]; whnf)) | apply wr_end | apply wc_seq | apply wc_region | (apply wr_pick (t := true); (iterate 2 exact rfl); with_reducible (conv => enter [6, 3]; whnf)) | (apply wc_true; exact rfl) | (apply wc_ret; try simp only [thenE, inBlockE, bodyQ]) | (apply wr_skip; exact rfl))
    exact leave2 (v1 := S []) (v2 := .bool false) rfl rfl rfl ⟨by rw [hpb (fun hh => by have := hh.2.2.1; rw [hb3] at this; cases this)]; rfl, hw4⟩
  | false =>
  refine wr_cutN 10 (fun f' w' => Slots f' [(3, .pointer (some ⟨pa, 0, none⟩)), (6, S has), (69, .bool (bad4 has p))] ∧ Keeps NoB w4 w') ?_ ?_
  · (repeat first | (apply wr_move; exact rfl; with_reducible (conv => enter [6, 3]; whnf)))
    refine wr_call (vs := [S has, .int .u8 108]) rfl (rIn_ca has 108 (by omega) w4) rfl ?_
    rintro v w'' ⟨rfl, hkk⟩
    have hA := hkk.heap hA (fun h => h)
    cases hin : inF has [108] with
    | true =>
      have hb : bad4 has p = false := by unfold bad4; rw [hin]; rfl
      rw [hb]
      (repeat first | (apply wr_move; exact rfl; with_reducible (conv => enter [6, 3]; whnf)) | (apply wr_not; iterate 2 exact rfl) | (apply wr_pick (t := false); (iterate 2 exact rfl); with_reducible (conv => enter [6, 3]; whnf)) | (apply wr_nil; try simp only [thenE, inBlockE, bodyQ]) | (apply wr_skip; exact rfl))
      exact ⟨by trivial, ⟨rfl, rfl, rfl, trivial⟩, hkk⟩
    | false =>
      by_cases hz : p.policy = 0
      · have hb : bad4 has p = false := by unfold bad4; rw [hin, decide_eq_true hz]; rfl
        rw [hb]
        (repeat first | (apply wr_move; exact rfl; with_reducible (conv => enter [6, 3]; whnf)) | (apply wr_fieldAddr; iterate 2 exact rfl) | (apply wr_not; iterate 2 exact rfl) | (apply wr_load; (iterate 3 exact rfl); (focus repeat first | with_reducible assumption | exact heap_alloc_same _ _ | exact World.putObj_heap_same (by first | omega | (simp only [World.size_alloc, World.putObj_size, ne_eq]; omega)) | ((first | refine hAl ?_ ?_ | refine hPu ?_ ?_); focus first | omega | (simp only [World.size_alloc, World.putObj_size, ne_eq]; omega))); exact rfl; conv => enter [6, 3]; whnf) | (apply wr_cmp; (iterate 3 exact rfl); exact cmpF (by dsimp only [cmpN]; first | done | omega)) | (apply wr_pick (t := true); (iterate 2 exact rfl); with_reducible (conv => enter [6, 3]; whnf)) | (apply wr_pick (t := false); (iterate 2 exact rfl); with_reducible (conv => enter [6, 3]; whnf)) | (apply wr_nil; try simp only [thenE, inBlockE, bodyQ]))
        exact ⟨by trivial, ⟨rfl, rfl, rfl, trivial⟩, hkk⟩
      · have hb : bad4 has p = true := by unfold bad4; rw [hin, decide_eq_false hz]; rfl
        rw [hb]
        (repeat first | (apply wr_move; exact rfl; with_reducible (conv => enter [6, 3]; whnf)) | (apply wr_fieldAddr; iterate 2 exact rfl) | (apply wr_not; iterate 2 exact rfl) | (apply wr_load; (iterate 3 exact rfl); (focus repeat first | with_reducible assumption | exact heap_alloc_same _ _ | exact World.putObj_heap_same (by first | omega | (simp only [World.size_alloc, World.putObj_size, ne_eq]; omega)) | ((first | refine hAl ?_ ?_ | refine hPu ?_ ?_); focus first | omega | (simp only [World.size_alloc, World.putObj_size, ne_eq]; omega))); exact rfl; conv => enter [6, 3]; whnf) | (apply wr_cmp; (iterate 3 exact rfl); exact cmpT (by dsimp only [cmpP]; first | done | omega)) | (apply wr_pick (t := true); (iterate 2 exact rfl); with_reducible (conv => enter [6, 3]; whnf)) | (apply wr_pick (t := false); (iterate 2 exact rfl); with_reducible (conv => enter [6, 3]; whnf)) | (apply wr_nil; try simp only [thenE, inBlockE, bodyQ]))
        exact ⟨by trivial, ⟨rfl, rfl, rfl, trivial⟩, hkk⟩
  rintro f5 w5 ⟨hsl, hk5⟩
  refine wr_keep _ hsl ?_
  intro f0
  clear hsl
  have hw5 := hw4.trans hk5
  replace hA := hk5.heap hA (fun h => h)
  cases hb4 : bad4 has p with
  | true =>
    (repeat first | (apply wr_move; exact rfl; with_reducible (conv => enter [6, 3]; whnf)) | (apply wr_assign; exact rfl; with_reducible (conv => enter [6, 3]; whnf)) | apply wr_end | apply wc_seq | apply wc_region | (apply wr_pick (t := true); (iterate 2 exact rfl); with_reducible (conv => enter [6, 3]; whnf)) | (apply wc_true; exact rfl) | (apply wc_ret; try simp only [thenE, inBlockE, bodyQ]) | (apply wr_skip; exact rfl))
    exact leave2 (v1 := S []) (v2 := .bool false) rfl rfl rfl ⟨by rw [hpb (fun hh => by have := hh.2.2.2.1; rw [hb4] at this; cases this)]; rfl, hw5⟩
  | false =>
  refine wr_cutN 10 (fun f' w' => Slots f' [(3, .pointer (some ⟨pa, 0, none⟩)), (6, S has), (79, .bool (bad5 has p))] ∧ Keeps NoB w5 w') ?_ ?_
  · (repeat first | (apply wr_move; exact rfl; with_reducible (conv => enter [6, 3]; whnf)))
    refine wr_call (vs := [S has, .int .u8 115]) rfl (rIn_ca has 115 (by omega) w5) rfl ?_
    rintro v w'' ⟨rfl, hkk⟩
    have hA := hkk.heap hA (fun h => h)
    cases hin : inF has [115] with
    | true =>
      have hb : bad5 has p = false := by unfold bad5; rw [hin]; rfl
      rw [hb]
      (repeat first | (apply wr_move; exact rfl; with_reducible (conv => enter [6, 3]; whnf)) | (apply wr_not; iterate 2 exact rfl) | (apply wr_pick (t := false); (iterate 2 exact rfl); with_reducible (conv => enter [6, 3]; whnf)) | (apply wr_nil; try simp only [thenE, inBlockE, bodyQ]) | (apply wr_skip; exact rfl))
      exact ⟨by trivial, ⟨rfl, rfl, rfl, trivial⟩, hkk⟩
    | false =>
      by_cases hz : p.secret = []
      · have hb : bad5 has p = false := by unfold bad5; rw [hin, decide_eq_true hz]; rfl
        rw [hb]
        (repeat first | (apply wr_move; exact rfl; with_reducible (conv => enter [6, 3]; whnf)) | (apply wr_fieldAddr; iterate 2 exact rfl) | (apply wr_not; iterate 2 exact rfl) | (apply wr_load; (iterate 3 exact rfl); (focus repeat first | with_reducible assumption | exact heap_alloc_same _ _ | exact World.putObj_heap_same (by first | omega | (simp only [World.size_alloc, World.putObj_size, ne_eq]; omega)) | ((first | refine hAl ?_ ?_ | refine hPu ?_ ?_); focus first | omega | (simp only [World.size_alloc, World.putObj_size, ne_eq]; omega))); exact rfl; conv => enter [6, 3]; whnf) | (apply wr_pick (t := true); (iterate 2 exact rfl); with_reducible (conv => enter [6, 3]; whnf)) | (apply wr_pick (t := false); (iterate 2 exact rfl); with_reducible (conv => enter [6, 3]; whnf)) | (apply wr_strnec; (iterate 3 exact rfl); (first | exact decide_eq_true (by with_reducible assumption) | exact decide_eq_false (by with_reducible assumption) | exact decide_eq_true rfl | exact rfl); with_reducible (conv => enter [6, 3]; whnf)) | (apply wr_nil; try simp only [thenE, inBlockE, bodyQ]))
        exact ⟨by trivial, ⟨rfl, rfl, rfl, trivial⟩, hkk⟩
      · have hb : bad5 has p = true := by unfold bad5; rw [hin, decide_eq_false hz]; rfl
        rw [hb]
        (repeat first | (apply wr_move; exact rfl; with_reducible (conv => enter [6, 3]; whnf)) | (apply wr_fieldAddr; iterate 2 exact rfl) | (apply wr_not; iterate 2 exact rfl) | (apply wr_load; (iterate 3 exact rfl); (focus repeat first | with_reducible assumption | exact heap_alloc_same _ _ | exact World.putObj_heap_same (by first | omega | (simp only [World.size_alloc, World.putObj_size, ne_eq]; omega)) | ((first | refine hAl ?_ ?_ | refine hPu ?_ ?_); focus first | omega | (simp only [World.size_alloc, World.putObj_size, ne_eq]; omega))); exact rfl; conv => enter [6, 3]; whnf) | (apply wr_pick (t := true); (iterate 2 exact rfl); with_reducible (conv => enter [6, 3]; whnf)) | (apply wr_pick (t := false); (iterate 2 exact rfl); with_reducible (conv => enter [6, 3]; whnf)) | (apply wr_strnec; (iterate 3 exact rfl); (first | exact decide_eq_true (by with_reducible assumption) | exact decide_eq_false (by with_reducible assumption) | exact decide_eq_true rfl | exact rfl); with_reducible (conv => enter [6, 3]; whnf)) | (apply wr_nil; try simp only [thenE, inBlockE, bodyQ]))
        exact ⟨by trivial, ⟨rfl, rfl, rfl, trivial⟩, hkk⟩
  rintro f6 w6 ⟨hsl, hk6⟩
  refine wr_keep _ hsl ?_
  intro f0
  clear hsl
  have hw6 := hw5.trans hk6
  replace hA := hk6.heap hA (fun h => h)
  cases hb5 : bad5 has p with
  | true =>
    (repeat first | (apply wr_move; exact rfl; with_reducible (conv => enter [6, 3]; whnf)) | (apply wr_assign; exact rfl; with_reducible (conv => enter [6, 3]; whnf)) | apply wr_end | apply wc_seq | apply wc_region | (apply wr_pick (t := true); (iterate 2 exact rfl); with_reducible (conv => enter [6, 3]; whnf)) | (apply wc_true; exact rfl) | (apply wc_ret; try simp only [thenE, inBlockE, bodyQ]) | (apply wr_skip; exact rfl))
    exact leave2 (v1 := S []) (v2 := .bool false) rfl rfl rfl ⟨by rw [hpb (fun hh => by have := hh.2.2.2.2.1; rw [hb5] at this; cases this)]; rfl, hw6⟩
  | false =>
  refine wr_cutN 11 (fun f' w' => Slots f' [(3, .pointer (some ⟨pa, 0, none⟩)), (6, S has), (90, .bool (bad6 has p))] ∧ Keeps NoB w6 w') ?_ ?_
  · (repeat first | (apply wr_move; exact rfl; with_reducible (conv => enter [6, 3]; whnf)))
    refine wr_call (vs := [S has, .int .u8 97]) rfl (rIn_ca has 97 (by omega) w6) rfl ?_
    rintro v w'' ⟨rfl, hkk⟩
    have hA := hkk.heap hA (fun h => h)
    cases hin : inF has [97] with
    | true =>
      have hb : bad6 has p = false := by unfold bad6; rw [hin]; rfl
      rw [hb]
      (repeat first | (apply wr_move; exact rfl; with_reducible (conv => enter [6, 3]; whnf)) | (apply wr_not; iterate 2 exact rfl) | (apply wr_pick (t := false); (iterate 2 exact rfl); with_reducible (conv => enter [6, 3]; whnf)) | (apply wr_nil; try simp only [thenE, inBlockE, bodyQ]) | (apply wr_skip; exact rfl))
      exact ⟨by trivial, ⟨rfl, rfl, rfl, trivial⟩, hkk⟩
    | false =>
      by_cases hz : p.addrs.length = 0
      · have hb : bad6 has p = false := by unfold bad6; rw [hin, decide_eq_true hz]; rfl
        rw [hb]
        (repeat first | (apply wr_move; exact rfl; with_reducible (conv => enter [6, 3]; whnf)) | (apply wr_fieldAddr; iterate 2 exact rfl) | (apply wr_not; iterate 2 exact rfl) | (apply wr_len_slice; iterate 2 exact rfl) | (apply wr_load; (iterate 3 exact rfl); (focus repeat first | with_reducible assumption | exact heap_alloc_same _ _ | exact World.putObj_heap_same (by first | omega | (simp only [World.size_alloc, World.putObj_size, ne_eq]; omega)) | ((first | refine hAl ?_ ?_ | refine hPu ?_ ?_); focus first | omega | (simp only [World.size_alloc, World.putObj_size, ne_eq]; omega))); exact rfl; conv => enter [6, 3]; whnf) | (apply wr_cmp; (iterate 3 exact rfl); exact cmpF (by dsimp only [cmpN]; first | done | omega)) | (apply wr_pick (t := true); (iterate 2 exact rfl); with_reducible (conv => enter [6, 3]; whnf)) | (apply wr_pick (t := false); (iterate 2 exact rfl); with_reducible (conv => enter [6, 3]; whnf)) | (apply wr_nil; try simp only [thenE, inBlockE, bodyQ]))
        exact ⟨by trivial, ⟨rfl, rfl, rfl, trivial⟩, hkk⟩
      · have hb : bad6 has p = true := by unfold bad6; rw [hin, decide_eq_false hz]; rfl
        rw [hb]
        (repeat first | (apply wr_move; exact rfl; with_reducible (conv => enter [6, 3]; whnf)) | (apply wr_fieldAddr; iterate 2 exact rfl) | (apply wr_not; iterate 2 exact rfl) | (apply wr_len_slice; iterate 2 exact rfl) | (apply wr_load; (iterate 3 exact rfl); (focus repeat first | with_reducible assumption | exact heap_alloc_same _ _ | exact World.putObj_heap_same (by first | omega | (simp only [World.size_alloc, World.putObj_size, ne_eq]; omega)) | ((first | refine hAl ?_ ?_ | refine hPu ?_ ?_); focus first | omega | (simp only [World.size_alloc, World.putObj_size, ne_eq]; omega))); exact rfl; conv => enter [6, 3]; whnf) | (apply wr_cmp; (iterate 3 exact rfl); exact cmpT (by dsimp only [cmpP]; first | done | omega)) | (apply wr_pick (t := true); (iterate 2 exact rfl); with_reducible (conv => enter [6, 3]; whnf)) | (apply wr_pick (t := false); (iterate 2 exact rfl); with_reducible (conv => enter [6, 3]; whnf)) | (apply wr_nil; try simp only [thenE, inBlockE, bodyQ]))
        exact ⟨by trivial, ⟨rfl, rfl, rfl, trivial⟩, hkk⟩
  rintro f7 w7 ⟨hsl, hk7⟩
  refine wr_keep _ hsl ?_
  intro f0
  clear hsl
  have hw7 := hw6.trans hk7
  replace hA := hk7.heap hA (fun h => h)
  cases hb6 : bad6 has p with
  | true =>
    (repeat first | (apply wr_assign; exact rfl; with_reducible (conv => enter [6, 3]; whnf)) | apply wr_end | apply wc_seq | apply wc_region | (apply wr_pick (t := true); (iterate 2 exact rfl); with_reducible (conv => enter [6, 3]; whnf)) | (apply wc_true; exact rfl) | (apply wc_ret; try simp only [thenE, inBlockE, bodyQ]) | (apply wr_skip; exact rfl))
    exact leave2 (v1 := S []) (v2 := .bool false) rfl rfl rfl ⟨by rw [hpb (fun hh => by have := hh.2.2.2.2.2.1; rw [hb6] at this; cases this)]; rfl, hw7⟩
  | false =>
  refine wr_cutN 9 (fun f' w' => Slots f' [(3, .pointer (some ⟨pa, 0, none⟩)), (6, S has), (99, .bool (bad7 has p))] ∧ Keeps NoB w7 w') ?_ ?_
  · (repeat first | (apply wr_move; exact rfl; with_reducible (conv => enter [6, 3]; whnf)))
    refine wr_call (vs := [S has, .int .u8 107]) rfl (rIn_ca has 107 (by omega) w7) rfl ?_
    rintro v w'' ⟨rfl, hkk⟩
    have hA := hkk.heap hA (fun h => h)
    cases hin : inF has [107] with
    | true =>
      have hb : bad7 has p = false := by unfold bad7; rw [hin]; rfl
      rw [hb]
      (repeat first | (apply wr_move; exact rfl; with_reducible (conv => enter [6, 3]; whnf)) | (apply wr_not; iterate 2 exact rfl) | (apply wr_pick (t := false); (iterate 2 exact rfl); with_reducible (conv => enter [6, 3]; whnf)) | (apply wr_nil; try simp only [thenE, inBlockE, bodyQ]) | (apply wr_skip; exact rfl))
      exact ⟨by trivial, ⟨rfl, rfl, rfl, trivial⟩, hkk⟩
    | false =>
      by_cases hz : p.key = []
      · have hb : bad7 has p = false := by unfold bad7; rw [hin, decide_eq_true hz]; rfl
        rw [hb]
        (repeat first | (apply wr_move; exact rfl; with_reducible (conv => enter [6, 3]; whnf)) | (apply wr_fieldAddr; iterate 2 exact rfl) | (apply wr_not; iterate 2 exact rfl) | (apply wr_load; (iterate 3 exact rfl); (focus repeat first | with_reducible assumption | exact heap_alloc_same _ _ | exact World.putObj_heap_same (by first | omega | (simp only [World.size_alloc, World.putObj_size, ne_eq]; omega)) | ((first | refine hAl ?_ ?_ | refine hPu ?_ ?_); focus first | omega | (simp only [World.size_alloc, World.putObj_size, ne_eq]; omega))); exact rfl; conv => enter [6, 3]; whnf) | (apply wr_pick (t := true); (iterate 2 exact rfl); with_reducible (conv => enter [6, 3]; whnf)) | (apply wr_pick (t := false); (iterate 2 exact rfl); with_reducible (conv => enter [6, 3]; whnf)) | (apply wr_strnec; (iterate 3 exact rfl); (first | exact decide_eq_true (by with_reducible assumption) | exact decide_eq_false (by with_reducible assumption) | exact decide_eq_true rfl | exact rfl); with_reducible (conv => enter [6, 3]; whnf)) | (apply wr_nil; try simp only [thenE, inBlockE, bodyQ]))
        exact ⟨by trivial, ⟨rfl, rfl, rfl, trivial⟩, hkk⟩
      · have hb : bad7 has p = true := by unfold bad7; rw [hin, decide_eq_false hz]; rfl
        rw [hb]
        (repeat first | (apply wr_move; exact rfl; with_reducible (conv => enter [6, 3]; whnf)) | (apply wr_fieldAddr; iterate 2 exact rfl) | (apply wr_not; iterate 2 exact rfl) | (apply wr_load; (iterate 3 exact rfl); (focus repeat first | with_reducible assumption | exact heap_alloc_same _ _ | exact World.putObj_heap_same (by first | omega | (simp only [World.size_alloc, World.putObj_size, ne_eq]; omega)) | ((first | refine hAl ?_ ?_ | refine hPu ?_ ?_); focus first | omega | (simp only [World.size_alloc, World.putObj_size, ne_eq]; omega))); exact rfl; conv => enter [6, 3]; whnf) | (apply wr_pick (t := true); (iterate 2 exact rfl); with_reducible (conv => enter [6, 3]; whnf)) | (apply wr_pick (t := false); (iterate 2 exact rfl); with_reducible (conv => enter [6, 3]; whnf)) | (apply wr_strnec; (iterate 3 exact rfl); (first | exact decide_eq_true (by with_reducible assumption) | exact decide_eq_false (by with_reducible assumption) | exact decide_eq_true rfl | exact rfl); with_reducible (conv => enter [6, 3]; whnf)) | (apply wr_nil; try simp only [thenE, inBlockE, bodyQ]))
        exact ⟨by trivial, ⟨rfl, rfl, rfl, trivial⟩, hkk⟩
  rintro f8 w8 ⟨hsl, hk8⟩
  refine wr_keep _ hsl ?_
  intro f0
  clear hsl
  have hw8 := hw7.trans hk8
  replace hA := hk8.heap hA (fun h => h)
  cases hb7 : bad7 has p with
  | true =>
    (repeat first | (apply wr_assign; exact rfl; with_reducible (conv => enter [6, 3]; whnf)) | apply wr_end | apply wc_seq | apply wc_region | (apply wc_true; exact rfl) | (apply wc_ret; try simp only [thenE, inBlockE, bodyQ]))
    exact leave2 (v1 := S []) (v2 := .bool false) rfl rfl rfl ⟨by rw [hpb (fun hh => by have := hh.2.2.2.2.2.2; rw [hb7] at this; cases this)]; rfl, hw8⟩
  | false =>
  rw [if_pos ⟨rfl, hl1, hl2, (fits_bad has p).2 ⟨hb1, hb2, hb3, hb4, hb5, hb6, hb7⟩⟩] at hpu
  clear hpb
  rw [hpu]
  clear hpu
  have n1 := hp.name
  have n3 := hp.route
  have n6 := hp.secret
  have n8 := hp.key
  have q1 := txt_len (k := 1) (s := p.name) (by omega)
  have q2 := nmb_len (k := 2) hp.port
  have q3 := txt_len (k := 3) (s := p.route) (by omega)
  have q5 := nmb_len (k := 5) hp.policy
  have q6 := txt_len (k := 6) (s := p.secret) (by omega)
  have q8 := txt_len (k := 8) (s := p.key) (by omega)
  have q4 : ∀ i, i ≤ p.rules.length → (listB 4 ruleB (p.rules.take i)).length ≤ 64 * (6000040 + 20) := fun i hi => by
    have h := listB_len 4 ruleB (m := 6000040) (p.rules.take i) (fun x hx => ruleB_len (hp.rules x (List.mem_of_mem_take hx))) (by decide)
    have h2 : (p.rules.take i).length ≤ 64 := by rw [List.length_take]; omega
    exact Nat.le_trans h (Nat.mul_le_mul_right _ h2)
  have q7 : ∀ i, i ≤ p.addrs.length → (listB 7 addrB (p.addrs.take i)).length ≤ 64 * (6000060 + 20) := fun i hi => by
    have h := listB_len 7 addrB (m := 6000060) (p.addrs.take i) (fun x hx => addrB_len (hp.addrs x (List.mem_of_mem_take hx))) (by decide)
    have h2 : (p.addrs.take i).length ≤ 64 := by rw [List.length_take]; omega
    exact Nat.le_trans h (Nat.mul_le_mul_right _ h2)
  (repeat first | apply wr_end | apply wc_seq | apply wc_skip | (apply wc_false; exact rfl))
  have hbA := hA
  refine wc_drawS (l := _) (S := fun w' => Keeps NoB w8 w') (by kernel_rfl) (by kernel_rfl) ((Keeps.refl NoB w8).drew) ?_
  apply ch_step
  focus
    intro w' hS
    have hA := hS.heap hbA (fun h => h)
    (repeat first | (apply wr_fieldAddr; iterate 2 exact rfl) | (apply wr_nil; try simp only [thenE, inBlockE, bodyQ]))
    exact ⟨rfl, hS⟩
  apply ch_step
  focus
    intro w' hS
    have hA := hS.heap hbA (fun h => h)
    (repeat first | (apply wr_load; (iterate 3 exact rfl); (focus repeat first | with_reducible assumption | exact heap_alloc_same _ _ | exact World.putObj_heap_same (by first | omega | (simp only [World.size_alloc, World.putObj_size, ne_eq]; omega)) | ((first | refine hAl ?_ ?_ | refine hPu ?_ ?_); focus first | omega | (simp only [World.size_alloc, World.putObj_size, ne_eq]; omega))); exact rfl; conv => enter [6, 3]; whnf) | (apply wr_nil; try simp only [thenE, inBlockE, bodyQ]))
    exact ⟨rfl, hS⟩
  apply ch_step
  focus
    intro w' hS
    refine wr_call (vs := [.int .i64 1, S p.name]) rfl (rTxt_ca 1 p.name (by decide) (by omega) w') rfl ?_
    rintro v w4 ⟨rfl, hk⟩
    apply wr_nil
    exact ⟨rfl, hS.trans hk⟩
  apply ch_step
  focus
    intro w' hS
    have hA := hS.heap hbA (fun h => h)
    (repeat first | (apply wr_fieldAddr; iterate 2 exact rfl) | (apply wr_nil; try simp only [thenE, inBlockE, bodyQ]))
    exact ⟨rfl, hS⟩
  apply ch_step
  focus
    intro w' hS
    have hA := hS.heap hbA (fun h => h)
    (repeat first | (apply wr_load; (iterate 3 exact rfl); (focus repeat first | with_reducible assumption | exact heap_alloc_same _ _ | exact World.putObj_heap_same (by first | omega | (simp only [World.size_alloc, World.putObj_size, ne_eq]; omega)) | ((first | refine hAl ?_ ?_ | refine hPu ?_ ?_); focus first | omega | (simp only [World.size_alloc, World.putObj_size, ne_eq]; omega))); exact rfl; conv => enter [6, 3]; whnf) | (apply wr_nil; try simp only [thenE, inBlockE, bodyQ]))
    exact ⟨rfl, hS⟩
  apply ch_step
  focus
    intro w' hS
    refine wr_call (vs := [.int .i64 2, .int .u64 (p.port : Int)]) rfl (rNmb_ca 2 p.port (by decide) hp.port w') rfl ?_
    rintro v w4 ⟨rfl, hk⟩
    apply wr_nil
    exact ⟨rfl, hS.trans hk⟩
  apply ch_step
  focus
    intro w' hS
    have hA := hS.heap hbA (fun h => h)
    refine wr_cat rfl rfl rfl (by omega) ?_
    apply wr_nil
    exact ⟨rfl, hS⟩
  apply ch_step
  focus
    intro w' hS
    have hA := hS.heap hbA (fun h => h)
    (repeat first | (apply wr_fieldAddr; iterate 2 exact rfl) | (apply wr_nil; try simp only [thenE, inBlockE, bodyQ]))
    exact ⟨rfl, hS⟩
  apply ch_step
  focus
    intro w' hS
    have hA := hS.heap hbA (fun h => h)
    (repeat first | (apply wr_load; (iterate 3 exact rfl); (focus repeat first | with_reducible assumption | exact heap_alloc_same _ _ | exact World.putObj_heap_same (by first | omega | (simp only [World.size_alloc, World.putObj_size, ne_eq]; omega)) | ((first | refine hAl ?_ ?_ | refine hPu ?_ ?_); focus first | omega | (simp only [World.size_alloc, World.putObj_size, ne_eq]; omega))); exact rfl; conv => enter [6, 3]; whnf) | (apply wr_nil; try simp only [thenE, inBlockE, bodyQ]))
    exact ⟨rfl, hS⟩
  apply ch_step
  focus
    intro w' hS
    refine wr_call (vs := [.int .i64 3, S p.route]) rfl (rTxt_ca 3 p.route (by decide) (by omega) w') rfl ?_
    rintro v w4 ⟨rfl, hk⟩
    apply wr_nil
    exact ⟨rfl, hS.trans hk⟩
  apply ch_step
  focus
    intro w' hS
    have hA := hS.heap hbA (fun h => h)
    refine wr_cat rfl rfl rfl (by simp only [List.length_append]; omega) ?_
    apply wr_nil
    exact ⟨rfl, hS⟩
  apply ch_step
  focus
    intro w' hS
    have hA := hS.heap hbA (fun h => h)
    (repeat first | (apply wr_assign; exact rfl; with_reducible (conv => enter [6, 3]; whnf)) | (apply wr_nil; try simp only [thenE, inBlockE, bodyQ]))
    exact ⟨rfl, hS⟩
  refine ch_nil ?_
  intro w9 hk9
  obtain ⟨s0, hs0⟩ : ∃ s0, s0 = txt 1 p.name ++ nmb 2 p.port ++ txt 3 p.route := ⟨_, rfl⟩
  have hl0 : s0.length ≤ 6000060 := by rw [hs0]; simp only [List.length_append]; omega
  rw [← hs0]
  have hw9 := hw8.trans hk9
  replace hA := hk9.heap hA (fun h => h)
  clear hbA
  (repeat first | (apply wr_assign; exact rfl; with_reducible (conv => enter [6, 3]; whnf)) | apply wr_end | apply wc_seq | apply wc_region | apply wc_block)
  refine wc_loopL (α := Nat) (fun i => [(3, .pointer (some ⟨pa, 0, none⟩)), (8, S (s0 ++ listB 4 ruleB (p.rules.take i))), (9, .int .i64 (i : Int))])
    (fun i ds w' => ds = [] ∧ i ≤ p.rules.length ∧ Keeps NoB w9 w') (fun i => p.rules.length - i) 0 ⟨rfl, Nat.zero_le _, Keeps.refl _ _⟩ ⟨rfl, (by show S _ = S _; simp [listB]), rfl, trivial⟩ ?_
  rintro i ds f1 w10 ⟨rfl, hi, hk10⟩
  have hbA := hk10.heap hA (fun h => h)
  have hlB := q4 i hi
  by_cases hlt : i < p.rules.length
  · obtain ⟨b, o, rfl, cur, e, fr, hb, hr⟩ := hatr (by omega)
    have hbb := (hw9.trans hk10).heap hb (fun h => h)
    obtain ⟨x, hx⟩ : ∃ x, p.rules[i]? = some x := ⟨p.rules[i], by simp [hlt]⟩
    have hxo := hp.rules x (List.mem_of_getElem? hx)
    have hxl := ruleB_len hxo
    have hsx : listB 4 ruleB (p.rules.take (i + 1)) = listB 4 ruleB (p.rules.take i) ++ textF 4 (ruleB x) := by
      rw [List.take_add_one, hx]; simp [listB]
    have hx1 : cur[o + i * 2 + 0]? = some (S x.1) := cell_elem (g := GR) (k := 2) (n := p.rules.length) (i := i) (j := 0) GR_len hr hlt hx rfl
    have hx2 : cur[o + i * 2 + 1]? = some (S x.2) := cell_elem (g := GR) (k := 2) (n := p.rules.length) (i := i) (j := 1) GR_len hr hlt hx rfl
    have htl := textF_len (num := 4) (s := ruleB x) (by omega)
    obtain ⟨hxo1, hxo2⟩ := hxo
    have hy1 := txt_len (k := 1) (s := x.1) (by omega)
    have hy2 := txt_len (k := 2) (s := x.2) (by omega)
    (repeat first | (apply wr_move; exact rfl; with_reducible (conv => enter [6, 3]; whnf)) | apply wr_end | apply wc_seq | apply wc_region | apply wc_skip | apply wc_block | (apply wr_fieldAddr; iterate 2 exact rfl) | (apply wr_len_slice; iterate 2 exact rfl) | (apply wr_load; (iterate 3 exact rfl); (focus repeat first | with_reducible assumption | exact heap_alloc_same _ _ | exact World.putObj_heap_same (by first | omega | (simp only [World.size_alloc, World.putObj_size, ne_eq]; omega)) | ((first | refine hAl ?_ ?_ | refine hPu ?_ ?_); focus first | omega | (simp only [World.size_alloc, World.putObj_size, ne_eq]; omega))); exact rfl; conv => enter [6, 3]; whnf) | (apply wr_cmp; (iterate 3 exact rfl); exact cmpT (by dsimp only [cmpP]; first | done | omega)) | (apply wc_true; exact rfl))
    refine wc_drawS (l := _) (S := fun w' => Keeps NoB w10 w') (by kernel_rfl) (by kernel_rfl) ((Keeps.refl NoB w10).drew) ?_
    apply ch_step
    focus
      intro w' hS
      have hA := hS.heap hbA (fun h => h)
      (repeat first | (apply wr_move; exact rfl; with_reducible (conv => enter [6, 3]; whnf)) | (apply wr_nil; try simp only [thenE, inBlockE, bodyQ]))
      exact ⟨rfl, hS⟩
    apply ch_step
    focus
      intro w' hS
      have hA := hS.heap hbA (fun h => h)
      (repeat first | (apply wr_fieldAddr; iterate 2 exact rfl) | (apply wr_nil; try simp only [thenE, inBlockE, bodyQ]))
      exact ⟨rfl, hS⟩
    apply ch_step
    focus
      intro w' hS
      have hA := hS.heap hbA (fun h => h)
      (repeat first | (apply wr_load; (iterate 3 exact rfl); (focus repeat first | with_reducible assumption | exact heap_alloc_same _ _ | exact World.putObj_heap_same (by first | omega | (simp only [World.size_alloc, World.putObj_size, ne_eq]; omega)) | ((first | refine hAl ?_ ?_ | refine hPu ?_ ?_); focus first | omega | (simp only [World.size_alloc, World.putObj_size, ne_eq]; omega))); exact rfl; conv => enter [6, 3]; whnf) | (apply wr_nil; try simp only [thenE, inBlockE, bodyQ]))
      exact ⟨rfl, hS⟩
    apply ch_step
    focus
      intro w' hS
      have hA := hS.heap hbA (fun h => h)
      (repeat first | (apply wr_move; exact rfl; with_reducible (conv => enter [6, 3]; whnf)) | (apply wr_nil; try simp only [thenE, inBlockE, bodyQ]))
      exact ⟨rfl, hS⟩
    apply ch_step
    focus
      intro w' hS
      have hA := hS.heap hbA (fun h => h)
      refine wr_indexAddr (i := i) rfl rfl rfl hlt ?_
      apply wr_nil
      exact ⟨rfl, hS⟩
    apply ch_step
    focus
      intro w' hS
      have hA := hS.heap hbA (fun h => h)
      (repeat first | (apply wr_fieldAddr; iterate 2 exact rfl) | (apply wr_nil; try simp only [thenE, inBlockE, bodyQ]))
      exact ⟨rfl, hS⟩
    apply ch_step
    focus
      intro w' hS
      have hA := hS.heap hbA (fun h => h)
      refine wr_load (v := S x.1) rfl rfl rfl (hS.heap hbb (fun h => h)) hx1 ?_
      apply wr_nil
      exact ⟨rfl, hS⟩
    apply ch_step
    focus
      intro w' hS
      refine wr_call (vs := [.int .i64 1, S x.1]) rfl (rTxt_ca 1 x.1 (by decide) (by omega) w') rfl ?_
      rintro v w4 ⟨rfl, hk⟩
      apply wr_nil
      exact ⟨rfl, hS.trans hk⟩
    apply ch_step
    focus
      intro w' hS
      have hA := hS.heap hbA (fun h => h)
      (repeat first | (apply wr_fieldAddr; iterate 2 exact rfl) | (apply wr_nil; try simp only [thenE, inBlockE, bodyQ]))
      exact ⟨rfl, hS⟩
    apply ch_step
    focus
      intro w' hS
      have hA := hS.heap hbA (fun h => h)
      (repeat first | (apply wr_load; (iterate 3 exact rfl); (focus repeat first | with_reducible assumption | exact heap_alloc_same _ _ | exact World.putObj_heap_same (by first | omega | (simp only [World.size_alloc, World.putObj_size, ne_eq]; omega)) | ((first | refine hAl ?_ ?_ | refine hPu ?_ ?_); focus first | omega | (simp only [World.size_alloc, World.putObj_size, ne_eq]; omega))); exact rfl; conv => enter [6, 3]; whnf) | (apply wr_nil; try simp only [thenE, inBlockE, bodyQ]))
      exact ⟨rfl, hS⟩
    apply ch_step
    focus
      intro w' hS
      have hA := hS.heap hbA (fun h => h)
      (repeat first | (apply wr_move; exact rfl; with_reducible (conv => enter [6, 3]; whnf)) | (apply wr_nil; try simp only [thenE, inBlockE, bodyQ]))
      exact ⟨rfl, hS⟩
    apply ch_step
    focus
      intro w' hS
      have hA := hS.heap hbA (fun h => h)
      refine wr_indexAddr (i := i) rfl rfl rfl hlt ?_
      apply wr_nil
      exact ⟨rfl, hS⟩
    apply ch_step
    focus
      intro w' hS
      have hA := hS.heap hbA (fun h => h)
      (repeat first | (apply wr_fieldAddr; iterate 2 exact rfl) | (apply wr_nil; try simp only [thenE, inBlockE, bodyQ]))
      exact ⟨rfl, hS⟩
    apply ch_step
    focus
      intro w' hS
      have hA := hS.heap hbA (fun h => h)
      refine wr_load (v := S x.2) rfl rfl rfl (hS.heap hbb (fun h => h)) hx2 ?_
      apply wr_nil
      exact ⟨rfl, hS⟩
    apply ch_step
    focus
      intro w' hS
      refine wr_call (vs := [.int .i64 2, S x.2]) rfl (rTxt_ca 2 x.2 (by decide) (by omega) w') rfl ?_
      rintro v w4 ⟨rfl, hk⟩
      apply wr_nil
      exact ⟨rfl, hS.trans hk⟩
    apply ch_step
    focus
      intro w' hS
      have hA := hS.heap hbA (fun h => h)
      refine wr_cat (a := txt 1 x.1) (b := txt 2 x.2) rfl rfl rfl (by omega) ?_
      apply wr_nil
      exact ⟨rfl, hS⟩
    apply ch_step
    focus
      intro w' hS
      refine wr_call (vs := [.int .i64 4, S (ruleB x)]) rfl (rtext_ca 4 (ruleB x) (by decide) (by omega) w') rfl ?_
      rintro v w4 ⟨rfl, hk⟩
      apply wr_nil
      exact ⟨rfl, hS.trans hk⟩
    apply ch_step
    focus
      intro w' hS
      have hA := hS.heap hbA (fun h => h)
      refine wr_cat rfl rfl rfl (by simp only [List.length_append]; omega) ?_
      apply wr_nil
      exact ⟨rfl, hS⟩
    apply ch_step
    focus
      intro w' hS
      have hA := hS.heap hbA (fun h => h)
      (repeat first | (apply wr_assign; exact rfl; with_reducible (conv => enter [6, 3]; whnf)) | (apply wr_nil; try simp only [thenE, inBlockE, bodyQ]))
      exact ⟨rfl, hS⟩
    refine ch_nil ?_
    intro w11 hk11
    (repeat first | (apply wr_move; exact rfl; with_reducible (conv => enter [6, 3]; whnf)) | (apply wr_assign; exact rfl; with_reducible (conv => enter [6, 3]; whnf)) | apply wr_end | apply wc_region | (apply wr_add; (iterate 3 exact rfl); exact w_fit (by dsimp only [kIn]; first | done | omega)))
    exact ⟨i + 1, by omega, ⟨by trivial, hlt, hk10.trans hk11⟩, rfl, (by show S _ = S _; rw [hsx, List.append_assoc]), by simp, trivial⟩
  · have he : i = p.rules.length := by omega
    subst he
    rw [List.take_length] at hlB ⊢
    obtain ⟨s1, hs1⟩ : ∃ s1, s1 = s0 ++ listB 4 ruleB p.rules := ⟨_, rfl⟩
    have hl1' : s1.length ≤ 1000000000 := by rw [hs1]; simp only [List.length_append]; omega
    rw [← hs1]
    have hw10 := hw9.trans hk10
    (repeat first | (apply wr_move; exact rfl; with_reducible (conv => enter [6, 3]; whnf)) | apply wr_end | apply wc_seq | apply wc_region | (apply wr_fieldAddr; iterate 2 exact rfl) | (apply wr_len_slice; iterate 2 exact rfl) | (apply wr_load; (iterate 3 exact rfl); (focus repeat first | with_reducible assumption | exact heap_alloc_same _ _ | exact World.putObj_heap_same (by first | omega | (simp only [World.size_alloc, World.putObj_size, ne_eq]; omega)) | ((first | refine hAl ?_ ?_ | refine hPu ?_ ?_); focus first | omega | (simp only [World.size_alloc, World.putObj_size, ne_eq]; omega))); exact rfl; conv => enter [6, 3]; whnf) | (apply wr_cmp; (iterate 3 exact rfl); exact cmpF (by dsimp only [cmpN]; first | done | omega)) | (apply wc_false; exact rfl) | (apply wc_exit; try simp only [thenE, inBlockE, bodyQ, ↓reduceIte, Nat.reduceEqDiff]))
    refine wc_drawS (l := _) (S := fun w' => Keeps NoB w10 w') (by kernel_rfl) (by kernel_rfl) ((Keeps.refl NoB w10).drew) ?_
    apply ch_step
    focus
      intro w' hS
      have hA := hS.heap hbA (fun h => h)
      (repeat first | (apply wr_move; exact rfl; with_reducible (conv => enter [6, 3]; whnf)) | (apply wr_nil; try simp only [thenE, inBlockE, bodyQ]))
      exact ⟨rfl, hS⟩
    apply ch_step
    focus
      intro w' hS
      have hA := hS.heap hbA (fun h => h)
      (repeat first | (apply wr_fieldAddr; iterate 2 exact rfl) | (apply wr_nil; try simp only [thenE, inBlockE, bodyQ]))
      exact ⟨rfl, hS⟩
    apply ch_step
    focus
      intro w' hS
      have hA := hS.heap hbA (fun h => h)
      (repeat first | (apply wr_load; (iterate 3 exact rfl); (focus repeat first | with_reducible assumption | exact heap_alloc_same _ _ | exact World.putObj_heap_same (by first | omega | (simp only [World.size_alloc, World.putObj_size, ne_eq]; omega)) | ((first | refine hAl ?_ ?_ | refine hPu ?_ ?_); focus first | omega | (simp only [World.size_alloc, World.putObj_size, ne_eq]; omega))); exact rfl; conv => enter [6, 3]; whnf) | (apply wr_nil; try simp only [thenE, inBlockE, bodyQ]))
      exact ⟨rfl, hS⟩
    apply ch_step
    focus
      intro w' hS
      refine wr_call (vs := [.int .i64 5, .int .u64 (p.policy : Int)]) rfl (rNmb_ca 5 p.policy (by decide) hp.policy w') rfl ?_
      rintro v w4 ⟨rfl, hk⟩
      apply wr_nil
      exact ⟨rfl, hS.trans hk⟩
    apply ch_step
    focus
      intro w' hS
      have hA := hS.heap hbA (fun h => h)
      refine wr_cat rfl rfl rfl (by omega) ?_
      apply wr_nil
      exact ⟨rfl, hS⟩
    apply ch_step
    focus
      intro w' hS
      have hA := hS.heap hbA (fun h => h)
      (repeat first | (apply wr_fieldAddr; iterate 2 exact rfl) | (apply wr_nil; try simp only [thenE, inBlockE, bodyQ]))
      exact ⟨rfl, hS⟩
    apply ch_step
    focus
      intro w' hS
      have hA := hS.heap hbA (fun h => h)
      (repeat first | (apply wr_load; (iterate 3 exact rfl); (focus repeat first | with_reducible assumption | exact heap_alloc_same _ _ | exact World.putObj_heap_same (by first | omega | (simp only [World.size_alloc, World.putObj_size, ne_eq]; omega)) | ((first | refine hAl ?_ ?_ | refine hPu ?_ ?_); focus first | omega | (simp only [World.size_alloc, World.putObj_size, ne_eq]; omega))); exact rfl; conv => enter [6, 3]; whnf) | (apply wr_nil; try simp only [thenE, inBlockE, bodyQ]))
      exact ⟨rfl, hS⟩
    apply ch_step
    focus
      intro w' hS
      refine wr_call (vs := [.int .i64 6, S p.secret]) rfl (rTxt_ca 6 p.secret (by decide) (by omega) w') rfl ?_
      rintro v w4 ⟨rfl, hk⟩
      apply wr_nil
      exact ⟨rfl, hS.trans hk⟩
    apply ch_step
    focus
      intro w' hS
      have hA := hS.heap hbA (fun h => h)
      refine wr_cat rfl rfl rfl (by simp only [List.length_append]; omega) ?_
      apply wr_nil
      exact ⟨rfl, hS⟩
    apply ch_step
    focus
      intro w' hS
      have hA := hS.heap hbA (fun h => h)
      (repeat first | (apply wr_assign; exact rfl; with_reducible (conv => enter [6, 3]; whnf)) | (apply wr_nil; try simp only [thenE, inBlockE, bodyQ]))
      exact ⟨rfl, hS⟩
    refine ch_nil ?_
    intro w11 hk11
    obtain ⟨s2, hs2⟩ : ∃ s2, s2 = s1 ++ nmb 5 p.policy ++ txt 6 p.secret := ⟨_, rfl⟩
    have hl2' : s2.length ≤ 2000000000 := by rw [hs2]; simp only [List.length_append]; omega
    rw [← hs2]
    have hw11 := hw10.trans hk11
    replace hA := hk11.heap hbA (fun h => h)
    clear hbA
    (repeat first | (apply wr_assign; exact rfl; with_reducible (conv => enter [6, 3]; whnf)) | apply wr_end | apply wc_seq | apply wc_region | apply wc_block)
    refine wc_loopL (α := Nat) (fun i => [(3, .pointer (some ⟨pa, 0, none⟩)), (8, S (s2 ++ listB 7 addrB (p.addrs.take i))), (10, .int .i64 (i : Int))])
      (fun i ds w' => ds = [] ∧ i ≤ p.addrs.length ∧ Keeps NoB w11 w') (fun i => p.addrs.length - i) 0 ⟨rfl, Nat.zero_le _, Keeps.refl _ _⟩ ⟨rfl, (by show S _ = S _; simp [listB]), rfl, trivial⟩ ?_
    rintro i ds f2 w12 ⟨rfl, hi, hk12⟩
    have hbA := hk12.heap hA (fun h => h)
    have hlB := q7 i hi
    by_cases hlt : i < p.addrs.length
    · obtain ⟨b, o, rfl, cur, e, fr, hb, hr⟩ := hata (by omega)
      have hbb := (hw11.trans hk12).heap hb (fun h => h)
      obtain ⟨x, hx⟩ : ∃ x, p.addrs[i]? = some x := ⟨p.addrs[i], by simp [hlt]⟩
      have hxo := hp.addrs x (List.mem_of_getElem? hx)
      have hxl := addrB_len hxo
      have hsx : listB 7 addrB (p.addrs.take (i + 1)) = listB 7 addrB (p.addrs.take i) ++ textF 7 (addrB x) := by
        rw [List.take_add_one, hx]; simp [listB]
      have hx1 : cur[o + i * 3 + 0]? = some (S x.1) := cell_elem (g := GA) (k := 3) (n := p.addrs.length) (i := i) (j := 0) GA_len hr hlt hx rfl
      have hx2 : cur[o + i * 3 + 1]? = some (.int .u64 (x.2.1 : Int)) := cell_elem (g := GA) (k := 3) (n := p.addrs.length) (i := i) (j := 1) GA_len hr hlt hx rfl
      have hx3 : cur[o + i * 3 + 2]? = some (.int .u64 (x.2.2 : Int)) := cell_elem (g := GA) (k := 3) (n := p.addrs.length) (i := i) (j := 2) GA_len hr hlt hx rfl
      have htl := textF_len (num := 7) (s := addrB x) (by omega)
      obtain ⟨hxo1, hxo2, hxo3⟩ := hxo
      have hy1 := txt_len (k := 1) (s := x.1) (by omega)
      have hy2 := nmb_len (k := 2) hxo2
      have hy3 := nmb_len (k := 3) hxo3
      (repeat first | (apply wr_move; exact rfl; with_reducible (conv => enter [6, 3]; whnf)) | apply wr_end | apply wc_seq | apply wc_region | apply wc_skip | apply wc_block | (apply wr_fieldAddr; iterate 2 exact rfl) | (apply wr_len_slice; iterate 2 exact rfl) | (apply wr_load; (iterate 3 exact rfl); (focus repeat first | with_reducible assumption | exact heap_alloc_same _ _ | exact World.putObj_heap_same (by first | omega | (simp only [World.size_alloc, World.putObj_size, ne_eq]; omega)) | ((first | refine hAl ?_ ?_ | refine hPu ?_ ?_); focus first | omega | (simp only [World.size_alloc, World.putObj_size, ne_eq]; omega))); exact rfl; conv => enter [6, 3]; whnf) | (apply wr_cmp; (iterate 3 exact rfl); exact cmpT (by dsimp only [cmpP]; first | done | omega)) | (apply wc_true; exact rfl))
      refine wc_drawS (l := _) (S := fun w' => Keeps NoB w12 w') (by kernel_rfl) (by kernel_rfl) ((Keeps.refl NoB w12).drew) ?_
      apply ch_step
      focus
        intro w' hS
        have hA := hS.heap hbA (fun h => h)
        (repeat first | (apply wr_move; exact rfl; with_reducible (conv => enter [6, 3]; whnf)) | (apply wr_nil; try simp only [thenE, inBlockE, bodyQ]))
        exact ⟨rfl, hS⟩
      apply ch_step
      focus
        intro w' hS
        have hA := hS.heap hbA (fun h => h)
        (repeat first | (apply wr_fieldAddr; iterate 2 exact rfl) | (apply wr_nil; try simp only [thenE, inBlockE, bodyQ]))
        exact ⟨rfl, hS⟩
      apply ch_step
      focus
        intro w' hS
        have hA := hS.heap hbA (fun h => h)
        (repeat first | (apply wr_load; (iterate 3 exact rfl); (focus repeat first | with_reducible assumption | exact heap_alloc_same _ _ | exact World.putObj_heap_same (by first | omega | (simp only [World.size_alloc, World.putObj_size, ne_eq]; omega)) | ((first | refine hAl ?_ ?_ | refine hPu ?_ ?_); focus first | omega | (simp only [World.size_alloc, World.putObj_size, ne_eq]; omega))); exact rfl; conv => enter [6, 3]; whnf) | (apply wr_nil; try simp only [thenE, inBlockE, bodyQ]))
        exact ⟨rfl, hS⟩
      apply ch_step
      focus
        intro w' hS
        have hA := hS.heap hbA (fun h => h)
        (repeat first | (apply wr_move; exact rfl; with_reducible (conv => enter [6, 3]; whnf)) | (apply wr_nil; try simp only [thenE, inBlockE, bodyQ]))
        exact ⟨rfl, hS⟩
      apply ch_step
      focus
        intro w' hS
        have hA := hS.heap hbA (fun h => h)
        refine wr_indexAddr (i := i) rfl rfl rfl hlt ?_
        apply wr_nil
        exact ⟨rfl, hS⟩
      apply ch_step
      focus
        intro w' hS
        have hA := hS.heap hbA (fun h => h)
        (repeat first | (apply wr_fieldAddr; iterate 2 exact rfl) | (apply wr_nil; try simp only [thenE, inBlockE, bodyQ]))
        exact ⟨rfl, hS⟩
      apply ch_step
      focus
        intro w' hS
        have hA := hS.heap hbA (fun h => h)
        refine wr_load (v := S x.1) rfl rfl rfl (hS.heap hbb (fun h => h)) hx1 ?_
        apply wr_nil
        exact ⟨rfl, hS⟩
      apply ch_step
      focus
        intro w' hS
        refine wr_call (vs := [.int .i64 1, S x.1]) rfl (rTxt_ca 1 x.1 (by decide) (by omega) w') rfl ?_
        rintro v w4 ⟨rfl, hk⟩
        apply wr_nil
        exact ⟨rfl, hS.trans hk⟩
      apply ch_step
      focus
        intro w' hS
        have hA := hS.heap hbA (fun h => h)
        (repeat first | (apply wr_fieldAddr; iterate 2 exact rfl) | (apply wr_nil; try simp only [thenE, inBlockE, bodyQ]))
        exact ⟨rfl, hS⟩
      apply ch_step
      focus
        intro w' hS
        have hA := hS.heap hbA (fun h => h)
        (repeat first | (apply wr_load; (iterate 3 exact rfl); (focus repeat first | with_reducible assumption | exact heap_alloc_same _ _ | exact World.putObj_heap_same (by first | omega | (simp only [World.size_alloc, World.putObj_size, ne_eq]; omega)) | ((first | refine hAl ?_ ?_ | refine hPu ?_ ?_); focus first | omega | (simp only [World.size_alloc, World.putObj_size, ne_eq]; omega))); exact rfl; conv => enter [6, 3]; whnf) | (apply wr_nil; try simp only [thenE, inBlockE, bodyQ]))
        exact ⟨rfl, hS⟩
      apply ch_step
      focus
        intro w' hS
        have hA := hS.heap hbA (fun h => h)
        (repeat first | (apply wr_move; exact rfl; with_reducible (conv => enter [6, 3]; whnf)) | (apply wr_nil; try simp only [thenE, inBlockE, bodyQ]))
        exact ⟨rfl, hS⟩
      apply ch_step
      focus
        intro w' hS
        have hA := hS.heap hbA (fun h => h)
        refine wr_indexAddr (i := i) rfl rfl rfl hlt ?_
        apply wr_nil
        exact ⟨rfl, hS⟩
      apply ch_step
      focus
        intro w' hS
        have hA := hS.heap hbA (fun h => h)
        (repeat first | (apply wr_fieldAddr; iterate 2 exact rfl) | (apply wr_nil; try simp only [thenE, inBlockE, bodyQ]))
        exact ⟨rfl, hS⟩
      apply ch_step
      focus
        intro w' hS
        have hA := hS.heap hbA (fun h => h)
        refine wr_load (v := .int .u64 (x.2.1 : Int)) rfl rfl rfl (hS.heap hbb (fun h => h)) hx2 ?_
        apply wr_nil
        exact ⟨rfl, hS⟩
      apply ch_step
      focus
        intro w' hS
        refine wr_call (vs := [.int .i64 2, .int .u64 (x.2.1 : Int)]) rfl (rNmb_ca 2 x.2.1 (by decide) hxo2 w') rfl ?_
        rintro v w4 ⟨rfl, hk⟩
        apply wr_nil
        exact ⟨rfl, hS.trans hk⟩
      apply ch_step
      focus
        intro w' hS
        have hA := hS.heap hbA (fun h => h)
        refine wr_cat (a := txt 1 x.1) (b := nmb 2 x.2.1) rfl rfl rfl (by omega) ?_
        apply wr_nil
        exact ⟨rfl, hS⟩
      apply ch_step
      focus
        intro w' hS
        have hA := hS.heap hbA (fun h => h)
        (repeat first | (apply wr_fieldAddr; iterate 2 exact rfl) | (apply wr_nil; try simp only [thenE, inBlockE, bodyQ]))
        exact ⟨rfl, hS⟩
      apply ch_step
      focus
        intro w' hS
        have hA := hS.heap hbA (fun h => h)
        (repeat first | (apply wr_load; (iterate 3 exact rfl); (focus repeat first | with_reducible assumption | exact heap_alloc_same _ _ | exact World.putObj_heap_same (by first | omega | (simp only [World.size_alloc, World.putObj_size, ne_eq]; omega)) | ((first | refine hAl ?_ ?_ | refine hPu ?_ ?_); focus first | omega | (simp only [World.size_alloc, World.putObj_size, ne_eq]; omega))); exact rfl; conv => enter [6, 3]; whnf) | (apply wr_nil; try simp only [thenE, inBlockE, bodyQ]))
        exact ⟨rfl, hS⟩
      apply ch_step
      focus
        intro w' hS
        have hA := hS.heap hbA (fun h => h)
        (repeat first | (apply wr_move; exact rfl; with_reducible (conv => enter [6, 3]; whnf)) | (apply wr_nil; try simp only [thenE, inBlockE, bodyQ]))
        exact ⟨rfl, hS⟩
      apply ch_step
      focus
        intro w' hS
        have hA := hS.heap hbA (fun h => h)
        refine wr_indexAddr (i := i) rfl rfl rfl hlt ?_
        apply wr_nil
        exact ⟨rfl, hS⟩
      apply ch_step
      focus
        intro w' hS
        have hA := hS.heap hbA (fun h => h)
        (repeat first | (apply wr_fieldAddr; iterate 2 exact rfl) | (apply wr_nil; try simp only [thenE, inBlockE, bodyQ]))
        exact ⟨rfl, hS⟩
      apply ch_step
      focus
        intro w' hS
        have hA := hS.heap hbA (fun h => h)
        refine wr_load (v := .int .u64 (x.2.2 : Int)) rfl rfl rfl (hS.heap hbb (fun h => h)) hx3 ?_
        apply wr_nil
        exact ⟨rfl, hS⟩
      apply ch_step
      focus
        intro w' hS
        refine wr_call (vs := [.int .i64 3, .int .u64 (x.2.2 : Int)]) rfl (rNmb_ca 3 x.2.2 (by decide) hxo3 w') rfl ?_
        rintro v w4 ⟨rfl, hk⟩
        apply wr_nil
        exact ⟨rfl, hS.trans hk⟩
      apply ch_step
      focus
        intro w' hS
        have hA := hS.heap hbA (fun h => h)
        refine wr_cat (a := txt 1 x.1 ++ nmb 2 x.2.1) (b := nmb 3 x.2.2) rfl rfl rfl (by simp only [List.length_append]; omega) ?_
        apply wr_nil
        exact ⟨rfl, hS⟩
      rw [show txt 1 x.1 ++ nmb 2 x.2.1 ++ nmb 3 x.2.2 = addrB x from List.append_assoc _ _ _]
      apply ch_step
      focus
        intro w' hS
        refine wr_call (vs := [.int .i64 7, S (addrB x)]) rfl (rtext_ca 7 (addrB x) (by decide) (by omega) w') rfl ?_
        rintro v w4 ⟨rfl, hk⟩
        apply wr_nil
        exact ⟨rfl, hS.trans hk⟩
      apply ch_step
      focus
        intro w' hS
        have hA := hS.heap hbA (fun h => h)
        refine wr_cat rfl rfl rfl (by simp only [List.length_append]; omega) ?_
        apply wr_nil
        exact ⟨rfl, hS⟩
      apply ch_step
      focus
        intro w' hS
        have hA := hS.heap hbA (fun h => h)
        (repeat first | (apply wr_assign; exact rfl; with_reducible (conv => enter [6, 3]; whnf)) | (apply wr_nil; try simp only [thenE, inBlockE, bodyQ]))
        exact ⟨rfl, hS⟩
      refine ch_nil ?_
      intro w13 hk13
      (repeat first | (apply wr_move; exact rfl; with_reducible (conv => enter [6, 3]; whnf)) | (apply wr_assign; exact rfl; with_reducible (conv => enter [6, 3]; whnf)) | apply wr_end | apply wc_region | (apply wr_add; (iterate 3 exact rfl); exact w_fit (by dsimp only [kIn]; first | done | omega)))
      exact ⟨i + 1, by omega, ⟨by trivial, hlt, hk12.trans hk13⟩, rfl, (by show S _ = S _; rw [hsx, List.append_assoc]), by simp, trivial⟩
    · have he : i = p.addrs.length := by omega
      subst he
      rw [List.take_length] at hlB ⊢
      have hA := hbA
      (repeat first | (apply wr_move; exact rfl; with_reducible (conv => enter [6, 3]; whnf)) | apply wr_end | apply wc_seq | apply wc_region | (apply wr_fieldAddr; iterate 2 exact rfl) | (apply wr_len_slice; iterate 2 exact rfl) | (apply wr_load; (iterate 3 exact rfl); (focus repeat first | with_reducible assumption | exact heap_alloc_same _ _ | exact World.putObj_heap_same (by first | omega | (simp only [World.size_alloc, World.putObj_size, ne_eq]; omega)) | ((first | refine hAl ?_ ?_ | refine hPu ?_ ?_); focus first | omega | (simp only [World.size_alloc, World.putObj_size, ne_eq]; omega))); exact rfl; conv => enter [6, 3]; whnf) | (apply wr_cmp; (iterate 3 exact rfl); exact cmpF (by dsimp only [cmpN]; first | done | omega)) | (apply wc_false; exact rfl) | (apply wc_exit; try simp only [thenE, inBlockE, bodyQ, ↓reduceIte, Nat.reduceEqDiff]))
      refine wr_call (vs := [.int .i64 8, S p.key]) rfl (rTxt_ca 8 p.key (by decide) (by omega) w12) rfl ?_
      rintro v w13 ⟨rfl, hk13⟩
      have hfin : s2 ++ listB 7 addrB p.addrs ++ txt 8 p.key = (partsB p).flatten := by
        rw [hs2, hs1, hs0]
        simp [partsB, List.append_assoc]
      refine wr_cat rfl rfl rfl (by simp only [List.length_append]; omega) ?_
      rw [hfin]
      (repeat first | (apply wr_assign; exact rfl; with_reducible (conv => enter [6, 3]; whnf)) | apply wr_end | (apply wc_ret; try simp only [thenE, inBlockE, bodyQ]))
      exact leave2 (v1 := S (partsB p).flatten) (v2 := .bool true) rfl rfl rfl ⟨rfl, hw11.trans (hk12.trans hk13)⟩
end Go.Proofs.YthlbgeonobicbaaDoor
