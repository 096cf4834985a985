/- names.Less. -/
import Derived.Test.YtajajahofkialaaGreatDoorNj2
namespace Go.Proofs.YtajajahofkialaaGreatDoor
open Go Go.V Go.RowKit
set_option linter.unusedVariables false
set_option linter.unusedSimpArgs false

theorem listedV (a : Bool) (l : TX) (x : List UInt8) (nv : Value) (w : World) (hsl : SlR w 1 nv l.length (SL l)) (hlen : l.length ≤ 8796093022000) :
    CallV Tryz.prog (.func (.func 61) #[SetV a nv] #[]) #[S x] w fun v w' => v = .bool (decide (x ∈ l)) ∧ Keeps NoB w w' :=
  callV_func (by kernel_rfl) (listed_ca a l x nv w hsl hlen)
abbrev lessD (n : Nat) : Nat → Prop := fun b => n ≤ b
theorem own_base {w : World} {a b : Nat} {T : TypeId} {n sz : Nat} {v : Value} {xs : List Value} (h : w.ownsRow b T sz v n xs) (hab : a ≤ b) : w.ownsRow a T sz v n xs := by
  rcases h with ⟨h1, ⟨rfl, h2⟩ | ⟨g, cap, cur, rfl, hg, h3⟩⟩
  · exact ⟨h1, .inl ⟨rfl, h2⟩⟩
  · exact ⟨h1, .inr ⟨g, cap, cur, rfl, Nat.le_trans hab hg, h3⟩⟩
def lessDead (j : Nat) : Bool := Nat.beq j 9
set_option maxRecDepth 100000 in
set_option maxHeartbeats 4000000 in
theorem less_ca (s t : PS) (sv tv : Value) (w : World) (hs : SetR w s sv) (ht : SetR w t tv) (hsn : s.2.length ≤ 8796093022000) (htn : t.2.length ≤ 8796093022000) :
    Ca Tryz.prog 37 #[sv, tv] w fun v w' => SetR w' (lessP s t) v ∧ Keeps NoB w w' := by
  obtain ⟨av, rfl, has⟩ := hs
  obtain ⟨bv, rfl, hbs⟩ := ht
  obtain ⟨aA, al⟩ := s
  obtain ⟨bA, bl⟩ := t
  dsimp only at has hbs hsn htn ⊢
  obtain ⟨an, cn, rfl, _, _⟩ := slr_strs has
  obtain ⟨bn, dn, rfl, _, _⟩ := slr_strs hbs
  refine ca_of_body (args := [SetV aA (.slice an al.length cn), SetV bA (.slice bn bl.length dn)]) Tryz.func37 rfl (by kernel_rfl) ?_
  apply wc_seq
  apply wc_region
  refine wr_box (v := SetV aA (.slice an al.length cn)) rfl rfl ?_
  obtain ⟨w1, hw1⟩ : ∃ w1, w1 = w.alloc (.cells (SetV aA (.slice an al.length cn)).cells 41) := ⟨_, rfl⟩
  obtain ⟨b1, hb1⟩ : ∃ b1, b1 = w.heap.size := ⟨_, rfl⟩
  have hk1 : Keeps NoB w w1 := by rw [hw1]; exact (Keeps.refl NoB w).alloc _
  have hc1 : w1.heap[b1]? = some (.cells #[.bool aA, .slice an al.length cn] 41 (0, 0)) := by rw [hw1, hb1]; exact heap_alloc_same _ _
  rw [← hw1, ← hb1]
  clear hw1
  refine wr_box (v := SetV bA (.slice bn bl.length dn)) rfl rfl ?_
  obtain ⟨w2, hw2⟩ : ∃ w2, w2 = w1.alloc (.cells (SetV bA (.slice bn bl.length dn)).cells 41) := ⟨_, rfl⟩
  obtain ⟨b2, hb2⟩ : ∃ b2, b2 = w1.heap.size := ⟨_, rfl⟩
  have hk2 : Keeps NoB w1 w2 := by rw [hw2]; exact (Keeps.refl NoB w1).alloc _
  have hc2 : w2.heap[b2]? = some (.cells #[.bool bA, .slice bn bl.length dn] 41 (0, 0)) := by rw [hw2, hb2]; exact heap_alloc_same _ _
  rw [← hw2, ← hb2]
  clear hw2
  apply wr_alloc
  focus exact rfl
  obtain ⟨w3, hw3⟩ : ∃ w3, w3 = w2.alloc (.cells (SetV false (.slice none 0 0)).cells 41) := ⟨_, rfl⟩
  obtain ⟨b3, hb3⟩ : ∃ b3, b3 = w2.heap.size := ⟨_, rfl⟩
  have hk3 : Keeps NoB w2 w3 := by rw [hw3]; exact (Keeps.refl NoB w2).alloc _
  have hc3 : w3.heap[b3]? = some (.cells #[.bool false, .slice none 0 0] 41 (0, 0)) := by rw [hw3, hb3]; exact heap_alloc_same _ _
  rw [← hw3, ← hb3]
  clear hw3
  have hkw3 := (hk1.trans hk2).trans hk3
  have hc13 := hk3.heap (hk2.heap hc1 (fun h => h)) (fun h => h)
  have hc23 := hk3.heap hc2 (fun h => h)
  have hl1 := lt_of_heap hc1
  have hl2 := lt_of_heap hc2
  have hl3 := lt_of_heap hc3
  have hs12 := hk2.size
  have hs23 := hk3.size
  have hk0 : ∀ {w'}, Keeps (lessD w3.heap.size) w3.drew w' → Keeps NoB w3 w' := fun hk => (Keeps.refl NoB w3).drew.trans' hk (fun i hi e => by have : w3.heap.size ≤ i := e; omega)
  (repeat first | apply wr_end | apply wc_seq)
  cases aA with
  | true =>
    refine wc_drawD (lessD w3.heap.size) (some 12) lessDead (l := _) 13 _ (by kernel_rfl) (by kernel_rfl) rfl (by kernel_rfl) (by kernel_rfl) (by decide) ?_
    apply chD_pure
    focus
      intro xx w' hk hF
      refine wr_fieldAddr rfl rfl ?_
      apply wr_nil
      exact ⟨rfl, Keeps.refl _ _⟩
    focus (intro xx yy h; rfl)
    focus kernel_rfl
    apply chD_pure
    focus
      intro xx w' hk hF
      refine wr_load (v := .bool true) rfl rfl rfl ((hk0 hk).heap hc13 (fun h => h)) rfl ?_
      apply wr_nil
      exact ⟨rfl, Keeps.refl _ _⟩
    focus (intro xx yy h; rfl)
    focus kernel_rfl
    apply chD_pure
    focus
      intro xx w' hk hF
      apply wr_move; exact rfl; with_reducible (conv => enter [6, 3]; whnf)
      apply wr_nil
      exact ⟨rfl, Keeps.refl _ _⟩
    focus (intro xx yy h; rfl)
    focus kernel_rfl
    apply chD_pure
    focus
      intro xx w' hk hF
      refine wr_fieldAddr rfl rfl ?_
      apply wr_nil
      exact ⟨rfl, Keeps.refl _ _⟩
    focus (intro xx yy h; rfl)
    focus kernel_rfl
    apply chD_pure
    focus
      intro xx w' hk hF
      refine wr_load (v := .bool bA) rfl rfl rfl ((hk0 hk).heap hc23 (fun h => h)) rfl ?_
      apply wr_nil
      exact ⟨rfl, Keeps.refl _ _⟩
    focus (intro xx yy h; rfl)
    focus kernel_rfl
    apply chD_pure
    focus
      intro xx w' hk hF
      apply wr_not; iterate 2 exact rfl
      apply wr_nil
      exact ⟨rfl, Keeps.refl _ _⟩
    focus (intro xx yy h; rfl)
    focus kernel_rfl
    apply chD_pure
    focus
      intro xx w' hk hF
      apply wr_pick (t := true); (iterate 2 exact rfl); with_reducible (conv => enter [6, 3]; whnf)
      apply wr_nil
      exact ⟨rfl, Keeps.refl _ _⟩
    focus (intro xx yy h; rfl)
    focus kernel_rfl
    apply chD_pure
    focus
      intro xx w' hk hF
      refine wr_fieldAddr rfl rfl ?_
      apply wr_nil
      exact ⟨rfl, Keeps.refl _ _⟩
    focus (intro xx yy h; rfl)
    focus kernel_rfl
    apply chD_pure
    focus
      intro xx w' hk hF
      refine wr_load (v := .slice an al.length cn) rfl rfl rfl ((hk0 hk).heap hc13 (fun h => h)) rfl ?_
      apply wr_nil
      exact ⟨rfl, Keeps.refl _ _⟩
    focus (intro xx yy h; rfl)
    focus kernel_rfl
    refine chD_fact (fun y => y) (fun y w' => w'.ownsRow w3.heap.size 9 1 y al.length (SL al)) (fun y w' w'' h k => own_keep h k (fun _ _ h => h)) ?_ ?_
    · intro xx w' hk hF
      refine wr_call (vs := [.slice an al.length cn]) rfl (cloneO_ca al _ w' (has.keep (hkw3.trans (hk0 hk)) (fun _ _ h => h)) hsn) rfl ?_
      rintro v w'' ⟨ho, hkc⟩
      apply wr_nil
      exact ⟨v, rfl, own_base ho (hk0 hk).size, hkc⟩
    apply chD_pure
    focus
      intro xx w' hk hF
      refine wr_loadAll (cs := [.bool bA, .slice bn bl.length dn]) rfl rfl rfl ((hk0 hk).heap hc23 (fun h => h)) rfl ?_
      apply wr_nil
      exact ⟨rfl, Keeps.refl _ _⟩
    focus (intro xx yy h; rfl)
    focus kernel_rfl
    apply chD_pure
    focus
      intro xx w' hk hF
      refine wr_makeFunc (v1 := [SetV bA (.slice bn bl.length dn)]) (v2 := []) rfl rfl rfl ?_
      apply wr_nil
      exact ⟨rfl, Keeps.refl _ _⟩
    focus (intro xx yy h; rfl)
    focus kernel_rfl
    refine chD_fact (fun y => y) (fun y w' => w'.ownsRow w3.heap.size 9 1 y (keepF (fun x => decide (x ∈ bl)) al).length (SL (keepF (fun x => decide (x ∈ bl)) al))) (fun y w' w'' h k => own_keep h k (fun _ _ h => h)) ?_ ?_
    · intro xx w' hk hF
      have ho := hF 9 (by kernel_rfl) (by kernel_rfl)
      refine wr_call (vs := [xx 9, .func (.func 61) #[SetV bA (.slice bn bl.length dn)] #[]]) rfl (del_ca (fun x => decide (x ∈ bl)) _ w' ho hsn (fun x hx w'' hkd => listedV bA bl x _ w'' (hbs.keep (Keeps.trans' (hkw3.trans ((Keeps.refl NoB w3).drew.trans (show Keeps NoB w3.drew w' from hk))) hkd (fun i hi e => by have := own_ge ho e; have := hkw3.size; omega)) (fun _ _ h => h)) htn)) rfl ?_
      rintro v w'' ⟨ho2, hkd⟩
      apply wr_nil
      exact ⟨v, rfl, ho2, hkd.mono (fun b _ e => own_ge ho e)⟩
    refine chD_nil ?_
    intro xx w4 hk4 hF
    have ho4 : w4.ownsRow w3.heap.size 9 1 (xx 12) (keepF (fun x => decide (x ∈ bl)) al).length (SL (keepF (fun x => decide (x ∈ bl)) al)) := hF 12 (by decide) (by kernel_rfl)
    obtain ⟨a5, c5, he5, _, _⟩ := slr_strs (SlR.of_own ho4)
    obtain ⟨n5, hn5⟩ : ∃ n5, n5 = (keepF (fun x => decide (x ∈ bl)) al).length := ⟨_, rfl⟩
    rw [← hn5] at ho4 he5
    have hk34 := hk0 hk4
    have hc4 := hk34.heap hc3 (fun h => h)
    refine wr_build (ps := [(0, .bool (true && !bA)), (1, .slice a5 n5 c5)]) (cs := [.bool (true && !bA), .slice a5 n5 c5]) rfl (by rw [← he5]; rfl) rfl rfl ?_
    refine wr_storeAll (cs := [.bool (true && !bA), .slice a5 n5 c5]) rfl rfl rfl (by intro u hu; simp at hu; rcases hu with rfl | rfl <;> rfl) hc4 rfl rfl ?_
    (repeat first | apply wr_end | (apply wc_ret; try simp only [thenE, inBlockE, bodyQ]))
    rw [he5] at ho4
    have hlt4 := lt_of_heap hc4
    have hkp : Keeps (· = b3) w4 (w4.putObj b3 (.cells [.bool (true && !bA), .slice a5 n5 c5].toArray 41 (0, 0))) := (Keeps.refl _ w4).put _ (fun _ => rfl)
    refine leaveN (vs := [SetV (true && !bA) (.slice a5 n5 c5)]) (resv_cells (cs := [.bool (true && !bA), .slice a5 n5 c5]) rfl rfl (World.putObj_heap_same hlt4) rfl resv_nil) ⟨⟨.slice a5 n5 c5, rfl, ?_⟩, Keeps.trans' (hkw3.trans hk34) hkp (fun i hi e => by have := hk1.size; omega)⟩
    show SlR _ 1 _ (keepF (fun x => decide (x ∈ bl)) al).length (SL (keepF (fun x => decide (x ∈ bl)) al))
    rw [← hn5]
    exact (SlR.of_own ho4).keep hkp (fun b hb e => by have := own_ge ho4 hb; omega)
  | false =>
    refine wc_drawD (lessD w3.heap.size) (some 12) lessDead (l := _) 13 _ (by kernel_rfl) (by kernel_rfl) rfl (by kernel_rfl) (by kernel_rfl) (by decide) ?_
    apply chD_pure
    focus
      intro xx w' hk hF
      refine wr_fieldAddr rfl rfl ?_
      apply wr_nil
      exact ⟨rfl, Keeps.refl _ _⟩
    focus (intro xx yy h; rfl)
    focus kernel_rfl
    apply chD_pure
    focus
      intro xx w' hk hF
      refine wr_load (v := .bool false) rfl rfl rfl ((hk0 hk).heap hc13 (fun h => h)) rfl ?_
      apply wr_nil
      exact ⟨rfl, Keeps.refl _ _⟩
    focus (intro xx yy h; rfl)
    focus kernel_rfl
    apply chD_pure
    focus
      intro xx w' hk hF
      apply wr_move; exact rfl; with_reducible (conv => enter [6, 3]; whnf)
      apply wr_nil
      exact ⟨rfl, Keeps.refl _ _⟩
    focus (intro xx yy h; rfl)
    focus kernel_rfl
    apply chD_pure
    focus
      intro xx w' hk hF
      refine wr_skip rfl ?_
      apply wr_nil
      exact ⟨rfl, Keeps.refl _ _⟩
    focus (intro xx yy h; rfl)
    focus kernel_rfl
    apply chD_pure
    focus
      intro xx w' hk hF
      refine wr_skip rfl ?_
      apply wr_nil
      exact ⟨rfl, Keeps.refl _ _⟩
    focus (intro xx yy h; rfl)
    focus kernel_rfl
    apply chD_pure
    focus
      intro xx w' hk hF
      refine wr_skip rfl ?_
      apply wr_nil
      exact ⟨rfl, Keeps.refl _ _⟩
    focus (intro xx yy h; rfl)
    focus kernel_rfl
    apply chD_pure
    focus
      intro xx w' hk hF
      apply wr_pick (t := false); (iterate 2 exact rfl); with_reducible (conv => enter [6, 3]; whnf)
      apply wr_nil
      exact ⟨rfl, Keeps.refl _ _⟩
    focus (intro xx yy h; rfl)
    focus kernel_rfl
    apply chD_pure
    focus
      intro xx w' hk hF
      refine wr_fieldAddr rfl rfl ?_
      apply wr_nil
      exact ⟨rfl, Keeps.refl _ _⟩
    focus (intro xx yy h; rfl)
    focus kernel_rfl
    apply chD_pure
    focus
      intro xx w' hk hF
      refine wr_load (v := .slice an al.length cn) rfl rfl rfl ((hk0 hk).heap hc13 (fun h => h)) rfl ?_
      apply wr_nil
      exact ⟨rfl, Keeps.refl _ _⟩
    focus (intro xx yy h; rfl)
    focus kernel_rfl
    refine chD_fact (fun y => y) (fun y w' => w'.ownsRow w3.heap.size 9 1 y al.length (SL al)) (fun y w' w'' h k => own_keep h k (fun _ _ h => h)) ?_ ?_
    · intro xx w' hk hF
      refine wr_call (vs := [.slice an al.length cn]) rfl (cloneO_ca al _ w' (has.keep (hkw3.trans (hk0 hk)) (fun _ _ h => h)) hsn) rfl ?_
      rintro v w'' ⟨ho, hkc⟩
      apply wr_nil
      exact ⟨v, rfl, own_base ho (hk0 hk).size, hkc⟩
    apply chD_pure
    focus
      intro xx w' hk hF
      refine wr_loadAll (cs := [.bool bA, .slice bn bl.length dn]) rfl rfl rfl ((hk0 hk).heap hc23 (fun h => h)) rfl ?_
      apply wr_nil
      exact ⟨rfl, Keeps.refl _ _⟩
    focus (intro xx yy h; rfl)
    focus kernel_rfl
    apply chD_pure
    focus
      intro xx w' hk hF
      refine wr_makeFunc (v1 := [SetV bA (.slice bn bl.length dn)]) (v2 := []) rfl rfl rfl ?_
      apply wr_nil
      exact ⟨rfl, Keeps.refl _ _⟩
    focus (intro xx yy h; rfl)
    focus kernel_rfl
    refine chD_fact (fun y => y) (fun y w' => w'.ownsRow w3.heap.size 9 1 y (keepF (fun x => decide (x ∈ bl)) al).length (SL (keepF (fun x => decide (x ∈ bl)) al))) (fun y w' w'' h k => own_keep h k (fun _ _ h => h)) ?_ ?_
    · intro xx w' hk hF
      have ho := hF 9 (by kernel_rfl) (by kernel_rfl)
      refine wr_call (vs := [xx 9, .func (.func 61) #[SetV bA (.slice bn bl.length dn)] #[]]) rfl (del_ca (fun x => decide (x ∈ bl)) _ w' ho hsn (fun x hx w'' hkd => listedV bA bl x _ w'' (hbs.keep (Keeps.trans' (hkw3.trans ((Keeps.refl NoB w3).drew.trans (show Keeps NoB w3.drew w' from hk))) hkd (fun i hi e => by have := own_ge ho e; have := hkw3.size; omega)) (fun _ _ h => h)) htn)) rfl ?_
      rintro v w'' ⟨ho2, hkd⟩
      apply wr_nil
      exact ⟨v, rfl, ho2, hkd.mono (fun b _ e => own_ge ho e)⟩
    refine chD_nil ?_
    intro xx w4 hk4 hF
    have ho4 : w4.ownsRow w3.heap.size 9 1 (xx 12) (keepF (fun x => decide (x ∈ bl)) al).length (SL (keepF (fun x => decide (x ∈ bl)) al)) := hF 12 (by decide) (by kernel_rfl)
    obtain ⟨a5, c5, he5, _, _⟩ := slr_strs (SlR.of_own ho4)
    obtain ⟨n5, hn5⟩ : ∃ n5, n5 = (keepF (fun x => decide (x ∈ bl)) al).length := ⟨_, rfl⟩
    rw [← hn5] at ho4 he5
    have hk34 := hk0 hk4
    have hc4 := hk34.heap hc3 (fun h => h)
    refine wr_build (ps := [(0, .bool (false && !bA)), (1, .slice a5 n5 c5)]) (cs := [.bool (false && !bA), .slice a5 n5 c5]) rfl (by rw [← he5]; rfl) rfl rfl ?_
    refine wr_storeAll (cs := [.bool (false && !bA), .slice a5 n5 c5]) rfl rfl rfl (by intro u hu; simp at hu; rcases hu with rfl | rfl <;> rfl) hc4 rfl rfl ?_
    (repeat first | apply wr_end | (apply wc_ret; try simp only [thenE, inBlockE, bodyQ]))
    rw [he5] at ho4
    have hlt4 := lt_of_heap hc4
    have hkp : Keeps (· = b3) w4 (w4.putObj b3 (.cells [.bool (false && !bA), .slice a5 n5 c5].toArray 41 (0, 0))) := (Keeps.refl _ w4).put _ (fun _ => rfl)
    refine leaveN (vs := [SetV (false && !bA) (.slice a5 n5 c5)]) (resv_cells (cs := [.bool (false && !bA), .slice a5 n5 c5]) rfl rfl (World.putObj_heap_same hlt4) rfl resv_nil) ⟨⟨.slice a5 n5 c5, rfl, ?_⟩, Keeps.trans' (hkw3.trans hk34) hkp (fun i hi e => by have := hk1.size; omega)⟩
    show SlR _ 1 _ (keepF (fun x => decide (x ∈ bl)) al).length (SL (keepF (fun x => decide (x ∈ bl)) al))
    rw [← hn5]
    exact (SlR.of_own ho4).keep hkp (fun b hb e => by have := own_ge ho4 hb; omega)
end Go.Proofs.YtajajahofkialaaGreatDoor

namespace Go.Proofs.YtajajahofkialaaGreatDoor
open Go Go.V Go.RowKit
set_option linter.unusedVariables false
set_option linter.unusedSimpArgs false

set_option maxRecDepth 100000 in
set_option maxHeartbeats 1000000 in
theorem equalS_ca (l m : TX) (x y : Value) (w : World) (hx : SlR w 1 x l.length (SL l)) (hy : SlR w 1 y m.length (SL m)) (hlen : l.length ≤ 8796093022000) (hlen' : m.length ≤ 8796093022000) :
    Ca Tryz.prog 60 #[x, y] w fun v w' => v = .bool (decide (l = m)) ∧ Keeps NoB w w' := by
  obtain ⟨a, c, rfl, hc, hat⟩ := slr_strs hx
  obtain ⟨a', c', rfl, hc', hat'⟩ := slr_strs hy
  refine ca_of_body (args := [.slice a l.length c, .slice a' m.length c']) Tryz.func60 rfl (by kernel_rfl) ?_
  by_cases hlm : l.length = m.length
  · (repeat first | (apply wr_move; exact rfl; with_reducible (conv => enter [6, 3]; whnf)) | (apply wr_assign; exact rfl; with_reducible (conv => enter [6, 3]; whnf)) | apply wr_end | apply wc_seq | apply wc_region | apply wc_skip | apply wc_block | (apply wr_len_slice; iterate 2 exact rfl) | (apply wr_cmp; (iterate 3 exact rfl); exact cmpF (by dsimp only [cmpN]; first | done | omega)) | (apply wc_false; exact rfl))
    refine wc_loopL (α := Nat) (fun i => [(0, .slice a l.length c), (1, .slice a' m.length c'), (12, .int .i64 (l.length : Int)), (13, .int .i64 (i : Int))])
      (fun i ds w' => ds = [] ∧ i ≤ l.length ∧ l.take i = m.take i ∧ Keeps NoB w w') (fun i => l.length - i) 0 ⟨rfl, Nat.zero_le _, rfl, Keeps.refl _ _⟩ ⟨rfl, rfl, rfl, rfl, trivial⟩ ?_
    rintro i ds f0 w2 ⟨rfl, hi, hpre, hk2⟩
    by_cases hlt : i < l.length
    · obtain ⟨b, o, rfl, cur, e, fr, hb, hr⟩ := hat (by omega)
      obtain ⟨b', o', rfl, cur', e', fr', hb', hr'⟩ := hat' (by omega)
      have hb2 := hk2.heap hb (fun h => h)
      have hb2' := hk2.heap hb' (fun h => h)
      obtain ⟨p, hp⟩ : ∃ p, l[i]? = some p := ⟨l[i], by simp [hlt]⟩
      obtain ⟨q, hq⟩ : ∃ q, m[i]? = some q := ⟨m[i]'(by omega), by simp [show i < m.length by omega]⟩
      (repeat first | (apply wr_move; exact rfl; with_reducible (conv => enter [6, 3]; whnf)) | (apply wr_assign; exact rfl; with_reducible (conv => enter [6, 3]; whnf)) | apply wr_end | apply wc_seq | apply wc_region | apply wc_skip | apply wc_block | (apply wr_cmp; (iterate 3 exact rfl); exact cmpT (by dsimp only [cmpP]; first | done | omega)) | (apply wc_true; exact rfl))
      refine wc_drawS (l := _) (S := fun w' => w' = w2.drew) (by kernel_rfl) (by kernel_rfl) rfl ?_
      apply ch_step
      focus
        intro w' hS
        subst hS
        apply wr_move; exact rfl; with_reducible (conv => enter [6, 3]; whnf)
        apply wr_nil
        exact ⟨rfl, rfl⟩
      apply ch_step
      focus
        intro w' hS
        subst hS
        apply wr_move; exact rfl; with_reducible (conv => enter [6, 3]; whnf)
        apply wr_nil
        exact ⟨rfl, rfl⟩
      apply ch_step
      focus
        intro w' hS
        subst hS
        refine wr_indexAddr (i := i) rfl rfl rfl hlt ?_
        apply wr_nil
        exact ⟨rfl, rfl⟩
      apply ch_step
      focus
        intro w' hS
        subst hS
        refine wr_load (v := S p) rfl rfl rfl hb2 (hr i p hp) ?_
        apply wr_nil
        exact ⟨rfl, rfl⟩
      apply ch_step
      focus
        intro w' hS
        subst hS
        apply wr_move; exact rfl; with_reducible (conv => enter [6, 3]; whnf)
        apply wr_nil
        exact ⟨rfl, rfl⟩
      apply ch_step
      focus
        intro w' hS
        subst hS
        apply wr_move; exact rfl; with_reducible (conv => enter [6, 3]; whnf)
        apply wr_nil
        exact ⟨rfl, rfl⟩
      apply ch_step
      focus
        intro w' hS
        subst hS
        refine wr_indexAddr (i := i) rfl rfl rfl (by omega) ?_
        apply wr_nil
        exact ⟨rfl, rfl⟩
      apply ch_step
      focus
        intro w' hS
        subst hS
        refine wr_load (v := S q) rfl rfl rfl hb2' (hr' i q hq) ?_
        apply wr_nil
        exact ⟨rfl, rfl⟩
      apply ch_step
      focus
        intro w' hS
        subst hS
        refine wr_strne (a := p) (b := q) rfl rfl rfl ?_
        apply wr_nil
        exact ⟨rfl, rfl⟩
      refine ch_nil ?_
      intro w' hS
      subst hS
      by_cases he : p = q
      · rw [show decide (p ≠ q) = false by simp [he]]
        (repeat first | (apply wr_move; exact rfl; with_reducible (conv => enter [6, 3]; whnf)) | apply wr_end | apply wc_region | apply wc_skip | (apply wr_add; (iterate 3 exact rfl); exact w_fit (by dsimp only [kIn]; first | done | omega)) | (apply wc_false; exact rfl))
        refine ⟨i + 1, by omega, ⟨by trivial, hlt, ?_, hk2.drew⟩, rfl, rfl, rfl, by simp, trivial⟩
        rw [List.take_add_one, List.take_add_one, hp, hq, hpre, he]
      · rw [show decide (p ≠ q) = true by simp [he]]
        (repeat first | (apply wr_assign; exact rfl; with_reducible (conv => enter [6, 3]; whnf)) | apply wr_end | apply wc_seq | apply wc_region | (apply wc_true; exact rfl) | (apply wc_ret; try simp only [thenE, inBlockE, bodyQ]))
        refine leave1 (v := .bool false) rfl rfl ⟨?_, hk2.drew⟩
        rw [decide_eq_false]
        intro h
        rw [h, hq] at hp
        exact he (Option.some.inj hp).symm
    · have he : i = l.length := by omega
      subst he
      rw [List.take_length, List.take_of_length_le (by omega)] at hpre
      (repeat first | (apply wr_assign; exact rfl; with_reducible (conv => enter [6, 3]; whnf)) | apply wr_end | apply wc_seq | apply wc_region | (apply wr_cmp; (iterate 3 exact rfl); exact cmpF (by dsimp only [cmpN]; first | done | omega)) | (apply wc_false; exact rfl) | (apply wc_exit; try simp only [thenE, inBlockE, bodyQ, ↓reduceIte, Nat.reduceEqDiff]) | (apply wc_ret; try simp only [thenE, inBlockE, bodyQ]))
      exact leave1 (v := .bool true) rfl rfl ⟨by rw [decide_eq_true hpre], hk2⟩
  · (repeat first | (apply wr_move; exact rfl; with_reducible (conv => enter [6, 3]; whnf)) | (apply wr_assign; exact rfl; with_reducible (conv => enter [6, 3]; whnf)) | apply wr_end | apply wc_seq | apply wc_region | (apply wr_len_slice; iterate 2 exact rfl) | (apply wr_cmp; (iterate 3 exact rfl); exact cmpT (by dsimp only [cmpP]; first | done | omega)) | (apply wc_true; exact rfl) | (apply wc_ret; try simp only [thenE, inBlockE, bodyQ]))
    exact leave1 (v := .bool false) rfl rfl ⟨by rw [decide_eq_false (fun h => hlm (by rw [h]))], Keeps.refl _ _⟩
theorem slS_put {w w' : World} {b : Nat} {x : Bool} {nv v : Value} {T : TypeId} {fr : Nat × Nat} {l : TX} (hc : w.heap[b]? = some (.cells #[.bool x, nv] T fr)) (hnv : ∀ s, nv ≠ S s) {n : Nat} (hn : n = l.length) (h : SlR w 1 v n (SL l)) (hk : Keeps (· = b) w w') : SlR w' 1 v n (SL l) := by
  subst hn
  obtain ⟨hl, a, c, rfl, hcc, h⟩ := h
  refine ⟨hl, a, c, rfl, hcc, ?_⟩
  rcases h with h | ⟨b', o, cur, e, fr', rfl, hb, hr⟩
  · exact .inl h
  by_cases h0 : l.length = 0
  · exact .inl ⟨h0, fun e => by cases e⟩
  refine .inr ⟨b', o, cur, e, fr', rfl, hk.heap hb ?_, hr⟩
  intro e'
  subst e'
  rw [hc] at hb
  cases hb
  have h1 := hr 0 (by omega)
  have h2 : (SL l)[0]? = some (S (l[0]'(by omega))) := SL_get (by simp)
  rw [h2] at h1
  match o, h1 with
  | 0, h1 => simp at h1
  | 1, h1 => simp at h1; exact hnv _ h1
  | o + 2, h1 => simp at h1
def sameP (s t : PS) : Bool := s.1 == t.1 && decide (s.2 = t.2)
theorem sameP_iff (s t : PS) : sameP s t = true ↔ s = t := by
  obtain ⟨a, l⟩ := s
  obtain ⟨b, m⟩ := t
  simp [sameP, Prod.mk.injEq]
set_option maxRecDepth 100000 in
set_option maxHeartbeats 1000000 in
theorem same_ca (s t : PS) (sv tv : Value) (w : World) (hs : SetR w s sv) (ht : SetR w t tv) (hsn : s.2.length ≤ 8796093022000) (htn : t.2.length ≤ 8796093022000) :
    Ca Tryz.prog 35 #[sv, tv] w fun v w' => v = .bool (sameP s t) ∧ Keeps NoB w w' := by
  obtain ⟨av, rfl, has⟩ := hs
  obtain ⟨bv, rfl, hbs⟩ := ht
  obtain ⟨aA, al⟩ := s
  obtain ⟨bA, bl⟩ := t
  dsimp only at has hbs hsn htn ⊢
  obtain ⟨an, cn, rfl, _, _⟩ := slr_strs has
  obtain ⟨bn, dn, rfl, _, _⟩ := slr_strs hbs
  refine ca_of_body (args := [SetV aA (.slice an al.length cn), SetV bA (.slice bn bl.length dn)]) Tryz.func35 rfl (by kernel_rfl) ?_
  apply wc_seq
  apply wc_region
  refine wr_box (v := SetV aA (.slice an al.length cn)) rfl rfl ?_
  obtain ⟨w1, hw1⟩ : ∃ w1, w1 = w.alloc (.cells (SetV aA (.slice an al.length cn)).cells 41) := ⟨_, rfl⟩
  obtain ⟨b1, hb1⟩ : ∃ b1, b1 = w.heap.size := ⟨_, rfl⟩
  have hk1 : Keeps NoB w w1 := by rw [hw1]; exact (Keeps.refl NoB w).alloc _
  have hc1 : w1.heap[b1]? = some (.cells #[.bool aA, .slice an al.length cn] 41 (0, 0)) := by rw [hw1, hb1]; exact heap_alloc_same _ _
  rw [← hw1, ← hb1]
  clear hw1
  refine wr_box (v := SetV bA (.slice bn bl.length dn)) rfl rfl ?_
  obtain ⟨w2, hw2⟩ : ∃ w2, w2 = w1.alloc (.cells (SetV bA (.slice bn bl.length dn)).cells 41) := ⟨_, rfl⟩
  obtain ⟨b2, hb2⟩ : ∃ b2, b2 = w1.heap.size := ⟨_, rfl⟩
  have hk2 : Keeps NoB w1 w2 := by rw [hw2]; exact (Keeps.refl NoB w1).alloc _
  have hc2 : w2.heap[b2]? = some (.cells #[.bool bA, .slice bn bl.length dn] 41 (0, 0)) := by rw [hw2, hb2]; exact heap_alloc_same _ _
  rw [← hw2, ← hb2]
  clear hw2
  have hkw2 := hk1.trans hk2
  have hc12 := hk2.heap hc1 (fun h => h)
  (repeat first | (apply wr_assign; exact rfl; with_reducible (conv => enter [6, 3]; whnf)) | apply wr_end | apply wc_seq | apply wc_region | (apply wr_fieldAddr; iterate 2 exact rfl) | (apply wr_load; (iterate 3 exact rfl); (focus repeat first | with_reducible assumption | exact heap_alloc_same _ _ | exact World.putObj_heap_same (by first | omega | (simp only [World.size_alloc, World.putObj_size, ne_eq]; omega)) | ((first | refine hAl ?_ ?_ | refine hPu ?_ ?_); focus first | omega | (simp only [World.size_alloc, World.putObj_size, ne_eq]; omega))); exact rfl; conv => enter [6, 3]; whnf))
  refine wr_boolEq (c := aA == bA) rfl rfl rfl rfl ?_
  unfold sameP
  dsimp only
  cases hab : aA == bA with
  | true =>
    (repeat first | (apply wr_move; exact rfl; with_reducible (conv => enter [6, 3]; whnf)) | (apply wr_fieldAddr; iterate 2 exact rfl) | (apply wr_load; (iterate 3 exact rfl); (focus repeat first | with_reducible assumption | exact heap_alloc_same _ _ | exact World.putObj_heap_same (by first | omega | (simp only [World.size_alloc, World.putObj_size, ne_eq]; omega)) | ((first | refine hAl ?_ ?_ | refine hPu ?_ ?_); focus first | omega | (simp only [World.size_alloc, World.putObj_size, ne_eq]; omega))); exact rfl; conv => enter [6, 3]; whnf))
    refine wr_call (vs := [.slice an al.length cn, .slice bn bl.length dn]) rfl (equalS_ca al bl _ _ w2 (has.keep hkw2 (fun _ _ h => h)) (hbs.keep hkw2 (fun _ _ h => h)) hsn htn) rfl ?_
    rintro v w3 ⟨rfl, hk3⟩
    (repeat first | (apply wr_assign; exact rfl; with_reducible (conv => enter [6, 3]; whnf)) | apply wr_end | (apply wr_pick (t := true); (iterate 2 exact rfl); with_reducible (conv => enter [6, 3]; whnf)) | (apply wc_ret; try simp only [thenE, inBlockE, bodyQ]))
    exact leave1 (v := .bool (decide (al = bl))) rfl rfl ⟨by rw [Bool.true_and], hkw2.trans hk3⟩
  | false =>
    (repeat first | (apply wr_move; exact rfl; with_reducible (conv => enter [6, 3]; whnf)) | (apply wr_assign; exact rfl; with_reducible (conv => enter [6, 3]; whnf)) | apply wr_end | (apply wr_pick (t := false); (iterate 2 exact rfl); with_reducible (conv => enter [6, 3]; whnf)) | (apply wc_ret; try simp only [thenE, inBlockE, bodyQ]) | (apply wr_skip; exact rfl))
    exact leave1 (v := .bool false) rfl rfl ⟨by rw [Bool.false_and], hkw2⟩
end Go.Proofs.YtajajahofkialaaGreatDoor
