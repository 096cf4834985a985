/- A thing by its parts. -/
import Derived.Test.YtafnbbehmbmchaaDoorSj
namespace Go.Proofs.YtafnbbehmbmchaaDoor
open Go Go.V Go.RowKit
set_option linter.unusedVariables false
set_option linter.unusedSimpArgs false

def wordTab : List TT := [[97], [98], [99, 47, 100], [101, 46, 102], [103, 45, 49], [122, 122]]
def wordOf (n : Nat) : TT := wordTab.getD (n % 6) []
set_option maxRecDepth 100000 in
theorem word_ca (n : Nat) (hn : n < 256) (w : World) : Ca Tryd.prog 23 #[.int .u8 (n : Int)] w fun v w' => v = S (wordOf n) ∧ Keeps NoB w w' := by
  refine ca_of_body (args := [.int .u8 (n : Int)]) Tryd.func23 rfl (by kernel_rfl) ?_
  (repeat first | (apply wr_assign; exact rfl; with_reducible (conv => enter [6, 3]; whnf)) | apply wr_end | apply wc_seq | apply wc_region)
  refine wr_buildSlice (vs := wordTab.map S) rfl rfl (by intro v hv; obtain ⟨x, _, rfl⟩ := List.mem_map.1 hv; rfl) rfl (by decide) (by decide) (by decide) ?_
  refine wr_name ?_
  intro w1 hw1
  obtain ⟨b1, hb1⟩ : ∃ b, b = w.heap.size := ⟨_, rfl⟩
  have hk1 : Keeps NoB w w1 := by rw [hw1]; exact (Keeps.refl NoB w).alloc _
  have hc1 : w1.heap[b1]? = some (.cells #[S [97], S [98], S [99, 47, 100], S [101, 46, 102], S [103, 45, 49], S [122, 122]] 9 (0, 0)) := by rw [hw1, hb1]; exact heap_alloc_same _ _
  rw [← hb1]
  clear hw1
  (repeat first | (apply wr_move; exact rfl; with_reducible (conv => enter [6, 3]; whnf)))
  refine wr_remN (n := n) (m := 6) rfl rfl rfl (by decide) ?_
  have hm : n % 6 < 6 := Nat.mod_lt _ (by decide)
  refine wr_indexAddr (i := n % 6) rfl rfl rfl hm ?_
  have hv : (#[S [97], S [98], S [99, 47, 100], S [101, 46, 102], S [103, 45, 49], S [122, 122]] : Array Value)[0 + n % 6 * 1]? = some (S (wordOf n)) := by
    unfold wordOf
    rw [Nat.zero_add, Nat.mul_one]
    have : ∀ i, i < 6 → (#[S [97], S [98], S [99, 47, 100], S [101, 46, 102], S [103, 45, 49], S [122, 122]] : Array Value)[i]? = some (S (wordTab.getD i [])) := by
      intro i hi
      match i, hi with
      | 0, _ => rfl
      | 1, _ => rfl
      | 2, _ => rfl
      | 3, _ => rfl
      | 4, _ => rfl
      | 5, _ => rfl
      | i + 6, h => omega
    exact this _ hm
  refine wr_load (v := S (wordOf n)) rfl rfl rfl hc1 hv ?_
  (repeat first | (apply wr_assign; exact rfl; with_reducible (conv => enter [6, 3]; whnf)) | apply wr_end | (apply wc_ret; try simp only [thenE, inBlockE, bodyQ]))
  exact leave1 (v := S (wordOf n)) rfl rfl ⟨rfl, hk1⟩
theorem word_ok (n : Nat) : nameOk (wordOf n) := by
  have h : ∀ i, i < 6 → nameOk (wordTab.getD i []) := by decide +kernel
  exact h (n % 6) (Nat.mod_lt _ (by decide))
theorem word_star (n : Nat) : wordOf n ≠ star := by
  have h : ∀ i, i < 6 → wordTab.getD i [] ≠ star := by decide +kernel
  exact h (n % 6) (Nat.mod_lt _ (by decide))
theorem word_mem (n : Nat) : wordOf n ∈ wordTab := by
  have h : ∀ i, i < 6 → wordTab.getD i [] ∈ wordTab := by decide +kernel
  exact h (n % 6) (Nat.mod_lt _ (by decide))
def goneP (x : TH) : Bool := x.1.2.2.2.1 && decide (x.2.2 % 4 = 0)
/-- What a thing is by its parts. -/
def thP (x : TH) : RD := (1 + x.1.1 % 18446744073709551616 % 5, wordOf x.2.2, 1 + x.1.2.2.1 % 20, goneP x, if goneP x = true then [] else x.1.2.2.2.2.take (min x.1.2.2.2.2.length 200))
theorem thP_ok (x : TH) : rightOk (thP x) := by
  refine ⟨⟨?_, ?_, .inr (word_ok _)⟩, word_star _, ?_, fun h => ?_, ?_, ?_⟩
  · show 1 ≤ 1 + x.1.1 % 18446744073709551616 % 5
    omega
  · show 1 + x.1.1 % 18446744073709551616 % 5 ≤ 5
    omega
  · unfold thP
    dsimp only
    split
    · simp
    · simp [List.length_take]; omega
  · have h' : goneP x = true := h
    unfold thP
    dsimp only
    rw [if_pos h']
  · show 1 ≤ 1 + x.1.2.2.1 % 20
    omega
  · show 1 + x.1.2.2.1 % 20 ≤ _
    omega
theorem thP_short (x : TH) : (thP x).2.1.length ≤ 9223372036854775807 ∧ (thP x).2.2.2.2.length ≤ 9223372036854775807 := by
  have h := (thP_ok x).2.2.1
  have h2 := (word_ok x.2.2).2.1
  refine ⟨?_, by omega⟩
  show (wordOf x.2.2).length ≤ _
  omega
theorem w64 (n : Int) : IntKind.u64.wrap n = n % 18446744073709551616 := by simp [IntKind.wrap, IntKind.bits, IntKind.signed]
set_option maxRecDepth 100000 in
set_option maxHeartbeats 8000000 in
theorem thing_ca (x : TH) (hx : thOk x) (hown : x.2.1 = true) (w : World) : Ca Tryd.prog 11 #[.agg (GTh x).toArray] w fun v w' => v = RdV (thP x) ∧ Keeps NoB w w' := by
  obtain ⟨⟨ty, nm, sq, gn, bd⟩, ow, n⟩ := x
  obtain ⟨hty, hnm, hsq, hbd, hn⟩ := hx
  dsimp only at hty hnm hsq hbd hn hown
  subst hown
  refine ca_of_body (args := [.agg (GTh ((ty, nm, sq, gn, bd), true, n)).toArray]) Tryd.func11 rfl (by kernel_rfl) ?_
  apply wc_seq
  apply wc_region
  refine wr_box (v := .agg (GTh ((ty, nm, sq, gn, bd), true, n)).toArray) rfl rfl ?_
  refine wr_name ?_
  intro w1 hw1
  obtain ⟨b1, hb1⟩ : ∃ b1, b1 = w.heap.size := ⟨_, rfl⟩
  have hk1 : Keeps NoB w w1 := by rw [hw1]; exact (Keeps.refl NoB w).alloc _
  have hc1 : w1.heap[b1]? = some (.cells (GTh ((ty, nm, sq, gn, bd), true, n)).toArray 32 (0, 0)) := by rw [hw1, hb1]; exact heap_alloc_same _ _
  rw [← hb1]
  clear hw1
  apply wr_alloc
  focus exact rfl
  refine wr_name ?_
  intro w2 hw2
  obtain ⟨b2, hb2⟩ : ∃ b2, b2 = w1.heap.size := ⟨_, rfl⟩
  have hk2 : Keeps NoB w1 w2 := by rw [hw2]; exact (Keeps.refl NoB w1).alloc _
  have hc2 : w2.heap[b2]? = some (.cells (GRd zeroR).toArray 30 (0, 0)) := by rw [hw2, hb2]; exact heap_alloc_same _ _
  rw [← hb2]
  clear hw2
  have hc12 := hk2.heap hc1 (fun h => h)
  have hk0 : ∀ {w'}, Keeps NoB w2.drew w' → Keeps NoB w2 w' := fun hk => (Keeps.refl NoB w2).drew.trans hk
  have hgl : (bd.take (min bd.length 200)).length = min bd.length 200 := by rw [List.length_take]; omega
  cases gn with
  | false =>
    have hg : goneP ((ty, nm, sq, false, bd), true, n) = false := rfl
    (repeat first | apply wr_end | apply wc_seq | apply wc_region | apply wc_skip | (apply wr_fieldAddr; iterate 2 exact rfl) | (apply wr_not; iterate 2 exact rfl) | (apply wr_load; (iterate 3 exact rfl); (focus repeat first | with_reducible assumption | exact heap_alloc_same _ _ | exact World.putObj_heap_same (by first | omega | (simp only [World.size_alloc, World.putObj_size, ne_eq]; omega)) | ((first | refine hAl ?_ ?_ | refine hPu ?_ ?_); focus first | omega | (simp only [World.size_alloc, World.putObj_size, ne_eq]; omega))); exact rfl; conv => enter [6, 3]; whnf) | (apply wc_false; exact rfl))
    refine wc_drawP (l := _) 37 _ (by kernel_rfl) (by kernel_rfl) rfl (by kernel_rfl) (by kernel_rfl) (by decide) ?_
    apply chP_pure
    focus
      intro xx w' hk hF
      refine wr_fieldAddr rfl rfl ?_
      apply wr_nil
      exact ⟨rfl, Keeps.refl _ _⟩
    focus (intro xx yy h; rfl)
    focus kernel_rfl
    apply chP_pure
    focus
      intro xx w' hk hF
      refine wr_fieldAddr rfl rfl ?_
      apply wr_nil
      exact ⟨rfl, Keeps.refl _ _⟩
    focus (intro xx yy h; rfl)
    focus kernel_rfl
    apply chP_pure
    focus
      intro xx w' hk hF
      refine wr_fieldAddr rfl rfl ?_
      apply wr_nil
      exact ⟨rfl, Keeps.refl _ _⟩
    focus (intro xx yy h; rfl)
    focus kernel_rfl
    apply chP_pure
    focus
      intro xx w' hk hF
      refine wr_load (v := .int .i64 ty) rfl rfl rfl ((hk0 hk).heap hc12 (fun h => h)) rfl ?_
      apply wr_nil
      exact ⟨rfl, Keeps.refl _ _⟩
    focus (intro xx yy h; rfl)
    focus kernel_rfl
    apply chP_pure
    focus
      intro xx w' hk hF
      refine wr_conv (c := ty % 18446744073709551616) rfl rfl (w64 _) ?_
      apply wr_nil
      exact ⟨rfl, Keeps.refl _ _⟩
    focus (intro xx yy h; rfl)
    focus kernel_rfl
    apply chP_pure
    focus
      intro xx w' hk hF
      refine wr_rem (c := ty % 18446744073709551616 % 5) rfl rfl rfl (by decide) (Int.tmod_eq_emod_of_nonneg (by omega)) ?_
      apply wr_nil
      exact ⟨rfl, Keeps.refl _ _⟩
    focus (intro xx yy h; rfl)
    focus kernel_rfl
    apply chP_pure
    focus
      intro xx w' hk hF
      refine wr_conv (c := ty % 18446744073709551616 % 5) rfl rfl (w_i64 (by omega)) ?_
      apply wr_nil
      exact ⟨rfl, Keeps.refl _ _⟩
    focus (intro xx yy h; rfl)
    focus kernel_rfl
    apply chP_pure
    focus
      intro xx w' hk hF
      refine wr_add (c := 1 + ty % 18446744073709551616 % 5) rfl rfl rfl (w_i64 (by omega)) ?_
      apply wr_nil
      exact ⟨rfl, Keeps.refl _ _⟩
    focus (intro xx yy h; rfl)
    focus kernel_rfl
    apply chP_pure
    focus
      intro xx w' hk hF
      refine wr_fieldAddr rfl rfl ?_
      apply wr_nil
      exact ⟨rfl, Keeps.refl _ _⟩
    focus (intro xx yy h; rfl)
    focus kernel_rfl
    apply chP_pure
    focus
      intro xx w' hk hF
      refine wr_load (v := .int .u8 (n : Int)) rfl rfl rfl ((hk0 hk).heap hc12 (fun h => h)) rfl ?_
      apply wr_nil
      exact ⟨rfl, Keeps.refl _ _⟩
    focus (intro xx yy h; rfl)
    focus kernel_rfl
    apply chP_pure
    focus
      intro xx w' hk hF
      refine wr_call (vs := [.int .u8 (n : Int)]) rfl (word_ca n hn w') rfl ?_
      rintro v w'' ⟨rfl, hkc⟩
      apply wr_nil
      exact ⟨rfl, hkc⟩
    focus (intro xx yy h; rfl)
    focus kernel_rfl
    apply chP_pure
    focus
      intro xx w' hk hF
      refine wr_build (ps := [(0, .int .i64 (1 + ty % 18446744073709551616 % 5)), (1, S (wordOf n))]) (cs := [.int .i64 (1 + ty % 18446744073709551616 % 5), S (wordOf n)]) rfl rfl rfl rfl ?_
      apply wr_nil
      exact ⟨rfl, Keeps.refl _ _⟩
    focus (intro xx yy h; rfl)
    focus kernel_rfl
    apply chP_pure
    focus
      intro xx w' hk hF
      refine wr_fieldAddr rfl rfl ?_
      apply wr_nil
      exact ⟨rfl, Keeps.refl _ _⟩
    focus (intro xx yy h; rfl)
    focus kernel_rfl
    apply chP_pure
    focus
      intro xx w' hk hF
      refine wr_fieldAddr rfl rfl ?_
      apply wr_nil
      exact ⟨rfl, Keeps.refl _ _⟩
    focus (intro xx yy h; rfl)
    focus kernel_rfl
    apply chP_pure
    focus
      intro xx w' hk hF
      refine wr_load (v := .int .u64 (sq : Int)) rfl rfl rfl ((hk0 hk).heap hc12 (fun h => h)) rfl ?_
      apply wr_nil
      exact ⟨rfl, Keeps.refl _ _⟩
    focus (intro xx yy h; rfl)
    focus kernel_rfl
    apply chP_pure
    focus
      intro xx w' hk hF
      refine wr_remN (n := sq) (m := 20) rfl rfl rfl (by decide) ?_
      apply wr_nil
      exact ⟨rfl, Keeps.refl _ _⟩
    focus (intro xx yy h; rfl)
    focus kernel_rfl
    apply chP_pure
    focus
      intro xx w' hk hF
      refine wr_add (c := ((1 + sq % 20 : Nat) : Int)) rfl rfl rfl ((w_u64 (by omega)).trans (by omega)) ?_
      apply wr_nil
      exact ⟨rfl, Keeps.refl _ _⟩
    focus (intro xx yy h; rfl)
    focus kernel_rfl
    apply chP_pure
    focus
      intro xx w' hk hF
      refine wr_fieldAddr rfl rfl ?_
      apply wr_nil
      exact ⟨rfl, Keeps.refl _ _⟩
    focus (intro xx yy h; rfl)
    focus kernel_rfl
    apply chP_pure
    focus
      intro xx w' hk hF
      refine wr_fieldAddr rfl rfl ?_
      apply wr_nil
      exact ⟨rfl, Keeps.refl _ _⟩
    focus (intro xx yy h; rfl)
    focus kernel_rfl
    apply chP_pure
    focus
      intro xx w' hk hF
      refine wr_load (v := .bool false) rfl rfl rfl ((hk0 hk).heap hc12 (fun h => h)) rfl ?_
      apply wr_nil
      exact ⟨rfl, Keeps.refl _ _⟩
    focus (intro xx yy h; rfl)
    focus kernel_rfl
    apply chP_pure
    focus
      intro xx w' hk hF
      apply wr_move; exact rfl; with_reducible (conv => enter [6, 3]; whnf)
      apply wr_nil
      exact ⟨rfl, Keeps.refl _ _⟩
    focus (intro xx yy h; rfl)
    focus kernel_rfl
    apply chP_pure
    focus
      intro xx w' hk hF
      first
      | (refine wr_skip rfl ?_; apply wr_nil; exact ⟨rfl, Keeps.refl _ _⟩)
      | ((refine wr_fieldAddr rfl rfl ?_); apply wr_nil; exact ⟨rfl, Keeps.refl _ _⟩)
    focus (intro xx yy h; rfl)
    focus kernel_rfl
    apply chP_pure
    focus
      intro xx w' hk hF
      first
      | (refine wr_skip rfl ?_; apply wr_nil; exact ⟨rfl, Keeps.refl _ _⟩)
      | ((refine wr_load (v := .int .u8 (n : Int)) rfl rfl rfl ((hk0 hk).heap hc12 (fun h => h)) rfl ?_); apply wr_nil; exact ⟨rfl, Keeps.refl _ _⟩)
    focus (intro xx yy h; rfl)
    focus kernel_rfl
    apply chP_pure
    focus
      intro xx w' hk hF
      first
      | (refine wr_skip rfl ?_; apply wr_nil; exact ⟨rfl, Keeps.refl _ _⟩)
      | ((refine wr_remN (n := n) (m := 4) rfl rfl rfl (by decide) ?_); apply wr_nil; exact ⟨rfl, Keeps.refl _ _⟩)
    focus (intro xx yy h; rfl)
    focus kernel_rfl
    apply chP_pure
    focus
      intro xx w' hk hF
      first
      | (refine wr_skip rfl ?_; apply wr_nil; exact ⟨rfl, Keeps.refl _ _⟩)
      | ((refine wr_cmp (c := false) rfl rfl rfl (by first | exact cmpT (by dsimp only [cmpP]; omega) | exact cmpF (by dsimp only [cmpN]; omega)) ?_); apply wr_nil; exact ⟨rfl, Keeps.refl _ _⟩)
    focus (intro xx yy h; rfl)
    focus kernel_rfl
    apply chP_pure
    focus
      intro xx w' hk hF
      first
      | (apply wr_pick (t := true); (iterate 2 exact rfl); with_reducible (conv => enter [6, 3]; whnf); apply wr_nil; exact ⟨rfl, Keeps.refl _ _⟩)
      | (apply wr_pick (t := false); (iterate 2 exact rfl); with_reducible (conv => enter [6, 3]; whnf); apply wr_nil; exact ⟨rfl, Keeps.refl _ _⟩)
    focus (intro xx yy h; rfl)
    focus kernel_rfl
    apply chP_pure
    focus
      intro xx w' hk hF
      refine wr_fieldAddr rfl rfl ?_
      apply wr_nil
      exact ⟨rfl, Keeps.refl _ _⟩
    focus (intro xx yy h; rfl)
    focus kernel_rfl
    apply chP_pure
    focus
      intro xx w' hk hF
      refine wr_fieldAddr rfl rfl ?_
      apply wr_nil
      exact ⟨rfl, Keeps.refl _ _⟩
    focus (intro xx yy h; rfl)
    focus kernel_rfl
    apply chP_pure
    focus
      intro xx w' hk hF
      refine wr_load (v := S bd) rfl rfl rfl ((hk0 hk).heap hc12 (fun h => h)) rfl ?_
      apply wr_nil
      exact ⟨rfl, Keeps.refl _ _⟩
    focus (intro xx yy h; rfl)
    focus kernel_rfl
    apply chP_pure
    focus
      intro xx w' hk hF
      refine wr_fieldAddr rfl rfl ?_
      apply wr_nil
      exact ⟨rfl, Keeps.refl _ _⟩
    focus (intro xx yy h; rfl)
    focus kernel_rfl
    apply chP_pure
    focus
      intro xx w' hk hF
      refine wr_fieldAddr rfl rfl ?_
      apply wr_nil
      exact ⟨rfl, Keeps.refl _ _⟩
    focus (intro xx yy h; rfl)
    focus kernel_rfl
    apply chP_pure
    focus
      intro xx w' hk hF
      refine wr_load (v := S bd) rfl rfl rfl ((hk0 hk).heap hc12 (fun h => h)) rfl ?_
      apply wr_nil
      exact ⟨rfl, Keeps.refl _ _⟩
    focus (intro xx yy h; rfl)
    focus kernel_rfl
    apply chP_pure
    focus
      intro xx w' hk hF
      (apply wr_len_str; iterate 2 exact rfl)
      apply wr_nil
      exact ⟨rfl, Keeps.refl _ _⟩
    focus (intro xx yy h; rfl)
    focus kernel_rfl
    apply chP_pure
    focus
      intro xx w' hk hF
      refine wr_min (c := ((min bd.length 200 : Nat) : Int)) rfl rfl rfl (by split <;> omega) ?_
      apply wr_nil
      exact ⟨rfl, Keeps.refl _ _⟩
    focus (intro xx yy h; rfl)
    focus kernel_rfl
    apply chP_pure
    focus
      intro xx w' hk hF
      refine wr_sl_to (j := min bd.length 200) rfl rfl rfl (by omega) ?_
      apply wr_nil
      exact ⟨rfl, Keeps.refl _ _⟩
    focus (intro xx yy h; rfl)
    focus kernel_rfl
    apply chP_pure
    focus
      intro xx w' hk hF
      refine wr_build (ps := [(0, .agg #[.int .i64 (1 + ty % 18446744073709551616 % 5), S (wordOf n)]), (1, .int .u64 ((1 + sq % 20 : Nat) : Int)), (2, .bool false), (3, S (bd.take (min bd.length 200)))]) (cs := GRd (1 + ty % 18446744073709551616 % 5, wordOf n, 1 + sq % 20, false, bd.take (min bd.length 200))) rfl rfl rfl rfl ?_
      apply wr_nil
      exact ⟨rfl, Keeps.refl _ _⟩
    focus (intro xx yy h; rfl)
    focus kernel_rfl
    refine chP_fact (fun y => .pointer (some ⟨blkOf y, 0, none⟩)) (fun y w' => w'.heap[blkOf y]? = some (.cells (GRd zeroR).toArray 30 (0, 0)) ∧ w2.heap.size ≤ blkOf y) (fun y w' w'' h k => ⟨k.heap h.1 (fun h => h), h.2⟩) ?_ ?_
    focus
      intro xx w' hk hF
      apply wr_alloc
      focus exact rfl
      apply wr_nil
      exact ⟨.pointer (some ⟨w'.heap.size, 0, none⟩), rfl, ⟨heap_alloc_same _ _, hk.size⟩, (Keeps.refl _ _).alloc _⟩
    refine chP_nil ?_
    intro xx w3' hk3' hF
    have hk3a := hk0 hk3'
    obtain ⟨hce, hge⟩ : w3'.heap[blkOf (xx 36)]? = some (.cells (GRd zeroR).toArray 30 (0, 0)) ∧ w2.heap.size ≤ blkOf (xx 36) := hF 36 (by decide)
    refine wr_storeAll (cs := GRd (1 + ty % 18446744073709551616 % 5, wordOf n, 1 + sq % 20, false, bd.take (min bd.length 200))) rfl rfl rfl (GRd_one _) hce rfl rfl ?_
    refine wr_name ?_
    intro w3 hw3
    have hk3b : Keeps (· = blkOf (xx 36)) w3' w3 := by rw [hw3]; exact (Keeps.refl _ w3').put _ (fun _ => rfl)
    have hc3 : w3.heap[blkOf (xx 36)]? = some (.cells (GRd (1 + ty % 18446744073709551616 % 5, wordOf n, 1 + sq % 20, false, bd.take (min bd.length 200))).toArray 30 (0, 0)) := by rw [hw3]; exact World.putObj_heap_same (lt_of_heap hce)
    clear hw3
    have hl2 := lt_of_heap hc2
    have hs1 := hk1.size
    have hs2 := hk2.size
    have hcz3 := hk3b.heap (hk3a.heap hc2 (fun h => h)) (fun e => by omega)
    have hk3 : Keeps NoB w w3 := ((hk1.trans hk2).trans hk3a).trans' hk3b (fun i hi e => by omega)
    (repeat first | apply wr_end | apply wc_seq | apply wc_region | apply wc_skip | (apply wr_fieldAddr; iterate 2 exact rfl) | (apply wr_load; (iterate 3 exact rfl); (focus repeat first | with_reducible assumption | exact heap_alloc_same _ _ | exact World.putObj_heap_same (by first | omega | (simp only [World.size_alloc, World.putObj_size, ne_eq]; omega)) | ((first | refine hAl ?_ ?_ | refine hPu ?_ ?_); focus first | omega | (simp only [World.size_alloc, World.putObj_size, ne_eq]; omega))); exact rfl; conv => enter [6, 3]; whnf) | (apply wc_false; exact rfl))
    refine wr_loadAll (cs := GRd (1 + ty % 18446744073709551616 % 5, wordOf n, 1 + sq % 20, false, bd.take (min bd.length 200))) rfl rfl rfl hc3 rfl ?_
    refine wr_storeAll (cs := GRd (1 + ty % 18446744073709551616 % 5, wordOf n, 1 + sq % 20, false, bd.take (min bd.length 200))) rfl rfl rfl (GRd_one _) hcz3 rfl rfl ?_
    have hkz := hk3
    have hlz := lt_of_heap hcz3
    (repeat first | apply wr_end | (apply wc_ret; try simp only [thenE, inBlockE, bodyQ]))
    refine leaveN (vs := [RdV (thP ((ty, nm, sq, false, bd), true, n))]) (resv_cells (cs := GRd (thP ((ty, nm, sq, false, bd), true, n))) (e := 30) (fr := (0, 0)) rfl rfl ((World.putObj_heap_same hlz).trans (by simp [thP, hg])) rfl resv_nil) ⟨rfl, hkz.trans' ((Keeps.refl (· = b2) w3).put _ (fun _ => rfl)) (fun i hi e => by omega)⟩
  | true =>
    by_cases h4 : n % 4 = 0
    · have hg : goneP ((ty, nm, sq, true, bd), true, n) = true := by simp [goneP, h4]
      (repeat first | apply wr_end | apply wc_seq | apply wc_region | apply wc_skip | (apply wr_fieldAddr; iterate 2 exact rfl) | (apply wr_not; iterate 2 exact rfl) | (apply wr_load; (iterate 3 exact rfl); (focus repeat first | with_reducible assumption | exact heap_alloc_same _ _ | exact World.putObj_heap_same (by first | omega | (simp only [World.size_alloc, World.putObj_size, ne_eq]; omega)) | ((first | refine hAl ?_ ?_ | refine hPu ?_ ?_); focus first | omega | (simp only [World.size_alloc, World.putObj_size, ne_eq]; omega))); exact rfl; conv => enter [6, 3]; whnf) | (apply wc_false; exact rfl))
      refine wc_drawP (l := _) 37 _ (by kernel_rfl) (by kernel_rfl) rfl (by kernel_rfl) (by kernel_rfl) (by decide) ?_
      apply chP_pure
      focus
        intro xx w' hk hF
        refine wr_fieldAddr rfl rfl ?_
        apply wr_nil
        exact ⟨rfl, Keeps.refl _ _⟩
      focus (intro xx yy h; rfl)
      focus kernel_rfl
      apply chP_pure
      focus
        intro xx w' hk hF
        refine wr_fieldAddr rfl rfl ?_
        apply wr_nil
        exact ⟨rfl, Keeps.refl _ _⟩
      focus (intro xx yy h; rfl)
      focus kernel_rfl
      apply chP_pure
      focus
        intro xx w' hk hF
        refine wr_fieldAddr rfl rfl ?_
        apply wr_nil
        exact ⟨rfl, Keeps.refl _ _⟩
      focus (intro xx yy h; rfl)
      focus kernel_rfl
      apply chP_pure
      focus
        intro xx w' hk hF
        refine wr_load (v := .int .i64 ty) rfl rfl rfl ((hk0 hk).heap hc12 (fun h => h)) rfl ?_
        apply wr_nil
        exact ⟨rfl, Keeps.refl _ _⟩
      focus (intro xx yy h; rfl)
      focus kernel_rfl
      apply chP_pure
      focus
        intro xx w' hk hF
        refine wr_conv (c := ty % 18446744073709551616) rfl rfl (w64 _) ?_
        apply wr_nil
        exact ⟨rfl, Keeps.refl _ _⟩
      focus (intro xx yy h; rfl)
      focus kernel_rfl
      apply chP_pure
      focus
        intro xx w' hk hF
        refine wr_rem (c := ty % 18446744073709551616 % 5) rfl rfl rfl (by decide) (Int.tmod_eq_emod_of_nonneg (by omega)) ?_
        apply wr_nil
        exact ⟨rfl, Keeps.refl _ _⟩
      focus (intro xx yy h; rfl)
      focus kernel_rfl
      apply chP_pure
      focus
        intro xx w' hk hF
        refine wr_conv (c := ty % 18446744073709551616 % 5) rfl rfl (w_i64 (by omega)) ?_
        apply wr_nil
        exact ⟨rfl, Keeps.refl _ _⟩
      focus (intro xx yy h; rfl)
      focus kernel_rfl
      apply chP_pure
      focus
        intro xx w' hk hF
        refine wr_add (c := 1 + ty % 18446744073709551616 % 5) rfl rfl rfl (w_i64 (by omega)) ?_
        apply wr_nil
        exact ⟨rfl, Keeps.refl _ _⟩
      focus (intro xx yy h; rfl)
      focus kernel_rfl
      apply chP_pure
      focus
        intro xx w' hk hF
        refine wr_fieldAddr rfl rfl ?_
        apply wr_nil
        exact ⟨rfl, Keeps.refl _ _⟩
      focus (intro xx yy h; rfl)
      focus kernel_rfl
      apply chP_pure
      focus
        intro xx w' hk hF
        refine wr_load (v := .int .u8 (n : Int)) rfl rfl rfl ((hk0 hk).heap hc12 (fun h => h)) rfl ?_
        apply wr_nil
        exact ⟨rfl, Keeps.refl _ _⟩
      focus (intro xx yy h; rfl)
      focus kernel_rfl
      apply chP_pure
      focus
        intro xx w' hk hF
        refine wr_call (vs := [.int .u8 (n : Int)]) rfl (word_ca n hn w') rfl ?_
        rintro v w'' ⟨rfl, hkc⟩
        apply wr_nil
        exact ⟨rfl, hkc⟩
      focus (intro xx yy h; rfl)
      focus kernel_rfl
      apply chP_pure
      focus
        intro xx w' hk hF
        refine wr_build (ps := [(0, .int .i64 (1 + ty % 18446744073709551616 % 5)), (1, S (wordOf n))]) (cs := [.int .i64 (1 + ty % 18446744073709551616 % 5), S (wordOf n)]) rfl rfl rfl rfl ?_
        apply wr_nil
        exact ⟨rfl, Keeps.refl _ _⟩
      focus (intro xx yy h; rfl)
      focus kernel_rfl
      apply chP_pure
      focus
        intro xx w' hk hF
        refine wr_fieldAddr rfl rfl ?_
        apply wr_nil
        exact ⟨rfl, Keeps.refl _ _⟩
      focus (intro xx yy h; rfl)
      focus kernel_rfl
      apply chP_pure
      focus
        intro xx w' hk hF
        refine wr_fieldAddr rfl rfl ?_
        apply wr_nil
        exact ⟨rfl, Keeps.refl _ _⟩
      focus (intro xx yy h; rfl)
      focus kernel_rfl
      apply chP_pure
      focus
        intro xx w' hk hF
        refine wr_load (v := .int .u64 (sq : Int)) rfl rfl rfl ((hk0 hk).heap hc12 (fun h => h)) rfl ?_
        apply wr_nil
        exact ⟨rfl, Keeps.refl _ _⟩
      focus (intro xx yy h; rfl)
      focus kernel_rfl
      apply chP_pure
      focus
        intro xx w' hk hF
        refine wr_remN (n := sq) (m := 20) rfl rfl rfl (by decide) ?_
        apply wr_nil
        exact ⟨rfl, Keeps.refl _ _⟩
      focus (intro xx yy h; rfl)
      focus kernel_rfl
      apply chP_pure
      focus
        intro xx w' hk hF
        refine wr_add (c := ((1 + sq % 20 : Nat) : Int)) rfl rfl rfl ((w_u64 (by omega)).trans (by omega)) ?_
        apply wr_nil
        exact ⟨rfl, Keeps.refl _ _⟩
      focus (intro xx yy h; rfl)
      focus kernel_rfl
      apply chP_pure
      focus
        intro xx w' hk hF
        refine wr_fieldAddr rfl rfl ?_
        apply wr_nil
        exact ⟨rfl, Keeps.refl _ _⟩
      focus (intro xx yy h; rfl)
      focus kernel_rfl
      apply chP_pure
      focus
        intro xx w' hk hF
        refine wr_fieldAddr rfl rfl ?_
        apply wr_nil
        exact ⟨rfl, Keeps.refl _ _⟩
      focus (intro xx yy h; rfl)
      focus kernel_rfl
      apply chP_pure
      focus
        intro xx w' hk hF
        refine wr_load (v := .bool true) rfl rfl rfl ((hk0 hk).heap hc12 (fun h => h)) rfl ?_
        apply wr_nil
        exact ⟨rfl, Keeps.refl _ _⟩
      focus (intro xx yy h; rfl)
      focus kernel_rfl
      apply chP_pure
      focus
        intro xx w' hk hF
        apply wr_move; exact rfl; with_reducible (conv => enter [6, 3]; whnf)
        apply wr_nil
        exact ⟨rfl, Keeps.refl _ _⟩
      focus (intro xx yy h; rfl)
      focus kernel_rfl
      apply chP_pure
      focus
        intro xx w' hk hF
        first
        | (refine wr_skip rfl ?_; apply wr_nil; exact ⟨rfl, Keeps.refl _ _⟩)
        | ((refine wr_fieldAddr rfl rfl ?_); apply wr_nil; exact ⟨rfl, Keeps.refl _ _⟩)
      focus (intro xx yy h; rfl)
      focus kernel_rfl
      apply chP_pure
      focus
        intro xx w' hk hF
        first
        | (refine wr_skip rfl ?_; apply wr_nil; exact ⟨rfl, Keeps.refl _ _⟩)
        | ((refine wr_load (v := .int .u8 (n : Int)) rfl rfl rfl ((hk0 hk).heap hc12 (fun h => h)) rfl ?_); apply wr_nil; exact ⟨rfl, Keeps.refl _ _⟩)
      focus (intro xx yy h; rfl)
      focus kernel_rfl
      apply chP_pure
      focus
        intro xx w' hk hF
        first
        | (refine wr_skip rfl ?_; apply wr_nil; exact ⟨rfl, Keeps.refl _ _⟩)
        | ((refine wr_remN (n := n) (m := 4) rfl rfl rfl (by decide) ?_); apply wr_nil; exact ⟨rfl, Keeps.refl _ _⟩)
      focus (intro xx yy h; rfl)
      focus kernel_rfl
      apply chP_pure
      focus
        intro xx w' hk hF
        first
        | (refine wr_skip rfl ?_; apply wr_nil; exact ⟨rfl, Keeps.refl _ _⟩)
        | ((refine wr_cmp (c := true) rfl rfl rfl (by first | exact cmpT (by dsimp only [cmpP]; omega) | exact cmpF (by dsimp only [cmpN]; omega)) ?_); apply wr_nil; exact ⟨rfl, Keeps.refl _ _⟩)
      focus (intro xx yy h; rfl)
      focus kernel_rfl
      apply chP_pure
      focus
        intro xx w' hk hF
        first
        | (apply wr_pick (t := true); (iterate 2 exact rfl); with_reducible (conv => enter [6, 3]; whnf); apply wr_nil; exact ⟨rfl, Keeps.refl _ _⟩)
        | (apply wr_pick (t := false); (iterate 2 exact rfl); with_reducible (conv => enter [6, 3]; whnf); apply wr_nil; exact ⟨rfl, Keeps.refl _ _⟩)
      focus (intro xx yy h; rfl)
      focus kernel_rfl
      apply chP_pure
      focus
        intro xx w' hk hF
        refine wr_fieldAddr rfl rfl ?_
        apply wr_nil
        exact ⟨rfl, Keeps.refl _ _⟩
      focus (intro xx yy h; rfl)
      focus kernel_rfl
      apply chP_pure
      focus
        intro xx w' hk hF
        refine wr_fieldAddr rfl rfl ?_
        apply wr_nil
        exact ⟨rfl, Keeps.refl _ _⟩
      focus (intro xx yy h; rfl)
      focus kernel_rfl
      apply chP_pure
      focus
        intro xx w' hk hF
        refine wr_load (v := S bd) rfl rfl rfl ((hk0 hk).heap hc12 (fun h => h)) rfl ?_
        apply wr_nil
        exact ⟨rfl, Keeps.refl _ _⟩
      focus (intro xx yy h; rfl)
      focus kernel_rfl
      apply chP_pure
      focus
        intro xx w' hk hF
        refine wr_fieldAddr rfl rfl ?_
        apply wr_nil
        exact ⟨rfl, Keeps.refl _ _⟩
      focus (intro xx yy h; rfl)
      focus kernel_rfl
      apply chP_pure
      focus
        intro xx w' hk hF
        refine wr_fieldAddr rfl rfl ?_
        apply wr_nil
        exact ⟨rfl, Keeps.refl _ _⟩
      focus (intro xx yy h; rfl)
      focus kernel_rfl
      apply chP_pure
      focus
        intro xx w' hk hF
        refine wr_load (v := S bd) rfl rfl rfl ((hk0 hk).heap hc12 (fun h => h)) rfl ?_
        apply wr_nil
        exact ⟨rfl, Keeps.refl _ _⟩
      focus (intro xx yy h; rfl)
      focus kernel_rfl
      apply chP_pure
      focus
        intro xx w' hk hF
        (apply wr_len_str; iterate 2 exact rfl)
        apply wr_nil
        exact ⟨rfl, Keeps.refl _ _⟩
      focus (intro xx yy h; rfl)
      focus kernel_rfl
      apply chP_pure
      focus
        intro xx w' hk hF
        refine wr_min (c := ((min bd.length 200 : Nat) : Int)) rfl rfl rfl (by split <;> omega) ?_
        apply wr_nil
        exact ⟨rfl, Keeps.refl _ _⟩
      focus (intro xx yy h; rfl)
      focus kernel_rfl
      apply chP_pure
      focus
        intro xx w' hk hF
        refine wr_sl_to (j := min bd.length 200) rfl rfl rfl (by omega) ?_
        apply wr_nil
        exact ⟨rfl, Keeps.refl _ _⟩
      focus (intro xx yy h; rfl)
      focus kernel_rfl
      apply chP_pure
      focus
        intro xx w' hk hF
        refine wr_build (ps := [(0, .agg #[.int .i64 (1 + ty % 18446744073709551616 % 5), S (wordOf n)]), (1, .int .u64 ((1 + sq % 20 : Nat) : Int)), (2, .bool true), (3, S (bd.take (min bd.length 200)))]) (cs := GRd (1 + ty % 18446744073709551616 % 5, wordOf n, 1 + sq % 20, true, bd.take (min bd.length 200))) rfl rfl rfl rfl ?_
        apply wr_nil
        exact ⟨rfl, Keeps.refl _ _⟩
      focus (intro xx yy h; rfl)
      focus kernel_rfl
      refine chP_fact (fun y => .pointer (some ⟨blkOf y, 0, none⟩)) (fun y w' => w'.heap[blkOf y]? = some (.cells (GRd zeroR).toArray 30 (0, 0)) ∧ w2.heap.size ≤ blkOf y) (fun y w' w'' h k => ⟨k.heap h.1 (fun h => h), h.2⟩) ?_ ?_
      focus
        intro xx w' hk hF
        apply wr_alloc
        focus exact rfl
        apply wr_nil
        exact ⟨.pointer (some ⟨w'.heap.size, 0, none⟩), rfl, ⟨heap_alloc_same _ _, hk.size⟩, (Keeps.refl _ _).alloc _⟩
      refine chP_nil ?_
      intro xx w3' hk3' hF
      have hk3a := hk0 hk3'
      obtain ⟨hce, hge⟩ : w3'.heap[blkOf (xx 36)]? = some (.cells (GRd zeroR).toArray 30 (0, 0)) ∧ w2.heap.size ≤ blkOf (xx 36) := hF 36 (by decide)
      refine wr_storeAll (cs := GRd (1 + ty % 18446744073709551616 % 5, wordOf n, 1 + sq % 20, true, bd.take (min bd.length 200))) rfl rfl rfl (GRd_one _) hce rfl rfl ?_
      refine wr_name ?_
      intro w3 hw3
      have hk3b : Keeps (· = blkOf (xx 36)) w3' w3 := by rw [hw3]; exact (Keeps.refl _ w3').put _ (fun _ => rfl)
      have hc3 : w3.heap[blkOf (xx 36)]? = some (.cells (GRd (1 + ty % 18446744073709551616 % 5, wordOf n, 1 + sq % 20, true, bd.take (min bd.length 200))).toArray 30 (0, 0)) := by rw [hw3]; exact World.putObj_heap_same (lt_of_heap hce)
      clear hw3
      have hl2 := lt_of_heap hc2
      have hs1 := hk1.size
      have hs2 := hk2.size
      have hcz3 := hk3b.heap (hk3a.heap hc2 (fun h => h)) (fun e => by omega)
      have hk3 : Keeps NoB w w3 := ((hk1.trans hk2).trans hk3a).trans' hk3b (fun i hi e => by omega)
      (repeat first | apply wr_end | apply wc_seq | apply wc_region | (apply wr_fieldAddr; iterate 2 exact rfl) | (apply wr_load; (iterate 3 exact rfl); (focus repeat first | with_reducible assumption | exact heap_alloc_same _ _ | exact World.putObj_heap_same (by first | omega | (simp only [World.size_alloc, World.putObj_size, ne_eq]; omega)) | ((first | refine hAl ?_ ?_ | refine hPu ?_ ?_); focus first | omega | (simp only [World.size_alloc, World.putObj_size, ne_eq]; omega))); exact rfl; conv => enter [6, 3]; whnf) | (apply wr_store; (iterate 3 exact rfl); (first | exact rfl | with_reducible assumption); (focus repeat first | with_reducible assumption | exact heap_alloc_same _ _ | exact World.putObj_heap_same (by first | omega | (simp only [World.size_alloc, World.putObj_size, ne_eq]; omega)) | ((first | refine hAl ?_ ?_ | refine hPu ?_ ?_); focus first | omega | (simp only [World.size_alloc, World.putObj_size, ne_eq]; omega))); exact rfl) | (apply wc_true; exact rfl))
      generalize hw4 : World.putObj w3 _ _ = w4
      have hc4 : w4.heap[blkOf (xx 36)]? = some (.cells (GRd (1 + ty % 18446744073709551616 % 5, wordOf n, 1 + sq % 20, true, [])).toArray 30 (0, 0)) := by
        rw [← hw4]
        exact World.putObj_heap_same (lt_of_heap hc3)
      have hk4 : Keeps (· = blkOf (xx 36)) w3 w4 := by rw [← hw4]; exact (Keeps.refl _ w3).put _ (fun _ => rfl)
      clear hw4
      have hcz4 := hk4.heap hcz3 (fun e => by omega)
      have hk4w : Keeps NoB w w4 := hk3.trans' hk4 (fun i hi e => by omega)
      refine wr_loadAll (cs := GRd (1 + ty % 18446744073709551616 % 5, wordOf n, 1 + sq % 20, true, [])) rfl rfl rfl hc4 rfl ?_
      refine wr_storeAll (cs := GRd (1 + ty % 18446744073709551616 % 5, wordOf n, 1 + sq % 20, true, [])) rfl rfl rfl (GRd_one _) hcz4 rfl rfl ?_
      have hkz := hk4w
      have hlz := lt_of_heap hcz4
      (repeat first | apply wr_end | (apply wc_ret; try simp only [thenE, inBlockE, bodyQ]))
      refine leaveN (vs := [RdV (thP ((ty, nm, sq, true, bd), true, n))]) (resv_cells (cs := GRd (thP ((ty, nm, sq, true, bd), true, n))) (e := 30) (fr := (0, 0)) rfl rfl ((World.putObj_heap_same hlz).trans (by simp [thP, hg])) rfl resv_nil) ⟨rfl, hkz.trans' ((Keeps.refl (· = b2) w4).put _ (fun _ => rfl)) (fun i hi e => by omega)⟩
    · have hg : goneP ((ty, nm, sq, true, bd), true, n) = false := by simp [goneP, h4]
      (repeat first | apply wr_end | apply wc_seq | apply wc_region | apply wc_skip | (apply wr_fieldAddr; iterate 2 exact rfl) | (apply wr_not; iterate 2 exact rfl) | (apply wr_load; (iterate 3 exact rfl); (focus repeat first | with_reducible assumption | exact heap_alloc_same _ _ | exact World.putObj_heap_same (by first | omega | (simp only [World.size_alloc, World.putObj_size, ne_eq]; omega)) | ((first | refine hAl ?_ ?_ | refine hPu ?_ ?_); focus first | omega | (simp only [World.size_alloc, World.putObj_size, ne_eq]; omega))); exact rfl; conv => enter [6, 3]; whnf) | (apply wc_false; exact rfl))
      refine wc_drawP (l := _) 37 _ (by kernel_rfl) (by kernel_rfl) rfl (by kernel_rfl) (by kernel_rfl) (by decide) ?_
      apply chP_pure
      focus
        intro xx w' hk hF
        refine wr_fieldAddr rfl rfl ?_
        apply wr_nil
        exact ⟨rfl, Keeps.refl _ _⟩
      focus (intro xx yy h; rfl)
      focus kernel_rfl
      apply chP_pure
      focus
        intro xx w' hk hF
        refine wr_fieldAddr rfl rfl ?_
        apply wr_nil
        exact ⟨rfl, Keeps.refl _ _⟩
      focus (intro xx yy h; rfl)
      focus kernel_rfl
      apply chP_pure
      focus
        intro xx w' hk hF
        refine wr_fieldAddr rfl rfl ?_
        apply wr_nil
        exact ⟨rfl, Keeps.refl _ _⟩
      focus (intro xx yy h; rfl)
      focus kernel_rfl
      apply chP_pure
      focus
        intro xx w' hk hF
        refine wr_load (v := .int .i64 ty) rfl rfl rfl ((hk0 hk).heap hc12 (fun h => h)) rfl ?_
        apply wr_nil
        exact ⟨rfl, Keeps.refl _ _⟩
      focus (intro xx yy h; rfl)
      focus kernel_rfl
      apply chP_pure
      focus
        intro xx w' hk hF
        refine wr_conv (c := ty % 18446744073709551616) rfl rfl (w64 _) ?_
        apply wr_nil
        exact ⟨rfl, Keeps.refl _ _⟩
      focus (intro xx yy h; rfl)
      focus kernel_rfl
      apply chP_pure
      focus
        intro xx w' hk hF
        refine wr_rem (c := ty % 18446744073709551616 % 5) rfl rfl rfl (by decide) (Int.tmod_eq_emod_of_nonneg (by omega)) ?_
        apply wr_nil
        exact ⟨rfl, Keeps.refl _ _⟩
      focus (intro xx yy h; rfl)
      focus kernel_rfl
      apply chP_pure
      focus
        intro xx w' hk hF
        refine wr_conv (c := ty % 18446744073709551616 % 5) rfl rfl (w_i64 (by omega)) ?_
        apply wr_nil
        exact ⟨rfl, Keeps.refl _ _⟩
      focus (intro xx yy h; rfl)
      focus kernel_rfl
      apply chP_pure
      focus
        intro xx w' hk hF
        refine wr_add (c := 1 + ty % 18446744073709551616 % 5) rfl rfl rfl (w_i64 (by omega)) ?_
        apply wr_nil
        exact ⟨rfl, Keeps.refl _ _⟩
      focus (intro xx yy h; rfl)
      focus kernel_rfl
      apply chP_pure
      focus
        intro xx w' hk hF
        refine wr_fieldAddr rfl rfl ?_
        apply wr_nil
        exact ⟨rfl, Keeps.refl _ _⟩
      focus (intro xx yy h; rfl)
      focus kernel_rfl
      apply chP_pure
      focus
        intro xx w' hk hF
        refine wr_load (v := .int .u8 (n : Int)) rfl rfl rfl ((hk0 hk).heap hc12 (fun h => h)) rfl ?_
        apply wr_nil
        exact ⟨rfl, Keeps.refl _ _⟩
      focus (intro xx yy h; rfl)
      focus kernel_rfl
      apply chP_pure
      focus
        intro xx w' hk hF
        refine wr_call (vs := [.int .u8 (n : Int)]) rfl (word_ca n hn w') rfl ?_
        rintro v w'' ⟨rfl, hkc⟩
        apply wr_nil
        exact ⟨rfl, hkc⟩
      focus (intro xx yy h; rfl)
      focus kernel_rfl
      apply chP_pure
      focus
        intro xx w' hk hF
        refine wr_build (ps := [(0, .int .i64 (1 + ty % 18446744073709551616 % 5)), (1, S (wordOf n))]) (cs := [.int .i64 (1 + ty % 18446744073709551616 % 5), S (wordOf n)]) rfl rfl rfl rfl ?_
        apply wr_nil
        exact ⟨rfl, Keeps.refl _ _⟩
      focus (intro xx yy h; rfl)
      focus kernel_rfl
      apply chP_pure
      focus
        intro xx w' hk hF
        refine wr_fieldAddr rfl rfl ?_
        apply wr_nil
        exact ⟨rfl, Keeps.refl _ _⟩
      focus (intro xx yy h; rfl)
      focus kernel_rfl
      apply chP_pure
      focus
        intro xx w' hk hF
        refine wr_fieldAddr rfl rfl ?_
        apply wr_nil
        exact ⟨rfl, Keeps.refl _ _⟩
      focus (intro xx yy h; rfl)
      focus kernel_rfl
      apply chP_pure
      focus
        intro xx w' hk hF
        refine wr_load (v := .int .u64 (sq : Int)) rfl rfl rfl ((hk0 hk).heap hc12 (fun h => h)) rfl ?_
        apply wr_nil
        exact ⟨rfl, Keeps.refl _ _⟩
      focus (intro xx yy h; rfl)
      focus kernel_rfl
      apply chP_pure
      focus
        intro xx w' hk hF
        refine wr_remN (n := sq) (m := 20) rfl rfl rfl (by decide) ?_
        apply wr_nil
        exact ⟨rfl, Keeps.refl _ _⟩
      focus (intro xx yy h; rfl)
      focus kernel_rfl
      apply chP_pure
      focus
        intro xx w' hk hF
        refine wr_add (c := ((1 + sq % 20 : Nat) : Int)) rfl rfl rfl ((w_u64 (by omega)).trans (by omega)) ?_
        apply wr_nil
        exact ⟨rfl, Keeps.refl _ _⟩
      focus (intro xx yy h; rfl)
      focus kernel_rfl
      apply chP_pure
      focus
        intro xx w' hk hF
        refine wr_fieldAddr rfl rfl ?_
        apply wr_nil
        exact ⟨rfl, Keeps.refl _ _⟩
      focus (intro xx yy h; rfl)
      focus kernel_rfl
      apply chP_pure
      focus
        intro xx w' hk hF
        refine wr_fieldAddr rfl rfl ?_
        apply wr_nil
        exact ⟨rfl, Keeps.refl _ _⟩
      focus (intro xx yy h; rfl)
      focus kernel_rfl
      apply chP_pure
      focus
        intro xx w' hk hF
        refine wr_load (v := .bool true) rfl rfl rfl ((hk0 hk).heap hc12 (fun h => h)) rfl ?_
        apply wr_nil
        exact ⟨rfl, Keeps.refl _ _⟩
      focus (intro xx yy h; rfl)
      focus kernel_rfl
      apply chP_pure
      focus
        intro xx w' hk hF
        apply wr_move; exact rfl; with_reducible (conv => enter [6, 3]; whnf)
        apply wr_nil
        exact ⟨rfl, Keeps.refl _ _⟩
      focus (intro xx yy h; rfl)
      focus kernel_rfl
      apply chP_pure
      focus
        intro xx w' hk hF
        first
        | (refine wr_skip rfl ?_; apply wr_nil; exact ⟨rfl, Keeps.refl _ _⟩)
        | ((refine wr_fieldAddr rfl rfl ?_); apply wr_nil; exact ⟨rfl, Keeps.refl _ _⟩)
      focus (intro xx yy h; rfl)
      focus kernel_rfl
      apply chP_pure
      focus
        intro xx w' hk hF
        first
        | (refine wr_skip rfl ?_; apply wr_nil; exact ⟨rfl, Keeps.refl _ _⟩)
        | ((refine wr_load (v := .int .u8 (n : Int)) rfl rfl rfl ((hk0 hk).heap hc12 (fun h => h)) rfl ?_); apply wr_nil; exact ⟨rfl, Keeps.refl _ _⟩)
      focus (intro xx yy h; rfl)
      focus kernel_rfl
      apply chP_pure
      focus
        intro xx w' hk hF
        first
        | (refine wr_skip rfl ?_; apply wr_nil; exact ⟨rfl, Keeps.refl _ _⟩)
        | ((refine wr_remN (n := n) (m := 4) rfl rfl rfl (by decide) ?_); apply wr_nil; exact ⟨rfl, Keeps.refl _ _⟩)
      focus (intro xx yy h; rfl)
      focus kernel_rfl
      apply chP_pure
      focus
        intro xx w' hk hF
        first
        | (refine wr_skip rfl ?_; apply wr_nil; exact ⟨rfl, Keeps.refl _ _⟩)
        | ((refine wr_cmp (c := false) rfl rfl rfl (by first | exact cmpT (by dsimp only [cmpP]; omega) | exact cmpF (by dsimp only [cmpN]; omega)) ?_); apply wr_nil; exact ⟨rfl, Keeps.refl _ _⟩)
      focus (intro xx yy h; rfl)
      focus kernel_rfl
      apply chP_pure
      focus
        intro xx w' hk hF
        first
        | (apply wr_pick (t := true); (iterate 2 exact rfl); with_reducible (conv => enter [6, 3]; whnf); apply wr_nil; exact ⟨rfl, Keeps.refl _ _⟩)
        | (apply wr_pick (t := false); (iterate 2 exact rfl); with_reducible (conv => enter [6, 3]; whnf); apply wr_nil; exact ⟨rfl, Keeps.refl _ _⟩)
      focus (intro xx yy h; rfl)
      focus kernel_rfl
      apply chP_pure
      focus
        intro xx w' hk hF
        refine wr_fieldAddr rfl rfl ?_
        apply wr_nil
        exact ⟨rfl, Keeps.refl _ _⟩
      focus (intro xx yy h; rfl)
      focus kernel_rfl
      apply chP_pure
      focus
        intro xx w' hk hF
        refine wr_fieldAddr rfl rfl ?_
        apply wr_nil
        exact ⟨rfl, Keeps.refl _ _⟩
      focus (intro xx yy h; rfl)
      focus kernel_rfl
      apply chP_pure
      focus
        intro xx w' hk hF
        refine wr_load (v := S bd) rfl rfl rfl ((hk0 hk).heap hc12 (fun h => h)) rfl ?_
        apply wr_nil
        exact ⟨rfl, Keeps.refl _ _⟩
      focus (intro xx yy h; rfl)
      focus kernel_rfl
      apply chP_pure
      focus
        intro xx w' hk hF
        refine wr_fieldAddr rfl rfl ?_
        apply wr_nil
        exact ⟨rfl, Keeps.refl _ _⟩
      focus (intro xx yy h; rfl)
      focus kernel_rfl
      apply chP_pure
      focus
        intro xx w' hk hF
        refine wr_fieldAddr rfl rfl ?_
        apply wr_nil
        exact ⟨rfl, Keeps.refl _ _⟩
      focus (intro xx yy h; rfl)
      focus kernel_rfl
      apply chP_pure
      focus
        intro xx w' hk hF
        refine wr_load (v := S bd) rfl rfl rfl ((hk0 hk).heap hc12 (fun h => h)) rfl ?_
        apply wr_nil
        exact ⟨rfl, Keeps.refl _ _⟩
      focus (intro xx yy h; rfl)
      focus kernel_rfl
      apply chP_pure
      focus
        intro xx w' hk hF
        (apply wr_len_str; iterate 2 exact rfl)
        apply wr_nil
        exact ⟨rfl, Keeps.refl _ _⟩
      focus (intro xx yy h; rfl)
      focus kernel_rfl
      apply chP_pure
      focus
        intro xx w' hk hF
        refine wr_min (c := ((min bd.length 200 : Nat) : Int)) rfl rfl rfl (by split <;> omega) ?_
        apply wr_nil
        exact ⟨rfl, Keeps.refl _ _⟩
      focus (intro xx yy h; rfl)
      focus kernel_rfl
      apply chP_pure
      focus
        intro xx w' hk hF
        refine wr_sl_to (j := min bd.length 200) rfl rfl rfl (by omega) ?_
        apply wr_nil
        exact ⟨rfl, Keeps.refl _ _⟩
      focus (intro xx yy h; rfl)
      focus kernel_rfl
      apply chP_pure
      focus
        intro xx w' hk hF
        refine wr_build (ps := [(0, .agg #[.int .i64 (1 + ty % 18446744073709551616 % 5), S (wordOf n)]), (1, .int .u64 ((1 + sq % 20 : Nat) : Int)), (2, .bool false), (3, S (bd.take (min bd.length 200)))]) (cs := GRd (1 + ty % 18446744073709551616 % 5, wordOf n, 1 + sq % 20, false, bd.take (min bd.length 200))) rfl rfl rfl rfl ?_
        apply wr_nil
        exact ⟨rfl, Keeps.refl _ _⟩
      focus (intro xx yy h; rfl)
      focus kernel_rfl
      refine chP_fact (fun y => .pointer (some ⟨blkOf y, 0, none⟩)) (fun y w' => w'.heap[blkOf y]? = some (.cells (GRd zeroR).toArray 30 (0, 0)) ∧ w2.heap.size ≤ blkOf y) (fun y w' w'' h k => ⟨k.heap h.1 (fun h => h), h.2⟩) ?_ ?_
      focus
        intro xx w' hk hF
        apply wr_alloc
        focus exact rfl
        apply wr_nil
        exact ⟨.pointer (some ⟨w'.heap.size, 0, none⟩), rfl, ⟨heap_alloc_same _ _, hk.size⟩, (Keeps.refl _ _).alloc _⟩
      refine chP_nil ?_
      intro xx w3' hk3' hF
      have hk3a := hk0 hk3'
      obtain ⟨hce, hge⟩ : w3'.heap[blkOf (xx 36)]? = some (.cells (GRd zeroR).toArray 30 (0, 0)) ∧ w2.heap.size ≤ blkOf (xx 36) := hF 36 (by decide)
      refine wr_storeAll (cs := GRd (1 + ty % 18446744073709551616 % 5, wordOf n, 1 + sq % 20, false, bd.take (min bd.length 200))) rfl rfl rfl (GRd_one _) hce rfl rfl ?_
      refine wr_name ?_
      intro w3 hw3
      have hk3b : Keeps (· = blkOf (xx 36)) w3' w3 := by rw [hw3]; exact (Keeps.refl _ w3').put _ (fun _ => rfl)
      have hc3 : w3.heap[blkOf (xx 36)]? = some (.cells (GRd (1 + ty % 18446744073709551616 % 5, wordOf n, 1 + sq % 20, false, bd.take (min bd.length 200))).toArray 30 (0, 0)) := by rw [hw3]; exact World.putObj_heap_same (lt_of_heap hce)
      clear hw3
      have hl2 := lt_of_heap hc2
      have hs1 := hk1.size
      have hs2 := hk2.size
      have hcz3 := hk3b.heap (hk3a.heap hc2 (fun h => h)) (fun e => by omega)
      have hk3 : Keeps NoB w w3 := ((hk1.trans hk2).trans hk3a).trans' hk3b (fun i hi e => by omega)
      (repeat first | apply wr_end | apply wc_seq | apply wc_region | apply wc_skip | (apply wr_fieldAddr; iterate 2 exact rfl) | (apply wr_load; (iterate 3 exact rfl); (focus repeat first | with_reducible assumption | exact heap_alloc_same _ _ | exact World.putObj_heap_same (by first | omega | (simp only [World.size_alloc, World.putObj_size, ne_eq]; omega)) | ((first | refine hAl ?_ ?_ | refine hPu ?_ ?_); focus first | omega | (simp only [World.size_alloc, World.putObj_size, ne_eq]; omega))); exact rfl; conv => enter [6, 3]; whnf) | (apply wc_false; exact rfl))
      refine wr_loadAll (cs := GRd (1 + ty % 18446744073709551616 % 5, wordOf n, 1 + sq % 20, false, bd.take (min bd.length 200))) rfl rfl rfl hc3 rfl ?_
      refine wr_storeAll (cs := GRd (1 + ty % 18446744073709551616 % 5, wordOf n, 1 + sq % 20, false, bd.take (min bd.length 200))) rfl rfl rfl (GRd_one _) hcz3 rfl rfl ?_
      have hkz := hk3
      have hlz := lt_of_heap hcz3
      (repeat first | apply wr_end | (apply wc_ret; try simp only [thenE, inBlockE, bodyQ]))
      refine leaveN (vs := [RdV (thP ((ty, nm, sq, true, bd), true, n))]) (resv_cells (cs := GRd (thP ((ty, nm, sq, true, bd), true, n))) (e := 30) (fr := (0, 0)) rfl rfl ((World.putObj_heap_same hlz).trans (by simp [thP, hg])) rfl resv_nil) ⟨rfl, hkz.trans' ((Keeps.refl (· = b2) w3).put _ (fun _ => rfl)) (fun i hi e => by omega)⟩
end Go.Proofs.YtafnbbehmbmchaaDoor
