/- ParentDoubts: plain facts. -/
import Derived.Test.YthjpgkefifkhjaaDoorTy
import Derived.Test.YthjpgkefifkhjaaDoorTo
namespace Go.Proofs.YthjpgkefifkhjaaDoor
open Go Go.V Go.RowKit
set_option linter.unusedVariables false
set_option linter.unusedSimpArgs false

def candK (K : Nat) : List Int := (List.range K).map fun (i : Nat) => (i : Int) + 2
def partK (i : Nat) : List NG := (0, []) :: List.replicate i (1, [1])
def nodesK (K : Nat) : List NG := partK K ++ [(2, candK K)]
def dT (K : Nat) : Nat → List ND
  | 0 => newT (nodesK K)
  | i + 1 => doubtF (dT K i) ((K : Int) + 2) (parT (dT K i) ((K : Int) + 2))
def stepOk (K i : Nat) (T : List ND) : Bool := decide (parT T ((K : Int) + 2) = 2 + ((i % K : Nat) : Int)) && decide (¬ doubtC T ((K : Int) + 2) 1) && decide (doubtC T ((K : Int) + 2) (parT T ((K : Int) + 2))) && decide ((belowN T (2 + ((i % K : Nat) : Int)) T.length).length = 1)
def runOk (K : Nat) : Nat → Nat → List ND → Bool
  | 0, i, T => stepOk K i T
  | f + 1, i, T => stepOk K i T && runOk K f (i + 1) (doubtF T ((K : Int) + 2) (parT T ((K : Int) + 2)))
theorem run_dT (K : Nat) : ∀ (f i : Nat), runOk K f i (dT K i) = true → ∀ j, i ≤ j → j ≤ i + f → stepOk K j (dT K j) = true
  | 0, i, h, j, h1, h2 => by
    have : j = i := by omega
    subst this; exact h
  | f + 1, i, h, j, h1, h2 => by
    unfold runOk at h
    rw [Bool.and_eq_true] at h
    by_cases hji : j = i
    · subst hji; exact h.1
    · exact run_dT K f (i + 1) h.2 j (by omega) (by omega)
set_option maxRecDepth 100000 in
theorem run_all : ∀ K, K < 9 → 1 ≤ K → runOk K 20 0 (newT (nodesK K)) = true := by decide +kernel
theorem step_all {K i : Nat} (h1 : 1 ≤ K) (h2 : K ≤ 8) (hi : i ≤ 20) : stepOk K i (dT K i) = true := run_dT K 20 0 (run_all K (by omega) h1) i (Nat.zero_le _) (by omega)
theorem right_all : ∀ K, K < 9 → 1 ≤ K → rightP (nodesK K) := by decide +kernel
set_option maxRecDepth 100000 in
set_option maxHeartbeats 4000000 in
/-- Who may not doubt changes nothing. -/
theorem doubtNo_ca {tb lb cap : Nat} {T : List ND} {X : List NL} (id of : Int) (w : World) (h : TreeAt w tb lb cap T X) (hC : ¬ doubtC T id of) :
    Ca Tryd.prog 19 #[.pointer (some ⟨tb, 0, none⟩), .int .i64 id, .int .i64 of] w fun v w' => v = .bool false ∧ w' = w := by
  refine ca_of_body (args := [.pointer (some ⟨tb, 0, none⟩), .int .i64 id, .int .i64 of]) Tryd.func19 rfl (by kernel_rfl) ?_
  (repeat first | (apply wr_move; exact rfl; with_reducible (conv => enter [6, 3]; whnf)) | (apply wr_assign; exact rfl; with_reducible (conv => enter [6, 3]; whnf)) | apply wr_end | apply wc_seq | apply wc_region)
  refine wr_call (vs := [.pointer (some ⟨tb, 0, none⟩), .int .i64 id]) rfl (find_ca id w h) rfl ?_
  rintro v w1 ⟨rfl, ⟨hin, x, hx, rfl⟩ | ⟨hin, rfl⟩⟩
  rotate_left
  · (repeat first | (apply wr_move; exact rfl; with_reducible (conv => enter [6, 3]; whnf)) | (apply wr_assign; exact rfl; with_reducible (conv => enter [6, 3]; whnf)) | apply wr_end | apply wc_seq | apply wc_region | (apply wr_not; iterate 2 exact rfl) | (apply wr_pick (t := true); (iterate 2 exact rfl); with_reducible (conv => enter [6, 3]; whnf)) | (apply wr_extract; (iterate 3 exact rfl); with_reducible (conv => enter [6, 3]; whnf)) | (apply wc_true; exact rfl) | (apply wc_ret; try simp only [thenE, inBlockE, bodyQ]) | (apply wr_skip; exact rfl))
    exact leave1 (v := .bool false) rfl rfl ⟨rfl, rfl⟩
  obtain ⟨n, hn, hN⟩ := h.at hx
  have hup : upT T id = n.up := by unfold upT; rw [if_pos hin, ndAt_of hn]
  have hpar : parT T id = n.par := by unfold parT; rw [if_pos hin, ndAt_of hn]
  have hc := hN.cells
  cases hu : n.up with
  | false =>
    rw [ndC, hu] at hc
    (repeat first | (apply wr_move; exact rfl; with_reducible (conv => enter [6, 3]; whnf)) | (apply wr_assign; exact rfl; with_reducible (conv => enter [6, 3]; whnf)) | apply wr_end | apply wc_seq | apply wc_region | (apply wr_fieldAddr; iterate 2 exact rfl) | (apply wr_not; iterate 2 exact rfl) | (apply wr_nilCheck; iterate 2 exact rfl) | (apply wr_load; (iterate 3 exact rfl); (focus repeat first | with_reducible assumption | exact heap_alloc_same _ _ | exact World.putObj_heap_same (by first | omega | (simp only [World.size_alloc, World.putObj_size, ne_eq]; omega)) | ((first | refine hAl ?_ ?_ | refine hPu ?_ ?_); focus first | omega | (simp only [World.size_alloc, World.putObj_size, ne_eq]; omega))); exact rfl; conv => enter [6, 3]; whnf) | (apply wr_pick (t := true); (iterate 2 exact rfl); with_reducible (conv => enter [6, 3]; whnf)) | (apply wr_pick (t := false); (iterate 2 exact rfl); with_reducible (conv => enter [6, 3]; whnf)) | (apply wr_extract; (iterate 3 exact rfl); with_reducible (conv => enter [6, 3]; whnf)) | (apply wc_true; exact rfl) | (apply wc_ret; try simp only [thenE, inBlockE, bodyQ]) | (apply wr_skip; exact rfl))
    exact leave1 (v := .bool false) rfl rfl ⟨rfl, rfl⟩
  | true =>
    rw [ndC, hu] at hc
    (repeat first | (apply wr_move; exact rfl; with_reducible (conv => enter [6, 3]; whnf)) | (apply wr_assign; exact rfl; with_reducible (conv => enter [6, 3]; whnf)) | apply wr_end | apply wc_seq | apply wc_region | (apply wr_fieldAddr; iterate 2 exact rfl) | (apply wr_not; iterate 2 exact rfl) | (apply wr_nilCheck; iterate 2 exact rfl) | (apply wr_load; (iterate 3 exact rfl); (focus repeat first | with_reducible assumption | exact heap_alloc_same _ _ | exact World.putObj_heap_same (by first | omega | (simp only [World.size_alloc, World.putObj_size, ne_eq]; omega)) | ((first | refine hAl ?_ ?_ | refine hPu ?_ ?_); focus first | omega | (simp only [World.size_alloc, World.putObj_size, ne_eq]; omega))); exact rfl; conv => enter [6, 3]; whnf) | (apply wr_pick (t := false); (iterate 2 exact rfl); with_reducible (conv => enter [6, 3]; whnf)) | (apply wr_extract; (iterate 3 exact rfl); with_reducible (conv => enter [6, 3]; whnf)))
    refine wr_call (vs := [.pointer (some ⟨tb, 0, none⟩), .int .i64 of]) rfl (up_ca of w1 h) rfl ?_
    rintro v w2 ⟨rfl, rfl⟩
    cases hof : upT T of with
    | false =>
      (repeat first | (apply wr_move; exact rfl; with_reducible (conv => enter [6, 3]; whnf)) | (apply wr_assign; exact rfl; with_reducible (conv => enter [6, 3]; whnf)) | apply wr_end | apply wc_seq | apply wc_region | (apply wr_not; iterate 2 exact rfl) | (apply wr_pick (t := true); (iterate 2 exact rfl); with_reducible (conv => enter [6, 3]; whnf)) | (apply wr_pick (t := false); (iterate 2 exact rfl); with_reducible (conv => enter [6, 3]; whnf)) | (apply wc_true; exact rfl) | (apply wc_ret; try simp only [thenE, inBlockE, bodyQ]) | (apply wr_skip; exact rfl))
      exact leave1 (v := .bool false) rfl rfl ⟨rfl, rfl⟩
    | true =>
      have hp : n.par ≠ of := fun hp => hC ⟨hin, by rw [hup, hu], hof, by rw [hpar, hp]⟩
      (repeat first | (apply wr_move; exact rfl; with_reducible (conv => enter [6, 3]; whnf)) | (apply wr_assign; exact rfl; with_reducible (conv => enter [6, 3]; whnf)) | apply wr_end | apply wc_seq | apply wc_region | (apply wr_fieldAddr; iterate 2 exact rfl) | (apply wr_not; iterate 2 exact rfl) | (apply wr_nilCheck; iterate 2 exact rfl) | (apply wr_load; (iterate 3 exact rfl); (focus repeat first | with_reducible assumption | exact heap_alloc_same _ _ | exact World.putObj_heap_same (by first | omega | (simp only [World.size_alloc, World.putObj_size, ne_eq]; omega)) | ((first | refine hAl ?_ ?_ | refine hPu ?_ ?_); focus first | omega | (simp only [World.size_alloc, World.putObj_size, ne_eq]; omega))); exact rfl; conv => enter [6, 3]; whnf) | (apply wr_cmp; (iterate 3 exact rfl); exact cmpT (by dsimp only [cmpP]; first | done | omega)) | (apply wr_pick (t := false); (iterate 2 exact rfl); with_reducible (conv => enter [6, 3]; whnf)) | (apply wc_true; exact rfl) | (apply wc_ret; try simp only [thenE, inBlockE, bodyQ]))
      exact leave1 (v := .bool false) rfl rfl ⟨rfl, rfl⟩
end Go.Proofs.YthjpgkefifkhjaaDoor
