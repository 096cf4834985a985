/- Below; turned. -/
import Derived.Test.YthjpgkefifkhjaaDoorTf
namespace Go.Proofs.YthjpgkefifkhjaaDoor
open Go Go.V Go.RowKit
set_option linter.unusedVariables false
set_option linter.unusedSimpArgs false

def parAt (T : List ND) (k : Nat) : Int := (T.getD k ndZ).par
def belowN (T : List ND) (id : Int) (n : Nat) : List Nat := (List.range n).filter fun k => decide (0 < k ∧ 0 < id ∧ parAt T k = id)
def turnN (T T' : List ND) (n : Nat) : List Nat := (List.range n).filter fun k => decide (parAt T' k ≠ parAt T k)
def IN (l : List Nat) : List Value := l.map fun (k : Nat) => Value.int .i64 ((k : Nat) : Int)
theorem IN_one (k : Nat) : IN [k] = [.int .i64 (k : Int)] := rfl
theorem IN_len (l : List Nat) : (IN l).length = l.length := by simp [IN]
theorem belowN_snoc (T : List ND) (id : Int) (n : Nat) : belowN T id (n + 1) = belowN T id n ++ if 0 < n ∧ 0 < id ∧ parAt T n = id then [n] else [] := by
  unfold belowN
  rw [List.range_succ, List.filter_append]
  congr 1
  by_cases h : 0 < n ∧ 0 < id ∧ parAt T n = id
  · rw [if_pos h]; simp [h]
  · rw [if_neg h, List.filter_cons, if_neg (by simpa using h)]; rfl
theorem turnN_snoc (T T' : List ND) (n : Nat) : turnN T T' (n + 1) = turnN T T' n ++ if parAt T' n ≠ parAt T n then [n] else [] := by
  unfold turnN
  rw [List.range_succ, List.filter_append]
  congr 1
  by_cases h : parAt T' n = parAt T n
  · rw [if_neg (by simpa using h)]; simp [h]
  · rw [if_pos h]; simp [h]
theorem belowN_len (T : List ND) (id : Int) (n : Nat) : (belowN T id n).length ≤ n := by
  unfold belowN; have := List.length_filter_le (fun k => decide (0 < k ∧ 0 < id ∧ parAt T k = id)) (List.range n); simpa using this
theorem turnN_len (T T' : List ND) (n : Nat) : (turnN T T' n).length ≤ n := by
  unfold turnN; have := List.length_filter_le (fun k => decide (parAt T' k ≠ parAt T k)) (List.range n); simpa using this
set_option maxRecDepth 100000 in
set_option maxHeartbeats 2000000 in
theorem below_ca {tb lb cap : Nat} {T : List ND} {X : List NL} (id : Int) (w : World) (h : TreeAt w tb lb cap T X) :
    Ca Tryd.prog 17 #[.pointer (some ⟨tb, 0, none⟩), .int .i64 id] w fun v w' => w'.ownsRow w.heap.size 3 1 v (belowN T id T.length).length (IN (belowN T id T.length)) ∧ Keeps NoB w w' := by
  refine ca_of_body (args := [.pointer (some ⟨tb, 0, none⟩), .int .i64 id]) Tryd.func17 rfl (by kernel_rfl) ?_
  have htr := h.tr
  have hlen := h.len
  have hsm := h.small
  obtain ⟨cur, e, fr, hb, hr⟩ := h.row
  (repeat first | (apply wr_move; exact rfl; with_reducible (conv => enter [6, 3]; whnf)) | (apply wr_assign; exact rfl; with_reducible (conv => enter [6, 3]; whnf)) | apply wr_end | apply wc_seq | apply wc_region | apply wc_block | (apply wr_fieldAddr; iterate 2 exact rfl) | (apply wr_len_slice; iterate 2 exact rfl) | (apply wr_nilCheck; iterate 2 exact rfl) | (apply wr_load; (iterate 3 exact rfl); (focus repeat first | with_reducible assumption | exact heap_alloc_same _ _ | exact World.putObj_heap_same (by first | omega | (simp only [World.size_alloc, World.putObj_size, ne_eq]; omega)) | ((first | refine hAl ?_ ?_ | refine hPu ?_ ?_); focus first | omega | (simp only [World.size_alloc, World.putObj_size, ne_eq]; omega))); exact rfl; conv => enter [6, 3]; whnf))
  refine wc_loopL (α := Nat × Value) (fun x => [(1, .int .i64 id), (5, x.2), (11, .slice (some ⟨lb, 0, none⟩) X.length cap), (12, .int .i64 (X.length : Int)), (13, .int .i64 (x.1 : Int))])
    (fun x ds w' => ds = [] ∧ x.1 ≤ X.length ∧ w'.ownsRow w.heap.size 3 1 x.2 (belowN T id x.1).length (IN (belowN T id x.1)) ∧ Keeps NoB w w') (fun x => X.length - x.1) (0, .slice none 0 0) ⟨rfl, Nat.zero_le _, own_nil _ _ _ _, Keeps.refl _ _⟩ ⟨rfl, rfl, rfl, rfl, rfl, trivial⟩ ?_
  rintro ⟨i, v⟩ ds f0 w2 ⟨rfl, hi, ho2, hk2⟩
  dsimp only at hi ho2 ⊢
  have h2 := h.kin hk2
  by_cases hlt : i < X.length
  · obtain ⟨x, hx⟩ : ∃ x, X[i]? = some x := ⟨X[i], by simp [hlt]⟩
    obtain ⟨n, hn, hN⟩ := h2.at hx
    have hc := hN.cells
    have hb2 := hk2.heap hb (fun h => h)
    have hp : parAt T i = n.par := by unfold parAt; simp [hn]
    have hbl := belowN_len T id i
    have hsn := belowN_snoc T id i
    rw [hp] at hsn
    (repeat first | (apply wr_move; exact rfl; with_reducible (conv => enter [6, 3]; whnf)) | apply wr_end | apply wc_seq | apply wc_region | apply wc_skip | apply wc_block | (apply wr_cmp; (iterate 3 exact rfl); exact cmpT (by dsimp only [cmpP]; first | done | omega)) | (apply wc_true; exact rfl))
    refine wr_indexAddr (i := i) rfl rfl rfl hlt ?_
    refine wr_load (v := .pointer (some ⟨x.blk, 0, none⟩)) rfl rfl rfl hb2 (hr i x hx) ?_
    by_cases h1 : 0 < i
    rotate_left
    · rw [if_neg (fun h => h1 h.1), List.append_nil] at hsn
      (repeat first | (apply wr_move; exact rfl; with_reducible (conv => enter [6, 3]; whnf)) | (apply wr_assign; exact rfl; with_reducible (conv => enter [6, 3]; whnf)) | apply wr_end | apply wc_seq | apply wc_region | apply wc_skip | (apply wr_cmp; (iterate 3 exact rfl); exact cmpF (by dsimp only [cmpN]; first | done | omega)) | (apply wr_pick (t := false); (iterate 2 exact rfl); with_reducible (conv => enter [6, 3]; whnf)) | (apply wr_add; (iterate 3 exact rfl); exact w_fit (by dsimp only [kIn]; first | done | omega)) | (apply wc_false; exact rfl) | (apply wr_skip; exact rfl))
      exact ⟨(i + 1, v), by dsimp only; omega, ⟨by trivial, hlt, (by dsimp only; rw [hsn]; exact ho2), hk2⟩, rfl, rfl, rfl, rfl, by simp, trivial⟩
    by_cases h3 : 0 < id
    rotate_left
    · rw [if_neg (fun h => h3 h.2.1), List.append_nil] at hsn
      (repeat first | (apply wr_move; exact rfl; with_reducible (conv => enter [6, 3]; whnf)) | (apply wr_assign; exact rfl; with_reducible (conv => enter [6, 3]; whnf)) | apply wr_end | apply wc_seq | apply wc_region | apply wc_skip | (apply wr_cmp; (iterate 3 exact rfl); exact cmpT (by dsimp only [cmpP]; first | done | omega)) | (apply wr_cmp; (iterate 3 exact rfl); exact cmpF (by dsimp only [cmpN]; first | done | omega)) | (apply wr_pick (t := true); (iterate 2 exact rfl); with_reducible (conv => enter [6, 3]; whnf)) | (apply wr_pick (t := false); (iterate 2 exact rfl); with_reducible (conv => enter [6, 3]; whnf)) | (apply wr_add; (iterate 3 exact rfl); exact w_fit (by dsimp only [kIn]; first | done | omega)) | (apply wc_false; exact rfl) | (apply wr_skip; exact rfl))
      exact ⟨(i + 1, v), by dsimp only; omega, ⟨by trivial, hlt, (by dsimp only; rw [hsn]; exact ho2), hk2⟩, rfl, rfl, rfl, rfl, by simp, trivial⟩
    by_cases h4 : n.par = id
    rotate_left
    · rw [if_neg (fun h => h4 h.2.2), List.append_nil] at hsn
      (repeat first | (apply wr_move; exact rfl; with_reducible (conv => enter [6, 3]; whnf)) | (apply wr_assign; exact rfl; with_reducible (conv => enter [6, 3]; whnf)) | apply wr_end | apply wc_seq | apply wc_region | apply wc_skip | (apply wr_fieldAddr; iterate 2 exact rfl) | (apply wr_nilCheck; iterate 2 exact rfl) | (apply wr_load; (iterate 3 exact rfl); (focus repeat first | with_reducible assumption | exact heap_alloc_same _ _ | exact World.putObj_heap_same (by first | omega | (simp only [World.size_alloc, World.putObj_size, ne_eq]; omega)) | ((first | refine hAl ?_ ?_ | refine hPu ?_ ?_); focus first | omega | (simp only [World.size_alloc, World.putObj_size, ne_eq]; omega))); exact rfl; conv => enter [6, 3]; whnf) | (apply wr_cmp; (iterate 3 exact rfl); exact cmpT (by dsimp only [cmpP]; first | done | omega)) | (apply wr_cmp; (iterate 3 exact rfl); exact cmpF (by dsimp only [cmpN]; first | done | omega)) | (apply wr_pick (t := true); (iterate 2 exact rfl); with_reducible (conv => enter [6, 3]; whnf)) | (apply wr_add; (iterate 3 exact rfl); exact w_fit (by dsimp only [kIn]; first | done | omega)) | (apply wc_false; exact rfl))
      exact ⟨(i + 1, v), by dsimp only; omega, ⟨by trivial, hlt, (by dsimp only; rw [hsn]; exact ho2), hk2⟩, rfl, rfl, rfl, rfl, by simp, trivial⟩
    rw [if_pos ⟨h1, h3, h4⟩] at hsn
    (repeat first | (apply wr_move; exact rfl; with_reducible (conv => enter [6, 3]; whnf)) | (apply wr_assign; exact rfl; with_reducible (conv => enter [6, 3]; whnf)) | apply wr_end | apply wc_seq | apply wc_region | (apply wr_fieldAddr; iterate 2 exact rfl) | (apply wr_nilCheck; iterate 2 exact rfl) | (apply wr_load; (iterate 3 exact rfl); (focus repeat first | with_reducible assumption | exact heap_alloc_same _ _ | exact World.putObj_heap_same (by first | omega | (simp only [World.size_alloc, World.putObj_size, ne_eq]; omega)) | ((first | refine hAl ?_ ?_ | refine hPu ?_ ?_); focus first | omega | (simp only [World.size_alloc, World.putObj_size, ne_eq]; omega))); exact rfl; conv => enter [6, 3]; whnf) | (apply wr_cmp; (iterate 3 exact rfl); exact cmpT (by dsimp only [cmpP]; first | done | omega)) | (apply wr_pick (t := true); (iterate 2 exact rfl); with_reducible (conv => enter [6, 3]; whnf)) | (apply wc_true; exact rfl))
    refine wr_buildSlice (vs := [.int .i64 (i : Int)]) rfl rfl (by intro v hv; simp at hv; subst hv; rfl) rfl (by decide) (by decide) (by decide) ?_
    refine wr_append (v := v) (n := (belowN T id i).length) (m := 1) (news := [.int .i64 (i : Int)]) rfl rfl (ho2.alloc _) rfl (heap_alloc_same _ _) rfl (by intro u hu; simp at hu; subst hu; rfl) rfl (by decide) (by omega) (by omega) (by have := hk2.size; simp only [World.size_alloc]; omega) ?_
    intro v2 w3 ho3 hk3 _
    have hkw3 : Keeps NoB w w3 := Keeps.trans' (hk2.alloc _) hk3 (fun b hb e => by have := own_ge ho2 e; omega)
    (repeat first | (apply wr_move; exact rfl; with_reducible (conv => enter [6, 3]; whnf)) | (apply wr_assign; exact rfl; with_reducible (conv => enter [6, 3]; whnf)) | apply wr_end | apply wc_region | (apply wr_add; (iterate 3 exact rfl); exact w_fit (by dsimp only [kIn]; first | done | omega)) | (apply wr_nil; try simp only [thenE, inBlockE, bodyQ]))
    exact ⟨(i + 1, v2), by dsimp only; omega, ⟨by trivial, hlt, (by dsimp only; rw [hsn, List.length_append]; simpa [IN] using ho3), hkw3⟩, rfl, rfl, rfl, rfl, by simp, trivial⟩
  · have he : i = X.length := by omega
    subst he
    rw [← hlen] at ho2
    (repeat first | (apply wr_move; exact rfl; with_reducible (conv => enter [6, 3]; whnf)) | (apply wr_assign; exact rfl; with_reducible (conv => enter [6, 3]; whnf)) | apply wr_end | apply wc_seq | apply wc_region | (apply wr_cmp; (iterate 3 exact rfl); exact cmpF (by dsimp only [cmpN]; first | done | omega)) | (apply wc_false; exact rfl) | (apply wc_exit; try simp only [thenE, inBlockE, bodyQ, ↓reduceIte, Nat.reduceEqDiff]) | (apply wc_ret; try simp only [thenE, inBlockE, bodyQ]))
    exact leave1 (v := v) rfl rfl ⟨ho2, hk2⟩
def pars (T : List ND) (n : Nat) : List Value := ((List.range n).map (parAt T)).map fun c => .int .i64 c
theorem pars_snoc (T : List ND) (n : Nat) : pars T (n + 1) = pars T n ++ [.int .i64 (parAt T n)] := by
  unfold pars; rw [List.range_succ]; simp
theorem pars_len (T : List ND) (n : Nat) : (pars T n).length = n := by simp [pars]
theorem pars_get (T : List ND) {n i : Nat} (h : i < n) : (pars T n)[i]? = some (.int .i64 (parAt T i)) := by
  unfold pars; simp [h]
set_option maxRecDepth 100000 in
set_option maxHeartbeats 4000000 in
/-- turned does something, and tells whose parent is another one then. -/
theorem turned_ca {tb lb cap : Nat} {T T' : List ND} {X : List NL} (dov : Value) (w : World) (h : TreeAt w tb lb cap T X) (hl : T'.length = T.length)
    (hdo : ∀ w', Keeps NoB w w' → TreeAt w' tb lb cap T X → CallV Tryd.prog dov #[] w' fun _ w'' => TreeAt w'' tb lb cap T' X ∧ Keeps (TD X) w' w'') :
    Ca Tryd.prog 26 #[.pointer (some ⟨tb, 0, none⟩), dov] w fun v w' => w'.ownsRow w.heap.size 3 1 v (turnN T T' T.length).length (IN (turnN T T' T.length)) ∧ TreeAt w' tb lb cap T' X ∧ Keeps (TD X) w w' := by
  refine ca_of_body (args := [.pointer (some ⟨tb, 0, none⟩), dov]) Tryd.func26 rfl (by kernel_rfl) ?_
  have htr := h.tr
  have hlen := h.len
  have hsm := h.small
  obtain ⟨cur, e, fr, hb, hr⟩ := h.row
  have hTDlt : ∀ b, TD X b → b < w.heap.size := fun b hb => by
    obtain ⟨x, hx, hb⟩ := hb
    obtain ⟨i, hi⟩ := List.getElem?_of_mem hx
    obtain ⟨n, _, hN⟩ := h.at hi
    rcases hb with rfl | hb
    · exact hN.lts.1
    · exact hN.lts.2 b hb
  (repeat first | (apply wr_move; exact rfl; with_reducible (conv => enter [6, 3]; whnf)) | (apply wr_assign; exact rfl; with_reducible (conv => enter [6, 3]; whnf)) | apply wr_end | apply wc_seq | apply wc_region | apply wc_block | (apply wr_fieldAddr; iterate 2 exact rfl) | (apply wr_len_slice; iterate 2 exact rfl) | (apply wr_nilCheck; iterate 2 exact rfl) | (apply wr_load; (iterate 3 exact rfl); (focus repeat first | with_reducible assumption | exact heap_alloc_same _ _ | exact World.putObj_heap_same (by first | omega | (simp only [World.size_alloc, World.putObj_size, ne_eq]; omega)) | ((first | refine hAl ?_ ?_ | refine hPu ?_ ?_); focus first | omega | (simp only [World.size_alloc, World.putObj_size, ne_eq]; omega))); exact rfl; conv => enter [6, 3]; whnf))
  refine wc_loopL (α := Nat × Value) (fun x => [(0, .pointer (some ⟨tb, 0, none⟩)), (1, dov), (5, x.2), (14, .slice (some ⟨lb, 0, none⟩) X.length cap), (15, .int .i64 (X.length : Int)), (16, .int .i64 (x.1 : Int))])
    (fun x ds w' => ds = [] ∧ x.1 ≤ X.length ∧ w'.ownsRow w.heap.size 3 1 x.2 x.1 (pars T x.1) ∧ Keeps NoB w w') (fun x => X.length - x.1) (0, .slice none 0 0) ⟨rfl, Nat.zero_le _, own_nil _ _ _ _, Keeps.refl _ _⟩ ⟨rfl, rfl, rfl, rfl, rfl, rfl, trivial⟩ ?_
  rintro ⟨i, v⟩ ds f0 w2 ⟨rfl, hi, ho2, hk2⟩
  dsimp only at hi ho2 ⊢
  have h2 := h.kin hk2
  by_cases hlt : i < X.length
  · obtain ⟨x, hx⟩ : ∃ x, X[i]? = some x := ⟨X[i], by simp [hlt]⟩
    obtain ⟨n, hn, hN⟩ := h2.at hx
    have hc := hN.cells
    have hb2 := hk2.heap hb (fun h => h)
    have hp : parAt T i = n.par := by unfold parAt; simp [hn]
    have hsn := pars_snoc T i
    rw [hp] at hsn
    (repeat first | apply wr_end | apply wc_seq | apply wc_region | apply wc_skip | apply wc_block | (apply wr_cmp; (iterate 3 exact rfl); exact cmpT (by dsimp only [cmpP]; first | done | omega)) | (apply wc_true; exact rfl))
    refine wr_indexAddr (i := i) rfl rfl rfl hlt ?_
    refine wr_load (v := .pointer (some ⟨x.blk, 0, none⟩)) rfl rfl rfl hb2 (hr i x hx) ?_
    (repeat first | (apply wr_move; exact rfl; with_reducible (conv => enter [6, 3]; whnf)) | (apply wr_assign; exact rfl; with_reducible (conv => enter [6, 3]; whnf)) | apply wr_end | apply wc_region | (apply wr_fieldAddr; iterate 2 exact rfl) | (apply wr_nilCheck; iterate 2 exact rfl) | (apply wr_load; (iterate 3 exact rfl); (focus repeat first | with_reducible assumption | exact heap_alloc_same _ _ | exact World.putObj_heap_same (by first | omega | (simp only [World.size_alloc, World.putObj_size, ne_eq]; omega)) | ((first | refine hAl ?_ ?_ | refine hPu ?_ ?_); focus first | omega | (simp only [World.size_alloc, World.putObj_size, ne_eq]; omega))); exact rfl; conv => enter [6, 3]; whnf))
    refine wr_buildSlice (vs := [.int .i64 n.par]) rfl rfl (by intro v hv; simp at hv; subst hv; rfl) rfl (by decide) (by decide) (by decide) ?_
    refine wr_append (v := v) (n := i) (m := 1) (news := [.int .i64 n.par]) rfl rfl (ho2.alloc _) rfl (heap_alloc_same _ _) rfl (by intro u hu; simp at hu; subst hu; rfl) rfl (by decide) (by omega) (by omega) (by have := hk2.size; simp only [World.size_alloc]; omega) ?_
    intro v2 w3 ho3 hk3 _
    have hkw3 : Keeps NoB w w3 := Keeps.trans' (hk2.alloc _) hk3 (fun b hb e => by have := own_ge ho2 e; omega)
    (repeat first | (apply wr_move; exact rfl; with_reducible (conv => enter [6, 3]; whnf)) | (apply wr_assign; exact rfl; with_reducible (conv => enter [6, 3]; whnf)) | apply wr_end | apply wc_region | (apply wr_add; (iterate 3 exact rfl); exact w_fit (by dsimp only [kIn]; first | done | omega)) | (apply wr_nil; try simp only [thenE, inBlockE, bodyQ]))
    exact ⟨(i + 1, v2), by dsimp only; omega, ⟨by trivial, hlt, (by dsimp only; rw [hsn]; exact ho3), hkw3⟩, rfl, rfl, rfl, rfl, rfl, by simp, trivial⟩
  · have he : i = X.length := by omega
    subst he
    obtain ⟨a, c, rfl, hcc, hat⟩ := (SlR.of_own ho2).shape
    (repeat first | (apply wr_move; exact rfl; with_reducible (conv => enter [6, 3]; whnf)) | apply wr_end | apply wc_seq | apply wc_region | (apply wr_cmp; (iterate 3 exact rfl); exact cmpF (by dsimp only [cmpN]; first | done | omega)) | (apply wc_false; exact rfl) | (apply wc_exit; try simp only [thenE, inBlockE, bodyQ, ↓reduceIte, Nat.reduceEqDiff]))
    refine wr_callv (vs := []) rfl (hdo w2 hk2 h2) rfl rfl ?_
    rintro vv w3 ⟨h3, hk3⟩
    have hkw3 : Keeps (TD X) w w3 := hk2.upD.trans hk3
    have ho3 := own_keep ho2 hk3 (fun b hb hd => by have := own_ge ho2 hb; have := hTDlt b hd; omega)
    have hold := SlR.of_own ho3
    have htr3 := h3.tr
    obtain ⟨cur3, e3, fr3, hb3, hr3⟩ := h3.row
    obtain ⟨a', c', he', _, hat3⟩ := hold.shape
    cases he'
    have hTL := h3.apart
    (repeat first | (apply wr_move; exact rfl; with_reducible (conv => enter [6, 3]; whnf)) | (apply wr_assign; exact rfl; with_reducible (conv => enter [6, 3]; whnf)) | apply wr_end | apply wc_seq | apply wc_region | apply wc_block | (apply wr_fieldAddr; iterate 2 exact rfl) | (apply wr_len_slice; iterate 2 exact rfl) | (apply wr_nilCheck; iterate 2 exact rfl) | (apply wr_load; (iterate 3 exact rfl); (focus repeat first | with_reducible assumption | exact heap_alloc_same _ _ | exact World.putObj_heap_same (by first | omega | (simp only [World.size_alloc, World.putObj_size, ne_eq]; omega)) | ((first | refine hAl ?_ ?_ | refine hPu ?_ ?_); focus first | omega | (simp only [World.size_alloc, World.putObj_size, ne_eq]; omega))); exact rfl; conv => enter [6, 3]; whnf))
    refine wc_loopL (α := Nat × Value) (fun x => [(5, .slice a X.length c), (8, x.2), (33, .slice (some ⟨lb, 0, none⟩) X.length cap), (34, .int .i64 (X.length : Int)), (35, .int .i64 (x.1 : Int))])
      (fun x ds w' => ds = [] ∧ x.1 ≤ X.length ∧ w'.ownsRow w3.heap.size 3 1 x.2 (turnN T T' x.1).length (IN (turnN T T' x.1)) ∧ Keeps NoB w3 w') (fun x => X.length - x.1) (0, .slice none 0 0) ⟨rfl, Nat.zero_le _, own_nil _ _ _ _, Keeps.refl _ _⟩ ⟨rfl, rfl, rfl, rfl, rfl, trivial⟩ ?_
    rintro ⟨k, v⟩ ds f1 w4 ⟨rfl, hk, ho4, hk4⟩
    dsimp only at hk ho4 ⊢
    have h4 := h3.kin hk4
    by_cases hlk : k < X.length
    · obtain ⟨x, hx⟩ : ∃ x, X[k]? = some x := ⟨X[k], by simp [hlk]⟩
      obtain ⟨n, hn, hN⟩ := h4.at hx
      have hc := hN.cells
      have hb4 := hk4.heap hb3 (fun h => h)
      have hp : parAt T' k = n.par := by unfold parAt; simp [hn]
      have hsn := turnN_snoc T T' k
      rw [hp] at hsn
      have hbl := turnN_len T T' k
      obtain ⟨b1, o1, rfl, cur1, e1, fr1, hb1, hr1⟩ := hat3 (by omega)
      have hb14 := hk4.heap hb1 (fun h => h)
      have hv1 : cur1[o1 + k * 1]? = some (.int .i64 (parAt T k)) := by
        rw [Nat.mul_one, hr1 k (by omega)]; exact pars_get T hlk
      (repeat first | (apply wr_move; exact rfl; with_reducible (conv => enter [6, 3]; whnf)) | apply wr_end | apply wc_seq | apply wc_region | apply wc_skip | apply wc_block | (apply wr_cmp; (iterate 3 exact rfl); exact cmpT (by dsimp only [cmpP]; first | done | omega)) | (apply wc_true; exact rfl))
      refine wr_indexAddr (i := k) rfl rfl rfl hlk ?_
      refine wr_load (v := .pointer (some ⟨x.blk, 0, none⟩)) rfl rfl rfl hb4 (hr3 k x hx) ?_
      (repeat first | (apply wr_assign; exact rfl; with_reducible (conv => enter [6, 3]; whnf)) | apply wr_end | apply wc_seq)
      refine wc_drawS (l := _) (S := fun w' => w' = w4.drew) (by kernel_rfl) (by kernel_rfl) rfl ?_
      apply ch_step
      focus
        intro w' hS
        subst hS
        (repeat first | (apply wr_move; exact rfl; with_reducible (conv => enter [6, 3]; whnf)) | (apply wr_nil; try simp only [thenE, inBlockE, bodyQ]))
        exact ⟨rfl, by trivial⟩
      apply ch_step
      focus
        intro w' hS
        subst hS
        (repeat first | (apply wr_nilCheck; iterate 2 exact rfl) | (apply wr_nil; try simp only [thenE, inBlockE, bodyQ]))
        exact ⟨rfl, by trivial⟩
      apply ch_step
      focus
        intro w' hS
        subst hS
        (repeat first | (apply wr_fieldAddr; iterate 2 exact rfl) | (apply wr_nil; try simp only [thenE, inBlockE, bodyQ]))
        exact ⟨rfl, by trivial⟩
      apply ch_step
      focus
        intro w' hS
        subst hS
        refine wr_load (v := .int .i64 n.par) rfl rfl rfl hc rfl ?_
        apply wr_nil
        exact ⟨rfl, rfl⟩
      apply ch_step
      focus
        intro w' hS
        subst hS
        (repeat first | (apply wr_move; exact rfl; with_reducible (conv => enter [6, 3]; whnf)) | (apply wr_nil; try simp only [thenE, inBlockE, bodyQ]))
        exact ⟨rfl, by trivial⟩
      apply ch_step
      focus
        intro w' hS
        subst hS
        (repeat first | (apply wr_move; exact rfl; with_reducible (conv => enter [6, 3]; whnf)) | (apply wr_nil; try simp only [thenE, inBlockE, bodyQ]))
        exact ⟨rfl, by trivial⟩
      apply ch_step
      focus
        intro w' hS
        subst hS
        refine wr_indexAddr (i := k) rfl rfl rfl hlk ?_
        apply wr_nil
        exact ⟨rfl, rfl⟩
      apply ch_step
      focus
        intro w' hS
        subst hS
        refine wr_load (v := .int .i64 (parAt T k)) rfl rfl rfl hb14 hv1 ?_
        apply wr_nil
        exact ⟨rfl, rfl⟩
      by_cases hne : n.par = parAt T k
      · rw [if_neg (by simpa using hne), List.append_nil] at hsn
        apply ch_step
        focus
          intro w' hS
          subst hS
          (repeat first | (apply wr_cmp; (iterate 3 exact rfl); exact cmpF (by dsimp only [cmpN]; first | done | omega)) | (apply wr_nil; try simp only [thenE, inBlockE, bodyQ]))
          exact ⟨rfl, by trivial⟩
        refine ch_nil ?_
        intro w' hS
        subst hS
        (repeat first | (apply wr_move; exact rfl; with_reducible (conv => enter [6, 3]; whnf)) | apply wr_end | apply wc_region | apply wc_skip | (apply wr_add; (iterate 3 exact rfl); exact w_fit (by dsimp only [kIn]; first | done | omega)) | (apply wc_false; exact rfl))
        exact ⟨(k + 1, v), by dsimp only; omega, ⟨by trivial, hlk, (by dsimp only; rw [hsn]; exact own_keep ho4 (Keeps.refl NoB w4).drew (fun _ _ h => h)), hk4.drew⟩, rfl, rfl, rfl, rfl, by simp, trivial⟩
      · rw [if_pos hne] at hsn
        apply ch_step
        focus
          intro w' hS
          subst hS
          (repeat first | (apply wr_cmp; (iterate 3 exact rfl); exact cmpT (by dsimp only [cmpP]; first | done | omega)) | (apply wr_nil; try simp only [thenE, inBlockE, bodyQ]))
          exact ⟨rfl, by trivial⟩
        refine ch_nil ?_
        intro w' hS
        subst hS
        (repeat first | (apply wr_move; exact rfl; with_reducible (conv => enter [6, 3]; whnf)) | apply wc_region | (apply wc_true; exact rfl))
        refine wr_buildSlice (vs := [.int .i64 (k : Int)]) rfl rfl (by intro v hv; simp at hv; subst hv; rfl) rfl (by decide) (by decide) (by decide) ?_
        have ho4' := own_keep ho4 (Keeps.refl NoB w4).drew (fun _ _ h => h)
        refine wr_append (v := v) (n := (turnN T T' k).length) (m := 1) (news := [.int .i64 (k : Int)]) rfl rfl (ho4'.alloc _) rfl (heap_alloc_same _ _) rfl (by intro u hu; simp at hu; subst hu; rfl) rfl (by decide) (by omega) (by omega) (by have := hk4.drew.size; simp only [World.size_alloc]; omega) ?_
        intro v2 w5 ho5 hk5 _
        have hkw5 : Keeps NoB w3 w5 := Keeps.trans' (hk4.drew.alloc _) hk5 (fun b hb e => by have := own_ge ho4 e; omega)
        (repeat first | (apply wr_move; exact rfl; with_reducible (conv => enter [6, 3]; whnf)) | (apply wr_assign; exact rfl; with_reducible (conv => enter [6, 3]; whnf)) | apply wr_end | apply wc_region | (apply wr_add; (iterate 3 exact rfl); exact w_fit (by dsimp only [kIn]; first | done | omega)) | (apply wr_nil; try simp only [thenE, inBlockE, bodyQ]))
        exact ⟨(k + 1, v2), by dsimp only; omega, ⟨by trivial, hlk, (by dsimp only; rw [hsn, List.length_append]; simpa [IN] using ho5), hkw5⟩, rfl, rfl, rfl, rfl, by simp, trivial⟩
    · have he : k = X.length := by omega
      subst he
      rw [← hlen] at ho4
      (repeat first | (apply wr_move; exact rfl; with_reducible (conv => enter [6, 3]; whnf)) | (apply wr_assign; exact rfl; with_reducible (conv => enter [6, 3]; whnf)) | apply wr_end | apply wc_seq | apply wc_region | (apply wr_cmp; (iterate 3 exact rfl); exact cmpF (by dsimp only [cmpN]; first | done | omega)) | (apply wc_false; exact rfl) | (apply wc_exit; try simp only [thenE, inBlockE, bodyQ, ↓reduceIte, Nat.reduceEqDiff]) | (apply wc_ret; try simp only [thenE, inBlockE, bodyQ]))
      exact leave1 (v := v) rfl rfl ⟨own_down ho4 hkw3.size, h4, hkw3.trans hk4.upD⟩
end Go.Proofs.YthjpgkefifkhjaaDoor
