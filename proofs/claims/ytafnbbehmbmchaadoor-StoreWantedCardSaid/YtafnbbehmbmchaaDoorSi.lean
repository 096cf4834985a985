/- The store: List. -/
import Derived.Test.YtafnbbehmbmchaaDoorSh
namespace Go.Proofs.YtafnbbehmbmchaaDoor
open Go Go.V Go.RowKit
set_option linter.unusedVariables false
set_option linter.unusedSimpArgs false

/-- One key is ahead of another. -/
def ltK (a b : KY) : Prop := a.1 < b.1 ∨ (a.1 = b.1 ∧ a.2 < b.2)
instance (a b : KY) : Decidable (ltK a b) := by unfold ltK; infer_instance
def SortedR (l : List RD) : Prop := l.Pairwise fun a b => ¬ ltK (keyR b) (keyR a)
/-- slices.SortFunc of resources by their keys, at no more than m. -/
def SortsR (m : Nat) : Prop := ∀ (base : Nat) (v : Value) (n : Nat) (l : List RD) (w : World), w.ownsRow base 30 5 v n (l.flatMap GRd) → l.length = n → n ≤ m →
  Ca Tryd.prog 29 #[v, .func (.func 30) #[] #[]] w fun r w' => r = .tuple #[] ∧ ∃ l' : List RD, l'.Perm l ∧ SortedR l' ∧ w'.ownsRow base 30 5 v n (l'.flatMap GRd) ∧ Keeps (fun k => v.ownBlock = some k) w w'
theorem own_sl {w : World} {base sz n : Nat} {T : TypeId} {v : Value} {xs : List Value} (h : w.ownsRow base T sz v n xs) : ∃ a c, v = .slice a n c := by
  rcases h.2 with ⟨rfl, rfl⟩ | ⟨g, cap, cur, rfl, _⟩
  · exact ⟨none, 0, rfl⟩
  · exact ⟨_, _, rfl⟩
theorem sortsR1 : SortsR 1 := by
  intro base v n l w hown hl hn
  obtain ⟨a, c, rfl⟩ := own_sl hown
  refine (rsort_small a n c hn _ w).mono ?_
  rintro r w' ⟨rfl, rfl⟩
  refine ⟨rfl, l, List.Perm.refl _, ?_, hown, Keeps.refl _ _⟩
  match l, hl with
  | [], _ => exact List.Pairwise.nil
  | [x], _ => exact List.pairwise_singleton _ _
  | x :: y :: l, hl => simp at hl; omega
/-- What is kept of a type. -/
def listR (K : KL) (kind : Int) : List RD := (K.filter fun x => x.1.1 = kind).map (·.2.2.1)
def outI (K : KL) (kind : Int) (idx : List Nat) : List RD := idx.filterMap fun i => match K[i]? with
  | some x => if x.1.1 = kind then some x.2.2.1 else none
  | none => none
theorem outI_app (K : KL) (kind : Int) (idx : List Nat) (i : Nat) : outI K kind (idx ++ [i]) = outI K kind idx ++ outI K kind [i] := by simp [outI, List.filterMap_append]
theorem range_map {α : Type} (l : List α) : (List.range l.length).map (fun i => l[i]?) = l.map some := by
  apply List.ext_getElem?
  intro i
  by_cases h : i < l.length
  · simp [h]
  · simp [h, show l.length ≤ i by omega]
theorem outI_perm {K : KL} {kind : Int} {idx : List Nat} (hn : idx.Nodup) (h1 : ∀ i ∈ idx, i < K.length) (h2 : ∀ i, i < K.length → i ∈ idx) : (outI K kind idx).Perm (listR K kind) := by
  have hp : idx.Perm (List.range K.length) := (List.perm_ext_iff_of_nodup hn List.nodup_range).2 fun i => by simp only [List.mem_range]; exact ⟨h1 i, h2 i⟩
  have h3 := hp.filterMap (fun i => match K[i]? with
    | some x => if x.1.1 = kind then some x.2.2.1 else none
    | none => none)
  have h4 : (List.range K.length).filterMap (fun i => match K[i]? with
    | some x => if x.1.1 = kind then some x.2.2.1 else none
    | none => none) = listR K kind := by
    have h5 := congrArg (List.filterMap fun o : Option (KY × (Nat × EN)) => match o with
      | some x => if x.1.1 = kind then some x.2.2.1 else none
      | none => none) (range_map K)
    rw [List.filterMap_map, List.filterMap_map] at h5
    unfold listR
    rw [← List.filterMap_eq_map, List.filterMap_filter]
    refine Eq.trans h5 ?_
    congr 1
    funext x
    simp [Function.comp]
  rw [h4] at h3
  exact h3
theorem outI_le {K : KL} {kind : Int} {idx : List Nat} : (outI K kind idx).length ≤ idx.length := List.length_filterMap_le _ _
set_option maxRecDepth 100000 in
set_option maxHeartbeats 4000000 in
theorem list_ca (m : Nat) (hS : SortsR m) {sb kb wb : Nat} {room : Int} {grace : Nat} {K : KL} {W : KY → Int} {w : World} (h : St w sb kb wb room grace K W) (kind : Int) (hK : K.length ≤ 4096) (hm : (listR K kind).length ≤ m) :
    Ca Tryd.prog 18 #[.pointer (some ⟨sb, 0, none⟩), .int .i64 kind] w fun v w' => ∃ l : List RD, l.Perm (listR K kind) ∧ SortedR l ∧ w'.ownsRow w.heap.size 30 5 v l.length (l.flatMap GRd) ∧ Keeps NoB w w' := by
  refine ca_of_body (args := [.pointer (some ⟨sb, 0, none⟩), .int .i64 kind]) Tryd.func18 rfl (by kernel_rfl) ?_
  have hs := h.cells
  have hln : (mapL ptrE K).length = K.length := by simp [mapL]
  (repeat first | (apply wr_move; exact rfl; with_reducible (conv => enter [6, 3]; whnf)) | (apply wr_assign; exact rfl; with_reducible (conv => enter [6, 3]; whnf)) | apply wr_end | apply wc_seq | apply wc_region | (apply wr_fieldAddr; iterate 2 exact rfl) | (apply wr_nilCheck; iterate 2 exact rfl) | (apply wr_load; (iterate 3 exact rfl); (focus repeat first | with_reducible assumption | exact heap_alloc_same _ _ | exact World.putObj_heap_same (by first | omega | (simp only [World.size_alloc, World.putObj_size, ne_eq]; omega)) | ((first | refine hAl ?_ ?_ | refine hPu ?_ ?_); focus first | omega | (simp only [World.size_alloc, World.putObj_size, ne_eq]; omega))); exact rfl; conv => enter [6, 3]; whnf))
  refine wr_rangeM rfl rfl h.kept ?_
  intro w3 hI3 hk3
  obtain ⟨r, hr⟩ : ∃ b, b = w.heap.size := ⟨_, rfl⟩
  rw [← hr] at hI3 ⊢
  have hsz3 := hk3.size
  have hlr : r < w3.heap.size := by
    obtain ⟨es, c, since, last, seen, h1, h2, h3, h4, h5, h6, h7, h7', h8, h9⟩ := hI3
    exact lt_of_heap h8
  (repeat first | apply wr_end | apply wc_block)
  refine wc_loopL (α := List Nat × Value) (fun p => [(0, .pointer (some ⟨sb, 0, none⟩)), (1, .int .i64 kind), (5, p.2), (12, .pointer (some ⟨r, 0, none⟩))])
    (fun p ds w' => ds = [] ∧ IterAt w' encK r kb (mapL ptrE K) p.1 ∧ w'.ownsRow (r + 1) 30 5 p.2 (outI K kind p.1).length ((outI K kind p.1).flatMap GRd) ∧ Keeps (fun k => r ≤ k) w3 w') (fun p => K.length - p.1.length) ([], .slice none 0 0) ⟨rfl, hI3, ⟨rfl, .inl ⟨rfl, rfl⟩⟩, Keeps.refl _ _⟩ ⟨rfl, rfl, rfl, rfl, trivial⟩ ?_
  rintro ⟨idx, ov⟩ ds f0 w4 ⟨rfl, hI4, hown4, hk4⟩
  dsimp only at hI4 hown4 ⊢
  have hkw4 : Keeps NoB w w4 := Keeps.trans' hk3 hk4 (fun i hi e => by omega)
  (repeat first | apply wc_seq | apply wc_region)
  refine wr_nextM rfl rfl hI4 ?_ ?_
  · intro w5 hall hk5
    have hp : (outI K kind idx).Perm (listR K kind) := by
      obtain ⟨es, c, since, last, seen, h1, h2, h3, h4, h5, h6, h7, h7', h8, h9, h10, h11⟩ := hI4
      exact outI_perm h10 (fun i hi => by have := h11 i hi; rw [hln] at this; exact this) (fun i hi => hall i (by rw [hln]; exact hi))
    have hown5 := own_keep hown4 hk5 (fun _ _ h => h)
    (repeat first | (apply wr_move; exact rfl; with_reducible (conv => enter [6, 3]; whnf)) | apply wr_end | apply wc_seq | apply wc_region | (apply wr_extract; (iterate 3 exact rfl); with_reducible (conv => enter [6, 3]; whnf)) | (apply wc_false; exact rfl) | (apply wc_exit; try simp only [thenE, inBlockE, bodyQ, ↓reduceIte, Nat.reduceEqDiff]))
    refine wr_call (vs := [ov, .func (.func 30) #[] #[]]) rfl (hS _ ov _ _ w5 hown5 rfl (by rw [hp.length_eq]; exact hm)) rfl ?_
    rintro v w6 ⟨rfl, l', hl', hsort, hown6, hk6⟩
    (repeat first | (apply wr_move; exact rfl; with_reducible (conv => enter [6, 3]; whnf)) | (apply wr_assign; exact rfl; with_reducible (conv => enter [6, 3]; whnf)) | apply wr_end | apply wc_seq | apply wc_region | (apply wc_ret; try simp only [thenE, inBlockE, bodyQ]))
    refine leave1 (v := ov) rfl rfl ⟨l', hl'.trans hp, hsort, ?_, ?_⟩
    · rw [hl'.length_eq]
      exact own_down hown6 (by omega)
    · refine (hkw4.trans hk5).trans' hk6 (fun i hi e => ?_)
      have := (hown5.lt i e).1
      omega
  · intro w5 i p hi hp hI5 hE5 hk5
    have hp' : ∃ x, K[i]? = some x ∧ p = (x.1, ptrE x.2) := by
      simp only [mapL, List.getElem?_map, Option.map_eq_some_iff] at hp
      obtain ⟨x, hx, rfl⟩ := hp
      exact ⟨x, hx, rfl⟩
    obtain ⟨x, hxi, rfl⟩ := hp'
    have hxK : x ∈ K := List.mem_of_getElem? hxi
    have hlen5 := iter_len hI5
    rw [List.length_append, hln] at hlen5
    simp only [List.length_singleton] at hlen5
    have hkw5 : Keeps NoB w w5 := Keeps.trans' hkw4 hk5 (fun j hj e => by omega)
    have hown5 := own_keep hown4 hk5 (fun k hk e => by have := (hown4.lt k hk).1; omega)
    have hsz5 := hkw5.size
    have hrs : r + 1 ≤ w5.heap.size := by have := hk4.size; have := hk5.size; omega
    (repeat first | apply wr_end | apply wc_seq | apply wc_region | apply wc_skip | apply wc_block | (apply wr_extract; (iterate 3 exact rfl); with_reducible (conv => enter [6, 3]; whnf)) | (apply wc_true; exact rfl))
    refine wr_entryM rfl rfl hE5 ?_
    (repeat first | (apply wr_alloc; exact rfl) | (apply wr_extract; (iterate 3 exact rfl); with_reducible (conv => enter [6, 3]; whnf)))
    refine wr_storeAll (cs := [.int .i64 x.1.1, S x.1.2]) rfl rfl rfl (by intro u hu; simp at hu; rcases hu with rfl | rfl <;> rfl) (heap_alloc_same _ _) rfl rfl ?_
    refine wr_name ?_
    intro w6 hw6
    obtain ⟨b6, hb6⟩ : ∃ b, b = w5.heap.size := ⟨_, rfl⟩
    have hk6 : Keeps NoB w5 w6 := by rw [hw6]; exact ((Keeps.refl NoB w5).alloc _).put _ (fun h => by omega)
    have hc6 : w6.heap[b6]? = some (.cells #[.int .i64 x.1.1, S x.1.2] 28 (0, 0)) := by rw [hw6, hb6]; exact World.putObj_heap_same (by simp)
    rw [← hb6]
    clear hw6
    have hI6 : IterAt w6 encK r kb (mapL ptrE K) (idx ++ [i]) := hI5.keep hk6 (fun h => h) (fun h => h)
    have hown6 := own_keep hown5 hk6 (fun _ _ h => h)
    have hk46 : Keeps (fun k => r ≤ k) w3 w6 := (hk4.trans (hk5.mono fun k _ e => by omega)).trans hk6.upD
    by_cases hkd : x.1.1 = kind
    · have hoi : outI K kind (idx ++ [i]) = outI K kind idx ++ [x.2.2.1] := by rw [outI_app]; simp [outI, hxi, hkd]
      have hle := outI_le (K := K) (kind := kind) (idx := idx)
      have he6 := (h.keep (hkw5.trans hk6)).ents x hxK
      (repeat first | (apply wr_move; exact rfl; with_reducible (conv => enter [6, 3]; whnf)) | (apply wr_assign; exact rfl; with_reducible (conv => enter [6, 3]; whnf)) | apply wr_end | apply wc_seq | apply wc_region | (apply wr_fieldAddr; iterate 2 exact rfl) | (apply wr_nilCheck; iterate 2 exact rfl) | (apply wr_load; (iterate 3 exact rfl); (focus repeat first | with_reducible assumption | exact heap_alloc_same _ _ | exact World.putObj_heap_same (by first | omega | (simp only [World.size_alloc, World.putObj_size, ne_eq]; omega)) | ((first | refine hAl ?_ ?_ | refine hPu ?_ ?_); focus first | omega | (simp only [World.size_alloc, World.putObj_size, ne_eq]; omega))); exact rfl; conv => enter [6, 3]; whnf) | (apply wr_cmp; (iterate 3 exact rfl); exact cmpT (by dsimp only [cmpP]; first | done | omega)) | (apply wc_true; exact rfl))
      refine wr_loadAgg (cs := GRd x.2.2.1) rfl rfl rfl rfl (fun j u h => cell_of_heap he6 (by
        have hj := (List.getElem?_eq_some_iff.1 h).1
        rw [GRd_len] at hj
        simp only [GE, Nat.zero_add, List.getElem?_toArray]
        rw [List.getElem?_append_left (by rw [GRd_len]; exact hj)]
        exact h)) ?_
      refine wr_buildSlice (vs := [RdV x.2.2.1]) rfl rfl (by intro v hv; simp at hv; subst hv; rfl) rfl (by decide) (by decide) (by decide) ?_
      refine wr_append (v := ov) (n := (outI K kind idx).length) (m := 1) (news := GRd x.2.2.1) rfl rfl (hown6.alloc _) rfl (heap_alloc_same _ _) rfl (GRd_one _) rfl (by decide) (by omega) (by omega) (by have := hk6.size; simp; omega) ?_
      intro ov' w7 hown7 hk7 _
      (repeat first | (apply wr_assign; exact rfl; with_reducible (conv => enter [6, 3]; whnf)) | (apply wr_nil; try simp only [thenE, inBlockE, bodyQ]))
      refine ⟨(idx ++ [i], ov'), by simp only [List.length_append, List.length_singleton]; omega, ⟨by trivial, ?_, ?_, ?_⟩, rfl, rfl, rfl, rfl, trivial⟩
      · have hns : ∀ q, q < r + 1 → ¬ ov.ownBlock = some q := fun q hq e => by have := (hown4.lt q e).1; omega
        exact (hI6.keep ((Keeps.refl NoB w6).alloc _) (fun h => h) (fun h => h)).keep hk7 (hns r (by omega)) (hns kb (by have := h.kept.lt; omega))
      · dsimp only
        rw [hoi, List.length_append, List.flatMap_append]
        simpa using hown7
      · refine hk46.trans ((((Keeps.refl NoB w6).alloc _).upD).trans (hk7.mono fun q _ e => ?_))
        have := (hown4.lt q e).1
        omega
    · have hoi : outI K kind (idx ++ [i]) = outI K kind idx := by rw [outI_app]; simp [outI, hxi, hkd]
      (repeat first | (apply wr_move; exact rfl; with_reducible (conv => enter [6, 3]; whnf)) | (apply wr_assign; exact rfl; with_reducible (conv => enter [6, 3]; whnf)) | apply wr_end | apply wc_seq | apply wc_region | apply wc_skip | (apply wr_fieldAddr; iterate 2 exact rfl) | (apply wr_load; (iterate 3 exact rfl); (focus repeat first | with_reducible assumption | exact heap_alloc_same _ _ | exact World.putObj_heap_same (by first | omega | (simp only [World.size_alloc, World.putObj_size, ne_eq]; omega)) | ((first | refine hAl ?_ ?_ | refine hPu ?_ ?_); focus first | omega | (simp only [World.size_alloc, World.putObj_size, ne_eq]; omega))); exact rfl; conv => enter [6, 3]; whnf) | (apply wr_cmp; (iterate 3 exact rfl); exact cmpF (by dsimp only [cmpN]; first | done | omega)) | (apply wc_false; exact rfl))
      refine ⟨(idx ++ [i], ov), by simp only [List.length_append, List.length_singleton]; omega, ⟨by trivial, hI6, ?_, hk46⟩, rfl, rfl, rfl, rfl, trivial⟩
      dsimp only
      rw [hoi]
      exact hown6
end Go.Proofs.YtafnbbehmbmchaaDoor
