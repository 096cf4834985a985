/- The store in memory; New, Len, Get. -/
import Derived.Test.YtafnbbehmbmchaaDoorSa
namespace Go.Proofs.YtafnbbehmbmchaaDoor
open Go Go.V Go.RowKit
set_option linter.unusedVariables false
set_option linter.unusedSimpArgs false

/-- An entry: a resource, idle, since. -/
abbrev EN := RD × Bool × Nat
def GE (e : EN) : List Value := GRd e.1 ++ [.bool e.2.1, .int .u64 ((e.2.2 : Nat) : Int)]
/-- What is kept: key, the entry's block, the entry. -/
abbrev KL := List (KY × (Nat × EN))
def ptrE (y : Nat × EN) : Value := .pointer (some ⟨y.1, 0, none⟩)
def mapL {β : Type} (g : β → Value) (L : List (KY × β)) : List (KY × Value) := L.map fun x => (x.1, g x.2)
def putL {β : Type} (L : List (KY × β)) (k : KY) (y : β) : List (KY × β) := if k ∈ L.map (·.1) then L.map (fun p => if p.1 = k then (k, y) else p) else L ++ [(k, y)]
def delL {β : Type} (L : List (KY × β)) (k : KY) : List (KY × β) := L.filter fun p => p.1 ≠ k
def getL {β : Type} (L : List (KY × β)) (k : KY) : Option β := (L.find? (·.1 = k)).map (·.2)
theorem keys_map {β : Type} (g : β → Value) (L : List (KY × β)) : (mapL g L).map (·.1) = L.map (·.1) := by simp [mapL, Function.comp_def]
theorem putL_map {β : Type} (g : β → Value) (L : List (KY × β)) (k : KY) (y : β) : mapL g (putL L k y) = putM (mapL g L) k (g y) := by
  unfold putL putM
  rw [keys_map]
  by_cases h : k ∈ L.map (·.1)
  · rw [if_pos h, if_pos h]
    unfold mapL
    rw [List.map_map, List.map_map]
    apply List.map_congr_left
    intro p _
    by_cases hp : p.1 = k <;> simp [hp]
  · rw [if_neg h, if_neg h]
    simp [mapL]
theorem delL_map {β : Type} (g : β → Value) (L : List (KY × β)) (k : KY) : mapL g (delL L k) = delM (mapL g L) k := by
  unfold delL delM mapL
  rw [List.filter_map]
  rfl
theorem getL_map {β : Type} (g : β → Value) (L : List (KY × β)) (k : KY) : getM (mapL g L) k = (getL L k).map g := by
  unfold getM getL mapL
  rw [List.find?_map]
  simp [Function.comp_def]
theorem getL_put {β : Type} (L : List (KY × β)) (k x : KY) (y : β) : getL (putL L k y) x = if x = k then some y else getL L x := by
  unfold putL
  by_cases hn : k ∈ L.map (·.1)
  · rw [if_pos hn]
    induction L with
    | nil => simp at hn
    | cons p M ih =>
      obtain ⟨q, u⟩ := p
      by_cases hk : q = k
      · subst hk
        by_cases hx : x = q
        · subst hx; simp [getL]
        · by_cases hm : q ∈ M.map (·.1)
          · have := ih hm
            simp only [getL] at this ⊢
            rw [List.map_cons, List.find?_cons, List.find?_cons]
            simp only [if_true]
            rw [decide_eq_false (Ne.symm hx)]
            simpa [hx] using this
          · have hmap : M.map (fun p => if p.1 = q then (q, y) else p) = M := by
              conv => rhs; rw [← List.map_id M]
              apply List.map_congr_left
              intro p hp
              rw [if_neg]; rfl
              intro e
              exact hm (List.mem_map.2 ⟨p, hp, e⟩)
            rw [List.map_cons, hmap]
            simp [getL, Ne.symm hx, hx]
      · have hm : k ∈ M.map (·.1) := by
          simp only [List.map_cons, List.mem_cons] at hn
          exact hn.resolve_left (Ne.symm hk)
        have := ih hm
        by_cases hx : x = q
        · subst hx; simp [getL, hk]
        · simp only [getL] at this ⊢
          rw [List.map_cons, List.find?_cons, List.find?_cons]
          simp only [hk, if_false]
          rw [decide_eq_false (Ne.symm hx)]
          exact this
  · rw [if_neg hn]
    simp only [getL, List.find?_append]
    by_cases hx : x = k
    · subst hx
      have : L.find? (fun p => decide (p.1 = x)) = none := by
        rw [List.find?_eq_none]
        intro p hp
        simp
        intro e
        exact hn (List.mem_map.2 ⟨p, hp, e⟩)
      rw [this]; simp
    · simp [hx, Ne.symm hx]
theorem getL_mem {β : Type} {L : List (KY × β)} {k : KY} {y : β} (h : getL L k = some y) : (k, y) ∈ L := by
  unfold getL at h
  obtain ⟨p, hp, rfl⟩ := Option.map_eq_some_iff.1 h
  have h1 := List.find?_some hp
  simp at h1
  subst h1
  exact List.mem_of_find?_eq_some hp
/-- A store in memory. -/
structure St (w : World) (sb kb wb : Nat) (room : Int) (grace : Nat) (K : KL) (W : KY → Int) : Prop where
  cells : w.heap[sb]? = some (.cells #[.map (some kb), .map (some wb), .int .i64 room, .int .u64 ((grace : Nat) : Int)] 60 (0, 0))
  kept : MapAt w encK kb (mapL ptrE K)
  watch : ∃ M : List (KY × Value), MapAt w encK wb M ∧ ∀ k, (getM M k).getD (.int .i64 0) = .int .i64 (W k)
  ents : ∀ x ∈ K, w.heap[x.2.1]? = some (.cells (GE x.2.2).toArray 66 (0, 0))
  ne : kb ≠ wb
  wB : ∀ k, 0 ≤ W k ∧ W k ≤ 2147483647
theorem St.keep {w w' : World} {sb kb wb : Nat} {room : Int} {grace : Nat} {K : KL} {W : KY → Int} (h : St w sb kb wb room grace K W) (k : Keeps NoB w w') : St w' sb kb wb room grace K W := by
  obtain ⟨M, h1, h2⟩ := h.watch
  exact ⟨k.heap h.cells (fun h => h), h.kept.keep k (fun h => h), ⟨M, h1.keep k (fun h => h), h2⟩, fun x hx => k.heap (h.ents x hx) (fun h => h), h.ne, h.wB⟩
theorem map_cells {w : World} {enc : KY → Value} {b : Nat} {M : List (KY × Value)} {c : Array Value} {T : TypeId} {fr : Nat × Nat} {g : Nat} (h : MapAt w enc b M) (hg : w.heap[g]? = some (.cells c T fr)) : g ≠ b := by
  rintro rfl
  obtain ⟨es, n, hb, _⟩ := h
  rw [hb] at hg
  cases hg
theorem St.kept_upd {w w' : World} {sb kb wb : Nat} {room : Int} {grace : Nat} {K K' : KL} {W : KY → Int} (h : St w sb kb wb room grace K W) (hM : MapAt w' encK kb (mapL ptrE K')) (hk : Keeps (· = kb) w w') (hK : ∀ x ∈ K', x ∈ K) : St w' sb kb wb room grace K' W := by
  obtain ⟨M, h1, h2⟩ := h.watch
  exact ⟨hk.heap h.cells (map_cells h.kept h.cells), hM, ⟨M, h1.keep hk (fun e => h.ne e.symm), h2⟩, fun x hx => hk.heap (h.ents x (hK x hx)) (map_cells h.kept (h.ents x (hK x hx))), h.ne, h.wB⟩
theorem St.drew {w : World} {sb kb wb : Nat} {room : Int} {grace : Nat} {K : KL} {W : KY → Int} (h : St w sb kb wb room grace K W) : St w.drew sb kb wb room grace K W := h.keep (Keeps.refl NoB w).drew
def roomOf (room : Int) : Int := min (max room 1) 4096
set_option maxRecDepth 100000 in
set_option maxHeartbeats 1000000 in
theorem len_ca {sb kb wb : Nat} {room : Int} {grace : Nat} {K : KL} {W : KY → Int} {w : World} (h : St w sb kb wb room grace K W) :
    Ca Tryd.prog 15 #[.pointer (some ⟨sb, 0, none⟩)] w fun v w' => v = .int .i64 (K.length : Int) ∧ w' = w := by
  have hc := h.cells
  refine ca_of_body (args := [.pointer (some ⟨sb, 0, none⟩)]) Tryd.func15 rfl (by kernel_rfl) ?_
  (repeat first | (apply wr_move; exact rfl; with_reducible (conv => enter [6, 3]; whnf)) | (apply wr_assign; exact rfl; with_reducible (conv => enter [6, 3]; whnf)) | apply wr_end | apply wc_seq | apply wc_region | (apply wr_fieldAddr; iterate 2 exact rfl) | (apply wr_nilCheck; iterate 2 exact rfl) | (apply wr_load; (iterate 3 exact rfl); (focus repeat first | with_reducible assumption | exact heap_alloc_same _ _ | exact World.putObj_heap_same (by first | omega | (simp only [World.size_alloc, World.putObj_size, ne_eq]; omega)) | ((first | refine hAl ?_ ?_ | refine hPu ?_ ?_); focus first | omega | (simp only [World.size_alloc, World.putObj_size, ne_eq]; omega))); exact rfl; conv => enter [6, 3]; whnf))
  refine wr_len_map (l := mapL ptrE K) rfl rfl h.kept ?_
  (repeat first | (apply wr_assign; exact rfl; with_reducible (conv => enter [6, 3]; whnf)) | apply wr_end | (apply wc_ret; try simp only [thenE, inBlockE, bodyQ]))
  exact leave1 (v := .int .i64 ((mapL ptrE K).length : Int)) rfl rfl ⟨by simp [mapL], by trivial⟩
def zeroR : RD := (0, [], 0, false, [])
def gotR (o : Option (Nat × EN)) : RD := match o with
  | some y => y.2.1
  | none => zeroR
set_option maxRecDepth 100000 in
set_option maxHeartbeats 2000000 in
theorem get_ca {sb kb wb : Nat} {room : Int} {grace : Nat} {K : KL} {W : KY → Int} {w : World} (h : St w sb kb wb room grace K W) (k : KY) :
    Ca Tryd.prog 12 #[.pointer (some ⟨sb, 0, none⟩), encK k] w fun v w' => v = .tuple #[RdV (gotR (getL K k)), .bool (getL K k).isSome] ∧ Keeps NoB w w' := by
  refine ca_of_body (args := [.pointer (some ⟨sb, 0, none⟩), encK k]) Tryd.func12 rfl (by kernel_rfl) ?_
  apply wc_seq
  apply wc_region
  refine wr_box (v := .agg #[.int .i64 k.1, S k.2]) rfl rfl ?_
  refine wr_name ?_
  intro w1 hw1
  obtain ⟨b1, hb1⟩ : ∃ b1, b1 = w.heap.size := ⟨_, rfl⟩
  have hk1 : Keeps NoB w w1 := by rw [hw1]; exact (Keeps.refl NoB w).alloc _
  have hc1 : w1.heap[b1]? = some (.cells #[.int .i64 k.1, S k.2] 28 (0, 0)) := by rw [hw1, hb1]; exact heap_alloc_same _ _
  rw [← hb1]
  clear hw1
  apply wr_alloc
  focus exact rfl
  refine wr_name ?_
  intro w2 hw2
  obtain ⟨b2, hb2⟩ : ∃ b2, b2 = w1.heap.size := ⟨_, rfl⟩
  have hk2 : Keeps NoB w1 w2 := by rw [hw2]; exact (Keeps.refl NoB w1).alloc _
  have hc2 : w2.heap[b2]? = some (.cells (GRd zeroR).toArray 30 (0, 0)) := by rw [hw2, hb2]; exact heap_alloc_same _ _
  rw [← hb2]
  clear hw2
  have hkw2 := hk1.trans hk2
  have hc12 := hk2.heap hc1 (fun h => h)
  have h2 := (h.keep hkw2).drew
  have hs2 := h2.cells
  have hl2 := lt_of_heap hc2
  have hs1 := hk1.size
  (repeat first | (apply wr_assign; exact rfl; with_reducible (conv => enter [6, 3]; whnf)) | apply wr_end | apply wc_seq)
  refine wc_drawS (l := _) (S := fun w' => w' = w2.drew) (by kernel_rfl) (by kernel_rfl) rfl ?_
  repeat
    apply ch_step
    focus
      intro w' hS
      subst hS
      (repeat first | (apply wr_move; exact rfl; with_reducible (conv => enter [6, 3]; whnf)) | (apply wr_fieldAddr; iterate 2 exact rfl) | (apply wr_nilCheck; iterate 2 exact rfl) | (apply wr_load; (iterate 3 exact rfl); (focus repeat first | with_reducible assumption | exact heap_alloc_same _ _ | exact World.putObj_heap_same (by first | omega | (simp only [World.size_alloc, World.putObj_size, ne_eq]; omega)) | ((first | refine hAl ?_ ?_ | refine hPu ?_ ?_); focus first | omega | (simp only [World.size_alloc, World.putObj_size, ne_eq]; omega))); exact rfl; conv => enter [6, 3]; whnf) | (apply wr_nil; try simp only [thenE, inBlockE, bodyQ]))
      exact ⟨rfl, by trivial⟩
  apply ch_step
  focus
    intro w' hS
    subst hS
    refine wr_loadAll (cs := [.int .i64 k.1, S k.2]) rfl rfl rfl hc12 rfl ?_
    apply wr_nil
    exact ⟨rfl, rfl⟩
  apply ch_step
  focus
    intro w' hS
    subst hS
    refine wr_lookupOk (l := mapL ptrE K) (a := k) rfl rfl h2.kept rfl ?_
    apply wr_nil
    exact ⟨rfl, rfl⟩
  rw [getL_map]
  cases hg : getL K k with
  | none =>
    repeat
      apply ch_step
      focus
        intro w' hS
        subst hS
        (repeat first | (apply wr_move; exact rfl; with_reducible (conv => enter [6, 3]; whnf)) | (apply wr_assign; exact rfl; with_reducible (conv => enter [6, 3]; whnf)) | (apply wr_extract; (iterate 3 exact rfl); with_reducible (conv => enter [6, 3]; whnf)) | (apply wr_nil; try simp only [thenE, inBlockE, bodyQ]))
        exact ⟨rfl, by trivial⟩
    refine ch_nil ?_
    intro w' hS
    subst hS
    (repeat first | (apply wr_move; exact rfl; with_reducible (conv => enter [6, 3]; whnf)) | apply wr_end | apply wc_seq | apply wc_region | (apply wr_not; iterate 2 exact rfl) | (apply wc_true; exact rfl))
    refine wr_build (ps := []) (cs := GRd zeroR) rfl rfl rfl rfl ?_
    refine wr_storeAll (cs := GRd zeroR) rfl rfl rfl (GRd_one _) (show w2.drew.heap[b2]? = _ from hc2) rfl rfl ?_
    (repeat first | (apply wr_assign; exact rfl; with_reducible (conv => enter [6, 3]; whnf)) | apply wr_end | (apply wc_ret; try simp only [thenE, inBlockE, bodyQ]))
    exact leaveN (vs := [RdV zeroR, .bool false]) (resv_cells (cs := GRd zeroR) rfl rfl (World.putObj_heap_same hl2) rfl (resv_tmp rfl resv_nil)) ⟨rfl, hkw2.drew.trans' ((Keeps.refl (· = b2) w2.drew).put _ (fun _ => rfl)) (fun i hi e => by omega)⟩
  | some y =>
    have he := h2.ents (k, y) (getL_mem hg)
    repeat
      apply ch_step
      focus
        intro w' hS
        subst hS
        (repeat first | (apply wr_move; exact rfl; with_reducible (conv => enter [6, 3]; whnf)) | (apply wr_assign; exact rfl; with_reducible (conv => enter [6, 3]; whnf)) | (apply wr_extract; (iterate 3 exact rfl); with_reducible (conv => enter [6, 3]; whnf)) | (apply wr_nil; try simp only [thenE, inBlockE, bodyQ]))
        exact ⟨rfl, by trivial⟩
    refine ch_nil ?_
    intro w' hS
    subst hS
    (repeat first | (apply wr_move; exact rfl; with_reducible (conv => enter [6, 3]; whnf)) | apply wr_end | apply wc_seq | apply wc_region | apply wc_skip | (apply wr_fieldAddr; iterate 2 exact rfl) | (apply wr_not; iterate 2 exact rfl) | (apply wr_nilCheck; iterate 2 exact rfl) | (apply wc_false; exact rfl))
    refine wr_loadAgg (cs := GRd y.2.1) rfl rfl rfl rfl (fun j u h => cell_of_heap he (by
      have hj := (List.getElem?_eq_some_iff.1 h).1
      rw [GRd_len] at hj
      simp only [GE, Nat.zero_add, List.getElem?_toArray]
      rw [List.getElem?_append_left (by rw [GRd_len]; exact hj)]
      exact h)) ?_
    refine wr_storeAll (cs := GRd y.2.1) rfl rfl rfl (GRd_one _) (show w2.drew.heap[b2]? = _ from hc2) rfl rfl ?_
    (repeat first | (apply wr_assign; exact rfl; with_reducible (conv => enter [6, 3]; whnf)) | apply wr_end | (apply wc_ret; try simp only [thenE, inBlockE, bodyQ]))
    exact leaveN (vs := [RdV y.2.1, .bool true]) (resv_cells (cs := GRd y.2.1) rfl rfl (World.putObj_heap_same hl2) rfl (resv_tmp rfl resv_nil)) ⟨rfl, hkw2.drew.trans' ((Keeps.refl (· = b2) w2.drew).put _ (fun _ => rfl)) (fun i hi e => by omega)⟩
end Go.Proofs.YtafnbbehmbmchaaDoor
