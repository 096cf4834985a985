/- merge: New, Who. -/
import Derived.Test.YtajajahofkialaaGreatDoorHi
namespace Go.Proofs.YtajajahofkialaaGreatDoor
open Go Go.V Go.RowKit
set_option linter.unusedVariables false
set_option linter.unusedSimpArgs false

def Gi (wb : Nat) (cl : List Nat) (i : Nat) : List Value := .map (some wb) :: ((cl.map fun b => .map (some b)) ++ List.replicate (6 - i) (.map none))
theorem Gi_set {wb b i : Nat} {cl : List Nat} (hl : cl.length = i) (hi : i < 6) : (Gi wb cl i).toArray.setIfInBounds (0 + 1 + i * 1) (.map (some b)) = (Gi wb (cl ++ [b]) (i + 1)).toArray := by
  apply Array.toList_inj.1
  rw [Array.toList_setIfInBounds]
  show (Value.map (some wb) :: _).set _ _ = Value.map (some wb) :: _
  rw [show 0 + 1 + i * 1 = i + 1 by omega, List.set_cons_succ, List.set_append_right _ _ (by rw [List.length_map]; omega), List.length_map, hl, Nat.sub_self, show 6 - i = (6 - (i + 1)) + 1 by omega, List.replicate_succ, List.set_cons_zero, List.map_append, List.append_assoc]
  rfl
theorem Gi_get {wb i : Nat} {cl : List Nat} (hl : cl.length = i) (hi : i < 6) : (Gi wb cl i).toArray[0 + 1 + i * 1]? = some (.map none) := by
  rw [List.getElem?_toArray]
  unfold Gi
  rw [show 0 + 1 + i * 1 = i + 1 by omega, List.getElem?_cons_succ, List.getElem?_append_right (by rw [List.length_map]; omega), List.length_map, hl, Nat.sub_self, List.getElem?_replicate, if_pos (by omega)]
theorem Gi_end {wb : Nat} {cl : List Nat} : Gi wb cl 6 = GMg wb cl := by unfold Gi GMg; simp
abbrev noW : WF := fun _ => noneP
theorem cnt_no (k : Nat) (x : TT) : cntW noW k x = 0 := by
  unfold cntW
  have : (List.range 33).countP (fun id : Nat => decide (x ∈ listP (noW ((id : Int), (k : Int))))) = 0 := by
    rw [List.countP_eq_zero]
    intro a _
    simp [noneP, listP]
  rw [this]; rfl
set_option maxRecDepth 100000 in
set_option maxHeartbeats 4000000 in
theorem newM_ca (w : World) : Ca Tryz.prog 10 #[] w fun v w' => (∃ ab wb cb, v = .pointer (some ⟨ab, 0, none⟩) ∧ MgAt w' 0 ab wb cb noW ∧ w.heap.size ≤ ab ∧ w.heap.size ≤ wb ∧ ∀ b ∈ cb, w.heap.size ≤ b) ∧ Keeps NoB w w' := by
  refine ca_of_body (args := []) Tryz.func10 rfl (by kernel_rfl) ?_
  apply wc_seq
  apply wc_region
  apply wr_assign
  focus exact rfl
  apply wr_nil
  simp only [thenE]
  apply wc_seq
  apply wc_region
  refine wr_makeMap rfl ?_
  obtain ⟨wb, hwb⟩ : ∃ b, b = w.heap.size := ⟨_, rfl⟩
  refine wr_name ?_
  intro w1 hw1
  have hk1 : Keeps NoB w w1 := by rw [hw1]; exact (Keeps.refl NoB w).alloc _
  have hm1 : MapAt w1 encT wb [] := by rw [hw1, hwb]; exact MapAt.new w encT
  rw [← hwb]
  clear hw1
  refine wr_build (ps := [(0, .map (some wb))]) (cs := Gi wb [] 0) rfl rfl rfl rfl ?_
  refine wr_box (v := .agg (Gi wb [] 0).toArray) rfl rfl ?_
  refine wr_name ?_
  intro w2 hw2
  obtain ⟨ab, hab⟩ : ∃ b, b = w1.heap.size := ⟨_, rfl⟩
  have hk2 : Keeps NoB w1 w2 := by rw [hw2]; exact (Keeps.refl NoB w1).alloc _
  have hc2 : w2.heap[ab]? = some (.cells (Gi wb [] 0).toArray 76 (0, 0)) := by rw [hw2, hab]; exact heap_alloc_same _ _
  rw [← hab]
  clear hw2
  have hk02 := hk1.trans hk2
  have hm2 := hm1.keep hk2 (fun h => h)
  have hz1 := hk1.size
  have hlw := hm1.lt
  (repeat first | (apply wr_move; exact rfl; with_reducible (conv => enter [6, 3]; whnf)) | (apply wr_assign; exact rfl; with_reducible (conv => enter [6, 3]; whnf)) | apply wr_end | apply wc_seq | apply wc_region | apply wc_block)
  refine wc_loopL (α := Nat × List Nat) (fun p => [(1, .pointer (some ⟨ab, 0, none⟩)), (6, .int .i64 (p.1 : Int))])
    (fun p ds w' => ds = [] ∧ p.1 ≤ 6 ∧ p.2.length = p.1 ∧ p.2.Nodup ∧ (∀ b ∈ p.2, ab < b ∧ MapAt w' Go.V.encS b []) ∧ MapAt w' encT wb [] ∧ w'.heap[ab]? = some (.cells (Gi wb p.2 p.1).toArray 76 (0, 0)) ∧ Keeps NoB w w' ∧ ∀ b ∈ p.2, b < w'.heap.size) (fun p => 6 - p.1) (0, [])
    ⟨rfl, by decide, rfl, List.nodup_nil, (fun b hb => by cases hb), hm2, hc2, hk02, (fun b hb => by cases hb)⟩ ⟨rfl, rfl, trivial⟩ ?_
  rintro ⟨i, cl⟩ ds f0 w3 ⟨rfl, hi, hcl, hnd, hcb, hm3, hc3, hk3, hlt3⟩
  dsimp only at hi hcl hnd hcb hc3 hlt3 ⊢
  by_cases hlt : i < 6
  · (repeat first | (apply wr_move; exact rfl; with_reducible (conv => enter [6, 3]; whnf)) | (apply wr_assign; exact rfl; with_reducible (conv => enter [6, 3]; whnf)) | apply wr_end | apply wc_seq | apply wc_region | apply wc_skip | apply wc_block | (apply wr_cmp; (iterate 3 exact rfl); exact cmpT (by dsimp only [cmpP]; first | done | omega)) | (apply wc_true; exact rfl))
    refine wr_makeMap rfl ?_
    refine wr_name ?_
    intro w4 hw4
    obtain ⟨b, hb⟩ : ∃ b, b = w3.heap.size := ⟨_, rfl⟩
    have hk4 : Keeps NoB w3 w4 := by rw [hw4]; exact (Keeps.refl NoB w3).alloc _
    have hmb : MapAt w4 Go.V.encS b ([] : List (TT × Value)) := by rw [hw4, hb]; exact MapAt.new w3 Go.V.encS
    rw [← hb]
    clear hw4
    have hc4 := hk4.heap hc3 (fun h => h)
    have hla := lt_of_heap hc3
    have hlb := hmb.lt
    (repeat first | (apply wr_fieldAddr; iterate 2 exact rfl) | (apply wr_nilCheck; iterate 2 exact rfl))
    refine wr_indexArr (i := i) rfl rfl rfl hlt ?_
    refine wr_store (v := .map (some b)) (u := .map none) rfl rfl rfl rfl hc4 (Gi_get hcl hlt) ?_
    rw [Gi_set hcl hlt]
    generalize hw5 : World.putObj w4 ab _ = w5
    have hk5 : Keeps (· = ab) w4 w5 := by rw [← hw5]; exact (Keeps.refl _ w4).put _ (fun _ => rfl)
    have hc5 : w5.heap[ab]? = some (.cells (Gi wb (cl ++ [b]) (i + 1)).toArray 76 (0, 0)) := by rw [← hw5]; exact World.putObj_heap_same (lt_of_heap hc4)
    clear hw5
    have hz5 := hk5.size
    have hz4 := hk4.size
    (repeat first | (apply wr_move; exact rfl; with_reducible (conv => enter [6, 3]; whnf)) | apply wr_end | apply wc_region | (apply wr_add; (iterate 3 exact rfl); exact w_fit (by dsimp only [kIn]; first | done | omega)) | (apply wr_nil; try simp only [thenE, inBlockE, bodyQ]))
    refine ⟨(i + 1, cl ++ [b]), by dsimp only; omega, ⟨by trivial, hlt, by simp [hcl], ?_, ?_, (hm3.keep hk4 (fun h => h)).keep hk5 (fun e => by omega), hc5, (hk3.trans hk4).trans' hk5 (fun i hi e => by omega), ?_⟩, rfl, rfl, trivial⟩
    · rw [List.nodup_append]
      exact ⟨hnd, by simp, fun x hx y hy e => by simp at hy; have := hlt3 x hx; omega⟩
    · intro x hx
      rcases List.mem_append.1 hx with hx | hx
      · exact ⟨(hcb x hx).1, ((hcb x hx).2.keep hk4 (fun h => h)).keep hk5 (fun e => by have := (hcb x hx).1; omega)⟩
      · simp at hx
        subst hx
        exact ⟨by omega, hmb.keep hk5 (fun e => by omega)⟩
    · intro x hx
      rcases List.mem_append.1 hx with hx | hx
      · have := hlt3 x hx; omega
      · simp at hx; omega
  · have hie : i = 6 := by omega
    subst hie
    rw [Gi_end] at hc3
    (repeat first | (apply wr_move; exact rfl; with_reducible (conv => enter [6, 3]; whnf)) | (apply wr_assign; exact rfl; with_reducible (conv => enter [6, 3]; whnf)) | apply wr_end | apply wc_seq | apply wc_region | (apply wr_cmp; (iterate 3 exact rfl); exact cmpF (by dsimp only [cmpN]; first | done | omega)) | (apply wc_false; exact rfl) | (apply wc_exit; try simp only [thenE, inBlockE, bodyQ, ↓reduceIte, Nat.reduceEqDiff]) | (apply wc_ret; try simp only [thenE, inBlockE, bodyQ]))
    refine leave1 (v := .pointer (some ⟨ab, 0, none⟩)) rfl rfl ⟨⟨ab, wb, cl, rfl, ⟨hc3, hcl, fun k b hb => ⟨[], (hcb b (List.mem_of_getElem? hb)).2, fun x => by rw [cnt_no]; rfl⟩, ⟨[], hm3, fun t => ?_⟩, fun t => nil_fine false, fun t _ => rfl, fun t => by show (0 : Nat) ≤ _; omega, hnd, fun hm => by have := (hcb wb hm).1; omega⟩, by omega, by omega, fun b hb => by have := (hcb b hb).1; omega⟩, hk3⟩
    unfold WantV
    rw [if_pos rfl]
    rfl
end Go.Proofs.YtajajahofkialaaGreatDoor
