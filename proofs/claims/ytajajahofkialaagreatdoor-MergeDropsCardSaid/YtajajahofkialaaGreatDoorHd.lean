/- The merge in memory: Union. -/
import Derived.Test.YtajajahofkialaaGreatDoorHc
namespace Go.Proofs.YtajajahofkialaaGreatDoor
open Go Go.V Go.RowKit
set_option linter.unusedVariables false
set_option linter.unusedSimpArgs false

theorem keysM_ca (mb : Nat) (w : World) : Ca Tryz.prog 47 #[.map (some mb)] w fun v w' => (∃ bm T, v = .func (.func 70) #[] #[.pointer (some ⟨bm, 0, none⟩)] ∧ w'.heap[bm]? = some (.cells #[.map (some mb)] T (0, 0))) ∧ Keeps NoB w w' := by
  refine ca_of_body (args := [.map (some mb)]) Tryz.func47 rfl (by kernel_rfl) ?_
  apply wc_seq
  apply wc_region
  refine wr_box (v := .map (some mb)) rfl rfl ?_
  refine wr_name ?_
  intro w1 hw1
  have hk1 : Keeps NoB w w1 := by rw [hw1]; exact (Keeps.refl NoB w).alloc _
  have hc1 : ∃ T, w1.heap[w.heap.size]? = some (.cells #[.map (some mb)] T (0, 0)) := by rw [hw1]; exact ⟨_, heap_alloc_same _ _⟩
  obtain ⟨T, hc1⟩ := hc1
  clear hw1
  (repeat first | (apply wr_assign; exact rfl; with_reducible (conv => enter [6, 3]; whnf)) | apply wr_end | apply wc_seq | apply wc_region)
  refine wr_makeFunc (v1 := []) (v2 := [.pointer (some ⟨w.heap.size, 0, none⟩)]) rfl rfl rfl ?_
  (repeat first | (apply wr_assign; exact rfl; with_reducible (conv => enter [6, 3]; whnf)) | apply wr_end | (apply wc_ret; try simp only [thenE, inBlockE, bodyQ]))
  exact leave1 (v := .func (.func 70) #[] #[.pointer (some ⟨w.heap.size, 0, none⟩)]) rfl rfl ⟨⟨_, T, rfl, hc1⟩, hk1⟩
theorem collect_ca {bm mb : Nat} {T : TypeId} {C : List (TT × Value)} {w : World} (hbm : w.heap[bm]? = some (.cells #[.map (some mb)] T (0, 0))) (hC : MapAt w Go.V.encS mb C) (hCl : C.length ≤ 8796093000000) :
    Ca Tryz.prog 46 #[.func (.func 70) #[] #[.pointer (some ⟨bm, 0, none⟩)]] w fun v w' => (∃ acc, (∀ x, x ∈ acc ↔ x ∈ C.map (·.1)) ∧ acc.length ≤ C.length ∧ w'.ownsRow w.heap.size 9 1 v acc.length (SL acc)) ∧ Keeps NoB w w' := by
  refine ca_of_body (args := [.func (.func 70) #[] #[.pointer (some ⟨bm, 0, none⟩)]]) Tryz.func46 rfl (by kernel_rfl) ?_
  (repeat first | (apply wr_move; exact rfl; with_reducible (conv => enter [6, 3]; whnf)) | (apply wr_assign; exact rfl; with_reducible (conv => enter [6, 3]; whnf)) | apply wr_end | apply wc_seq | apply wc_region)
  refine wr_call (vs := [.slice none 0 0, .func (.func 70) #[] #[.pointer (some ⟨bm, 0, none⟩)]]) rfl (appendSeq_ca hbm hC hCl) rfl ?_
  rintro v w1 ⟨h, hk⟩
  (repeat first | (apply wr_assign; exact rfl; with_reducible (conv => enter [6, 3]; whnf)) | apply wr_end | (apply wc_ret; try simp only [thenE, inBlockE, bodyQ]))
  exact leave1 (v := v) rfl rfl ⟨h, hk⟩

/-! ### What all want -/
abbrev WF := TY → PS
def noneP : PS := (false, [])
def inDom (t : TY) : Prop := 1 ≤ t.1 ∧ t.1 ≤ 32 ∧ 1 ≤ t.2 ∧ t.2 ≤ 5
instance (t : TY) : Decidable (inDom t) := by unfold inDom; infer_instance
def updW (Wn : WF) (t : TY) (s : PS) : WF := fun u => if u = t then s else Wn u
/-- By how many a name of a type is wanted. -/
def cntW (Wn : WF) (k : Nat) (x : TT) : Int := (((List.range 33).countP fun id : Nat => decide (x ∈ listP (Wn ((id : Int), (k : Int)))) : Nat) : Int)
theorem countP_one (p q : Nat → Bool) (i : Nat) : ∀ l : List Nat, l.Nodup → (∀ j ∈ l, j ≠ i → p j = q j) → ((l.countP q : Nat) : Int) = (l.countP p : Nat) + (if i ∈ l then (if q i = true then 1 else 0) - (if p i = true then 1 else 0) else 0)
  | [], _, _ => by simp
  | a :: l, hn, h => by
    obtain ⟨h1, h2⟩ := List.nodup_cons.1 hn
    have ih := countP_one p q i l h2 (fun j hj => h j (List.mem_cons_of_mem _ hj))
    rw [List.countP_cons, List.countP_cons]
    by_cases hai : a = i
    · subst hai
      rw [if_neg h1] at ih
      rw [if_pos List.mem_cons_self]
      split <;> split <;> omega
    · have e := h a List.mem_cons_self hai
      rw [e]
      generalize (if q a = true then 1 else 0) = t
      by_cases hil : i ∈ l
      · rw [if_pos hil] at ih
        rw [if_pos (show i ∈ a :: l from List.mem_cons_of_mem _ hil)]
        omega
      · rw [if_neg hil] at ih
        rw [if_neg (show ¬ i ∈ a :: l from fun hm => by rcases List.mem_cons.1 hm with hm | hm; exact hai hm.symm; exact hil hm)]
        omega
theorem cntW_upd {Wn : WF} {t : TY} (hd : inDom t) (s : PS) {k : Nat} (hk : (k : Int) = t.2) (x : TT) : cntW (updW Wn t s) k x = cntW Wn k x + (if x ∈ listP (Wn t) then -1 else 0) + (if x ∈ listP s then 1 else 0) := by
  obtain ⟨n, hn⟩ := Int.eq_ofNat_of_zero_le (show 0 ≤ t.1 by have := hd.1; omega)
  have htn : ((n : Int), (k : Int)) = t := Prod.ext hn.symm hk
  have h := countP_one (fun id : Nat => decide (x ∈ listP (Wn ((id : Int), (k : Int))))) (fun id : Nat => decide (x ∈ listP (updW Wn t s ((id : Int), (k : Int))))) n (List.range 33) List.nodup_range (fun j _ hj => by
    have : ((j : Int), (k : Int)) ≠ t := fun e => hj (by rw [← htn] at e; have h2 : (j : Int) = (n : Int) := congrArg Prod.fst e; omega)
    unfold updW
    rw [if_neg this])
  rw [if_pos (List.mem_range.2 (by have := hd.2.1; omega))] at h
  unfold cntW
  rw [h, htn]
  have hu : updW Wn t s t = s := by unfold updW; rw [if_pos rfl]
  rw [hu]
  by_cases h1 : x ∈ listP (Wn t) <;> by_cases h2 : x ∈ listP s <;> simp [h1, h2] <;> omega
theorem cntW_other {Wn : WF} {t : TY} (s : PS) {k : Nat} (hk : (k : Int) ≠ t.2) : cntW (updW Wn t s) k = cntW Wn k := by
  funext x
  unfold cntW
  congr 2
  funext id
  unfold updW
  rw [if_neg (fun e => hk (by rw [← e]))]
theorem cntW_bound (Wn : WF) (k : Nat) (x : TT) : 0 ≤ cntW Wn k x ∧ cntW Wn k x ≤ 33 := by
  unfold cntW
  have := List.countP_le_length (p := fun id : Nat => decide (x ∈ listP (Wn ((id : Int), (k : Int))))) (l := List.range 33)
  rw [List.length_range] at this
  omega
/-- Who is counted, in a row. -/
def allL (Wn : WF) (k : Nat) : TX := (List.range 33).flatMap fun id : Nat => listP (Wn ((id : Int), (k : Int)))
theorem cntW_pos {Wn : WF} {k : Nat} {x : TT} : cntW Wn k x ≠ 0 ↔ x ∈ allL Wn k := by
  unfold cntW allL
  rw [List.mem_flatMap]
  have h : (List.range 33).countP (fun id : Nat => decide (x ∈ listP (Wn ((id : Int), (k : Int))))) ≠ 0 ↔ ∃ a, a ∈ List.range 33 ∧ x ∈ listP (Wn ((a : Int), (k : Int))) := by
    rw [ne_eq, List.countP_eq_zero]
    constructor
    · intro h
      refine Classical.byContradiction fun hn => h fun a ha => ?_
      simp only [decide_eq_true_eq]
      exact fun hx => hn ⟨a, ha, hx⟩
    · rintro ⟨a, ha, hx⟩ h
      exact h a ha (by simpa using hx)
  constructor
  · intro h1
    exact h.1 (fun e => h1 (by rw [e]; rfl))
  · intro h1 h2
    exact h.2 h1 (by exact_mod_cast h2)
def small (Wn : WF) : Prop := ∀ t, (Wn t).2.length ≤ 100000
theorem flat_bound {β : Type} (g : β → TX) (n : Nat) : ∀ l : List β, (∀ x ∈ l, (g x).length ≤ n) → (l.flatMap g).length ≤ l.length * n
  | [], _ => by simp
  | a :: l, h => by
    rw [List.flatMap_cons, List.length_append, List.length_cons, Nat.add_mul, Nat.one_mul]
    have h1 := h a List.mem_cons_self
    have h2 := flat_bound g n l (fun x hx => h x (List.mem_cons_of_mem _ hx))
    omega
theorem allL_len {Wn : WF} (hs : small Wn) (k : Nat) : (allL Wn k).length ≤ 3400000 := by
  have := flat_bound (fun id : Nat => listP (Wn ((id : Int), (k : Int)))) 100001 (List.range 33) (fun x _ => by have := listP_le (Wn ((x : Int), (k : Int))); have := hs ((x : Int), (k : Int)); omega)
  rw [List.length_range] at this
  unfold allL
  omega
/-- What all want of a type. -/
def unionK (Wn : WF) (k : Nat) : PS := ofP (allL Wn k)
theorem ofP_congr {a b : TX} (h : ∀ x, x ∈ a ↔ x ∈ b) : ofP a = ofP b := by
  refine fine_ext (ofP_fine _) (ofP_fine _) ?_ fun x => ?_
  · show decide (star ∈ a) = decide (star ∈ b)
    rw [decide_eq_decide.2 (h star)]
  · rw [mem_ofP, mem_ofP, h]
/-- What is kept under a key: nothing, if nothing is wanted. -/
def WantV (w : World) (n0 : Nat) (s : PS) (o : Option Value) : Prop := if s = noneP then o = none else ∃ v, o = some (SetV s.1 v) ∧ w.ownsRow n0 9 1 v s.2.length (SL s.2)
structure MgAt (w : World) (n0 ab wb : Nat) (cb : List Nat) (Wn : WF) : Prop where
  cells : w.heap[ab]? = some (.cells (GMg wb cb).toArray 76 (0, 0))
  len : cb.length = 6
  cnt : ∀ k b, cb[k]? = some b → CntAt w b (cntW Wn k)
  want : ∃ M : List (TY × Value), MapAt w encT wb M ∧ ∀ t, WantV w n0 (Wn t) (getM M t)
  fine : ∀ t, Fine (Wn t)
  dom : ∀ t, ¬ inDom t → Wn t = noneP
  small : small Wn
  nd : cb.Nodup
  nw : wb ∉ cb
theorem WantV.keep {D : Nat → Prop} {w w' : World} {n0 : Nat} {s : PS} {o : Option Value} (h : WantV w n0 s o) (k : Keeps D w w') (hD : ∀ q, D q → ∀ cs, w.heap[q]? ≠ some (.cells cs 9 (0, 0))) : WantV w' n0 s o := by
  unfold WantV at h ⊢
  split
  · rename_i e; rw [if_pos e] at h; exact h
  · rename_i e
    rw [if_neg e] at h
    obtain ⟨v, h1, h2⟩ := h
    refine ⟨v, h1, own_keep h2 k fun q hq hd => ?_⟩
    rcases h2.2 with ⟨rfl, _⟩ | ⟨g, cap, cur, rfl, _, hg, _⟩
    · cases hq
    · simp [Value.ownBlock] at hq
      subst hq
      exact hD _ hd cur hg
/-- What leaves the merge's blocks, and rows of texts, leaves it. -/
theorem MgAt.keep {D : Nat → Prop} {w w' : World} {n0 ab wb : Nat} {cb : List Nat} {Wn : WF} (h : MgAt w n0 ab wb cb Wn) (k : Keeps D w w') (hab : ¬ D ab) (hwb : ¬ D wb) (hcb : ∀ b ∈ cb, ¬ D b) (hD : ∀ q, D q → ∀ cs, w.heap[q]? ≠ some (.cells cs 9 (0, 0))) : MgAt w' n0 ab wb cb Wn := by
  obtain ⟨M, h1, h2⟩ := h.want
  exact ⟨k.heap h.cells hab, h.len, fun i b hb => (h.cnt i b hb).keep k (hcb b (List.mem_of_getElem? hb)), ⟨M, h1.keep k hwb, fun t => (h2 t).keep k hD⟩, h.fine, h.dom, h.small, h.nd, h.nw⟩
theorem MgAt.keepN {w w' : World} {n0 ab wb : Nat} {cb : List Nat} {Wn : WF} (h : MgAt w n0 ab wb cb Wn) (k : Keeps NoB w w') : MgAt w' n0 ab wb cb Wn := h.keep k (fun h => h) (fun h => h) (fun _ _ h => h) (fun _ h => h.elim)
theorem MgAt.name {w : World} {n0 ab wb : Nat} {cb : List Nat} {Wn : WF} (h : MgAt w n0 ab wb cb Wn) {k : Nat} {x : TT} (hx : x ∈ allL Wn k) : x.length ≤ 9223372036854775807 := by
  unfold allL at hx
  rw [List.mem_flatMap] at hx
  obtain ⟨i, _, hx⟩ := hx
  exact listP_ok (h.fine _) x hx
set_option maxRecDepth 100000 in
set_option maxHeartbeats 4000000 in
theorem unionM_ca {w : World} {n0 ab wb : Nat} {cb : List Nat} {Wn : WF} (h : MgAt w n0 ab wb cb Wn) (k : Nat) (hk1 : 1 ≤ k) (hk5 : k ≤ 5) :
    Ca Tryz.prog 18 #[.pointer (some ⟨ab, 0, none⟩), .int .i64 (k : Int)] w fun v w' => SetO w' w.heap.size (unionK Wn k) v ∧ Keeps NoB w w' := by
  refine ca_of_body (args := [.pointer (some ⟨ab, 0, none⟩), .int .i64 (k : Int)]) Tryz.func18 rfl (by kernel_rfl) ?_
  apply wc_seq
  apply wc_region
  apply wr_alloc
  focus exact rfl
  refine wr_name ?_
  intro w1 hww1
  obtain ⟨bw1, hbw1⟩ : ∃ b, b = (w).heap.size := ⟨_, rfl⟩
  have hkw1 : Keeps NoB w w1 := by rw [hww1]; exact (Keeps.refl NoB w).alloc _
  have hcw1 : (w1).heap[bw1]? = some (.cells ([.bool false, nilV]).toArray 41 (0, 0)) := by rw [hww1, hbw1]; exact heap_alloc_same _ _
  rw [← hbw1]
  clear hww1
  obtain ⟨b, hb⟩ : ∃ b, cb[k]? = some b := ⟨cb[k]'(by rw [h.len]; omega), by simp [h.len, show k < 6 by omega]⟩
  have hc1 := hkw1.heap h.cells (fun h => h)
  obtain ⟨C, hC, hCg⟩ := (h.cnt k b hb).keep hkw1 (fun h => h)
  have hcellb : (GMg wb cb).toArray[0 + 1 + k * 1]? = some (.map (some b)) := by rw [Nat.zero_add, Nat.mul_one]; exact GMg_get hb
  have hmem : ∀ x, x ∈ C.map (·.1) ↔ x ∈ allL Wn k := fun x => by
    rw [← cntW_pos]
    have hg := hCg x
    constructor
    · intro hm hz
      rw [if_pos hz] at hg
      unfold getM at hg
      rw [Option.map_eq_none_iff, List.find?_eq_none] at hg
      obtain ⟨p, hp, rfl⟩ := List.mem_map.1 hm
      exact hg p hp (by simp)
    · intro hz
      rw [if_neg hz] at hg
      unfold getM at hg
      obtain ⟨p, hp, _⟩ := Option.map_eq_some_iff.1 hg
      have h1 := List.find?_some hp
      simp at h1
      exact List.mem_map.2 ⟨p, List.mem_of_find?_eq_some hp, h1⟩
  have hCl : C.length ≤ 3400000 := by
    obtain ⟨es, cl, _, _, hn, _⟩ := hC
    have := nodup_len _ _ hn (fun x hx => (hmem x).1 hx)
    rw [List.length_map] at this
    have := allL_len h.small k
    omega
  (repeat first | (apply wr_move; exact rfl; with_reducible (conv => enter [6, 3]; whnf)) | apply wr_end | apply wc_seq | apply wc_region | apply wc_skip | (apply wr_fieldAddr; iterate 2 exact rfl) | (apply wr_nilCheck; iterate 2 exact rfl) | (apply wr_cmp; (iterate 3 exact rfl); exact cmpF (by dsimp only [cmpN]; first | done | omega)) | (apply wr_pick (t := false); (iterate 2 exact rfl); with_reducible (conv => enter [6, 3]; whnf)) | (apply wc_false; exact rfl))
  refine wr_indexArr (i := k) rfl rfl rfl (by omega) ?_
  refine wr_load (v := .map (some b)) rfl rfl rfl hc1 hcellb ?_
  refine wr_call (vs := [.map (some b)]) rfl (keysM_ca b w1) rfl ?_
  rintro v w2 ⟨⟨bm, T, rfl, hbm⟩, hk2⟩
  refine wr_call (vs := [.func (.func 70) #[] #[.pointer (some ⟨bm, 0, none⟩)]]) rfl (collect_ca hbm (hC.keep hk2 (fun h => h)) (by omega)) rfl ?_
  rintro v w3 ⟨⟨acc, hacc, hlen, hrow⟩, hk3⟩
  have hall : ∀ x, x ∈ acc ↔ x ∈ allL Wn k := fun x => (hacc x).trans (hmem x)
  refine wr_call (vs := [v]) rfl (ofO_ca acc v w3 (SlR.of_own hrow) (by omega) (fun x hx => h.name ((hall x).1 hx))) rfl ?_
  rintro sv w4 ⟨⟨nv, rfl, hnv⟩, hk4⟩
  rw [show ofP acc = unionK Wn k from ofP_congr hall] at hnv ⊢
  have hk14 := (hk2.trans hk3).trans hk4
  have hc4 := hk14.heap hcw1 (fun h => h)
  have hz1 := hkw1.size
  have hz3 := (hk2.trans hk3).size
  refine wr_storeAll (cs := [.bool (unionK Wn k).1, nv]) rfl rfl rfl (by intro u hu; simp at hu; rcases hu with rfl | rfl; rfl; exact own_one hnv) hc4 rfl rfl ?_
  (repeat first | apply wr_end | (apply wc_ret; try simp only [thenE, inBlockE, bodyQ]))
  have hl1 := lt_of_heap hcw1
  exact leaveN (vs := [SetV (unionK Wn k).1 nv]) (resv_cells (cs := [.bool (unionK Wn k).1, nv]) (e := 41) (fr := (0, 0)) rfl rfl (World.putObj_heap_same (lt_of_heap hc4)) rfl resv_nil) ⟨⟨nv, rfl, own_down (own_keep hnv ((Keeps.refl (· = bw1) w4).put _ (fun _ => rfl)) (fun q hq e => by have := V.F.own_geF hnv hq; omega)) (by omega)⟩, (hkw1.trans hk14).trans' ((Keeps.refl (· = bw1) w4).put _ (fun _ => rfl)) (fun i hi e => by omega)⟩
end Go.Proofs.YtajajahofkialaaGreatDoor
