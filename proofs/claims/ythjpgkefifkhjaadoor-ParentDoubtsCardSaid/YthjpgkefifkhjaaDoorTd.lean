/- choose: a node takes the first of its candidates that is up and is not doubted. -/
import Derived.Test.YthjpgkefifkhjaaDoorTc
namespace Go.Proofs.YthjpgkefifkhjaaDoor
open Go Go.V Go.RowKit
set_option linter.unusedVariables false
set_option linter.unusedSimpArgs false

def okC (T : List ND) (n : ND) (c : Int) : Bool := upT T c && !decide (c ∈ n.doubt)
def chooseN (T : List ND) (n : ND) : ND := { n with par := if n.up = true then ((n.cands.find? (okC T n)).getD 0) else 0 }
def chooseT (T : List ND) (i : Nat) : List ND := T.set i (chooseN T (T.getD i ndZ))
theorem inT_set {T : List ND} {i : Nat} {n : ND} {c : Int} : inT (T.set i n) c ↔ inT T c := by unfold inT; rw [List.length_set]
theorem upT_set {T : List ND} {i : Nat} {n n' : ND} (hn : T[i]? = some n) (hu : n'.up = n.up) (c : Int) : upT (T.set i n') c = upT T c := by
  unfold upT
  by_cases hc : inT T c
  · rw [if_pos (inT_set.2 hc), if_pos hc]
    unfold ndAt
    by_cases hi : i = c.toNat
    · subst hi
      have hlt := (List.getElem?_eq_some_iff.1 hn).1
      simp [List.getD_eq_getElem?_getD, List.getElem?_set_self hlt, hn, hu]
    · simp [List.getD_eq_getElem?_getD, List.getElem?_set_ne hi]
  · rw [if_neg (fun h => hc (inT_set.1 h)), if_neg hc]
theorem find_first {α : Type} {p : α → Bool} {l : List α} {j : Nat} {c : α} (hj : l[j]? = some c) (hp : p c = true) (hno : ∀ (i : Nat) (x : α), i < j → l[i]? = some x → p x = false) : l.find? p = some c := by
  induction l generalizing j with
  | nil => simp at hj
  | cons y l ih =>
    rw [List.find?_cons]
    cases j with
    | zero => simp at hj; subst hj; rw [hp]
    | succ j =>
      rw [hno 0 y (by omega) rfl]
      exact ih (by simpa using hj) (fun i x hi hx => hno (i + 1) x (by omega) (by simpa using hx))
theorem find_nothing {α : Type} {p : α → Bool} {l : List α} (hno : ∀ (i : Nat) (x : α), l[i]? = some x → p x = false) : l.find? p = none := by
  rw [List.find?_eq_none]
  intro x hx
  obtain ⟨i, hi⟩ := List.getElem?_of_mem hx
  rw [hno i x hi]; simp
/-- What of a tree is so always. -/
def WFT (T : List ND) (X : List NL) : Prop := ∀ (i : Nat) (n : ND) (x : NL), T[i]? = some n → X[i]? = some x → n.cands.length ≤ 1000 ∧ (∀ c ∈ n.cands, inT T c) ∧ (i ≠ 0 → x.db ≠ none) ∧ (i = 0 → n.cands = [])
set_option maxRecDepth 100000 in
set_option maxHeartbeats 2000000 in
theorem choose_ca {tb lb cap : Nat} {T : List ND} {X : List NL} {i : Nat} {n : ND} {x : NL} (w : World) (h : TreeAt w tb lb cap T X) (hwf : WFT T X) (hn : T[i]? = some n) (hx : X[i]? = some x) :
    Ca Tryd.prog 22 #[.pointer (some ⟨tb, 0, none⟩), .pointer (some ⟨x.blk, 0, none⟩)] w fun v w' => v = .tuple #[] ∧ TreeAt w' tb lb cap (T.set i (chooseN T n)) X ∧ Keeps (· = x.blk) w w' := by
  obtain ⟨hcl, hcin, hcdb', hc0⟩ := hwf i n x hn hx
  have hcdb : n.cands ≠ [] → x.db ≠ none := fun h => hcdb' (fun h0 => h (hc0 h0))
  refine ca_of_body (args := [.pointer (some ⟨tb, 0, none⟩), .pointer (some ⟨x.blk, 0, none⟩)]) Tryd.func22 rfl (by kernel_rfl) ?_
  apply wc_seq
  apply wc_region
  refine wr_box (v := .pointer (some ⟨tb, 0, none⟩)) rfl rfl ?_
  refine wr_box (v := .pointer (some ⟨x.blk, 0, none⟩)) rfl rfl ?_
  obtain ⟨w1, hw1⟩ : ∃ w1, w1 = (w.alloc (.cells (Value.pointer (some ⟨tb, 0, none⟩)).cells 27)).alloc (.cells (Value.pointer (some ⟨x.blk, 0, none⟩)).cells 53) := ⟨_, rfl⟩
  have hk1 : Keeps NoB w w1 := by rw [hw1]; exact ((Keeps.refl NoB w).alloc _).alloc _
  obtain ⟨xn, hxn⟩ : ∃ xn, xn = (w.alloc (.cells (Value.pointer (some ⟨tb, 0, none⟩)).cells 27)).heap.size := ⟨_, rfl⟩
  have hp1 : w1.heap[xn]? = some (.cells #[.pointer (some ⟨x.blk, 0, none⟩)] 53 (0, 0)) := by rw [hw1, hxn]; exact heap_alloc_same _ _
  obtain ⟨xt, hxt⟩ : ∃ xt, xt = w.heap.size := ⟨_, rfl⟩
  have ht1 : w1.heap[xt]? = some (.cells #[.pointer (some ⟨tb, 0, none⟩)] 27 (0, 0)) := by
    rw [hw1, hxt, heap_alloc_ne _ _ (by simp only [World.size_alloc]; omega)]; exact heap_alloc_same _ _
  rw [← hw1, ← hxn, ← hxt]
  rw [World.size_alloc] at hxn
  clear hw1
  have hN := h.node i n x hn hx
  have hbw := lt_of_heap hN.cells
  have h1 := h.kin hk1
  have hN1 := h1.node i n x hn hx
  have hc1 := hN1.cells
  apply wr_end
  apply wc_seq
  apply wc_region
  refine wr_load (v := .pointer (some ⟨x.blk, 0, none⟩)) rfl rfl rfl hp1 rfl ?_
  apply wr_nilCheck
  exact rfl
  exact rfl
  refine wr_fieldAddr rfl rfl ?_
  refine wr_store (v := .int .i64 0) rfl rfl rfl rfl hc1 rfl ?_
  obtain ⟨w2, hw2⟩ : ∃ w2, w2 = w1.putObj x.blk (.cells ((ndC n x).toArray.setIfInBounds (0 + 3) (.int .i64 0)) 56 (0, 0)) := ⟨_, rfl⟩
  have hk2 : Keeps (· = x.blk) w1 w2 := by rw [hw2]; exact (Keeps.refl _ _).put _ (fun _ => rfl)
  have hc2 : w2.heap[x.blk]? = some (.cells (ndC { n with par := 0 } x).toArray 56 (0, 0)) := by rw [hw2]; exact World.putObj_heap_same (lt_of_heap hc1)
  rw [← hw2]
  clear hw2
  have hxm := List.mem_of_getElem? hx
  have A := h.apart
  have hN2 : NodeAt w2 { n with par := 0 } x := ⟨hc2, hN1.cands.keep hk2 (fun b hb e => (A.cv x hxm x hxm b hb).1 e), by
    have hd := hN1.doubt
    cases hdb : x.db with
    | none => rw [hdb] at hd; exact hd
    | some b => rw [hdb] at hd; exact MetAt.keep hd hk2 (fun e => A.bd x hxm x hxm (by rw [hdb, e]))⟩
  have h2 := h1.upd hx (hk2.mono (fun b _ e => .inl e.symm)) hN2
  have hp2 := hk2.heap hp1 (fun e => by omega)
  have ht2 := hk2.heap ht1 (fun e => by omega)
  have hn2 : (T.set i { n with par := 0 })[i]? = some { n with par := 0 } := List.getElem?_set_self (List.getElem?_eq_some_iff.1 hn).1
  have hup : ∀ c, upT (T.set i { n with par := 0 }) c = upT T c := upT_set hn rfl
  have hkw2 : Keeps (· = x.blk) w w2 := (hk1.upD).trans hk2
  obtain ⟨ac, cc, hcv, hcc, hatc⟩ := slr_ints hN2.cands
  dsimp only at hcv hcc hatc
  apply wr_end
  apply wc_seq
  apply wc_region
  refine wr_load (v := .pointer (some ⟨x.blk, 0, none⟩)) rfl rfl rfl hp2 rfl ?_
  apply wr_nilCheck
  exact rfl
  exact rfl
  refine wr_fieldAddr rfl rfl ?_
  refine wr_fieldAddr rfl rfl ?_
  refine wr_load (v := x.cv) rfl rfl rfl hc2 rfl ?_
  refine wr_makeFunc (v1 := []) (v2 := [.pointer (some ⟨xt, 0, none⟩), .pointer (some ⟨xn, 0, none⟩)]) rfl rfl rfl ?_
  refine wr_call (vs := [x.cv, .func (.func 36) #[] #[.pointer (some ⟨xt, 0, none⟩), .pointer (some ⟨xn, 0, none⟩)]]) rfl
    (indexFuncI_ca n.cands _ x.cv (fun j w' => w' = w2 ∧ ∀ (k : Nat) (c : Int), k < j → n.cands[k]? = some c → okC T n c = false) (fun j w' => w' = w2 ∧ (∀ (k : Nat) (c : Int), k < j → n.cands[k]? = some c → okC T n c = false) ∧ ∃ c, n.cands[j]? = some c ∧ okC T n c = true) w2 (by omega) ⟨rfl, fun k c hk => by omega⟩ (fun j w' hj => by rw [hj.1]; exact hN2.cands) ?_) rfl ?_
  · rintro j c w' hc ⟨rfl, hno⟩
    have hmem := List.mem_of_getElem? hc
    cases hdb : x.db with
    | none => exact absurd hdb (hcdb (fun e => by rw [e] at hmem; cases hmem))
    | some b =>
      have hin := hcin c hmem
      refine (callV_of (args := [.int .i64 c]) (by kernel_rfl) (chooseIn_ca (i := i) (b := b) c (by unfold inT at hin ⊢; rw [List.length_set]; exact hin) xt xn w' h2 hn2 hx hdb ht2 hp2)).mono ?_
      rintro v w'' ⟨rfl, rfl⟩
      rw [hup]
      cases ho : okC T n c with
      | true => exact ⟨true, by rw [← ho]; rfl, .inl ⟨rfl, rfl, hno, c, hc, ho⟩⟩
      | false =>
        refine ⟨false, by rw [← ho]; rfl, .inr ⟨rfl, rfl, fun k c' hk hc' => ?_⟩⟩
        by_cases hkj : k = j
        · subst hkj; rw [hc] at hc'; cases hc'; exact ho
        · exact hno k c' (by omega) hc'
  · have hc2' : w2.heap[x.blk]? = some (.cells #[.int .i64 n.depth, x.cv, .bool n.up, .int .i64 0, .map x.db] 56 (0, 0)) := hc2
    have hsame : ∀ m : ND, m = { n with par := 0 } → TreeAt w2 tb lb cap (T.set i m) X := fun m hm => by rw [hm]; exact h2
    rintro v w3 (⟨j, rfl, hj, rfl, hno, c, hc, ho⟩ | ⟨rfl, rfl, hno⟩)
    · have hfind := find_first hc ho hno
      cases hu : n.up with
      | false =>
        rw [hu] at hc2'
        (repeat first | (apply wr_move; exact rfl; with_reducible (conv => enter [6, 3]; whnf)) | (apply wr_assign; exact rfl; with_reducible (conv => enter [6, 3]; whnf)) | apply wr_end | apply wc_seq | apply wc_region | apply wc_skip | (apply wr_fieldAddr; iterate 2 exact rfl) | (apply wr_nilCheck; iterate 2 exact rfl) | (apply wr_load; (iterate 3 exact rfl); (focus repeat first | with_reducible assumption | exact heap_alloc_same _ _ | exact World.putObj_heap_same (by first | omega | (simp only [World.size_alloc, World.putObj_size, ne_eq]; omega)) | ((first | refine hAl ?_ ?_ | refine hPu ?_ ?_); focus first | omega | (simp only [World.size_alloc, World.putObj_size, ne_eq]; omega))); exact rfl; conv => enter [6, 3]; whnf) | (apply wr_pick (t := false); (iterate 2 exact rfl); with_reducible (conv => enter [6, 3]; whnf)) | (apply wc_false; exact rfl) | (apply wr_skip; exact rfl))
        try unfold bodyQ
        exact leave0 rfl ⟨rfl, hsame _ (by unfold chooseN; rw [hu]; rfl), hkw2⟩
      | true =>
        rw [hu] at hc2'
        obtain ⟨b, o, rfl, cur, e, fr, hb, hr⟩ := hatc (by omega)
        have hv := hr j c hc
        (repeat first | (apply wr_move; exact rfl; with_reducible (conv => enter [6, 3]; whnf)) | (apply wr_assign; exact rfl; with_reducible (conv => enter [6, 3]; whnf)) | apply wr_end | apply wc_seq | apply wc_region | (apply wr_fieldAddr; iterate 2 exact rfl) | (apply wr_nilCheck; iterate 2 exact rfl) | (apply wr_load; (iterate 3 exact rfl); (focus repeat first | with_reducible assumption | exact heap_alloc_same _ _ | exact World.putObj_heap_same (by first | omega | (simp only [World.size_alloc, World.putObj_size, ne_eq]; omega)) | ((first | refine hAl ?_ ?_ | refine hPu ?_ ?_); focus first | omega | (simp only [World.size_alloc, World.putObj_size, ne_eq]; omega))); exact rfl; conv => enter [6, 3]; whnf) | (apply wr_cmp; (iterate 3 exact rfl); exact cmpT (by dsimp only [cmpP]; first | done | omega)) | (apply wr_pick (t := true); (iterate 2 exact rfl); with_reducible (conv => enter [6, 3]; whnf)) | (apply wc_true; exact rfl))
        refine wc_drawP (l := _) 11 _ (by kernel_rfl) (by kernel_rfl) rfl (by kernel_rfl) (by kernel_rfl) (by decide) ?_
        apply chP_pure
        focus
          intro xx w' hk hF
          refine wr_load (v := .pointer (some ⟨x.blk, 0, none⟩)) rfl rfl rfl (hk.heap (a := w3.drew) hp2 (fun h => h)) rfl ?_
          apply wr_nil
          exact ⟨rfl, Keeps.refl _ _⟩
        focus (intro xx yy h; rfl)
        focus kernel_rfl
        apply chP_pure
        focus
          intro xx w' hk hF
          refine wr_load (v := .pointer (some ⟨x.blk, 0, none⟩)) rfl rfl rfl (hk.heap (a := w3.drew) hp2 (fun h => h)) rfl ?_
          apply wr_nil
          exact ⟨rfl, Keeps.refl _ _⟩
        focus (intro xx yy h; rfl)
        focus kernel_rfl
        apply chP_pure
        focus
          intro xx w' hk hF
          refine wr_nilCheck rfl rfl ?_
          apply wr_nil
          exact ⟨rfl, Keeps.refl _ _⟩
        focus (intro xx yy h; rfl)
        focus kernel_rfl
        apply chP_pure
        focus
          intro xx w' hk hF
          refine wr_fieldAddr rfl rfl ?_
          apply wr_nil
          exact ⟨rfl, Keeps.refl _ _⟩
        focus (intro xx yy h; rfl)
        focus kernel_rfl
        apply chP_pure
        focus
          intro xx w' hk hF
          refine wr_fieldAddr rfl rfl ?_
          apply wr_nil
          exact ⟨rfl, Keeps.refl _ _⟩
        focus (intro xx yy h; rfl)
        focus kernel_rfl
        apply chP_pure
        focus
          intro xx w' hk hF
          refine wr_load (v := x.cv) rfl rfl rfl (hk.heap (a := w3.drew) hc2' (fun h => h)) rfl ?_
          apply wr_nil
          exact ⟨rfl, Keeps.refl _ _⟩
        focus (intro xx yy h; rfl)
        focus kernel_rfl
        apply chP_pure
        focus
          intro xx w' hk hF
          apply wr_move; exact rfl; with_reducible (conv => enter [6, 3]; whnf)
          apply wr_nil
          exact ⟨rfl, Keeps.refl _ _⟩
        focus (intro xx yy h; rfl)
        focus kernel_rfl
        apply chP_pure
        focus
          intro xx w' hk hF
          refine wr_indexAddr (i := j) rfl (by exact hcv) rfl hj ?_
          apply wr_nil
          exact ⟨rfl, Keeps.refl _ _⟩
        focus (intro xx yy h; rfl)
        focus kernel_rfl
        apply chP_pure
        focus
          intro xx w' hk hF
          refine wr_load (v := .int .i64 c) rfl rfl rfl (hk.heap (a := w3.drew) hb (fun h => h)) hv ?_
          apply wr_nil
          exact ⟨rfl, Keeps.refl _ _⟩
        focus (intro xx yy h; rfl)
        focus kernel_rfl
        apply chP_pure
        focus
          intro xx w' hk hF
          refine wr_nilCheck rfl rfl ?_
          apply wr_nil
          exact ⟨rfl, Keeps.refl _ _⟩
        focus (intro xx yy h; rfl)
        focus kernel_rfl
        apply chP_pure
        focus
          intro xx w' hk hF
          refine wr_fieldAddr rfl rfl ?_
          apply wr_nil
          exact ⟨rfl, Keeps.refl _ _⟩
        focus (intro xx yy h; rfl)
        focus kernel_rfl
        refine chP_nil ?_
        intro xx w3' hk3' hF
        have hk33 : Keeps NoB w3 w3' := (Keeps.refl NoB w3).drew.trans hk3'
        have hc3 := hk33.heap hc2' (fun h => h)
        refine wr_store (v := .int .i64 c) rfl rfl rfl rfl hc3 rfl ?_
        have hk4 : Keeps (· = x.blk) w3 (w3'.putObj x.blk (.cells ((#[.int .i64 n.depth, x.cv, .bool true, .int .i64 0, .map x.db] : Array Value).setIfInBounds (0 + 3) (.int .i64 c)) 56 (0, 0))) := hk33.upD.put _ (fun _ => rfl)
        have hc4 : (w3'.putObj x.blk (.cells ((#[.int .i64 n.depth, x.cv, .bool true, .int .i64 0, .map x.db] : Array Value).setIfInBounds (0 + 3) (.int .i64 c)) 56 (0, 0))).heap[x.blk]? = some (.cells (ndC (chooseN T n) x).toArray 56 (0, 0)) := by
          have e : chooseN T n = { n with par := c } := by unfold chooseN; rw [if_pos hu, hfind]; rfl
          rw [e, ndC, hu]
          exact World.putObj_heap_same (lt_of_heap hc3)
        have hN4 : ∀ w4, Keeps (· = x.blk) w3 w4 → w4.heap[x.blk]? = some (.cells (ndC (chooseN T n) x).toArray 56 (0, 0)) → NodeAt w4 (chooseN T n) x := fun w4 hk hc => ⟨hc, hN2.cands.keep hk (fun b hb e => (A.cv x hxm x hxm b hb).1 e), by
          have hd := hN2.doubt
          cases hdb : x.db with
          | none => rw [hdb] at hd; exact hd
          | some b => rw [hdb] at hd; exact MetAt.keep (D := (· = x.blk)) hd hk (fun e => A.bd x hxm x hxm (by rw [hdb, e]))⟩
        have h4 := h2.upd hx (hk4.mono (fun b _ e => .inl e.symm)) (hN4 _ hk4 hc4)
        rw [List.set_set] at h4
        (repeat first | (apply wr_nil; try simp only [thenE, inBlockE, bodyQ]))
        try unfold bodyQ
        exact leave0 rfl ⟨rfl, h4, hkw2.trans hk4⟩
    · have hfind : n.cands.find? (okC T n) = none := find_nothing (fun k c hc => hno k c (List.getElem?_eq_some_iff.1 hc).1 hc)
      cases hu : n.up with
      | false =>
        rw [hu] at hc2'
        (repeat first | (apply wr_move; exact rfl; with_reducible (conv => enter [6, 3]; whnf)) | (apply wr_assign; exact rfl; with_reducible (conv => enter [6, 3]; whnf)) | apply wr_end | apply wc_seq | apply wc_region | apply wc_skip | (apply wr_fieldAddr; iterate 2 exact rfl) | (apply wr_nilCheck; iterate 2 exact rfl) | (apply wr_load; (iterate 3 exact rfl); (focus repeat first | with_reducible assumption | exact heap_alloc_same _ _ | exact World.putObj_heap_same (by first | omega | (simp only [World.size_alloc, World.putObj_size, ne_eq]; omega)) | ((first | refine hAl ?_ ?_ | refine hPu ?_ ?_); focus first | omega | (simp only [World.size_alloc, World.putObj_size, ne_eq]; omega))); exact rfl; conv => enter [6, 3]; whnf) | (apply wr_pick (t := false); (iterate 2 exact rfl); with_reducible (conv => enter [6, 3]; whnf)) | (apply wc_false; exact rfl) | (apply wr_skip; exact rfl))
        try unfold bodyQ
        exact leave0 rfl ⟨rfl, hsame _ (by unfold chooseN; rw [hu]; rfl), hkw2⟩
      | true =>
        rw [hu] at hc2'
        (repeat first | (apply wr_move; exact rfl; with_reducible (conv => enter [6, 3]; whnf)) | (apply wr_assign; exact rfl; with_reducible (conv => enter [6, 3]; whnf)) | apply wr_end | apply wc_seq | apply wc_region | apply wc_skip | (apply wr_fieldAddr; iterate 2 exact rfl) | (apply wr_nilCheck; iterate 2 exact rfl) | (apply wr_load; (iterate 3 exact rfl); (focus repeat first | with_reducible assumption | exact heap_alloc_same _ _ | exact World.putObj_heap_same (by first | omega | (simp only [World.size_alloc, World.putObj_size, ne_eq]; omega)) | ((first | refine hAl ?_ ?_ | refine hPu ?_ ?_); focus first | omega | (simp only [World.size_alloc, World.putObj_size, ne_eq]; omega))); exact rfl; conv => enter [6, 3]; whnf) | (apply wr_cmp; (iterate 3 exact rfl); exact cmpF (by dsimp only [cmpN]; first | done | omega)) | (apply wr_pick (t := true); (iterate 2 exact rfl); with_reducible (conv => enter [6, 3]; whnf)) | (apply wc_false; exact rfl))
        try unfold bodyQ
        exact leave0 rfl ⟨rfl, hsame _ (by unfold chooseN; rw [if_pos hu, hfind]; rfl), hkw2⟩
end Go.Proofs.YthjpgkefifkhjaaDoor
