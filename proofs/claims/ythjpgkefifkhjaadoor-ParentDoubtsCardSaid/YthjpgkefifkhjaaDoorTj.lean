/- Rise. -/
import Derived.Test.YthjpgkefifkhjaaDoorTi
namespace Go.Proofs.YthjpgkefifkhjaaDoor
open Go Go.V Go.RowKit
set_option linter.unusedVariables false
set_option linter.unusedSimpArgs false

section ops
variable {P : Program} {ops : Array Oper} {Q : Post} {ds : List Deferred} {f : Env} {w w' : World} {rest : List Oper}
variable {d : Option Nat} {ty : TypeId} {pos : String} {af : Array Edge} {g : Option (Nat × Bool)}
theorem wr_deleteNil {α : Type} [DecidableEq α] {enc : α → Value} {t K E : TypeId} {x y : Operand} {t2 : TypeId} {a : α} [U : Und P t (.map K E)] [M : MKey P K enc] (hw : wantedE ops f ⟨d, .call { callee := .builtin .delete, args := #[x, y], argTypes := #[t, t2] }, ty, pos, af, g⟩ = true) (hx : ev f x = .map none) (hy : ev f y = enc a)
    (kk : Wr P ops Q ds rest (setO f d (.tuple #[])) w) : Wr P ops Q ds (⟨d, .call { callee := .builtin .delete, args := #[x, y], argTypes := #[t, t2] }, ty, pos, af, g⟩ :: rest) f w := by
  refine wr_val (v := .tuple #[]) (w' := w) hw ?_ kk
  simp only [execOp, resolve, invoke, builtin, Builtin.delete_, Sem.run_bind, Sem.run_pure, Result.andThen_ok, List.map_toArray, List.map_cons, List.map_nil, hx, hy, List.getElem?_toArray, List.getElem?_cons_zero, List.getElem?_cons_succ, run_und U, M.chk]
end ops
theorem set_same {α : Type} {l : List α} {k : Nat} {a : α} (h : l[k]? = some a) : l.set k a = l := by
  apply List.ext_getElem?
  intro j
  by_cases hj : k = j
  · subst hj; rw [List.getElem?_set_self (List.getElem?_eq_some_iff.1 h).1, h]
  · rw [List.getElem?_set_ne hj]
theorem getM_delM (M : List (Int × Value)) (a x : Int) : getM (delM M a) x = if x = a then none else getM M x := by
  unfold getM delM
  rw [List.find?_filter]
  by_cases hx : x = a
  · rw [if_pos hx]
    have : M.find? (fun p => decide (p.1 ≠ a) && decide (p.1 = x)) = none := by
      rw [List.find?_eq_none]
      intro p hp h
      simp at h
      exact h.1 (by rw [h.2, hx])
    simpa using this
  · rw [if_neg hx]
    have : (fun p : Int × Value => decide (decide (p.1 ≠ a) = true ∧ decide (p.1 = x) = true)) = fun p => decide (p.1 = x) := by
      funext p
      by_cases h : p.1 = x
      · simp [h, hx]
      · simp [h]
    rw [this]
def unDoubt (id : Int) (n : ND) : ND := { n with doubt := n.doubt.filter fun c => decide (c ≠ id) }
def stepR (id : Int) (T : List ND) (k : Nat) : List ND :=
  let n1 := unDoubt id (T.getD k ndZ)
  let T1 := T.set k n1
  if (n1.up && laterN n1 id) = true then chooseT T1 k else T1
def riseN (n : ND) : ND := { n with up := true }
def riseT (T : List ND) (i : Nat) : List ND := (List.range T.length).foldl (stepR (i : Int)) (chooseT (T.set i (riseN (T.getD i ndZ))) i)
def riseF (T : List ND) (id : Int) : List ND := if inT T id ∧ upT T id = false then riseT T id.toNat else T
theorem stepR_wf {X : List NL} (id : Int) (T : List ND) (k : Nat) (h : WFT T X) : WFT (stepR id T k) X ∧ (stepR id T k).length = T.length := by
  unfold stepR
  dsimp only
  have h1 : WFT (T.set k (unDoubt id (T.getD k ndZ))) X := by
    by_cases hk : k < T.length
    · have hn : T[k]? = some T[k] := by simp [hk]
      exact h.set hn (by simp [hk, unDoubt])
    · rw [List.set_eq_of_length_le (by omega)]; exact h
  split
  · exact ⟨chooseT_wf h1 k, by rw [chooseT_len, List.length_set]⟩
  · exact ⟨h1, List.length_set⟩
theorem foldR_wf {X : List NL} (id : Int) : ∀ (l : List Nat) (T : List ND), WFT T X → WFT (l.foldl (stepR id) T) X ∧ (l.foldl (stepR id) T).length = T.length
  | [], T, h => ⟨h, rfl⟩
  | k :: l, T, h => by
    obtain ⟨h1, h2⟩ := stepR_wf id T k h
    obtain ⟨h3, h4⟩ := foldR_wf id l _ h1
    exact ⟨h3, by rw [List.foldl_cons, h4, h2]⟩
theorem riseT_wf {T : List ND} {X : List NL} (h : WFT T X) {i : Nat} (hi : i < T.length) : WFT (riseT T i) X ∧ (riseT T i).length = T.length := by
  have hn : T[i]? = some T[i] := by simp [hi]
  have hg : T.getD i ndZ = T[i] := by simp [hi]
  have h1 : WFT (T.set i (riseN (T.getD i ndZ))) X := h.set hn (by rw [hg]; rfl)
  obtain ⟨h2, h3⟩ := foldR_wf (i : Int) (List.range T.length) _ (chooseT_wf h1 i)
  exact ⟨h2, by unfold riseT; rw [h3, chooseT_len, List.length_set]⟩
set_option maxRecDepth 100000 in
set_option maxHeartbeats 4000000 in
theorem riseIn_ca {tb lb cap : Nat} {T : List ND} {X : List NL} {i : Nat} {n : ND} {x : NL} (xt xi xn : Nat) (w : World) (h : TreeAt w tb lb cap T X) (hwf : WFT T X) (hn : T[i]? = some n) (hx : X[i]? = some x)
    (ht : w.heap[xt]? = some (.cells #[.pointer (some ⟨tb, 0, none⟩)] 27 (0, 0))) (hid : w.heap[xi]? = some (.cells #[.int .i64 (i : Int)] 3 (0, 0))) (hp : w.heap[xn]? = some (.cells #[.pointer (some ⟨x.blk, 0, none⟩)] 53 (0, 0))) :
    Ca Tryd.prog 28 #[.pointer (some ⟨xn, 0, none⟩), .pointer (some ⟨xt, 0, none⟩), .pointer (some ⟨xi, 0, none⟩)] w fun _ w' => TreeAt w' tb lb cap (riseT T i) X ∧ Keeps (TD X) w w' := by
  refine ca_of_body (args := [.pointer (some ⟨xn, 0, none⟩), .pointer (some ⟨xt, 0, none⟩), .pointer (some ⟨xi, 0, none⟩)]) Tryd.func28 rfl (by kernel_rfl) ?_
  have hxm := List.mem_of_getElem? hx
  have hgn : T.getD i ndZ = n := by simp [hn]
  have hlen := h.len
  have hsm := h.small
  have hN1 := h.node i n x hn hx
  have hc1 := hN1.cells
  have A := h.apart
  apply wc_seq
  apply wc_region
  refine wr_load (v := .pointer (some ⟨x.blk, 0, none⟩)) rfl rfl rfl hp rfl ?_
  refine wr_nilCheck rfl rfl ?_
  refine wr_fieldAddr rfl rfl ?_
  refine wr_store (v := .bool true) rfl rfl rfl rfl hc1 rfl ?_
  obtain ⟨w2, hw2⟩ : ∃ w2, w2 = w.putObj x.blk (.cells ((ndC n x).toArray.setIfInBounds (0 + 2) (.bool true)) 56 (0, 0)) := ⟨_, rfl⟩
  have hk2 : Keeps (· = x.blk) w w2 := by rw [hw2]; exact (Keeps.refl _ _).put _ (fun _ => rfl)
  have hc2 : w2.heap[x.blk]? = some (.cells (ndC (riseN n) x).toArray 56 (0, 0)) := by rw [hw2]; exact World.putObj_heap_same (lt_of_heap hc1)
  rw [← hw2]
  clear hw2
  have hN2 : NodeAt w2 (riseN n) x := ⟨hc2, hN1.cands.keep hk2 (fun b hb e => (A.cv x hxm x hxm b hb).1 e), by
    have hd := hN1.doubt
    cases hdb : x.db with
    | none => rw [hdb] at hd; exact hd
    | some b => rw [hdb] at hd; exact MetAt.keep (D := (· = x.blk)) hd hk2 (fun e => A.bd x hxm x hxm (by rw [hdb, e]))⟩
  have h2 := h.upd hx (hk2.mono (fun b _ e => .inl e.symm)) hN2
  have hwf2 : WFT (T.set i (riseN n)) X := hwf.set hn rfl
  have hn2 : (T.set i (riseN n))[i]? = some (riseN n) := List.getElem?_set_self (List.getElem?_eq_some_iff.1 hn).1
  have hkD : ∀ {w' : World} {y : NL}, y ∈ X → Keeps (· = y.blk) w2 w' → Keeps (TD X) w2 w' := fun hy k => k.mono (fun b' _ e => ⟨_, hy, .inl e.symm⟩)
  have hk02 : Keeps (TD X) w w2 := hk2.mono (fun b' _ e => ⟨x, hxm, .inl e.symm⟩)
  have ht2 := hk02.heap ht (h.notTD ht (by decide))
  have hp2 := hk02.heap hp (h.notTD hp (by decide))
  have hid2 := hk02.heap hid (h.notTD hid (by decide))
  (repeat first | apply wr_end | apply wc_seq | apply wc_region | (apply wr_load; (iterate 3 exact rfl); (focus repeat first | with_reducible assumption | exact heap_alloc_same _ _ | exact World.putObj_heap_same (by first | omega | (simp only [World.size_alloc, World.putObj_size, ne_eq]; omega)) | ((first | refine hAl ?_ ?_ | refine hPu ?_ ?_); focus first | omega | (simp only [World.size_alloc, World.putObj_size, ne_eq]; omega))); exact rfl; conv => enter [6, 3]; whnf))
  refine wr_call (vs := [.pointer (some ⟨tb, 0, none⟩), .pointer (some ⟨x.blk, 0, none⟩)]) rfl (choose_ca w2 h2 hwf2 hn2 hx) rfl ?_
  rintro vv w4 ⟨rfl, h4, hk4⟩
  rw [← chooseT_eq hn2] at h4
  have hwf4 := chooseT_wf hwf2 i
  have hk04 : Keeps (TD X) w w4 := hk02.trans (hkD hxm hk4)
  have ht4 := hk04.heap ht (h.notTD ht (by decide))
  have hid4 := hk04.heap hid (h.notTD hid (by decide))
  obtain ⟨T2, hT2⟩ : ∃ T2, T2 = chooseT (T.set i (riseN n)) i := ⟨_, rfl⟩
  rw [← hT2] at h4 hwf4
  have hT2l : T2.length = T.length := by rw [hT2, chooseT_len, List.length_set]
  have hres : riseT T i = (List.range X.length).foldl (stepR (i : Int)) T2 := by unfold riseT; rw [hgn, hT2, hlen]
  rw [hres]
  clear hres
  have htr4 := h4.tr
  (repeat first | (apply wr_move; exact rfl; with_reducible (conv => enter [6, 3]; whnf)) | apply wr_end | apply wc_seq | apply wc_region | apply wc_block | (apply wr_fieldAddr; iterate 2 exact rfl) | (apply wr_len_slice; iterate 2 exact rfl) | (apply wr_nilCheck; iterate 2 exact rfl) | (apply wr_load; (iterate 3 exact rfl); (focus repeat first | with_reducible assumption | exact heap_alloc_same _ _ | exact World.putObj_heap_same (by first | omega | (simp only [World.size_alloc, World.putObj_size, ne_eq]; omega)) | ((first | refine hAl ?_ ?_ | refine hPu ?_ ?_); focus first | omega | (simp only [World.size_alloc, World.putObj_size, ne_eq]; omega))); exact rfl; conv => enter [6, 3]; whnf))
  refine wc_loopL (α := Nat) (fun k => [(1, .pointer (some ⟨xt, 0, none⟩)), (2, .pointer (some ⟨xi, 0, none⟩)), (14, .slice (some ⟨lb, 0, none⟩) X.length cap), (15, .int .i64 (X.length : Int)), (16, .int .i64 (k : Int))])
    (fun k ds w' => ds = [] ∧ k ≤ X.length ∧ TreeAt w' tb lb cap ((List.range k).foldl (stepR (i : Int)) T2) X ∧ Keeps (TD X) w4 w') (fun k => X.length - k) 0 ⟨rfl, Nat.zero_le _, h4, Keeps.refl _ _⟩ ⟨rfl, rfl, rfl, rfl, rfl, trivial⟩ ?_
  rintro k ds f0 w5 ⟨rfl, hk, h5, hk5⟩
  obtain ⟨hwf5, hl5⟩ := foldR_wf (X := X) (i : Int) (List.range k) T2 hwf4
  by_cases hlt : k < X.length
  · have hnext : (List.range (k + 1)).foldl (stepR (i : Int)) T2 = stepR (i : Int) ((List.range k).foldl (stepR (i : Int)) T2) k := by
      rw [List.range_succ, List.foldl_append]; rfl
    generalize hTk : (List.range k).foldl (stepR (i : Int)) T2 = Tk at h5 hwf5 hl5 hnext
    obtain ⟨z, hz⟩ : ∃ z, X[k]? = some z := ⟨X[k], by simp [hlt]⟩
    have hzm := List.mem_of_getElem? hz
    obtain ⟨m, hm, hM⟩ := h5.at hz
    have hgm : Tk.getD k ndZ = m := by simp [hm]
    have ht5 := hk5.heap ht4 (h4.notTD ht4 (by decide))
    have hid5 := hk5.heap hid4 (h4.notTD hid4 (by decide))
    have htr5 := h5.tr
    obtain ⟨rc, re, rf, hrb, hrr⟩ := h5.row
    have hmc := hM.cells
    have B := h5.apart
    have hstep : stepR (i : Int) Tk k = if ((unDoubt (i : Int) m).up && laterN (unDoubt (i : Int) m) (i : Int)) = true then chooseT (Tk.set k (unDoubt (i : Int) m)) k else Tk.set k (unDoubt (i : Int) m) := by
      unfold stepR; rw [hgm]
    have hwfu : WFT (Tk.set k (unDoubt (i : Int) m)) X := hwf5.set hm rfl
    have hnu : (Tk.set k (unDoubt (i : Int) m))[k]? = some (unDoubt (i : Int) m) := List.getElem?_set_self (List.getElem?_eq_some_iff.1 hm).1
    (repeat first | apply wr_end | apply wc_seq | apply wc_region | apply wc_skip | apply wc_block | (apply wr_cmp; (iterate 3 exact rfl); exact cmpT (by dsimp only [cmpP]; first | done | omega)) | (apply wc_true; exact rfl))
    refine wr_indexAddr (i := k) rfl rfl rfl hlt ?_
    refine wr_load (v := .pointer (some ⟨z.blk, 0, none⟩)) rfl rfl rfl hrb (hrr k z hz) ?_
    (repeat first | (apply wr_assign; exact rfl; with_reducible (conv => enter [6, 3]; whnf)) | apply wr_end | apply wc_seq)
    refine wc_cut (fun ds f w' => ds = [] ∧ Slots f [(1, .pointer (some ⟨xt, 0, none⟩)), (2, .pointer (some ⟨xi, 0, none⟩)), (4, .pointer (some ⟨z.blk, 0, none⟩)), (14, .slice (some ⟨lb, 0, none⟩) X.length cap), (15, .int .i64 (X.length : Int)), (16, .int .i64 (k : Int))] ∧ TreeAt w' tb lb cap (Tk.set k (unDoubt (i : Int) m)) X ∧ Keeps (TD X) w5 w') ?_ ?_
    · refine wc_drawP (l := _) 5 _ (by kernel_rfl) (by kernel_rfl) rfl (by kernel_rfl) (by kernel_rfl) (by decide) ?_
      apply chP_pure
      focus
        intro xx w' hk hF
        apply wr_move; exact rfl; with_reducible (conv => enter [6, 3]; whnf)
        apply wr_nil
        exact ⟨rfl, Keeps.refl _ _⟩
      focus (intro xx yy h; rfl)
      focus kernel_rfl
      apply chP_pure
      focus
        intro xx w' hk hF
        refine wr_nilCheck rfl rfl ?_
        apply wr_nil
        exact ⟨rfl, Keeps.refl _ _⟩
      focus (intro xx yy h; rfl)
      focus kernel_rfl
      apply chP_pure
      focus
        intro xx w' hk hF
        refine wr_fieldAddr rfl rfl ?_
        apply wr_nil
        exact ⟨rfl, Keeps.refl _ _⟩
      focus (intro xx yy h; rfl)
      focus kernel_rfl
      apply chP_pure
      focus
        intro xx w' hk hF
        refine wr_load (v := .map z.db) rfl rfl rfl (hk.heap (a := w5.drew) hmc (fun h => h)) rfl ?_
        apply wr_nil
        exact ⟨rfl, Keeps.refl _ _⟩
      focus (intro xx yy h; rfl)
      focus kernel_rfl
      apply chP_pure
      focus
        intro xx w' hk hF
        refine wr_load (v := .int .i64 (i : Int)) rfl rfl rfl (hk.heap (a := w5.drew) hid5 (fun h => h)) rfl ?_
        apply wr_nil
        exact ⟨rfl, Keeps.refl _ _⟩
      focus (intro xx yy h; rfl)
      focus kernel_rfl
      refine chP_nil ?_
      intro xx w6 hk6 hF
      have hk56 : Keeps NoB w5 w6 := (Keeps.refl NoB w5).drew.trans hk6
      have h6 := h5.kin hk56
      have hM6 := h6.node k m z hm hz
      cases hdb : z.db with
      | none =>
        have hdd := hM6.doubt
        rw [hdb] at hdd
        have hun : unDoubt (i : Int) m = m := by
          have h' : m.doubt = [] := hdd
          obtain ⟨q1, q2, q3, q4, q5⟩ := m
          dsimp only at h'
          subst h'
          rfl
        refine wr_deleteNil (enc := encI .i64) (a := (i : Int)) rfl rfl rfl ?_
        apply wr_end
        refine ⟨rfl, ⟨rfl, rfl, rfl, rfl, rfl, rfl, trivial⟩, ?_, hk56.upD⟩
        rw [hun, set_same hm]; exact h6
      | some b =>
        have hdd := hM6.doubt
        rw [hdb] at hdd
        obtain ⟨M, hMa, hMg⟩ := hdd
        refine wr_delete (enc := encI .i64) (l := M) (a := (i : Int)) rfl rfl hMa rfl ?_
        intro w7 hM7 hk7
        apply wr_end
        have hbne : b ≠ z.blk := fun e => B.bd z hzm z hzm (by rw [hdb, e])
        have hN7 : NodeAt w7 (unDoubt (i : Int) m) z := ⟨hk7.heap hM6.cells (Ne.symm hbne), hM6.cands.keep hk7 (fun b' hb' e => (B.cv z hzm z hzm b' hb').2 (by rw [hdb, e])), by
          rw [hdb]
          exact ⟨_, hM7, fun c => by
            rw [getM_delM, hMg]
            unfold unDoubt
            by_cases hci : c = (i : Int)
            · simp [hci]
            · simp [hci]⟩⟩
        exact ⟨rfl, ⟨rfl, rfl, rfl, rfl, rfl, rfl, trivial⟩, h6.upd hz (hk7.mono (fun b' _ e => .inr (by rw [hdb, e]))) hN7, hk56.upD.trans (hk7.mono (fun b' _ e => ⟨z, hzm, .inr (by rw [hdb, e])⟩))⟩
    · rintro ds f w6 ⟨rfl, hsl, h6, hk56⟩
      refine wc_keep _ hsl ?_
      intro f1
      clear hsl
      have hN6 := h6.node k _ z hnu hz
      have hc6 := hN6.cells
      have hid6 := (hk5.trans hk56).heap hid4 (h4.notTD hid4 (by decide))
      have ht6 := (hk5.trans hk56).heap ht4 (h4.notTD ht4 (by decide))
      have hk46 := hk5.trans hk56
      have hml : (unDoubt (i : Int) m).cands.length ≤ 1000 := (hwfu k _ z hnu hz).1
      generalize hmu : unDoubt (i : Int) m = u at hstep h6 hwfu hnu hN6 hc6 hml
      have hc6' : w6.heap[z.blk]? = some (.cells #[.int .i64 u.depth, z.cv, .bool u.up, .int .i64 u.par, .map z.db] 56 (0, 0)) := hc6
      clear hc6
      cases hu : u.up with
      | false =>
        rw [hu] at hc6'
        have e : stepR (i : Int) Tk k = Tk.set k u := by rw [hstep, if_neg (by rw [hu]; simp)]
        (repeat first | (apply wr_move; exact rfl; with_reducible (conv => enter [6, 3]; whnf)) | apply wr_end | apply wc_seq | apply wc_region | apply wc_skip | (apply wr_fieldAddr; iterate 2 exact rfl) | (apply wr_nilCheck; iterate 2 exact rfl) | (apply wr_load; (iterate 3 exact rfl); (focus repeat first | with_reducible assumption | exact heap_alloc_same _ _ | exact World.putObj_heap_same (by first | omega | (simp only [World.size_alloc, World.putObj_size, ne_eq]; omega)) | ((first | refine hAl ?_ ?_ | refine hPu ?_ ?_); focus first | omega | (simp only [World.size_alloc, World.putObj_size, ne_eq]; omega))); exact rfl; conv => enter [6, 3]; whnf) | (apply wr_pick (t := false); (iterate 2 exact rfl); with_reducible (conv => enter [6, 3]; whnf)) | (apply wr_add; (iterate 3 exact rfl); exact w_fit (by dsimp only [kIn]; first | done | omega)) | (apply wc_false; exact rfl) | (apply wr_skip; exact rfl))
        exact ⟨k + 1, by omega, ⟨by trivial, hlt, (by rw [hnext, e]; exact h6), hk46⟩, rfl, rfl, rfl, rfl, by simp, trivial⟩
      | true =>
        rw [hu] at hc6'
        (repeat first | (apply wr_move; exact rfl; with_reducible (conv => enter [6, 3]; whnf)) | apply wc_seq | apply wc_region | (apply wr_fieldAddr; iterate 2 exact rfl) | (apply wr_nilCheck; iterate 2 exact rfl) | (apply wr_load; (iterate 3 exact rfl); (focus repeat first | with_reducible assumption | exact heap_alloc_same _ _ | exact World.putObj_heap_same (by first | omega | (simp only [World.size_alloc, World.putObj_size, ne_eq]; omega)) | ((first | refine hAl ?_ ?_ | refine hPu ?_ ?_); focus first | omega | (simp only [World.size_alloc, World.putObj_size, ne_eq]; omega))); exact rfl; conv => enter [6, 3]; whnf))
        refine wr_call (vs := [.pointer (some ⟨z.blk, 0, none⟩), .int .i64 (i : Int)]) rfl (later_ca (i : Int) w6 hN6 hml) rfl ?_
        rintro v7 w7 ⟨rfl, hk7⟩
        have h7 := h6.kin hk7
        have hk47 := hk46.trans hk7.upD
        have ht7 := hk7.heap ht6 (fun h => h)
        cases hla : laterN u (i : Int) with
        | false =>
          have e : stepR (i : Int) Tk k = Tk.set k u := by rw [hstep, if_neg (by rw [hla]; simp)]
          (repeat first | (apply wr_move; exact rfl; with_reducible (conv => enter [6, 3]; whnf)) | apply wr_end | apply wc_region | apply wc_skip | (apply wr_pick (t := true); (iterate 2 exact rfl); with_reducible (conv => enter [6, 3]; whnf)) | (apply wr_add; (iterate 3 exact rfl); exact w_fit (by dsimp only [kIn]; first | done | omega)) | (apply wc_false; exact rfl))
          exact ⟨k + 1, by omega, ⟨by trivial, hlt, (by rw [hnext, e]; exact h7), hk47⟩, rfl, rfl, rfl, rfl, by simp, trivial⟩
        | true =>
          have e : stepR (i : Int) Tk k = chooseT (Tk.set k u) k := by rw [hstep, if_pos (by rw [hu, hla]; rfl)]
          (repeat first | (apply wr_move; exact rfl; with_reducible (conv => enter [6, 3]; whnf)) | apply wr_end | apply wc_region | (apply wr_load; (iterate 3 exact rfl); (focus repeat first | with_reducible assumption | exact heap_alloc_same _ _ | exact World.putObj_heap_same (by first | omega | (simp only [World.size_alloc, World.putObj_size, ne_eq]; omega)) | ((first | refine hAl ?_ ?_ | refine hPu ?_ ?_); focus first | omega | (simp only [World.size_alloc, World.putObj_size, ne_eq]; omega))); exact rfl; conv => enter [6, 3]; whnf) | (apply wr_pick (t := true); (iterate 2 exact rfl); with_reducible (conv => enter [6, 3]; whnf)) | (apply wc_true; exact rfl))
          refine wr_call (vs := [.pointer (some ⟨tb, 0, none⟩), .pointer (some ⟨z.blk, 0, none⟩)]) rfl (choose_ca w7 h7 hwfu hnu hz) rfl ?_
          rintro v8 w8 ⟨rfl, h8, hk8⟩
          rw [← chooseT_eq hnu, ← e, ← hnext] at h8
          (repeat first | (apply wr_move; exact rfl; with_reducible (conv => enter [6, 3]; whnf)) | apply wr_end | apply wc_region | (apply wr_add; (iterate 3 exact rfl); exact w_fit (by dsimp only [kIn]; first | done | omega)) | (apply wr_nil; try simp only [thenE, inBlockE, bodyQ]))
          exact ⟨k + 1, by omega, ⟨by trivial, hlt, h8, hk47.trans (hk8.mono (fun b' _ e => ⟨z, hzm, .inl e.symm⟩))⟩, rfl, rfl, rfl, rfl, by simp, trivial⟩
  · have he : k = X.length := by omega
    subst he
    (repeat first | apply wr_end | apply wc_seq | apply wc_region | (apply wr_cmp; (iterate 3 exact rfl); exact cmpF (by dsimp only [cmpN]; first | done | omega)) | (apply wc_false; exact rfl) | (apply wc_exit; try simp only [thenE, inBlockE, bodyQ, ↓reduceIte, Nat.reduceEqDiff]))
    try unfold bodyQ
    exact leave0 rfl ⟨h5, hk04.trans hk5⟩
end Go.Proofs.YthjpgkefifkhjaaDoor
