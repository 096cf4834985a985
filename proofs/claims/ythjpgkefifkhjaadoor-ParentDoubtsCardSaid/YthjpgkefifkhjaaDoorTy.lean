/- Doubt. -/
import Derived.Test.YthjpgkefifkhjaaDoorTk
namespace Go.Proofs.YthjpgkefifkhjaaDoor
open Go Go.V Go.RowKit
set_option linter.unusedVariables false
set_option linter.unusedSimpArgs false

def doubtN (of : Int) (n : ND) : ND := { n with doubt := of :: n.doubt }
def clearN (n : ND) : ND := { n with doubt := [] }
def doubtT (T : List ND) (i : Nat) (of : Int) : List ND :=
  let T2 := chooseT (T.set i (doubtN of (T.getD i ndZ))) i
  if (T2.getD i ndZ).par = 0 then chooseT (T2.set i (clearN (T2.getD i ndZ))) i else T2
def doubtC (T : List ND) (id of : Int) : Prop := inT T id ∧ upT T id = true ∧ upT T of = true ∧ parT T id = of
instance (T : List ND) (id of : Int) : Decidable (doubtC T id of) := by unfold doubtC; infer_instance
def doubtF (T : List ND) (id of : Int) : List ND := if doubtC T id of then doubtT T id.toNat of else T
set_option maxRecDepth 100000 in
set_option maxHeartbeats 4000000 in
theorem doubt_ca {tb lb cap : Nat} {T : List ND} {X : List NL} (id of : Int) (w : World) (h : TreeAt w tb lb cap T X) (hwf : WFT T X) :
    Ca Tryd.prog 19 #[.pointer (some ⟨tb, 0, none⟩), .int .i64 id, .int .i64 of] w fun v w' => v = .bool (decide (doubtC T id of)) ∧ TreeAt w' tb lb cap (doubtF T id of) X ∧ Keeps (TD X) w w' := by
  have hno : ¬ doubtC T id of → (decide (doubtC T id of)) = false ∧ doubtF T id of = T := fun hh => ⟨decide_eq_false hh, if_neg hh⟩
  refine ca_of_body (args := [.pointer (some ⟨tb, 0, none⟩), .int .i64 id, .int .i64 of]) Tryd.func19 rfl (by kernel_rfl) ?_
  (repeat first | (apply wr_move; exact rfl; with_reducible (conv => enter [6, 3]; whnf)) | (apply wr_assign; exact rfl; with_reducible (conv => enter [6, 3]; whnf)) | apply wr_end | apply wc_seq | apply wc_region)
  refine wr_call (vs := [.pointer (some ⟨tb, 0, none⟩), .int .i64 id]) rfl (find_ca id w h) rfl ?_
  rintro v w1 ⟨rfl, ⟨hin, x, hx, rfl⟩ | ⟨hin, rfl⟩⟩
  rotate_left
  · obtain ⟨e1, e2⟩ := hno (fun hh => hin hh.1)
    rw [e1, e2]
    (repeat first | (apply wr_move; exact rfl; with_reducible (conv => enter [6, 3]; whnf)) | (apply wr_assign; exact rfl; with_reducible (conv => enter [6, 3]; whnf)) | apply wr_end | apply wc_seq | apply wc_region | (apply wr_not; iterate 2 exact rfl) | (apply wr_pick (t := true); (iterate 2 exact rfl); with_reducible (conv => enter [6, 3]; whnf)) | (apply wr_extract; (iterate 3 exact rfl); with_reducible (conv => enter [6, 3]; whnf)) | (apply wc_true; exact rfl) | (apply wc_ret; try simp only [thenE, inBlockE, bodyQ]) | (apply wr_skip; exact rfl))
    exact leave1 (v := .bool false) rfl rfl ⟨rfl, h, Keeps.refl _ _⟩
  obtain ⟨n, hn, hN⟩ := h.at hx
  have hup : upT T id = n.up := by unfold upT; rw [if_pos hin, ndAt_of hn]
  have hpar : parT T id = n.par := by unfold parT; rw [if_pos hin, ndAt_of hn]
  obtain ⟨i, rfl⟩ := Int.eq_ofNat_of_zero_le (show 0 ≤ id by unfold inT at hin; omega)
  rw [Int.toNat_natCast] at hx hn
  have hi1 : i ≠ 0 := by unfold inT at hin; omega
  have hxm := List.mem_of_getElem? hx
  obtain ⟨b, hdb⟩ : ∃ b, x.db = some b := by
    cases hd : x.db with
    | none => exact absurd hd ((hwf i n x hn hx).2.2.1 hi1)
    | some b => exact ⟨b, rfl⟩
  have hc := hN.cells
  have hcl : ndC n x = [.int .i64 n.depth, x.cv, .bool n.up, .int .i64 n.par, .map (some b)] := by rw [ndC, hdb]
  rw [hcl] at hc
  cases hu : n.up with
  | false =>
    obtain ⟨e1, e2⟩ := hno (fun hh => by have := hh.2.1; rw [hup, hu] at this; cases this)
    rw [e1, e2]
    rw [hu] at hc
    (repeat first | (apply wr_move; exact rfl; with_reducible (conv => enter [6, 3]; whnf)) | (apply wr_assign; exact rfl; with_reducible (conv => enter [6, 3]; whnf)) | apply wr_end | apply wc_seq | apply wc_region | (apply wr_fieldAddr; iterate 2 exact rfl) | (apply wr_not; iterate 2 exact rfl) | (apply wr_nilCheck; iterate 2 exact rfl) | (apply wr_load; (iterate 3 exact rfl); (focus repeat first | with_reducible assumption | exact heap_alloc_same _ _ | exact World.putObj_heap_same (by first | omega | (simp only [World.size_alloc, World.putObj_size, ne_eq]; omega)) | ((first | refine hAl ?_ ?_ | refine hPu ?_ ?_); focus first | omega | (simp only [World.size_alloc, World.putObj_size, ne_eq]; omega))); exact rfl; conv => enter [6, 3]; whnf) | (apply wr_pick (t := true); (iterate 2 exact rfl); with_reducible (conv => enter [6, 3]; whnf)) | (apply wr_pick (t := false); (iterate 2 exact rfl); with_reducible (conv => enter [6, 3]; whnf)) | (apply wr_extract; (iterate 3 exact rfl); with_reducible (conv => enter [6, 3]; whnf)) | (apply wc_true; exact rfl) | (apply wc_ret; try simp only [thenE, inBlockE, bodyQ]) | (apply wr_skip; exact rfl))
    exact leave1 (v := .bool false) rfl rfl ⟨rfl, h, Keeps.refl _ _⟩
  | true =>
    rw [hu] at hc
    (repeat first | (apply wr_move; exact rfl; with_reducible (conv => enter [6, 3]; whnf)) | (apply wr_assign; exact rfl; with_reducible (conv => enter [6, 3]; whnf)) | apply wr_end | apply wc_seq | apply wc_region | (apply wr_fieldAddr; iterate 2 exact rfl) | (apply wr_not; iterate 2 exact rfl) | (apply wr_nilCheck; iterate 2 exact rfl) | (apply wr_load; (iterate 3 exact rfl); (focus repeat first | with_reducible assumption | exact heap_alloc_same _ _ | exact World.putObj_heap_same (by first | omega | (simp only [World.size_alloc, World.putObj_size, ne_eq]; omega)) | ((first | refine hAl ?_ ?_ | refine hPu ?_ ?_); focus first | omega | (simp only [World.size_alloc, World.putObj_size, ne_eq]; omega))); exact rfl; conv => enter [6, 3]; whnf) | (apply wr_pick (t := false); (iterate 2 exact rfl); with_reducible (conv => enter [6, 3]; whnf)) | (apply wr_extract; (iterate 3 exact rfl); with_reducible (conv => enter [6, 3]; whnf)))
    refine wr_call (vs := [.pointer (some ⟨tb, 0, none⟩), .int .i64 of]) rfl (up_ca of w1 h) rfl ?_
    rintro v w2 ⟨rfl, rfl⟩
    cases hof : upT T of with
    | false =>
      obtain ⟨e1, e2⟩ := hno (fun hh => by have := hh.2.2.1; rw [hof] at this; cases this)
      rw [e1, e2]
      (repeat first | (apply wr_move; exact rfl; with_reducible (conv => enter [6, 3]; whnf)) | (apply wr_assign; exact rfl; with_reducible (conv => enter [6, 3]; whnf)) | apply wr_end | apply wc_seq | apply wc_region | (apply wr_not; iterate 2 exact rfl) | (apply wr_pick (t := true); (iterate 2 exact rfl); with_reducible (conv => enter [6, 3]; whnf)) | (apply wr_pick (t := false); (iterate 2 exact rfl); with_reducible (conv => enter [6, 3]; whnf)) | (apply wc_true; exact rfl) | (apply wc_ret; try simp only [thenE, inBlockE, bodyQ]) | (apply wr_skip; exact rfl))
      exact leave1 (v := .bool false) rfl rfl ⟨rfl, h, Keeps.refl _ _⟩
    | true =>
      by_cases hp : n.par = of
      rotate_left
      · obtain ⟨e1, e2⟩ := hno (fun hh => hp (by rw [← hpar]; exact hh.2.2.2))
        rw [e1, e2]
        (repeat first | (apply wr_move; exact rfl; with_reducible (conv => enter [6, 3]; whnf)) | (apply wr_assign; exact rfl; with_reducible (conv => enter [6, 3]; whnf)) | apply wr_end | apply wc_seq | apply wc_region | (apply wr_fieldAddr; iterate 2 exact rfl) | (apply wr_not; iterate 2 exact rfl) | (apply wr_nilCheck; iterate 2 exact rfl) | (apply wr_load; (iterate 3 exact rfl); (focus repeat first | with_reducible assumption | exact heap_alloc_same _ _ | exact World.putObj_heap_same (by first | omega | (simp only [World.size_alloc, World.putObj_size, ne_eq]; omega)) | ((first | refine hAl ?_ ?_ | refine hPu ?_ ?_); focus first | omega | (simp only [World.size_alloc, World.putObj_size, ne_eq]; omega))); exact rfl; conv => enter [6, 3]; whnf) | (apply wr_cmp; (iterate 3 exact rfl); exact cmpT (by dsimp only [cmpP]; first | done | omega)) | (apply wr_pick (t := false); (iterate 2 exact rfl); with_reducible (conv => enter [6, 3]; whnf)) | (apply wc_true; exact rfl) | (apply wc_ret; try simp only [thenE, inBlockE, bodyQ]))
        exact leave1 (v := .bool false) rfl rfl ⟨rfl, h, Keeps.refl _ _⟩
      have hC : doubtC T (i : Int) of := ⟨hin, by rw [hup, hu], hof, by rw [hpar, hp]⟩
      rw [decide_eq_true hC, show doubtF T (i : Int) of = doubtT T i of by unfold doubtF; rw [if_pos hC, Int.toNat_natCast]]
      have hgn : T.getD i ndZ = n := by simp [hn]
      have hmet := hN.doubt
      rw [hdb] at hmet
      obtain ⟨M, hM, hMg⟩ := hmet
      (repeat first | (apply wr_move; exact rfl; with_reducible (conv => enter [6, 3]; whnf)) | apply wr_end | apply wc_seq | apply wc_region | apply wc_skip | (apply wr_fieldAddr; iterate 2 exact rfl) | (apply wr_not; iterate 2 exact rfl) | (apply wr_nilCheck; iterate 2 exact rfl) | (apply wr_load; (iterate 3 exact rfl); (focus repeat first | with_reducible assumption | exact heap_alloc_same _ _ | exact World.putObj_heap_same (by first | omega | (simp only [World.size_alloc, World.putObj_size, ne_eq]; omega)) | ((first | refine hAl ?_ ?_ | refine hPu ?_ ?_); focus first | omega | (simp only [World.size_alloc, World.putObj_size, ne_eq]; omega))); exact rfl; conv => enter [6, 3]; whnf) | (apply wr_cmp; (iterate 3 exact rfl); exact cmpF (by dsimp only [cmpN]; first | done | omega)) | (apply wr_pick (t := false); (iterate 2 exact rfl); with_reducible (conv => enter [6, 3]; whnf)) | (apply wc_false; exact rfl))
      refine wr_update (enc := encI .i64) (l := M) (a := of) (v := .bool true) rfl rfl hM rfl rfl ?_
      intro w3 hM3 hk3
      have A := h.apart
      have hmet3 : MetAt w3 b (of :: n.doubt) := ⟨_, hM3, fun y => by
        rw [getM_putM, hMg]
        by_cases hy : y = of
        · simp [hy]
        · simp [hy]⟩
      have hneb : ∀ {w' : World} {e : TypeId} {c : Array Value} {fr : Nat × Nat} {b' : Nat}, MetAt w' b n.doubt → w'.heap[b']? = some (.cells c e fr) → b' ≠ b := fun hm hb' e => by
        subst e
        obtain ⟨M', ⟨es, cl, hh, _⟩, _⟩ := hm
        rw [hh] at hb'; cases hb'
      have hc3 := hk3.heap hc (hneb ⟨M, hM, hMg⟩ hc)
      have hN3 : NodeAt w3 (doubtN of n) x := ⟨by rw [hc3, ndC, hdb, ← hu]; rfl, hN.cands.keep hk3 (fun b' hb' e => (A.cv x hxm x hxm b' hb').2 (by rw [hdb, e])), by rw [hdb]; exact hmet3⟩
      have h3 := h.upd hx (hk3.mono (fun b' _ e => .inr (by rw [hdb, e]))) hN3
      have hwf3 : WFT (T.set i (doubtN of n)) X := hwf.set hn rfl
      have hn3 : (T.set i (doubtN of n))[i]? = some (doubtN of n) := List.getElem?_set_self (List.getElem?_eq_some_iff.1 hn).1
      (repeat first | (apply wr_move; exact rfl; with_reducible (conv => enter [6, 3]; whnf)) | apply wr_end | apply wc_seq | apply wc_region)
      refine wr_call (vs := [.pointer (some ⟨tb, 0, none⟩), .pointer (some ⟨x.blk, 0, none⟩)]) rfl (choose_ca w3 h3 hwf3 hn3 hx) rfl ?_
      rintro vv w4 ⟨rfl, h4, hk4⟩
      rw [← chooseT_eq hn3] at h4
      have hwf4 := chooseT_wf hwf3 i
      obtain ⟨T2, hT2⟩ : ∃ T2, T2 = chooseT (T.set i (doubtN of n)) i := ⟨_, rfl⟩
      have hdT : doubtT T i of = if (T2.getD i ndZ).par = 0 then chooseT (T2.set i (clearN (T2.getD i ndZ))) i else T2 := by rw [hT2]; unfold doubtT; rw [hgn]
      rw [← hT2] at h4 hwf4
      have hND : ∀ b', ND1 x b' → TD X b' := fun b' hb' => ⟨x, hxm, hb'⟩
      have hk24 : Keeps (TD X) w2 w4 := (hk3.mono (fun b' _ e => hND b' (.inr (by rw [hdb, e])))).trans (hk4.mono (fun b' _ e => hND b' (.inl e.symm)))
      obtain ⟨m, hm2, hN4⟩ := h4.at hx
      have hgm : T2.getD i ndZ = m := by simp [hm2]
      rw [hgm] at hdT
      rw [hdT]
      have hc4 := hN4.cells
      have hcl4 : ndC m x = [.int .i64 m.depth, x.cv, .bool m.up, .int .i64 m.par, .map (some b)] := by rw [ndC, hdb]
      rw [hcl4] at hc4
      by_cases hp0 : m.par = 0
      rotate_left
      · rw [if_neg hp0]
        (repeat first | (apply wr_move; exact rfl; with_reducible (conv => enter [6, 3]; whnf)) | (apply wr_assign; exact rfl; with_reducible (conv => enter [6, 3]; whnf)) | apply wr_end | apply wc_seq | apply wc_region | apply wc_skip | (apply wr_fieldAddr; iterate 2 exact rfl) | (apply wr_nilCheck; iterate 2 exact rfl) | (apply wr_load; (iterate 3 exact rfl); (focus repeat first | with_reducible assumption | exact heap_alloc_same _ _ | exact World.putObj_heap_same (by first | omega | (simp only [World.size_alloc, World.putObj_size, ne_eq]; omega)) | ((first | refine hAl ?_ ?_ | refine hPu ?_ ?_); focus first | omega | (simp only [World.size_alloc, World.putObj_size, ne_eq]; omega))); exact rfl; conv => enter [6, 3]; whnf) | (apply wr_cmp; (iterate 3 exact rfl); exact cmpF (by dsimp only [cmpN]; first | done | omega)) | (apply wc_false; exact rfl) | (apply wc_ret; try simp only [thenE, inBlockE, bodyQ]))
        exact leave1 (v := .bool true) rfl rfl ⟨rfl, h4, hk24⟩
      rw [if_pos hp0]
      have hmet4 := hN4.doubt
      rw [hdb] at hmet4
      obtain ⟨M4, hM4, hMg4⟩ := hmet4
      (repeat first | (apply wr_move; exact rfl; with_reducible (conv => enter [6, 3]; whnf)) | apply wr_end | apply wc_seq | apply wc_region | (apply wr_fieldAddr; iterate 2 exact rfl) | (apply wr_nilCheck; iterate 2 exact rfl) | (apply wr_load; (iterate 3 exact rfl); (focus repeat first | with_reducible assumption | exact heap_alloc_same _ _ | exact World.putObj_heap_same (by first | omega | (simp only [World.size_alloc, World.putObj_size, ne_eq]; omega)) | ((first | refine hAl ?_ ?_ | refine hPu ?_ ?_); focus first | omega | (simp only [World.size_alloc, World.putObj_size, ne_eq]; omega))); exact rfl; conv => enter [6, 3]; whnf) | (apply wr_cmp; (iterate 3 exact rfl); exact cmpT (by dsimp only [cmpP]; first | done | omega)) | (apply wc_true; exact rfl))
      refine wr_clear rfl rfl hM4 ?_
      intro w5 hM5 hk5
      have hmet5 : MetAt w5 b [] := ⟨[], hM5, fun c => by simp [getM]⟩
      have A4 := h4.apart
      have hc5 := hk5.heap hc4 (fun e => A4.bd x hxm x hxm (by rw [hdb, e]))
      have hN5 : NodeAt w5 (clearN m) x := ⟨by rw [hc5, ndC, hdb]; rfl, hN4.cands.keep hk5 (fun b' hb' e => (A4.cv x hxm x hxm b' hb').2 (by rw [hdb, e])), by rw [hdb]; exact hmet5⟩
      have h5 := h4.upd hx (hk5.mono (fun b' _ e => .inr (by rw [hdb, e]))) hN5
      have hwf5 : WFT (T2.set i (clearN m)) X := hwf4.set hm2 rfl
      have hn5 : (T2.set i (clearN m))[i]? = some (clearN m) := List.getElem?_set_self (List.getElem?_eq_some_iff.1 hm2).1
      (repeat first | (apply wr_move; exact rfl; with_reducible (conv => enter [6, 3]; whnf)) | apply wr_end | apply wc_region)
      refine wr_call (vs := [.pointer (some ⟨tb, 0, none⟩), .pointer (some ⟨x.blk, 0, none⟩)]) rfl (choose_ca w5 h5 hwf5 hn5 hx) rfl ?_
      rintro vv w6 ⟨rfl, h6, hk6⟩
      rw [← chooseT_eq hn5] at h6
      (repeat first | (apply wr_assign; exact rfl; with_reducible (conv => enter [6, 3]; whnf)) | apply wr_end | apply wc_seq | apply wc_region | (apply wc_ret; try simp only [thenE, inBlockE, bodyQ]))
      exact leave1 (v := .bool true) rfl rfl ⟨rfl, h6, hk24.trans ((hk5.mono (fun b' _ e => hND b' (.inr (by rw [hdb, e])))).trans (hk6.mono (fun b' _ e => hND b' (.inl e.symm))))⟩
end Go.Proofs.YthjpgkefifkhjaaDoor
