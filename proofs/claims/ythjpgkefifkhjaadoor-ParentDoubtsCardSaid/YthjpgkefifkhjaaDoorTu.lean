/- What falls and rises leave as it was: plain facts. -/
import Derived.Test.YthjpgkefifkhjaaDoorTt
import Derived.Test.YthjpgkefifkhjaaDoorTq
namespace Go.Proofs.YthjpgkefifkhjaaDoor
open Go Go.V Go.RowKit
set_option linter.unusedVariables false
set_option linter.unusedSimpArgs false

/-- The same nodes, as they were given. -/
structure SameSh (T T' : List ND) : Prop where
  len : T'.length = T.length
  el : ∀ (k : Nat) (n n' : ND), T[k]? = some n → T'[k]? = some n' → n'.depth = n.depth ∧ n'.cands = n.cands
theorem SameSh.refl (T : List ND) : SameSh T T := ⟨rfl, fun k n n' h h' => by rw [h] at h'; cases h'; exact ⟨rfl, rfl⟩⟩
theorem SameSh.trans {A B C : List ND} (h : SameSh A B) (g : SameSh B C) : SameSh A C := by
  refine ⟨g.len.trans h.len, fun k n n' h1 h2 => ?_⟩
  have hl := (List.getElem?_eq_some_iff.1 h1).1
  have hb : B[k]? = some (B[k]'(by rw [h.len]; exact hl)) := by simp [h.len, hl]
  obtain ⟨a1, a2⟩ := h.el k _ _ h1 hb
  obtain ⟨b1, b2⟩ := g.el k _ _ hb h2
  exact ⟨b1.trans a1, b2.trans a2⟩
theorem SameSh.set {T : List ND} {i : Nat} {n' : ND} (h : ∀ n, T[i]? = some n → n'.depth = n.depth ∧ n'.cands = n.cands) : SameSh T (T.set i n') := by
  refine ⟨List.length_set, fun k n m h1 h2 => ?_⟩
  by_cases hk : i = k
  · subst hk
    rw [List.getElem?_set_self (List.getElem?_eq_some_iff.1 h1).1] at h2
    cases h2
    exact h n h1
  · rw [List.getElem?_set_ne hk, h1] at h2
    cases h2
    exact ⟨rfl, rfl⟩
theorem getD_of {T : List ND} {k : Nat} {n : ND} (h : T[k]? = some n) : T.getD k ndZ = n := by simp [h]
theorem SameSh.choose (T : List ND) (j : Nat) : SameSh T (chooseT T j) := SameSh.set fun n h => by rw [getD_of h]; exact ⟨rfl, rfl⟩
theorem SameSh.fold (l : List Nat) : ∀ T : List ND, SameSh T (l.foldl chooseT T) := by
  induction l with
  | nil => exact fun T => SameSh.refl T
  | cons j l ih => exact fun T => (SameSh.choose T j).trans (ih _)
theorem SameSh.fall (T : List ND) (id : Int) : SameSh T (fallF T id) := by
  unfold fallF
  split
  · unfold fallT
    exact ((SameSh.set fun n h => by rw [getD_of h]; exact ⟨rfl, rfl⟩).trans (SameSh.choose _ _)).trans (SameSh.fold _ _)
  · exact SameSh.refl T
theorem SameSh.step (id : Int) (T : List ND) (k : Nat) : SameSh T (stepR id T k) := by
  unfold stepR
  dsimp only
  have h1 : SameSh T (T.set k (unDoubt id (T.getD k ndZ))) := SameSh.set fun n h => by rw [getD_of h]; exact ⟨rfl, rfl⟩
  split
  · exact h1.trans (SameSh.choose _ _)
  · exact h1
theorem SameSh.foldR (id : Int) (l : List Nat) : ∀ T : List ND, SameSh T (l.foldl (stepR id) T) := by
  induction l with
  | nil => exact fun T => SameSh.refl T
  | cons j l ih => exact fun T => (SameSh.step id T j).trans (ih _)
theorem SameSh.rise (T : List ND) (id : Int) : SameSh T (riseF T id) := by
  unfold riseF
  split
  · unfold riseT
    exact ((SameSh.set fun n h => by rw [getD_of h]; exact ⟨rfl, rfl⟩).trans (SameSh.choose _ _)).trans (SameSh.foldR _ _ _)
  · exact SameSh.refl T
theorem upT_step (id : Int) (T : List ND) (k : Nat) (c : Int) : upT (stepR id T k) c = upT T c := by
  have h1 : ∀ c, upT (T.set k (unDoubt id (T.getD k ndZ))) c = upT T c := fun c => by
    by_cases hl : k < T.length
    · have hn : T[k]? = some T[k] := by simp [hl]
      rw [getD_of hn]
      exact upT_set (n' := unDoubt id T[k]) hn rfl c
    · rw [List.set_eq_of_length_le (by omega)]
  unfold stepR
  dsimp only
  split
  · rw [upT_choose, h1]
  · exact h1 c
theorem upT_foldR (id : Int) (l : List Nat) : ∀ (T : List ND) (c : Int), upT (l.foldl (stepR id) T) c = upT T c := by
  induction l with
  | nil => exact fun T c => rfl
  | cons j l ih => exact fun T c => (ih _ c).trans (upT_step id T j c)
theorem upT_fallF {T : List ND} {id : Int} (h : inT T id) (h1 : id ≠ 1) (c : Int) : upT (fallF T id) c = if c = id then false else upT T c := by
  obtain ⟨i, rfl⟩ := Int.eq_ofNat_of_zero_le (show 0 ≤ id by unfold inT at h; omega)
  unfold fallF
  by_cases hu : upT T (i : Int) = true
  · rw [if_pos ⟨h, h1, hu⟩, Int.toNat_natCast]
    have hl : i < T.length := by unfold inT at h; omega
    have hn : T[i]? = some T[i] := by simp [hl]
    unfold fallT
    rw [upT_fold, upT_choose, getD_of hn, upT_setN hn (by unfold inT at h; omega)]
    rfl
  · rw [if_neg (fun g => hu g.2.2)]
    by_cases hc : c = (i : Int)
    · subst hc
      rw [if_pos rfl]
      exact Bool.eq_false_iff.2 hu
    · rw [if_neg hc]
theorem upT_riseF {T : List ND} {id : Int} (h : inT T id) (c : Int) : upT (riseF T id) c = if c = id then true else upT T c := by
  obtain ⟨i, rfl⟩ := Int.eq_ofNat_of_zero_le (show 0 ≤ id by unfold inT at h; omega)
  unfold riseF
  by_cases hu : upT T (i : Int) = false
  · rw [if_pos ⟨h, hu⟩, Int.toNat_natCast]
    have hl : i < T.length := by unfold inT at h; omega
    have hn : T[i]? = some T[i] := by simp [hl]
    unfold riseT
    rw [upT_foldR, upT_choose, getD_of hn, upT_setN hn (by unfold inT at h; omega)]
    rfl
  · rw [if_neg (fun g => hu g.2)]
    by_cases hc : c = (i : Int)
    · subst hc
      rw [if_pos rfl]
      exact (Bool.not_eq_false (upT T ↑i)).mp hu
    · rw [if_neg hc]
theorem Calm.fallF {T : List ND} (h : Calm T) (hZ : Z0 T) (id : Int) : Calm (fallF T id) := by
  unfold Proofs.YthjpgkefifkhjaaDoor.fallF
  split
  · rename_i hc
    have := hc.1
    unfold inT at this
    exact h.fall hZ (by omega) (by omega)
  · exact h
theorem Calm.riseF {T : List ND} (h : Calm T) (id : Int) : Calm (riseF T id) := by
  unfold Proofs.YthjpgkefifkhjaaDoor.riseF
  split
  · rename_i hc
    have hin := hc.1
    unfold inT at hin
    refine h.rise (by omega) (by omega) ?_
    have e : ((id.toNat : Nat) : Int) = id := by omega
    rw [e]
    exact hc.2
  · exact h
/-- What is so of the tree while nobody is doubted. -/
structure Ok4 (N : List NG) (X : List NL) (T : List ND) : Prop where
  wf : WFT T X
  z : Z0 T
  calm : Calm T
  sh : SameSh (newT N) T
  xl : X.length = T.length
theorem Ok4.len {N : List NG} {X : List NL} {T : List ND} (h : Ok4 N X T) : T.length = N.length + 1 := by rw [h.sh.len, newT_len]
theorem Ok4.fall {N : List NG} {X : List NL} {T : List ND} (h : Ok4 N X T) (id : Int) : Ok4 N X (fallF T id) :=
  ⟨(fallF_wf h.wf id).1, h.z.fall id, h.calm.fallF h.z id, h.sh.trans (SameSh.fall T id), by rw [h.xl, (fallF_wf h.wf id).2]⟩
theorem Ok4.rise {N : List NG} {X : List NL} {T : List ND} (h : Ok4 N X T) (id : Int) : Ok4 N X (riseF T id) :=
  ⟨(riseF_wf h.wf id).1, h.z.rise id, h.calm.riseF id, h.sh.trans (SameSh.rise T id), by rw [h.xl, (riseF_wf h.wf id).2]⟩
theorem Ok4.new {N : List NG} {X : List NL} (h : WFT (newT N) X) (hx : X.length = (newT N).length) : Ok4 N X (newT N) := ⟨h, newT_Z N, calm_new N, SameSh.refl _, hx⟩
theorem newT_get {N : List NG} {k : Nat} {n : NG} (h : N[k]? = some n) : ∃ m, (newT N)[k + 1]? = some m ∧ m.depth = n.1 ∧ m.cands = n.2 ∧ m.up = true := by
  refine ⟨chooseN (initT N) (upN n.1 n.2), ?_, rfl, rfl, rfl⟩
  unfold newT
  rw [List.getElem?_map]
  have : (initT N)[k + 1]? = some (upN n.1 n.2) := by unfold initT; simp [h]
  rw [this]; rfl
/-- A node of the tree, by what was given. -/
theorem Ok4.node {N : List NG} {X : List NL} {T : List ND} (h : Ok4 N X T) {k : Nat} {n : NG} (hn : N[k]? = some n) : ∃ m, T[k + 1]? = some m ∧ m.depth = n.1 ∧ m.cands = n.2 ∧ m.up = upT T ((k + 1 : Nat) : Int) ∧ parAt T (k + 1) = if upT T ((k + 1 : Nat) : Int) = true then (n.2.find? (upT T)).getD 0 else 0 := by
  obtain ⟨m0, hm0, hd, hc, _⟩ := newT_get hn
  have hl := (List.getElem?_eq_some_iff.1 hm0).1
  have hl' : k + 1 < T.length := by rw [h.sh.len]; exact hl
  have hm : T[k + 1]? = some T[k + 1] := by simp [hl']
  obtain ⟨e1, e2⟩ := h.sh.el _ _ _ hm0 hm
  have hup : T[k + 1].up = upT T ((k + 1 : Nat) : Int) := by
    have hin : inT T ((k + 1 : Nat) : Int) := by unfold inT; omega
    unfold upT
    rw [if_pos hin, ndAt_of (n := T[k + 1]) (by rw [Int.toNat_natCast]; exact hm)]
  refine ⟨T[k + 1], hm, e1.trans hd, e2.trans hc, hup, ?_⟩
  have hp : parAt T (k + 1) = T[k + 1].par := by unfold parAt; rw [getD_of hm]
  rw [hp, h.calm.par hm, hup, e2.trans hc]
/-- Who is up as at first is the tree as at first. -/
theorem Ok4.same {N : List NG} {X : List NL} {T : List ND} (h : Ok4 N X T) (hu : ∀ c, upT T c = upT (newT N) c) : T = newT N := by
  refine List.ext_getElem? fun k => ?_
  by_cases hl : k < T.length
  · have hl' : k < (newT N).length := by rw [← h.sh.len]; exact hl
    have hm : T[k]? = some T[k] := by simp [hl]
    have hm' : (newT N)[k]? = some (newT N)[k] := by simp [hl']
    by_cases h0 : k = 0
    · subst h0
      exact (show T[0]? = some ndZ from h.z).trans (show (newT N)[0]? = some ndZ from newT_Z N).symm
    · rw [hm, hm']
      obtain ⟨e1, e2⟩ := h.sh.el k _ _ hm' hm
      have hc := calm_new N
      have d1 := h.calm.db k _ hm
      have d2 := hc.db k _ hm'
      have u : T[k].up = (newT N)[k].up := by
        have g1 : upT T (k : Int) = T[k].up := by
          unfold upT
          rw [if_pos (by unfold inT; omega), ndAt_of (n := T[k]) (by rw [Int.toNat_natCast]; exact hm)]
        have g2 : upT (newT N) (k : Int) = (newT N)[k].up := by
          unfold upT
          rw [if_pos (by unfold inT; omega), ndAt_of (n := (newT N)[k]) (by rw [Int.toNat_natCast]; exact hm')]
        rw [← g1, ← g2]
        exact hu k
      have p : T[k].par = (newT N)[k].par := by
        rw [h.calm.par hm, hc.par hm', u, e2, show upT T = upT (newT N) from funext hu]
      rcases hT : T[k] with ⟨a1, a2, a3, a4, a5⟩
      rcases hT' : (newT N)[k] with ⟨b1, b2, b3, b4, b5⟩
      rw [hT, hT'] at e1 e2 u p
      rw [hT] at d1
      rw [hT'] at d2
      simp only at e1 e2 u p d1 d2
      rw [e1, e2, u, p, d1, d2]
  · rw [List.getElem?_eq_none (by omega), List.getElem?_eq_none (by rw [← h.sh.len]; omega)]
theorem Ok4.parB {N : List NG} {X : List NL} {T : List ND} (h : Ok4 N X T) (hN : N.length ≤ 80) : ParB T := by
  intro n hn
  obtain ⟨k, hk⟩ := List.getElem?_of_mem hn
  have hl := (List.getElem?_eq_some_iff.1 hk).1
  have hx : X[k]? = some (X[k]'(by rw [h.xl]; exact hl)) := by simp [h.xl, hl]
  obtain ⟨_, hc, _⟩ := h.wf k n _ hk hx
  have hlen := h.len
  rw [h.calm.par hk]
  split
  · cases hf : n.cands.find? (upT T) with
    | none => exact ⟨Int.le_refl _, by decide⟩
    | some c =>
      have := hc c (List.mem_of_find?_eq_some hf)
      unfold inT at this
      exact ⟨by show 0 ≤ c; omega, by show c < 100; omega⟩
  · exact ⟨Int.le_refl _, by decide⟩
theorem upT_new {N : List NG} {c : Int} : upT (newT N) c = decide (1 ≤ c ∧ c ≤ N.length) := by
  unfold upT
  by_cases h : inT (newT N) c
  · rw [if_pos h]
    have h' := h
    unfold inT at h'
    rw [newT_len] at h'
    obtain ⟨k, hk⟩ : ∃ k : Nat, c = ((k + 1 : Nat) : Int) := ⟨(c - 1).toNat, by omega⟩
    have hkl : k < N.length := by omega
    obtain ⟨m, hm, _, _, hu⟩ := newT_get (N := N) (k := k) (n := N[k]) (by simp [hkl])
    rw [hk, ndAt_of (n := m) (by rw [Int.toNat_natCast]; exact hm), hu, decide_eq_true]
    omega
  · rw [if_neg h, decide_eq_false]
    unfold inT at h
    rw [newT_len] at h
    omega
end Go.Proofs.YthjpgkefifkhjaaDoor
