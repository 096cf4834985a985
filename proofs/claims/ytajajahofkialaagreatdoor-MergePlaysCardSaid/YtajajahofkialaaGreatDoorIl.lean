/- Set, Union, Lean of any numbers: the same answer of the code and of the reference. -/
import Derived.Test.YtajajahofkialaaGreatDoorIj
namespace Go.Proofs.YtajajahofkialaaGreatDoor
open Go Go.V Go.RowKit
set_option linter.unusedVariables false
set_option linter.unusedSimpArgs false

/-- What setting comes to: more, less, what was wrong, what is wanted then. -/
def setF (Wn : WF) (t : TY) (s : PS) : PS × PS × Int × WF :=
  if inDom t then (if fitsS Wn t t.2.toNat s = true then (lessP (unionK (updW Wn t s) t.2.toNat) (unionK Wn t.2.toNat), lessP (unionK Wn t.2.toNat) (unionK (updW Wn t s) t.2.toNat), 0, updW Wn t s) else (noneP, noneP, 4, Wn)) else (noneP, noneP, 1, Wn)
/-- The three that are told. -/
def SetT (w : World) (F : PS × PS × Int × WF) (v : Value) : Prop :=
  ∃ mn ln, v = .tuple #[SetV F.1.1 mn, SetV F.2.1.1 ln, .int .i64 F.2.2.1] ∧ SetR w F.1 (SetV F.1.1 mn) ∧ SetR w F.2.1 (SetV F.2.1.1 ln)
theorem setR_nil (w : World) : SetR w noneP (SetV false nilV) := ⟨nilV, rfl, slr_none _⟩
theorem setT_nil (w : World) (e : Int) (Wn : WF) : SetT w (noneP, noneP, e, Wn) (.tuple #[SetV false nilV, SetV false nilV, .int .i64 e]) := ⟨nilV, nilV, rfl, setR_nil w, setR_nil w⟩
theorem setF_fit {Wn : WF} {t : TY} {s : PS} {k : Nat} (hk : (k : Int) = t.2) (hin : inDom t) (hf : fitsS Wn t k s = true) : setF Wn t s = (lessP (unionK (updW Wn t s) k) (unionK Wn k), lessP (unionK Wn k) (unionK (updW Wn t s) k), 0, updW Wn t s) := by
  have e : t.2.toNat = k := by omega
  unfold setF
  rw [if_pos hin, e, if_pos hf]
theorem setF_four {Wn : WF} {t : TY} {s : PS} {k : Nat} (hk : (k : Int) = t.2) (hin : inDom t) (hf : fitsS Wn t k s = false) : setF Wn t s = (noneP, noneP, 4, Wn) := by
  have e : t.2.toNat = k := by omega
  unfold setF
  rw [if_pos hin, e, if_neg (by rw [hf]; decide)]
theorem setF_one {Wn : WF} {t : TY} {s : PS} (hin : ¬ inDom t) : setF Wn t s = (noneP, noneP, 1, Wn) := by
  unfold setF
  rw [if_neg hin]
theorem setF_ca {w : World} {ab wb : Nat} {cb : List Nat} {Wn : WF} (h : MgAt w 0 ab wb cb Wn) {p q : Addr} (hg : GloM w p q) (t : TY) {s : PS} {sv : Value} (hs : SetR w s sv) (hsf : Fine s) (hsl : s.2.length ≤ 90000) :
    Ca Tryz.prog 13 #[.pointer (some ⟨ab, 0, none⟩), .int .i64 t.1, .int .i64 t.2, sv] w fun v w' => (SetT w' (setF Wn t s) v ∧ MgAt w' 0 ab wb cb (setF Wn t s).2.2.2) ∧ Keeps (mD wb cb) w w' := by
  refine (setM_ca h hg t hs hsf hsl).mono ?_
  rintro v w' ⟨hR, hk⟩
  refine ⟨?_, hk⟩
  rcases hR with ⟨k, hk2, hin, hft, hM, mv, lv, rfl, ⟨mn, rfl, hm⟩, ⟨ln, rfl, hl⟩⟩ | ⟨k, hk2, hin, hft, hM, rfl⟩ | ⟨hn, hM, rfl⟩
  · rw [setF_fit hk2 hin hft]
    exact ⟨⟨mn, ln, rfl, ⟨mn, rfl, hm⟩, ⟨ln, rfl, hl⟩⟩, hM⟩
  · rw [setF_four hk2 hin hft]
    exact ⟨setT_nil _ _ _, hM⟩
  · rw [setF_one hn]
    exact ⟨setT_nil _ _ _, hM⟩
theorem refSetF_ca {w : World} {xb : Nat} {Wn : WF} (h : RefAt w xb Wn) (hd : ∀ t, ¬ inDom t → Wn t = noneP) (hf : ∀ t, Fine (Wn t)) (hsm : ∀ t, (Wn t).2.length ≤ 100000) (t : TY) {s : PS} {sv : Value} (hs : SetR w s sv) (hsf : Fine s) (hsl : s.2.length ≤ 90000) :
    Ca Tryz.prog 15 #[.pointer (some ⟨xb, 0, none⟩), .int .i64 t.1, .int .i64 t.2, sv] w fun v w' => (SetT w' (setF Wn t s) v ∧ RefAt w' xb (setF Wn t s).2.2.2) ∧ Keeps (· = xb) w w' := by
  by_cases hin : inDom t
  · obtain ⟨t1, t2⟩ := t
    obtain ⟨i1, i2, i3, i4⟩ := id hin
    dsimp only at i1 i2 i3 i4
    obtain ⟨a, rfl⟩ : ∃ a : Nat, t1 = (a : Int) := ⟨t1.toNat, by omega⟩
    obtain ⟨k, rfl⟩ : ∃ k : Nat, t2 = (k : Int) := ⟨t2.toNat, by omega⟩
    refine (refSetM_ca h hd hf hsm hin hs hsf hsl).mono ?_
    rintro v w' ⟨hR, hk⟩
    refine ⟨?_, hk⟩
    rcases hR with ⟨hft, hM, mv, lv, rfl, ⟨mn, rfl, hm⟩, ⟨ln, rfl, hl⟩⟩ | ⟨hft, hM, rfl⟩
    · rw [setF_fit rfl hin hft]
      exact ⟨⟨mn, ln, rfl, ⟨mn, rfl, hm⟩, ⟨ln, rfl, hl⟩⟩, hM⟩
    · rw [setF_four rfl hin hft]
      exact ⟨setT_nil _ _ _, hM⟩
  · refine (refSetZ_ca h (id := t.1) (kk := t.2) hin hs).mono ?_
    rintro v w' ⟨rfl, hM, hk⟩
    rw [setF_one hin]
    exact ⟨⟨setT_nil _ _ _, hM⟩, hk.upD⟩
theorem setF_len {Wn : WF} (h : ∀ t, (Wn t).2.length ≤ 100000) {t : TY} {s : PS} (hs : s.2.length ≤ 100000) : (setF Wn t s).1.2.length ≤ 3400000 ∧ (setF Wn t s).2.1.2.length ≤ 3400000 := by
  have h2 : ∀ u, (updW Wn t s u).2.length ≤ 100000 := fun u => by
    unfold updW
    split
    · exact hs
    · exact h u
  unfold setF
  split
  · split
    · have e1 := lessP_le (unionK (updW Wn t s) t.2.toNat) (unionK Wn t.2.toNat)
      have e2 := lessP_le (unionK Wn t.2.toNat) (unionK (updW Wn t s) t.2.toNat)
      have e3 := unionK_len h t.2.toNat
      have e4 := unionK_len h2 t.2.toNat
      exact ⟨by dsimp only; omega, by dsimp only; omega⟩
    · exact ⟨Nat.zero_le _, Nat.zero_le _⟩
  · exact ⟨Nat.zero_le _, Nat.zero_le _⟩
theorem whoL_len (Wn : WF) (kk : Int) (x : TT) : (whoL Wn kk x).length ≤ 33 := by
  unfold whoL
  rw [List.length_map]
  exact Nat.le_trans (List.length_filter_le _ _) (by rw [List.length_range]; exact Nat.le_refl _)
theorem keysL_len {Wn : WF} (h : ∀ t, (Wn t).2.length ≤ 100000) (k : Nat) : (keysL Wn k).length ≤ 3400001 := by
  unfold keysL
  rw [List.length_map]
  have h1 := listP_le (unionK Wn k)
  have h2 := unionK_len h k
  omega
/-- The union of a type, if there is such a type. -/
def unF (Wn : WF) (kk : Int) : PS := if 1 ≤ kk ∧ kk ≤ 5 then unionK Wn kk.toNat else noneP
def leF (Wn : WF) (kk : Int) : PS := if 1 ≤ kk ∧ kk ≤ 5 then leanP (unionK Wn kk.toNat) else noneP
theorem unF_len {Wn : WF} (h : ∀ t, (Wn t).2.length ≤ 100000) (kk : Int) : (unF Wn kk).2.length ≤ 3400000 := by
  unfold unF
  split
  · exact Nat.le_trans (ofP_le _) (allL_len h _)
  · exact Nat.zero_le _
theorem leF_len {Wn : WF} (h : ∀ t, (Wn t).2.length ≤ 100000) (kk : Int) : (leF Wn kk).2.length ≤ 3400000 := by
  unfold leF leanP
  split
  · split
    · exact Nat.zero_le _
    · exact Nat.le_trans (ofP_le _) (allL_len h _)
  · exact Nat.zero_le _
theorem unF_ca {w : World} {ab wb : Nat} {cb : List Nat} {Wn : WF} (h : MgAt w 0 ab wb cb Wn) (kk : Int) :
    Ca Tryz.prog 18 #[.pointer (some ⟨ab, 0, none⟩), .int .i64 kk] w fun v w' => SetR w' (unF Wn kk) v ∧ Keeps NoB w w' := by
  unfold unF
  by_cases hk : 1 ≤ kk ∧ kk ≤ 5
  · rw [if_pos hk]
    obtain ⟨k, rfl⟩ : ∃ k : Nat, kk = (k : Int) := ⟨kk.toNat, by omega⟩
    exact unionR_ca h k (by omega) (by omega) (by rw [Int.toNat_natCast])
  · rw [if_neg hk]
    refine (unionZ_ca hk).mono ?_
    rintro v w' ⟨rfl, hkc⟩
    exact ⟨setR_nil _, hkc⟩
theorem leF_ca {w : World} {ab wb : Nat} {cb : List Nat} {Wn : WF} (h : MgAt w 0 ab wb cb Wn) (kk : Int) :
    Ca Tryz.prog 22 #[.pointer (some ⟨ab, 0, none⟩), .int .i64 kk] w fun v w' => SetR w' (leF Wn kk) v ∧ Keeps NoB w w' := by
  unfold leF
  by_cases hk : 1 ≤ kk ∧ kk ≤ 5
  · rw [if_pos hk]
    obtain ⟨k, rfl⟩ : ∃ k : Nat, kk = (k : Int) := ⟨kk.toNat, by omega⟩
    rw [Int.toNat_natCast]
    exact leanM_ca h k (by omega) (by omega)
  · rw [if_neg hk]
    exact leanZ_ca hk
theorem refUnF_ca {w : World} {xb : Nat} {Wn : WF} (h : RefAt w xb Wn) (hd : ∀ t, ¬ inDom t → Wn t = noneP) (hf : ∀ t, Fine (Wn t)) (hsm : ∀ t, (Wn t).2.length ≤ 100000) (kk : Int) :
    Ca Tryz.prog 19 #[.pointer (some ⟨xb, 0, none⟩), .int .i64 kk] w fun v w' => SetR w' (unF Wn kk) v ∧ Keeps NoB w w' := by
  unfold unF
  by_cases hk : 1 ≤ kk ∧ kk ≤ 5
  · rw [if_pos hk]
    obtain ⟨k, rfl⟩ : ∃ k : Nat, kk = (k : Int) := ⟨kk.toNat, by omega⟩
    rw [Int.toNat_natCast]
    exact refUnion14_ca h hd hf hsm k (by omega) (by omega)
  · rw [if_neg hk]
    exact refUnionZ_ca hk
theorem refLeF_ca {w : World} {xb : Nat} {Wn : WF} (h : RefAt w xb Wn) (hd : ∀ t, ¬ inDom t → Wn t = noneP) (hf : ∀ t, Fine (Wn t)) (hsm : ∀ t, (Wn t).2.length ≤ 100000) (kk : Int) :
    Ca Tryz.prog 23 #[.pointer (some ⟨xb, 0, none⟩), .int .i64 kk] w fun v w' => SetR w' (leF Wn kk) v ∧ Keeps NoB w w' := by
  have e : leF Wn kk = leanP (unF Wn kk) := by
    unfold leF unF
    split
    · rfl
    · rfl
  rw [e]
  exact refLean_ca fun w' hk => refUnF_ca (h.keep hk) hd hf hsm kk
theorem wrap_nat (z : Int) : ∃ u : Nat, IntKind.u64.wrap z = (u : Int) ∧ u < 18446744073709551616 := ⟨(IntKind.u64.wrap z).toNat, by rw [IntKind.wrap_u64]; omega, by rw [IntKind.wrap_u64]; omega⟩
theorem ints_at {w : World} {v : Value} {l : List Int} (h : SlR w 1 v l.length (IL l)) : ∃ a c, v = .slice a l.length c ∧ (0 < l.length → ∃ b o, a = some ⟨b, o, none⟩ ∧ ∃ cur e fr, w.heap[b]? = some (.cells cur e fr) ∧ ∀ i c, l[i]? = some c → cur[o + i * 1]? = some (.int .i64 c)) := by
  obtain ⟨a, c, rfl, hc, hat⟩ := h.shape
  refine ⟨a, c, rfl, fun hp => ?_⟩
  obtain ⟨b, o, rfl, cur, e, fr, hb, hr⟩ := hat hp
  refine ⟨b, o, rfl, cur, e, fr, hb, fun i c hi => ?_⟩
  have hlt := (List.getElem?_eq_some_iff.1 hi).1
  rw [Nat.mul_one, hr i (by omega)]
  exact IL_get hi
end Go.Proofs.YtajajahofkialaaGreatDoor
