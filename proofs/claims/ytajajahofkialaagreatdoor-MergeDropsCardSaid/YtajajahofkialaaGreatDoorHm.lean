/- merge: what laws share. -/
import Derived.Test.YtajajahofkialaaGreatDoorHl
namespace Go.Proofs.YtajajahofkialaaGreatDoor
open Go Go.V Go.RowKit
set_option linter.unusedVariables false
set_option linter.unusedSimpArgs false

theorem SetR.keepM {D : Nat → Prop} {w w' : World} {s : PS} {v : Value} (h : SetR w s v) (k : Keeps D w w') (hD : ∀ b, D b → ∀ c t r, w.heap[b]? ≠ some (.cells c t r)) : SetR w' s v := by
  obtain ⟨nv, rfl, hl, a, cp, rfl, hcp, h⟩ := h
  refine ⟨_, rfl, hl, a, cp, rfl, hcp, ?_⟩
  rcases h with h | ⟨b, o, cur, e, fr', rfl, hb, hr⟩
  · exact .inl h
  · exact .inr ⟨b, o, cur, e, fr', rfl, k.heap hb (fun e => hD _ e _ _ _ hb), hr⟩
theorem own_keepM {D : Nat → Prop} {w w' : World} {base sz n : Nat} {T : TypeId} {v : Value} {xs : List Value} (h : w.ownsRow base T sz v n xs) (k : Keeps D w w') (hD : ∀ b, D b → ∀ c t r, w.heap[b]? ≠ some (.cells c t r)) : w'.ownsRow base T sz v n xs := own_keep h k fun q hq e => by
  rcases h.2 with ⟨rfl, _⟩ | ⟨g, cap, cur, rfl, _, hg, _⟩
  · cases hq
  · simp [Value.ownBlock] at hq
    subst hq
    exact hD _ e _ _ _ hg
theorem heap_keepM {D : Nat → Prop} {w w' : World} {b : Nat} {c : Array Value} {T : TypeId} {r : Nat × Nat} (h : w.heap[b]? = some (.cells c T r)) (k : Keeps D w w') (hD : ∀ b, D b → ∀ c t r, w.heap[b]? ≠ some (.cells c t r)) : w'.heap[b]? = some (.cells c T r) := k.heap h (fun e => hD _ e _ _ _ h)
/-! ### What all want, set by set -/
theorem mem_allL {Wn : WF} {k : Nat} {x : TT} : x ∈ allL Wn k ↔ ∃ i : Nat, i < 33 ∧ x ∈ listP (Wn ((i : Int), (k : Int))) := by
  unfold allL
  rw [List.mem_flatMap]
  constructor
  · rintro ⟨i, hi, h⟩
    exact ⟨i, List.mem_range.1 hi, h⟩
  · rintro ⟨i, hi, h⟩
    exact ⟨i, List.mem_range.2 hi, h⟩
theorem unionK_eq {Wn : WF} {k : Nat} {U : PS} (hU : Fine U) (h : ∀ x, x ∈ allL Wn k ↔ x ∈ listP U) : unionK Wn k = U := (ofP_congr h).trans (ofP_listP hU)
theorem unionK_no (k : Nat) : unionK noW k = noneP := unionK_eq (nil_fine false) fun x => by
  rw [mem_allL]
  constructor
  · rintro ⟨i, _, h⟩
    exact absurd h (by simp [noneP, listP])
  · intro h
    exact absurd h (by simp [noneP, listP])
theorem mem_listU {Wn : WF} (hf : ∀ t, Fine (Wn t)) {k : Nat} (x : TT) : x ∈ listP (unionK Wn k) ↔ x ∈ allL Wn k := by
  unfold unionK
  rw [mem_listP, mem_ofP]
  show (decide (star ∈ allL Wn k) = true ∧ x = star) ∨ _ ↔ _
  rw [decide_eq_true_eq]
  constructor
  · rintro (⟨h, rfl⟩ | h)
    · exact h
    · exact h.1
  · intro h
    obtain ⟨i, _, hi⟩ := mem_allL.1 h
    rcases (mem_listP _ x).1 hi with ⟨_, rfl⟩ | h2
    · exact .inl ⟨h, rfl⟩
    · exact .inr ⟨h, (hf _).2 x h2⟩
/-- Somebody who wanted nothing wants something. -/
theorem unionK_add {Wn : WF} (hf : ∀ t, Fine (Wn t)) {t : TY} (hd : inDom t) (hn : Wn t = noneP) {s : PS} (hs : Fine s) {k : Nat} (hk : (k : Int) = t.2) : unionK (updW Wn t s) k = unionP [unionK Wn k, s] := by
  refine unionK_eq (union_fine2 (unionK_fine _ _) hs) fun x => ?_
  obtain ⟨n, hn1⟩ := Int.eq_ofNat_of_zero_le (show 0 ≤ t.1 by have := hd.1; omega)
  have htn : ((n : Int), (k : Int)) = t := Prod.ext hn1.symm hk
  have hl : x ∈ listP (unionP [unionK Wn k, s]) ↔ x ∈ listP (unionK Wn k) ∨ x ∈ listP s := by
    rw [mem_listP, mem_listP, mem_listP, mem_union2, union_all2, Bool.or_eq_true]
    constructor
    · rintro (⟨h1 | h1, h2⟩ | h1 | h1)
      · exact .inl (.inl ⟨h1, h2⟩)
      · exact .inr (.inl ⟨h1, h2⟩)
      · exact .inl (.inr h1)
      · exact .inr (.inr h1)
    · rintro ((⟨h1, h2⟩ | h1) | ⟨h1, h2⟩ | h1)
      · exact .inl ⟨.inl h1, h2⟩
      · exact .inr (.inl h1)
      · exact .inl ⟨.inr h1, h2⟩
      · exact .inr (.inr h1)
  rw [hl, mem_listU hf, mem_allL, mem_allL]
  constructor
  · rintro ⟨i, hi, h⟩
    unfold updW at h
    by_cases e : ((i : Int), (k : Int)) = t
    · rw [if_pos e] at h; exact .inr h
    · rw [if_neg e] at h; exact .inl ⟨i, hi, h⟩
  · rintro (⟨i, hi, h⟩ | h)
    · refine ⟨i, hi, ?_⟩
      unfold updW
      by_cases e : ((i : Int), (k : Int)) = t
      · rw [e, hn] at h
        exact absurd h (by simp [noneP, listP])
      · rw [if_neg e]; exact h
    · refine ⟨n, by have := hd.2.1; omega, ?_⟩
      unfold updW
      rw [if_pos htn]; exact h
theorem updW_fine {Wn : WF} (hf : ∀ t, Fine (Wn t)) (t : TY) {s : PS} (hs : Fine s) : ∀ u, Fine (updW Wn t s u) := fun u => by
  unfold updW
  split
  · exact hs
  · exact hf u
theorem noW_fine : ∀ t, Fine (noW t) := fun _ => nil_fine false
theorem updW_same {Wn : WF} {t : TY} {s : PS} (h : Wn t = s) : updW Wn t s = Wn := by
  funext u
  unfold updW
  split
  · rename_i e; rw [e, h]
  · rfl
theorem updW_get (Wn : WF) (t : TY) (s : PS) : updW Wn t s t = s := by unfold updW; rw [if_pos rfl]
theorem updW_ne {Wn : WF} {t u : TY} (s : PS) (h : u ≠ t) : updW Wn t s u = Wn u := by unfold updW; rw [if_neg h]
theorem updW_comm {Wn : WF} {t u : TY} (s r : PS) (h : t ≠ u) : updW (updW Wn t s) u r = updW (updW Wn u r) t s := by
  funext x
  unfold updW
  by_cases h1 : x = t
  · subst h1
    rw [if_neg h, if_pos rfl, if_pos rfl]
  · by_cases h2 : x = u
    · subst h2
      rw [if_pos rfl, if_neg h1, if_pos rfl]
    · rw [if_neg h2, if_neg h1, if_neg h1, if_neg h2]
theorem updW_upd (Wn : WF) (t : TY) (s r : PS) : updW (updW Wn t s) t r = updW Wn t r := by
  funext x
  unfold updW
  split <;> rfl
theorem fits_of {Wn : WF} {t : TY} {k : Nat} {s : PS} (h1 : s.2.length ≤ 63) (h2 : (unionK (updW Wn t s) k).2.length ≤ 63) : fitsS Wn t k s = true := by
  have := listP_le s
  have := listP_le (unionK (updW Wn t s) k)
  unfold fitsS
  rw [decide_eq_true (by omega), decide_eq_true (by omega)]
  rfl
theorem union2_le (a b : PS) : (unionP [a, b]).2.length ≤ a.2.length + b.2.length := by
  have := unionP_le [a, b]
  simpa using this
theorem sameP_self (W : PS) : sameP W W = true := by unfold sameP; simp
theorem unionR_ca {w : World} {n0 ab wb : Nat} {cb : List Nat} {Wn : WF} (h : MgAt w n0 ab wb cb Wn) (k : Nat) (hk1 : 1 ≤ k) (hk5 : k ≤ 5) {U : PS} (hU : unionK Wn k = U) :
    Ca Tryz.prog 18 #[.pointer (some ⟨ab, 0, none⟩), .int .i64 (k : Int)] w fun v w' => SetR w' U v ∧ Keeps NoB w w' :=
  (unionM_ca h k hk1 hk5).mono fun v w' h => ⟨by rw [← hU]; exact h.1.toR, h.2⟩
/-- Set, where it fits. -/
theorem setM_ok {w : World} {ab wb : Nat} {cb : List Nat} {Wn : WF} (h : MgAt w 0 ab wb cb Wn) {p q : Addr} (hg : GloM w p q) {id : Int} {k : Nat} (ht : inDom (id, (k : Int))) {s : PS} {sv : Value} (hs : SetR w s sv) (hsf : Fine s) (hsl : s.2.length ≤ 90000) (hfit : fitsS Wn (id, (k : Int)) k s = true) :
    Ca Tryz.prog 13 #[.pointer (some ⟨ab, 0, none⟩), .int .i64 id, .int .i64 (k : Int), sv] w fun v w' => (MgAt w' 0 ab wb cb (updW Wn (id, (k : Int)) s) ∧ ∃ mn ln, v = .tuple #[SetV (lessP (unionK (updW Wn (id, (k : Int)) s) k) (unionK Wn k)).1 mn, SetV (lessP (unionK Wn k) (unionK (updW Wn (id, (k : Int)) s) k)).1 ln, .int .i64 0] ∧
      SetR w' (lessP (unionK (updW Wn (id, (k : Int)) s) k) (unionK Wn k)) (SetV (lessP (unionK (updW Wn (id, (k : Int)) s) k) (unionK Wn k)).1 mn) ∧ SetR w' (lessP (unionK Wn k) (unionK (updW Wn (id, (k : Int)) s) k)) (SetV (lessP (unionK Wn k) (unionK (updW Wn (id, (k : Int)) s) k)).1 ln)) ∧ Keeps (mD wb cb) w w' := by
  refine (setM_ca h hg (id, (k : Int)) hs hsf hsl).mono ?_
  rintro v w' ⟨hR, hk⟩
  refine ⟨?_, hk⟩
  rcases hR with ⟨j, hj, _, _, hM, mv, lv, e, ⟨mn, rfl, hm⟩, ⟨ln, rfl, hl⟩⟩ | ⟨j, hj, _, hf, _⟩ | ⟨hn, _⟩
  · have hj : j = k := by have hj : (j : Int) = (k : Int) := hj; omega
    subst hj
    exact ⟨hM, mn, ln, e, ⟨mn, rfl, hm⟩, ⟨ln, rfl, hl⟩⟩
  · have hj : j = k := by have hj : (j : Int) = (k : Int) := hj; omega
    subst hj
    rw [hfit] at hf; cases hf
  · exact absurd ht hn
end Go.Proofs.YtajajahofkialaaGreatDoor
