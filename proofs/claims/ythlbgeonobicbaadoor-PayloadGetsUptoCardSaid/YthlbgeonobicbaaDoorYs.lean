/- What a payload that is right is to its own type, and to another one. -/
import Derived.Test.YthlbgeonobicbaaDoorYr
import Derived.Test.YthlbgeonobicbaaDoorYq
namespace Go.Proofs.YthlbgeonobicbaaDoor
open Go Go.V Go.RowKit
set_option linter.unusedVariables false
set_option linter.unusedSimpArgs false

theorem txt_nil {k : Int} (hk : 1 ≤ k ∧ k < 536870912) {s : List UInt8} : txt k s = [] ↔ s = [] := by
  unfold txt
  split
  · simp [*]
  · rename_i h; simp [h, textF_ne hk]
theorem nmb_nil {k : Int} (hk : 1 ≤ k ∧ k < 536870912) {n : Nat} : nmb k n = [] ↔ n = 0 := by
  unfold nmb
  split
  · simp [*]
  · rename_i h; simp [h, numberF_ne hk]
theorem listB_nil {α : Type} {k : Int} (hk : 1 ≤ k ∧ k < 536870912) (f : α → List UInt8) {l : List α} : listB k f l = [] ↔ l = [] := by
  cases l with
  | nil => simp [listB]
  | cons x l => simp [listB, textF_ne hk]
theorem fits_restr (has : List UInt8) (p : PL) : (List.range 8).all (fitK has p) = true ↔ restr has p = p := by
  rw [show List.range 8 = [0, 1, 2, 3, 4, 5, 6, 7] from rfl]
  obtain ⟨a1, a2, a3, a4, a5, a6, a7, a8⟩ := p
  simp only [List.all_cons, List.all_nil, fitK, Bool.and_eq_true, Bool.or_eq_true, decide_eq_true_eq, partsB, lets, List.getD_cons_zero, List.getD_cons_succ, restr, PL.mk.injEq, and_true, true_and]
  rw [txt_nil (by decide), nmb_nil (by decide), txt_nil (by decide), listB_nil (by decide), nmb_nil (by decide), txt_nil (by decide), listB_nil (by decide), txt_nil (by decide)]
  rw [show inF has [] = true from rfl]
  have key : ∀ {α : Type} (c : Bool) (x z : α), (c = true ∨ x = z) ↔ (if c = true then x else z) = x := fun c x z => by
    cases c <;> simp [eq_comm]
  simp only [key]
  simp
theorem hasF_ok {k : Nat} (hk : k < 5) : (hasF ((1 + k : Nat) : Int)).2 = true := by
  match k, hk with
  | 0, _ | 1, _ | 2, _ | 3, _ | 4, _ => rfl
theorem own_restr (m : MD) (k : Nat) (hk : k < 5) : restr (hasF ((1 + k : Nat) : Int)).1 (madeOwn m) = if k = kOf m.kind then madeOwn m else bareP (madeOwn m).name := by
  have h5 : kOf m.kind < 5 := Nat.mod_lt _ (by decide)
  unfold madeOwn
  generalize kOf m.kind = j at h5
  match k, hk, j, h5 with
  | 0, _, 0, _ | 1, _, 0, _ | 2, _, 0, _ | 3, _, 0, _ | 4, _, 0, _ => simp [restr, hasF, inF, bareP]
  | 0, _, 1, _ | 1, _, 1, _ | 2, _, 1, _ | 3, _, 1, _ | 4, _, 1, _ => simp [restr, hasF, inF, bareP]
  | 0, _, 2, _ | 1, _, 2, _ | 2, _, 2, _ | 3, _, 2, _ | 4, _, 2, _ => simp [restr, hasF, inF, bareP]
  | 0, _, 3, _ | 1, _, 3, _ | 2, _, 3, _ | 3, _, 3, _ | 4, _, 3, _ => simp [restr, hasF, inF, bareP]
  | 0, _, 4, _ | 1, _, 4, _ | 2, _, 4, _ | 3, _, 4, _ | 4, _, 4, _ => simp [restr, hasF, inF, bareP]
theorem own_few (m : MD) : (madeOwn m).rules.length ≤ 3 ∧ (madeOwn m).addrs.length ≤ 3 := by
  unfold madeOwn
  split <;> simp [bareP] <;> omega
theorem few_len {p : PL} (h : p.ok) (hr : p.rules.length ≤ 3) (ha : p.addrs.length ≤ 3) : (partsB p).flatten.length ≤ 100000000 := by
  have h1 := txt_len (k := 1) (s := p.name) (by have := h.name; omega)
  have h2 := nmb_len (k := 2) h.port
  have h3 := txt_len (k := 3) (s := p.route) (by have := h.route; omega)
  have h4 := listB_len 4 ruleB (m := 6000040) p.rules (fun x hx => ruleB_len (h.rules x hx)) (by decide)
  have h5 := nmb_len (k := 5) h.policy
  have h6 := txt_len (k := 6) (s := p.secret) (by have := h.secret; omega)
  have h7 := listB_len 7 addrB (m := 6000060) p.addrs (fun x hx => addrB_len (h.addrs x hx)) (by decide)
  have h8 := txt_len (k := 8) (s := p.key) (by have := h.key; omega)
  have n1 := h.name
  have n3 := h.route
  have n6 := h.secret
  have n8 := h.key
  have m4 : p.rules.length * (6000040 + 20) ≤ 3 * (6000040 + 20) := Nat.mul_le_mul_right _ hr
  have m7 : p.addrs.length * (6000060 + 20) ≤ 3 * (6000060 + 20) := Nat.mul_le_mul_right _ ha
  unfold partsB
  simp only [List.flatten_cons, List.flatten_nil, List.length_append, List.length_nil]
  omega
/-- All that the laws need of a payload that is right. -/
structure OwnP (K : Nat) (P : PL) : Prop where
  k : K < 5
  ok : P.ok
  len : (partsB P).flatten.length ≤ 100000000
  few : P.rules.length ≤ 3 ∧ P.addrs.length ≤ 3
  restr : ∀ k, k < 5 → restr (hasF ((1 + k : Nat) : Int)).1 P = if k = K then P else bareP P.name
theorem OwnP.of (m : MD) (hm : (madeOwn m).ok) : OwnP (kOf m.kind) (madeOwn m) :=
  ⟨Nat.mod_lt _ (by decide), hm, few_len hm (own_few m).1 (own_few m).2, own_few m, own_restr m⟩
theorem OwnP.put {K : Nat} {P : PL} (h : OwnP K P) : putP ((1 + K : Nat) : Int) P = some (partsB P).flatten := by
  have hf := h.few
  unfold putP
  rw [if_pos ⟨hasF_ok h.k, by omega, by omega, (fits_restr _ _).2 (by rw [h.restr K h.k, if_pos rfl])⟩]
theorem OwnP.putNot {K : Nat} {P : PL} (h : OwnP K P) {k : Nat} (hk : k < 5) (hne : k ≠ K) : (putP ((1 + k : Nat) : Int) P).isSome = sameB P (bareP P.name) := by
  have hf := h.few
  have hr := h.restr k hk
  rw [if_neg hne] at hr
  unfold putP
  by_cases hb : P = bareP P.name
  · rw [if_pos ⟨hasF_ok hk, by omega, by omega, (fits_restr _ _).2 (by rw [hr]; exact hb.symm)⟩, (sameB_iff _ _).2 hb]; rfl
  · rw [if_neg (fun hh => hb (by rw [← hr]; exact ((fits_restr _ _).1 hh.2.2.2).symm)), Bool.eq_false_iff.2 (fun hs => hb ((sameB_iff _ _).1 hs))]; rfl
theorem OwnP.get {K : Nat} {P : PL} (h : OwnP K P) {k : Nat} (hk : k < 5) {t : List UInt8} {e : List WF} (ht : parseF t = some e) (he : ∀ j : Int, 2 ≤ j → j ≤ 8 → allF e j = []) (h1 : kindsB (allF e 1) 2 = true) :
    getP ((1 + k : Nat) : Int) ((partsB P).flatten ++ t) = some { (if k = K then P else bareP P.name) with name := lastS P.name (allF e 1) } := by
  have hf := h.few
  unfold getP
  rw [if_pos (hasF_ok hk), parse_app (parse_parts h.ok) ht, Option.bind_some, get_all _ h.ok (fun _ => by omega) (fun _ => by omega) e he h1, h.restr k hk]
end Go.Proofs.YthlbgeonobicbaaDoor
