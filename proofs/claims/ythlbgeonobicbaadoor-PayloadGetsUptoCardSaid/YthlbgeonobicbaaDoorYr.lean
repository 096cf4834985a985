/- The plain law of Get and Put: what was put is got, with what a type has not left out. -/
import Derived.Test.YthlbgeonobicbaaDoorYo
namespace Go.Proofs.YthlbgeonobicbaaDoor
open Go Go.V Go.RowKit
set_option linter.unusedVariables false
set_option linter.unusedSimpArgs false

theorem parse_app {s t : List UInt8} {l m : List WF} (hs : parseF s = some l) (ht : parseF t = some m) : parseF (s ++ t) = some (l ++ m) := by
  rw [parseF_append s.length s t l (Nat.le_refl _) hs, ht]; rfl
def txtW (k : Int) (s : List UInt8) : List WF := if s = [] then [] else [⟨k, 2, 0, s⟩]
def nmbW (k : Int) (n : Nat) : List WF := if n = 0 then [] else [⟨k, 0, n, []⟩]
def listW {α : Type} (k : Int) (f : α → List UInt8) (l : List α) : List WF := l.map fun r => ⟨k, 2, 0, f r⟩
theorem parse_text1 {k : Int} {s : List UInt8} (hk : 1 ≤ k ∧ k < 536870912) (hs : s.length < 18446744073709551616) : parseF (textF k s) = some [⟨k, 2, 0, s⟩] := by
  have h := takeF_text hk hs []
  rw [List.append_nil] at h
  rw [parseF_ok (textF_ne hk) h, parseF_nil]; rfl
theorem parse_number1 {k : Int} {n : Nat} (hk : 1 ≤ k ∧ k < 536870912) (hn : n < 18446744073709551616) : parseF (numberF k n) = some [⟨k, 0, n, []⟩] := by
  have h := takeF_number hk hn []
  rw [List.append_nil] at h
  rw [parseF_ok (numberF_ne hk) h, parseF_nil]; rfl
theorem parse_txt {k : Int} {s : List UInt8} (hk : 1 ≤ k ∧ k < 536870912) (hs : s.length < 18446744073709551616) : parseF (txt k s) = some (txtW k s) := by
  unfold txt txtW
  split
  · exact parseF_nil
  · exact parse_text1 hk hs
theorem parse_nmb {k : Int} {n : Nat} (hk : 1 ≤ k ∧ k < 536870912) (hn : n < 18446744073709551616) : parseF (nmb k n) = some (nmbW k n) := by
  unfold nmb nmbW
  split
  · exact parseF_nil
  · exact parse_number1 hk hn
theorem parse_list {α : Type} {k : Int} (f : α → List UInt8) (hk : 1 ≤ k ∧ k < 536870912) : ∀ l : List α, (∀ x ∈ l, (f x).length < 18446744073709551616) → parseF (listB k f l) = some (listW k f l)
  | [], _ => parseF_nil
  | x :: l, h => parse_app (parse_text1 hk (h x (by simp))) (parse_list f hk l fun x hx => h x (by simp [hx]))
def partsW (p : PL) : List (List WF) := [txtW 1 p.name, nmbW 2 p.port, txtW 3 p.route, listW 4 ruleB p.rules, nmbW 5 p.policy, txtW 6 p.secret, listW 7 addrB p.addrs, txtW 8 p.key]
theorem parse_parts {p : PL} (hp : p.ok) : parseF (partsB p).flatten = some (partsW p).flatten := by
  have h1 := hp.name
  have h3 := hp.route
  have h6 := hp.secret
  have h8 := hp.key
  unfold partsB partsW
  simp only [List.flatten_cons, List.flatten_nil]
  refine parse_app (parse_txt (by decide) (by omega)) (parse_app (parse_nmb (by decide) hp.port) (parse_app (parse_txt (by decide) (by omega)) (parse_app (parse_list _ (by decide) _ fun x hx => ?_) (parse_app (parse_nmb (by decide) hp.policy)
    (parse_app (parse_txt (by decide) (by omega)) (parse_app (parse_list _ (by decide) _ fun x hx => ?_) (parse_app (parse_txt (by decide) (by omega)) parseF_nil)))))))
  · have := ruleB_len (hp.rules x hx); omega
  · have := addrB_len (hp.addrs x hx); omega
theorem allF_app (l m : List WF) (k : Int) : allF (l ++ m) k = allF l k ++ allF m k := List.filter_append _ _
theorem allF_txt (k j : Int) (s : List UInt8) : allF (txtW k s) j = if k = j then txtW k s else [] := by
  unfold txtW allF
  by_cases hs : s = [] <;> by_cases hk : k = j <;> simp [hs, hk]
theorem allF_nmb (k j : Int) (n : Nat) : allF (nmbW k n) j = if k = j then nmbW k n else [] := by
  unfold nmbW allF
  by_cases hs : n = 0 <;> by_cases hk : k = j <;> simp [hs, hk]
theorem allF_list {α : Type} (k j : Int) (f : α → List UInt8) (l : List α) : allF (listW k f l) j = if k = j then listW k f l else [] := by
  unfold listW allF
  by_cases hk : k = j
  · rw [if_pos hk, List.filter_eq_self]
    intro x hx
    obtain ⟨r, _, rfl⟩ := List.mem_map.1 hx
    simpa using hk
  · rw [if_neg hk, List.filter_eq_nil_iff]
    intro x hx
    obtain ⟨r, _, rfl⟩ := List.mem_map.1 hx
    simpa using hk
theorem kinds_txt (k : Int) (s : List UInt8) : kindsB (txtW k s) 2 = true := by unfold txtW kindsB; split <;> simp
theorem kinds_nmb (k : Int) (n : Nat) : kindsB (nmbW k n) 0 = true := by unfold nmbW kindsB; split <;> simp
theorem kinds_list {α : Type} (k : Int) (f : α → List UInt8) (l : List α) : kindsB (listW k f l) 2 = true := by
  unfold listW kindsB
  rw [List.all_eq_true]
  intro x hx
  obtain ⟨r, _, rfl⟩ := List.mem_map.1 hx
  simp
theorem last_txt (k : Int) (s : List UInt8) : lastS [] (txtW k s) = s := by
  unfold txtW lastS
  by_cases hs : s = []
  · rw [if_pos hs, hs]; rfl
  · rw [if_neg hs]; rfl
theorem last_nmb (k : Int) (n : Nat) : lastN 0 (nmbW k n) = n := by
  unfold nmbW lastN
  by_cases hs : n = 0
  · rw [if_pos hs, hs]; rfl
  · rw [if_neg hs]; rfl
theorem ruleTk_ruleB {r : RuleD} (h : r.ok) : ruleTk (ruleB r) = some r := by
  obtain ⟨h1, h2⟩ := h
  unfold ruleTk ruleB
  rw [parse_app (parse_txt (by decide) (by omega)) (parse_txt (by decide) (by omega))]
  simp only [Option.bind_some, tkAll, tkRule, allF_app, allF_txt]
  simp [kinds_txt, last_txt]
theorem addrTk_addrB {r : AddrD} (h : r.ok) : addrTk (addrB r) = some r := by
  obtain ⟨h1, h2, h3⟩ := h
  unfold addrTk addrB
  rw [parse_app (parse_txt (by decide) (by omega)) (parse_app (parse_nmb (by decide) h2) (parse_nmb (by decide) h3))]
  simp only [Option.bind_some, tkAll, tkAddr, allF_app, allF_txt, allF_nmb]
  simp [kinds_txt, kinds_nmb, last_txt, last_nmb]
theorem tkList_list {α : Type} (tk : List UInt8 → Option α) (f : α → List UInt8) (k : Int) (l : List α) (h : ∀ x ∈ l, tk (f x) = some x) (hl : l.length ≤ 64) : tkList tk [] (listW k f l) = some l := by
  have h1 : ((listW k f l).all fun f => (tk f.s).isSome) = true := by
    rw [List.all_eq_true]
    intro x hx
    obtain ⟨r, hr, rfl⟩ := List.mem_map.1 hx
    rw [h r hr]; rfl
  have h2 : (listW k f l).filterMap (fun f => tk f.s) = l := by
    unfold listW
    rw [List.filterMap_map]
    have : ∀ l : List α, (∀ x ∈ l, tk (f x) = some x) → l.filterMap ((fun f => tk f.s) ∘ fun r => (⟨k, 2, 0, f r⟩ : WF)) = l := by
      intro l
      induction l with
      | nil => intro _; rfl
      | cons x l ih =>
        intro h
        rw [List.filterMap_cons]
        show (match tk (f x) with | none => _ | some b => _) = _
        rw [h x (by simp), ih fun x hx => h x (by simp [hx])]
    exact this l h
  unfold tkList
  rw [if_pos ⟨kinds_list _ _ _, by unfold listW; simpa using hl, h1⟩, h2]; rfl
theorem tkList_many {α : Type} (tk : List UInt8 → Option α) (f : α → List UInt8) (k : Int) (l : List α) (hl : 64 < l.length) : tkList tk [] (listW k f l) = none := by
  unfold tkList
  rw [if_neg]
  rintro ⟨_, h, _⟩
  unfold listW at h
  simp at h; omega
/-- What of a payload is kept by a type that has these letters. -/
def restr (has : List UInt8) (p : PL) : PL :=
  { name := p.name, port := if inF has [112] = true then p.port else 0, route := if inF has [111] = true then p.route else [], rules := if inF has [114] = true then p.rules else [],
    policy := if inF has [108] = true then p.policy else 0, secret := if inF has [115] = true then p.secret else [], addrs := if inF has [97] = true then p.addrs else [], key := if inF has [107] = true then p.key else [] }
theorem partsW_all (p : PL) (j : Int) : allF (partsW p).flatten j = if j = 1 then txtW 1 p.name else if j = 2 then nmbW 2 p.port else if j = 3 then txtW 3 p.route else if j = 4 then listW 4 ruleB p.rules else if j = 5 then nmbW 5 p.policy else if j = 6 then txtW 6 p.secret else if j = 7 then listW 7 addrB p.addrs else if j = 8 then txtW 8 p.key else [] := by
  unfold partsW
  simp only [List.flatten_cons, List.flatten_nil, allF_app, allF_txt, allF_nmb, allF_list]
  rw [show allF [] j = [] from rfl]
  by_cases h1 : j = 1; · subst h1; simp
  by_cases h2 : j = 2; · subst h2; simp
  by_cases h3 : j = 3; · subst h3; simp
  by_cases h4 : j = 4; · subst h4; simp
  by_cases h5 : j = 5; · subst h5; simp
  by_cases h6 : j = 6; · subst h6; simp
  by_cases h7 : j = 7; · subst h7; simp
  by_cases h8 : j = 8; · subst h8; simp
  simp [h1, h2, h3, h4, h5, h6, h7, h8, Ne.symm h1, Ne.symm h2, Ne.symm h3, Ne.symm h4, Ne.symm h5, Ne.symm h6, Ne.symm h7, Ne.symm h8]
theorem get_all (has : List UInt8) {p : PL} (hp : p.ok) (h4 : inF has [114] = true → p.rules.length ≤ 64) (h6 : inF has [97] = true → p.addrs.length ≤ 64) (e : List WF) (he : ∀ j : Int, 2 ≤ j → j ≤ 8 → allF e j = []) (h1 : kindsB (allF e 1) 2 = true) :
    tkAll (tkPay has) ((partsW p).flatten ++ e) 8 0 PL0 = some { restr has p with name := lastS p.name (allF e 1) } := by
  have hk1 : kindsB (txtW 1 p.name ++ allF e 1) 2 = true := by
    unfold kindsB at *
    rw [List.all_append, h1, Bool.and_true]
    exact kinds_txt 1 p.name
  have hn : lastS [] (txtW 1 p.name ++ allF e 1) = lastS p.name (allF e 1) := by
    have hl := last_txt 1 p.name
    unfold lastS at *
    cases hh : (allF e 1).getLast? with
    | none =>
      have := List.getLast?_eq_none_iff.1 hh
      rw [this, List.append_nil, hl]; rfl
    | some x => rw [List.getLast?_append, hh]; rfl
  have hall : ∀ j : Int, allF ((partsW p).flatten ++ e) j = allF (partsW p).flatten j ++ allF e j := fun j => allF_app _ _ j
  have t4 : inF has [114] = true → tkList ruleTk [] (listW 4 ruleB p.rules) = some p.rules := fun h => tkList_list ruleTk ruleB 4 p.rules (fun x hx => ruleTk_ruleB (hp.rules x hx)) (h4 h)
  have t6 : inF has [97] = true → tkList addrTk [] (listW 7 addrB p.addrs) = some p.addrs := fun h => tkList_list addrTk addrB 7 p.addrs (fun x hx => addrTk_addrB (hp.addrs x hx)) (h6 h)
  have s0 : ∀ q : PL, q.name = [] → tkPay has 0 q (allF ((partsW p).flatten ++ e) ((0 + 1 : Nat) : Int)) = some { q with name := lastS p.name (allF e 1) } := fun q hq => by
    rw [hall, partsW_all]
    unfold tkPay
    rw [if_neg (by simp [lets, inF])]
    simp only [show ((0 + 1 : Nat) : Int) = 1 from rfl, if_true, hk1, hq, hn]
  have s1 : ∀ q : PL, q.port = PL0.port → tkPay has 1 q (allF ((partsW p).flatten ++ e) ((1 + 1 : Nat) : Int)) = some { q with port := if inF has [112] = true then p.port else PL0.port } := fun q hq => by
    rw [hall, partsW_all, show allF e ((1 + 1 : Nat) : Int) = [] from he 2 (by decide) (by decide), List.append_nil]
    unfold tkPay
    by_cases h : inF has [112] = true
    · rw [if_neg (by simpa [lets] using h)]; simp [hq, h, kinds_nmb, last_nmb, PL0]
    · rw [if_pos (by simpa [lets] using h)]; simp [h, ← hq]
  have s2 : ∀ q : PL, q.route = PL0.route → tkPay has 2 q (allF ((partsW p).flatten ++ e) ((2 + 1 : Nat) : Int)) = some { q with route := if inF has [111] = true then p.route else PL0.route } := fun q hq => by
    rw [hall, partsW_all, show allF e ((2 + 1 : Nat) : Int) = [] from he 3 (by decide) (by decide), List.append_nil]
    unfold tkPay
    by_cases h : inF has [111] = true
    · rw [if_neg (by simpa [lets] using h)]; simp [hq, h, kinds_txt, last_txt, PL0]
    · rw [if_pos (by simpa [lets] using h)]; simp [h, ← hq]
  have s3 : ∀ q : PL, q.rules = [] → tkPay has 3 q (allF ((partsW p).flatten ++ e) ((3 + 1 : Nat) : Int)) = some { q with rules := if inF has [114] = true then p.rules else [] } := fun q hq => by
    rw [hall, partsW_all, show allF e ((3 + 1 : Nat) : Int) = [] from he 4 (by decide) (by decide), List.append_nil]
    unfold tkPay
    by_cases h : inF has [114] = true
    · rw [if_neg (by simpa [lets] using h)]; simp [hq, t4 h, h]
    · rw [if_pos (by simpa [lets] using h)]; simp [h, ← hq]
  have s4 : ∀ q : PL, q.policy = PL0.policy → tkPay has 4 q (allF ((partsW p).flatten ++ e) ((4 + 1 : Nat) : Int)) = some { q with policy := if inF has [108] = true then p.policy else PL0.policy } := fun q hq => by
    rw [hall, partsW_all, show allF e ((4 + 1 : Nat) : Int) = [] from he 5 (by decide) (by decide), List.append_nil]
    unfold tkPay
    by_cases h : inF has [108] = true
    · rw [if_neg (by simpa [lets] using h)]; simp [hq, h, kinds_nmb, last_nmb, PL0]
    · rw [if_pos (by simpa [lets] using h)]; simp [h, ← hq]
  have s5 : ∀ q : PL, q.secret = PL0.secret → tkPay has 5 q (allF ((partsW p).flatten ++ e) ((5 + 1 : Nat) : Int)) = some { q with secret := if inF has [115] = true then p.secret else PL0.secret } := fun q hq => by
    rw [hall, partsW_all, show allF e ((5 + 1 : Nat) : Int) = [] from he 6 (by decide) (by decide), List.append_nil]
    unfold tkPay
    by_cases h : inF has [115] = true
    · rw [if_neg (by simpa [lets] using h)]; simp [hq, h, kinds_txt, last_txt, PL0]
    · rw [if_pos (by simpa [lets] using h)]; simp [h, ← hq]
  have s6 : ∀ q : PL, q.addrs = [] → tkPay has 6 q (allF ((partsW p).flatten ++ e) ((6 + 1 : Nat) : Int)) = some { q with addrs := if inF has [97] = true then p.addrs else [] } := fun q hq => by
    rw [hall, partsW_all, show allF e ((6 + 1 : Nat) : Int) = [] from he 7 (by decide) (by decide), List.append_nil]
    unfold tkPay
    by_cases h : inF has [97] = true
    · rw [if_neg (by simpa [lets] using h)]; simp [hq, t6 h, h]
    · rw [if_pos (by simpa [lets] using h)]; simp [h, ← hq]
  have s7 : ∀ q : PL, q.key = PL0.key → tkPay has 7 q (allF ((partsW p).flatten ++ e) ((7 + 1 : Nat) : Int)) = some { q with key := if inF has [107] = true then p.key else PL0.key } := fun q hq => by
    rw [hall, partsW_all, show allF e ((7 + 1 : Nat) : Int) = [] from he 8 (by decide) (by decide), List.append_nil]
    unfold tkPay
    by_cases h : inF has [107] = true
    · rw [if_neg (by simpa [lets] using h)]; simp [hq, h, kinds_txt, last_txt, PL0]
    · rw [if_pos (by simpa [lets] using h)]; simp [h, ← hq]
  have st : ∀ (n k : Nat) (q q' : PL), tkPay has k q (allF ((partsW p).flatten ++ e) ((k + 1 : Nat) : Int)) = some q' → tkAll (tkPay has) ((partsW p).flatten ++ e) (n + 1) k q = tkAll (tkPay has) ((partsW p).flatten ++ e) n (k + 1) q' := fun n k q q' h => by
    show (tkPay has k q _).bind _ = _
    rw [h]; rfl
  refine (st 7 0 _ _ (s0 _ (by exact rfl))).trans ?_
  refine (st 6 1 _ _ (s1 _ (by exact rfl))).trans ?_
  refine (st 5 2 _ _ (s2 _ (by exact rfl))).trans ?_
  refine (st 4 3 _ _ (s3 _ (by exact rfl))).trans ?_
  refine (st 3 4 _ _ (s4 _ (by exact rfl))).trans ?_
  refine (st 2 5 _ _ (s5 _ (by exact rfl))).trans ?_
  refine (st 1 6 _ _ (s6 _ (by exact rfl))).trans ?_
  refine (st 0 7 _ _ (s7 _ (by exact rfl))).trans ?_
  rfl
end Go.Proofs.YthlbgeonobicbaaDoor
