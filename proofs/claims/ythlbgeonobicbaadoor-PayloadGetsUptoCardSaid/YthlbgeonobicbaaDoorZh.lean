/- The document's answer to chapter 2: its Get. -/
import Derived.Test.YthlbgeonobicbaaDoorZg
namespace Go.Proofs.YthlbgeonobicbaaDoor
open Go Go.V Go.RowKit
set_option linter.unusedVariables false
set_option linter.unusedSimpArgs false

structure GJ (k : Nat) (c : PL) (rv av : Value) : Prop where
  a0 : k ≤ 0 → c.name = []
  a1 : k ≤ 1 → c.port = 0
  a2 : k ≤ 2 → c.route = []
  a3 : k ≤ 3 → c.rules = []
  a4 : k ≤ 4 → c.policy = 0
  a5 : k ≤ 5 → c.secret = []
  a6 : k ≤ 6 → c.addrs = []
  a7 : k ≤ 7 → c.key = []
  r3 : k ≤ 3 → rv = .slice none 0 0
  r6 : k ≤ 6 → av = .slice none 0 0
theorem GJ.up {k : Nat} {c : PL} {rv av : Value} (h : GJ k c rv av) : GJ (k + 1) c rv av := ⟨fun e => by omega, fun e => h.a1 (by omega), fun e => h.a2 (by omega), fun e => h.a3 (by omega), fun e => h.a4 (by omega), fun e => h.a5 (by omega), fun e => h.a6 (by omega), fun e => h.a7 (by omega), fun e => h.r3 (by omega), fun e => h.r6 (by omega)⟩
/-- What is parsed, or nothing. -/
theorem rparse_any {s : List UInt8} {w w' : World} {v : Value} (h : rparseR s w v w') : ∃ sl ok, v = .tuple #[sl, .bool ok] ∧ ((ok = true ∧ ∃ m, parseF s = some m ∧ w'.ownsRow w.heap.size 88 4 sl m.length (FL m)) ∨ (ok = false ∧ parseF s = none ∧ sl = .slice none 0 0)) := by
  unfold rparseR at h
  cases hp : parseF s with
  | some l =>
    rw [hp] at h
    obtain ⟨sl, rfl, ho⟩ := h
    exact ⟨sl, true, rfl, .inl ⟨rfl, l, rfl, ho⟩⟩
  | none =>
    rw [hp] at h
    exact ⟨_, false, h, .inr ⟨rfl, rfl, rfl⟩⟩
theorem rrows_apart {w : World} {base n m : Nat} {rv av : Value} {xs ys : List Value} (hr : w.ownsRow base 71 2 rv n xs) (ha : w.ownsRow base 72 3 av m ys) : ∀ b, rv.ownBlock = some b → av.ownBlock ≠ some b := by
  intro b h1 h2
  rcases hr.2 with ⟨rfl, _⟩ | ⟨g, cap, cur, rfl, _, hg, _⟩
  · simp [Value.ownBlock] at h1
  · rcases ha.2 with ⟨rfl, _⟩ | ⟨g', cap', cur', rfl, _, hg', _⟩
    · simp [Value.ownBlock] at h2
    · simp [Value.ownBlock] at h1 h2
      subst h1 h2
      rw [hg] at hg'
      simp at hg'
theorem tk0_yes {has : List UInt8} {c : PL} {A : List WF} (h0 : c.name = []) (hk : kindsB A 2 = true) : tkPay has 0 c A = some { c with name := (lastW A).s } := by
  unfold tkPay
  rw [if_neg (by simp [lets, inF])]
  simp only [hk, if_true, h0, lastW_s]
theorem tk0_no {has : List UInt8} {c : PL} {A : List WF} (hk : kindsB A 2 = false) : tkPay has 0 c A = none := by
  unfold tkPay
  rw [if_neg (by simp [lets, inF])]
  simp only [hk, Bool.false_eq_true, if_false]
theorem tk1_yes {has : List UInt8} {c : PL} {A : List WF} (hin : inF has [112] = true) (h0 : c.port = 0) (hk : kindsB A 0 = true) : tkPay has 1 c A = some { c with port := (lastW A).n } := by
  unfold tkPay
  rw [if_neg (by simp only [lets, List.getD_cons_zero, List.getD_cons_succ, hin]; simp)]
  simp only [hk, if_true, h0, lastW_n]
theorem tk1_no {has : List UInt8} {c : PL} {A : List WF} (hin : inF has [112] = true) (hk : kindsB A 0 = false) : tkPay has 1 c A = none := by
  unfold tkPay
  rw [if_neg (by simp only [lets, List.getD_cons_zero, List.getD_cons_succ, hin]; simp)]
  simp only [hk, Bool.false_eq_true, if_false]
theorem tk2_yes {has : List UInt8} {c : PL} {A : List WF} (hin : inF has [111] = true) (h0 : c.route = []) (hk : kindsB A 2 = true) : tkPay has 2 c A = some { c with route := (lastW A).s } := by
  unfold tkPay
  rw [if_neg (by simp only [lets, List.getD_cons_zero, List.getD_cons_succ, hin]; simp)]
  simp only [hk, if_true, h0, lastW_s]
theorem tk2_no {has : List UInt8} {c : PL} {A : List WF} (hin : inF has [111] = true) (hk : kindsB A 2 = false) : tkPay has 2 c A = none := by
  unfold tkPay
  rw [if_neg (by simp only [lets, List.getD_cons_zero, List.getD_cons_succ, hin]; simp)]
  simp only [hk, Bool.false_eq_true, if_false]
theorem tk4_yes {has : List UInt8} {c : PL} {A : List WF} (hin : inF has [108] = true) (h0 : c.policy = 0) (hk : kindsB A 0 = true) : tkPay has 4 c A = some { c with policy := (lastW A).n } := by
  unfold tkPay
  rw [if_neg (by simp only [lets, List.getD_cons_zero, List.getD_cons_succ, hin]; simp)]
  simp only [hk, if_true, h0, lastW_n]
theorem tk4_no {has : List UInt8} {c : PL} {A : List WF} (hin : inF has [108] = true) (hk : kindsB A 0 = false) : tkPay has 4 c A = none := by
  unfold tkPay
  rw [if_neg (by simp only [lets, List.getD_cons_zero, List.getD_cons_succ, hin]; simp)]
  simp only [hk, Bool.false_eq_true, if_false]
theorem tk5_yes {has : List UInt8} {c : PL} {A : List WF} (hin : inF has [115] = true) (h0 : c.secret = []) (hk : kindsB A 2 = true) : tkPay has 5 c A = some { c with secret := (lastW A).s } := by
  unfold tkPay
  rw [if_neg (by simp only [lets, List.getD_cons_zero, List.getD_cons_succ, hin]; simp)]
  simp only [hk, if_true, h0, lastW_s]
theorem tk5_no {has : List UInt8} {c : PL} {A : List WF} (hin : inF has [115] = true) (hk : kindsB A 2 = false) : tkPay has 5 c A = none := by
  unfold tkPay
  rw [if_neg (by simp only [lets, List.getD_cons_zero, List.getD_cons_succ, hin]; simp)]
  simp only [hk, Bool.false_eq_true, if_false]
theorem tk7_yes {has : List UInt8} {c : PL} {A : List WF} (hin : inF has [107] = true) (h0 : c.key = []) (hk : kindsB A 2 = true) : tkPay has 7 c A = some { c with key := (lastW A).s } := by
  unfold tkPay
  rw [if_neg (by simp only [lets, List.getD_cons_zero, List.getD_cons_succ, hin]; simp)]
  simp only [hk, if_true, h0, lastW_s]
theorem tk7_no {has : List UInt8} {c : PL} {A : List WF} (hin : inF has [107] = true) (hk : kindsB A 2 = false) : tkPay has 7 c A = none := by
  unfold tkPay
  rw [if_neg (by simp only [lets, List.getD_cons_zero, List.getD_cons_succ, hin]; simp)]
  simp only [hk, Bool.false_eq_true, if_false]
theorem tk3_eq {has : List UInt8} {c : PL} {A : List WF} (hin : inF has [114] = true) (h0 : c.rules = []) : tkPay has 3 c A = (tkList ruleTk [] A).map fun x => { c with rules := x } := by
  unfold tkPay
  rw [if_neg (by simp only [lets, List.getD_cons_zero, List.getD_cons_succ, hin]; simp)]
  simp only [h0]
theorem tk6_eq {has : List UInt8} {c : PL} {A : List WF} (hin : inF has [97] = true) (h0 : c.addrs = []) : tkPay has 6 c A = (tkList addrTk [] A).map fun x => { c with addrs := x } := by
  unfold tkPay
  rw [if_neg (by simp only [lets, List.getD_cons_zero, List.getD_cons_succ, hin]; simp)]
  simp only [h0]
theorem tk_skip {has : List UInt8} {c : PL} {A : List WF} (k : Nat) (hin : inF has (lets.getD k []) = false) : tkPay has k c A = some c := by
  unfold tkPay
  rw [if_pos hin]
theorem tkList_kinds {α : Type} {tk : List UInt8 → Option α} {A : List WF} (h : kindsB A 2 = false) : tkList tk [] A = none := by
  unfold tkList; rw [if_neg (fun hh => by rw [h] at hh; cases hh.1)]
theorem tkList_long {α : Type} {tk : List UInt8 → Option α} {A : List WF} (h : 64 < A.length) : tkList tk [] A = none := by
  unfold tkList; rw [if_neg (fun hh => by have := hh.2.1; omega)]
theorem tkList_bad {α : Type} {tk : List UInt8 → Option α} {A : List WF} {i : Nat} {x : WF} (hx : A[i]? = some x) (h : tk x.s = none) : tkList tk [] A = none := by
  unfold tkList; rw [if_neg (fun hh => by have := List.all_eq_true.1 hh.2.2 x (List.mem_of_getElem? hx); rw [h] at this; cases this)]
theorem tkList_all {α : Type} {tk : List UInt8 → Option α} {A : List WF} (h1 : kindsB A 2 = true) (h2 : A.length ≤ 64) (h3 : (A.all fun f => (tk f.s).isSome) = true) : tkList tk [] A = some (A.filterMap fun f => tk f.s) := by
  unfold tkList; rw [if_pos ⟨h1, h2, h3⟩]; rfl
theorem ruleTk_some {s : List UInt8} {m : List WF} (hp : parseF s = some m) (h1 : kindsB (allF m 1) 2 = true) (h2 : kindsB (allF m 2) 2 = true) : ruleTk s = some ((lastW (allF m 1)).s, (lastW (allF m 2)).s) := by
  unfold ruleTk
  rw [hp, Option.bind_some]
  simp only [tkAll, tkRule, show ((0 + 1 : Nat) : Int) = 1 from rfl, show ((0 + 1 + 1 : Nat) : Int) = 2 from rfl, h1, h2, if_true, Option.bind_some, lastW_s]
theorem ruleTk_none {s : List UInt8} (h : parseF s = none ∨ ∃ m, parseF s = some m ∧ (kindsB (allF m 1) 2 = false ∨ kindsB (allF m 2) 2 = false)) : ruleTk s = none := by
  unfold ruleTk
  rcases h with h | ⟨m, hp, h⟩
  · rw [h]; rfl
  · rw [hp, Option.bind_some]
    simp only [tkAll, tkRule, show ((0 + 1 : Nat) : Int) = 1 from rfl, show ((0 + 1 + 1 : Nat) : Int) = 2 from rfl]
    rcases h with h | h
    · simp only [h, Bool.false_eq_true, if_false, Option.bind_none]
    · by_cases h1 : kindsB (allF m 1) 2 = true
      · simp only [h1, h, Bool.false_eq_true, if_false, if_true, Option.bind_some, Option.bind_none]
      · simp only [Bool.not_eq_true] at h1; simp only [h1, Bool.false_eq_true, if_false, Option.bind_none]
theorem addrTk_some {s : List UInt8} {m : List WF} (hp : parseF s = some m) (h1 : kindsB (allF m 1) 2 = true) (h2 : kindsB (allF m 2) 0 = true) (h3 : kindsB (allF m 3) 0 = true) : addrTk s = some ((lastW (allF m 1)).s, (lastW (allF m 2)).n, (lastW (allF m 3)).n) := by
  unfold addrTk
  rw [hp, Option.bind_some]
  simp only [tkAll, tkAddr, show ((0 + 1 : Nat) : Int) = 1 from rfl, show ((0 + 1 + 1 : Nat) : Int) = 2 from rfl, show ((0 + 1 + 1 + 1 : Nat) : Int) = 3 from rfl, h1, h2, h3, if_true, Option.bind_some, lastW_s, lastW_n]
theorem addrTk_none {s : List UInt8} (h : parseF s = none ∨ ∃ m, parseF s = some m ∧ (kindsB (allF m 1) 2 = false ∨ kindsB (allF m 2) 0 = false ∨ kindsB (allF m 3) 0 = false)) : addrTk s = none := by
  unfold addrTk
  rcases h with h | ⟨m, hp, h⟩
  · rw [h]; rfl
  · rw [hp, Option.bind_some]
    simp only [tkAll, tkAddr, show ((0 + 1 : Nat) : Int) = 1 from rfl, show ((0 + 1 + 1 : Nat) : Int) = 2 from rfl, show ((0 + 1 + 1 + 1 : Nat) : Int) = 3 from rfl]
    by_cases h1 : kindsB (allF m 1) 2 = true
    · by_cases h2 : kindsB (allF m 2) 0 = true
      · have h3 : kindsB (allF m 3) 0 = false := by
          rcases h with h | h | h
          · rw [h1] at h; cases h
          · rw [h2] at h; cases h
          · exact h
        simp only [h1, h2, h3, Bool.false_eq_true, if_false, if_true, Option.bind_some, Option.bind_none]
      · simp only [Bool.not_eq_true] at h2; simp only [h1, h2, Bool.false_eq_true, if_false, if_true, Option.bind_some, Option.bind_none]
    · simp only [Bool.not_eq_true] at h1; simp only [h1, Bool.false_eq_true, if_false, Option.bind_none]
theorem tkAll_some {has : List UInt8} {l : List WF} {R : Option PL} {c c' : PL} (n k : Nat) (h : tkAll (tkPay has) l (n + 1) k c = R) (hs : tkPay has k c (allF l ((k + 1 : Nat) : Int)) = some c') : tkAll (tkPay has) l n (k + 1) c' = R := by
  rw [← h]
  show _ = (tkPay has k c _).bind _
  rw [hs]; rfl
theorem tkAll_no {has : List UInt8} {l : List WF} {R : Option PL} {c : PL} (n k : Nat) (h : tkAll (tkPay has) l (n + 1) k c = R) (hs : tkPay has k c (allF l ((k + 1 : Nat) : Int)) = none) : R = none := by
  rw [← h]
  show (tkPay has k c _).bind _ = none
  rw [hs]; rfl
theorem WF_one (x : WF) : ∀ u ∈ WF.cs x, u.oneCell' = true := by
  intro u hu
  simp [WF.cs] at hu
  rcases hu with rfl | rfl | rfl | rfl <;> rfl
theorem own_any {w : World} {e : TypeId} {base : Nat} {rv : Value} {n : Nat} {xs : List Value} (h : w.ownsRow base e 2 rv n xs) : SlR w 2 rv n xs := SlR.of_own h
def letS : List UInt8 := [32, 110, 112, 111, 114, 108, 115, 97, 107]
set_option maxRecDepth 100000 in
set_option maxHeartbeats 16000000 in
theorem rGet_ca (kind : Int) (s : List UInt8) (hs : s.length ≤ 1000000000) (w : World) :
    Ca Tryd.prog 16 #[.int .i64 kind, S s] w fun v w' => getR kind s v w' ∧ Keeps NoB w w' := by
  refine ca_of_body (args := [.int .i64 kind, S s]) Tryd.func16 rfl (by kernel_rfl) ?_
  apply wc_seq
  apply wc_region
  refine wr_alloc rfl ?_
  obtain ⟨w1, hw1⟩ : ∃ w1, w1 = w.alloc (.cells (Value.agg PlZ.toArray).cells 37) := ⟨_, rfl⟩
  have hk1 : Keeps NoB w w1 := by rw [hw1]; exact (Keeps.refl NoB w).alloc _
  obtain ⟨rb, hrb⟩ : ∃ rb, rb = w.heap.size := ⟨_, rfl⟩
  have hR1 : w1.heap[rb]? = some (.cells PlZ.toArray 37 (0, 0)) := by rw [hw1, hrb]; exact heap_alloc_same _ _
  rw [← hw1]
  clear hw1
  rw [← hrb]
  (repeat first | (apply wr_move; exact rfl; with_reducible (conv => enter [6, 3]; whnf)) | (apply wr_assign; exact rfl; with_reducible (conv => enter [6, 3]; whnf)) | apply wr_end | apply wc_seq | apply wc_region)
  refine wr_call (vs := [.int .i64 kind]) rfl (rHas_ca kind w1) rfl ?_
  rintro v w2 ⟨rfl, hk2⟩
  (repeat first | (apply wr_move; exact rfl; with_reducible (conv => enter [6, 3]; whnf)) | (apply wr_assign; exact rfl; with_reducible (conv => enter [6, 3]; whnf)) | apply wr_end | apply wc_seq | apply wc_region | (apply wr_extract; (iterate 3 exact rfl); with_reducible (conv => enter [6, 3]; whnf)))
  refine wr_call (vs := [S s]) rfl (rparse_ca s (by omega) w2) rfl ?_
  rintro v w3 ⟨hpr, hk3⟩
  have hw3 := hk1.trans (hk2.trans hk3)
  have hR3 := (hk2.trans hk3).heap hR1 (fun h => h)
  have hrb3 := lt_of_heap hR3
  obtain ⟨sl, pok, rfl, hpp⟩ := rparse_any hpr
  clear hpr
  have hhl : (hasF kind).1.length ≤ 2 := by unfold hasF; split; decide; split; decide; split; decide; split; decide; split; decide; decide
  have hget0 : getP kind s = if (hasF kind).2 = true then (parseF s).bind fun l => tkAll (tkPay (hasF kind).1) l 8 0 PL0 else none := rfl
  generalize (hasF kind).1 = has at hhl hget0 ⊢
  generalize (hasF kind).2 = okh at hget0 ⊢
  cases okh with
  | false =>
    rw [if_neg (by decide)] at hget0
    (repeat first | (apply wr_move; exact rfl; with_reducible (conv => enter [6, 3]; whnf)) | (apply wr_assign; exact rfl; with_reducible (conv => enter [6, 3]; whnf)) | apply wr_end | apply wc_seq | apply wc_region | (apply wr_not; iterate 2 exact rfl) | (apply wr_pick (t := true); (iterate 2 exact rfl); with_reducible (conv => enter [6, 3]; whnf)) | (apply wr_extract; (iterate 3 exact rfl); with_reducible (conv => enter [6, 3]; whnf)) | (apply wc_true; exact rfl) | (apply wr_skip; exact rfl))
    refine wr_build (ps := []) (cs := PlZ) rfl rfl rfl rfl ?_
    refine wr_storeAll (cs := PlZ) rfl rfl rfl (PlC_one (p := PL0) rfl rfl) hR3 rfl rfl ?_
    (repeat first | (apply wr_assign; exact rfl; with_reducible (conv => enter [6, 3]; whnf)) | apply wr_end | (apply wc_ret; try simp only [thenE, inBlockE, bodyQ]))
    exact leaveN (vs := [PlV PL0 (.slice none 0 0) (.slice none 0 0), .bool false]) (resv_cells (cs := PlZ) rfl rfl (World.putObj_heap_same (lt_of_heap hR3)) rfl (resv_tmp rfl resv_nil)) ⟨⟨PL0, _, _, false, rfl, PlS.zero _, .inr ⟨rfl, hget0, rfl⟩⟩, Keeps.put hw3 _ (fun h => by omega)⟩
  | true =>
  rw [if_pos rfl] at hget0
  rcases hpp with ⟨rfl, l, hp, ho⟩ | ⟨rfl, hp, rfl⟩
  rotate_left
  · rw [hp] at hget0
    (repeat first | (apply wr_move; exact rfl; with_reducible (conv => enter [6, 3]; whnf)) | (apply wr_assign; exact rfl; with_reducible (conv => enter [6, 3]; whnf)) | apply wr_end | apply wc_seq | apply wc_region | (apply wr_not; iterate 2 exact rfl) | (apply wr_pick (t := false); (iterate 2 exact rfl); with_reducible (conv => enter [6, 3]; whnf)) | (apply wr_extract; (iterate 3 exact rfl); with_reducible (conv => enter [6, 3]; whnf)) | (apply wc_true; exact rfl))
    refine wr_build (ps := []) (cs := PlZ) rfl rfl rfl rfl ?_
    refine wr_storeAll (cs := PlZ) rfl rfl rfl (PlC_one (p := PL0) rfl rfl) hR3 rfl rfl ?_
    (repeat first | (apply wr_assign; exact rfl; with_reducible (conv => enter [6, 3]; whnf)) | apply wr_end | (apply wc_ret; try simp only [thenE, inBlockE, bodyQ]))
    exact leaveN (vs := [PlV PL0 (.slice none 0 0) (.slice none 0 0), .bool false]) (resv_cells (cs := PlZ) rfl rfl (World.putObj_heap_same (lt_of_heap hR3)) rfl (resv_tmp rfl resv_nil)) ⟨⟨PL0, _, _, false, rfl, PlS.zero _, .inr ⟨rfl, hget0, rfl⟩⟩, Keeps.put hw3 _ (fun h => by omega)⟩
  rw [hp, Option.bind_some] at hget0
  have hll : l.length ≤ 1000000000000 := by have := parseF_len s.length s l (Nat.le_refl _) hp; omega
  have hls := parse_slen s.length s l (Nat.le_refl _) hp
  have hsl3 := SlR.of_own ho
  clear ho hp
  obtain ⟨R, hR⟩ : ∃ R, R = tkAll (tkPay has) l 8 0 PL0 := ⟨_, rfl⟩
  have hget : getP kind s = R := by rw [hget0, hR]
  clear hget0
  (repeat first | (apply wr_move; exact rfl; with_reducible (conv => enter [6, 3]; whnf)) | (apply wr_assign; exact rfl; with_reducible (conv => enter [6, 3]; whnf)) | apply wr_end | apply wc_seq | apply wc_region | apply wc_skip | (apply wr_not; iterate 2 exact rfl) | (apply wr_pick (t := false); (iterate 2 exact rfl); with_reducible (conv => enter [6, 3]; whnf)) | (apply wr_extract; (iterate 3 exact rfl); with_reducible (conv => enter [6, 3]; whnf)) | (apply wc_false; exact rfl))
  refine wr_build (ps := []) (cs := PlZ) rfl rfl rfl rfl ?_
  refine wr_alloc rfl ?_
  refine wr_storeAll (cs := PlZ) rfl rfl rfl (PlC_one (p := PL0) rfl rfl) (heap_alloc_same _ _) rfl rfl ?_
  obtain ⟨w4, h4⟩ : ∃ w', w' = (w3.alloc (.cells (Value.agg PlZ.toArray).cells 37)).putObj w3.heap.size (.cells PlZ.toArray 37 (0, 0)) := ⟨_, rfl⟩
  have kw4 : Keeps NoB w3 w4 := by rw [h4]; exact ((Keeps.refl NoB w3).alloc _).put _ (fun h => by omega)
  have hb4 : w4.heap[w3.heap.size]? = some (.cells PlZ.toArray 37 (0, 0)) := by rw [h4]; exact World.putObj_heap_same (by simp)
  rw [← h4]
  clear h4
  obtain ⟨tb, htb⟩ : ∃ tb, tb = w3.heap.size := ⟨_, rfl⟩
  rw [← htb] at hb4 ⊢
  (repeat first | (apply wr_assign; exact rfl; with_reducible (conv => enter [6, 3]; whnf)) | apply wr_end | apply wc_seq | apply wc_region | apply wc_block)
  refine wc_loopL (α := Nat × PL × Value × Value) (fun x => [(4, .pointer (some ⟨rb, 0, none⟩)), (6, S has), (8, sl), (10, S letS), (11, .pointer (some ⟨tb, 0, none⟩)), (12, .int .i64 ((x.1 + 1 : Nat) : Int))])
    (fun x ds w' => ds = [] ∧ x.1 ≤ 8 ∧ w'.heap[tb]? = some (.cells (PlC x.2.1 x.2.2.1 x.2.2.2).toArray 37 (0, 0)) ∧ w'.ownsRow (tb + 1) 71 2 x.2.2.1 x.2.1.rules.length (x.2.1.rules.flatMap GR) ∧ w'.ownsRow (tb + 1) 72 3 x.2.2.2 x.2.1.addrs.length (x.2.1.addrs.flatMap GA) ∧ Keeps NoB w3 w' ∧ GJ x.1 x.2.1 x.2.2.1 x.2.2.2 ∧ tkAll (tkPay has) l (8 - x.1) x.1 x.2.1 = R)
    (fun x => 8 - x.1) (0, PL0, .slice none 0 0, .slice none 0 0) ⟨rfl, Nat.zero_le _, hb4, own_nil _ _ _ _, own_nil _ _ _ _, kw4, ⟨fun _ => rfl, fun _ => rfl, fun _ => rfl, fun _ => rfl, fun _ => rfl, fun _ => rfl, fun _ => rfl, fun _ => rfl, fun _ => rfl, fun _ => rfl⟩, hR.symm⟩ ⟨rfl, rfl, rfl, rfl, rfl, rfl, trivial⟩ ?_
  rintro ⟨k, c, rv, av⟩ ds f0 w5 ⟨rfl, hk8, hb5, hrv5, hav5, hk5, hj, htk⟩
  dsimp only at hk8 hb5 hrv5 hav5 hk5 hj htk ⊢
  have hR5 := hk5.heap hR3 (fun h => h)
  have hsl5 := hsl3.keep hk5 (fun _ _ h => h)
  have hv5 := own_one hrv5
  have ha5 := own_one hav5
  by_cases hlt : k < 8
  rotate_left
  · have he : k = 8 := by omega
    subst he
    (repeat first | (apply wr_move; exact rfl; with_reducible (conv => enter [6, 3]; whnf)) | apply wr_end | apply wc_seq | apply wc_region | (apply wr_cmp; (iterate 3 exact rfl); exact cmpF (by dsimp only [cmpN]; first | done | omega)) | (apply wc_false; exact rfl) | (apply wc_exit; try simp only [thenE, inBlockE, bodyQ, ↓reduceIte, Nat.reduceEqDiff]))
    refine wr_loadAll (cs := PlC c rv av) rfl rfl rfl hb5 rfl ?_
    refine wr_storeAll (cs := PlC c rv av) rfl rfl rfl (PlC_one hv5 ha5) hR5 rfl rfl ?_
    (repeat first | (apply wr_assign; exact rfl; with_reducible (conv => enter [6, 3]; whnf)) | apply wr_end | (apply wc_ret; try simp only [thenE, inBlockE, bodyQ]))
    refine leaveN (vs := [PlV c rv av, .bool true]) (resv_cells (cs := PlC c rv av) rfl rfl (World.putObj_heap_same (lt_of_heap hR5)) rfl (resv_tmp rfl resv_nil)) ⟨⟨c, rv, av, true, rfl, ⟨?_, ?_⟩, .inl ⟨rfl, hget.trans htk.symm⟩⟩, (hw3.trans hk5).put _ (fun h => by omega)⟩
    · exact (SlR.of_own hrv5).keep ((Keeps.refl (· = rb) w5).put _ (fun _ => rfl)) (fun b hb e => by have := own_ge hrv5 hb; omega)
    · exact (SlR.of_own hav5).keep ((Keeps.refl (· = rb) w5).put _ (fun _ => rfl)) (fun b hb e => by have := own_ge hav5 hb; omega)
  have hcs : k = 0 ∨ k = 1 ∨ k = 2 ∨ k = 3 ∨ k = 4 ∨ k = 5 ∨ k = 6 ∨ k = 7 := by omega
  rcases hcs with rfl | rfl | rfl | rfl | rfl | rfl | rfl | rfl
  · skip
    have hb6 := hb5
    have hrv6 := hrv5
    have hav6 := hav5
    have hk36 := hk5
    have hsl6 := hsl5
    have hR6 := hR5
    obtain ⟨w6, e6⟩ : ∃ w6, w6 = w5 := ⟨_, rfl⟩
    rw [← e6] at hb6 hrv6 hav6 hk36 hsl6 hR6 ⊢
    (repeat first | (apply wr_move; exact rfl; with_reducible (conv => enter [6, 3]; whnf)) | (apply wr_assign; exact rfl; with_reducible (conv => enter [6, 3]; whnf)) | apply wr_end | apply wc_seq | apply wc_region | apply wc_skip | apply wc_block | (apply wr_cmp; (iterate 3 exact rfl); exact cmpT (by dsimp only [cmpP]; first | done | omega)) | (apply wr_cmp; (iterate 3 exact rfl); exact cmpF (by dsimp only [cmpN]; first | done | omega)) | (apply wr_pick (t := false); (iterate 2 exact rfl); with_reducible (conv => enter [6, 3]; whnf)) | (apply wc_true; exact rfl) | (apply wc_false; exact rfl) | (apply wr_skip; exact rfl))
    refine wr_call (vs := [sl, .int .i64 1, .int .i64 2]) rfl (rKinds_ca l 1 2 sl w6 hsl6 hll) rfl ?_
    rintro v w7 ⟨rfl, hk7⟩
    have hR7 := hk7.heap hR6 (fun h => h)
    have hk37 := hk36.trans hk7
    cases hkd : kindsB (allF l 1) 2 with
    | false =>
      (repeat first | (apply wr_move; exact rfl; with_reducible (conv => enter [6, 3]; whnf)) | (apply wr_assign; exact rfl; with_reducible (conv => enter [6, 3]; whnf)) | apply wr_end | apply wc_seq | apply wc_region | (apply wr_not; iterate 2 exact rfl) | (apply wc_true; exact rfl))
      refine wr_build (ps := []) (cs := PlZ) rfl rfl rfl rfl ?_
      refine wr_storeAll (cs := PlZ) rfl rfl rfl (PlC_one (p := PL0) rfl rfl) hR7 rfl rfl ?_
      (repeat first | (apply wr_assign; exact rfl; with_reducible (conv => enter [6, 3]; whnf)) | apply wr_end | (apply wc_ret; try simp only [thenE, inBlockE, bodyQ]))
      exact leaveN (vs := [PlV PL0 (.slice none 0 0) (.slice none 0 0), .bool false]) (resv_cells (cs := PlZ) rfl rfl (World.putObj_heap_same (lt_of_heap hR7)) rfl (resv_tmp rfl resv_nil)) ⟨⟨PL0, _, _, false, rfl, PlS.zero _, .inr ⟨rfl, (hget.trans (tkAll_no _ 0 htk (tk0_no hkd))), rfl⟩⟩, Keeps.put (hw3.trans hk37) _ (fun h => by omega)⟩
    | true =>
    (repeat first | (apply wr_move; exact rfl; with_reducible (conv => enter [6, 3]; whnf)) | (apply wr_assign; exact rfl; with_reducible (conv => enter [6, 3]; whnf)) | apply wr_end | apply wc_seq | apply wc_region | apply wc_skip | (apply wr_not; iterate 2 exact rfl) | (apply wc_false; exact rfl))
    refine wr_call (vs := [sl, .int .i64 1]) rfl (rLast_ca l 1 sl w7 (hsl6.keep hk7 (fun _ _ h => h)) hll) rfl ?_
    rintro v w8 ⟨rfl, hk8'⟩
    obtain ⟨X, hX⟩ : ∃ X, X = lastW (allF l 1) := ⟨_, rfl⟩
    rw [← hX]
    refine wr_alloc rfl ?_
    refine wr_storeAll (cs := WF.cs X) rfl rfl rfl (WF_one X) (heap_alloc_same _ _) rfl rfl ?_
    obtain ⟨w9, h9⟩ : ∃ w', w' = (w8.alloc (.cells (Value.agg #[.int .i64 0, .int .i64 0, .int .u64 0, S []]).cells 88)).putObj w8.heap.size (.cells (WF.cs X).toArray 88 (0, 0)) := ⟨_, rfl⟩
    have kw9 : Keeps NoB w8 w9 := by rw [h9]; exact ((Keeps.refl NoB w8).alloc _).put _ (fun h => by omega)
    have hf9 : w9.heap[w8.heap.size]? = some (.cells (WF.cs X).toArray 88 (0, 0)) := by rw [h9]; exact World.putObj_heap_same (by simp)
    rw [← h9]
    clear h9
    have hk69 := hk7.trans (hk8'.trans kw9)
    have hb9 := hk69.heap hb6 (fun h => h)
    have hrv9 := own_keep hrv6 hk69 (fun _ _ h => h)
    have hav9 := own_keep hav6 hk69 (fun _ _ h => h)
    have hk39 := hk36.trans hk69
    have hsl9 := hsl6.keep hk69 (fun _ _ h => h)
    have hR9 := hk69.heap hR6 (fun h => h)
    (repeat first | (apply wr_move; exact rfl; with_reducible (conv => enter [6, 3]; whnf)) | (apply wr_assign; exact rfl; with_reducible (conv => enter [6, 3]; whnf)) | apply wr_end | apply wc_seq | apply wc_region | apply wc_block | (apply wr_fieldAddr; iterate 2 exact rfl) | (apply wr_load; (iterate 3 exact rfl); (focus repeat first | with_reducible assumption | exact heap_alloc_same _ _ | exact World.putObj_heap_same (by first | omega | (simp only [World.size_alloc, World.putObj_size, ne_eq]; omega)) | ((first | refine hAl ?_ ?_ | refine hPu ?_ ?_); focus first | omega | (simp only [World.size_alloc, World.putObj_size, ne_eq]; omega))); exact rfl; conv => enter [6, 3]; whnf) | (apply wr_cmp; (iterate 3 exact rfl); exact cmpT (by dsimp only [cmpP]; first | done | omega)) | (apply wr_add; (iterate 3 exact rfl); exact w_fit (by dsimp only [kIn]; first | done | omega)) | (apply wr_store; (iterate 3 exact rfl); (first | exact rfl | with_reducible assumption); (focus repeat first | with_reducible assumption | exact heap_alloc_same _ _ | exact World.putObj_heap_same (by first | omega | (simp only [World.size_alloc, World.putObj_size, ne_eq]; omega)) | ((first | refine hAl ?_ ?_ | refine hPu ?_ ?_); focus first | omega | (simp only [World.size_alloc, World.putObj_size, ne_eq]; omega))); exact rfl) | (apply wc_true; exact rfl) | (apply wr_nil; try simp only [thenE, inBlockE, bodyQ]))
    exact ⟨(0 + 1, { c with name := X.s }, rv, av), by dsimp only; omega, ⟨by trivial, by omega, World.putObj_heap_same (lt_of_heap hb9), own_keep hrv9 ((Keeps.refl (· = tb) w9).put _ (fun _ => rfl)) (fun b hb e => by have := own_ge hrv9 hb; omega), own_keep hav9 ((Keeps.refl (· = tb) w9).put _ (fun _ => rfl)) (fun b hb e => by have := own_ge hav9 hb; omega), hk39.put _ (fun h => by omega), ⟨fun e => by omega, fun e => hj.a1 (by omega), fun e => hj.a2 (by omega), fun e => hj.a3 (by omega), fun e => hj.a4 (by omega), fun e => hj.a5 (by omega), fun e => hj.a6 (by omega), fun e => hj.a7 (by omega), fun e => hj.r3 (by omega), fun e => hj.r6 (by omega)⟩, tkAll_some _ 0 htk (by rw [hX]; exact tk0_yes (hj.a0 (by omega)) hkd)⟩, rfl, rfl, rfl, rfl, rfl, rfl, trivial⟩
  · skip
    (repeat first | (apply wr_move; exact rfl; with_reducible (conv => enter [6, 3]; whnf)) | apply wr_end | apply wc_seq | apply wc_region | apply wc_skip | apply wc_block | (apply wr_cmp; (iterate 3 exact rfl); exact cmpT (by dsimp only [cmpP]; first | done | omega)) | (apply wc_true; exact rfl))
    refine wr_index_str (i := 2) (b := 112) rfl rfl rfl (by decide) rfl ?_
    refine wr_call (vs := [S has, .int .u8 112]) rfl (rIn_ca has 112 (by omega) w5) rfl ?_
    rintro v w6 ⟨rfl, hk6⟩
    have hb6 := hk6.heap hb5 (fun h => h)
    have hrv6 := own_keep hrv5 hk6 (fun _ _ h => h)
    have hav6 := own_keep hav5 hk6 (fun _ _ h => h)
    have hk36 := hk5.trans hk6
    have hsl6 := hsl5.keep hk6 (fun _ _ h => h)
    have hR6 := hk6.heap hR5 (fun h => h)
    cases hin : inF has [112] with
    | false =>
      (repeat first | (apply wr_move; exact rfl; with_reducible (conv => enter [6, 3]; whnf)) | (apply wr_assign; exact rfl; with_reducible (conv => enter [6, 3]; whnf)) | apply wr_end | apply wc_region | (apply wr_not; iterate 2 exact rfl) | (apply wr_pick (t := true); (iterate 2 exact rfl); with_reducible (conv => enter [6, 3]; whnf)) | (apply wr_add; (iterate 3 exact rfl); exact w_fit (by dsimp only [kIn]; first | done | omega)) | (apply wc_true; exact rfl) | (apply wc_exit; try simp only [thenE, inBlockE, bodyQ, ↓reduceIte, Nat.reduceEqDiff]))
      exact ⟨(1 + 1, c, rv, av), by dsimp only; omega, ⟨by trivial, by omega, hb6, hrv6, hav6, hk36, hj.up, tkAll_some _ 1 htk (tk_skip 1 hin)⟩, rfl, rfl, rfl, rfl, rfl, rfl, trivial⟩
    | true =>
    (repeat first | (apply wr_move; exact rfl; with_reducible (conv => enter [6, 3]; whnf)) | (apply wr_assign; exact rfl; with_reducible (conv => enter [6, 3]; whnf)) | apply wr_end | apply wc_seq | apply wc_region | apply wc_skip | (apply wr_not; iterate 2 exact rfl) | (apply wr_cmp; (iterate 3 exact rfl); exact cmpT (by dsimp only [cmpP]; first | done | omega)) | (apply wr_pick (t := true); (iterate 2 exact rfl); with_reducible (conv => enter [6, 3]; whnf)) | (apply wc_true; exact rfl) | (apply wc_false; exact rfl) | (apply wr_skip; exact rfl))
    refine wr_call (vs := [sl, .int .i64 2, .int .i64 0]) rfl (rKinds_ca l 2 0 sl w6 hsl6 hll) rfl ?_
    rintro v w7 ⟨rfl, hk7⟩
    have hR7 := hk7.heap hR6 (fun h => h)
    have hk37 := hk36.trans hk7
    cases hkd : kindsB (allF l 2) 0 with
    | false =>
      (repeat first | (apply wr_move; exact rfl; with_reducible (conv => enter [6, 3]; whnf)) | (apply wr_assign; exact rfl; with_reducible (conv => enter [6, 3]; whnf)) | apply wr_end | apply wc_seq | apply wc_region | (apply wr_not; iterate 2 exact rfl) | (apply wc_true; exact rfl))
      refine wr_build (ps := []) (cs := PlZ) rfl rfl rfl rfl ?_
      refine wr_storeAll (cs := PlZ) rfl rfl rfl (PlC_one (p := PL0) rfl rfl) hR7 rfl rfl ?_
      (repeat first | (apply wr_assign; exact rfl; with_reducible (conv => enter [6, 3]; whnf)) | apply wr_end | (apply wc_ret; try simp only [thenE, inBlockE, bodyQ]))
      exact leaveN (vs := [PlV PL0 (.slice none 0 0) (.slice none 0 0), .bool false]) (resv_cells (cs := PlZ) rfl rfl (World.putObj_heap_same (lt_of_heap hR7)) rfl (resv_tmp rfl resv_nil)) ⟨⟨PL0, _, _, false, rfl, PlS.zero _, .inr ⟨rfl, (hget.trans (tkAll_no _ 1 htk (tk1_no hin hkd))), rfl⟩⟩, Keeps.put (hw3.trans hk37) _ (fun h => by omega)⟩
    | true =>
    (repeat first | (apply wr_move; exact rfl; with_reducible (conv => enter [6, 3]; whnf)) | (apply wr_assign; exact rfl; with_reducible (conv => enter [6, 3]; whnf)) | apply wr_end | apply wc_seq | apply wc_region | apply wc_skip | (apply wr_not; iterate 2 exact rfl) | (apply wc_false; exact rfl))
    refine wr_call (vs := [sl, .int .i64 2]) rfl (rLast_ca l 2 sl w7 (hsl6.keep hk7 (fun _ _ h => h)) hll) rfl ?_
    rintro v w8 ⟨rfl, hk8'⟩
    obtain ⟨X, hX⟩ : ∃ X, X = lastW (allF l 2) := ⟨_, rfl⟩
    rw [← hX]
    refine wr_alloc rfl ?_
    refine wr_storeAll (cs := WF.cs X) rfl rfl rfl (WF_one X) (heap_alloc_same _ _) rfl rfl ?_
    obtain ⟨w9, h9⟩ : ∃ w', w' = (w8.alloc (.cells (Value.agg #[.int .i64 0, .int .i64 0, .int .u64 0, S []]).cells 88)).putObj w8.heap.size (.cells (WF.cs X).toArray 88 (0, 0)) := ⟨_, rfl⟩
    have kw9 : Keeps NoB w8 w9 := by rw [h9]; exact ((Keeps.refl NoB w8).alloc _).put _ (fun h => by omega)
    have hf9 : w9.heap[w8.heap.size]? = some (.cells (WF.cs X).toArray 88 (0, 0)) := by rw [h9]; exact World.putObj_heap_same (by simp)
    rw [← h9]
    clear h9
    have hk69 := hk7.trans (hk8'.trans kw9)
    have hb9 := hk69.heap hb6 (fun h => h)
    have hrv9 := own_keep hrv6 hk69 (fun _ _ h => h)
    have hav9 := own_keep hav6 hk69 (fun _ _ h => h)
    have hk39 := hk36.trans hk69
    have hsl9 := hsl6.keep hk69 (fun _ _ h => h)
    have hR9 := hk69.heap hR6 (fun h => h)
    (repeat first | (apply wr_move; exact rfl; with_reducible (conv => enter [6, 3]; whnf)) | (apply wr_assign; exact rfl; with_reducible (conv => enter [6, 3]; whnf)) | apply wr_end | apply wc_seq | apply wc_region | apply wc_block | (apply wr_fieldAddr; iterate 2 exact rfl) | (apply wr_load; (iterate 3 exact rfl); (focus repeat first | with_reducible assumption | exact heap_alloc_same _ _ | exact World.putObj_heap_same (by first | omega | (simp only [World.size_alloc, World.putObj_size, ne_eq]; omega)) | ((first | refine hAl ?_ ?_ | refine hPu ?_ ?_); focus first | omega | (simp only [World.size_alloc, World.putObj_size, ne_eq]; omega))); exact rfl; conv => enter [6, 3]; whnf) | (apply wr_cmp; (iterate 3 exact rfl); exact cmpT (by dsimp only [cmpP]; first | done | omega)) | (apply wr_cmp; (iterate 3 exact rfl); exact cmpF (by dsimp only [cmpN]; first | done | omega)) | (apply wr_add; (iterate 3 exact rfl); exact w_fit (by dsimp only [kIn]; first | done | omega)) | (apply wr_store; (iterate 3 exact rfl); (first | exact rfl | with_reducible assumption); (focus repeat first | with_reducible assumption | exact heap_alloc_same _ _ | exact World.putObj_heap_same (by first | omega | (simp only [World.size_alloc, World.putObj_size, ne_eq]; omega)) | ((first | refine hAl ?_ ?_ | refine hPu ?_ ?_); focus first | omega | (simp only [World.size_alloc, World.putObj_size, ne_eq]; omega))); exact rfl) | (apply wc_true; exact rfl) | (apply wc_false; exact rfl) | (apply wr_nil; try simp only [thenE, inBlockE, bodyQ]))
    exact ⟨(1 + 1, { c with port := X.n }, rv, av), by dsimp only; omega, ⟨by trivial, by omega, World.putObj_heap_same (lt_of_heap hb9), own_keep hrv9 ((Keeps.refl (· = tb) w9).put _ (fun _ => rfl)) (fun b hb e => by have := own_ge hrv9 hb; omega), own_keep hav9 ((Keeps.refl (· = tb) w9).put _ (fun _ => rfl)) (fun b hb e => by have := own_ge hav9 hb; omega), hk39.put _ (fun h => by omega), ⟨fun e => by omega, fun e => by omega, fun e => hj.a2 (by omega), fun e => hj.a3 (by omega), fun e => hj.a4 (by omega), fun e => hj.a5 (by omega), fun e => hj.a6 (by omega), fun e => hj.a7 (by omega), fun e => hj.r3 (by omega), fun e => hj.r6 (by omega)⟩, tkAll_some _ 1 htk (by rw [hX]; exact tk1_yes hin (hj.a1 (by omega)) hkd)⟩, rfl, rfl, rfl, rfl, rfl, rfl, trivial⟩
  · skip
    (repeat first | (apply wr_move; exact rfl; with_reducible (conv => enter [6, 3]; whnf)) | apply wr_end | apply wc_seq | apply wc_region | apply wc_skip | apply wc_block | (apply wr_cmp; (iterate 3 exact rfl); exact cmpT (by dsimp only [cmpP]; first | done | omega)) | (apply wc_true; exact rfl))
    refine wr_index_str (i := 3) (b := 111) rfl rfl rfl (by decide) rfl ?_
    refine wr_call (vs := [S has, .int .u8 111]) rfl (rIn_ca has 111 (by omega) w5) rfl ?_
    rintro v w6 ⟨rfl, hk6⟩
    have hb6 := hk6.heap hb5 (fun h => h)
    have hrv6 := own_keep hrv5 hk6 (fun _ _ h => h)
    have hav6 := own_keep hav5 hk6 (fun _ _ h => h)
    have hk36 := hk5.trans hk6
    have hsl6 := hsl5.keep hk6 (fun _ _ h => h)
    have hR6 := hk6.heap hR5 (fun h => h)
    cases hin : inF has [111] with
    | false =>
      (repeat first | (apply wr_move; exact rfl; with_reducible (conv => enter [6, 3]; whnf)) | (apply wr_assign; exact rfl; with_reducible (conv => enter [6, 3]; whnf)) | apply wr_end | apply wc_region | (apply wr_not; iterate 2 exact rfl) | (apply wr_pick (t := true); (iterate 2 exact rfl); with_reducible (conv => enter [6, 3]; whnf)) | (apply wr_add; (iterate 3 exact rfl); exact w_fit (by dsimp only [kIn]; first | done | omega)) | (apply wc_true; exact rfl) | (apply wc_exit; try simp only [thenE, inBlockE, bodyQ, ↓reduceIte, Nat.reduceEqDiff]))
      exact ⟨(2 + 1, c, rv, av), by dsimp only; omega, ⟨by trivial, by omega, hb6, hrv6, hav6, hk36, hj.up, tkAll_some _ 2 htk (tk_skip 2 hin)⟩, rfl, rfl, rfl, rfl, rfl, rfl, trivial⟩
    | true =>
    (repeat first | (apply wr_move; exact rfl; with_reducible (conv => enter [6, 3]; whnf)) | (apply wr_assign; exact rfl; with_reducible (conv => enter [6, 3]; whnf)) | apply wr_end | apply wc_seq | apply wc_region | apply wc_skip | (apply wr_not; iterate 2 exact rfl) | (apply wr_cmp; (iterate 3 exact rfl); exact cmpF (by dsimp only [cmpN]; first | done | omega)) | (apply wr_pick (t := true); (iterate 2 exact rfl); with_reducible (conv => enter [6, 3]; whnf)) | (apply wr_pick (t := false); (iterate 2 exact rfl); with_reducible (conv => enter [6, 3]; whnf)) | (apply wc_false; exact rfl))
    refine wr_call (vs := [sl, .int .i64 3, .int .i64 2]) rfl (rKinds_ca l 3 2 sl w6 hsl6 hll) rfl ?_
    rintro v w7 ⟨rfl, hk7⟩
    have hR7 := hk7.heap hR6 (fun h => h)
    have hk37 := hk36.trans hk7
    cases hkd : kindsB (allF l 3) 2 with
    | false =>
      (repeat first | (apply wr_move; exact rfl; with_reducible (conv => enter [6, 3]; whnf)) | (apply wr_assign; exact rfl; with_reducible (conv => enter [6, 3]; whnf)) | apply wr_end | apply wc_seq | apply wc_region | (apply wr_not; iterate 2 exact rfl) | (apply wc_true; exact rfl))
      refine wr_build (ps := []) (cs := PlZ) rfl rfl rfl rfl ?_
      refine wr_storeAll (cs := PlZ) rfl rfl rfl (PlC_one (p := PL0) rfl rfl) hR7 rfl rfl ?_
      (repeat first | (apply wr_assign; exact rfl; with_reducible (conv => enter [6, 3]; whnf)) | apply wr_end | (apply wc_ret; try simp only [thenE, inBlockE, bodyQ]))
      exact leaveN (vs := [PlV PL0 (.slice none 0 0) (.slice none 0 0), .bool false]) (resv_cells (cs := PlZ) rfl rfl (World.putObj_heap_same (lt_of_heap hR7)) rfl (resv_tmp rfl resv_nil)) ⟨⟨PL0, _, _, false, rfl, PlS.zero _, .inr ⟨rfl, (hget.trans (tkAll_no _ 2 htk (tk2_no hin hkd))), rfl⟩⟩, Keeps.put (hw3.trans hk37) _ (fun h => by omega)⟩
    | true =>
    (repeat first | (apply wr_move; exact rfl; with_reducible (conv => enter [6, 3]; whnf)) | (apply wr_assign; exact rfl; with_reducible (conv => enter [6, 3]; whnf)) | apply wr_end | apply wc_seq | apply wc_region | apply wc_skip | (apply wr_not; iterate 2 exact rfl) | (apply wc_false; exact rfl))
    refine wr_call (vs := [sl, .int .i64 3]) rfl (rLast_ca l 3 sl w7 (hsl6.keep hk7 (fun _ _ h => h)) hll) rfl ?_
    rintro v w8 ⟨rfl, hk8'⟩
    obtain ⟨X, hX⟩ : ∃ X, X = lastW (allF l 3) := ⟨_, rfl⟩
    rw [← hX]
    refine wr_alloc rfl ?_
    refine wr_storeAll (cs := WF.cs X) rfl rfl rfl (WF_one X) (heap_alloc_same _ _) rfl rfl ?_
    obtain ⟨w9, h9⟩ : ∃ w', w' = (w8.alloc (.cells (Value.agg #[.int .i64 0, .int .i64 0, .int .u64 0, S []]).cells 88)).putObj w8.heap.size (.cells (WF.cs X).toArray 88 (0, 0)) := ⟨_, rfl⟩
    have kw9 : Keeps NoB w8 w9 := by rw [h9]; exact ((Keeps.refl NoB w8).alloc _).put _ (fun h => by omega)
    have hf9 : w9.heap[w8.heap.size]? = some (.cells (WF.cs X).toArray 88 (0, 0)) := by rw [h9]; exact World.putObj_heap_same (by simp)
    rw [← h9]
    clear h9
    have hk69 := hk7.trans (hk8'.trans kw9)
    have hb9 := hk69.heap hb6 (fun h => h)
    have hrv9 := own_keep hrv6 hk69 (fun _ _ h => h)
    have hav9 := own_keep hav6 hk69 (fun _ _ h => h)
    have hk39 := hk36.trans hk69
    have hsl9 := hsl6.keep hk69 (fun _ _ h => h)
    have hR9 := hk69.heap hR6 (fun h => h)
    (repeat first | (apply wr_move; exact rfl; with_reducible (conv => enter [6, 3]; whnf)) | (apply wr_assign; exact rfl; with_reducible (conv => enter [6, 3]; whnf)) | apply wr_end | apply wc_seq | apply wc_region | apply wc_block | (apply wr_fieldAddr; iterate 2 exact rfl) | (apply wr_load; (iterate 3 exact rfl); (focus repeat first | with_reducible assumption | exact heap_alloc_same _ _ | exact World.putObj_heap_same (by first | omega | (simp only [World.size_alloc, World.putObj_size, ne_eq]; omega)) | ((first | refine hAl ?_ ?_ | refine hPu ?_ ?_); focus first | omega | (simp only [World.size_alloc, World.putObj_size, ne_eq]; omega))); exact rfl; conv => enter [6, 3]; whnf) | (apply wr_cmp; (iterate 3 exact rfl); exact cmpT (by dsimp only [cmpP]; first | done | omega)) | (apply wr_cmp; (iterate 3 exact rfl); exact cmpF (by dsimp only [cmpN]; first | done | omega)) | (apply wr_add; (iterate 3 exact rfl); exact w_fit (by dsimp only [kIn]; first | done | omega)) | (apply wr_store; (iterate 3 exact rfl); (first | exact rfl | with_reducible assumption); (focus repeat first | with_reducible assumption | exact heap_alloc_same _ _ | exact World.putObj_heap_same (by first | omega | (simp only [World.size_alloc, World.putObj_size, ne_eq]; omega)) | ((first | refine hAl ?_ ?_ | refine hPu ?_ ?_); focus first | omega | (simp only [World.size_alloc, World.putObj_size, ne_eq]; omega))); exact rfl) | (apply wc_true; exact rfl) | (apply wc_false; exact rfl) | (apply wr_nil; try simp only [thenE, inBlockE, bodyQ]))
    exact ⟨(2 + 1, { c with route := X.s }, rv, av), by dsimp only; omega, ⟨by trivial, by omega, World.putObj_heap_same (lt_of_heap hb9), own_keep hrv9 ((Keeps.refl (· = tb) w9).put _ (fun _ => rfl)) (fun b hb e => by have := own_ge hrv9 hb; omega), own_keep hav9 ((Keeps.refl (· = tb) w9).put _ (fun _ => rfl)) (fun b hb e => by have := own_ge hav9 hb; omega), hk39.put _ (fun h => by omega), ⟨fun e => by omega, fun e => by omega, fun e => by omega, fun e => hj.a3 (by omega), fun e => hj.a4 (by omega), fun e => hj.a5 (by omega), fun e => hj.a6 (by omega), fun e => hj.a7 (by omega), fun e => hj.r3 (by omega), fun e => hj.r6 (by omega)⟩, tkAll_some _ 2 htk (by rw [hX]; exact tk2_yes hin (hj.a2 (by omega)) hkd)⟩, rfl, rfl, rfl, rfl, rfl, rfl, trivial⟩
  · skip
    (repeat first | (apply wr_move; exact rfl; with_reducible (conv => enter [6, 3]; whnf)) | apply wr_end | apply wc_seq | apply wc_region | apply wc_skip | apply wc_block | (apply wr_cmp; (iterate 3 exact rfl); exact cmpT (by dsimp only [cmpP]; first | done | omega)) | (apply wc_true; exact rfl))
    refine wr_index_str (i := 4) (b := 114) rfl rfl rfl (by decide) rfl ?_
    refine wr_call (vs := [S has, .int .u8 114]) rfl (rIn_ca has 114 (by omega) w5) rfl ?_
    rintro v w6 ⟨rfl, hk6⟩
    have hb6 := hk6.heap hb5 (fun h => h)
    have hrv6 := own_keep hrv5 hk6 (fun _ _ h => h)
    have hav6 := own_keep hav5 hk6 (fun _ _ h => h)
    have hk36 := hk5.trans hk6
    have hsl6 := hsl5.keep hk6 (fun _ _ h => h)
    have hR6 := hk6.heap hR5 (fun h => h)
    cases hin : inF has [114] with
    | false =>
      (repeat first | (apply wr_move; exact rfl; with_reducible (conv => enter [6, 3]; whnf)) | (apply wr_assign; exact rfl; with_reducible (conv => enter [6, 3]; whnf)) | apply wr_end | apply wc_region | (apply wr_not; iterate 2 exact rfl) | (apply wr_pick (t := true); (iterate 2 exact rfl); with_reducible (conv => enter [6, 3]; whnf)) | (apply wr_add; (iterate 3 exact rfl); exact w_fit (by dsimp only [kIn]; first | done | omega)) | (apply wc_true; exact rfl) | (apply wc_exit; try simp only [thenE, inBlockE, bodyQ, ↓reduceIte, Nat.reduceEqDiff]))
      exact ⟨(3 + 1, c, rv, av), by dsimp only; omega, ⟨by trivial, by omega, hb6, hrv6, hav6, hk36, hj.up, tkAll_some _ 3 htk (tk_skip 3 hin)⟩, rfl, rfl, rfl, rfl, rfl, rfl, trivial⟩
    | true =>
    (repeat first | (apply wr_move; exact rfl; with_reducible (conv => enter [6, 3]; whnf)) | (apply wr_assign; exact rfl; with_reducible (conv => enter [6, 3]; whnf)) | apply wr_end | apply wc_seq | apply wc_region | apply wc_skip | (apply wr_not; iterate 2 exact rfl) | (apply wr_cmp; (iterate 3 exact rfl); exact cmpF (by dsimp only [cmpN]; first | done | omega)) | (apply wr_pick (t := true); (iterate 2 exact rfl); with_reducible (conv => enter [6, 3]; whnf)) | (apply wr_pick (t := false); (iterate 2 exact rfl); with_reducible (conv => enter [6, 3]; whnf)) | (apply wc_false; exact rfl))
    refine wr_call (vs := [sl, .int .i64 4, .int .i64 2]) rfl (rKinds_ca l 4 2 sl w6 hsl6 hll) rfl ?_
    rintro v w7 ⟨rfl, hk7⟩
    have hR7 := hk7.heap hR6 (fun h => h)
    have hk37 := hk36.trans hk7
    cases hkd : kindsB (allF l 4) 2 with
    | false =>
      (repeat first | (apply wr_move; exact rfl; with_reducible (conv => enter [6, 3]; whnf)) | (apply wr_assign; exact rfl; with_reducible (conv => enter [6, 3]; whnf)) | apply wr_end | apply wc_seq | apply wc_region | (apply wr_not; iterate 2 exact rfl) | (apply wc_true; exact rfl))
      refine wr_build (ps := []) (cs := PlZ) rfl rfl rfl rfl ?_
      refine wr_storeAll (cs := PlZ) rfl rfl rfl (PlC_one (p := PL0) rfl rfl) hR7 rfl rfl ?_
      (repeat first | (apply wr_assign; exact rfl; with_reducible (conv => enter [6, 3]; whnf)) | apply wr_end | (apply wc_ret; try simp only [thenE, inBlockE, bodyQ]))
      exact leaveN (vs := [PlV PL0 (.slice none 0 0) (.slice none 0 0), .bool false]) (resv_cells (cs := PlZ) rfl rfl (World.putObj_heap_same (lt_of_heap hR7)) rfl (resv_tmp rfl resv_nil)) ⟨⟨PL0, _, _, false, rfl, PlS.zero _, .inr ⟨rfl, (hget.trans (tkAll_no _ 3 htk (by show tkPay has 3 c (allF l 4) = none; rw [tk3_eq hin (hj.a3 (by omega)), tkList_kinds hkd]; rfl))), rfl⟩⟩, Keeps.put (hw3.trans hk37) _ (fun h => by omega)⟩
    | true =>
    (repeat first | (apply wr_move; exact rfl; with_reducible (conv => enter [6, 3]; whnf)) | (apply wr_assign; exact rfl; with_reducible (conv => enter [6, 3]; whnf)) | apply wr_end | apply wc_seq | apply wc_region | apply wc_skip | (apply wr_not; iterate 2 exact rfl) | (apply wc_false; exact rfl))
    refine wr_call (vs := [sl, .int .i64 4]) rfl (rLast_ca l 4 sl w7 (hsl6.keep hk7 (fun _ _ h => h)) hll) rfl ?_
    rintro v w8 ⟨rfl, hk8'⟩
    obtain ⟨X, hX⟩ : ∃ X, X = lastW (allF l 4) := ⟨_, rfl⟩
    rw [← hX]
    refine wr_alloc rfl ?_
    refine wr_storeAll (cs := WF.cs X) rfl rfl rfl (WF_one X) (heap_alloc_same _ _) rfl rfl ?_
    obtain ⟨w9, h9⟩ : ∃ w', w' = (w8.alloc (.cells (Value.agg #[.int .i64 0, .int .i64 0, .int .u64 0, S []]).cells 88)).putObj w8.heap.size (.cells (WF.cs X).toArray 88 (0, 0)) := ⟨_, rfl⟩
    have kw9 : Keeps NoB w8 w9 := by rw [h9]; exact ((Keeps.refl NoB w8).alloc _).put _ (fun h => by omega)
    have hf9 : w9.heap[w8.heap.size]? = some (.cells (WF.cs X).toArray 88 (0, 0)) := by rw [h9]; exact World.putObj_heap_same (by simp)
    rw [← h9]
    clear h9
    have hk69 := hk7.trans (hk8'.trans kw9)
    have hb9 := hk69.heap hb6 (fun h => h)
    have hrv9 := own_keep hrv6 hk69 (fun _ _ h => h)
    have hav9 := own_keep hav6 hk69 (fun _ _ h => h)
    have hk39 := hk36.trans hk69
    have hsl9 := hsl6.keep hk69 (fun _ _ h => h)
    have hR9 := hk69.heap hR6 (fun h => h)
    have hj0 := hj.a3 (by omega)
    (repeat first | (apply wr_move; exact rfl; with_reducible (conv => enter [6, 3]; whnf)) | (apply wr_assign; exact rfl; with_reducible (conv => enter [6, 3]; whnf)) | apply wr_end | apply wc_seq | apply wc_region | apply wc_skip | apply wc_block | (apply wr_cmp; (iterate 3 exact rfl); exact cmpT (by dsimp only [cmpP]; first | done | omega)) | (apply wr_cmp; (iterate 3 exact rfl); exact cmpF (by dsimp only [cmpN]; first | done | omega)) | (apply wc_true; exact rfl) | (apply wc_false; exact rfl))
    refine wr_call (vs := [sl, .int .i64 4]) rfl (rall_ca l 4 sl w9 hsl9 hll) rfl ?_
    rintro v w10 ⟨ho10, hk10⟩
    have hAs : ∀ x ∈ allF l 4, x.s.length ≤ s.length ∧ x.n < 18446744073709551616 := fun x hx => hls x (List.mem_filter.1 hx).1
    have hno : tkList ruleTk [] (allF l 4) = none → R = none := fun h => tkAll_no _ 3 htk (by show tkPay has 3 c (allF l 4) = none; rw [tk3_eq hin hj0, h]; rfl)
    have hyes : ∀ x, tkList ruleTk [] (allF l 4) = some x → tkAll (tkPay has) l (8 - (3 + 1)) (3 + 1) { c with rules := x } = R := fun x h => tkAll_some _ 3 htk (by show tkPay has 3 c (allF l 4) = _; rw [tk3_eq hin hj0, h]; rfl)
    generalize allF l 4 = A at ho10 hAs hkd hno hyes
    have hAk := hkd
    obtain ⟨aA, cA, rfl, hcA, hatA⟩ := (SlR.of_own ho10).shape
    have hk310 := hk39.trans hk10
    have hb10 := hk10.heap hb9 (fun h => h)
    have hR10 := hk10.heap hR9 (fun h => h)
    have hrv10 := own_keep hrv9 hk10 (fun _ _ h => h)
    have hav10 := own_keep hav9 hk10 (fun _ _ h => h)
    have htb10 := lt_of_heap hb10
    have hrv0 : rv = .slice none 0 0 ∨ True := .inr trivial
    by_cases h64 : A.length ≤ 64
    rotate_left
    · (repeat first | (apply wr_move; exact rfl; with_reducible (conv => enter [6, 3]; whnf)) | (apply wr_assign; exact rfl; with_reducible (conv => enter [6, 3]; whnf)) | apply wr_end | apply wc_seq | apply wc_region | (apply wr_len_slice; iterate 2 exact rfl) | (apply wr_cmp; (iterate 3 exact rfl); exact cmpT (by dsimp only [cmpP]; first | done | omega)) | (apply wc_true; exact rfl))
      refine wr_build (ps := []) (cs := PlZ) rfl rfl rfl rfl ?_
      refine wr_storeAll (cs := PlZ) rfl rfl rfl (PlC_one (p := PL0) rfl rfl) hR10 rfl rfl ?_
      (repeat first | (apply wr_assign; exact rfl; with_reducible (conv => enter [6, 3]; whnf)) | apply wr_end | (apply wc_ret; try simp only [thenE, inBlockE, bodyQ]))
      exact leaveN (vs := [PlV PL0 (.slice none 0 0) (.slice none 0 0), .bool false]) (resv_cells (cs := PlZ) rfl rfl (World.putObj_heap_same (lt_of_heap hR10)) rfl (resv_tmp rfl resv_nil)) ⟨⟨PL0, _, _, false, rfl, PlS.zero _, .inr ⟨rfl, (hget.trans (hno (tkList_long (by omega)))), rfl⟩⟩, Keeps.put (hw3.trans hk310) _ (fun h => by omega)⟩
    (repeat first | (apply wr_move; exact rfl; with_reducible (conv => enter [6, 3]; whnf)) | (apply wr_assign; exact rfl; with_reducible (conv => enter [6, 3]; whnf)) | apply wr_end | apply wc_seq | apply wc_region | apply wc_skip | apply wc_block | (apply wr_len_slice; iterate 2 exact rfl) | (apply wr_cmp; (iterate 3 exact rfl); exact cmpF (by dsimp only [cmpN]; first | done | omega)) | (apply wc_false; exact rfl))
    have hrn : rv = .slice none 0 0 := hj.r3 (by omega)
    subst hrn
    refine wc_loopL (α := Nat × Value) (fun x => [(4, .pointer (some ⟨rb, 0, none⟩)), (6, S has), (8, sl), (10, S letS), (11, .pointer (some ⟨tb, 0, none⟩)), (12, .int .i64 ((3 + 1 : Nat) : Int)), (16, .slice aA A.length cA), (17, .int .i64 (x.1 : Int))])
      (fun x ds w' => ds = [] ∧ x.1 ≤ A.length ∧ w'.heap[tb]? = some (.cells (PlC c x.2 av).toArray 37 (0, 0)) ∧ w'.ownsRow w10.heap.size 71 2 x.2 ((A.take x.1).filterMap fun f => ruleTk f.s).length (((A.take x.1).filterMap fun f => ruleTk f.s).flatMap GR) ∧ Keeps (· = tb) w10 w' ∧ ((A.take x.1).all fun f => (ruleTk f.s).isSome) = true)
      (fun x => A.length - x.1) (0, .slice none 0 0) ⟨rfl, Nat.zero_le _, hb10, own_nil _ _ _ _, Keeps.refl _ _, rfl⟩ ⟨rfl, rfl, rfl, rfl, rfl, rfl, rfl, rfl, trivial⟩ ?_
    rintro ⟨i, v⟩ ds f1 w11 ⟨rfl, hi, hb11, hv11, hk11, hall⟩
    dsimp only at hi hb11 hv11 hk11 hall ⊢
    have hR11 := hk11.heap hR10 (by omega)
    have hk311 : Keeps NoB w3 w11 := Keeps.trans' hk310 hk11 (fun b hb e => by omega)
    by_cases hlt : i < A.length
    · obtain ⟨b, o, rfl, cur, e, fr, hb, hr⟩ := hatA (by omega)
      have hbne : b ≠ tb := by have := (ho10.lt b rfl).1; have := lt_of_heap hb9; omega
      have hb11' := hk11.heap hb hbne
      obtain ⟨x, hx⟩ : ∃ x, A[i]? = some x := ⟨A[i], by simp [hlt]⟩
      have hxl := hAs x (List.mem_of_getElem? hx)
      have hbl11 : ∀ b, v.ownBlock = some b → w10.heap.size ≤ b ∧ b < w11.heap.size := fun b hb => hv11.lt b hb
      (repeat first | (apply wr_move; exact rfl; with_reducible (conv => enter [6, 3]; whnf)) | apply wr_end | apply wc_seq | apply wc_region | apply wc_skip | apply wc_block | (apply wr_len_slice; iterate 2 exact rfl) | (apply wr_cmp; (iterate 3 exact rfl); exact cmpT (by dsimp only [cmpP]; first | done | omega)) | (apply wc_true; exact rfl))
      refine wr_indexAddr (i := i) rfl rfl rfl hlt ?_
      refine wr_fieldAddr rfl rfl ?_
      refine wr_load (v := S x.s) rfl rfl rfl hb11' (cell_elem (g := WF.cs) (k := 4) (n := A.length) (i := i) (j := 3) WF.cs_len hr hlt hx rfl) ?_
      refine wr_call (vs := [S x.s]) rfl (rparse_ca x.s (by omega) w11) rfl ?_
      rintro vv w12 ⟨hpr, hk12⟩
      obtain ⟨sl2, pk, rfl, hpp⟩ := rparse_any hpr
      clear hpr
      obtain ⟨m, hm, hml, hs2b, hsl2⟩ : ∃ m, ((pk = true ∧ parseF x.s = some m) ∨ (pk = false ∧ parseF x.s = none)) ∧ m.length ≤ 1000000000000 ∧ (∀ b, sl2.ownBlock = some b → w11.heap.size ≤ b) ∧ SlR w12 4 sl2 m.length (FL m) := by
        rcases hpp with ⟨h1, m, h2, h3⟩ | ⟨h1, h2, rfl⟩
        · exact ⟨m, .inl ⟨h1, h2⟩, by have := parseF_len x.s.length x.s m (Nat.le_refl _) h2; omega, fun b hb => (h3.lt b hb).1, SlR.of_own h3⟩
        · exact ⟨[], .inr ⟨h1, h2⟩, by decide, (fun b hb => by cases hb), ⟨rfl, none, 0, rfl, Nat.le_refl _, .inl ⟨rfl, fun _ => rfl⟩⟩⟩
      clear hpp
      (repeat first | (apply wr_move; exact rfl; with_reducible (conv => enter [6, 3]; whnf)) | (apply wr_assign; exact rfl; with_reducible (conv => enter [6, 3]; whnf)) | apply wr_end | apply wc_seq | apply wc_region | (apply wr_extract; (iterate 3 exact rfl); with_reducible (conv => enter [6, 3]; whnf)))
      refine wr_call (vs := [sl2, .int .i64 1, .int .i64 2]) rfl (rKinds_ca m 1 2 sl2 w12 hsl2 hml) rfl ?_
      rintro vv w13 ⟨rfl, hk13⟩
      (repeat first | (apply wr_move; exact rfl; with_reducible (conv => enter [6, 3]; whnf)) | (apply wr_assign; exact rfl; with_reducible (conv => enter [6, 3]; whnf)) | apply wr_end | apply wc_seq | apply wc_region)
      refine wr_call (vs := [sl2, .int .i64 2, .int .i64 2]) rfl (rKinds_ca m 2 2 sl2 w13 (hsl2.keep hk13 (fun _ _ h => h)) hml) rfl ?_
      rintro vv w14 ⟨rfl, hk14⟩
      have hsl14 := hsl2.keep (hk13.trans hk14) (fun _ _ h => h)
      have hk1114 := hk12.trans (hk13.trans hk14)
      have hR14 := hk1114.heap hR11 (fun h => h)
      have hk314 := hk311.trans hk1114
      rcases hm with ⟨rfl, hm⟩ | ⟨rfl, hm⟩
      rotate_left
      · skip
        (repeat first | (apply wr_move; exact rfl; with_reducible (conv => enter [6, 3]; whnf)) | (apply wr_assign; exact rfl; with_reducible (conv => enter [6, 3]; whnf)) | apply wr_end | apply wc_seq | apply wc_region | apply wc_skip | (apply wr_not; iterate 2 exact rfl) | (apply wr_cmp; (iterate 3 exact rfl); exact cmpF (by dsimp only [cmpN]; first | done | omega)) | (apply wr_pick (t := true); (iterate 2 exact rfl); with_reducible (conv => enter [6, 3]; whnf)) | (apply wc_true; exact rfl) | (apply wc_false; exact rfl) | (apply wr_skip; exact rfl))
        refine wr_build (ps := []) (cs := PlZ) rfl rfl rfl rfl ?_
        refine wr_storeAll (cs := PlZ) rfl rfl rfl (PlC_one (p := PL0) rfl rfl) hR14 rfl rfl ?_
        (repeat first | (apply wr_assign; exact rfl; with_reducible (conv => enter [6, 3]; whnf)) | apply wr_end | (apply wc_ret; try simp only [thenE, inBlockE, bodyQ]))
        exact leaveN (vs := [PlV PL0 (.slice none 0 0) (.slice none 0 0), .bool false]) (resv_cells (cs := PlZ) rfl rfl (World.putObj_heap_same (lt_of_heap hR14)) rfl (resv_tmp rfl resv_nil)) ⟨⟨PL0, _, _, false, rfl, PlS.zero _, .inr ⟨rfl, (hget.trans (hno (tkList_bad hx (ruleTk_none (.inl hm))))), rfl⟩⟩, Keeps.put (hw3.trans (hk314)) _ (fun h => by omega)⟩
      cases hb1 : kindsB (allF m 1) 2 with
      | false =>
        (repeat first | (apply wr_move; exact rfl; with_reducible (conv => enter [6, 3]; whnf)) | (apply wr_assign; exact rfl; with_reducible (conv => enter [6, 3]; whnf)) | apply wr_end | apply wc_seq | apply wc_region | apply wc_skip | (apply wr_not; iterate 2 exact rfl) | (apply wr_cmp; (iterate 3 exact rfl); exact cmpF (by dsimp only [cmpN]; first | done | omega)) | (apply wr_pick (t := true); (iterate 2 exact rfl); with_reducible (conv => enter [6, 3]; whnf)) | (apply wr_pick (t := false); (iterate 2 exact rfl); with_reducible (conv => enter [6, 3]; whnf)) | (apply wc_true; exact rfl) | (apply wc_false; exact rfl) | (apply wr_skip; exact rfl))
        refine wr_build (ps := []) (cs := PlZ) rfl rfl rfl rfl ?_
        refine wr_storeAll (cs := PlZ) rfl rfl rfl (PlC_one (p := PL0) rfl rfl) hR14 rfl rfl ?_
        (repeat first | (apply wr_assign; exact rfl; with_reducible (conv => enter [6, 3]; whnf)) | apply wr_end | (apply wc_ret; try simp only [thenE, inBlockE, bodyQ]))
        exact leaveN (vs := [PlV PL0 (.slice none 0 0) (.slice none 0 0), .bool false]) (resv_cells (cs := PlZ) rfl rfl (World.putObj_heap_same (lt_of_heap hR14)) rfl (resv_tmp rfl resv_nil)) ⟨⟨PL0, _, _, false, rfl, PlS.zero _, .inr ⟨rfl, (hget.trans (hno (tkList_bad hx (ruleTk_none (.inr ⟨m, hm, .inl hb1⟩))))), rfl⟩⟩, Keeps.put (hw3.trans (hk314)) _ (fun h => by omega)⟩
      | true =>
      cases hb2 : kindsB (allF m 2) 2 with
      | false =>
        (repeat first | (apply wr_move; exact rfl; with_reducible (conv => enter [6, 3]; whnf)) | (apply wr_assign; exact rfl; with_reducible (conv => enter [6, 3]; whnf)) | apply wr_end | apply wc_seq | apply wc_region | apply wc_skip | (apply wr_not; iterate 2 exact rfl) | (apply wr_cmp; (iterate 3 exact rfl); exact cmpF (by dsimp only [cmpN]; first | done | omega)) | (apply wr_pick (t := false); (iterate 2 exact rfl); with_reducible (conv => enter [6, 3]; whnf)) | (apply wc_true; exact rfl) | (apply wc_false; exact rfl))
        refine wr_build (ps := []) (cs := PlZ) rfl rfl rfl rfl ?_
        refine wr_storeAll (cs := PlZ) rfl rfl rfl (PlC_one (p := PL0) rfl rfl) hR14 rfl rfl ?_
        (repeat first | (apply wr_assign; exact rfl; with_reducible (conv => enter [6, 3]; whnf)) | apply wr_end | (apply wc_ret; try simp only [thenE, inBlockE, bodyQ]))
        exact leaveN (vs := [PlV PL0 (.slice none 0 0) (.slice none 0 0), .bool false]) (resv_cells (cs := PlZ) rfl rfl (World.putObj_heap_same (lt_of_heap hR14)) rfl (resv_tmp rfl resv_nil)) ⟨⟨PL0, _, _, false, rfl, PlS.zero _, .inr ⟨rfl, (hget.trans (hno (tkList_bad hx (ruleTk_none (.inr ⟨m, hm, .inr hb2⟩))))), rfl⟩⟩, Keeps.put (hw3.trans (hk314)) _ (fun h => by omega)⟩
      | true =>
      have hyy := ruleTk_some hm hb1 hb2
      generalize hX1 : lastW (allF m 1) = X1 at hyy
      generalize hX2 : lastW (allF m 2) = X2 at hyy
      have hsx : (A.take (i + 1)).filterMap (fun f => ruleTk f.s) = (A.take i).filterMap (fun f => ruleTk f.s) ++ [(X1.s, X2.s)] := by rw [List.take_add_one, hx, List.filterMap_append]; simp [hyy]
      have hal : ((A.take (i + 1)).all fun f => (ruleTk f.s).isSome) = true := by rw [List.take_add_one, hx, List.all_append, hall]; simp [hyy]
      have hLi : ((A.take i).filterMap fun f => ruleTk f.s).length ≤ 64 := Nat.le_trans (List.length_filterMap_le _ _) (by rw [List.length_take]; omega)
      have hbw14 := (hk1114).heap hb11 (fun h => h)
      have hvw14 := own_keep hv11 (hk1114) (fun _ _ h => h)
      have hszw14 := (hk1114).size
      have hszk := hk11.size
      have hv1 := own_one hvw14
      have hrd : ∀ {j w'}, Keeps (monD (fun k => v.ownBlock = some k) (some 10) j) w14.drew w' → Keeps (fun k => v.ownBlock = some k) w14.drew w' := by
        intro j w' h
        unfold monD at h
        simp only at h
        cases hb : Nat.beq j 10 with
        | true => rw [hb] at h; exact Keeps.upD h
        | false => rw [hb] at h; exact h
      have hslk : ∀ {w'}, Keeps (fun k => v.ownBlock = some k) w14.drew w' → SlR w' 4 sl2 m.length (FL m) := fun k => (hsl14.keep (Keeps.refl NoB w14).drew (fun _ _ h => h)).keep k (fun b hb e => by have := hs2b b hb; have := hbl11 b e; omega)
      obtain ⟨N, hN⟩ : ∃ N, N = ((A.take i).filterMap fun f => ruleTk f.s).length := ⟨_, rfl⟩
      (repeat first | (apply wr_move; exact rfl; with_reducible (conv => enter [6, 3]; whnf)) | (apply wr_assign; exact rfl; with_reducible (conv => enter [6, 3]; whnf)) | apply wr_end | apply wc_seq | apply wc_region | apply wc_skip | (apply wr_not; iterate 2 exact rfl) | (apply wr_cmp; (iterate 3 exact rfl); exact cmpT (by dsimp only [cmpP]; first | done | omega)) | (apply wr_cmp; (iterate 3 exact rfl); exact cmpF (by dsimp only [cmpN]; first | done | omega)) | (apply wr_pick (t := false); (iterate 2 exact rfl); with_reducible (conv => enter [6, 3]; whnf)) | (apply wc_true; exact rfl) | (apply wc_false; exact rfl))
      refine wc_drawQ (fun k => v.ownBlock = some k) (some 10) (l := _) 12 _ (by kernel_rfl) (by kernel_rfl) rfl (by kernel_rfl) (by kernel_rfl) (by decide) ?_
      apply chP_pure
      focus
        intro x w' hk hF
        refine wr_fieldAddr rfl rfl ?_
        apply wr_nil
        exact ⟨rfl, Keeps.refl _ _⟩
      focus (intro x y h; rfl)
      focus kernel_rfl
      apply chP_pure
      focus
        intro x w' hk hF
        refine wr_load (v := v) rfl rfl rfl ((hrd hk).heap (a := w14.drew) hbw14 (fun h => by have := hbl11 _ h; omega)) rfl ?_
        apply wr_nil
        exact ⟨rfl, Keeps.refl _ _⟩
      focus (intro x y h; rfl)
      focus kernel_rfl
      apply chP_pure
      focus
        intro x w' hk hF
        apply wr_move; exact rfl; with_reducible (conv => enter [6, 3]; whnf)
        apply wr_nil
        exact ⟨rfl, Keeps.refl _ _⟩
      focus (intro x y h; rfl)
      focus kernel_rfl
      apply chP_pure
      focus
        intro x w' hk hF
        refine wr_call (vs := [sl2, .int .i64 1]) rfl (rLast_ca m 1 sl2 w' (hslk (hrd hk)) hml) rfl ?_; rintro v'' w'' ⟨rfl, hk'⟩; rw [hX1]
        apply wr_nil
        exact ⟨rfl, hk'⟩
      focus (intro x y h; rfl)
      focus kernel_rfl
      apply chP_pure
      focus
        intro x w' hk hF
        refine wr_field (v := S X1.s) rfl rfl rfl rfl ?_
        apply wr_nil
        exact ⟨rfl, Keeps.refl _ _⟩
      focus (intro x y h; rfl)
      focus kernel_rfl
      apply chP_pure
      focus
        intro x w' hk hF
        apply wr_move; exact rfl; with_reducible (conv => enter [6, 3]; whnf)
        apply wr_nil
        exact ⟨rfl, Keeps.refl _ _⟩
      focus (intro x y h; rfl)
      focus kernel_rfl
      apply chP_pure
      focus
        intro x w' hk hF
        refine wr_call (vs := [sl2, .int .i64 2]) rfl (rLast_ca m 2 sl2 w' (hslk (hrd hk)) hml) rfl ?_; rintro v'' w'' ⟨rfl, hk'⟩; rw [hX2]
        apply wr_nil
        exact ⟨rfl, hk'⟩
      focus (intro x y h; rfl)
      focus kernel_rfl
      apply chP_pure
      focus
        intro x w' hk hF
        refine wr_field (v := S X2.s) rfl rfl rfl rfl ?_
        apply wr_nil
        exact ⟨rfl, Keeps.refl _ _⟩
      focus (intro x y h; rfl)
      focus kernel_rfl
      apply chP_pure
      focus
        intro x w' hk hF
        refine wr_build (ps := [(0, S X1.s), (1, S X2.s)]) (cs := GR (X1.s, X2.s)) rfl rfl rfl rfl ?_
        apply wr_nil
        exact ⟨rfl, Keeps.refl _ _⟩
      focus (intro x y h; rfl)
      focus kernel_rfl
      refine chP_fact (fun y => .slice (some ⟨blkV y, 0, none⟩) 1 1) (fun y w' => w'.heap[blkV y]? = some (.cells (GR (X1.s, X2.s)).toArray 71 (0, 0)) ∧ w14.heap.size ≤ blkV y) (fun y w w' h k => ⟨Keeps.heap (D := fun k => v.ownBlock = some k) k h.1 (fun hd => by have := hbl11 _ hd; omega), h.2⟩) ?_ ?_
      focus
        intro x w' hk hF
        refine wr_buildSlice (vs := [.agg (GR (X1.s, X2.s)).toArray]) rfl rfl (by intro v hv; simp at hv; subst hv; rfl) rfl (by decide) (by decide) (by decide) ?_
        apply wr_nil
        exact ⟨.pointer (some ⟨w'.heap.size, 0, none⟩), rfl, ⟨one_cells _ _ (by simp [Value.cells]) _ _, (hrd hk).size⟩, (Keeps.refl _ _).alloc _⟩
      refine chP_fact (fun y => y) (fun y w' => w'.ownsRow w10.heap.size 71 2 y (N + 1) (((A.take i).filterMap fun f => ruleTk f.s).flatMap GR ++ GR (X1.s, X2.s))) (fun y w w' h k => own_keep (D := NoB) h k (fun _ _ h => h)) ?_ ?_
      focus
        intro x w' hk hF
        obtain ⟨q1, q2⟩ : w'.heap[blkV (x 9)]? = some (.cells (GR (X1.s, X2.s)).toArray 71 (0, 0)) ∧ w14.heap.size ≤ blkV (x 9) := hF 9 (by kernel_rfl)
        have hkn : Keeps NoB w14.drew w' := hk
        have hwk : w14.heap.size ≤ w'.heap.size := hkn.size
        refine wr_append2 (v := v) (n := N) (m := 1) (b := blkV (x 9)) (news := GR (X1.s, X2.s)) rfl rfl (by rw [hN]; exact own_keep (w := w14.drew) hvw14 hkn (fun _ _ h => h)) rfl q1 rfl (by intro u hu; simp [GR] at hu; rcases hu with rfl | rfl <;> rfl) rfl (by decide) (by omega) (by omega) (by omega) ?_
        intro v' w'' ho' hk' hb'
        apply wr_nil
        exact ⟨v', rfl, ho', hk'⟩
      apply chP_pure
      focus
        intro x w' hk hF
        refine wr_fieldAddr rfl rfl ?_
        apply wr_nil
        exact ⟨rfl, Keeps.refl _ _⟩
      focus (intro x y h; rfl)
      focus kernel_rfl
      refine chP_nil ?_
      intro x w15 hk15 hF
      have q1 : w15.ownsRow w10.heap.size 71 2 (x 10) (N + 1) (((A.take i).filterMap fun f => ruleTk f.s).flatMap GR ++ GR (X1.s, X2.s)) := hF 10 (by decide)
      have h17 := own_one q1
      have hb15 := hk15.heap (a := w14.drew) hbw14 (fun h => by have := hbl11 _ h; omega)
      have hpb15 := lt_of_heap hb15
      have hk1015 : Keeps (· = tb) w10 w15 := (hk11.trans (Keeps.upD (hk1114))).trans' ((Keeps.refl _ w14).drew.trans hk15) (fun j hj h => by have := hbl11 j h; omega)
      (repeat first | (apply wr_move; exact rfl; with_reducible (conv => enter [6, 3]; whnf)) | (apply wr_assign; exact rfl; with_reducible (conv => enter [6, 3]; whnf)) | apply wr_end | apply wc_region | (apply wr_add; (iterate 3 exact rfl); exact w_fit (by dsimp only [kIn]; first | done | omega)) | (apply wr_store; (iterate 3 exact rfl); (first | exact rfl | with_reducible assumption); (focus repeat first | with_reducible assumption | exact heap_alloc_same _ _ | exact World.putObj_heap_same (by first | omega | (simp only [World.size_alloc, World.putObj_size, ne_eq]; omega)) | ((first | refine hAl ?_ ?_ | refine hPu ?_ ?_); focus first | omega | (simp only [World.size_alloc, World.putObj_size, ne_eq]; omega))); exact rfl) | (apply wr_nil; try simp only [thenE, inBlockE, bodyQ]))
      refine ⟨(i + 1, x 10), by dsimp only; omega, ⟨by trivial, hlt, World.putObj_heap_same hpb15, ?_, hk1015.put _ (fun _ => rfl), hal⟩, rfl, rfl, rfl, rfl, rfl, rfl, rfl, (by show Value.int .i64 _ = Value.int .i64 _; congr 1), trivial⟩
      dsimp only
      rw [hsx, List.flatMap_append, List.length_append, ← hN]
      exact own_keep (D := (· = tb)) (by simpa using q1) ((Keeps.refl (· = tb) w15).put _ (fun _ => rfl)) (fun b hb e => by have := (q1.lt b hb).1; omega)
    · have he : i = A.length := by omega
      subst he
      rw [List.take_length] at hv11 hall
      (repeat first | (apply wr_move; exact rfl; with_reducible (conv => enter [6, 3]; whnf)) | (apply wr_assign; exact rfl; with_reducible (conv => enter [6, 3]; whnf)) | apply wr_end | apply wc_seq | apply wc_region | (apply wr_len_slice; iterate 2 exact rfl) | (apply wr_cmp; (iterate 3 exact rfl); exact cmpF (by dsimp only [cmpN]; first | done | omega)) | (apply wr_add; (iterate 3 exact rfl); exact w_fit (by dsimp only [kIn]; first | done | omega)) | (apply wc_false; exact rfl) | (apply wc_exit; try simp only [thenE, inBlockE, bodyQ, ↓reduceIte, Nat.reduceEqDiff]))
      exact ⟨(3 + 1, { c with rules := A.filterMap fun f => ruleTk f.s }, v, av), by dsimp only; omega, ⟨by trivial, by omega, hb11, own_down hv11 (by omega), own_keep hav10 hk11 (fun b hb e => by have := own_ge hav10 hb; omega), hk311, ⟨fun e => by omega, fun e => by omega, fun e => by omega, fun e => by omega, fun e => hj.a4 (by omega), fun e => hj.a5 (by omega), fun e => hj.a6 (by omega), fun e => hj.a7 (by omega), fun e => by omega, fun e => hj.r6 (by omega)⟩, hyes _ (tkList_all hAk h64 hall)⟩, rfl, rfl, rfl, rfl, rfl, rfl, trivial⟩
  · skip
    (repeat first | (apply wr_move; exact rfl; with_reducible (conv => enter [6, 3]; whnf)) | apply wr_end | apply wc_seq | apply wc_region | apply wc_skip | apply wc_block | (apply wr_cmp; (iterate 3 exact rfl); exact cmpT (by dsimp only [cmpP]; first | done | omega)) | (apply wc_true; exact rfl))
    refine wr_index_str (i := 5) (b := 108) rfl rfl rfl (by decide) rfl ?_
    refine wr_call (vs := [S has, .int .u8 108]) rfl (rIn_ca has 108 (by omega) w5) rfl ?_
    rintro v w6 ⟨rfl, hk6⟩
    have hb6 := hk6.heap hb5 (fun h => h)
    have hrv6 := own_keep hrv5 hk6 (fun _ _ h => h)
    have hav6 := own_keep hav5 hk6 (fun _ _ h => h)
    have hk36 := hk5.trans hk6
    have hsl6 := hsl5.keep hk6 (fun _ _ h => h)
    have hR6 := hk6.heap hR5 (fun h => h)
    cases hin : inF has [108] with
    | false =>
      (repeat first | (apply wr_move; exact rfl; with_reducible (conv => enter [6, 3]; whnf)) | (apply wr_assign; exact rfl; with_reducible (conv => enter [6, 3]; whnf)) | apply wr_end | apply wc_region | (apply wr_not; iterate 2 exact rfl) | (apply wr_pick (t := true); (iterate 2 exact rfl); with_reducible (conv => enter [6, 3]; whnf)) | (apply wr_add; (iterate 3 exact rfl); exact w_fit (by dsimp only [kIn]; first | done | omega)) | (apply wc_true; exact rfl) | (apply wc_exit; try simp only [thenE, inBlockE, bodyQ, ↓reduceIte, Nat.reduceEqDiff]))
      exact ⟨(4 + 1, c, rv, av), by dsimp only; omega, ⟨by trivial, by omega, hb6, hrv6, hav6, hk36, hj.up, tkAll_some _ 4 htk (tk_skip 4 hin)⟩, rfl, rfl, rfl, rfl, rfl, rfl, trivial⟩
    | true =>
    (repeat first | (apply wr_move; exact rfl; with_reducible (conv => enter [6, 3]; whnf)) | (apply wr_assign; exact rfl; with_reducible (conv => enter [6, 3]; whnf)) | apply wr_end | apply wc_seq | apply wc_region | apply wc_skip | (apply wr_not; iterate 2 exact rfl) | (apply wr_cmp; (iterate 3 exact rfl); exact cmpT (by dsimp only [cmpP]; first | done | omega)) | (apply wr_cmp; (iterate 3 exact rfl); exact cmpF (by dsimp only [cmpN]; first | done | omega)) | (apply wr_pick (t := true); (iterate 2 exact rfl); with_reducible (conv => enter [6, 3]; whnf)) | (apply wr_pick (t := false); (iterate 2 exact rfl); with_reducible (conv => enter [6, 3]; whnf)) | (apply wc_true; exact rfl) | (apply wc_false; exact rfl))
    refine wr_call (vs := [sl, .int .i64 5, .int .i64 0]) rfl (rKinds_ca l 5 0 sl w6 hsl6 hll) rfl ?_
    rintro v w7 ⟨rfl, hk7⟩
    have hR7 := hk7.heap hR6 (fun h => h)
    have hk37 := hk36.trans hk7
    cases hkd : kindsB (allF l 5) 0 with
    | false =>
      (repeat first | (apply wr_move; exact rfl; with_reducible (conv => enter [6, 3]; whnf)) | (apply wr_assign; exact rfl; with_reducible (conv => enter [6, 3]; whnf)) | apply wr_end | apply wc_seq | apply wc_region | (apply wr_not; iterate 2 exact rfl) | (apply wc_true; exact rfl))
      refine wr_build (ps := []) (cs := PlZ) rfl rfl rfl rfl ?_
      refine wr_storeAll (cs := PlZ) rfl rfl rfl (PlC_one (p := PL0) rfl rfl) hR7 rfl rfl ?_
      (repeat first | (apply wr_assign; exact rfl; with_reducible (conv => enter [6, 3]; whnf)) | apply wr_end | (apply wc_ret; try simp only [thenE, inBlockE, bodyQ]))
      exact leaveN (vs := [PlV PL0 (.slice none 0 0) (.slice none 0 0), .bool false]) (resv_cells (cs := PlZ) rfl rfl (World.putObj_heap_same (lt_of_heap hR7)) rfl (resv_tmp rfl resv_nil)) ⟨⟨PL0, _, _, false, rfl, PlS.zero _, .inr ⟨rfl, (hget.trans (tkAll_no _ 4 htk (tk4_no hin hkd))), rfl⟩⟩, Keeps.put (hw3.trans hk37) _ (fun h => by omega)⟩
    | true =>
    (repeat first | (apply wr_move; exact rfl; with_reducible (conv => enter [6, 3]; whnf)) | (apply wr_assign; exact rfl; with_reducible (conv => enter [6, 3]; whnf)) | apply wr_end | apply wc_seq | apply wc_region | apply wc_skip | (apply wr_not; iterate 2 exact rfl) | (apply wc_false; exact rfl))
    refine wr_call (vs := [sl, .int .i64 5]) rfl (rLast_ca l 5 sl w7 (hsl6.keep hk7 (fun _ _ h => h)) hll) rfl ?_
    rintro v w8 ⟨rfl, hk8'⟩
    obtain ⟨X, hX⟩ : ∃ X, X = lastW (allF l 5) := ⟨_, rfl⟩
    rw [← hX]
    refine wr_alloc rfl ?_
    refine wr_storeAll (cs := WF.cs X) rfl rfl rfl (WF_one X) (heap_alloc_same _ _) rfl rfl ?_
    obtain ⟨w9, h9⟩ : ∃ w', w' = (w8.alloc (.cells (Value.agg #[.int .i64 0, .int .i64 0, .int .u64 0, S []]).cells 88)).putObj w8.heap.size (.cells (WF.cs X).toArray 88 (0, 0)) := ⟨_, rfl⟩
    have kw9 : Keeps NoB w8 w9 := by rw [h9]; exact ((Keeps.refl NoB w8).alloc _).put _ (fun h => by omega)
    have hf9 : w9.heap[w8.heap.size]? = some (.cells (WF.cs X).toArray 88 (0, 0)) := by rw [h9]; exact World.putObj_heap_same (by simp)
    rw [← h9]
    clear h9
    have hk69 := hk7.trans (hk8'.trans kw9)
    have hb9 := hk69.heap hb6 (fun h => h)
    have hrv9 := own_keep hrv6 hk69 (fun _ _ h => h)
    have hav9 := own_keep hav6 hk69 (fun _ _ h => h)
    have hk39 := hk36.trans hk69
    have hsl9 := hsl6.keep hk69 (fun _ _ h => h)
    have hR9 := hk69.heap hR6 (fun h => h)
    (repeat first | (apply wr_move; exact rfl; with_reducible (conv => enter [6, 3]; whnf)) | (apply wr_assign; exact rfl; with_reducible (conv => enter [6, 3]; whnf)) | apply wr_end | apply wc_seq | apply wc_region | apply wc_block | (apply wr_fieldAddr; iterate 2 exact rfl) | (apply wr_load; (iterate 3 exact rfl); (focus repeat first | with_reducible assumption | exact heap_alloc_same _ _ | exact World.putObj_heap_same (by first | omega | (simp only [World.size_alloc, World.putObj_size, ne_eq]; omega)) | ((first | refine hAl ?_ ?_ | refine hPu ?_ ?_); focus first | omega | (simp only [World.size_alloc, World.putObj_size, ne_eq]; omega))); exact rfl; conv => enter [6, 3]; whnf) | (apply wr_cmp; (iterate 3 exact rfl); exact cmpT (by dsimp only [cmpP]; first | done | omega)) | (apply wr_cmp; (iterate 3 exact rfl); exact cmpF (by dsimp only [cmpN]; first | done | omega)) | (apply wr_add; (iterate 3 exact rfl); exact w_fit (by dsimp only [kIn]; first | done | omega)) | (apply wr_store; (iterate 3 exact rfl); (first | exact rfl | with_reducible assumption); (focus repeat first | with_reducible assumption | exact heap_alloc_same _ _ | exact World.putObj_heap_same (by first | omega | (simp only [World.size_alloc, World.putObj_size, ne_eq]; omega)) | ((first | refine hAl ?_ ?_ | refine hPu ?_ ?_); focus first | omega | (simp only [World.size_alloc, World.putObj_size, ne_eq]; omega))); exact rfl) | (apply wc_true; exact rfl) | (apply wc_false; exact rfl) | (apply wr_nil; try simp only [thenE, inBlockE, bodyQ]))
    exact ⟨(4 + 1, { c with policy := X.n }, rv, av), by dsimp only; omega, ⟨by trivial, by omega, World.putObj_heap_same (lt_of_heap hb9), own_keep hrv9 ((Keeps.refl (· = tb) w9).put _ (fun _ => rfl)) (fun b hb e => by have := own_ge hrv9 hb; omega), own_keep hav9 ((Keeps.refl (· = tb) w9).put _ (fun _ => rfl)) (fun b hb e => by have := own_ge hav9 hb; omega), hk39.put _ (fun h => by omega), ⟨fun e => by omega, fun e => by omega, fun e => by omega, fun e => by omega, fun e => by omega, fun e => hj.a5 (by omega), fun e => hj.a6 (by omega), fun e => hj.a7 (by omega), fun e => by omega, fun e => hj.r6 (by omega)⟩, tkAll_some _ 4 htk (by rw [hX]; exact tk4_yes hin (hj.a4 (by omega)) hkd)⟩, rfl, rfl, rfl, rfl, rfl, rfl, trivial⟩
  · skip
    (repeat first | (apply wr_move; exact rfl; with_reducible (conv => enter [6, 3]; whnf)) | apply wr_end | apply wc_seq | apply wc_region | apply wc_skip | apply wc_block | (apply wr_cmp; (iterate 3 exact rfl); exact cmpT (by dsimp only [cmpP]; first | done | omega)) | (apply wc_true; exact rfl))
    refine wr_index_str (i := 6) (b := 115) rfl rfl rfl (by decide) rfl ?_
    refine wr_call (vs := [S has, .int .u8 115]) rfl (rIn_ca has 115 (by omega) w5) rfl ?_
    rintro v w6 ⟨rfl, hk6⟩
    have hb6 := hk6.heap hb5 (fun h => h)
    have hrv6 := own_keep hrv5 hk6 (fun _ _ h => h)
    have hav6 := own_keep hav5 hk6 (fun _ _ h => h)
    have hk36 := hk5.trans hk6
    have hsl6 := hsl5.keep hk6 (fun _ _ h => h)
    have hR6 := hk6.heap hR5 (fun h => h)
    cases hin : inF has [115] with
    | false =>
      (repeat first | (apply wr_move; exact rfl; with_reducible (conv => enter [6, 3]; whnf)) | (apply wr_assign; exact rfl; with_reducible (conv => enter [6, 3]; whnf)) | apply wr_end | apply wc_region | (apply wr_not; iterate 2 exact rfl) | (apply wr_pick (t := true); (iterate 2 exact rfl); with_reducible (conv => enter [6, 3]; whnf)) | (apply wr_add; (iterate 3 exact rfl); exact w_fit (by dsimp only [kIn]; first | done | omega)) | (apply wc_true; exact rfl) | (apply wc_exit; try simp only [thenE, inBlockE, bodyQ, ↓reduceIte, Nat.reduceEqDiff]))
      exact ⟨(5 + 1, c, rv, av), by dsimp only; omega, ⟨by trivial, by omega, hb6, hrv6, hav6, hk36, hj.up, tkAll_some _ 5 htk (tk_skip 5 hin)⟩, rfl, rfl, rfl, rfl, rfl, rfl, trivial⟩
    | true =>
    (repeat first | (apply wr_move; exact rfl; with_reducible (conv => enter [6, 3]; whnf)) | (apply wr_assign; exact rfl; with_reducible (conv => enter [6, 3]; whnf)) | apply wr_end | apply wc_seq | apply wc_region | apply wc_skip | (apply wr_not; iterate 2 exact rfl) | (apply wr_cmp; (iterate 3 exact rfl); exact cmpF (by dsimp only [cmpN]; first | done | omega)) | (apply wr_pick (t := true); (iterate 2 exact rfl); with_reducible (conv => enter [6, 3]; whnf)) | (apply wr_pick (t := false); (iterate 2 exact rfl); with_reducible (conv => enter [6, 3]; whnf)) | (apply wc_false; exact rfl))
    refine wr_call (vs := [sl, .int .i64 6, .int .i64 2]) rfl (rKinds_ca l 6 2 sl w6 hsl6 hll) rfl ?_
    rintro v w7 ⟨rfl, hk7⟩
    have hR7 := hk7.heap hR6 (fun h => h)
    have hk37 := hk36.trans hk7
    cases hkd : kindsB (allF l 6) 2 with
    | false =>
      (repeat first | (apply wr_move; exact rfl; with_reducible (conv => enter [6, 3]; whnf)) | (apply wr_assign; exact rfl; with_reducible (conv => enter [6, 3]; whnf)) | apply wr_end | apply wc_seq | apply wc_region | (apply wr_not; iterate 2 exact rfl) | (apply wc_true; exact rfl))
      refine wr_build (ps := []) (cs := PlZ) rfl rfl rfl rfl ?_
      refine wr_storeAll (cs := PlZ) rfl rfl rfl (PlC_one (p := PL0) rfl rfl) hR7 rfl rfl ?_
      (repeat first | (apply wr_assign; exact rfl; with_reducible (conv => enter [6, 3]; whnf)) | apply wr_end | (apply wc_ret; try simp only [thenE, inBlockE, bodyQ]))
      exact leaveN (vs := [PlV PL0 (.slice none 0 0) (.slice none 0 0), .bool false]) (resv_cells (cs := PlZ) rfl rfl (World.putObj_heap_same (lt_of_heap hR7)) rfl (resv_tmp rfl resv_nil)) ⟨⟨PL0, _, _, false, rfl, PlS.zero _, .inr ⟨rfl, (hget.trans (tkAll_no _ 5 htk (tk5_no hin hkd))), rfl⟩⟩, Keeps.put (hw3.trans hk37) _ (fun h => by omega)⟩
    | true =>
    (repeat first | (apply wr_move; exact rfl; with_reducible (conv => enter [6, 3]; whnf)) | (apply wr_assign; exact rfl; with_reducible (conv => enter [6, 3]; whnf)) | apply wr_end | apply wc_seq | apply wc_region | apply wc_skip | (apply wr_not; iterate 2 exact rfl) | (apply wc_false; exact rfl))
    refine wr_call (vs := [sl, .int .i64 6]) rfl (rLast_ca l 6 sl w7 (hsl6.keep hk7 (fun _ _ h => h)) hll) rfl ?_
    rintro v w8 ⟨rfl, hk8'⟩
    obtain ⟨X, hX⟩ : ∃ X, X = lastW (allF l 6) := ⟨_, rfl⟩
    rw [← hX]
    refine wr_alloc rfl ?_
    refine wr_storeAll (cs := WF.cs X) rfl rfl rfl (WF_one X) (heap_alloc_same _ _) rfl rfl ?_
    obtain ⟨w9, h9⟩ : ∃ w', w' = (w8.alloc (.cells (Value.agg #[.int .i64 0, .int .i64 0, .int .u64 0, S []]).cells 88)).putObj w8.heap.size (.cells (WF.cs X).toArray 88 (0, 0)) := ⟨_, rfl⟩
    have kw9 : Keeps NoB w8 w9 := by rw [h9]; exact ((Keeps.refl NoB w8).alloc _).put _ (fun h => by omega)
    have hf9 : w9.heap[w8.heap.size]? = some (.cells (WF.cs X).toArray 88 (0, 0)) := by rw [h9]; exact World.putObj_heap_same (by simp)
    rw [← h9]
    clear h9
    have hk69 := hk7.trans (hk8'.trans kw9)
    have hb9 := hk69.heap hb6 (fun h => h)
    have hrv9 := own_keep hrv6 hk69 (fun _ _ h => h)
    have hav9 := own_keep hav6 hk69 (fun _ _ h => h)
    have hk39 := hk36.trans hk69
    have hsl9 := hsl6.keep hk69 (fun _ _ h => h)
    have hR9 := hk69.heap hR6 (fun h => h)
    (repeat first | (apply wr_move; exact rfl; with_reducible (conv => enter [6, 3]; whnf)) | (apply wr_assign; exact rfl; with_reducible (conv => enter [6, 3]; whnf)) | apply wr_end | apply wc_seq | apply wc_region | apply wc_block | (apply wr_fieldAddr; iterate 2 exact rfl) | (apply wr_load; (iterate 3 exact rfl); (focus repeat first | with_reducible assumption | exact heap_alloc_same _ _ | exact World.putObj_heap_same (by first | omega | (simp only [World.size_alloc, World.putObj_size, ne_eq]; omega)) | ((first | refine hAl ?_ ?_ | refine hPu ?_ ?_); focus first | omega | (simp only [World.size_alloc, World.putObj_size, ne_eq]; omega))); exact rfl; conv => enter [6, 3]; whnf) | (apply wr_cmp; (iterate 3 exact rfl); exact cmpT (by dsimp only [cmpP]; first | done | omega)) | (apply wr_cmp; (iterate 3 exact rfl); exact cmpF (by dsimp only [cmpN]; first | done | omega)) | (apply wr_add; (iterate 3 exact rfl); exact w_fit (by dsimp only [kIn]; first | done | omega)) | (apply wr_store; (iterate 3 exact rfl); (first | exact rfl | with_reducible assumption); (focus repeat first | with_reducible assumption | exact heap_alloc_same _ _ | exact World.putObj_heap_same (by first | omega | (simp only [World.size_alloc, World.putObj_size, ne_eq]; omega)) | ((first | refine hAl ?_ ?_ | refine hPu ?_ ?_); focus first | omega | (simp only [World.size_alloc, World.putObj_size, ne_eq]; omega))); exact rfl) | (apply wc_true; exact rfl) | (apply wc_false; exact rfl) | (apply wr_nil; try simp only [thenE, inBlockE, bodyQ]))
    exact ⟨(5 + 1, { c with secret := X.s }, rv, av), by dsimp only; omega, ⟨by trivial, by omega, World.putObj_heap_same (lt_of_heap hb9), own_keep hrv9 ((Keeps.refl (· = tb) w9).put _ (fun _ => rfl)) (fun b hb e => by have := own_ge hrv9 hb; omega), own_keep hav9 ((Keeps.refl (· = tb) w9).put _ (fun _ => rfl)) (fun b hb e => by have := own_ge hav9 hb; omega), hk39.put _ (fun h => by omega), ⟨fun e => by omega, fun e => by omega, fun e => by omega, fun e => by omega, fun e => by omega, fun e => by omega, fun e => hj.a6 (by omega), fun e => hj.a7 (by omega), fun e => by omega, fun e => hj.r6 (by omega)⟩, tkAll_some _ 5 htk (by rw [hX]; exact tk5_yes hin (hj.a5 (by omega)) hkd)⟩, rfl, rfl, rfl, rfl, rfl, rfl, trivial⟩
  · skip
    (repeat first | (apply wr_move; exact rfl; with_reducible (conv => enter [6, 3]; whnf)) | apply wr_end | apply wc_seq | apply wc_region | apply wc_skip | apply wc_block | (apply wr_cmp; (iterate 3 exact rfl); exact cmpT (by dsimp only [cmpP]; first | done | omega)) | (apply wc_true; exact rfl))
    refine wr_index_str (i := 7) (b := 97) rfl rfl rfl (by decide) rfl ?_
    refine wr_call (vs := [S has, .int .u8 97]) rfl (rIn_ca has 97 (by omega) w5) rfl ?_
    rintro v w6 ⟨rfl, hk6⟩
    have hb6 := hk6.heap hb5 (fun h => h)
    have hrv6 := own_keep hrv5 hk6 (fun _ _ h => h)
    have hav6 := own_keep hav5 hk6 (fun _ _ h => h)
    have hk36 := hk5.trans hk6
    have hsl6 := hsl5.keep hk6 (fun _ _ h => h)
    have hR6 := hk6.heap hR5 (fun h => h)
    cases hin : inF has [97] with
    | false =>
      (repeat first | (apply wr_move; exact rfl; with_reducible (conv => enter [6, 3]; whnf)) | (apply wr_assign; exact rfl; with_reducible (conv => enter [6, 3]; whnf)) | apply wr_end | apply wc_region | (apply wr_not; iterate 2 exact rfl) | (apply wr_pick (t := true); (iterate 2 exact rfl); with_reducible (conv => enter [6, 3]; whnf)) | (apply wr_add; (iterate 3 exact rfl); exact w_fit (by dsimp only [kIn]; first | done | omega)) | (apply wc_true; exact rfl) | (apply wc_exit; try simp only [thenE, inBlockE, bodyQ, ↓reduceIte, Nat.reduceEqDiff]))
      exact ⟨(6 + 1, c, rv, av), by dsimp only; omega, ⟨by trivial, by omega, hb6, hrv6, hav6, hk36, hj.up, tkAll_some _ 6 htk (tk_skip 6 hin)⟩, rfl, rfl, rfl, rfl, rfl, rfl, trivial⟩
    | true =>
    (repeat first | (apply wr_move; exact rfl; with_reducible (conv => enter [6, 3]; whnf)) | (apply wr_assign; exact rfl; with_reducible (conv => enter [6, 3]; whnf)) | apply wr_end | apply wc_seq | apply wc_region | apply wc_skip | (apply wr_not; iterate 2 exact rfl) | (apply wr_cmp; (iterate 3 exact rfl); exact cmpF (by dsimp only [cmpN]; first | done | omega)) | (apply wr_pick (t := true); (iterate 2 exact rfl); with_reducible (conv => enter [6, 3]; whnf)) | (apply wr_pick (t := false); (iterate 2 exact rfl); with_reducible (conv => enter [6, 3]; whnf)) | (apply wc_false; exact rfl))
    refine wr_call (vs := [sl, .int .i64 7, .int .i64 2]) rfl (rKinds_ca l 7 2 sl w6 hsl6 hll) rfl ?_
    rintro v w7 ⟨rfl, hk7⟩
    have hR7 := hk7.heap hR6 (fun h => h)
    have hk37 := hk36.trans hk7
    cases hkd : kindsB (allF l 7) 2 with
    | false =>
      (repeat first | (apply wr_move; exact rfl; with_reducible (conv => enter [6, 3]; whnf)) | (apply wr_assign; exact rfl; with_reducible (conv => enter [6, 3]; whnf)) | apply wr_end | apply wc_seq | apply wc_region | (apply wr_not; iterate 2 exact rfl) | (apply wc_true; exact rfl))
      refine wr_build (ps := []) (cs := PlZ) rfl rfl rfl rfl ?_
      refine wr_storeAll (cs := PlZ) rfl rfl rfl (PlC_one (p := PL0) rfl rfl) hR7 rfl rfl ?_
      (repeat first | (apply wr_assign; exact rfl; with_reducible (conv => enter [6, 3]; whnf)) | apply wr_end | (apply wc_ret; try simp only [thenE, inBlockE, bodyQ]))
      exact leaveN (vs := [PlV PL0 (.slice none 0 0) (.slice none 0 0), .bool false]) (resv_cells (cs := PlZ) rfl rfl (World.putObj_heap_same (lt_of_heap hR7)) rfl (resv_tmp rfl resv_nil)) ⟨⟨PL0, _, _, false, rfl, PlS.zero _, .inr ⟨rfl, (hget.trans (tkAll_no _ 6 htk (by show tkPay has 6 c (allF l 7) = none; rw [tk6_eq hin (hj.a6 (by omega)), tkList_kinds hkd]; rfl))), rfl⟩⟩, Keeps.put (hw3.trans hk37) _ (fun h => by omega)⟩
    | true =>
    (repeat first | (apply wr_move; exact rfl; with_reducible (conv => enter [6, 3]; whnf)) | (apply wr_assign; exact rfl; with_reducible (conv => enter [6, 3]; whnf)) | apply wr_end | apply wc_seq | apply wc_region | apply wc_skip | (apply wr_not; iterate 2 exact rfl) | (apply wc_false; exact rfl))
    refine wr_call (vs := [sl, .int .i64 7]) rfl (rLast_ca l 7 sl w7 (hsl6.keep hk7 (fun _ _ h => h)) hll) rfl ?_
    rintro v w8 ⟨rfl, hk8'⟩
    obtain ⟨X, hX⟩ : ∃ X, X = lastW (allF l 7) := ⟨_, rfl⟩
    rw [← hX]
    refine wr_alloc rfl ?_
    refine wr_storeAll (cs := WF.cs X) rfl rfl rfl (WF_one X) (heap_alloc_same _ _) rfl rfl ?_
    obtain ⟨w9, h9⟩ : ∃ w', w' = (w8.alloc (.cells (Value.agg #[.int .i64 0, .int .i64 0, .int .u64 0, S []]).cells 88)).putObj w8.heap.size (.cells (WF.cs X).toArray 88 (0, 0)) := ⟨_, rfl⟩
    have kw9 : Keeps NoB w8 w9 := by rw [h9]; exact ((Keeps.refl NoB w8).alloc _).put _ (fun h => by omega)
    have hf9 : w9.heap[w8.heap.size]? = some (.cells (WF.cs X).toArray 88 (0, 0)) := by rw [h9]; exact World.putObj_heap_same (by simp)
    rw [← h9]
    clear h9
    have hk69 := hk7.trans (hk8'.trans kw9)
    have hb9 := hk69.heap hb6 (fun h => h)
    have hrv9 := own_keep hrv6 hk69 (fun _ _ h => h)
    have hav9 := own_keep hav6 hk69 (fun _ _ h => h)
    have hk39 := hk36.trans hk69
    have hsl9 := hsl6.keep hk69 (fun _ _ h => h)
    have hR9 := hk69.heap hR6 (fun h => h)
    have hj0 := hj.a6 (by omega)
    (repeat first | (apply wr_move; exact rfl; with_reducible (conv => enter [6, 3]; whnf)) | (apply wr_assign; exact rfl; with_reducible (conv => enter [6, 3]; whnf)) | apply wr_end | apply wc_seq | apply wc_region | apply wc_block | (apply wr_cmp; (iterate 3 exact rfl); exact cmpT (by dsimp only [cmpP]; first | done | omega)) | (apply wr_cmp; (iterate 3 exact rfl); exact cmpF (by dsimp only [cmpN]; first | done | omega)) | (apply wc_true; exact rfl) | (apply wc_false; exact rfl))
    refine wr_call (vs := [sl, .int .i64 7]) rfl (rall_ca l 7 sl w9 hsl9 hll) rfl ?_
    rintro v w10 ⟨ho10, hk10⟩
    have hAs : ∀ x ∈ allF l 7, x.s.length ≤ s.length ∧ x.n < 18446744073709551616 := fun x hx => hls x (List.mem_filter.1 hx).1
    have hno : tkList addrTk [] (allF l 7) = none → R = none := fun h => tkAll_no _ 6 htk (by show tkPay has 6 c (allF l 7) = none; rw [tk6_eq hin hj0, h]; rfl)
    have hyes : ∀ x, tkList addrTk [] (allF l 7) = some x → tkAll (tkPay has) l (8 - (6 + 1)) (6 + 1) { c with addrs := x } = R := fun x h => tkAll_some _ 6 htk (by show tkPay has 6 c (allF l 7) = _; rw [tk6_eq hin hj0, h]; rfl)
    generalize allF l 7 = A at ho10 hAs hkd hno hyes
    have hAk := hkd
    obtain ⟨aA, cA, rfl, hcA, hatA⟩ := (SlR.of_own ho10).shape
    have hk310 := hk39.trans hk10
    have hb10 := hk10.heap hb9 (fun h => h)
    have hR10 := hk10.heap hR9 (fun h => h)
    have hrv10 := own_keep hrv9 hk10 (fun _ _ h => h)
    have hav10 := own_keep hav9 hk10 (fun _ _ h => h)
    have htb10 := lt_of_heap hb10
    have hrv0 : av = .slice none 0 0 ∨ True := .inr trivial
    by_cases h64 : A.length ≤ 64
    rotate_left
    · (repeat first | (apply wr_move; exact rfl; with_reducible (conv => enter [6, 3]; whnf)) | (apply wr_assign; exact rfl; with_reducible (conv => enter [6, 3]; whnf)) | apply wr_end | apply wc_seq | apply wc_region | (apply wr_len_slice; iterate 2 exact rfl) | (apply wr_cmp; (iterate 3 exact rfl); exact cmpT (by dsimp only [cmpP]; first | done | omega)) | (apply wc_true; exact rfl))
      refine wr_build (ps := []) (cs := PlZ) rfl rfl rfl rfl ?_
      refine wr_storeAll (cs := PlZ) rfl rfl rfl (PlC_one (p := PL0) rfl rfl) hR10 rfl rfl ?_
      (repeat first | (apply wr_assign; exact rfl; with_reducible (conv => enter [6, 3]; whnf)) | apply wr_end | (apply wc_ret; try simp only [thenE, inBlockE, bodyQ]))
      exact leaveN (vs := [PlV PL0 (.slice none 0 0) (.slice none 0 0), .bool false]) (resv_cells (cs := PlZ) rfl rfl (World.putObj_heap_same (lt_of_heap hR10)) rfl (resv_tmp rfl resv_nil)) ⟨⟨PL0, _, _, false, rfl, PlS.zero _, .inr ⟨rfl, (hget.trans (hno (tkList_long (by omega)))), rfl⟩⟩, Keeps.put (hw3.trans hk310) _ (fun h => by omega)⟩
    (repeat first | (apply wr_move; exact rfl; with_reducible (conv => enter [6, 3]; whnf)) | (apply wr_assign; exact rfl; with_reducible (conv => enter [6, 3]; whnf)) | apply wr_end | apply wc_seq | apply wc_region | apply wc_skip | apply wc_block | (apply wr_len_slice; iterate 2 exact rfl) | (apply wr_cmp; (iterate 3 exact rfl); exact cmpF (by dsimp only [cmpN]; first | done | omega)) | (apply wc_false; exact rfl))
    have hrn : av = .slice none 0 0 := hj.r6 (by omega)
    subst hrn
    refine wc_loopL (α := Nat × Value) (fun x => [(4, .pointer (some ⟨rb, 0, none⟩)), (6, S has), (8, sl), (10, S letS), (11, .pointer (some ⟨tb, 0, none⟩)), (12, .int .i64 ((6 + 1 : Nat) : Int)), (16, .slice aA A.length cA), (17, .int .i64 (x.1 : Int))])
      (fun x ds w' => ds = [] ∧ x.1 ≤ A.length ∧ w'.heap[tb]? = some (.cells (PlC c rv x.2).toArray 37 (0, 0)) ∧ w'.ownsRow w10.heap.size 72 3 x.2 ((A.take x.1).filterMap fun f => addrTk f.s).length (((A.take x.1).filterMap fun f => addrTk f.s).flatMap GA) ∧ Keeps (· = tb) w10 w' ∧ ((A.take x.1).all fun f => (addrTk f.s).isSome) = true)
      (fun x => A.length - x.1) (0, .slice none 0 0) ⟨rfl, Nat.zero_le _, hb10, own_nil _ _ _ _, Keeps.refl _ _, rfl⟩ ⟨rfl, rfl, rfl, rfl, rfl, rfl, rfl, rfl, trivial⟩ ?_
    rintro ⟨i, v⟩ ds f1 w11 ⟨rfl, hi, hb11, hv11, hk11, hall⟩
    dsimp only at hi hb11 hv11 hk11 hall ⊢
    have hR11 := hk11.heap hR10 (by omega)
    have hk311 : Keeps NoB w3 w11 := Keeps.trans' hk310 hk11 (fun b hb e => by omega)
    by_cases hlt : i < A.length
    · obtain ⟨b, o, rfl, cur, e, fr, hb, hr⟩ := hatA (by omega)
      have hbne : b ≠ tb := by have := (ho10.lt b rfl).1; have := lt_of_heap hb9; omega
      have hb11' := hk11.heap hb hbne
      obtain ⟨x, hx⟩ : ∃ x, A[i]? = some x := ⟨A[i], by simp [hlt]⟩
      have hxl := hAs x (List.mem_of_getElem? hx)
      have hbl11 : ∀ b, v.ownBlock = some b → w10.heap.size ≤ b ∧ b < w11.heap.size := fun b hb => hv11.lt b hb
      (repeat first | (apply wr_move; exact rfl; with_reducible (conv => enter [6, 3]; whnf)) | apply wr_end | apply wc_seq | apply wc_region | apply wc_skip | apply wc_block | (apply wr_len_slice; iterate 2 exact rfl) | (apply wr_cmp; (iterate 3 exact rfl); exact cmpT (by dsimp only [cmpP]; first | done | omega)) | (apply wc_true; exact rfl))
      refine wr_indexAddr (i := i) rfl rfl rfl hlt ?_
      refine wr_fieldAddr rfl rfl ?_
      refine wr_load (v := S x.s) rfl rfl rfl hb11' (cell_elem (g := WF.cs) (k := 4) (n := A.length) (i := i) (j := 3) WF.cs_len hr hlt hx rfl) ?_
      refine wr_call (vs := [S x.s]) rfl (rparse_ca x.s (by omega) w11) rfl ?_
      rintro vv w12 ⟨hpr, hk12⟩
      obtain ⟨sl2, pk, rfl, hpp⟩ := rparse_any hpr
      clear hpr
      obtain ⟨m, hm, hml, hs2b, hsl2⟩ : ∃ m, ((pk = true ∧ parseF x.s = some m) ∨ (pk = false ∧ parseF x.s = none)) ∧ m.length ≤ 1000000000000 ∧ (∀ b, sl2.ownBlock = some b → w11.heap.size ≤ b) ∧ SlR w12 4 sl2 m.length (FL m) := by
        rcases hpp with ⟨h1, m, h2, h3⟩ | ⟨h1, h2, rfl⟩
        · exact ⟨m, .inl ⟨h1, h2⟩, by have := parseF_len x.s.length x.s m (Nat.le_refl _) h2; omega, fun b hb => (h3.lt b hb).1, SlR.of_own h3⟩
        · exact ⟨[], .inr ⟨h1, h2⟩, by decide, (fun b hb => by cases hb), ⟨rfl, none, 0, rfl, Nat.le_refl _, .inl ⟨rfl, fun _ => rfl⟩⟩⟩
      clear hpp
      (repeat first | (apply wr_move; exact rfl; with_reducible (conv => enter [6, 3]; whnf)) | (apply wr_assign; exact rfl; with_reducible (conv => enter [6, 3]; whnf)) | apply wr_end | apply wc_seq | apply wc_region | (apply wr_extract; (iterate 3 exact rfl); with_reducible (conv => enter [6, 3]; whnf)))
      refine wr_call (vs := [sl2, .int .i64 1, .int .i64 2]) rfl (rKinds_ca m 1 2 sl2 w12 hsl2 hml) rfl ?_
      rintro vv w13 ⟨rfl, hk13⟩
      (repeat first | (apply wr_move; exact rfl; with_reducible (conv => enter [6, 3]; whnf)) | (apply wr_assign; exact rfl; with_reducible (conv => enter [6, 3]; whnf)) | apply wr_end | apply wc_seq | apply wc_region)
      refine wr_call (vs := [sl2, .int .i64 2, .int .i64 2]) rfl (rKinds_ca m 2 2 sl2 w13 (hsl2.keep hk13 (fun _ _ h => h)) hml) rfl ?_
      rintro vv w14 ⟨rfl, hk14⟩
      have hsl14 := hsl2.keep (hk13.trans hk14) (fun _ _ h => h)
      have hk1114 := hk12.trans (hk13.trans hk14)
      (repeat first | (apply wr_move; exact rfl; with_reducible (conv => enter [6, 3]; whnf)) | (apply wr_assign; exact rfl; with_reducible (conv => enter [6, 3]; whnf)) | apply wr_end | apply wc_seq | apply wc_region | (apply wr_cmp; (iterate 3 exact rfl); exact cmpT (by dsimp only [cmpP]; first | done | omega)) | (apply wc_true; exact rfl))
      refine wr_call (vs := [sl2, .int .i64 2, .int .i64 0]) rfl (rKinds_ca m 2 0 sl2 w14 hsl14 hml) rfl ?_
      rintro vv w16 ⟨rfl, hk16⟩
      have hk1116 := hk1114.trans hk16
      have hsl16 := hsl14.keep hk16 (fun _ _ h => h)
      have hR16 := hk1116.heap hR11 (fun h => h)
      have hk316 := hk311.trans hk1116
      generalize kindsB (allF m 2) 2 = bx
      cases hb2 : kindsB (allF m 2) 0 with
      | false =>
        rcases hm with ⟨rfl, hm⟩ | ⟨rfl, hm⟩
        rotate_left
        · skip
          (repeat first | (apply wr_move; exact rfl; with_reducible (conv => enter [6, 3]; whnf)) | (apply wr_assign; exact rfl; with_reducible (conv => enter [6, 3]; whnf)) | apply wr_end | apply wc_seq | apply wc_region | (apply wr_not; iterate 2 exact rfl) | (apply wr_pick (t := true); (iterate 2 exact rfl); with_reducible (conv => enter [6, 3]; whnf)) | (apply wr_pick (t := false); (iterate 2 exact rfl); with_reducible (conv => enter [6, 3]; whnf)) | (apply wc_true; exact rfl) | (apply wr_skip; exact rfl))
          refine wr_build (ps := []) (cs := PlZ) rfl rfl rfl rfl ?_
          refine wr_storeAll (cs := PlZ) rfl rfl rfl (PlC_one (p := PL0) rfl rfl) hR16 rfl rfl ?_
          (repeat first | (apply wr_assign; exact rfl; with_reducible (conv => enter [6, 3]; whnf)) | apply wr_end | (apply wc_ret; try simp only [thenE, inBlockE, bodyQ]))
          exact leaveN (vs := [PlV PL0 (.slice none 0 0) (.slice none 0 0), .bool false]) (resv_cells (cs := PlZ) rfl rfl (World.putObj_heap_same (lt_of_heap hR16)) rfl (resv_tmp rfl resv_nil)) ⟨⟨PL0, _, _, false, rfl, PlS.zero _, .inr ⟨rfl, (hget.trans (hno (tkList_bad hx (addrTk_none (.inl hm))))), rfl⟩⟩, Keeps.put (hw3.trans (hk316)) _ (fun h => by omega)⟩
        cases hb1 : kindsB (allF m 1) 2 with
        | false =>
          (repeat first | (apply wr_move; exact rfl; with_reducible (conv => enter [6, 3]; whnf)) | (apply wr_assign; exact rfl; with_reducible (conv => enter [6, 3]; whnf)) | apply wr_end | apply wc_seq | apply wc_region | (apply wr_not; iterate 2 exact rfl) | (apply wr_pick (t := true); (iterate 2 exact rfl); with_reducible (conv => enter [6, 3]; whnf)) | (apply wr_pick (t := false); (iterate 2 exact rfl); with_reducible (conv => enter [6, 3]; whnf)) | (apply wc_true; exact rfl) | (apply wr_skip; exact rfl))
          refine wr_build (ps := []) (cs := PlZ) rfl rfl rfl rfl ?_
          refine wr_storeAll (cs := PlZ) rfl rfl rfl (PlC_one (p := PL0) rfl rfl) hR16 rfl rfl ?_
          (repeat first | (apply wr_assign; exact rfl; with_reducible (conv => enter [6, 3]; whnf)) | apply wr_end | (apply wc_ret; try simp only [thenE, inBlockE, bodyQ]))
          exact leaveN (vs := [PlV PL0 (.slice none 0 0) (.slice none 0 0), .bool false]) (resv_cells (cs := PlZ) rfl rfl (World.putObj_heap_same (lt_of_heap hR16)) rfl (resv_tmp rfl resv_nil)) ⟨⟨PL0, _, _, false, rfl, PlS.zero _, .inr ⟨rfl, (hget.trans (hno (tkList_bad hx (addrTk_none (.inr ⟨m, hm, .inl hb1⟩))))), rfl⟩⟩, Keeps.put (hw3.trans (hk316)) _ (fun h => by omega)⟩
        | true =>
          (repeat first | (apply wr_move; exact rfl; with_reducible (conv => enter [6, 3]; whnf)) | (apply wr_assign; exact rfl; with_reducible (conv => enter [6, 3]; whnf)) | apply wr_end | apply wc_seq | apply wc_region | (apply wr_not; iterate 2 exact rfl) | (apply wr_pick (t := false); (iterate 2 exact rfl); with_reducible (conv => enter [6, 3]; whnf)) | (apply wc_true; exact rfl) | (apply wr_skip; exact rfl))
          refine wr_build (ps := []) (cs := PlZ) rfl rfl rfl rfl ?_
          refine wr_storeAll (cs := PlZ) rfl rfl rfl (PlC_one (p := PL0) rfl rfl) hR16 rfl rfl ?_
          (repeat first | (apply wr_assign; exact rfl; with_reducible (conv => enter [6, 3]; whnf)) | apply wr_end | (apply wc_ret; try simp only [thenE, inBlockE, bodyQ]))
          exact leaveN (vs := [PlV PL0 (.slice none 0 0) (.slice none 0 0), .bool false]) (resv_cells (cs := PlZ) rfl rfl (World.putObj_heap_same (lt_of_heap hR16)) rfl (resv_tmp rfl resv_nil)) ⟨⟨PL0, _, _, false, rfl, PlS.zero _, .inr ⟨rfl, (hget.trans (hno (tkList_bad hx (addrTk_none (.inr ⟨m, hm, .inr (.inl hb2)⟩))))), rfl⟩⟩, Keeps.put (hw3.trans (hk316)) _ (fun h => by omega)⟩
      | true =>
      (repeat first | (apply wr_move; exact rfl; with_reducible (conv => enter [6, 3]; whnf)))
      refine wr_call (vs := [sl2, .int .i64 3, .int .i64 0]) rfl (rKinds_ca m 3 0 sl2 w16 hsl16 hml) rfl ?_
      rintro vv w17 ⟨rfl, hk17⟩
      have hk1117 := hk1116.trans hk17
      have hsl17 := hsl16.keep hk17 (fun _ _ h => h)
      have hR17 := hk1117.heap hR11 (fun h => h)
      have hk317 := hk311.trans hk1117
      rcases hm with ⟨rfl, hm⟩ | ⟨rfl, hm⟩
      rotate_left
      · generalize kindsB (allF m 3) 0 = by3
        (repeat first | (apply wr_move; exact rfl; with_reducible (conv => enter [6, 3]; whnf)) | (apply wr_assign; exact rfl; with_reducible (conv => enter [6, 3]; whnf)) | apply wr_end | apply wc_seq | apply wc_region | (apply wr_not; iterate 2 exact rfl) | (apply wr_pick (t := true); (iterate 2 exact rfl); with_reducible (conv => enter [6, 3]; whnf)) | (apply wc_true; exact rfl) | (apply wr_skip; exact rfl))
        refine wr_build (ps := []) (cs := PlZ) rfl rfl rfl rfl ?_
        refine wr_storeAll (cs := PlZ) rfl rfl rfl (PlC_one (p := PL0) rfl rfl) hR17 rfl rfl ?_
        (repeat first | (apply wr_assign; exact rfl; with_reducible (conv => enter [6, 3]; whnf)) | apply wr_end | (apply wc_ret; try simp only [thenE, inBlockE, bodyQ]))
        exact leaveN (vs := [PlV PL0 (.slice none 0 0) (.slice none 0 0), .bool false]) (resv_cells (cs := PlZ) rfl rfl (World.putObj_heap_same (lt_of_heap hR17)) rfl (resv_tmp rfl resv_nil)) ⟨⟨PL0, _, _, false, rfl, PlS.zero _, .inr ⟨rfl, (hget.trans (hno (tkList_bad hx (addrTk_none (.inl hm))))), rfl⟩⟩, Keeps.put (hw3.trans (hk317)) _ (fun h => by omega)⟩
      cases hb1 : kindsB (allF m 1) 2 with
      | false =>
        (repeat first | (apply wr_move; exact rfl; with_reducible (conv => enter [6, 3]; whnf)) | (apply wr_assign; exact rfl; with_reducible (conv => enter [6, 3]; whnf)) | apply wr_end | apply wc_seq | apply wc_region | (apply wr_not; iterate 2 exact rfl) | (apply wr_pick (t := true); (iterate 2 exact rfl); with_reducible (conv => enter [6, 3]; whnf)) | (apply wr_pick (t := false); (iterate 2 exact rfl); with_reducible (conv => enter [6, 3]; whnf)) | (apply wc_true; exact rfl) | (apply wr_skip; exact rfl))
        refine wr_build (ps := []) (cs := PlZ) rfl rfl rfl rfl ?_
        refine wr_storeAll (cs := PlZ) rfl rfl rfl (PlC_one (p := PL0) rfl rfl) hR17 rfl rfl ?_
        (repeat first | (apply wr_assign; exact rfl; with_reducible (conv => enter [6, 3]; whnf)) | apply wr_end | (apply wc_ret; try simp only [thenE, inBlockE, bodyQ]))
        exact leaveN (vs := [PlV PL0 (.slice none 0 0) (.slice none 0 0), .bool false]) (resv_cells (cs := PlZ) rfl rfl (World.putObj_heap_same (lt_of_heap hR17)) rfl (resv_tmp rfl resv_nil)) ⟨⟨PL0, _, _, false, rfl, PlS.zero _, .inr ⟨rfl, (hget.trans (hno (tkList_bad hx (addrTk_none (.inr ⟨m, hm, .inl hb1⟩))))), rfl⟩⟩, Keeps.put (hw3.trans (hk317)) _ (fun h => by omega)⟩
      | true =>
      cases hb3 : kindsB (allF m 3) 0 with
      | false =>
        (repeat first | (apply wr_move; exact rfl; with_reducible (conv => enter [6, 3]; whnf)) | (apply wr_assign; exact rfl; with_reducible (conv => enter [6, 3]; whnf)) | apply wr_end | apply wc_seq | apply wc_region | (apply wr_not; iterate 2 exact rfl) | (apply wr_pick (t := true); (iterate 2 exact rfl); with_reducible (conv => enter [6, 3]; whnf)) | (apply wr_pick (t := false); (iterate 2 exact rfl); with_reducible (conv => enter [6, 3]; whnf)) | (apply wc_true; exact rfl))
        refine wr_build (ps := []) (cs := PlZ) rfl rfl rfl rfl ?_
        refine wr_storeAll (cs := PlZ) rfl rfl rfl (PlC_one (p := PL0) rfl rfl) hR17 rfl rfl ?_
        (repeat first | (apply wr_assign; exact rfl; with_reducible (conv => enter [6, 3]; whnf)) | apply wr_end | (apply wc_ret; try simp only [thenE, inBlockE, bodyQ]))
        exact leaveN (vs := [PlV PL0 (.slice none 0 0) (.slice none 0 0), .bool false]) (resv_cells (cs := PlZ) rfl rfl (World.putObj_heap_same (lt_of_heap hR17)) rfl (resv_tmp rfl resv_nil)) ⟨⟨PL0, _, _, false, rfl, PlS.zero _, .inr ⟨rfl, (hget.trans (hno (tkList_bad hx (addrTk_none (.inr ⟨m, hm, .inr (.inr hb3)⟩))))), rfl⟩⟩, Keeps.put (hw3.trans (hk317)) _ (fun h => by omega)⟩
      | true =>
      have hyy := addrTk_some hm hb1 hb2 hb3
      generalize hX1 : lastW (allF m 1) = X1 at hyy
      generalize hX2 : lastW (allF m 2) = X2 at hyy
      generalize hX3 : lastW (allF m 3) = X3 at hyy
      have hsx : (A.take (i + 1)).filterMap (fun f => addrTk f.s) = (A.take i).filterMap (fun f => addrTk f.s) ++ [(X1.s, X2.n, X3.n)] := by rw [List.take_add_one, hx, List.filterMap_append]; simp [hyy]
      have hal : ((A.take (i + 1)).all fun f => (addrTk f.s).isSome) = true := by rw [List.take_add_one, hx, List.all_append, hall]; simp [hyy]
      have hLi : ((A.take i).filterMap fun f => addrTk f.s).length ≤ 64 := Nat.le_trans (List.length_filterMap_le _ _) (by rw [List.length_take]; omega)
      have hbw17 := (hk1117).heap hb11 (fun h => h)
      have hvw17 := own_keep hv11 (hk1117) (fun _ _ h => h)
      have hszw17 := (hk1117).size
      have hszk := hk11.size
      have hv1 := own_one hvw17
      have hrd : ∀ {j w'}, Keeps (monD (fun k => v.ownBlock = some k) (some 13) j) w17.drew w' → Keeps (fun k => v.ownBlock = some k) w17.drew w' := by
        intro j w' h
        unfold monD at h
        simp only at h
        cases hb : Nat.beq j 13 with
        | true => rw [hb] at h; exact Keeps.upD h
        | false => rw [hb] at h; exact h
      have hslk : ∀ {w'}, Keeps (fun k => v.ownBlock = some k) w17.drew w' → SlR w' 4 sl2 m.length (FL m) := fun k => (hsl17.keep (Keeps.refl NoB w17).drew (fun _ _ h => h)).keep k (fun b hb e => by have := hs2b b hb; have := hbl11 b e; omega)
      obtain ⟨N, hN⟩ : ∃ N, N = ((A.take i).filterMap fun f => addrTk f.s).length := ⟨_, rfl⟩
      (repeat first | (apply wr_move; exact rfl; with_reducible (conv => enter [6, 3]; whnf)) | (apply wr_assign; exact rfl; with_reducible (conv => enter [6, 3]; whnf)) | apply wr_end | apply wc_seq | apply wc_region | apply wc_skip | (apply wr_not; iterate 2 exact rfl) | (apply wr_cmp; (iterate 3 exact rfl); exact cmpF (by dsimp only [cmpN]; first | done | omega)) | (apply wr_pick (t := true); (iterate 2 exact rfl); with_reducible (conv => enter [6, 3]; whnf)) | (apply wr_pick (t := false); (iterate 2 exact rfl); with_reducible (conv => enter [6, 3]; whnf)) | (apply wc_false; exact rfl))
      refine wc_drawQ (fun k => v.ownBlock = some k) (some 13) (l := _) 15 _ (by kernel_rfl) (by kernel_rfl) rfl (by kernel_rfl) (by kernel_rfl) (by decide) ?_
      apply chP_pure
      focus
        intro x w' hk hF
        refine wr_fieldAddr rfl rfl ?_
        apply wr_nil
        exact ⟨rfl, Keeps.refl _ _⟩
      focus (intro x y h; rfl)
      focus kernel_rfl
      apply chP_pure
      focus
        intro x w' hk hF
        refine wr_load (v := v) rfl rfl rfl ((hrd hk).heap (a := w17.drew) hbw17 (fun h => by have := hbl11 _ h; omega)) rfl ?_
        apply wr_nil
        exact ⟨rfl, Keeps.refl _ _⟩
      focus (intro x y h; rfl)
      focus kernel_rfl
      apply chP_pure
      focus
        intro x w' hk hF
        apply wr_move; exact rfl; with_reducible (conv => enter [6, 3]; whnf)
        apply wr_nil
        exact ⟨rfl, Keeps.refl _ _⟩
      focus (intro x y h; rfl)
      focus kernel_rfl
      apply chP_pure
      focus
        intro x w' hk hF
        refine wr_call (vs := [sl2, .int .i64 1]) rfl (rLast_ca m 1 sl2 w' (hslk (hrd hk)) hml) rfl ?_; rintro v'' w'' ⟨rfl, hk'⟩; rw [hX1]
        apply wr_nil
        exact ⟨rfl, hk'⟩
      focus (intro x y h; rfl)
      focus kernel_rfl
      apply chP_pure
      focus
        intro x w' hk hF
        refine wr_field (v := S X1.s) rfl rfl rfl rfl ?_
        apply wr_nil
        exact ⟨rfl, Keeps.refl _ _⟩
      focus (intro x y h; rfl)
      focus kernel_rfl
      apply chP_pure
      focus
        intro x w' hk hF
        apply wr_move; exact rfl; with_reducible (conv => enter [6, 3]; whnf)
        apply wr_nil
        exact ⟨rfl, Keeps.refl _ _⟩
      focus (intro x y h; rfl)
      focus kernel_rfl
      apply chP_pure
      focus
        intro x w' hk hF
        refine wr_call (vs := [sl2, .int .i64 2]) rfl (rLast_ca m 2 sl2 w' (hslk (hrd hk)) hml) rfl ?_; rintro v'' w'' ⟨rfl, hk'⟩; rw [hX2]
        apply wr_nil
        exact ⟨rfl, hk'⟩
      focus (intro x y h; rfl)
      focus kernel_rfl
      apply chP_pure
      focus
        intro x w' hk hF
        refine wr_field (v := .int .u64 (X2.n : Int)) rfl rfl rfl rfl ?_
        apply wr_nil
        exact ⟨rfl, Keeps.refl _ _⟩
      focus (intro x y h; rfl)
      focus kernel_rfl
      apply chP_pure
      focus
        intro x w' hk hF
        apply wr_move; exact rfl; with_reducible (conv => enter [6, 3]; whnf)
        apply wr_nil
        exact ⟨rfl, Keeps.refl _ _⟩
      focus (intro x y h; rfl)
      focus kernel_rfl
      apply chP_pure
      focus
        intro x w' hk hF
        refine wr_call (vs := [sl2, .int .i64 3]) rfl (rLast_ca m 3 sl2 w' (hslk (hrd hk)) hml) rfl ?_; rintro v'' w'' ⟨rfl, hk'⟩; rw [hX3]
        apply wr_nil
        exact ⟨rfl, hk'⟩
      focus (intro x y h; rfl)
      focus kernel_rfl
      apply chP_pure
      focus
        intro x w' hk hF
        refine wr_field (v := .int .u64 (X3.n : Int)) rfl rfl rfl rfl ?_
        apply wr_nil
        exact ⟨rfl, Keeps.refl _ _⟩
      focus (intro x y h; rfl)
      focus kernel_rfl
      apply chP_pure
      focus
        intro x w' hk hF
        refine wr_build (ps := [(0, S X1.s), (1, .int .u64 (X2.n : Int)), (2, .int .u64 (X3.n : Int))]) (cs := GA (X1.s, X2.n, X3.n)) rfl rfl rfl rfl ?_
        apply wr_nil
        exact ⟨rfl, Keeps.refl _ _⟩
      focus (intro x y h; rfl)
      focus kernel_rfl
      refine chP_fact (fun y => .slice (some ⟨blkV y, 0, none⟩) 1 1) (fun y w' => w'.heap[blkV y]? = some (.cells (GA (X1.s, X2.n, X3.n)).toArray 72 (0, 0)) ∧ w17.heap.size ≤ blkV y) (fun y w w' h k => ⟨Keeps.heap (D := fun k => v.ownBlock = some k) k h.1 (fun hd => by have := hbl11 _ hd; omega), h.2⟩) ?_ ?_
      focus
        intro x w' hk hF
        refine wr_buildSlice (vs := [.agg (GA (X1.s, X2.n, X3.n)).toArray]) rfl rfl (by intro v hv; simp at hv; subst hv; rfl) rfl (by decide) (by decide) (by decide) ?_
        apply wr_nil
        exact ⟨.pointer (some ⟨w'.heap.size, 0, none⟩), rfl, ⟨one_cells _ _ (by simp [Value.cells]) _ _, (hrd hk).size⟩, (Keeps.refl _ _).alloc _⟩
      refine chP_fact (fun y => y) (fun y w' => w'.ownsRow w10.heap.size 72 3 y (N + 1) (((A.take i).filterMap fun f => addrTk f.s).flatMap GA ++ GA (X1.s, X2.n, X3.n))) (fun y w w' h k => own_keep (D := NoB) h k (fun _ _ h => h)) ?_ ?_
      focus
        intro x w' hk hF
        obtain ⟨q1, q2⟩ : w'.heap[blkV (x 12)]? = some (.cells (GA (X1.s, X2.n, X3.n)).toArray 72 (0, 0)) ∧ w17.heap.size ≤ blkV (x 12) := hF 12 (by kernel_rfl)
        have hkn : Keeps NoB w17.drew w' := hk
        have hwk : w17.heap.size ≤ w'.heap.size := hkn.size
        refine wr_append2 (v := v) (n := N) (m := 1) (b := blkV (x 12)) (news := GA (X1.s, X2.n, X3.n)) rfl rfl (by rw [hN]; exact own_keep (w := w17.drew) hvw17 hkn (fun _ _ h => h)) rfl q1 rfl (by intro u hu; simp [GA] at hu; rcases hu with rfl | rfl | rfl <;> rfl) rfl (by decide) (by omega) (by omega) (by omega) ?_
        intro v' w'' ho' hk' hb'
        apply wr_nil
        exact ⟨v', rfl, ho', hk'⟩
      apply chP_pure
      focus
        intro x w' hk hF
        refine wr_fieldAddr rfl rfl ?_
        apply wr_nil
        exact ⟨rfl, Keeps.refl _ _⟩
      focus (intro x y h; rfl)
      focus kernel_rfl
      refine chP_nil ?_
      intro x w15 hk15 hF
      have q1 : w15.ownsRow w10.heap.size 72 3 (x 13) (N + 1) (((A.take i).filterMap fun f => addrTk f.s).flatMap GA ++ GA (X1.s, X2.n, X3.n)) := hF 13 (by decide)
      have h17 := own_one q1
      have hb15 := hk15.heap (a := w17.drew) hbw17 (fun h => by have := hbl11 _ h; omega)
      have hpb15 := lt_of_heap hb15
      have hk1015 : Keeps (· = tb) w10 w15 := (hk11.trans (Keeps.upD (hk1117))).trans' ((Keeps.refl _ w17).drew.trans hk15) (fun j hj h => by have := hbl11 j h; omega)
      (repeat first | (apply wr_move; exact rfl; with_reducible (conv => enter [6, 3]; whnf)) | (apply wr_assign; exact rfl; with_reducible (conv => enter [6, 3]; whnf)) | apply wr_end | apply wc_region | (apply wr_add; (iterate 3 exact rfl); exact w_fit (by dsimp only [kIn]; first | done | omega)) | (apply wr_store; (iterate 3 exact rfl); (first | exact rfl | with_reducible assumption); (focus repeat first | with_reducible assumption | exact heap_alloc_same _ _ | exact World.putObj_heap_same (by first | omega | (simp only [World.size_alloc, World.putObj_size, ne_eq]; omega)) | ((first | refine hAl ?_ ?_ | refine hPu ?_ ?_); focus first | omega | (simp only [World.size_alloc, World.putObj_size, ne_eq]; omega))); exact rfl) | (apply wr_nil; try simp only [thenE, inBlockE, bodyQ]))
      refine ⟨(i + 1, x 13), by dsimp only; omega, ⟨by trivial, hlt, World.putObj_heap_same hpb15, ?_, hk1015.put _ (fun _ => rfl), hal⟩, rfl, rfl, rfl, rfl, rfl, rfl, rfl, (by show Value.int .i64 _ = Value.int .i64 _; congr 1), trivial⟩
      dsimp only
      rw [hsx, List.flatMap_append, List.length_append, ← hN]
      exact own_keep (D := (· = tb)) (by simpa using q1) ((Keeps.refl (· = tb) w15).put _ (fun _ => rfl)) (fun b hb e => by have := (q1.lt b hb).1; omega)
    · have he : i = A.length := by omega
      subst he
      rw [List.take_length] at hv11 hall
      (repeat first | (apply wr_move; exact rfl; with_reducible (conv => enter [6, 3]; whnf)) | (apply wr_assign; exact rfl; with_reducible (conv => enter [6, 3]; whnf)) | apply wr_end | apply wc_seq | apply wc_region | (apply wr_len_slice; iterate 2 exact rfl) | (apply wr_cmp; (iterate 3 exact rfl); exact cmpF (by dsimp only [cmpN]; first | done | omega)) | (apply wr_add; (iterate 3 exact rfl); exact w_fit (by dsimp only [kIn]; first | done | omega)) | (apply wc_false; exact rfl) | (apply wc_exit; try simp only [thenE, inBlockE, bodyQ, ↓reduceIte, Nat.reduceEqDiff]))
      exact ⟨(6 + 1, { c with addrs := A.filterMap fun f => addrTk f.s }, rv, v), by dsimp only; omega, ⟨by trivial, by omega, hb11, own_keep hrv10 hk11 (fun b hb e => by have := own_ge hrv10 hb; omega), own_down hv11 (by omega), hk311, ⟨fun e => by omega, fun e => by omega, fun e => by omega, fun e => by omega, fun e => by omega, fun e => by omega, fun e => by omega, fun e => hj.a7 (by omega), fun e => by omega, fun e => by omega⟩, hyes _ (tkList_all hAk h64 hall)⟩, rfl, rfl, rfl, rfl, rfl, rfl, trivial⟩
  · skip
    (repeat first | (apply wr_move; exact rfl; with_reducible (conv => enter [6, 3]; whnf)) | apply wr_end | apply wc_seq | apply wc_region | apply wc_skip | apply wc_block | (apply wr_cmp; (iterate 3 exact rfl); exact cmpT (by dsimp only [cmpP]; first | done | omega)) | (apply wc_true; exact rfl))
    refine wr_index_str (i := 8) (b := 107) rfl rfl rfl (by decide) rfl ?_
    refine wr_call (vs := [S has, .int .u8 107]) rfl (rIn_ca has 107 (by omega) w5) rfl ?_
    rintro v w6 ⟨rfl, hk6⟩
    have hb6 := hk6.heap hb5 (fun h => h)
    have hrv6 := own_keep hrv5 hk6 (fun _ _ h => h)
    have hav6 := own_keep hav5 hk6 (fun _ _ h => h)
    have hk36 := hk5.trans hk6
    have hsl6 := hsl5.keep hk6 (fun _ _ h => h)
    have hR6 := hk6.heap hR5 (fun h => h)
    cases hin : inF has [107] with
    | false =>
      (repeat first | (apply wr_move; exact rfl; with_reducible (conv => enter [6, 3]; whnf)) | (apply wr_assign; exact rfl; with_reducible (conv => enter [6, 3]; whnf)) | apply wr_end | apply wc_region | (apply wr_not; iterate 2 exact rfl) | (apply wr_pick (t := true); (iterate 2 exact rfl); with_reducible (conv => enter [6, 3]; whnf)) | (apply wr_add; (iterate 3 exact rfl); exact w_fit (by dsimp only [kIn]; first | done | omega)) | (apply wc_true; exact rfl) | (apply wc_exit; try simp only [thenE, inBlockE, bodyQ, ↓reduceIte, Nat.reduceEqDiff]))
      exact ⟨(7 + 1, c, rv, av), by dsimp only; omega, ⟨by trivial, by omega, hb6, hrv6, hav6, hk36, hj.up, tkAll_some _ 7 htk (tk_skip 7 hin)⟩, rfl, rfl, rfl, rfl, rfl, rfl, trivial⟩
    | true =>
    (repeat first | (apply wr_move; exact rfl; with_reducible (conv => enter [6, 3]; whnf)) | (apply wr_assign; exact rfl; with_reducible (conv => enter [6, 3]; whnf)) | apply wr_end | apply wc_seq | apply wc_region | apply wc_skip | (apply wr_not; iterate 2 exact rfl) | (apply wr_cmp; (iterate 3 exact rfl); exact cmpF (by dsimp only [cmpN]; first | done | omega)) | (apply wr_pick (t := true); (iterate 2 exact rfl); with_reducible (conv => enter [6, 3]; whnf)) | (apply wr_pick (t := false); (iterate 2 exact rfl); with_reducible (conv => enter [6, 3]; whnf)) | (apply wc_false; exact rfl))
    refine wr_call (vs := [sl, .int .i64 8, .int .i64 2]) rfl (rKinds_ca l 8 2 sl w6 hsl6 hll) rfl ?_
    rintro v w7 ⟨rfl, hk7⟩
    have hR7 := hk7.heap hR6 (fun h => h)
    have hk37 := hk36.trans hk7
    cases hkd : kindsB (allF l 8) 2 with
    | false =>
      (repeat first | (apply wr_move; exact rfl; with_reducible (conv => enter [6, 3]; whnf)) | (apply wr_assign; exact rfl; with_reducible (conv => enter [6, 3]; whnf)) | apply wr_end | apply wc_seq | apply wc_region | (apply wr_not; iterate 2 exact rfl) | (apply wc_true; exact rfl))
      refine wr_build (ps := []) (cs := PlZ) rfl rfl rfl rfl ?_
      refine wr_storeAll (cs := PlZ) rfl rfl rfl (PlC_one (p := PL0) rfl rfl) hR7 rfl rfl ?_
      (repeat first | (apply wr_assign; exact rfl; with_reducible (conv => enter [6, 3]; whnf)) | apply wr_end | (apply wc_ret; try simp only [thenE, inBlockE, bodyQ]))
      exact leaveN (vs := [PlV PL0 (.slice none 0 0) (.slice none 0 0), .bool false]) (resv_cells (cs := PlZ) rfl rfl (World.putObj_heap_same (lt_of_heap hR7)) rfl (resv_tmp rfl resv_nil)) ⟨⟨PL0, _, _, false, rfl, PlS.zero _, .inr ⟨rfl, (hget.trans (tkAll_no _ 7 htk (tk7_no hin hkd))), rfl⟩⟩, Keeps.put (hw3.trans hk37) _ (fun h => by omega)⟩
    | true =>
    (repeat first | (apply wr_move; exact rfl; with_reducible (conv => enter [6, 3]; whnf)) | (apply wr_assign; exact rfl; with_reducible (conv => enter [6, 3]; whnf)) | apply wr_end | apply wc_seq | apply wc_region | apply wc_skip | (apply wr_not; iterate 2 exact rfl) | (apply wc_false; exact rfl))
    refine wr_call (vs := [sl, .int .i64 8]) rfl (rLast_ca l 8 sl w7 (hsl6.keep hk7 (fun _ _ h => h)) hll) rfl ?_
    rintro v w8 ⟨rfl, hk8'⟩
    obtain ⟨X, hX⟩ : ∃ X, X = lastW (allF l 8) := ⟨_, rfl⟩
    rw [← hX]
    refine wr_alloc rfl ?_
    refine wr_storeAll (cs := WF.cs X) rfl rfl rfl (WF_one X) (heap_alloc_same _ _) rfl rfl ?_
    obtain ⟨w9, h9⟩ : ∃ w', w' = (w8.alloc (.cells (Value.agg #[.int .i64 0, .int .i64 0, .int .u64 0, S []]).cells 88)).putObj w8.heap.size (.cells (WF.cs X).toArray 88 (0, 0)) := ⟨_, rfl⟩
    have kw9 : Keeps NoB w8 w9 := by rw [h9]; exact ((Keeps.refl NoB w8).alloc _).put _ (fun h => by omega)
    have hf9 : w9.heap[w8.heap.size]? = some (.cells (WF.cs X).toArray 88 (0, 0)) := by rw [h9]; exact World.putObj_heap_same (by simp)
    rw [← h9]
    clear h9
    have hk69 := hk7.trans (hk8'.trans kw9)
    have hb9 := hk69.heap hb6 (fun h => h)
    have hrv9 := own_keep hrv6 hk69 (fun _ _ h => h)
    have hav9 := own_keep hav6 hk69 (fun _ _ h => h)
    have hk39 := hk36.trans hk69
    have hsl9 := hsl6.keep hk69 (fun _ _ h => h)
    have hR9 := hk69.heap hR6 (fun h => h)
    (repeat first | (apply wr_move; exact rfl; with_reducible (conv => enter [6, 3]; whnf)) | (apply wr_assign; exact rfl; with_reducible (conv => enter [6, 3]; whnf)) | apply wr_end | apply wc_seq | apply wc_region | apply wc_block | (apply wr_fieldAddr; iterate 2 exact rfl) | (apply wr_load; (iterate 3 exact rfl); (focus repeat first | with_reducible assumption | exact heap_alloc_same _ _ | exact World.putObj_heap_same (by first | omega | (simp only [World.size_alloc, World.putObj_size, ne_eq]; omega)) | ((first | refine hAl ?_ ?_ | refine hPu ?_ ?_); focus first | omega | (simp only [World.size_alloc, World.putObj_size, ne_eq]; omega))); exact rfl; conv => enter [6, 3]; whnf) | (apply wr_cmp; (iterate 3 exact rfl); exact cmpT (by dsimp only [cmpP]; first | done | omega)) | (apply wr_cmp; (iterate 3 exact rfl); exact cmpF (by dsimp only [cmpN]; first | done | omega)) | (apply wr_add; (iterate 3 exact rfl); exact w_fit (by dsimp only [kIn]; first | done | omega)) | (apply wr_store; (iterate 3 exact rfl); (first | exact rfl | with_reducible assumption); (focus repeat first | with_reducible assumption | exact heap_alloc_same _ _ | exact World.putObj_heap_same (by first | omega | (simp only [World.size_alloc, World.putObj_size, ne_eq]; omega)) | ((first | refine hAl ?_ ?_ | refine hPu ?_ ?_); focus first | omega | (simp only [World.size_alloc, World.putObj_size, ne_eq]; omega))); exact rfl) | (apply wc_true; exact rfl) | (apply wc_false; exact rfl) | (apply wr_nil; try simp only [thenE, inBlockE, bodyQ]))
    exact ⟨(7 + 1, { c with key := X.s }, rv, av), by dsimp only; omega, ⟨by trivial, by omega, World.putObj_heap_same (lt_of_heap hb9), own_keep hrv9 ((Keeps.refl (· = tb) w9).put _ (fun _ => rfl)) (fun b hb e => by have := own_ge hrv9 hb; omega), own_keep hav9 ((Keeps.refl (· = tb) w9).put _ (fun _ => rfl)) (fun b hb e => by have := own_ge hav9 hb; omega), hk39.put _ (fun h => by omega), ⟨fun e => by omega, fun e => by omega, fun e => by omega, fun e => by omega, fun e => by omega, fun e => by omega, fun e => by omega, fun e => by omega, fun e => by omega, fun e => by omega⟩, tkAll_some _ 7 htk (by rw [hX]; exact tk7_yes hin (hj.a7 (by omega)) hkd)⟩, rfl, rfl, rfl, rfl, rfl, rfl, trivial⟩
end Go.Proofs.YthlbgeonobicbaaDoor
