/- AcksCover. -/
import Derived.Test.YthdjhjeodjgbiaaDoorKq
namespace Go.Proofs.YthdjhjeodjgbiaaDoor
open Go Go.V Go.RowKit
set_option linter.unusedVariables false
set_option linter.unusedSimpArgs false

/-- A deed: kind, id, name, version, taken, text, who wants it, near. -/
structure DD where
  kind : Nat
  id : Int
  name : Nat
  seq : Nat
  ok : Bool
  s : TT
  wv : Value
  wl : List Int
  near : Bool
def GDd (x : DD) : List Value := [.int .u8 ((x.kind : Nat) : Int), .int .i64 x.id, .int .u8 ((x.name : Nat) : Int), .int .u64 ((x.seq : Nat) : Int), .bool x.ok, S x.s, x.wv, .bool x.near]
theorem GDd_len (x : DD) : (GDd x).length = 8 := rfl
structure ddOk (W : World) (x : DD) : Prop where
  kind : x.kind < 256
  id : -9223372036854775808 ≤ x.id ∧ x.id ≤ 9223372036854775807
  name : x.name < 256
  seq : x.seq < 18446744073709551616
  s : x.s.length ≤ 9223372036854775807
  wl : SlR W 1 x.wv x.wl.length (x.wl.map (Value.int .i64))
abbrev kB : KY := (2, [107])
theorem kB_ok : keyOk kB := by decide +kernel
theorem stOkB (q : Nat) (o : Bool) (d : TT) (h : 1 ≤ q) (hd : d.length ≤ 256) (ho : o = true → d = []) : stOk (kB, q, o, d) := ⟨kB_ok, by show ([107] : TT) ≠ [42]; decide, h, hd, ho⟩
theorem own_cells {w : World} {base n k : Nat} {T : TypeId} {v : Value} {xs : List Value} (h : w.ownsRow base T k v n xs) : ∀ q, v.ownBlock = some q → ∃ cur, w.heap[q]? = some (.cells cur T (0, 0)) := by
  intro q hq
  rcases h.2 with ⟨rfl, _⟩ | ⟨g, cap, cur, rfl, hb, hg, _⟩
  · simp [Value.ownBlock] at hq
  · simp [Value.ownBlock] at hq
    subst hq
    exact ⟨cur, hg⟩
theorem not_aD {w : World} {mb b : Nat} {L L' : List (KY × ND)} (h : ¬ aD mb L b) (hs : Sub w L L') (hlt : b < w.heap.size) : ¬ aD mb L' b := fun e => by
  rcases e with rfl | ⟨x, hx, hq⟩
  · exact h (.inl rfl)
  · rcases hs x hx b hq with h1 | h1
    · exact h (.inr h1)
    · omega
theorem AcksAt.keepX {D : Nat → Prop} {w w' : World} {base ab mb : Nat} {L : List (KY × ND)} (h : AcksAt w base ab mb L) (k : Keeps D w w') (hD : ∀ q, D q → ¬ aD mb L q) (hab : ¬ D ab) : AcksAt w' base ab mb L :=
  ⟨k.heap h.cells hab, h.keys.keep k (fun e => hD mb e (.inl rfl)), fun x hx => (h.note x hx).keep k (fun q hq e => hD q e (.inr ⟨x, hx, hq⟩)), h.sep, h.tne⟩
def Tof (o : Option PN) (id : Int) : Nat := (o.map (·.T id)).getD 0
def toldO (o : Option PN) : Nat := (o.map (·.told)).getD 0
structure CInv (o : Option PN) (tk : Nat → Nat) (bm : Nat → Option TT) (told : Nat) : Prop where
  t : ∀ id : Nat, 1 ≤ id → id ≤ 4 → Tof o (id : Int) = tk id
  told : toldO o = told
  srt : (badO o).Pairwise fun a b => a.1 < b.1
  few : (badO o).length ≤ 8
  b1 : ∀ x ∈ badO o, bm x.1 = some x.2.1 ∧ x.2.1 ≠ []
  b2 : ∀ q, (bm q).isSome = true → hasB (badO o) q = true ∨ ((badO o).length = 8 ∧ ∀ x ∈ badO o, q < x.1)
def setB (bm : Nat → Option TT) (q : Nat) (d : TT) : Nat → Option TT := fun x => if x = q then (if (bm q).isSome then bm q else some d) else bm x
theorem CInv.took {o : Option PN} {tk : Nat → Nat} {bm : Nat → Option TT} {told : Nat} (h : CInv o tk bm told) (id q : Nat) (h1 : 1 ≤ id) (h4 : id ≤ 4) (k : KY) (d : TT) : CInv (some (noteP (o.getD PN.new) (id : Int) (k, q, true, d))) (setM tk id (max (tk id) q)) bm told := by
  have hbad : badO (some (noteP (o.getD PN.new) (id : Int) (k, q, true, d))) = badO o := by cases o <;> rfl
  refine ⟨fun x hx1 hx4 => ?_, ?_, by rw [hbad]; exact h.srt, by rw [hbad]; exact h.few, by rw [hbad]; exact h.b1, by rw [hbad]; exact h.b2⟩
  · have ht := h.t id h1 h4
    have hx := h.t x hx1 hx4
    show ((noteP (o.getD PN.new) (id : Int) (k, q, true, d)).T (x : Int)) = setM tk id (max (tk id) q) x
    unfold noteP setT setM
    rw [if_pos rfl]
    dsimp only
    have e : ∀ y : Int, (o.getD PN.new).T y = Tof o y := fun y => by cases o <;> rfl
    rw [e, e]
    by_cases hxi : x = id
    · subst hxi; rw [if_pos rfl, if_pos rfl, ht]
    · rw [if_neg (by omega), if_neg hxi, hx]
  · rw [← h.told]; cases o <;> rfl
theorem CInv.refused {o : Option PN} {tk : Nat → Nat} {bm : Nat → Option TT} {told : Nat} (h : CInv o tk bm told) (id : Int) (q : Nat) (k : KY) (d : TT) (hd : d ≠ []) : CInv (some (noteP (o.getD PN.new) id (k, q, false, d))) tk (setB bm q d) told := by
  have hbad : badO (some (noteP (o.getD PN.new) id (k, q, false, d))) = refuseP (badO o) q d := by cases o <;> rfl
  have hT : ∀ y, Tof (some (noteP (o.getD PN.new) id (k, q, false, d))) y = Tof o y := fun y => by cases o <;> rfl
  have htold : toldO (some (noteP (o.getD PN.new) id (k, q, false, d))) = toldO o := by cases o <;> rfl
  generalize hB : badO o = B at h hbad
  have hsrt := h.srt
  have hfew := h.few
  have hb1 := h.b1
  have hb2 := h.b2
  rw [hB] at hsrt hfew hb1 hb2
  by_cases hq : hasB B q = true
  · obtain ⟨x, hx, hxq⟩ := hasB_iff.1 hq
    have hbq := (hb1 x hx).1
    rw [hxq] at hbq
    have hs : setB bm q d = bm := by
      funext r
      unfold setB
      by_cases hr : r = q
      · rw [if_pos hr, hr, hbq]; rfl
      · rw [if_neg hr]
    have hr : refuseP B q d = B := by unfold refuseP; rw [if_pos hq]
    rw [hs]
    exact ⟨fun y h1 h4 => by rw [hT]; exact h.t y h1 h4, by rw [htold]; exact h.told, by rw [hbad, hr]; exact hsrt, by rw [hbad, hr]; exact hfew, by rw [hbad, hr]; exact hb1, by rw [hbad, hr]; exact hb2⟩
  · have hlen := insB_len B (q, d, false)
    have hisrt := insB_sort (x := (q, d, false)) hsrt hq
    have hr : refuseP B q d = (insB B (q, d, false)).drop (B.length + 1 - 8) := by unfold refuseP; rw [if_neg hq]
    have hhas : ∀ r, hasB (insB B (q, d, false)) r = true ↔ r = q ∨ hasB B r = true := fun r => by
      rw [hasB_iff, hasB_iff]
      constructor
      · rintro ⟨x, hx, e⟩
        rcases mem_insB.1 hx with rfl | hx
        · exact .inl e.symm
        · exact .inr ⟨x, hx, e⟩
      · rintro (rfl | ⟨x, hx, e⟩)
        · exact ⟨_, mem_insB.2 (.inl rfl), rfl⟩
        · exact ⟨x, mem_insB.2 (.inr hx), e⟩
    cases hbq : bm q with
    | some d' =>
      obtain ⟨hl8, hlt⟩ : B.length = 8 ∧ ∀ x ∈ B, q < x.1 := by
        rcases hb2 q (by rw [hbq]; rfl) with h1 | h1
        · exact absurd h1 hq
        · exact h1
      have hs : setB bm q d = bm := by
        funext r
        unfold setB
        by_cases hr : r = q
        · rw [if_pos hr, hr, hbq]; rfl
        · rw [if_neg hr]
      have hins : insB B (q, d, false) = (q, d, false) :: B := by
        unfold insB
        have e1 : B.filter (fun y => decide (y.1 < (q, d, false).1)) = [] := by
          rw [List.filter_eq_nil_iff]
          intro x hx
          have := hlt x hx
          simp; omega
        have e2 : B.filter (fun y => decide ¬ y.1 < (q, d, false).1) = B := by
          rw [List.filter_eq_self]
          intro x hx
          have := hlt x hx
          simp; omega
        rw [e1, e2]; rfl
      have hr' : refuseP B q d = B := by rw [hr, hins, hl8]; rfl
      rw [hs]
      exact ⟨fun y h1 h4 => by rw [hT]; exact h.t y h1 h4, by rw [htold]; exact h.told, by rw [hbad, hr']; exact hsrt, by rw [hbad, hr']; exact hfew, by rw [hbad, hr']; exact hb1, by rw [hbad, hr']; exact hb2⟩
    | none =>
      have hsq : setB bm q d q = some d := by unfold setB; rw [if_pos rfl, hbq]; rfl
      have hsr : ∀ r, r ≠ q → setB bm q d r = bm r := fun r hr => by unfold setB; rw [if_neg hr]
      have hm : ∀ x ∈ insB B (q, d, false), setB bm q d x.1 = some x.2.1 ∧ x.2.1 ≠ [] := fun x hx => by
        rcases mem_insB.1 hx with rfl | hx
        · exact ⟨hsq, hd⟩
        · have hne : x.1 ≠ q := fun e => hq (hasB_iff.2 ⟨x, hx, e⟩)
          rw [hsr _ hne]
          exact hb1 x hx
      refine ⟨fun y h1 h4 => by rw [hT]; exact h.t y h1 h4, by rw [htold]; exact h.told, by rw [hbad, hr]; exact hisrt.sublist (List.drop_sublist _ _), by rw [hbad, hr, List.length_drop]; omega, ?_, ?_⟩
      · rw [hbad, hr]
        exact fun x hx => hm x (List.mem_of_mem_drop hx)
      · rw [hbad, hr]
        intro r hrs
        have hcase : hasB (insB B (q, d, false)) r = true ∨ (B.length = 8 ∧ ∀ x ∈ B, r < x.1) := by
          by_cases hrq : r = q
          · exact .inl ((hhas r).2 (.inl hrq))
          · rw [hsr r hrq] at hrs
            rcases hb2 r hrs with h1 | h1
            · exact .inl ((hhas r).2 (.inr h1))
            · exact .inr h1
        by_cases hl : B.length < 8
        · rw [show B.length + 1 - 8 = 0 by omega, List.drop_zero]
          rcases hcase with h1 | h1
          · exact .inl h1
          · omega
        · rw [show B.length + 1 - 8 = 1 by omega]
          cases hI : insB B (q, d, false) with
          | nil => rw [hI] at hlen; simp at hlen
          | cons b B' =>
            rw [hI] at hisrt hlen
            rw [List.drop_succ_cons, List.drop_zero]
            have hBl : B'.length = 8 := by simp at hlen; omega
            have hbB := (List.pairwise_cons.1 hisrt).1
            rcases hcase with h1 | ⟨_, h1⟩
            · rw [hI] at h1
              obtain ⟨y, hy, hyr⟩ := hasB_iff.1 h1
              rcases List.mem_cons.1 hy with rfl | hy
              · exact .inr ⟨hBl, fun x hx => by have := hbB x hx; omega⟩
              · exact .inl (hasB_iff.2 ⟨y, hy, hyr⟩)
            · refine .inr ⟨hBl, fun x hx => ?_⟩
              have hbx := hbB x hx
              have hbm : b ∈ insB B (q, d, false) := by rw [hI]; exact List.mem_cons_self
              have hxm : x ∈ insB B (q, d, false) := by rw [hI]; exact List.mem_cons_of_mem _ hx
              rcases mem_insB.1 hxm with rfl | hxB
              · rcases mem_insB.1 hbm with rfl | hbB'
                · omega
                · have := h1 b hbB'
                  omega
              · exact h1 x hxB
theorem hasB_tl (l : List BD) (q : Nat) : hasB (l.map tl) q = hasB l q := by
  unfold hasB
  rw [List.any_map]
  rfl
theorem CInv.ready {p : PN} {tk : Nat → Nat} {bm : Nat → Option TT} {told ls : Nat} (h : CInv (some p) tk bm told) : CInv (some (readyN p ls)) tk bm (if told < ls then ls else told) := by
  have ht := h.told
  have ht' : p.told = told := ht
  refine ⟨h.t, ?_, mark_sort h.srt, by show (p.bad.map tl).length ≤ 8; rw [List.length_map]; exact h.few, ?_, ?_⟩
  · show (if p.told < ls then ls else p.told) = _
    rw [ht']
  · intro x hx
    obtain ⟨y, hy, rfl⟩ := List.mem_map.1 (show x ∈ p.bad.map tl from hx)
    exact h.b1 y hy
  · intro q hq
    show hasB (p.bad.map tl) q = true ∨ ((p.bad.map tl).length = 8 ∧ ∀ x ∈ p.bad.map tl, q < x.1)
    rw [hasB_tl, List.length_map]
    rcases h.b2 q hq with h1 | ⟨h1, h2⟩
    · exact .inl h1
    · refine .inr ⟨h1, fun x hx => ?_⟩
      obtain ⟨y, hy, rfl⟩ := List.mem_map.1 hx
      exact h2 y hy
theorem foldl_min (T : Int → Nat) : ∀ (l : List Int) (a : Nat), l.foldl (fun m id => min m (T id)) a ≤ a ∧ ∀ z ∈ l, l.foldl (fun m id => min m (T id)) a ≤ T z
  | [], a => ⟨Nat.le_refl _, fun z hz => by cases hz⟩
  | x :: l, a => by
    have ih := foldl_min T l (min a (T x))
    rw [List.foldl_cons]
    refine ⟨by have := ih.1; omega, fun z hz => ?_⟩
    rcases List.mem_cons.1 hz with rfl | hz
    · have := ih.1; omega
    · exact ih.2 z hz
theorem leastP_le (p : PN) (who : List Int) : ∀ z ∈ who, leastP (some p) who ≤ p.T z := by
  cases who with
  | nil => intro z hz; cases hz
  | cons a r => exact (foldl_min p.T (a :: r) (p.T a)).2
def tkC (m : Nat → Nat) : Array Value := #[.int .u64 ((m 0 : Nat) : Int), .int .u64 ((m 1 : Nat) : Int), .int .u64 ((m 2 : Nat) : Int), .int .u64 ((m 3 : Nat) : Int), .int .u64 ((m 4 : Nat) : Int)]
theorem tkC_at (m : Nat → Nat) {j : Nat} (h : j < 5) : (tkC m)[0 + j * 1]? = some (.int .u64 ((m j : Nat) : Int)) := by
  match j, h with
  | 0, _ => rfl
  | 1, _ => rfl
  | 2, _ => rfl
  | 3, _ => rfl
  | 4, _ => rfl
theorem tkC_set (m : Nat → Nat) {j : Nat} (h : j < 5) (n : Nat) : (tkC m).setIfInBounds (0 + j * 1) (.int .u64 (n : Int)) = tkC (setM m j n) := by
  match j, h with
  | 0, _ => rfl
  | 1, _ => rfl
  | 2, _ => rfl
  | 3, _ => rfl
  | 4, _ => rfl
end Go.Proofs.YthdjhjeodjgbiaaDoor
