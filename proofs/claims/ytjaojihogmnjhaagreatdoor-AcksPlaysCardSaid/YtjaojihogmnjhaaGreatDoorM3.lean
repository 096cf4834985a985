/- The calculus, eighth text: a region that draws its order, whose operations' results do not hang on it: walked once, in the text's order, under one condition S on the world. -/
import Derived.Test.YtjaojihogmnjhaaGreatDoorM2
namespace Go.V
open Go.RowKit
set_option linter.unusedVariables false
set_option linter.unusedSimpArgs false

def isTmp (d : Nat) : Operand → Bool
  | .tmp t => Nat.beq t d
  | _ => false
def guardSlot (ops : Array Oper) (o : Oper) : Option Nat := match o.guard with
  | none => none
  | some (j, _) => (ops[j]?).bind (·.dst)
def isSome' (d : Nat) : Option Nat → Bool
  | some e => Nat.beq e d
  | none => false
def looks (ops : Array Oper) (o : Oper) (d : Nat) : Bool := o.op.operands.toList.any (isTmp d) || isSome' d (guardSlot ops o)
def edgeTo (o : Oper) (j : Nat) : Bool := o.after.toList.any fun e => Region.binds .any e && Nat.beq e.on j
def pairOk (ops : Array Oper) (i j : Nat) (o p : Oper) : Bool := match p.dst with
  | none => true
  | some d => Nat.beq j i || (!isSome' d o.dst && (!looks ops o d || edgeTo o j || edgeTo p i))
def regionOk (ops : Array Oper) : Bool := (List.range ops.size).all fun i => match ops[i]? with
  | none => true
  | some o => opOk o.op && (o.after.toList.all fun e => !Region.binds .any e || Nat.blt e.on i) && (List.range ops.size).all fun j => match ops[j]? with
    | none => true
    | some p => pairOk ops i j o p

structure ROk (ops : Array Oper) : Prop where
  sel : ∀ (i : Nat) (o : Oper), ops[i]? = some o → opOk o.op = true
  low : ∀ (i : Nat) (o : Oper), ops[i]? = some o → ∀ e ∈ o.after.toList, Region.binds .any e = true → e.on < i
  one : ∀ (i j : Nat) (o p : Oper) (d : Nat), ops[i]? = some o → ops[j]? = some p → p.dst = some d → o.dst = some d → i = j
  see : ∀ (i j : Nat) (o p : Oper) (d : Nat), ops[i]? = some o → ops[j]? = some p → p.dst = some d → looks ops o d = true → j = i ∨ (∃ e ∈ o.after.toList, Region.binds .any e = true ∧ e.on = j) ∨ (∃ e ∈ p.after.toList, Region.binds .any e = true ∧ e.on = i)
theorem edgeTo_spec {o : Oper} {j : Nat} (h : edgeTo o j = true) : ∃ e ∈ o.after.toList, Region.binds .any e = true ∧ e.on = j := by
  obtain ⟨e, h1, h2⟩ := List.any_eq_true.1 h
  simp only [Bool.and_eq_true] at h2
  exact ⟨e, h1, h2.1, Nat.eq_of_beq_eq_true h2.2⟩
theorem ROk.of {ops : Array Oper} (h : regionOk ops = true) : ROk ops := by
  have key : ∀ i o, ops[i]? = some o → opOk o.op = true ∧ (o.after.toList.all fun e => !Region.binds .any e || Nat.blt e.on i) = true ∧ ∀ j p, ops[j]? = some p → pairOk ops i j o p = true := by
    intro i o hi
    have hlt : i < ops.size := (Array.getElem?_eq_some_iff.1 hi).1
    have := List.all_eq_true.1 h i (List.mem_range.2 hlt)
    rw [hi] at this
    simp only [Bool.and_eq_true] at this
    refine ⟨this.1.1, this.1.2, fun j p hj => ?_⟩
    have hj' : j < ops.size := (Array.getElem?_eq_some_iff.1 hj).1
    have := List.all_eq_true.1 this.2 j (List.mem_range.2 hj')
    rw [hj] at this; exact this
  refine ⟨fun i o hi => (key i o hi).1, ?_, ?_, ?_⟩
  · intro i o hi e he hb
    have := List.all_eq_true.1 (key i o hi).2.1 e he
    simpa [hb] using this
  · intro i j o p d hi hj hp ho
    have := (key i o hi).2.2 j p hj
    simp only [pairOk, hp, ho, isSome', Nat.beq_refl, Bool.not_true, Bool.false_and, Bool.or_false] at this
    exact (Nat.eq_of_beq_eq_true this).symm
  · intro i j o p d hi hj hp hl
    have := (key i o hi).2.2 j p hj
    simp only [pairOk, hp, hl, Bool.not_true, Bool.false_or, Bool.or_eq_true, Bool.and_eq_true] at this
    rcases this with h | ⟨_, h | h⟩
    · exact .inl (Nat.eq_of_beq_eq_true h)
    · exact .inr (.inl (edgeTo_spec h))
    · exact .inr (.inr (edgeTo_spec h))

section
variable {P : Program} {ops : Array Oper} {S : World → Prop}
/-- Operation o, from frame f, in whatever world meets S: leaves v, and a world that meets S. -/
def One (P : Program) (ops : Array Oper) (S : World → Prop) (f : Env) (o : Oper) (v : Value) : Prop := ∀ w, S w → Wr P ops (fun _ _ f' w' => f' = setO f o.dst v ∧ S w') [] [o] f w
/-- The operations in the text's order. -/
def Ch (P : Program) (ops : Array Oper) (S : World → Prop) (K : Env → Prop) : List Oper → Env → Prop
  | [], f => K f
  | o :: rest, f => ∃ v, One P ops S f o v ∧ Ch P ops S K rest (setO f o.dst v)
theorem ch_nil {K : Env → Prop} {f : Env} (h : K f) : Ch P ops S K [] f := h
theorem ch_step {K : Env → Prop} {o : Oper} {rest : List Oper} {f : Env} {v : Value} (h : ∀ w, S w → Wr P ops (fun _ _ f' w' => f' = setO f o.dst v ∧ S w') [] [o] f w) (hr : Ch P ops S K rest (setO f o.dst v)) : Ch P ops S K (o :: rest) f := ⟨v, h, hr⟩

theorem looks_congr {o : Oper} {f g : Env} (h : ∀ d, looks ops o d = true → f d = g d) (hs : opOk o.op = true) : wantedE ops f o = wantedE ops g o ∧ execOp (ev f) o = execOp (ev g) o := by
  constructor
  · unfold wantedE
    cases hg : o.guard with
    | none => rfl
    | some p =>
      obtain ⟨j, want⟩ := p
      dsimp only
      cases ht : (ops[j]?).bind (·.dst) with
      | none => rfl
      | some t =>
        have : f t = g t := h t (by simp [looks, guardSlot, hg, ht, isSome'])
        dsimp only; rw [this]
  · refine execOp_congr o (fun cs b hc => by rw [hc] at hs; cases hs) fun x hx => ?_
    cases x with
    | tmp t => exact h t (by
        simp only [looks, Bool.or_eq_true]
        exact .inl (List.any_eq_true.2 ⟨.tmp t, by simpa using hx, Nat.beq_refl t⟩))
    | const v => rfl
    | global g => rfl
    | func g => rfl
open Classical in
/-- The frame behind the operations that are done. -/
noncomputable def mix (ops : Array Oper) (f F : Env) (L : Nat → Bool) : Env := fun s => if ∃ j p, L j = true ∧ ops[j]? = some p ∧ p.dst = some s then F s else f s
theorem mix_congr {f F : Env} {L L' : Nat → Bool} {s : Nat} (h : ∀ j p, ops[j]? = some p → p.dst = some s → (L j = L' j)) : mix ops f F L s = mix ops f F L' s := by
  unfold mix
  have : (∃ j p, L j = true ∧ ops[j]? = some p ∧ p.dst = some s) ↔ (∃ j p, L' j = true ∧ ops[j]? = some p ∧ p.dst = some s) :=
    ⟨fun ⟨j, p, h1, h2, h3⟩ => ⟨j, p, by rw [← h j p h2 h3]; exact h1, h2, h3⟩, fun ⟨j, p, h1, h2, h3⟩ => ⟨j, p, by rw [h j p h2 h3]; exact h1, h2, h3⟩⟩
  by_cases hc : ∃ j p, L j = true ∧ ops[j]? = some p ∧ p.dst = some s
  · rw [if_pos hc, if_pos (this.1 hc)]
  · rw [if_neg hc, if_neg (fun h => hc (this.2 h))]
theorem mix_step {f F : Env} {L : Nat → Bool} {i : Nat} {o : Oper} {v : Value} (hi : ops[i]? = some o) (hv : ∀ d, o.dst = some d → F d = v) : setO (mix ops f F L) o.dst v = mix ops f F (fun j => L j || Nat.beq j i) := by
  funext s
  by_cases hd : o.dst = some s
  · rw [hd]
    show Env.set _ s v s = _
    rw [Env.set_same]
    unfold mix
    rw [if_pos ⟨i, o, by simp, hi, hd⟩, hv s hd]
  · have h1 : setO (mix ops f F L) o.dst v s = mix ops f F L s := by
      cases ho : o.dst with
      | none => rfl
      | some d => exact Env.set_ne _ _ (by rintro rfl; exact hd ho)
    rw [h1]
    refine mix_congr fun j p hj hp => ?_
    have : Nat.beq j i = false := by
      cases hb : Nat.beq j i with
      | false => rfl
      | true =>
        have := Nat.eq_of_beq_eq_true hb
        subst this
        rw [hi] at hj; cases hj; exact absurd hp hd
    rw [this, Bool.or_false]
/-- What the text's order shows of each operation. -/
theorem Ch.all {K : Env → Prop} (hops : ROk ops) : ∀ (l : List Oper) (k : Nat) (f g : Env), (∀ i, l[i]? = ops[k + i]?) → k + l.length = ops.size → (∀ F : Env, (∀ s, (∀ j p, k ≤ j → ops[j]? = some p → p.dst ≠ some s) → F s = g s) → mix ops f F (fun j => Nat.blt j k) = g) → Ch P ops S K l g →
    ∃ F, K F ∧ (∀ s, (∀ j p, k ≤ j → ops[j]? = some p → p.dst ≠ some s) → F s = g s) ∧ mix ops f F (fun j => Nat.blt j ops.size) = F ∧ ∀ i o, k ≤ i → ops[i]? = some o → ∃ v, One P ops S (mix ops f F (fun j => Nat.blt j i)) o v ∧ ∀ d, o.dst = some d → F d = v
  | [], k, f, g, hl, hk, hmix, hch => by
    refine ⟨g, hch, fun _ _ => rfl, ?_, fun i o hi ho => ?_⟩
    · simp only [List.length_nil, Nat.add_zero] at hk
      rw [← hk]; exact hmix g fun _ _ => rfl
    · have := (Array.getElem?_eq_some_iff.1 ho).1
      simp at hk; omega
  | o :: l, k, f, g, hl, hk, hmix, hch => by
    obtain ⟨v, h1, h2⟩ := hch
    have ho : ops[k]? = some o := by have := hl 0; simpa using this.symm
    have step : ∀ F : Env, (∀ s, (∀ j p, k + 1 ≤ j → ops[j]? = some p → p.dst ≠ some s) → F s = setO g o.dst v s) → (mix ops f F (fun j => Nat.blt j k) = g) ∧ ∀ d, o.dst = some d → F d = v := by
      intro F hF
      constructor
      · refine hmix F fun s hs => ?_
        rw [hF s fun j p hj => hs j p (by omega)]
        cases hd : o.dst with
        | none => rfl
        | some d => exact Env.set_ne _ _ (by rintro rfl; exact hs k o (Nat.le_refl _) ho hd)
      · intro d hd
        rw [hF d fun j p hj hp hpd => by have := hops.one k j o p d ho hp hpd hd; omega, hd]
        exact Env.set_same _ _ _
    have hsucc : (fun j => Nat.blt j k || Nat.beq j k) = fun j => Nat.blt j (k + 1) := by
      funext j
      apply Bool.eq_iff_iff.2
      simp only [Bool.or_eq_true, Nat.beq_eq, Nat.blt_eq]
      omega
    obtain ⟨F, hK, hF, hFF, hall⟩ := Ch.all hops l (k + 1) f (setO g o.dst v) (fun i => by have := hl (i + 1); simp only [List.getElem?_cons_succ] at this; rw [this]; congr 1; omega) (by simp at hk; omega) (fun F hF => by
      obtain ⟨e1, e2⟩ := step F hF
      have := mix_step (f := f) (F := F) (L := fun j => Nat.blt j k) ho e2
      rw [e1, hsucc] at this
      exact this.symm) h2
    obtain ⟨e1, e2⟩ := step F hF
    refine ⟨F, hK, fun s hs => ?_, hFF, fun i o' hi ho' => ?_⟩
    · rw [hF s fun j p hj => hs j p (by omega)]
      cases hd : o.dst with
      | none => rfl
      | some d => exact Env.set_ne _ _ (by rintro rfl; exact hs k o (Nat.le_refl _) ho hd)
    · rcases Nat.eq_or_lt_of_le hi with rfl | hlt
      · rw [ho] at ho'; cases ho'
        exact ⟨v, by rw [e1]; exact h1, e2⟩
      · exact hall i o' (by omega) ho'

theorem nblt_false {a b : Nat} (h : b ≤ a) : Nat.blt a b = false := by
  cases hb : Nat.blt a b with
  | false => rfl
  | true => rw [Nat.blt_eq] at hb; omega
theorem nblt_irrefl (a : Nat) : Nat.blt a a = false := nblt_false (Nat.le_refl _)
def cnt (L : Nat → Bool) : Nat → Nat
  | 0 => 0
  | k + 1 => cnt L k + (bif L k then 0 else 1)
theorem cnt_le {L L' : Nat → Bool} (h : ∀ j, L j = true → L' j = true) : ∀ k, cnt L' k ≤ cnt L k
  | 0 => Nat.le_refl _
  | k + 1 => by
    have := cnt_le h k
    simp only [cnt]
    cases hL : L k with
    | true => rw [h k hL]; simpa using this
    | false => cases L' k <;> simp <;> omega
theorem cnt_lt {L L' : Nat → Bool} (h : ∀ j, L j = true → L' j = true) {i : Nat} (hi : L i = false) (hi' : L' i = true) : ∀ k, i < k → cnt L' k < cnt L k
  | 0, hk => by omega
  | k + 1, hk => by
    simp only [cnt]
    rcases Nat.lt_or_eq_of_le (Nat.le_of_lt_succ hk) with hlt | rfl
    · have := cnt_lt h hi hi' k hlt
      cases hL : L k with
      | true => rw [h k hL]; simpa using this
      | false => cases L' k <;> simp <;> omega
    · have := cnt_le h i
      rw [hi, hi']; simp; omega
theorem cnt_zero {L : Nat → Bool} : ∀ k, cnt L k = 0 → ∀ i, i < k → L i = true
  | 0, _, i, hi => by omega
  | k + 1, h, i, hi => by
    simp only [cnt] at h
    have h0 : cnt L k = 0 := by omega
    rcases Nat.lt_or_eq_of_le (Nat.le_of_lt_succ hi) with hlt | rfl
    · exact cnt_zero k h0 i hlt
    · cases hL : L i with
      | true => rfl
      | false => rw [hL] at h; simp at h
theorem cnt_max (L : Nat → Bool) : ∀ k, cnt L k ≤ k
  | 0 => Nat.le_refl _
  | k + 1 => by have := cnt_max L k; simp only [cnt]; cases L k <;> simp <;> omega

theorem wr_any {Q : Post} {ds : List Deferred} {f F : Env} (hops : ROk ops) (hFF : mix ops f F (fun j => Nat.blt j ops.size) = F) (hall : ∀ i o, ops[i]? = some o → ∃ v, One P ops S (mix ops f F (fun j => Nat.blt j i)) o v ∧ ∀ d, o.dst = some d → F d = v) (hQ : ∀ w', S w' → Q .normal ds F w') :
    ∀ (fuel t : Nat) (listed : Array Bool) (w : World), listed.size = ops.size → cnt (fun j => listed.getD j false) ops.size ≤ fuel →
      (∀ j p, listed.getD j false = true → ops[j]? = some p → ∀ e ∈ p.after.toList, Region.binds .any e = true → listed.getD e.on false = true) → S w →
      Wr P ops Q ds ((Region.linearise.go .any ops fuel t listed []).filterMap (ops[·]?)) (mix ops f F (fun j => listed.getD j false)) w := by
  have fin : ∀ (listed : Array Bool) (w : World), (∀ i, i < ops.size → listed.getD i false = true) → S w → Wr P ops Q ds [] (mix ops f F (fun j => listed.getD j false)) w := by
    intro listed w hl hS
    have : mix ops f F (fun j => listed.getD j false) = F := by
      rw [← hFF]; funext s
      rw [hFF]
      conv => rhs; rw [← hFF]
      exact mix_congr fun j p hj _ => by
        have hlt := (Array.getElem?_eq_some_iff.1 hj).1
        rw [hl j hlt]; simp [hlt]
    rw [this]; exact wr_nil (hQ w hS)
  intro fuel
  induction fuel with
  | zero =>
    intro t listed w hsz hc hcl hS
    exact fin listed w (fun i hi => cnt_zero (L := fun j => listed.getD j false) ops.size (Nat.le_zero.1 hc) i hi) hS
  | succ fuel ih =>
    intro t listed w hsz hc hcl hS
    simp only [Region.linearise.go]
    generalize hrs : ((List.range ops.size).filter fun i => !listed.getD i true && ((ops[i]?).map (·.after.all fun e => !Region.binds .any e || listed.getD e.on false)).getD false) = rs
    have hgd : ∀ i, i < ops.size → listed.getD i true = listed.getD i false := by
      intro i hi
      simp [Array.getD_eq_getD_getElem?, hsz, hi]
    cases hi : rs[t % rs.length]? with
    | none =>
      have hnil : rs = [] := by
        cases rs with
        | nil => rfl
        | cons x xs =>
          have hlt : t % (x :: xs).length < (x :: xs).length := Nat.mod_lt _ (by simp)
          rw [List.getElem?_eq_none_iff] at hi
          omega
      refine fin listed w ?_ hS
      -- the least that is not listed would be ready
      have : ∀ k, k ≤ ops.size → ∀ i, i < k → listed.getD i false = true := by
        intro k
        induction k with
        | zero => intro _ i hi; omega
        | succ k ihk =>
          intro hk i hik
          rcases Nat.lt_or_eq_of_le (Nat.le_of_lt_succ hik) with hlt | rfl
          · exact ihk (by omega) i hlt
          · cases hL : listed.getD i false with
            | true => rfl
            | false =>
              exfalso
              have hmem : i ∈ rs := by
                rw [← hrs, List.mem_filter]
                refine ⟨List.mem_range.2 (by omega), ?_⟩
                obtain ⟨o, ho⟩ : ∃ o, ops[i]? = some o := ⟨ops[i]'(by omega), by simp [show i < ops.size by omega]⟩
                rw [hgd i (by omega), hL, ho]
                simp only [Bool.not_false, Bool.true_and, Option.map_some, Option.getD_some]
                rw [← Array.all_toList]
                refine List.all_eq_true.2 fun e he => ?_
                cases hb : Region.binds .any e with
                | false => rfl
                | true =>
                  have := hops.low i o ho e he hb
                  rw [ihk (by omega) e.on this]; rfl
              rw [hnil] at hmem; cases hmem
      exact this ops.size (Nat.le_refl _)
    | some i =>
      have hmem : i ∈ rs := List.mem_of_getElem? hi
      rw [← hrs, List.mem_filter] at hmem
      obtain ⟨hir, hib⟩ := hmem
      have hisz : i < ops.size := List.mem_range.1 hir
      obtain ⟨o, ho⟩ : ∃ o, ops[i]? = some o := ⟨ops[i], by simp [hisz]⟩
      rw [hgd i hisz, ho] at hib
      simp only [Bool.and_eq_true, Bool.not_eq_true', Option.map_some, Option.getD_some] at hib
      obtain ⟨hun, hready⟩ := hib
      rw [← Array.all_toList] at hready
      have hedge : ∀ e ∈ o.after.toList, Region.binds .any e = true → listed.getD e.on false = true := by
        intro e he hb
        have := List.all_eq_true.1 hready e he
        simpa [hb] using this
      dsimp only
      rw [linearise_go_acc, List.reverse_singleton, List.singleton_append, List.filterMap_cons, ho]
      obtain ⟨v, hone, hFd⟩ := hall i o ho
      -- the frame as the operation sees it
      have hsee : ∀ d, looks ops o d = true → mix ops f F (fun j => listed.getD j false) d = mix ops f F (fun j => Nat.blt j i) d := by
        intro d hd
        refine mix_congr fun j p hj hp => ?_
        rcases hops.see i j o p d ho hj hp hd with rfl | ⟨e, he, hb, rfl⟩ | ⟨e, he, hb, rfl⟩
        · rw [hun, nblt_irrefl]
        · have := hops.low i o ho e he hb
          rw [hedge e he hb]; simp [this]
        · have := hops.low j p hj e he hb
          cases hL : listed.getD j false with
          | false => exact (nblt_false (by omega)).symm
          | true =>
            have := hcl j p hL hj e he hb
            rw [hun] at this; cases this
      obtain ⟨c1, c2⟩ := looks_congr (o := o) hsee (hops.sel i o ho)
      have hframe : setO (mix ops f F (fun j => listed.getD j false)) o.dst v = mix ops f F (fun j => (listed.setIfInBounds i true).getD j false) := by
        rw [mix_step ho hFd]
        funext s
        refine mix_congr fun j p _ _ => ?_
        by_cases hji : j = i
        · subst hji; simp [Array.getD_eq_getD_getElem?, hsz, hisz]
        · have : Nat.beq j i = false := by
            cases hb : Nat.beq j i with
            | false => rfl
            | true => exact absurd (Nat.eq_of_beq_eq_true hb) hji
          rw [this, Bool.or_false]
          simp [Array.getD_eq_getD_getElem?, Array.getElem?_setIfInBounds, Ne.symm hji]
      have hmono : ∀ j, listed.getD j false = true → (listed.setIfInBounds i true).getD j false = true := by
        intro j hj
        by_cases hji : j = i
        · subst hji; simp [Array.getD_eq_getD_getElem?, hsz, hisz]
        · simpa [Array.getD_eq_getD_getElem?, Array.getElem?_setIfInBounds, Ne.symm hji] using hj
      have hself : (listed.setIfInBounds i true).getD i false = true := by simp [Array.getD_eq_getD_getElem?, hsz, hisz]
      have next : ∀ w', S w' → Wr P ops Q ds ((Region.linearise.go .any ops fuel (t / rs.length) (listed.setIfInBounds i true) []).filterMap (ops[·]?)) (setO (mix ops f F (fun j => listed.getD j false)) o.dst v) w' := by
        intro w' hS'
        rw [hframe]
        refine ih _ _ w' (by simpa using hsz) ?_ ?_ hS'
        · have := cnt_lt (L := fun j => listed.getD j false) (L' := fun j => (listed.setIfInBounds i true).getD j false) hmono hun hself ops.size hisz
          omega
        · intro j p hj hp e he hb
          by_cases hji : j = i
          · subst hji
            rw [ho] at hp; cases hp
            exact hmono _ (hedge e he hb)
          · have : listed.getD j false = true := by simpa [Array.getD_eq_getD_getElem?, Array.getElem?_setIfInBounds, Ne.symm hji] using hj
            exact hmono _ (hcl j p this hp e he hb)
      have h1 := hone w hS
      simp only [Wr] at h1 ⊢
      rw [c1, c2]
      cases hw : wantedE ops (mix ops f F (fun j => Nat.blt j i)) o with
      | false =>
        rw [hw] at h1
        simp only [cond_false] at h1 ⊢
        have hset : setO (mix ops f F (fun j => listed.getD j false)) o.dst undef = setO (mix ops f F (fun j => listed.getD j false)) o.dst v := by
          cases hd : o.dst with
          | none => rfl
          | some d =>
            have := congrFun h1.1 d
            rw [hd] at this
            have e : undef = v := by simpa [Env.set_same] using this
            rw [e]
        rw [hset]; exact next w h1.2
      | true =>
        rw [hw] at h1
        simp only [cond_true] at h1 ⊢
        refine upE_mono ?_ h1
        rintro u w' ⟨hu, hS'⟩
        have hset : setO (mix ops f F (fun j => listed.getD j false)) o.dst u = setO (mix ops f F (fun j => listed.getD j false)) o.dst v := by
          cases hd : o.dst with
          | none => rfl
          | some d =>
            have := congrFun hu d
            rw [hd] at this
            have e : u = v := by simpa [Env.set_same] using this
            rw [e]
        rw [hset]; exact next w' hS'
/-- A region that draws its order, whose results do not hang on it: its operations are walked once, in the text's order, under S. -/
theorem wc_drawS {r : Option Nat} {n id : Nat} {Q : Post} {ds : List Deferred} {f : Env} {w : World} {l : List Oper} (S : World → Prop) (hm : P.follows .mixedOrders = true) (hok : regionOk l.toArray = true) (hS : S w.drew)
    (h : Ch P l.toArray S (fun F => ∀ w', S w' → Q .normal ds F w') l f) : Wc r P n (.region id l.toArray true) Q ds f w := by
  refine wc_draw fun t => ?_
  obtain ⟨F, hK, _, hFF, hall⟩ := Ch.all (ROk.of hok) l 0 f f (fun i => by simp) (by simp) (fun F hF => by
    funext s
    unfold mix
    rw [if_neg]
    rintro ⟨j, p, h1, _⟩
    simp at h1) h
  simp only [Region.schedule, hm, Bool.true_or, if_true, Region.linearise]
  have := wr_any (Q := Q) (ds := ds) (ROk.of hok) hFF (fun i o ho => hall i o (Nat.zero_le _) ho) hK l.toArray.size t (Array.replicate l.toArray.size false) w.drew (by simp) (cnt_max _ _) (by intro j p hj; simp [Array.getD_eq_getD_getElem?, Array.getElem?_replicate] at hj; split at hj <;> simp_all) hS
  have he : mix l.toArray f F (fun j => (Array.replicate l.toArray.size false).getD j false) = f := by
    funext s
    unfold mix
    rw [if_neg]
    rintro ⟨j, p, h1, _⟩
    simp only [Array.getD_eq_getD_getElem?, Array.getElem?_replicate] at h1
    split at h1 <;> simp at h1
  rw [he] at this
  exact this
end
end Go.V

namespace Go.V
open Go.RowKit
set_option linter.unusedVariables false
set_option linter.unusedSimpArgs false

theorem flat_len {α β : Type} {g : α → List β} {k : Nat} (hk : ∀ a, (g a).length = k) : ∀ l : List α, (l.flatMap g).length = l.length * k
  | [] => by simp
  | a :: l => by
    rw [List.flatMap_cons, List.length_append, hk a, flat_len hk l, List.length_cons, Nat.add_mul, Nat.one_mul, Nat.add_comm]
theorem flat_get {α β : Type} {g : α → List β} {k : Nat} (hk : ∀ a, (g a).length = k) : ∀ (l : List α) (i : Nat) (a : α) (j : Nat), l[i]? = some a → j < k → (l.flatMap g)[i * k + j]? = (g a)[j]?
  | [], i, a, j, h, _ => by simp at h
  | b :: l, 0, a, j, h, hj => by
    simp at h; subst h
    rw [List.flatMap_cons, Nat.zero_mul, Nat.zero_add, List.getElem?_append_left (by rw [hk]; exact hj)]
  | b :: l, i + 1, a, j, h, hj => by
    simp only [List.getElem?_cons_succ] at h
    have e : (i + 1) * k + j = (g b).length + (i * k + j) := by rw [hk, Nat.add_mul, Nat.one_mul]; omega
    rw [List.flatMap_cons, e, List.getElem?_append_right (by omega), Nat.add_sub_cancel_left]
    exact flat_get hk l i a j h hj
theorem SlR.shape {w : World} {sz n : Nat} {v : Value} {cs : List Value} (h : SlR w sz v n cs) : ∃ a c, v = .slice a n c ∧ n ≤ c ∧ (0 < n → ∃ b o, a = some ⟨b, o, none⟩ ∧ ∃ cur e fr, w.heap[b]? = some (.cells cur e fr) ∧ ∀ j, j < n * sz → cur[o + j]? = cs[j]?) := by
  obtain ⟨hl, a, c, rfl, hc, h⟩ := h
  refine ⟨a, c, rfl, hc, fun hn => ?_⟩
  rcases h with ⟨rfl, _⟩ | ⟨b, o, cur, e, fr, rfl, hb, hr⟩
  · omega
  · exact ⟨b, o, rfl, cur, e, fr, hb, hr⟩
/-- The cells of an element. -/
theorem cell_elem {α : Type} {g : α → List Value} {k n i j o : Nat} {l : List α} {cur : Array Value} {a : α} {v : Value} (hk : ∀ a, (g a).length = k) (hr : ∀ j, j < n * k → cur[o + j]? = (l.flatMap g)[j]?) (hn : i < n) (ha : l[i]? = some a) (hv : (g a)[j]? = some v) : cur[o + i * k + j]? = some v := by
  have hj : j < k := by rw [← hk a]; exact (List.getElem?_eq_some_iff.1 hv).1
  have hlt : i * k + j < n * k := by
    have : (i + 1) * k ≤ n * k := Nat.mul_le_mul_right k hn
    rw [Nat.add_mul, Nat.one_mul] at this; omega
  rw [Nat.add_assoc, hr _ hlt, flat_get hk l i a j ha hj, hv]
section ops
variable {P : Program} {ops : Array Oper} {Q : Post} {ds : List Deferred} {f : Env} {w w' : World} {rest : List Oper}
variable {d : Option Nat} {ty : TypeId} {pos : String} {af : Array Edge} {g : Option (Nat × Bool)}
/-- An element of a row of structs is read. -/
theorem wr_loadElem {α : Type} {G : α → List Value} {t : TypeId} {D : TypeDesc} {z : Value} {k n i by' : Nat} {x : Operand} {b o : Nat} {l : List α} {a : α} {cur : Array Value} {e : TypeId} {fr : Nat × Nat} {vs : Array Value} [U : Und P t D] [I : Info P t z k by'] (hw : wantedE ops f ⟨d, .load t x, ty, pos, af, g⟩ = true) (hD : isAggD D = true)
    (hk : ∀ a, (G a).length = k) (hx : ev f x = .pointer (some ⟨b, o + i * k, none⟩)) (hb : w.heap[b]? = some (.cells cur e fr)) (hr : ∀ j, j < n * k → cur[o + j]? = (l.flatMap G)[j]?) (hn : i < n) (ha : l[i]? = some a) (hvs : (G a).toArray = vs)
    (kk : Wr P ops Q ds rest (setO f d (.agg vs)) w) : Wr P ops Q ds (⟨d, .load t x, ty, pos, af, g⟩ :: rest) f w := by
  subst hvs
  exact wr_loadAgg hw hD hx (hk a) (fun j u h => cell_of_heap hb (cell_elem hk hr hn ha h)) kk
theorem wr_sl_from {t : TypeId} {x lo : Operand} {l : List UInt8} {i : Nat} {k : IntKind} [U : Und P t .string] (hw : wantedE ops f ⟨d, .slice t x (some lo) none none, ty, pos, af, g⟩ = true) (hx : ev f x = S l) (hy : ev f lo = .int k (i : Int)) (hi : i ≤ l.length)
    (kk : Wr P ops Q ds rest (setO f d (S (l.drop i))) w) : Wr P ops Q ds (⟨d, .slice t x (some lo) none none, ty, pos, af, g⟩ :: rest) f w :=
  wr_sl_str (i := i) (j := l.length) hw hx (.inl ⟨rfl, rfl⟩) (.inr ⟨k, congrArg some hy, hi⟩) (by rw [List.take_of_length_le (by simp)]; exact kk)
theorem wr_sl_to {t : TypeId} {x hi : Operand} {l : List UInt8} {j : Nat} {k : IntKind} [U : Und P t .string] (hw : wantedE ops f ⟨d, .slice t x none (some hi) none, ty, pos, af, g⟩ = true) (hx : ev f x = S l) (hy : ev f hi = .int k (j : Int)) (hj : j ≤ l.length)
    (kk : Wr P ops Q ds rest (setO f d (S (l.take j))) w) : Wr P ops Q ds (⟨d, .slice t x none (some hi) none, ty, pos, af, g⟩ :: rest) f w :=
  wr_sl_str (i := 0) (j := j) hw hx (.inr ⟨k, congrArg some hy, hj⟩) (.inl ⟨rfl, rfl⟩) (by simpa using kk)
theorem wr_quoN {t t' : TypeId} {x y : Operand} {k : IntKind} {n m : Nat} (hw : wantedE ops f ⟨d, .binOp .quo t x y t', ty, pos, af, g⟩ = true) (hx : ev f x = .int k (n : Int)) (hy : ev f y = .int k (m : Int)) (hb : m ≠ 0) (hc : k.wrap ((n / m : Nat) : Int) = ((n / m : Nat) : Int))
    (kk : Wr P ops Q ds rest (setO f d (.int k ((n / m : Nat) : Int))) w) : Wr P ops Q ds (⟨d, .binOp .quo t x y t', ty, pos, af, g⟩ :: rest) f w :=
  wr_quo hw hx hy (by omega) (by rw [Int.tdiv_eq_ediv_of_nonneg (by omega), ← Int.natCast_ediv]; exact hc) kk
theorem wr_remN {t t' : TypeId} {x y : Operand} {k : IntKind} {n m : Nat} (hw : wantedE ops f ⟨d, .binOp .rem t x y t', ty, pos, af, g⟩ = true) (hx : ev f x = .int k (n : Int)) (hy : ev f y = .int k (m : Int)) (hb : m ≠ 0)
    (kk : Wr P ops Q ds rest (setO f d (.int k ((n % m : Nat) : Int))) w) : Wr P ops Q ds (⟨d, .binOp .rem t x y t', ty, pos, af, g⟩ :: rest) f w :=
  wr_rem hw hx hy (by omega) (by rw [Int.tmod_eq_emod_of_nonneg (by omega), ← Int.natCast_emod]) kk
end ops
section
variable {P : Program} {f : Env} {w : World} {fn : Func} {R : Value → World → Prop}
theorem resv_nil : ResV P f w [] [] := trivial
theorem resv_tmp {t : Nat} {v : Value} {rs : List ResultVar} {vs : List Value} (h : f t = v) (hr : ResV P f w rs vs) : ResV P f w (.tmp t :: rs) (v :: vs) := ⟨h, hr⟩
theorem resv_cell {a t b : Nat} {D : TypeDesc} {v : Value} {c : Array Value} {e : TypeId} {fr : Nat × Nat} {rs : List ResultVar} {vs : List Value} [U : Und P t D] (hD : isAggD D = false) (h : f a = .pointer (some ⟨b, 0, none⟩)) (hb : w.heap[b]? = some (.cells c e fr)) (hv : c[0]? = some v) (hr : ResV P f w rs vs) : ResV P f w (.cell a t :: rs) (v :: vs) :=
  ⟨⟨_, h, run_load1 U hD (cell_of_heap hb hv)⟩, hr⟩
theorem resv_cells {a t b n by' : Nat} {D : TypeDesc} {z : Value} {cs : List Value} {e : TypeId} {fr : Nat × Nat} {rs : List ResultVar} {vs : List Value} [U : Und P t D] [I : Info P t z n by'] (hD : isAggD D = true) (h : f a = .pointer (some ⟨b, 0, none⟩)) (hb : w.heap[b]? = some (.cells cs.toArray e fr)) (hl : cs.length = n) (hr : ResV P f w rs vs) : ResV P f w (.cell a t :: rs) (.agg cs.toArray :: vs) :=
  ⟨⟨_, h, run_loadAgg U I hD hl (fun j u h => cell_of_heap hb (by simpa using h))⟩, hr⟩
theorem leaveN {vs : List Value} (h : ResV P f w fn.results.toList vs) (hR : R (packV vs) w) : Leave P fn R [] f w := ⟨vs, h, hR⟩
end
end Go.V
