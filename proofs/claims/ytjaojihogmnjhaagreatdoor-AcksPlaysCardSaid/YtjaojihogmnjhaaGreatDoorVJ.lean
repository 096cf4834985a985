/- The calculus, seventeenth text: a region that draws its order, of which one operation writes: those that it waits for find all as it was. -/
import Derived.Test.YtjaojihogmnjhaaGreatDoorMf
namespace Go.V.B
open Go.RowKit
set_option linter.unusedVariables false
set_option linter.unusedSimpArgs false

/-- What may have been written when operation i is done: nothing, if it is sx, or sx waits for it. -/
def monB (D : Nat → Prop) (sx : Option Nat) (B : Nat) (i : Nat) : Nat → Prop := match sx with
  | none => D
  | some k => bif Nat.beq i k || bef B k i then NoB else D
section
variable {P : Program} {ops : Array Oper}
/-- The operations in the text's order; each leaves v of what those before it left; A tells of what it left itself. -/
def ChP (D : Nat → Prop) (sx : Option Nat) (P : Program) (ops : Array Oper) (B : Nat) (w0 : World) (K : (Prm → Env) → (Nat → Fact) → Prop) : List Oper → Nat → (Prm → Env) → (Nat → Fact) → Prop
  | [], _, f, fa => K f fa
  | o :: rest, i, f, fa => ∃ (v : Prm → Value) (A : Value → World → Prop), (∀ x y : Prm, (∀ j, bef B i j = true ∨ j = i → x j = y j) → v x = v y) ∧ (∀ y w w', A y w → Keeps (monD D sx i) w w' → A y w') ∧
      (∀ (x : Prm) w, Keeps (monB D sx B i) w0 w → (∀ j, bef B i j = true → fa j x w) → Wr P ops (fun _ _ f' w' => ∃ y, f' = setO (f x) o.dst (v (upd x i y)) ∧ A y w' ∧ Keeps (effD D sx i) w w') [] [o] (f x) w) ∧
      ChP D sx P ops B w0 K rest (i + 1) (fun x => setO (f x) o.dst (v x)) (updF fa i A)
variable {D : Nat → Prop} {sx : Option Nat} {B : Nat} {w0 : World} {K : (Prm → Env) → (Nat → Fact) → Prop}
theorem chP_nil {i : Nat} {f : Prm → Env} {fa : Nat → Fact} (h : K f fa) : ChP D sx P ops B w0 K [] i f fa := h
/-- One whose result does not hang on the world. -/
theorem chP_pure {o : Oper} {rest : List Oper} {i : Nat} {f : Prm → Env} {fa : Nat → Fact} {v : Prm → Value} (h : ∀ (x : Prm) w, Keeps (monB D sx B i) w0 w → (∀ j, bef B i j = true → fa j x w) → Wr P ops (fun _ _ f' w' => f' = setO (f x) o.dst (v x) ∧ Keeps (effD D sx i) w w') [] [o] (f x) w)
    (hl : ∀ x y : Prm, (∀ j, bef B i j = true → x j = y j) → v x = v y) (hni : bef B i i = false)
    (hr : ChP D sx P ops B w0 K rest (i + 1) (fun x => setO (f x) o.dst (v x)) (updF fa i fun _ _ => True)) : ChP D sx P ops B w0 K (o :: rest) i f fa := by
  refine ⟨v, fun _ _ => True, fun x y hxy => hl x y fun j hj => hxy j (.inl hj), fun _ _ _ h _ => h, fun x w hk hf => ?_, hr⟩
  have h1 := h x w hk hf
  have hv : v (upd x i undef) = v x := hl _ _ fun j hj => upd_ne _ _ (by rintro rfl; rw [hni] at hj; cases hj)
  simp only [Wr] at h1 ⊢
  cases hw : wantedE ops (f x) o with
  | false =>
    rw [hw] at h1
    exact ⟨undef, by rw [hv]; exact h1.1, True.intro, h1.2⟩
  | true =>
    rw [hw] at h1
    exact upE_mono (fun u w' hu => ⟨undef, by rw [hv]; exact hu.1, True.intro, hu.2⟩) h1
/-- One that tells A of what it left. -/
theorem chP_fact {o : Oper} {rest : List Oper} {i : Nat} {f : Prm → Env} {fa : Nat → Fact} (F : Value → Value) (A : Value → World → Prop) (hA : ∀ y w w', A y w → Keeps (monD D sx i) w w' → A y w')
    (h : ∀ (x : Prm) w, Keeps (monB D sx B i) w0 w → (∀ j, bef B i j = true → fa j x w) → Wr P ops (fun _ _ f' w' => ∃ y, f' = setO (f x) o.dst (F y) ∧ A y w' ∧ Keeps (effD D sx i) w w') [] [o] (f x) w)
    (hr : ChP D sx P ops B w0 K rest (i + 1) (fun x => setO (f x) o.dst (F (x i))) (updF fa i A)) : ChP D sx P ops B w0 K (o :: rest) i f fa :=
  ⟨fun x => F (x i), A, fun x y hxy => congrArg F (hxy i (.inr rfl)), hA, fun x w hk hf => by simpa only [upd_same] using h x w hk hf, hr⟩

/-- What the text's order shows of each operation. -/
theorem ChP.all (hops : ROk ops) (hB : masksOk ops B = true) {f : Env} {m : Nat} : ∀ (l : List Oper) (k : Nat) (g : Prm → Env) (fa : Nat → Fact), (∀ i, i < l.length → l[i]? = ops[k + i]?) → k + l.length = m →
    (∀ G : Prm → Env, (∀ x s, (∀ j p, k ≤ j → j < m → ops[j]? = some p → p.dst ≠ some s) → G x s = g x s) → ∀ x, mix ops f (G x) (fun j => Nat.blt j k) = g x) → ChP D sx P ops B w0 K l k g fa →
    ∃ (G : Prm → Env) (FA : Nat → Fact), K G FA ∧ (∀ x s, (∀ j p, k ≤ j → j < m → ops[j]? = some p → p.dst ≠ some s) → G x s = g x s) ∧ (∀ j, j < k → FA j = fa j) ∧ (∀ x, mix ops f (G x) (fun j => Nat.blt j m) = G x) ∧
      ∀ i o, k ≤ i → i < m → ops[i]? = some o → ∃ (v : Prm → Value) (A : Value → World → Prop), (∀ x y : Prm, (∀ j, bef B i j = true ∨ j = i → x j = y j) → v x = v y) ∧ (∀ y w w', A y w → Keeps (monD D sx i) w w' → A y w') ∧ (FA i = fun x w => A (x i) w) ∧ (∀ x d, o.dst = some d → G x d = v x) ∧
        ∀ (x : Prm) w, Keeps (monB D sx B i) w0 w → (∀ j, bef B i j = true → FA j x w) → Wr P ops (fun _ _ f' w' => ∃ y, f' = setO (mix ops f (G x) (fun j => Nat.blt j i)) o.dst (v (upd x i y)) ∧ A y w' ∧ Keeps (effD D sx i) w w') [] [o] (mix ops f (G x) (fun j => Nat.blt j i)) w
  | [], k, g, fa, hl, hk, hmix, hch => by
    simp only [List.length_nil, Nat.add_zero] at hk
    exact ⟨g, fa, hch, fun _ _ _ => rfl, fun _ _ => rfl, by rw [← hk]; exact hmix g fun _ _ _ => rfl, fun i o hi hi' ho => by omega⟩
  | o :: l, k, g, fa, hl, hk, hmix, hch => by
    obtain ⟨v, A, hloc, hmono, h1, h2⟩ := hch
    simp only [List.length_cons] at hk
    have ho : ops[k]? = some o := by have := hl 0 (by simp); simpa using this.symm
    have step : ∀ G : Prm → Env, (∀ x s, (∀ j p, k + 1 ≤ j → j < m → ops[j]? = some p → p.dst ≠ some s) → G x s = setO (g x) o.dst (v x) s) → (∀ x, mix ops f (G x) (fun j => Nat.blt j k) = g x) ∧ ∀ x d, o.dst = some d → G x d = v x := by
      intro G hG
      constructor
      · refine hmix G fun x s hs => ?_
        rw [hG x s fun j p hj hjm => hs j p (by omega) hjm]
        cases hd : o.dst with
        | none => rfl
        | some d => exact Env.set_ne _ _ (by rintro rfl; exact hs k o (Nat.le_refl _) (by omega) ho hd)
      · intro x d hd
        rw [hG x d fun j p hj hjm hp hpd => by have := hops.one k j o p d ho hp hpd hd; omega, hd]
        exact Env.set_same _ _ _
    have hsucc : (fun j => Nat.blt j k || Nat.beq j k) = fun j => Nat.blt j (k + 1) := by
      funext j
      apply Bool.eq_iff_iff.2
      simp only [Bool.or_eq_true, Nat.beq_eq, Nat.blt_eq]
      omega
    obtain ⟨G, FA, hK, hG, hFA, hGG, hall⟩ := ChP.all (f := f) (m := m) hops hB l (k + 1) (fun x => setO (g x) o.dst (v x)) (updF fa k A) (fun i hi => by have := hl (i + 1) (by simp; omega); simp only [List.getElem?_cons_succ] at this; rw [this]; congr 1; omega) (by omega) (fun G hG x => by
      obtain ⟨e1, e2⟩ := step G hG
      have := mix_step (f := f) (F := G x) (L := fun j => Nat.blt j k) ho (e2 x)
      rw [e1, hsucc] at this
      exact this.symm) h2
    obtain ⟨e1, e2⟩ := step G hG
    refine ⟨G, FA, hK, fun x s hs => ?_, fun j hj => ?_, hGG, fun i o' hi him ho' => ?_⟩
    · rw [hG x s fun j p hj hjm => hs j p (by omega) hjm]
      cases hd : o.dst with
      | none => rfl
      | some d => exact Env.set_ne _ _ (by rintro rfl; exact hs k o (Nat.le_refl _) (by omega) ho hd)
    · rw [hFA j (by omega), updF_ne _ _ (by omega)]
    · rcases Nat.eq_or_lt_of_le hi with rfl | hlt
      · rw [ho] at ho'; cases ho'
        refine ⟨v, A, hloc, hmono, by rw [hFA k (by omega), updF_same], e2, fun x w hk hf => ?_⟩
        rw [e1]
        refine h1 x w hk fun j hj => ?_
        have hjk := bef_lt hB hops ho hj
        have := hf j hj
        rwa [hFA j (by omega), updF_ne _ _ (by omega)] at this
      · exact hall i o' (by omega) him ho'

theorem wr_P {Q : Post} {ds : List Deferred} {f : Env} {G : Prm → Env} {FA : Nat → Fact} {m : Nat} (hops : ROk ops) (hB : masksOk ops B = true) (ht : tailOk ops.size m B = true) (hm : m ≤ ops.size)
    (hGG : ∀ x, mix ops f (G x) (fun j => Nat.blt j m) = G x)
    (hall : ∀ i o, i < m → ops[i]? = some o → ∃ (v : Prm → Value) (A : Value → World → Prop), (∀ x y : Prm, (∀ j, bef B i j = true ∨ j = i → x j = y j) → v x = v y) ∧ (∀ y w w', A y w → Keeps (monD D sx i) w w' → A y w') ∧ (FA i = fun x w => A (x i) w) ∧ (∀ x d, o.dst = some d → G x d = v x) ∧
        ∀ (x : Prm) w, Keeps (monB D sx B i) w0 w → (∀ j, bef B i j = true → FA j x w) → Wr P ops (fun _ _ f' w' => ∃ y, f' = setO (mix ops f (G x) (fun j => Nat.blt j i)) o.dst (v (upd x i y)) ∧ A y w' ∧ Keeps (effD D sx i) w w') [] [o] (mix ops f (G x) (fun j => Nat.blt j i)) w)
    (hQ : ∀ x w', Keeps D w0 w' → (∀ j, j < m → FA j x w') → Wr P ops Q ds (ops.toList.drop m) (G x) w') :
    ∀ (fuel t : Nat) (listed : Array Bool) (x : Prm) (w : World), listed.size = ops.size → cnt (fun j => listed.getD j false) ops.size ≤ fuel →
      (∀ j p, listed.getD j false = true → ops[j]? = some p → ∀ e ∈ p.after.toList, Region.binds .any e = true → listed.getD e.on false = true) →
      (∀ j, m ≤ j → listed.getD j false = false) → Keeps D w0 w → (∀ k, sx = some k → listed.getD k false = false → Keeps NoB w0 w) → (∀ j, j < m → listed.getD j false = true → FA j x w) →
      Wr P ops Q ds ((Region.linearise.go .any ops fuel t listed []).filterMap (ops[·]?)) (mix ops f (G x) (fun j => listed.getD j false)) w := by
  have fin : ∀ (fuel t : Nat) (listed : Array Bool) (x : Prm) (w : World), listed.size = ops.size → cnt (fun j => listed.getD j false) ops.size ≤ fuel → (∀ j, m ≤ j → listed.getD j false = false) → (∀ j, j < m → listed.getD j false = true) → Keeps D w0 w → (∀ j, j < m → listed.getD j false = true → FA j x w) →
      Wr P ops Q ds ((Region.linearise.go .any ops fuel t listed []).filterMap (ops[·]?)) (mix ops f (G x) (fun j => listed.getD j false)) w := by
    intro fuel t listed x w hsz hcn hno hyes hk hf
    have hl : ∀ j, listed.getD j false = Nat.blt j m := by
      intro j
      rcases Nat.lt_or_ge j m with h | h
      · rw [hyes j h]; symm; rw [Nat.blt_eq]; exact h
      · rw [hno j h, nblt_false h]
    have e : mix ops f (G x) (fun j => listed.getD j false) = G x := by
      rw [← hGG x]
      conv => rhs; rw [← hGG x]
      rw [hGG x]
      congr 1
      funext j; exact hl j
    rw [e]
    refine wr_tail hops hB ht fuel t listed m _ w hsz (fun j _ => hl j) (Nat.le_refl _) hm ?_ (hQ x w hk fun j hj => hf j hj (hyes j hj))
    have : ∀ k, m ≤ k → k - m ≤ cnt (fun j => listed.getD j false) k := by
      intro k
      induction k with
      | zero => intro _; simp
      | succ k ih =>
        intro hmk
        rcases Nat.eq_or_lt_of_le hmk with h | h
        · rw [h]; simp
        · have := ih (by omega)
          simp only [cnt, hno k (by omega), cond_false]; omega
    have := this ops.size hm
    omega
  intro fuel
  induction fuel with
  | zero =>
    intro t listed x w hsz hc hcl hno hk hkn hf
    exact fin 0 t listed x w hsz hc hno (fun j hj => cnt_zero (L := fun j => listed.getD j false) ops.size (Nat.le_zero.1 hc) j (by omega)) hk hf
  | succ fuel ih =>
    intro t listed x w hsz hc hcl hno hk hkn hf
    by_cases hdone : ∀ j, j < m → listed.getD j false = true
    · exact fin (fuel + 1) t listed x w hsz hc hno hdone hk hf
    simp only [Region.linearise.go]
    generalize hrs : ((List.range ops.size).filter fun i => !listed.getD i true && ((ops[i]?).map (·.after.all fun e => !Region.binds .any e || listed.getD e.on false)).getD false) = rs
    have hgd : ∀ i, i < ops.size → listed.getD i true = listed.getD i false := by
      intro i hi
      simp [Array.getD_eq_getD_getElem?, hsz, hi]
    cases hi : rs[t % rs.length]? with
    | none =>
      exfalso
      have hnil : rs = [] := by
        cases rs with
        | nil => rfl
        | cons x xs =>
          have hlt : t % (x :: xs).length < (x :: xs).length := Nat.mod_lt _ (by simp)
          rw [List.getElem?_eq_none_iff] at hi
          omega
      refine hdone ?_
      have : ∀ k, k ≤ ops.size → ∀ i, i < k → listed.getD i false = true := by
        intro k
        induction k with
        | zero => intro _ i hi; omega
        | succ k ihk =>
          intro hk' i hik
          rcases Nat.lt_or_eq_of_le (Nat.le_of_lt_succ hik) with hlt | rfl
          · exact ihk (by omega) i hlt
          · cases hL : listed.getD i false with
            | true => rfl
            | false =>
              exfalso
              have hmem : i ∈ rs := by
                rw [← hrs, List.mem_filter]
                refine ⟨List.mem_range.2 (by omega), ?_⟩
                obtain ⟨o, ho⟩ : ∃ o, ops[i]? = some o := ⟨ops[i]'(by omega), by simp [show i < ops.size by omega]⟩
                rw [hgd i (by omega), hL, ho]
                simp only [Bool.not_false, Bool.true_and, Option.map_some, Option.getD_some]
                rw [← Array.all_toList]
                refine List.all_eq_true.2 fun e he => ?_
                cases hb : Region.binds .any e with
                | false => rfl
                | true =>
                  have := hops.low i o ho e he hb
                  rw [ihk (by omega) e.on this]; rfl
              rw [hnil] at hmem; cases hmem
      exact fun j hj => this ops.size (Nat.le_refl _) j (by omega)
    | some i =>
      have hmem : i ∈ rs := List.mem_of_getElem? hi
      rw [← hrs, List.mem_filter] at hmem
      obtain ⟨hir, hib⟩ := hmem
      have hisz : i < ops.size := List.mem_range.1 hir
      obtain ⟨o, ho⟩ : ∃ o, ops[i]? = some o := ⟨ops[i], by simp [hisz]⟩
      rw [hgd i hisz, ho] at hib
      simp only [Bool.and_eq_true, Bool.not_eq_true', Option.map_some, Option.getD_some] at hib
      obtain ⟨hun, hready⟩ := hib
      rw [← Array.all_toList] at hready
      have hedge : ∀ e ∈ o.after.toList, Region.binds .any e = true → listed.getD e.on false = true := by
        intro e he hb
        have := List.all_eq_true.1 hready e he
        simpa [hb] using this
      have hbi : ∀ j, bef B i j = true → listed.getD j false = true ∧ j < i := fun j hj => bef_in hB hops (listed := fun j => listed.getD j false) hcl i o j ho hedge hj
      have him : i < m := by
        rcases Nat.lt_or_ge i m with h | h
        · exact h
        · exfalso
          exact hdone fun j hj => (hbi j (tail_bef ht hisz h (by omega))).1
      dsimp only
      rw [linearise_go_acc, List.reverse_singleton, List.singleton_append, List.filterMap_cons, ho]
      obtain ⟨v, A, hloc, hmono, hFAi, hGv, hone⟩ := hall i o him ho
      have hsee : ∀ d, looks ops o d = true → mix ops f (G x) (fun j => listed.getD j false) d = mix ops f (G x) (fun j => Nat.blt j i) d := by
        intro d hd
        refine mix_congr fun j p hj hp => ?_
        rcases hops.see i j o p d ho hj hp hd with rfl | ⟨e, he, hb, rfl⟩ | ⟨e, he, hb, rfl⟩
        · rw [hun, nblt_irrefl]
        · have := hops.low i o ho e he hb
          rw [hedge e he hb]; simp [this]
        · have := hops.low j p hj e he hb
          cases hL : listed.getD j false with
          | false => exact (nblt_false (by omega)).symm
          | true =>
            have := hcl j p hL hj e he hb
            rw [hun] at this; cases this
      obtain ⟨c1, c2⟩ := looks_congr (o := o) hsee (hops.sel i o ho)
      have hmon : ∀ j, listed.getD j false = true → (listed.setIfInBounds i true).getD j false = true := by
        intro j hj
        by_cases hji : j = i
        · subst hji; simp [Array.getD_eq_getD_getElem?, hsz, hisz]
        · simpa [Array.getD_eq_getD_getElem?, Array.getElem?_setIfInBounds, Ne.symm hji] using hj
      have hself : (listed.setIfInBounds i true).getD i false = true := by simp [Array.getD_eq_getD_getElem?, hsz, hisz]
      have hother : ∀ j, j ≠ i → (listed.setIfInBounds i true).getD j false = listed.getD j false := fun j hji => by simp [Array.getD_eq_getD_getElem?, Array.getElem?_setIfInBounds, Ne.symm hji]
      -- what those that are done left does not hang on what this one leaves
      have hold : ∀ (y : Value) (j : Nat) (p : Oper), listed.getD j false = true → ops[j]? = some p → ∀ d, p.dst = some d → G (upd x i y) d = G x d := by
        intro y j p hL hj d hd
        have hji : j ≠ i := by rintro rfl; rw [hun] at hL; cases hL
        have hjm : j < m := by
          rcases Nat.lt_or_ge j m with h | h
          · exact h
          · rw [hno j h] at hL; cases hL
        obtain ⟨v', _, hloc', _, _, hGv', _⟩ := hall j p hjm hj
        rw [hGv' _ d hd, hGv' _ d hd]
        refine hloc' _ _ fun j' hj' => upd_ne _ _ ?_
        rintro rfl
        rcases hj' with hj' | hj'
        · have := (bef_in hB hops (listed := fun j => listed.getD j false) hcl j p j' hj (fun e he hb => hcl j p hL hj e he hb) hj').1
          rw [hun] at this; cases this
        · exact hji hj'.symm
      have hframe : ∀ y, setO (mix ops f (G x) (fun j => listed.getD j false)) o.dst (v (upd x i y)) = mix ops f (G (upd x i y)) (fun j => (listed.setIfInBounds i true).getD j false) := by
        intro y
        have e1 : mix ops f (G x) (fun j => listed.getD j false) = mix ops f (G (upd x i y)) (fun j => listed.getD j false) := by
          funext s
          unfold mix
          by_cases hc : ∃ j p, listed.getD j false = true ∧ ops[j]? = some p ∧ p.dst = some s
          · rw [if_pos hc, if_pos hc]
            obtain ⟨j, p, h1, h2, h3⟩ := hc
            exact (hold y j p h1 h2 s h3).symm
          · rw [if_neg hc, if_neg hc]
        rw [e1, mix_step ho (fun d hd => hGv (upd x i y) d hd)]
        funext s
        refine mix_congr fun j p _ _ => ?_
        by_cases hji : j = i
        · subst hji; rw [hself]; simp
        · rw [hother j hji, nbeq_ne hji, Bool.or_false]
      have next : ∀ y w', A y w' → Keeps (effD D sx i) w w' → Wr P ops Q ds ((Region.linearise.go .any ops fuel (t / rs.length) (listed.setIfInBounds i true) []).filterMap (ops[·]?)) (setO (mix ops f (G x) (fun j => listed.getD j false)) o.dst (v (upd x i y))) w' := by
        intro y w' hA hkw
        rw [hframe y]
        refine ih _ _ (upd x i y) w' (by simpa using hsz) ?_ ?_ ?_ (hk.trans hkw.effD) ?_ ?_
        · have := cnt_lt (L := fun j => listed.getD j false) (L' := fun j => (listed.setIfInBounds i true).getD j false) hmon hun hself ops.size hisz
          omega
        · intro j p hj hp e he hb
          by_cases hji : j = i
          · subst hji
            rw [ho] at hp; cases hp
            exact hmon _ (hedge e he hb)
          · rw [hother j hji] at hj
            exact hmon _ (hcl j p hj hp e he hb)
        · intro j hj
          rw [hother j (by omega)]; exact hno j hj
        · intro k hsx hk'
          have hki : k ≠ i := by rintro rfl; rw [hself] at hk'; cases hk'
          rw [hother k hki] at hk'
          refine (hkn k hsx hk').trans ?_
          subst hsx
          unfold V.effD at hkw
          simp only [nbeq_ne (Ne.symm hki)] at hkw
          exact hkw
        · intro j hjm hj
          by_cases hji : j = i
          · subst hji
            rw [hFAi]
            simp only [upd_same]; exact hA
          · rw [hother j hji] at hj
            have h0 := hf j hjm hj
            obtain ⟨p, hp⟩ : ∃ p, ops[j]? = some p := ⟨ops[j]'(by omega), by simp [show j < ops.size by omega]⟩
            obtain ⟨_, A', _, hmono', hFAj, _, _⟩ := hall j p hjm hp
            rw [hFAj] at h0 ⊢
            simp only [upd_ne _ _ hji]
            exact hmono' _ _ _ h0 (hkw.monD hji)
      have hkm : Keeps (monB D sx B i) w0 w := by
        unfold monB
        cases hsx : sx with
        | none => exact hk
        | some k =>
          simp only
          cases hb : (Nat.beq i k || bef B k i) with
          | false => exact hk
          | true =>
            refine hkn k hsx ?_
            cases hL : listed.getD k false with
            | false => rfl
            | true =>
              exfalso
              rcases Bool.or_eq_true _ _ ▸ hb with h | h
              · have := Nat.eq_of_beq_eq_true h
                subst this
                rw [hun] at hL; cases hL
              · have hkm' : k < m := by
                  rcases Nat.lt_or_ge k m with h' | h'
                  · exact h'
                  · rw [hno k h'] at hL; cases hL
                obtain ⟨p, hp⟩ : ∃ p, ops[k]? = some p := ⟨ops[k]'(by omega), by simp [show k < ops.size by omega]⟩
                have := (bef_in hB hops (listed := fun j => listed.getD j false) hcl k p i hp (fun e he hb => hcl k p hL hp e he hb) h).1
                rw [hun] at this; cases this
      have h1 := hone x w hkm fun j hj => by
        obtain ⟨h1, h2⟩ := hbi j hj
        exact hf j (by omega) h1
      simp only [Wr] at h1 ⊢
      rw [c1, c2]
      cases hw : wantedE ops (mix ops f (G x) (fun j => Nat.blt j i)) o with
      | false =>
        rw [hw] at h1
        obtain ⟨y, h2, h3, h4⟩ := h1
        have hset : setO (mix ops f (G x) (fun j => listed.getD j false)) o.dst undef = setO (mix ops f (G x) (fun j => listed.getD j false)) o.dst (v (upd x i y)) := by
          cases hd : o.dst with
          | none => rfl
          | some d =>
            have := congrFun h2 d
            rw [hd] at this
            have e : undef = v (upd x i y) := by simpa [Env.set_same] using this
            rw [e]
        show Wr P ops Q ds _ (setO (mix ops f (G x) (fun j => listed.getD j false)) o.dst undef) w
        rw [hset]; exact next y w h3 h4
      | true =>
        rw [hw] at h1
        refine upE_mono ?_ h1
        rintro u w' ⟨y, hu, hA, hkw⟩
        have hset : setO (mix ops f (G x) (fun j => listed.getD j false)) o.dst u = setO (mix ops f (G x) (fun j => listed.getD j false)) o.dst (v (upd x i y)) := by
          cases hd : o.dst with
          | none => rfl
          | some d =>
            have := congrFun hu d
            rw [hd] at this
            have e : u = v (upd x i y) := by simpa [Env.set_same] using this
            rw [e]
        rw [hset]; exact next y w' hA hkw
/-- A region that draws its order: its first m operations lay new blocks at most, but for one, which may write D; the others wait for all of them, and one for another. -/
theorem wc_drawQ (D : Nat → Prop) (sx : Option Nat) {r : Option Nat} {n id : Nat} {Q : Post} {ds : List Deferred} {f : Env} {w : World} {l : List Oper} (m : Nat) (B : Nat) (hm : P.follows .mixedOrders = true) (hok : regionOk l.toArray = true) (hBB : B = masks l) (hB : masksOk l.toArray B = true) (ht : tailOk l.length m B = true) (hml : m ≤ l.length)
    (h : ChP D sx P l.toArray B w.drew (fun g fa => ∀ x w', Keeps D w.drew w' → (∀ j, j < m → fa j x w') → Wr P l.toArray Q ds (l.drop m) (g x) w') (l.take m) 0 (fun _ => f) (fun _ _ _ => True)) : Wc r P n (.region id l.toArray true) Q ds f w := by
  refine wc_draw fun t => ?_
  obtain ⟨G, FA, hK, _, _, hGG, hall⟩ := ChP.all (f := f) (m := m) (ROk.of hok) hB (l.take m) 0 (fun _ => f) (fun _ _ _ => True) (fun i hi => by rw [List.length_take] at hi; rw [List.getElem?_take_of_lt (by omega)]; simp) (by rw [List.length_take]; omega) (fun G hG x => by
    funext s
    unfold mix
    rw [if_neg]
    rintro ⟨j, p, h1, _⟩
    simp at h1) h
  simp only [Region.schedule, hm, Bool.true_or, if_true, Region.linearise]
  have := wr_P (Q := Q) (ds := ds) (ROk.of hok) hB (by simpa using ht) (by simpa using hml) hGG (fun i o him ho => hall i o (Nat.zero_le _) him ho) hK l.toArray.size t (Array.replicate l.toArray.size false) (fun _ => undef) w.drew (by simp) (cnt_max _ _) (by intro j p hj; simp [Array.getD_eq_getD_getElem?, Array.getElem?_replicate] at hj; split at hj <;> simp_all)
    (fun j _ => by simp only [Array.getD_eq_getD_getElem?, Array.getElem?_replicate]; split <;> rfl) (Keeps.refl _ _) (fun _ _ _ => Keeps.refl _ _) (fun j _ hj => by simp only [Array.getD_eq_getD_getElem?, Array.getElem?_replicate] at hj; split at hj <;> simp at hj)
  have he : mix l.toArray f (G fun _ => undef) (fun j => (Array.replicate l.toArray.size false).getD j false) = f := by
    funext s
    refine mix_no fun j p hj hp => ?_
    simp only [Array.getD_eq_getD_getElem?, Array.getElem?_replicate]
    split <;> rfl
  rw [he] at this
  exact this
end
end Go.V.B
