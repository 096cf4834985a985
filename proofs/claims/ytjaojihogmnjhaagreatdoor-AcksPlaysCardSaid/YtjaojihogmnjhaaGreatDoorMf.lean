/- The calculus, fifteenth text: a region that draws its order, of which one operation spends what others left: those that are dead once it is done. -/
import Derived.Test.YtjaojihogmnjhaaGreatDoorM6
import Derived.Laws.IdiomRangeMap
namespace Go.V
open Go.RowKit
set_option linter.unusedVariables false
set_option linter.unusedSimpArgs false

/-- What may be written while what an operation left must stand: once sx is done, what the dead left is not asked for any more. -/
def monX (D : Nat → Prop) (sx : Option Nat) (dead : Nat → Bool) (i : Nat) : Nat → Prop := match dead i with
  | true => NoB
  | false => monD D sx i
/-- May operation i lean on what j left? -/
def live (B : Nat) (sx : Option Nat) (dead : Nat → Bool) (i j : Nat) : Bool := !dead j || match sx with
  | none => true
  | some k => Nat.beq i k || bef B k i
section
variable {P : Program} {ops : Array Oper}
/-- The operations in the text's order; each leaves v of what those before it left; A tells of what it left itself. -/
def ChD (D : Nat → Prop) (sx : Option Nat) (dead : Nat → Bool) (P : Program) (ops : Array Oper) (B : Nat) (w0 : World) (K : (Prm → Env) → (Nat → Fact) → Prop) : List Oper → Nat → (Prm → Env) → (Nat → Fact) → Prop
  | [], _, f, fa => K f fa
  | o :: rest, i, f, fa => ∃ (v : Prm → Value) (A : Value → World → Prop), (∀ x y : Prm, (∀ j, bef B i j = true ∨ j = i → x j = y j) → v x = v y) ∧ (∀ y w w', A y w → Keeps (monX D sx dead i) w w' → A y w') ∧
      (∀ (x : Prm) w, Keeps (monD D sx i) w0 w → (∀ j, bef B i j = true → live B sx dead i j = true → fa j x w) → Wr P ops (fun _ _ f' w' => ∃ y, f' = setO (f x) o.dst (v (upd x i y)) ∧ A y w' ∧ Keeps (effD D sx i) w w') [] [o] (f x) w) ∧
      ChD D sx dead P ops B w0 K rest (i + 1) (fun x => setO (f x) o.dst (v x)) (updF fa i A)
variable {D : Nat → Prop} {sx : Option Nat} {dead : Nat → Bool} {B : Nat} {w0 : World} {K : (Prm → Env) → (Nat → Fact) → Prop}
theorem chD_nil {i : Nat} {f : Prm → Env} {fa : Nat → Fact} (h : K f fa) : ChD D sx dead P ops B w0 K [] i f fa := h
/-- One whose result does not hang on the world. -/
theorem chD_pure {o : Oper} {rest : List Oper} {i : Nat} {f : Prm → Env} {fa : Nat → Fact} {v : Prm → Value} (h : ∀ (x : Prm) w, Keeps (monD D sx i) w0 w → (∀ j, bef B i j = true → live B sx dead i j = true → fa j x w) → Wr P ops (fun _ _ f' w' => f' = setO (f x) o.dst (v x) ∧ Keeps (effD D sx i) w w') [] [o] (f x) w)
    (hl : ∀ x y : Prm, (∀ j, bef B i j = true → x j = y j) → v x = v y) (hni : bef B i i = false)
    (hr : ChD D sx dead P ops B w0 K rest (i + 1) (fun x => setO (f x) o.dst (v x)) (updF fa i fun _ _ => True)) : ChD D sx dead P ops B w0 K (o :: rest) i f fa := by
  refine ⟨v, fun _ _ => True, fun x y hxy => hl x y fun j hj => hxy j (.inl hj), fun _ _ _ h _ => h, fun x w hk hf => ?_, hr⟩
  have h1 := h x w hk hf
  have hv : v (upd x i undef) = v x := hl _ _ fun j hj => upd_ne _ _ (by rintro rfl; rw [hni] at hj; cases hj)
  simp only [Wr] at h1 ⊢
  cases hw : wantedE ops (f x) o with
  | false =>
    rw [hw] at h1
    exact ⟨undef, by rw [hv]; exact h1.1, True.intro, h1.2⟩
  | true =>
    rw [hw] at h1
    exact upE_mono (fun u w' hu => ⟨undef, by rw [hv]; exact hu.1, True.intro, hu.2⟩) h1
/-- One that tells A of what it left. -/
theorem chD_fact {o : Oper} {rest : List Oper} {i : Nat} {f : Prm → Env} {fa : Nat → Fact} (F : Value → Value) (A : Value → World → Prop) (hA : ∀ y w w', A y w → Keeps (monX D sx dead i) w w' → A y w')
    (h : ∀ (x : Prm) w, Keeps (monD D sx i) w0 w → (∀ j, bef B i j = true → live B sx dead i j = true → fa j x w) → Wr P ops (fun _ _ f' w' => ∃ y, f' = setO (f x) o.dst (F y) ∧ A y w' ∧ Keeps (effD D sx i) w w') [] [o] (f x) w)
    (hr : ChD D sx dead P ops B w0 K rest (i + 1) (fun x => setO (f x) o.dst (F (x i))) (updF fa i A)) : ChD D sx dead P ops B w0 K (o :: rest) i f fa :=
  ⟨fun x => F (x i), A, fun x y hxy => congrArg F (hxy i (.inr rfl)), hA, fun x w hk hf => by simpa only [upd_same] using h x w hk hf, hr⟩

/-- What the text's order shows of each operation. -/
theorem ChD.all (hops : ROk ops) (hB : masksOk ops B = true) {f : Env} {m : Nat} : ∀ (l : List Oper) (k : Nat) (g : Prm → Env) (fa : Nat → Fact), (∀ i, i < l.length → l[i]? = ops[k + i]?) → k + l.length = m →
    (∀ G : Prm → Env, (∀ x s, (∀ j p, k ≤ j → j < m → ops[j]? = some p → p.dst ≠ some s) → G x s = g x s) → ∀ x, mix ops f (G x) (fun j => Nat.blt j k) = g x) → ChD D sx dead P ops B w0 K l k g fa →
    ∃ (G : Prm → Env) (FA : Nat → Fact), K G FA ∧ (∀ x s, (∀ j p, k ≤ j → j < m → ops[j]? = some p → p.dst ≠ some s) → G x s = g x s) ∧ (∀ j, j < k → FA j = fa j) ∧ (∀ x, mix ops f (G x) (fun j => Nat.blt j m) = G x) ∧
      ∀ i o, k ≤ i → i < m → ops[i]? = some o → ∃ (v : Prm → Value) (A : Value → World → Prop), (∀ x y : Prm, (∀ j, bef B i j = true ∨ j = i → x j = y j) → v x = v y) ∧ (∀ y w w', A y w → Keeps (monX D sx dead i) w w' → A y w') ∧ (FA i = fun x w => A (x i) w) ∧ (∀ x d, o.dst = some d → G x d = v x) ∧
        ∀ (x : Prm) w, Keeps (monD D sx i) w0 w → (∀ j, bef B i j = true → live B sx dead i j = true → FA j x w) → Wr P ops (fun _ _ f' w' => ∃ y, f' = setO (mix ops f (G x) (fun j => Nat.blt j i)) o.dst (v (upd x i y)) ∧ A y w' ∧ Keeps (effD D sx i) w w') [] [o] (mix ops f (G x) (fun j => Nat.blt j i)) w
  | [], k, g, fa, hl, hk, hmix, hch => by
    simp only [List.length_nil, Nat.add_zero] at hk
    exact ⟨g, fa, hch, fun _ _ _ => rfl, fun _ _ => rfl, by rw [← hk]; exact hmix g fun _ _ _ => rfl, fun i o hi hi' ho => by omega⟩
  | o :: l, k, g, fa, hl, hk, hmix, hch => by
    obtain ⟨v, A, hloc, hmono, h1, h2⟩ := hch
    simp only [List.length_cons] at hk
    have ho : ops[k]? = some o := by have := hl 0 (by simp); simpa using this.symm
    have step : ∀ G : Prm → Env, (∀ x s, (∀ j p, k + 1 ≤ j → j < m → ops[j]? = some p → p.dst ≠ some s) → G x s = setO (g x) o.dst (v x) s) → (∀ x, mix ops f (G x) (fun j => Nat.blt j k) = g x) ∧ ∀ x d, o.dst = some d → G x d = v x := by
      intro G hG
      constructor
      · refine hmix G fun x s hs => ?_
        rw [hG x s fun j p hj hjm => hs j p (by omega) hjm]
        cases hd : o.dst with
        | none => rfl
        | some d => exact Env.set_ne _ _ (by rintro rfl; exact hs k o (Nat.le_refl _) (by omega) ho hd)
      · intro x d hd
        rw [hG x d fun j p hj hjm hp hpd => by have := hops.one k j o p d ho hp hpd hd; omega, hd]
        exact Env.set_same _ _ _
    have hsucc : (fun j => Nat.blt j k || Nat.beq j k) = fun j => Nat.blt j (k + 1) := by
      funext j
      apply Bool.eq_iff_iff.2
      simp only [Bool.or_eq_true, Nat.beq_eq, Nat.blt_eq]
      omega
    obtain ⟨G, FA, hK, hG, hFA, hGG, hall⟩ := ChD.all (f := f) (m := m) hops hB l (k + 1) (fun x => setO (g x) o.dst (v x)) (updF fa k A) (fun i hi => by have := hl (i + 1) (by simp; omega); simp only [List.getElem?_cons_succ] at this; rw [this]; congr 1; omega) (by omega) (fun G hG x => by
      obtain ⟨e1, e2⟩ := step G hG
      have := mix_step (f := f) (F := G x) (L := fun j => Nat.blt j k) ho (e2 x)
      rw [e1, hsucc] at this
      exact this.symm) h2
    obtain ⟨e1, e2⟩ := step G hG
    refine ⟨G, FA, hK, fun x s hs => ?_, fun j hj => ?_, hGG, fun i o' hi him ho' => ?_⟩
    · rw [hG x s fun j p hj hjm => hs j p (by omega) hjm]
      cases hd : o.dst with
      | none => rfl
      | some d => exact Env.set_ne _ _ (by rintro rfl; exact hs k o (Nat.le_refl _) (by omega) ho hd)
    · rw [hFA j (by omega), updF_ne _ _ (by omega)]
    · rcases Nat.eq_or_lt_of_le hi with rfl | hlt
      · rw [ho] at ho'; cases ho'
        refine ⟨v, A, hloc, hmono, by rw [hFA k (by omega), updF_same], e2, fun x w hk hf => ?_⟩
        rw [e1]
        refine h1 x w hk fun j hj hlv => ?_
        have hjk := bef_lt hB hops ho hj
        have := hf j hj hlv
        rwa [hFA j (by omega), updF_ne _ _ (by omega)] at this
      · exact hall i o' (by omega) him ho'

theorem wr_D {Q : Post} {ds : List Deferred} {f : Env} {G : Prm → Env} {FA : Nat → Fact} {m : Nat} (hops : ROk ops) (hB : masksOk ops B = true) (ht : tailOk ops.size m B = true) (hm : m ≤ ops.size)
    (hGG : ∀ x, mix ops f (G x) (fun j => Nat.blt j m) = G x)
    (hall : ∀ i o, i < m → ops[i]? = some o → ∃ (v : Prm → Value) (A : Value → World → Prop), (∀ x y : Prm, (∀ j, bef B i j = true ∨ j = i → x j = y j) → v x = v y) ∧ (∀ y w w', A y w → Keeps (monX D sx dead i) w w' → A y w') ∧ (FA i = fun x w => A (x i) w) ∧ (∀ x d, o.dst = some d → G x d = v x) ∧
        ∀ (x : Prm) w, Keeps (monD D sx i) w0 w → (∀ j, bef B i j = true → live B sx dead i j = true → FA j x w) → Wr P ops (fun _ _ f' w' => ∃ y, f' = setO (mix ops f (G x) (fun j => Nat.blt j i)) o.dst (v (upd x i y)) ∧ A y w' ∧ Keeps (effD D sx i) w w') [] [o] (mix ops f (G x) (fun j => Nat.blt j i)) w)
    (hQ : ∀ x w', Keeps D w0 w' → (∀ j, j < m → dead j = false → FA j x w') → Wr P ops Q ds (ops.toList.drop m) (G x) w') :
    ∀ (fuel t : Nat) (listed : Array Bool) (x : Prm) (w : World), listed.size = ops.size → cnt (fun j => listed.getD j false) ops.size ≤ fuel →
      (∀ j p, listed.getD j false = true → ops[j]? = some p → ∀ e ∈ p.after.toList, Region.binds .any e = true → listed.getD e.on false = true) →
      (∀ j, m ≤ j → listed.getD j false = false) → Keeps D w0 w → (∀ k, sx = some k → listed.getD k false = false → Keeps NoB w0 w) → (∀ j, j < m → listed.getD j false = true → (dead j = false ∨ ∀ k, sx = some k → listed.getD k false = false) → FA j x w) →
      Wr P ops Q ds ((Region.linearise.go .any ops fuel t listed []).filterMap (ops[·]?)) (mix ops f (G x) (fun j => listed.getD j false)) w := by
  have fin : ∀ (fuel t : Nat) (listed : Array Bool) (x : Prm) (w : World), listed.size = ops.size → cnt (fun j => listed.getD j false) ops.size ≤ fuel → (∀ j, m ≤ j → listed.getD j false = false) → (∀ j, j < m → listed.getD j false = true) → Keeps D w0 w → (∀ j, j < m → listed.getD j false = true → (dead j = false ∨ ∀ k, sx = some k → listed.getD k false = false) → FA j x w) →
      Wr P ops Q ds ((Region.linearise.go .any ops fuel t listed []).filterMap (ops[·]?)) (mix ops f (G x) (fun j => listed.getD j false)) w := by
    intro fuel t listed x w hsz hcn hno hyes hk hf
    have hl : ∀ j, listed.getD j false = Nat.blt j m := by
      intro j
      rcases Nat.lt_or_ge j m with h | h
      · rw [hyes j h]; symm; rw [Nat.blt_eq]; exact h
      · rw [hno j h, nblt_false h]
    have e : mix ops f (G x) (fun j => listed.getD j false) = G x := by
      rw [← hGG x]
      conv => rhs; rw [← hGG x]
      rw [hGG x]
      congr 1
      funext j; exact hl j
    rw [e]
    refine wr_tail hops hB ht fuel t listed m _ w hsz (fun j _ => hl j) (Nat.le_refl _) hm ?_ (hQ x w hk fun j hj hd => hf j hj (hyes j hj) (.inl hd))
    have : ∀ k, m ≤ k → k - m ≤ cnt (fun j => listed.getD j false) k := by
      intro k
      induction k with
      | zero => intro _; simp
      | succ k ih =>
        intro hmk
        rcases Nat.eq_or_lt_of_le hmk with h | h
        · rw [h]; simp
        · have := ih (by omega)
          simp only [cnt, hno k (by omega), cond_false]; omega
    have := this ops.size hm
    omega
  intro fuel
  induction fuel with
  | zero =>
    intro t listed x w hsz hc hcl hno hk hkn hf
    exact fin 0 t listed x w hsz hc hno (fun j hj => cnt_zero (L := fun j => listed.getD j false) ops.size (Nat.le_zero.1 hc) j (by omega)) hk hf
  | succ fuel ih =>
    intro t listed x w hsz hc hcl hno hk hkn hf
    by_cases hdone : ∀ j, j < m → listed.getD j false = true
    · exact fin (fuel + 1) t listed x w hsz hc hno hdone hk hf
    simp only [Region.linearise.go]
    generalize hrs : ((List.range ops.size).filter fun i => !listed.getD i true && ((ops[i]?).map (·.after.all fun e => !Region.binds .any e || listed.getD e.on false)).getD false) = rs
    have hgd : ∀ i, i < ops.size → listed.getD i true = listed.getD i false := by
      intro i hi
      simp [Array.getD_eq_getD_getElem?, hsz, hi]
    cases hi : rs[t % rs.length]? with
    | none =>
      exfalso
      have hnil : rs = [] := by
        cases rs with
        | nil => rfl
        | cons x xs =>
          have hlt : t % (x :: xs).length < (x :: xs).length := Nat.mod_lt _ (by simp)
          rw [List.getElem?_eq_none_iff] at hi
          omega
      refine hdone ?_
      have : ∀ k, k ≤ ops.size → ∀ i, i < k → listed.getD i false = true := by
        intro k
        induction k with
        | zero => intro _ i hi; omega
        | succ k ihk =>
          intro hk' i hik
          rcases Nat.lt_or_eq_of_le (Nat.le_of_lt_succ hik) with hlt | rfl
          · exact ihk (by omega) i hlt
          · cases hL : listed.getD i false with
            | true => rfl
            | false =>
              exfalso
              have hmem : i ∈ rs := by
                rw [← hrs, List.mem_filter]
                refine ⟨List.mem_range.2 (by omega), ?_⟩
                obtain ⟨o, ho⟩ : ∃ o, ops[i]? = some o := ⟨ops[i]'(by omega), by simp [show i < ops.size by omega]⟩
                rw [hgd i (by omega), hL, ho]
                simp only [Bool.not_false, Bool.true_and, Option.map_some, Option.getD_some]
                rw [← Array.all_toList]
                refine List.all_eq_true.2 fun e he => ?_
                cases hb : Region.binds .any e with
                | false => rfl
                | true =>
                  have := hops.low i o ho e he hb
                  rw [ihk (by omega) e.on this]; rfl
              rw [hnil] at hmem; cases hmem
      exact fun j hj => this ops.size (Nat.le_refl _) j (by omega)
    | some i =>
      have hmem : i ∈ rs := List.mem_of_getElem? hi
      rw [← hrs, List.mem_filter] at hmem
      obtain ⟨hir, hib⟩ := hmem
      have hisz : i < ops.size := List.mem_range.1 hir
      obtain ⟨o, ho⟩ : ∃ o, ops[i]? = some o := ⟨ops[i], by simp [hisz]⟩
      rw [hgd i hisz, ho] at hib
      simp only [Bool.and_eq_true, Bool.not_eq_true', Option.map_some, Option.getD_some] at hib
      obtain ⟨hun, hready⟩ := hib
      rw [← Array.all_toList] at hready
      have hedge : ∀ e ∈ o.after.toList, Region.binds .any e = true → listed.getD e.on false = true := by
        intro e he hb
        have := List.all_eq_true.1 hready e he
        simpa [hb] using this
      have hbi : ∀ j, bef B i j = true → listed.getD j false = true ∧ j < i := fun j hj => bef_in hB hops (listed := fun j => listed.getD j false) hcl i o j ho hedge hj
      have him : i < m := by
        rcases Nat.lt_or_ge i m with h | h
        · exact h
        · exfalso
          exact hdone fun j hj => (hbi j (tail_bef ht hisz h (by omega))).1
      dsimp only
      rw [linearise_go_acc, List.reverse_singleton, List.singleton_append, List.filterMap_cons, ho]
      obtain ⟨v, A, hloc, hmono, hFAi, hGv, hone⟩ := hall i o him ho
      have hsee : ∀ d, looks ops o d = true → mix ops f (G x) (fun j => listed.getD j false) d = mix ops f (G x) (fun j => Nat.blt j i) d := by
        intro d hd
        refine mix_congr fun j p hj hp => ?_
        rcases hops.see i j o p d ho hj hp hd with rfl | ⟨e, he, hb, rfl⟩ | ⟨e, he, hb, rfl⟩
        · rw [hun, nblt_irrefl]
        · have := hops.low i o ho e he hb
          rw [hedge e he hb]; simp [this]
        · have := hops.low j p hj e he hb
          cases hL : listed.getD j false with
          | false => exact (nblt_false (by omega)).symm
          | true =>
            have := hcl j p hL hj e he hb
            rw [hun] at this; cases this
      obtain ⟨c1, c2⟩ := looks_congr (o := o) hsee (hops.sel i o ho)
      have hmon : ∀ j, listed.getD j false = true → (listed.setIfInBounds i true).getD j false = true := by
        intro j hj
        by_cases hji : j = i
        · subst hji; simp [Array.getD_eq_getD_getElem?, hsz, hisz]
        · simpa [Array.getD_eq_getD_getElem?, Array.getElem?_setIfInBounds, Ne.symm hji] using hj
      have hself : (listed.setIfInBounds i true).getD i false = true := by simp [Array.getD_eq_getD_getElem?, hsz, hisz]
      have hother : ∀ j, j ≠ i → (listed.setIfInBounds i true).getD j false = listed.getD j false := fun j hji => by simp [Array.getD_eq_getD_getElem?, Array.getElem?_setIfInBounds, Ne.symm hji]
      -- what those that are done left does not hang on what this one leaves
      have hold : ∀ (y : Value) (j : Nat) (p : Oper), listed.getD j false = true → ops[j]? = some p → ∀ d, p.dst = some d → G (upd x i y) d = G x d := by
        intro y j p hL hj d hd
        have hji : j ≠ i := by rintro rfl; rw [hun] at hL; cases hL
        have hjm : j < m := by
          rcases Nat.lt_or_ge j m with h | h
          · exact h
          · rw [hno j h] at hL; cases hL
        obtain ⟨v', _, hloc', _, _, hGv', _⟩ := hall j p hjm hj
        rw [hGv' _ d hd, hGv' _ d hd]
        refine hloc' _ _ fun j' hj' => upd_ne _ _ ?_
        rintro rfl
        rcases hj' with hj' | hj'
        · have := (bef_in hB hops (listed := fun j => listed.getD j false) hcl j p j' hj (fun e he hb => hcl j p hL hj e he hb) hj').1
          rw [hun] at this; cases this
        · exact hji hj'.symm
      have hframe : ∀ y, setO (mix ops f (G x) (fun j => listed.getD j false)) o.dst (v (upd x i y)) = mix ops f (G (upd x i y)) (fun j => (listed.setIfInBounds i true).getD j false) := by
        intro y
        have e1 : mix ops f (G x) (fun j => listed.getD j false) = mix ops f (G (upd x i y)) (fun j => listed.getD j false) := by
          funext s
          unfold mix
          by_cases hc : ∃ j p, listed.getD j false = true ∧ ops[j]? = some p ∧ p.dst = some s
          · rw [if_pos hc, if_pos hc]
            obtain ⟨j, p, h1, h2, h3⟩ := hc
            exact (hold y j p h1 h2 s h3).symm
          · rw [if_neg hc, if_neg hc]
        rw [e1, mix_step ho (fun d hd => hGv (upd x i y) d hd)]
        funext s
        refine mix_congr fun j p _ _ => ?_
        by_cases hji : j = i
        · subst hji; rw [hself]; simp
        · rw [hother j hji, nbeq_ne hji, Bool.or_false]
      have next : ∀ y w', A y w' → Keeps (effD D sx i) w w' → Wr P ops Q ds ((Region.linearise.go .any ops fuel (t / rs.length) (listed.setIfInBounds i true) []).filterMap (ops[·]?)) (setO (mix ops f (G x) (fun j => listed.getD j false)) o.dst (v (upd x i y))) w' := by
        intro y w' hA hkw
        rw [hframe y]
        refine ih _ _ (upd x i y) w' (by simpa using hsz) ?_ ?_ ?_ (hk.trans hkw.effD) ?_ ?_
        · have := cnt_lt (L := fun j => listed.getD j false) (L' := fun j => (listed.setIfInBounds i true).getD j false) hmon hun hself ops.size hisz
          omega
        · intro j p hj hp e he hb
          by_cases hji : j = i
          · subst hji
            rw [ho] at hp; cases hp
            exact hmon _ (hedge e he hb)
          · rw [hother j hji] at hj
            exact hmon _ (hcl j p hj hp e he hb)
        · intro j hj
          rw [hother j (by omega)]; exact hno j hj
        · intro k hsx hk'
          have hki : k ≠ i := by rintro rfl; rw [hself] at hk'; cases hk'
          rw [hother k hki] at hk'
          refine (hkn k hsx hk').trans ?_
          subst hsx
          unfold V.effD at hkw
          simp only [nbeq_ne (Ne.symm hki)] at hkw
          exact hkw
        · intro j hjm hj hdl
          by_cases hji : j = i
          · subst hji
            rw [hFAi]
            simp only [upd_same]; exact hA
          · rw [hother j hji] at hj
            have h0 := hf j hjm hj (hdl.imp id fun h k hk => by
              cases hL : listed.getD k false with
              | false => rfl
              | true =>
                have e1 := h k hk
                rw [hmon k hL] at e1; cases e1)
            obtain ⟨p, hp⟩ : ∃ p, ops[j]? = some p := ⟨ops[j]'(by omega), by simp [show j < ops.size by omega]⟩
            obtain ⟨_, A', _, hmono', hFAj, _, _⟩ := hall j p hjm hp
            rw [hFAj] at h0 ⊢
            simp only [upd_ne _ _ hji]
            refine hmono' _ _ _ h0 ?_
            unfold monX
            cases hdj : dead j with
            | false => exact hkw.monD hji
            | true =>
              show Keeps NoB w w'
              rcases hdl with h | h
              · rw [hdj] at h; cases h
              · unfold V.effD at hkw
                cases hsx : sx with
                | none => rw [hsx] at hkw; exact hkw
                | some k =>
                  have hne : i ≠ k := by
                    intro e
                    subst e
                    have e1 := h i hsx
                    rw [hself] at e1; cases e1
                  rw [hsx] at hkw
                  simp only [nbeq_ne hne] at hkw
                  exact hkw
      have hkm : Keeps (V.monD D sx i) w0 w := by
        unfold V.monD
        cases hsx : sx with
        | none => exact hk
        | some k =>
          simp only
          cases hb : Nat.beq i k with
          | false => exact hk
          | true =>
            have := Nat.eq_of_beq_eq_true hb
            subst this
            exact hkn i hsx hun
      have h1 := hone x w hkm fun j hj hlv => by
        obtain ⟨h1, h2⟩ := hbi j hj
        refine hf j (by omega) h1 ?_
        unfold live at hlv
        cases hdj : dead j with
        | false => exact .inl rfl
        | true =>
          refine .inr fun k hsx => ?_
          rw [hdj, hsx] at hlv
          simp only [Bool.not_true, Bool.false_or, Bool.or_eq_true] at hlv
          cases hL : listed.getD k false with
          | false => rfl
          | true =>
            exfalso
            rcases hlv with h | h
            · have := Nat.eq_of_beq_eq_true h
              subst this
              rw [hun] at hL; cases hL
            · have hks : k < ops.size := by
                rw [← hsz]
                rcases Nat.lt_or_ge k listed.size with h | h
                · exact h
                · simp [Array.getD_eq_getD_getElem?, h] at hL
              obtain ⟨p, hp⟩ : ∃ p, ops[k]? = some p := ⟨ops[k], by simp [hks]⟩
              have := (bef_in hB hops (listed := fun j => listed.getD j false) hcl k p i hp (fun e he hb => hcl k p hL hp e he hb) h).1
              rw [hun] at this; cases this
      simp only [Wr] at h1 ⊢
      rw [c1, c2]
      cases hw : wantedE ops (mix ops f (G x) (fun j => Nat.blt j i)) o with
      | false =>
        rw [hw] at h1
        obtain ⟨y, h2, h3, h4⟩ := h1
        have hset : setO (mix ops f (G x) (fun j => listed.getD j false)) o.dst undef = setO (mix ops f (G x) (fun j => listed.getD j false)) o.dst (v (upd x i y)) := by
          cases hd : o.dst with
          | none => rfl
          | some d =>
            have := congrFun h2 d
            rw [hd] at this
            have e : undef = v (upd x i y) := by simpa [Env.set_same] using this
            rw [e]
        show Wr P ops Q ds _ (setO (mix ops f (G x) (fun j => listed.getD j false)) o.dst undef) w
        rw [hset]; exact next y w h3 h4
      | true =>
        rw [hw] at h1
        refine upE_mono ?_ h1
        rintro u w' ⟨y, hu, hA, hkw⟩
        have hset : setO (mix ops f (G x) (fun j => listed.getD j false)) o.dst u = setO (mix ops f (G x) (fun j => listed.getD j false)) o.dst (v (upd x i y)) := by
          cases hd : o.dst with
          | none => rfl
          | some d =>
            have := congrFun hu d
            rw [hd] at this
            have e : u = v (upd x i y) := by simpa [Env.set_same] using this
            rw [e]
        rw [hset]; exact next y w' hA hkw
/-- A region that draws its order: its first m operations lay new blocks at most, but for one, which may write D; the others wait for all of them, and one for another. -/
theorem wc_drawD (D : Nat → Prop) (sx : Option Nat) (dead : Nat → Bool) {r : Option Nat} {n id : Nat} {Q : Post} {ds : List Deferred} {f : Env} {w : World} {l : List Oper} (m : Nat) (B : Nat) (hm : P.follows .mixedOrders = true) (hok : regionOk l.toArray = true) (hBB : B = masks l) (hB : masksOk l.toArray B = true) (ht : tailOk l.length m B = true) (hml : m ≤ l.length)
    (h : ChD D sx dead P l.toArray B w.drew (fun g fa => ∀ x w', Keeps D w.drew w' → (∀ j, j < m → dead j = false → fa j x w') → Wr P l.toArray Q ds (l.drop m) (g x) w') (l.take m) 0 (fun _ => f) (fun _ _ _ => True)) : Wc r P n (.region id l.toArray true) Q ds f w := by
  refine wc_draw fun t => ?_
  obtain ⟨G, FA, hK, _, _, hGG, hall⟩ := ChD.all (f := f) (m := m) (ROk.of hok) hB (l.take m) 0 (fun _ => f) (fun _ _ _ => True) (fun i hi => by rw [List.length_take] at hi; rw [List.getElem?_take_of_lt (by omega)]; simp) (by rw [List.length_take]; omega) (fun G hG x => by
    funext s
    unfold mix
    rw [if_neg]
    rintro ⟨j, p, h1, _⟩
    simp at h1) h
  simp only [Region.schedule, hm, Bool.true_or, if_true, Region.linearise]
  have := wr_D (Q := Q) (ds := ds) (ROk.of hok) hB (by simpa using ht) (by simpa using hml) hGG (fun i o him ho => hall i o (Nat.zero_le _) him ho) hK l.toArray.size t (Array.replicate l.toArray.size false) (fun _ => undef) w.drew (by simp) (cnt_max _ _) (by intro j p hj; simp [Array.getD_eq_getD_getElem?, Array.getElem?_replicate] at hj; split at hj <;> simp_all)
    (fun j _ => by simp only [Array.getD_eq_getD_getElem?, Array.getElem?_replicate]; split <;> rfl) (Keeps.refl _ _) (fun _ _ _ => Keeps.refl _ _) (fun j _ hj _ => by simp only [Array.getD_eq_getD_getElem?, Array.getElem?_replicate] at hj; split at hj <;> simp at hj)
  have he : mix l.toArray f (G fun _ => undef) (fun j => (Array.replicate l.toArray.size false).getD j false) = f := by
    funext s
    refine mix_no fun j p hj hp => ?_
    simp only [Array.getD_eq_getD_getElem?, Array.getElem?_replicate]
    split <;> rfl
  rw [he] at this
  exact this
end
end Go.V

namespace Go.V
open Go.RowKit
set_option linter.unusedVariables false
set_option linter.unusedSimpArgs false
set_option linter.unusedSectionVars false

section
variable {P : Program} {ops : Array Oper} {Q : Post} {ds : List Deferred} {f : Env} {w w' : World} {rest : List Oper}
variable {d : Option Nat} {ty : TypeId} {pos : String} {af : Array Edge} {g : Option (Nat × Bool)}
variable {α : Type} [DecidableEq α] {enc : α → Value}
/-- Block r is an iterator over the map in block mb, which holds M as it did when the iterator was made; the places in idx it has handed out. -/
def IterAt (w : World) (enc : α → Value) (r mb : Nat) (M : List (α × Value)) (idx : List Nat) : Prop :=
  ∃ es c since last seen, w.heap[mb]? = some (.map es c) ∧ keysAre enc es.toList M ∧ (M.map (·.1)).Nodup ∧ (es.toList.map (·.born)).Nodup ∧ (∀ e ∈ es.toList, e.born < c) ∧ (∀ e ∈ es.toList, e.born < since) ∧ since ≤ last ∧ since ≤ c ∧
    w.heap[r]? = some (.mapIter (some mb) since seen last) ∧ seen.toList = idx.map (fun i => (es.toList.map (·.born)).getD i 0) ∧ idx.Nodup ∧ ∀ i ∈ idx, i < M.length
theorem IterAt.map {r mb : Nat} {M : List (α × Value)} {idx : List Nat} (h : IterAt w enc r mb M idx) : MapAt w enc mb M := by
  obtain ⟨es, c, since, last, seen, h1, h2, h3, h4, h5, _⟩ := h
  exact ⟨es, c, h1, h2, h3, h4, h5⟩
theorem IterAt.keep {D : Nat → Prop} {r mb : Nat} {M : List (α × Value)} {idx : List Nat} (h : IterAt w enc r mb M idx) (k : Keeps D w w') (hr : ¬ D r) (hm : ¬ D mb) : IterAt w' enc r mb M idx := by
  obtain ⟨es, c, since, last, seen, h1, h2, h3, h4, h5, h6, h7, h7', h8, h9⟩ := h
  exact ⟨es, c, since, last, seen, k.heap h1 hm, h2, h3, h4, h5, h6, h7, h7', k.heap h8 hr, h9⟩
/-- The iterator's last step handed out p. -/
def EntryAt (w : World) (enc : α → Value) (r mb : Nat) (p : α × Value) : Prop :=
  ∃ es c since seen e, w.heap[mb]? = some (.map es c) ∧ w.heap[r]? = some (.mapIter (some mb) since seen c) ∧ seen.back? = some e.born ∧ e ∈ es.toList ∧ (es.toList.map (·.born)).Nodup ∧ e.key = enc p.1 ∧ e.val = p.2
theorem wr_rangeM {t K E : TypeId} {x : Operand} {mb : Nat} {M : List (α × Value)} [U : Und P t (.map K E)] (hw : wantedE ops f ⟨d, .range t x, ty, pos, af, g⟩ = true) (hx : ev f x = .map (some mb)) (h : MapAt w enc mb M)
    (kk : ∀ w', IterAt w' enc w.heap.size mb M [] → Keeps NoB w w' → Wr P ops Q ds rest (setO f d (.pointer (some ⟨w.heap.size, 0, none⟩))) w') : Wr P ops Q ds (⟨d, .range t x, ty, pos, af, g⟩ :: rest) f w := by
  obtain ⟨es, c, hb, hk, hn, hbn, hbc⟩ := h
  refine wr_v (s := Instr.range t (ev f x)) (v := .pointer (some ⟨w.heap.size, 0, none⟩)) (w' := w.alloc (.mapIter (some mb) c #[] c)) hw rfl (by rw [hx]; exact run_range_map w t K E mb es c U.h hb) (kk _ ?_ ((Keeps.refl NoB w).alloc _))
  exact ⟨es, c, c, c, #[], ((Keeps.refl NoB w).alloc _).heap hb (fun h => h), hk, hn, hbn, hbc, hbc, Nat.le_refl _, Nat.le_refl _, heap_alloc_same _ _, rfl, List.nodup_nil, fun i hi => by cases hi⟩
theorem keysAre_at : ∀ {es : List MapEntry} {l : List (α × Value)} (i : Nat) {e : MapEntry}, keysAre enc es l → es[i]? = some e → ∃ p, l[i]? = some p ∧ e.key = enc p.1 ∧ e.val = p.2
  | [], [], i, e, _, h => by simp at h
  | x :: es, p :: l, 0, e, hk, h => by
    simp at h
    subst h
    exact ⟨p, rfl, hk.1, hk.2.1⟩
  | x :: es, p :: l, i + 1, e, hk, h => keysAre_at i hk.2.2 (by simpa using h)
  | [], _ :: _, _, _, h, _ => h.elim
  | _ :: _, [], _, _, h, _ => h.elim
theorem run_nextM {r mb : Nat} {M : List (α × Value)} {idx : List Nat} (t : TypeId) (h : IterAt w enc r mb M idx) :
    (∃ w', (Instr.next (.pointer (some ⟨r, 0, none⟩)) false t).run P w = .ok (.tuple #[.bool false]) w' ∧ (∀ i, i < M.length → i ∈ idx) ∧ Keeps NoB w w') ∨
    (∃ w' i p, (Instr.next (.pointer (some ⟨r, 0, none⟩)) false t).run P w = .ok (.tuple #[.bool true, enc p.1, p.2]) w' ∧ i ∉ idx ∧ M[i]? = some p ∧ IterAt w' enc r mb M (idx ++ [i]) ∧ EntryAt w' enc r mb p ∧ Keeps (· = r) w w') := by
  obtain ⟨es, c, since, last, seen, hb, hk, hn, hbn, hbc, hbs, hsl, hsc, hr, hseen, hnd, hlt⟩ := h
  have hlen := keysAre_length hk
  have hrm : r ≠ mb := by rintro rfl; rw [hb] at hr; cases hr
  have hget1 : (getObj r).run P w = .ok (.mapIter (some mb) since seen last) w := by simp [getObj, Sem.run, hr]
  have hget2 : (getObj mb).run P w = .ok (.map es c) w := by simp [getObj, Sem.run, hb]
  have htest := next_test_false seen es since last hbs hsl
  generalize hL : es.filter (fun e => !seen.contains e.born) = L
  have hmemL : ∀ x, x ∈ L.toList → x ∈ es.toList ∧ x.born ∉ seen.toList := fun x hx => by
    rw [← hL] at hx
    simp at hx ⊢
    exact hx
  have e1 : L.filter (fun x => decide (x.born < since)) = L := Array.filter_eq_self.2 (fun x hx => by simpa using hbs x (hmemL x (by simpa using hx)).1)
  have e2 : L.filter (fun x => decide (x.born ≥ since)) = #[] := by
    rw [Array.filter_eq_empty_iff]
    intro x hx
    have := hbs x (hmemL x (by simpa using hx)).1
    simp; omega
  by_cases h0 : L.size = 0
  · left
    have hLe : L = #[] := Array.eq_empty_of_size_eq_zero h0
    refine ⟨w, ?_, fun i hi => ?_, Keeps.refl _ _⟩
    · simp only [Instr.next, Sem.run_bind, hget1, hget2, Result.andThen_ok, htest, Bool.false_eq_true, if_false, hL, e1, e2]
      rw [hLe]
      simp [choose, Sem.run, Question.forced]
    · obtain ⟨e, he⟩ : ∃ e, es.toList[i]? = some e := ⟨es.toList[i]'(by omega), by simp [show i < es.size by simpa using (by omega : i < es.toList.length)]⟩
      have hem := List.mem_of_getElem? he
      have hin : e.born ∈ seen.toList := by
        rcases Decidable.em (e.born ∈ seen.toList) with h | h
        · exact h
        · exfalso
          have : e ∈ L.toList := by rw [← hL]; simp at hem h ⊢; exact ⟨hem, h⟩
          rw [hLe] at this
          simp at this
      rw [hseen] at hin
      obtain ⟨j, hj, hje⟩ := List.mem_map.1 hin
      have hjl : j < (es.toList.map (·.born)).length := by rw [List.length_map, hlen]; exact hlt j hj
      have hil : i < (es.toList.map (·.born)).length := by rw [List.length_map, hlen]; exact hi
      have hij : (es.toList.map (·.born))[j]? = (es.toList.map (·.born))[i]? := by
        rw [List.getD_eq_getElem?_getD] at hje
        rw [List.getElem?_eq_getElem hjl] at hje ⊢
        rw [List.getElem?_map, he]
        simp at hje
        simp [hje]
      have := (List.getElem?_inj hjl hbn).1 hij
      rw [← this]; exact hj
  · right
    have hne : L.isEmpty = false := by simp [Array.isEmpty, h0]
    have hch : ∃ (j : Nat) (w1 : World), j < L.size ∧ w1.heap = w.heap ∧ Keeps NoB w w1 ∧ (choose (Question.mapNext L.size)).run P w = .ok j w1 := by
      by_cases hf : L.size ≤ 1
      · exact ⟨0, w, by omega, rfl, Keeps.refl _ _, by simp [choose, Sem.run, Question.forced, hf]⟩
      · exact ⟨_, w.drew, Nat.mod_lt _ (by omega), rfl, (Keeps.refl NoB w).drew, by
          simp only [choose, Sem.run, Question.forced, decide_eq_true_eq, hf, if_false, Question.cut]
          rfl⟩
    obtain ⟨j, w1, hj, hw1, hk1, hcr⟩ := hch
    have hm := hmemL L[j] (by simp)
    obtain ⟨i, hi⟩ := List.getElem?_of_mem hm.1
    obtain ⟨p, hp, hpk, hpv⟩ := keysAre_at i hk hi
    have hiM := (List.getElem?_eq_some_iff.1 hp).1
    have hr1 : w1.heap[r]? = some (.mapIter (some mb) since seen last) := by rw [hw1]; exact hr
    have hset : (setObj r (.mapIter (some mb) since (seen.push L[j].born) c)).run P w1 = .ok () (w1.putObj r (.mapIter (some mb) since (seen.push L[j].born) c)) := by simp [setObj, Sem.run, hr1, World.putObj]
    have hb2 : (w1.putObj r (.mapIter (some mb) since (seen.push L[j].born) c)).heap[mb]? = some (.map es c) := by rw [heap_put_ne w1 _ (Ne.symm hrm), hw1]; exact hb
    have hr2 : (w1.putObj r (.mapIter (some mb) since (seen.push L[j].born) c)).heap[r]? = some (.mapIter (some mb) since (seen.push L[j].born) c) := heap_put_same hr1
    have hborn : (es.toList.map (·.born)).getD i 0 = L[j].born := by
      rw [List.getD_eq_getElem?_getD, List.getElem?_map, hi]; rfl
    have hni : i ∉ idx := by
      intro hin
      apply hm.2
      rw [hseen, ← hborn]
      exact List.mem_map.2 ⟨i, hin, rfl⟩
    refine ⟨_, i, p, ?_, hni, hp, ⟨es, c, since, c, seen.push L[j].born, hb2, hk, hn, hbn, hbc, hbs, hsc, hsc, hr2, ?_, ?_, ?_⟩, ⟨es, c, since, seen.push L[j].born, L[j], hb2, hr2, by simp, hm.1, hbn, hpk, hpv⟩, (hk1.upD).put _ (fun _ => rfl)⟩
    · have hcj : ((L.map some)[j]? : Option (Option MapEntry)) = some (some L[j]) := by simp [hj]
      simp only [Instr.next, Sem.run_bind, hget1, hget2, Result.andThen_ok, htest, Bool.false_eq_true, if_false, hL, e1, e2, hne, Array.empty_append, Array.append_empty, Array.size_map, hcr, hcj, hset, Sem.run_pure]
      rw [hpk, hpv]
    · rw [Array.toList_push, hseen, List.map_append, List.map_singleton, hborn]
    · rw [List.nodup_append]
      refine ⟨hnd, by simp, ?_⟩
      intro x hx y hy e
      simp at hy
      subst hy
      subst e
      exact hni hx
    · intro q hq
      rcases List.mem_append.1 hq with h | h
      · exact hlt q h
      · simp at h; subst h; exact hiM
theorem wr_nextM {x : Operand} {r mb : Nat} {M : List (α × Value)} {idx : List Nat} (hw : wantedE ops f ⟨d, .next x false, ty, pos, af, g⟩ = true) (hx : ev f x = .pointer (some ⟨r, 0, none⟩)) (h : IterAt w enc r mb M idx)
    (k1 : ∀ w', (∀ i, i < M.length → i ∈ idx) → Keeps NoB w w' → Wr P ops Q ds rest (setO f d (.tuple #[.bool false])) w')
    (k2 : ∀ w' i p, i ∉ idx → M[i]? = some p → IterAt w' enc r mb M (idx ++ [i]) → EntryAt w' enc r mb p → Keeps (· = r) w w' → Wr P ops Q ds rest (setO f d (.tuple #[.bool true, enc p.1, p.2])) w') : Wr P ops Q ds (⟨d, .next x false, ty, pos, af, g⟩ :: rest) f w := by
  rcases run_nextM (P := P) ty h with ⟨w', hr, h1, h2⟩ | ⟨w', i, p, hr, h1, h2, h3, h4, h5⟩
  · exact wr_v (s := Instr.next (ev f x) false ty) hw rfl (by rw [hx]; exact hr) (k1 w' h1 h2)
  · exact wr_v (s := Instr.next (ev f x) false ty) hw rfl (by rw [hx]; exact hr) (k2 w' i p h1 h2 h3 h4 h5)
theorem wr_entryM {x : Operand} {r mb : Nat} {p : α × Value} (hw : wantedE ops f ⟨d, .entry x, ty, pos, af, g⟩ = true) (hx : ev f x = .pointer (some ⟨r, 0, none⟩)) (h : EntryAt w enc r mb p)
    (kk : Wr P ops Q ds rest (setO f d (.tuple #[enc p.1, p.2])) w) : Wr P ops Q ds (⟨d, .entry x, ty, pos, af, g⟩ :: rest) f w := by
  obtain ⟨es, c, since, seen, e, hb, hr, hs, he, hn, hk, hv⟩ := h
  refine wr_v (s := Instr.entry (ev f x)) (v := .tuple #[enc p.1, p.2]) hw rfl ?_ kk
  have hget1 : (getObj r).run P w = .ok (.mapIter (some mb) since seen c) w := by simp [getObj, Sem.run, hr]
  have hget2 : (getObj mb).run P w = .ok (.map es c) w := by simp [getObj, Sem.run, hb]
  have hf := find_born e es.toList hn he
  have hf2 : es.find? (·.born == e.born) = some e := by simpa using hf
  rw [hx]
  simp only [Instr.entry, Sem.run_bind, hget1, hget2, hs, Result.andThen_ok, bne_self_eq_false, Bool.false_eq_true, if_false, hf2, hk, hv, Sem.run_pure]
end
end Go.V
