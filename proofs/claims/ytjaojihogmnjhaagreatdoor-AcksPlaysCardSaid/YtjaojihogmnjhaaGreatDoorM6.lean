/- The calculus, fourteenth text: a region that draws its order, whose operations lay new blocks: each result may hang on what those before it left, not on the order of the others. -/
import Derived.Test.YtjaojihogmnjhaaGreatDoorM5
import Derived.Laws.Pointers
import Derived.Lib.Builder
import Derived.Lib.AppendStr
import Derived.Lib.UnsafeStr
namespace Go.V
open Go.RowKit
set_option linter.unusedVariables false
set_option linter.unusedSimpArgs false

abbrev Prm := Nat → Value
abbrev Fact := Prm → World → Prop
def upd (x : Prm) (i : Nat) (y : Value) : Prm := fun j => match Nat.beq j i with
  | true => y
  | false => x j
def updF (fa : Nat → Fact) (i : Nat) (A : Value → World → Prop) : Nat → Fact := fun j => match Nat.beq j i with
  | true => fun x w => A (x i) w
  | false => fa j
theorem upd_same (x : Prm) (i : Nat) (y : Value) : upd x i y i = y := by simp [upd]
theorem nbeq_ne {j i : Nat} (h : j ≠ i) : Nat.beq j i = false := by
  cases hb : Nat.beq j i with
  | false => rfl
  | true => exact absurd (Nat.eq_of_beq_eq_true hb) h
theorem upd_ne (x : Prm) {i j : Nat} (y : Value) (h : j ≠ i) : upd x i y j = x j := by simp [upd, nbeq_ne h]
theorem updF_same (fa : Nat → Fact) (i : Nat) (A : Value → World → Prop) : updF fa i A i = fun x w => A (x i) w := by simp [updF]
theorem updF_ne (fa : Nat → Fact) {i j : Nat} (A : Value → World → Prop) (h : j ≠ i) : updF fa i A j = fa j := by simp [updF, nbeq_ne h]

/-- A number, reckoned before it is handed on. -/
def frc {α : Type} (n : Nat) (k : Nat → α) : α := match n with
  | 0 => k 0
  | m + 1 => k (m + 1)
theorem frc_eq {α : Type} (n : Nat) (k : Nat → α) : frc n k = k n := by cases n <;> rfl
/-- Those that surely stand before an operation, as bits: a row of 128 bits an operation. -/
def row (B i : Nat) : Nat := (B >>> (i * 128)) % 2 ^ 128
def edgeMask (B : Nat) (es : List Edge) : Nat := es.foldl (fun m e => bif Region.binds .any e then m ||| row B e.on ||| (1 <<< e.on) else m) 0
def masksGo : List Oper → Nat → Nat → Nat
  | [], _, B => B
  | o :: l, i, B => frc (B ||| (edgeMask B o.after.toList <<< (i * 128))) fun B => masksGo l (i + 1) B
def masks (l : List Oper) : Nat := masksGo l 0 0
def masksOk (ops : Array Oper) (B : Nat) : Bool := frc B fun B => (List.range ops.size).all fun i => match ops[i]? with
  | none => true
  | some o => Nat.beq (row B i) (edgeMask B o.after.toList)
def bef (B i j : Nat) : Bool := (row B i).testBit j
def tailOk (n m : Nat) (B : Nat) : Bool := frc B fun B => (List.range n).all fun k => Nat.blt k m || Nat.beq (row B k % 2 ^ k) (2 ^ k - 1)
theorem edgeMask_aux (B : Nat) (j : Nat) : ∀ (es : List Edge) (m : Nat), (es.foldl (fun m e => bif Region.binds .any e then m ||| row B e.on ||| (1 <<< e.on) else m) m).testBit j = true → m.testBit j = true ∨ ∃ e ∈ es, Region.binds .any e = true ∧ (e.on = j ∨ (row B e.on).testBit j = true)
  | [], m, h => .inl h
  | e :: es, m, h => by
    rw [List.foldl_cons] at h
    rcases edgeMask_aux B j es _ h with h1 | ⟨e', h1, h2⟩
    · cases hb : Region.binds .any e with
      | false => rw [hb] at h1; exact .inl h1
      | true =>
        rw [hb] at h1
        simp only [cond_true, Nat.testBit_or, Bool.or_eq_true] at h1
        rcases h1 with (h1 | h1) | h1
        · exact .inl h1
        · exact .inr ⟨e, by simp, hb, .inr h1⟩
        · refine .inr ⟨e, by simp, hb, .inl ?_⟩
          rw [Nat.shiftLeft_eq, Nat.one_mul, Nat.testBit_two_pow] at h1
          simpa using h1
    · exact .inr ⟨e', by simp [h1], h2⟩
theorem bef_spec {ops : Array Oper} {B : Nat} (hB : masksOk ops B = true) {i j : Nat} {o : Oper} (ho : ops[i]? = some o) (h : bef B i j = true) : ∃ e ∈ o.after.toList, Region.binds .any e = true ∧ (e.on = j ∨ bef B e.on j = true) := by
  unfold masksOk at hB
  rw [frc_eq] at hB
  have := List.all_eq_true.1 hB i (List.mem_range.2 (Array.getElem?_eq_some_iff.1 ho).1)
  rw [ho] at this
  have he := Nat.eq_of_beq_eq_true this
  unfold bef at h
  rw [he] at h
  rcases edgeMask_aux B j _ 0 h with h1 | h1
  · simp at h1
  · exact h1
theorem bef_in {ops : Array Oper} {B : Nat} (hB : masksOk ops B = true) (hops : ROk ops) {listed : Nat → Bool} (hcl : ∀ j p, listed j = true → ops[j]? = some p → ∀ e ∈ p.after.toList, Region.binds .any e = true → listed e.on = true) :
    ∀ (i : Nat) (o : Oper) (j : Nat), ops[i]? = some o → (∀ e ∈ o.after.toList, Region.binds .any e = true → listed e.on = true) → bef B i j = true → listed j = true ∧ j < i := by
  intro i
  induction i using Nat.strongRecOn with
  | _ i ih =>
    intro o j ho hr hb
    obtain ⟨e, he, hbd, h⟩ := bef_spec hB ho hb
    have hlt := hops.low i o ho e he hbd
    rcases h with rfl | h
    · exact ⟨hr e he hbd, hlt⟩
    · obtain ⟨p, hp⟩ : ∃ p, ops[e.on]? = some p := ⟨ops[e.on]'(by have := (Array.getElem?_eq_some_iff.1 ho).1; omega), by have := (Array.getElem?_eq_some_iff.1 ho).1; simp [show e.on < ops.size by omega]⟩
      obtain ⟨h1, h2⟩ := ih e.on hlt p j hp (fun e' he' hb' => hcl _ p (hr e he hbd) hp e' he' hb') h
      exact ⟨h1, by omega⟩
theorem bef_lt {ops : Array Oper} {B : Nat} (hB : masksOk ops B = true) (hops : ROk ops) {i j : Nat} {o : Oper} (ho : ops[i]? = some o) (h : bef B i j = true) : j < i :=
  (bef_in hB hops (listed := fun _ => true) (fun _ _ _ _ _ _ _ => rfl) i o j ho (fun _ _ _ => rfl) h).2
theorem tail_bef {n m k j : Nat} {B : Nat} (h : tailOk n m B = true) (hk : k < n) (hm : m ≤ k) (hj : j < k) : bef B k j = true := by
  unfold tailOk at h
  rw [frc_eq] at h
  have := List.all_eq_true.1 h k (List.mem_range.2 hk)
  simp only [Bool.or_eq_true, Nat.blt_eq] at this
  rcases this with h1 | h1
  · omega
  · have h2 := Nat.eq_of_beq_eq_true h1
    have h3 : (row B k % 2 ^ k).testBit j = true := by rw [h2, Nat.testBit_two_pow_sub_one]; simpa using hj
    rw [Nat.testBit_mod_two_pow] at h3
    simp only [Bool.and_eq_true] at h3
    exact h3.2

/-- What an operation may write: one of them (sx) may write D; all others lay new blocks at most. -/
def effD (D : Nat → Prop) (sx : Option Nat) (i : Nat) : Nat → Prop := match sx with
  | none => NoB
  | some k => bif Nat.beq i k then D else NoB
def monD (D : Nat → Prop) (sx : Option Nat) (i : Nat) : Nat → Prop := match sx with
  | none => D
  | some k => bif Nat.beq i k then NoB else D
theorem Keeps.upD {D : Nat → Prop} {a b : World} (h : Keeps NoB a b) : Keeps D a b := h.mono fun _ _ h => h.elim
theorem Keeps.effD {D : Nat → Prop} {sx : Option Nat} {i : Nat} {a b : World} (h : Keeps (effD D sx i) a b) : Keeps D a b := by
  unfold V.effD at h
  cases sx with
  | none => exact h.upD
  | some k =>
    simp only at h
    cases hb : Nat.beq i k with
    | true => rw [hb] at h; exact h
    | false => rw [hb] at h; exact h.upD
theorem Keeps.monD {D : Nat → Prop} {sx : Option Nat} {i j : Nat} (hij : j ≠ i) {a b : World} (h : Keeps (V.effD D sx i) a b) : Keeps (V.monD D sx j) a b := by
  unfold V.effD at h
  unfold V.monD
  cases sx with
  | none => exact h.upD
  | some k =>
    simp only at h ⊢
    cases hb : Nat.beq i k with
    | true =>
      have := Nat.eq_of_beq_eq_true hb
      subst this
      rw [hb] at h
      rw [nbeq_ne hij]; exact h
    | false =>
      rw [hb] at h
      cases hb' : Nat.beq j k with
      | true => exact h
      | false => exact h.upD
section
variable {P : Program} {ops : Array Oper}
/-- The operations in the text's order; each leaves v of what those before it left; A tells of what it left itself. -/
def ChP (D : Nat → Prop) (sx : Option Nat) (P : Program) (ops : Array Oper) (B : Nat) (w0 : World) (K : (Prm → Env) → (Nat → Fact) → Prop) : List Oper → Nat → (Prm → Env) → (Nat → Fact) → Prop
  | [], _, f, fa => K f fa
  | o :: rest, i, f, fa => ∃ (v : Prm → Value) (A : Value → World → Prop), (∀ x y : Prm, (∀ j, bef B i j = true ∨ j = i → x j = y j) → v x = v y) ∧ (∀ y w w', A y w → Keeps (monD D sx i) w w' → A y w') ∧
      (∀ (x : Prm) w, Keeps (monD D sx i) w0 w → (∀ j, bef B i j = true → fa j x w) → Wr P ops (fun _ _ f' w' => ∃ y, f' = setO (f x) o.dst (v (upd x i y)) ∧ A y w' ∧ Keeps (effD D sx i) w w') [] [o] (f x) w) ∧
      ChP D sx P ops B w0 K rest (i + 1) (fun x => setO (f x) o.dst (v x)) (updF fa i A)
variable {D : Nat → Prop} {sx : Option Nat} {B : Nat} {w0 : World} {K : (Prm → Env) → (Nat → Fact) → Prop}
theorem chP_nil {i : Nat} {f : Prm → Env} {fa : Nat → Fact} (h : K f fa) : ChP D sx P ops B w0 K [] i f fa := h
/-- One whose result does not hang on the world. -/
theorem chP_pure {o : Oper} {rest : List Oper} {i : Nat} {f : Prm → Env} {fa : Nat → Fact} {v : Prm → Value} (h : ∀ (x : Prm) w, Keeps (monD D sx i) w0 w → (∀ j, bef B i j = true → fa j x w) → Wr P ops (fun _ _ f' w' => f' = setO (f x) o.dst (v x) ∧ Keeps (effD D sx i) w w') [] [o] (f x) w)
    (hl : ∀ x y : Prm, (∀ j, bef B i j = true → x j = y j) → v x = v y) (hni : bef B i i = false)
    (hr : ChP D sx P ops B w0 K rest (i + 1) (fun x => setO (f x) o.dst (v x)) (updF fa i fun _ _ => True)) : ChP D sx P ops B w0 K (o :: rest) i f fa := by
  refine ⟨v, fun _ _ => True, fun x y hxy => hl x y fun j hj => hxy j (.inl hj), fun _ _ _ h _ => h, fun x w hk hf => ?_, hr⟩
  have h1 := h x w hk hf
  have hv : v (upd x i undef) = v x := hl _ _ fun j hj => upd_ne _ _ (by rintro rfl; rw [hni] at hj; cases hj)
  simp only [Wr] at h1 ⊢
  cases hw : wantedE ops (f x) o with
  | false =>
    rw [hw] at h1
    exact ⟨undef, by rw [hv]; exact h1.1, True.intro, h1.2⟩
  | true =>
    rw [hw] at h1
    exact upE_mono (fun u w' hu => ⟨undef, by rw [hv]; exact hu.1, True.intro, hu.2⟩) h1
/-- One that tells A of what it left. -/
theorem chP_fact {o : Oper} {rest : List Oper} {i : Nat} {f : Prm → Env} {fa : Nat → Fact} (F : Value → Value) (A : Value → World → Prop) (hA : ∀ y w w', A y w → Keeps (monD D sx i) w w' → A y w')
    (h : ∀ (x : Prm) w, Keeps (monD D sx i) w0 w → (∀ j, bef B i j = true → fa j x w) → Wr P ops (fun _ _ f' w' => ∃ y, f' = setO (f x) o.dst (F y) ∧ A y w' ∧ Keeps (effD D sx i) w w') [] [o] (f x) w)
    (hr : ChP D sx P ops B w0 K rest (i + 1) (fun x => setO (f x) o.dst (F (x i))) (updF fa i A)) : ChP D sx P ops B w0 K (o :: rest) i f fa :=
  ⟨fun x => F (x i), A, fun x y hxy => congrArg F (hxy i (.inr rfl)), hA, fun x w hk hf => by simpa only [upd_same] using h x w hk hf, hr⟩

/-- What the text's order shows of each operation. -/
theorem ChP.all (hops : ROk ops) (hB : masksOk ops B = true) {f : Env} {m : Nat} : ∀ (l : List Oper) (k : Nat) (g : Prm → Env) (fa : Nat → Fact), (∀ i, i < l.length → l[i]? = ops[k + i]?) → k + l.length = m →
    (∀ G : Prm → Env, (∀ x s, (∀ j p, k ≤ j → j < m → ops[j]? = some p → p.dst ≠ some s) → G x s = g x s) → ∀ x, mix ops f (G x) (fun j => Nat.blt j k) = g x) → ChP D sx P ops B w0 K l k g fa →
    ∃ (G : Prm → Env) (FA : Nat → Fact), K G FA ∧ (∀ x s, (∀ j p, k ≤ j → j < m → ops[j]? = some p → p.dst ≠ some s) → G x s = g x s) ∧ (∀ j, j < k → FA j = fa j) ∧ (∀ x, mix ops f (G x) (fun j => Nat.blt j m) = G x) ∧
      ∀ i o, k ≤ i → i < m → ops[i]? = some o → ∃ (v : Prm → Value) (A : Value → World → Prop), (∀ x y : Prm, (∀ j, bef B i j = true ∨ j = i → x j = y j) → v x = v y) ∧ (∀ y w w', A y w → Keeps (monD D sx i) w w' → A y w') ∧ (FA i = fun x w => A (x i) w) ∧ (∀ x d, o.dst = some d → G x d = v x) ∧
        ∀ (x : Prm) w, Keeps (monD D sx i) w0 w → (∀ j, bef B i j = true → FA j x w) → Wr P ops (fun _ _ f' w' => ∃ y, f' = setO (mix ops f (G x) (fun j => Nat.blt j i)) o.dst (v (upd x i y)) ∧ A y w' ∧ Keeps (effD D sx i) w w') [] [o] (mix ops f (G x) (fun j => Nat.blt j i)) w
  | [], k, g, fa, hl, hk, hmix, hch => by
    simp only [List.length_nil, Nat.add_zero] at hk
    exact ⟨g, fa, hch, fun _ _ _ => rfl, fun _ _ => rfl, by rw [← hk]; exact hmix g fun _ _ _ => rfl, fun i o hi hi' ho => by omega⟩
  | o :: l, k, g, fa, hl, hk, hmix, hch => by
    obtain ⟨v, A, hloc, hmono, h1, h2⟩ := hch
    simp only [List.length_cons] at hk
    have ho : ops[k]? = some o := by have := hl 0 (by simp); simpa using this.symm
    have step : ∀ G : Prm → Env, (∀ x s, (∀ j p, k + 1 ≤ j → j < m → ops[j]? = some p → p.dst ≠ some s) → G x s = setO (g x) o.dst (v x) s) → (∀ x, mix ops f (G x) (fun j => Nat.blt j k) = g x) ∧ ∀ x d, o.dst = some d → G x d = v x := by
      intro G hG
      constructor
      · refine hmix G fun x s hs => ?_
        rw [hG x s fun j p hj hjm => hs j p (by omega) hjm]
        cases hd : o.dst with
        | none => rfl
        | some d => exact Env.set_ne _ _ (by rintro rfl; exact hs k o (Nat.le_refl _) (by omega) ho hd)
      · intro x d hd
        rw [hG x d fun j p hj hjm hp hpd => by have := hops.one k j o p d ho hp hpd hd; omega, hd]
        exact Env.set_same _ _ _
    have hsucc : (fun j => Nat.blt j k || Nat.beq j k) = fun j => Nat.blt j (k + 1) := by
      funext j
      apply Bool.eq_iff_iff.2
      simp only [Bool.or_eq_true, Nat.beq_eq, Nat.blt_eq]
      omega
    obtain ⟨G, FA, hK, hG, hFA, hGG, hall⟩ := ChP.all (f := f) (m := m) hops hB l (k + 1) (fun x => setO (g x) o.dst (v x)) (updF fa k A) (fun i hi => by have := hl (i + 1) (by simp; omega); simp only [List.getElem?_cons_succ] at this; rw [this]; congr 1; omega) (by omega) (fun G hG x => by
      obtain ⟨e1, e2⟩ := step G hG
      have := mix_step (f := f) (F := G x) (L := fun j => Nat.blt j k) ho (e2 x)
      rw [e1, hsucc] at this
      exact this.symm) h2
    obtain ⟨e1, e2⟩ := step G hG
    refine ⟨G, FA, hK, fun x s hs => ?_, fun j hj => ?_, hGG, fun i o' hi him ho' => ?_⟩
    · rw [hG x s fun j p hj hjm => hs j p (by omega) hjm]
      cases hd : o.dst with
      | none => rfl
      | some d => exact Env.set_ne _ _ (by rintro rfl; exact hs k o (Nat.le_refl _) (by omega) ho hd)
    · rw [hFA j (by omega), updF_ne _ _ (by omega)]
    · rcases Nat.eq_or_lt_of_le hi with rfl | hlt
      · rw [ho] at ho'; cases ho'
        refine ⟨v, A, hloc, hmono, by rw [hFA k (by omega), updF_same], e2, fun x w hk hf => ?_⟩
        rw [e1]
        refine h1 x w hk fun j hj => ?_
        have hjk := bef_lt hB hops ho hj
        have := hf j hj
        rwa [hFA j (by omega), updF_ne _ _ (by omega)] at this
      · exact hall i o' (by omega) him ho'

/-- Those behind, one by one, in the text's order. -/
theorem wr_tail {Q : Post} {ds : List Deferred} (hops : ROk ops) (hB : masksOk ops B = true) {m : Nat} (ht : tailOk ops.size m B = true) :
    ∀ (fuel t : Nat) (listed : Array Bool) (c : Nat) (f : Env) (w : World), listed.size = ops.size → (∀ j, j < ops.size → listed.getD j false = Nat.blt j c) → m ≤ c → c ≤ ops.size → ops.size - c ≤ fuel → Wr P ops Q ds (ops.toList.drop c) f w →
      Wr P ops Q ds ((Region.linearise.go .any ops fuel t listed []).filterMap (ops[·]?)) f w := by
  intro fuel
  induction fuel with
  | zero =>
    intro t listed c f w hsz hl hmc hc hf h
    rw [List.drop_of_length_le (by simp; omega)] at h
    exact h
  | succ fuel ih =>
    intro t listed c f w hsz hl hmc hc hf h
    simp only [Region.linearise.go]
    generalize hrs : ((List.range ops.size).filter fun i => !listed.getD i true && ((ops[i]?).map (·.after.all fun e => !Region.binds .any e || listed.getD e.on false)).getD false) = rs
    have hgd : ∀ i, i < ops.size → listed.getD i true = listed.getD i false := by
      intro i hi
      simp [Array.getD_eq_getD_getElem?, hsz, hi]
    have honly : ∀ i ∈ rs, i = c := by
      intro i hi
      rw [← hrs, List.mem_filter] at hi
      obtain ⟨hir, hib⟩ := hi
      have hisz := List.mem_range.1 hir
      obtain ⟨o, ho⟩ : ∃ o, ops[i]? = some o := ⟨ops[i], by simp [hisz]⟩
      rw [hgd i hisz, ho, hl i hisz] at hib
      simp only [Bool.and_eq_true, Bool.not_eq_true', Option.map_some, Option.getD_some] at hib
      obtain ⟨hun, hready⟩ := hib
      rw [← Array.all_toList] at hready
      have hge : c ≤ i := by
        rcases Nat.lt_or_ge i c with h | h
        · have : Nat.blt i c = true := by simpa using h
          rw [this] at hun; cases hun
        · exact h
      rcases Nat.eq_or_lt_of_le hge with h | hlt
      · exact h.symm
      · exfalso
        have hb := tail_bef ht hisz (by omega) hlt
        obtain ⟨e, he, hbd, hx⟩ := bef_spec hB ho hb
        have hce : c ≤ e.on := by
          rcases hx with hx | hx
          · omega
          · obtain ⟨p, hp⟩ : ∃ p, ops[e.on]? = some p := ⟨ops[e.on]'(by have := hops.low i o ho e he hbd; omega), by have := hops.low i o ho e he hbd; simp [show e.on < ops.size by omega]⟩
            have := bef_lt hB hops hp hx; omega
        have hlo := hops.low i o ho e he hbd
        have := List.all_eq_true.1 hready e he
        rw [hbd, hl e.on (by omega), nblt_false hce] at this
        simp at this
    rcases Nat.eq_or_lt_of_le hc with hcn | hcn
    · have hnil : rs = [] := by
        cases rs with
        | nil => rfl
        | cons i xs =>
          have h1 := honly i (by simp)
          have h2 : i ∈ i :: xs := by simp
          rw [← hrs] at h2
          have := List.mem_range.1 (List.mem_filter.1 h2).1
          omega
      rw [hnil]
      rw [List.drop_of_length_le (by simp; omega)] at h
      exact h
    · obtain ⟨o, ho⟩ : ∃ o, ops[c]? = some o := ⟨ops[c], by simp [hcn]⟩
      have hmem : c ∈ rs := by
        rw [← hrs, List.mem_filter]
        refine ⟨List.mem_range.2 hcn, ?_⟩
        rw [hgd c hcn, hl c hcn, ho, nblt_irrefl]
        simp only [Bool.not_false, Bool.true_and, Option.map_some, Option.getD_some]
        rw [← Array.all_toList]
        refine List.all_eq_true.2 fun e he => ?_
        cases hb : Region.binds .any e with
        | false => rfl
        | true =>
          have := hops.low c o ho e he hb
          rw [hl e.on (by omega)]; simpa using this
      have hlen : rs.length ≠ 0 := fun h => by rw [List.eq_nil_of_length_eq_zero h] at hmem; cases hmem
      cases hi : rs[t % rs.length]? with
      | none =>
        rw [List.getElem?_eq_none_iff] at hi
        have := Nat.mod_lt t (Nat.pos_of_ne_zero hlen)
        omega
      | some i =>
        have hic := honly i (List.mem_of_getElem? hi)
        subst hic
        dsimp only
        rw [linearise_go_acc, List.reverse_singleton, List.singleton_append, List.filterMap_cons, ho]
        have hcons : ops.toList.drop i = o :: ops.toList.drop (i + 1) := by
          have h2 : ops.toList[i]? = some o := by simpa using ho
          obtain ⟨hlt, he⟩ := List.getElem?_eq_some_iff.1 h2
          rw [List.drop_eq_getElem_cons hlt, he]
        rw [hcons] at h
        have hset : ∀ j, j < ops.size → (listed.setIfInBounds i true).getD j false = Nat.blt j (i + 1) := by
          intro j hj
          by_cases hji : j = i
          · subst hji; simp [Array.getD_eq_getD_getElem?, hsz, hj]
          · have h3 := hl j hj
            have h4 : (listed.setIfInBounds i true).getD j false = listed.getD j false := by simp [Array.getD_eq_getD_getElem?, Array.getElem?_setIfInBounds, Ne.symm hji]
            rw [h4, h3]
            apply Bool.eq_iff_iff.2
            simp only [Nat.blt_eq]; omega
        have next : ∀ f' w', Wr P ops Q ds (ops.toList.drop (i + 1)) f' w' → Wr P ops Q ds ((Region.linearise.go .any ops fuel (t / rs.length) (listed.setIfInBounds i true) []).filterMap (ops[·]?)) f' w' := fun f' w' h' =>
          ih _ _ (i + 1) f' w' (by simpa using hsz) hset (by omega) (by omega) (by omega) h'
        simp only [Wr] at h ⊢
        cases hw : wantedE ops f o with
        | false => rw [hw] at h; exact next _ _ h
        | true => rw [hw] at h; exact upE_mono (fun u w' hu => next _ _ hu) h

theorem wr_P {Q : Post} {ds : List Deferred} {f : Env} {G : Prm → Env} {FA : Nat → Fact} {m : Nat} (hops : ROk ops) (hB : masksOk ops B = true) (ht : tailOk ops.size m B = true) (hm : m ≤ ops.size)
    (hGG : ∀ x, mix ops f (G x) (fun j => Nat.blt j m) = G x)
    (hall : ∀ i o, i < m → ops[i]? = some o → ∃ (v : Prm → Value) (A : Value → World → Prop), (∀ x y : Prm, (∀ j, bef B i j = true ∨ j = i → x j = y j) → v x = v y) ∧ (∀ y w w', A y w → Keeps (monD D sx i) w w' → A y w') ∧ (FA i = fun x w => A (x i) w) ∧ (∀ x d, o.dst = some d → G x d = v x) ∧
        ∀ (x : Prm) w, Keeps (monD D sx i) w0 w → (∀ j, bef B i j = true → FA j x w) → Wr P ops (fun _ _ f' w' => ∃ y, f' = setO (mix ops f (G x) (fun j => Nat.blt j i)) o.dst (v (upd x i y)) ∧ A y w' ∧ Keeps (effD D sx i) w w') [] [o] (mix ops f (G x) (fun j => Nat.blt j i)) w)
    (hQ : ∀ x w', Keeps D w0 w' → (∀ j, j < m → FA j x w') → Wr P ops Q ds (ops.toList.drop m) (G x) w') :
    ∀ (fuel t : Nat) (listed : Array Bool) (x : Prm) (w : World), listed.size = ops.size → cnt (fun j => listed.getD j false) ops.size ≤ fuel →
      (∀ j p, listed.getD j false = true → ops[j]? = some p → ∀ e ∈ p.after.toList, Region.binds .any e = true → listed.getD e.on false = true) →
      (∀ j, m ≤ j → listed.getD j false = false) → Keeps D w0 w → (∀ k, sx = some k → listed.getD k false = false → Keeps NoB w0 w) → (∀ j, j < m → listed.getD j false = true → FA j x w) →
      Wr P ops Q ds ((Region.linearise.go .any ops fuel t listed []).filterMap (ops[·]?)) (mix ops f (G x) (fun j => listed.getD j false)) w := by
  have fin : ∀ (fuel t : Nat) (listed : Array Bool) (x : Prm) (w : World), listed.size = ops.size → cnt (fun j => listed.getD j false) ops.size ≤ fuel → (∀ j, m ≤ j → listed.getD j false = false) → (∀ j, j < m → listed.getD j false = true) → Keeps D w0 w → (∀ j, j < m → listed.getD j false = true → FA j x w) →
      Wr P ops Q ds ((Region.linearise.go .any ops fuel t listed []).filterMap (ops[·]?)) (mix ops f (G x) (fun j => listed.getD j false)) w := by
    intro fuel t listed x w hsz hcn hno hyes hk hf
    have hl : ∀ j, listed.getD j false = Nat.blt j m := by
      intro j
      rcases Nat.lt_or_ge j m with h | h
      · rw [hyes j h]; symm; rw [Nat.blt_eq]; exact h
      · rw [hno j h, nblt_false h]
    have e : mix ops f (G x) (fun j => listed.getD j false) = G x := by
      rw [← hGG x]
      conv => rhs; rw [← hGG x]
      rw [hGG x]
      congr 1
      funext j; exact hl j
    rw [e]
    refine wr_tail hops hB ht fuel t listed m _ w hsz (fun j _ => hl j) (Nat.le_refl _) hm ?_ (hQ x w hk fun j hj => hf j hj (hyes j hj))
    have : ∀ k, m ≤ k → k - m ≤ cnt (fun j => listed.getD j false) k := by
      intro k
      induction k with
      | zero => intro _; simp
      | succ k ih =>
        intro hmk
        rcases Nat.eq_or_lt_of_le hmk with h | h
        · rw [h]; simp
        · have := ih (by omega)
          simp only [cnt, hno k (by omega), cond_false]; omega
    have := this ops.size hm
    omega
  intro fuel
  induction fuel with
  | zero =>
    intro t listed x w hsz hc hcl hno hk hkn hf
    exact fin 0 t listed x w hsz hc hno (fun j hj => cnt_zero (L := fun j => listed.getD j false) ops.size (Nat.le_zero.1 hc) j (by omega)) hk hf
  | succ fuel ih =>
    intro t listed x w hsz hc hcl hno hk hkn hf
    by_cases hdone : ∀ j, j < m → listed.getD j false = true
    · exact fin (fuel + 1) t listed x w hsz hc hno hdone hk hf
    simp only [Region.linearise.go]
    generalize hrs : ((List.range ops.size).filter fun i => !listed.getD i true && ((ops[i]?).map (·.after.all fun e => !Region.binds .any e || listed.getD e.on false)).getD false) = rs
    have hgd : ∀ i, i < ops.size → listed.getD i true = listed.getD i false := by
      intro i hi
      simp [Array.getD_eq_getD_getElem?, hsz, hi]
    cases hi : rs[t % rs.length]? with
    | none =>
      exfalso
      have hnil : rs = [] := by
        cases rs with
        | nil => rfl
        | cons x xs =>
          have hlt : t % (x :: xs).length < (x :: xs).length := Nat.mod_lt _ (by simp)
          rw [List.getElem?_eq_none_iff] at hi
          omega
      refine hdone ?_
      have : ∀ k, k ≤ ops.size → ∀ i, i < k → listed.getD i false = true := by
        intro k
        induction k with
        | zero => intro _ i hi; omega
        | succ k ihk =>
          intro hk' i hik
          rcases Nat.lt_or_eq_of_le (Nat.le_of_lt_succ hik) with hlt | rfl
          · exact ihk (by omega) i hlt
          · cases hL : listed.getD i false with
            | true => rfl
            | false =>
              exfalso
              have hmem : i ∈ rs := by
                rw [← hrs, List.mem_filter]
                refine ⟨List.mem_range.2 (by omega), ?_⟩
                obtain ⟨o, ho⟩ : ∃ o, ops[i]? = some o := ⟨ops[i]'(by omega), by simp [show i < ops.size by omega]⟩
                rw [hgd i (by omega), hL, ho]
                simp only [Bool.not_false, Bool.true_and, Option.map_some, Option.getD_some]
                rw [← Array.all_toList]
                refine List.all_eq_true.2 fun e he => ?_
                cases hb : Region.binds .any e with
                | false => rfl
                | true =>
                  have := hops.low i o ho e he hb
                  rw [ihk (by omega) e.on this]; rfl
              rw [hnil] at hmem; cases hmem
      exact fun j hj => this ops.size (Nat.le_refl _) j (by omega)
    | some i =>
      have hmem : i ∈ rs := List.mem_of_getElem? hi
      rw [← hrs, List.mem_filter] at hmem
      obtain ⟨hir, hib⟩ := hmem
      have hisz : i < ops.size := List.mem_range.1 hir
      obtain ⟨o, ho⟩ : ∃ o, ops[i]? = some o := ⟨ops[i], by simp [hisz]⟩
      rw [hgd i hisz, ho] at hib
      simp only [Bool.and_eq_true, Bool.not_eq_true', Option.map_some, Option.getD_some] at hib
      obtain ⟨hun, hready⟩ := hib
      rw [← Array.all_toList] at hready
      have hedge : ∀ e ∈ o.after.toList, Region.binds .any e = true → listed.getD e.on false = true := by
        intro e he hb
        have := List.all_eq_true.1 hready e he
        simpa [hb] using this
      have hbi : ∀ j, bef B i j = true → listed.getD j false = true ∧ j < i := fun j hj => bef_in hB hops (listed := fun j => listed.getD j false) hcl i o j ho hedge hj
      have him : i < m := by
        rcases Nat.lt_or_ge i m with h | h
        · exact h
        · exfalso
          exact hdone fun j hj => (hbi j (tail_bef ht hisz h (by omega))).1
      dsimp only
      rw [linearise_go_acc, List.reverse_singleton, List.singleton_append, List.filterMap_cons, ho]
      obtain ⟨v, A, hloc, hmono, hFAi, hGv, hone⟩ := hall i o him ho
      have hsee : ∀ d, looks ops o d = true → mix ops f (G x) (fun j => listed.getD j false) d = mix ops f (G x) (fun j => Nat.blt j i) d := by
        intro d hd
        refine mix_congr fun j p hj hp => ?_
        rcases hops.see i j o p d ho hj hp hd with rfl | ⟨e, he, hb, rfl⟩ | ⟨e, he, hb, rfl⟩
        · rw [hun, nblt_irrefl]
        · have := hops.low i o ho e he hb
          rw [hedge e he hb]; simp [this]
        · have := hops.low j p hj e he hb
          cases hL : listed.getD j false with
          | false => exact (nblt_false (by omega)).symm
          | true =>
            have := hcl j p hL hj e he hb
            rw [hun] at this; cases this
      obtain ⟨c1, c2⟩ := looks_congr (o := o) hsee (hops.sel i o ho)
      have hmon : ∀ j, listed.getD j false = true → (listed.setIfInBounds i true).getD j false = true := by
        intro j hj
        by_cases hji : j = i
        · subst hji; simp [Array.getD_eq_getD_getElem?, hsz, hisz]
        · simpa [Array.getD_eq_getD_getElem?, Array.getElem?_setIfInBounds, Ne.symm hji] using hj
      have hself : (listed.setIfInBounds i true).getD i false = true := by simp [Array.getD_eq_getD_getElem?, hsz, hisz]
      have hother : ∀ j, j ≠ i → (listed.setIfInBounds i true).getD j false = listed.getD j false := fun j hji => by simp [Array.getD_eq_getD_getElem?, Array.getElem?_setIfInBounds, Ne.symm hji]
      -- what those that are done left does not hang on what this one leaves
      have hold : ∀ (y : Value) (j : Nat) (p : Oper), listed.getD j false = true → ops[j]? = some p → ∀ d, p.dst = some d → G (upd x i y) d = G x d := by
        intro y j p hL hj d hd
        have hji : j ≠ i := by rintro rfl; rw [hun] at hL; cases hL
        have hjm : j < m := by
          rcases Nat.lt_or_ge j m with h | h
          · exact h
          · rw [hno j h] at hL; cases hL
        obtain ⟨v', _, hloc', _, _, hGv', _⟩ := hall j p hjm hj
        rw [hGv' _ d hd, hGv' _ d hd]
        refine hloc' _ _ fun j' hj' => upd_ne _ _ ?_
        rintro rfl
        rcases hj' with hj' | hj'
        · have := (bef_in hB hops (listed := fun j => listed.getD j false) hcl j p j' hj (fun e he hb => hcl j p hL hj e he hb) hj').1
          rw [hun] at this; cases this
        · exact hji hj'.symm
      have hframe : ∀ y, setO (mix ops f (G x) (fun j => listed.getD j false)) o.dst (v (upd x i y)) = mix ops f (G (upd x i y)) (fun j => (listed.setIfInBounds i true).getD j false) := by
        intro y
        have e1 : mix ops f (G x) (fun j => listed.getD j false) = mix ops f (G (upd x i y)) (fun j => listed.getD j false) := by
          funext s
          unfold mix
          by_cases hc : ∃ j p, listed.getD j false = true ∧ ops[j]? = some p ∧ p.dst = some s
          · rw [if_pos hc, if_pos hc]
            obtain ⟨j, p, h1, h2, h3⟩ := hc
            exact (hold y j p h1 h2 s h3).symm
          · rw [if_neg hc, if_neg hc]
        rw [e1, mix_step ho (fun d hd => hGv (upd x i y) d hd)]
        funext s
        refine mix_congr fun j p _ _ => ?_
        by_cases hji : j = i
        · subst hji; rw [hself]; simp
        · rw [hother j hji, nbeq_ne hji, Bool.or_false]
      have next : ∀ y w', A y w' → Keeps (effD D sx i) w w' → Wr P ops Q ds ((Region.linearise.go .any ops fuel (t / rs.length) (listed.setIfInBounds i true) []).filterMap (ops[·]?)) (setO (mix ops f (G x) (fun j => listed.getD j false)) o.dst (v (upd x i y))) w' := by
        intro y w' hA hkw
        rw [hframe y]
        refine ih _ _ (upd x i y) w' (by simpa using hsz) ?_ ?_ ?_ (hk.trans hkw.effD) ?_ ?_
        · have := cnt_lt (L := fun j => listed.getD j false) (L' := fun j => (listed.setIfInBounds i true).getD j false) hmon hun hself ops.size hisz
          omega
        · intro j p hj hp e he hb
          by_cases hji : j = i
          · subst hji
            rw [ho] at hp; cases hp
            exact hmon _ (hedge e he hb)
          · rw [hother j hji] at hj
            exact hmon _ (hcl j p hj hp e he hb)
        · intro j hj
          rw [hother j (by omega)]; exact hno j hj
        · intro k hsx hk'
          have hki : k ≠ i := by rintro rfl; rw [hself] at hk'; cases hk'
          rw [hother k hki] at hk'
          refine (hkn k hsx hk').trans ?_
          subst hsx
          unfold V.effD at hkw
          simp only [nbeq_ne (Ne.symm hki)] at hkw
          exact hkw
        · intro j hjm hj
          by_cases hji : j = i
          · subst hji
            rw [hFAi]
            simp only [upd_same]; exact hA
          · rw [hother j hji] at hj
            have h0 := hf j hjm hj
            obtain ⟨p, hp⟩ : ∃ p, ops[j]? = some p := ⟨ops[j]'(by omega), by simp [show j < ops.size by omega]⟩
            obtain ⟨_, A', _, hmono', hFAj, _, _⟩ := hall j p hjm hp
            rw [hFAj] at h0 ⊢
            simp only [upd_ne _ _ hji]
            exact hmono' _ _ _ h0 (hkw.monD hji)
      have hkm : Keeps (V.monD D sx i) w0 w := by
        unfold V.monD
        cases hsx : sx with
        | none => exact hk
        | some k =>
          simp only
          cases hb : Nat.beq i k with
          | false => exact hk
          | true =>
            have := Nat.eq_of_beq_eq_true hb
            subst this
            exact hkn i hsx hun
      have h1 := hone x w hkm fun j hj => by
        obtain ⟨h1, h2⟩ := hbi j hj
        exact hf j (by omega) h1
      simp only [Wr] at h1 ⊢
      rw [c1, c2]
      cases hw : wantedE ops (mix ops f (G x) (fun j => Nat.blt j i)) o with
      | false =>
        rw [hw] at h1
        obtain ⟨y, h2, h3, h4⟩ := h1
        have hset : setO (mix ops f (G x) (fun j => listed.getD j false)) o.dst undef = setO (mix ops f (G x) (fun j => listed.getD j false)) o.dst (v (upd x i y)) := by
          cases hd : o.dst with
          | none => rfl
          | some d =>
            have := congrFun h2 d
            rw [hd] at this
            have e : undef = v (upd x i y) := by simpa [Env.set_same] using this
            rw [e]
        show Wr P ops Q ds _ (setO (mix ops f (G x) (fun j => listed.getD j false)) o.dst undef) w
        rw [hset]; exact next y w h3 h4
      | true =>
        rw [hw] at h1
        refine upE_mono ?_ h1
        rintro u w' ⟨y, hu, hA, hkw⟩
        have hset : setO (mix ops f (G x) (fun j => listed.getD j false)) o.dst u = setO (mix ops f (G x) (fun j => listed.getD j false)) o.dst (v (upd x i y)) := by
          cases hd : o.dst with
          | none => rfl
          | some d =>
            have := congrFun hu d
            rw [hd] at this
            have e : u = v (upd x i y) := by simpa [Env.set_same] using this
            rw [e]
        rw [hset]; exact next y w' hA hkw
/-- A region that draws its order: its first m operations lay new blocks at most, but for one, which may write D; the others wait for all of them, and one for another. -/
theorem wc_drawQ (D : Nat → Prop) (sx : Option Nat) {r : Option Nat} {n id : Nat} {Q : Post} {ds : List Deferred} {f : Env} {w : World} {l : List Oper} (m : Nat) (B : Nat) (hm : P.follows .mixedOrders = true) (hok : regionOk l.toArray = true) (hBB : B = masks l) (hB : masksOk l.toArray B = true) (ht : tailOk l.length m B = true) (hml : m ≤ l.length)
    (h : ChP D sx P l.toArray B w.drew (fun g fa => ∀ x w', Keeps D w.drew w' → (∀ j, j < m → fa j x w') → Wr P l.toArray Q ds (l.drop m) (g x) w') (l.take m) 0 (fun _ => f) (fun _ _ _ => True)) : Wc r P n (.region id l.toArray true) Q ds f w := by
  refine wc_draw fun t => ?_
  obtain ⟨G, FA, hK, _, _, hGG, hall⟩ := ChP.all (f := f) (m := m) (ROk.of hok) hB (l.take m) 0 (fun _ => f) (fun _ _ _ => True) (fun i hi => by rw [List.length_take] at hi; rw [List.getElem?_take_of_lt (by omega)]; simp) (by rw [List.length_take]; omega) (fun G hG x => by
    funext s
    unfold mix
    rw [if_neg]
    rintro ⟨j, p, h1, _⟩
    simp at h1) h
  simp only [Region.schedule, hm, Bool.true_or, if_true, Region.linearise]
  have := wr_P (Q := Q) (ds := ds) (ROk.of hok) hB (by simpa using ht) (by simpa using hml) hGG (fun i o him ho => hall i o (Nat.zero_le _) him ho) hK l.toArray.size t (Array.replicate l.toArray.size false) (fun _ => undef) w.drew (by simp) (cnt_max _ _) (by intro j p hj; simp [Array.getD_eq_getD_getElem?, Array.getElem?_replicate] at hj; split at hj <;> simp_all)
    (fun j _ => by simp only [Array.getD_eq_getD_getElem?, Array.getElem?_replicate]; split <;> rfl) (Keeps.refl _ _) (fun _ _ _ => Keeps.refl _ _) (fun j _ hj => by simp only [Array.getD_eq_getD_getElem?, Array.getElem?_replicate] at hj; split at hj <;> simp at hj)
  have he : mix l.toArray f (G fun _ => undef) (fun j => (Array.replicate l.toArray.size false).getD j false) = f := by
    funext s
    refine mix_no fun j p hj hp => ?_
    simp only [Array.getD_eq_getD_getElem?, Array.getElem?_replicate]
    split <;> rfl
  rw [he] at this
  exact this
theorem wc_drawP {r : Option Nat} {n id : Nat} {Q : Post} {ds : List Deferred} {f : Env} {w : World} {l : List Oper} (m : Nat) (B : Nat) (hm : P.follows .mixedOrders = true) (hok : regionOk l.toArray = true) (hBB : B = masks l) (hB : masksOk l.toArray B = true) (ht : tailOk l.length m B = true) (hml : m ≤ l.length)
    (h : ChP NoB none P l.toArray B w.drew (fun g fa => ∀ x w', Keeps NoB w.drew w' → (∀ j, j < m → fa j x w') → Wr P l.toArray Q ds (l.drop m) (g x) w') (l.take m) 0 (fun _ => f) (fun _ _ _ => True)) : Wc r P n (.region id l.toArray true) Q ds f w :=
  wc_drawQ NoB none m B hm hok hBB hB ht hml h
end
/-- A piece of code, cut at its end: what holds there. -/
theorem wc_cut {r : Option Nat} {P : Program} {n : Nat} {Q : Post} {ds : List Deferred} {f : Env} {w : World} {c : Code} {K : List Deferred → Env → World → Prop} (J : List Deferred → Env → World → Prop) (h1 : Wc r P n c (thenE J Q) ds f w) (h2 : ∀ ds f w, J ds f w → K ds f w) : Wc r P n c (thenE K Q) ds f w :=
  h1.mono fun e ds f w hq => by cases e <;> first | exact h2 _ _ _ hq | exact hq
end Go.V

namespace Go.V
open Go.RowKit Go.Lib
set_option linter.unusedVariables false
set_option linter.unusedSimpArgs false

section ops
variable {P : Program} {ops : Array Oper} {Q : Post} {ds : List Deferred} {f : Env} {w w' : World} {rest : List Oper}
variable {d : Option Nat} {ty : TypeId} {pos : String} {af : Array Edge} {g : Option (Nat × Bool)}
theorem wr_nilCheck {x : Operand} {a : Addr} (hw : wantedE ops f ⟨d, .nilCheck x, ty, pos, af, g⟩ = true) (hx : ev f x = .pointer (some a)) (kk : Wr P ops Q ds rest (setO f d (.pointer (some a))) w) :
    Wr P ops Q ds (⟨d, .nilCheck x, ty, pos, af, g⟩ :: rest) f w :=
  wr_val (v := .pointer (some a)) hw (by simp only [execOp, hx]; rfl) kk
theorem wr_nilCheckF {x : Operand} {fi : FuncId} {a b : Array Value} (hw : wantedE ops f ⟨d, .nilCheck x, ty, pos, af, g⟩ = true) (hx : ev f x = .func (.func fi) a b) (kk : Wr P ops Q ds rest (setO f d (.func (.func fi) a b)) w) :
    Wr P ops Q ds (⟨d, .nilCheck x, ty, pos, af, g⟩ :: rest) f w :=
  wr_val (v := .func (.func fi) a b) hw (by simp only [execOp, hx]; rfl) kk
theorem run_ptrNil {t e : TypeId} (U : Und P t (.pointer e)) (p : Option Addr) : (binOp .eql t (.pointer p) (.pointer none)).run P w = .ok (.bool p.isNone) w :=
  run_eql_pointer_nil w t p (by have := U.h; simp [Program.pointee, this])
theorem run_ptrNilNe {t e : TypeId} (U : Und P t (.pointer e)) (p : Option Addr) : (binOp .neq t (.pointer p) (.pointer none)).run P w = .ok (.bool (!p.isNone)) w :=
  run_neq_pointer_nil w t p (by have := U.h; simp [Program.pointee, this])
theorem wr_ptrNil {t t' e : TypeId} {x : Operand} {p : Option Addr} [U : Und P t (.pointer e)] (hw : wantedE ops f ⟨d, .binOp .eql t x (.const (.pointer none)) t', ty, pos, af, g⟩ = true) (hx : ev f x = .pointer p)
    (kk : Wr P ops Q ds rest (setO f d (.bool p.isNone)) w) : Wr P ops Q ds (⟨d, .binOp .eql t x (.const (.pointer none)) t', ty, pos, af, g⟩ :: rest) f w :=
  wr_bin hw hx rfl (by simp [eqGuard]) (run_ptrNil U p) kk
theorem wr_ptrNilNe {t t' e : TypeId} {x : Operand} {p : Option Addr} [U : Und P t (.pointer e)] (hw : wantedE ops f ⟨d, .binOp .neq t x (.const (.pointer none)) t', ty, pos, af, g⟩ = true) (hx : ev f x = .pointer p)
    (kk : Wr P ops Q ds rest (setO f d (.bool (!p.isNone))) w) : Wr P ops Q ds (⟨d, .binOp .neq t x (.const (.pointer none)) t', ty, pos, af, g⟩ :: rest) f w :=
  wr_bin hw hx rfl (by simp [eqGuard]) (run_ptrNilNe U p) kk
theorem wr_ptrNeSame {t t' e : TypeId} {z : Value} {s b : Nat} {x y : Operand} {a : Addr} [U : Und P t (.pointer e)] [I : Info P e z s b] (hw : wantedE ops f ⟨d, .binOp .neq t x y t', ty, pos, af, g⟩ = true) (hx : ev f x = .pointer (some a)) (hy : ev f y = .pointer (some a))
    (kk : Wr P ops Q ds rest (setO f d (.bool false)) w) : Wr P ops Q ds (⟨d, .binOp .neq t x y t', ty, pos, af, g⟩ :: rest) f w := by
  obtain ⟨i, hi, _⟩ := I.parts
  exact wr_bin hw hx hy (by simp [eqGuard]) (run_neq_ptr_same w a U.h hi) kk
theorem wr_convX {s t : TypeId} {x : Operand} {a v : Value} (hw : wantedE ops f ⟨d, .convert s t x, ty, pos, af, g⟩ = true) (hx : ev f x = a) (h : (convert s t a).run P w = .ok v w) (kk : Wr P ops Q ds rest (setO f d v) w) :
    Wr P ops Q ds (⟨d, .convert s t x, ty, pos, af, g⟩ :: rest) f w :=
  wr_v (s := convert s t (ev f x)) hw rfl (by rw [hx]; exact h) kk
theorem strCells_S (l : List UInt8) : strCells ⟨l.toArray⟩ = bytesV l := by simp [strCells, bytesV]
theorem wr_appendS {t u e : TypeId} {x y : Operand} {base n : Nat} {v : Value} {xs : List Value} {s : List UInt8} [U : Und P t (.slice e)] [V : Und P u .string] [I : Info P e (.int .u8 0) 1 1]
    (hw : wantedE ops f ⟨d, .call { callee := .builtin .append, args := #[x, y], argTypes := #[t, u] }, ty, pos, af, g⟩ = true) (hx : ev f x = v) (hown : w.ownsRow base e 1 v n xs) (hy : ev f y = S s)
    (hb : n + s.length ≤ 140737488355328) (hbase : base ≤ w.heap.size)
    (kk : ∀ v' w', w'.ownsRow base e 1 v' (n + s.length) (xs ++ bytesV s) → Keeps (fun k => v.ownBlock = some k) w w' → Wr P ops Q ds rest (setO f d v') w') :
    Wr P ops Q ds (⟨d, .call { callee := .builtin .append, args := #[x, y], argTypes := #[t, u] }, ty, pos, af, g⟩ :: rest) f w := by
  obtain ⟨i, hi, hz, hs, hby⟩ := I.parts
  obtain ⟨v', w', hr, ho, hg, hn⟩ := run_append_own_string (P := P) w base t u ty e i U.h V.h hi hz hs hby v n xs hown ⟨s.toArray⟩ (by rw [S_size]; unfold maxLen; omega) (by rw [S_size]; exact hb) hbase
  rw [S_size, strCells_S] at ho
  refine wr_val (v := v') (w' := w') hw ?_ (kk v' w' ho (Keeps.of_grownBy hg))
  simp only [execOp, resolve, invoke, builtin, Sem.run_bind, Sem.run_pure, Result.andThen_ok, List.map_toArray, List.map_cons, List.map_nil, hx, hy, hr]
theorem wr_lookupOkV {α : Type} [DecidableEq α] {enc : α → Value} {t K E : TypeId} {z : Value} {s b' : Nat} {x y : Operand} {b : Nat} {l : List (α × Value)} {a : α} {u : Value} {c : Bool} [U : Und P t (.map K E)] [I : Info P E z s b'] [M : MKey P K enc] (hw : wantedE ops f ⟨d, .lookup t x y true, ty, pos, af, g⟩ = true) (hx : ev f x = .map (some b)) (h : MapAt w enc b l) (hy : ev f y = enc a)
    (h1 : (getM l a).getD z = u) (h2 : (getM l a).isSome = c) (kk : Wr P ops Q ds rest (setO f d (.tuple #[u, .bool c])) w) : Wr P ops Q ds (⟨d, .lookup t x y true, ty, pos, af, g⟩ :: rest) f w := by
  subst h1 h2; exact wr_lookupOk hw hx h hy kk
theorem wr_lookupV {α : Type} [DecidableEq α] {enc : α → Value} {t K E : TypeId} {z : Value} {s b' : Nat} {x y : Operand} {b : Nat} {l : List (α × Value)} {a : α} {u : Value} [U : Und P t (.map K E)] [I : Info P E z s b'] [M : MKey P K enc] (hw : wantedE ops f ⟨d, .lookup t x y false, ty, pos, af, g⟩ = true) (hx : ev f x = .map (some b)) (h : MapAt w enc b l) (hy : ev f y = enc a)
    (h1 : (getM l a).getD z = u) (kk : Wr P ops Q ds rest (setO f d u) w) : Wr P ops Q ds (⟨d, .lookup t x y false, ty, pos, af, g⟩ :: rest) f w := by
  subst h1; exact wr_lookup hw hx h hy kk
/-- An append of the elements of a new block to a slice of the call's own: where the new row lies. -/
theorem wr_append2 {t e : TypeId} {z : Value} {size by' : Nat} {x y : Operand} {base n m c b : Nat} {v : Value} {xs news : List Value} {e' : TypeId} {fr : Nat × Nat} [U : Und P t (.slice e)] [I : Info P e z size by']
    (hw : wantedE ops f ⟨d, .call { callee := .builtin .append, args := #[x, y], argTypes := #[t, t] }, ty, pos, af, g⟩ = true) (hx : ev f x = v) (hown : w.ownsRow base e size v n xs) (hy : ev f y = .slice (some ⟨b, 0, none⟩) m c)
    (hb : w.heap[b]? = some (.cells news.toArray e' fr)) (hl : news.length = m * size) (h1 : ∀ u ∈ news, u.oneCell' = true) (hzs : z.cells.size = size) (hsz : 0 < size) (h63 : n + m ≤ 9223372036854775807) (hbytes : (n + m) * by' ≤ 140737488355328) (hbase : base ≤ w.heap.size)
    (kk : ∀ v' w', w'.ownsRow base e size v' (n + m) (xs ++ news) → Keeps (fun k => v.ownBlock = some k) w w' → (∀ k, v'.ownBlock = some k → v.ownBlock = some k ∨ w.heap.size ≤ k) → Wr P ops Q ds rest (setO f d v') w') :
    Wr P ops Q ds (⟨d, .call { callee := .builtin .append, args := #[x, y], argTypes := #[t, t] }, ty, pos, af, g⟩ :: rest) f w := by
  obtain ⟨i, hi, hz, hs, hby⟩ := I.parts
  have hnews : ∀ j u, news[j]? = some u → w.cell? ((⟨b, 0, none⟩ : Addr).add j) = some u := fun j u hj => by rw [addr_add]; exact cell_of_heap hb (by simpa using hj)
  obtain ⟨v', w', hr, ho, hg, hn⟩ := run_append_own (P := P) w base t ty e i z size by' U.h hi hz hs hby hzs hsz v n xs hown ⟨b, 0, none⟩ m c news hl hnews h1 (by unfold maxLen; exact h63) hbytes hbase
  have hblk : ∀ k, v'.ownBlock = some k → v.ownBlock = some k ∨ w.heap.size ≤ k := by
    intro k hk
    rcases hown.2 with ⟨rfl, rfl⟩ | ⟨g', cap, cur, rfl, hbg, hgg, hnc, hcm, hcs, htake⟩
    · have hown2 : w.ownsRow w.heap.size e size (.slice none 0 0) 0 xs := ⟨hown.1, .inl ⟨rfl, rfl⟩⟩
      obtain ⟨v2, w2, hr2, ho2, _, _⟩ := run_append_own (P := P) w w.heap.size t ty e i z size by' U.h hi hz hs hby hzs hsz _ 0 xs hown2 ⟨b, 0, none⟩ m c news hl hnews h1 (by unfold maxLen; exact h63) hbytes (Nat.le_refl _)
      rw [hr] at hr2
      cases hr2
      exact .inr (ho2.lt k hk).1
    · by_cases hroom : n + m ≤ cap
      · obtain ⟨w2, hr2, _, _⟩ := run_append_fits (P := P) w base t ty e i size U.h hi hs g' n cap xs hown ⟨b, 0, none⟩ m c news hl hnews h1 hroom
        rw [hr] at hr2
        cases hr2
        exact .inl hk
      · have holds : ∀ j u, xs[j]? = some u → w.cell? ((⟨g', 0, none⟩ : Addr).add j) = some u := hown.cells (g := g') rfl
        subst hs hby
        have hr2 := run_append_grow (P := P) w t ty e i z U.h hi hz ⟨g', 0, none⟩ n cap xs hown.1 holds ⟨b, 0, none⟩ m c news hl hnews (by omega) (by omega) (growslice_fits (by omega) hbytes)
        rw [hr] at hr2
        cases hr2
        simp [Value.ownBlock] at hk
        exact .inr (by omega)
  refine wr_val (v := v') (w' := w') hw ?_ (kk v' w' ho (Keeps.of_grownBy hg) hblk)
  simp only [execOp, resolve, invoke, builtin, Sem.run_bind, Sem.run_pure, Result.andThen_ok, List.map_toArray, List.map_cons, List.map_nil, hx, hy, hr]
end ops
theorem own_down {w : World} {base base' : Nat} {e : TypeId} {sz n : Nat} {v : Value} {xs : List Value} (h : w.ownsRow base e sz v n xs) (hb : base' ≤ base) : w.ownsRow base' e sz v n xs := by
  refine ⟨h.1, ?_⟩
  rcases h.2 with hn | ⟨g, cap, cur, h1, h2, h3⟩
  · exact .inl hn
  · exact .inr ⟨g, cap, cur, h1, by omega, h3⟩
theorem Keeps.of_belowB {B : Nat} {a w : World} (h : Below B a w) : Keeps (fun k => B ≤ k) a w := ⟨h.os, h.tape, h.output, h.size, fun k hk hd => h.block k (by omega)⟩
theorem byteCells_S (l : List UInt8) : byteCells l = bytesV l := by simp [byteCells, bytesV]
end Go.V

namespace Go.V
open Go.RowKit
set_option linter.unusedVariables false
set_option linter.unusedSimpArgs false

section
variable {P : Program} {w : World}
theorem equalIn_if_same {t t1 : TypeId} {v1 v2 : Value} {ms : Array (String × TypeId)} {r : Bool} (n : Nat) (U : P.underlying t = some (.interface ms)) (hc : (P.info? t1).map (·.comparable) = some true)
    (h : (Op.equalIn n t1 v1 v2).run P w = .ok r w) : (Op.equalIn (n + 1) t (.iface t1 v1) (.iface t1 v2)).run P w = .ok r w := by
  obtain ⟨i, hi, hc'⟩ := Option.map_eq_some_iff.1 hc
  unfold Op.equalIn
  simp only [underlying, typeInfo, Sem.run_bind, run_program, Result.andThen_ok, U, Sem.run_pure, ne_eq, not_true_eq_false, if_false, hi, hc', Bool.not_true, Bool.false_eq_true, h]
theorem run_eqElems {elem n : Nat} {xs ys : Array Value} {rs : Nat → Bool} : ∀ (l : List Nat), (∀ i ∈ l, ∃ a b, (part elem xs (i * 1)).run P w = .ok a w ∧ (part elem ys (i * 1)).run P w = .ok b w ∧ (Op.equalIn n elem a b).run P w = .ok (rs i) w) →
    ((forIn l (none, ()) fun i (__s : Option Bool × Unit) => (do
        let a ← part elem xs (i * 1)
        let b ← part elem ys (i * 1)
        let r ← Op.equalIn n elem a b
        if (!r) = true then pure (ForInStep.done (some false, ())) else pure (ForInStep.yield (none, ())) : Sem (ForInStep (Option Bool × Unit)))) : Sem (Option Bool × Unit)).run P w = .ok (if l.all rs then (none, ()) else (some false, ())) w
  | [], _ => by simp
  | i :: l, h => by
    obtain ⟨a, b, h1, h2, h3⟩ := h i (by simp)
    simp only [List.forIn_cons, Sem.run_bind, h1, h2, h3, Result.andThen_ok, List.all_cons]
    have ih := run_eqElems l (fun i hi => h i (by simp [hi]))
    by_cases hr : rs i = true
    · simp only [hr, Bool.not_true, Bool.false_eq_true, if_false, Sem.run_pure, Result.andThen_ok, ih, Bool.true_and]
    · simp only [Bool.not_eq_true] at hr
      simp [hr]
/-- Two arrays whose elements have a cell each. -/
theorem run_arrEq {t elem : TypeId} {len n by' : Nat} {z : Value} {xs ys : Array Value} {rs : Nat → Bool} (U : P.underlying t = some (.array len elem)) (I : Info P elem z 1 by')
    (h : ∀ i, i < len → ∃ a b, (part elem xs i).run P w = .ok a w ∧ (part elem ys i).run P w = .ok b w ∧ (Op.equalIn n elem a b).run P w = .ok (rs i) w) :
    (Op.equalIn (n + 1) t (.agg xs) (.agg ys)).run P w = .ok ((List.range len).all rs) w := by
  unfold Op.equalIn
  simp only [underlying, Sem.run_bind, run_program, Result.andThen_ok, U, Sem.run_pure, run_sizeOf' I]
  have hf := run_eqElems (P := P) (w := w) (n := n) (elem := elem) (xs := xs) (ys := ys) (rs := rs) (List.range' 0 len) (fun i hi => by
    rw [Nat.mul_one]; exact h i (by simpa using hi))
  rw [Std.Legacy.Range.forIn_eq_forIn_range']
  simp only [Std.Legacy.Range.size, Nat.sub_zero, Nat.add_sub_cancel, Nat.div_one]
  rw [hf, List.range_eq_range']
  cases (List.range' 0 len).all rs <;> simp
end
section ops
variable {P : Program} {ops : Array Oper} {Q : Post} {ds : List Deferred} {f : Env} {w w' : World} {rest : List Oper}
variable {d : Option Nat} {ty : TypeId} {pos : String} {af : Array Edge} {g : Option (Nat × Bool)}
theorem wr_buildArr {t e : TypeId} {z ze : Value} {n by' size by2 len : Nat} {parts : Array (Nat × Operand)} {vs : List Value} [I : Info P t z n by'] [U : Und P t (.array len e)] [E : Info P e ze size by2] (hw : wantedE ops f ⟨d, .build t parts, ty, pos, af, g⟩ = true)
    (hp : parts.toList.map (fun p => (p.1, ev f p.2)) = (vs.zipIdx 0).map fun p => (p.2, p.1)) (hv : ∀ v ∈ vs, v.cells.size = size) (hlen : vs.length * size = z.cells.size)
    (kk : Wr P ops Q ds rest (setO f d (.agg (vs.flatMap (fun v => v.cells.toList)).toArray)) w) : Wr P ops Q ds (⟨d, .build t parts, ty, pos, af, g⟩ :: rest) f w := by
  have hpl : ∀ F : Nat × Operand → Nat × Value, (∀ p, F p = (p.1, ev f p.2)) → (parts.map F).toList = (vs.zipIdx 0).map fun p => (p.2, p.1) := fun F hF => by
    rw [← hp, Array.toList_map]; exact List.map_congr_left fun p _ => hF p
  obtain ⟨cs', e1, e2⟩ := fill_parts size vs 0 z.cells hv (by simp [hlen])
  have e3 : cs' = (vs.flatMap (fun v => v.cells.toList)).toArray := by
    apply Array.toList_inj.1
    rw [e2]
    simp only [Nat.zero_mul, List.take_zero, List.nil_append, Nat.zero_add, hlen]
    rw [List.drop_of_length_le (by simp)]; simp
  refine wr_val (v := .agg (vs.flatMap (fun v => v.cells.toList)).toArray) hw ?_ kk
  simp only [execOp, Instr.build, Sem.run_bind, run_zero I, Result.andThen_ok, underlying, run_program, U.h, Sem.run_pure, run_sizeOf' E]
  rw [hpl _ (fun p => rfl)]
  simp only [e1, e3, Sem.run_pure, Result.andThen_ok]
theorem wr_arrEq {t t' elem : TypeId} {x y : Operand} {len by' : Nat} {z : Value} {xs ys : Array Value} {rs : Nat → Bool} {c : Bool} [U : Und P t (.array len elem)] [I : Info P elem z 1 by'] (hw : wantedE ops f ⟨d, .binOp .eql t x y t', ty, pos, af, g⟩ = true) (hx : ev f x = .agg xs) (hy : ev f y = .agg ys)
    (hg : P.eqGuardType P.depth t = false) (h : ∀ i, i < len → ∃ a b, (part elem xs i).run P w = .ok a w ∧ (part elem ys i).run P w = .ok b w ∧ (Op.equalIn 9999 elem a b).run P w = .ok (rs i) w) (hc : (List.range len).all rs = c)
    (kk : Wr P ops Q ds rest (setO f d (.bool c)) w) : Wr P ops Q ds (⟨d, .binOp .eql t x y t', ty, pos, af, g⟩ :: rest) f w :=
  wr_bin hw hx hy (run_eqGuardAgg hg) (by
    have : (Op.equal t (.agg xs) (.agg ys)).run P w = .ok ((List.range len).all rs) w := run_arrEq U.h I h
    show ((do pure (Value.bool (← Op.equal t (.agg xs) (.agg ys))) : Sem Value)).run P w = _
    simp only [Sem.run_bind, this, Result.andThen_ok, ← hc]; rfl) kk
end ops
end Go.V
