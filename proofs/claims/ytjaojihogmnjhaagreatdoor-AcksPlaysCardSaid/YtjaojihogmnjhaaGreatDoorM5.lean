/- The calculus, twelfth text: a region that draws its order, whose last operations hang on the world and wait for one another: those before them only read. -/
import Derived.Test.YtjaojihogmnjhaaGreatDoorM4
import Derived.Lib.ConvBytes
namespace Go.V
open Go.RowKit
set_option linter.unusedVariables false
set_option linter.unusedSimpArgs false

def chainOk (ops : Array Oper) (m : Nat) : Bool := ((List.range ops.size).all fun i => match ops[i]? with
  | none => true
  | some o => Nat.ble i m || edgeTo o (i - 1)) && (List.range (ops.size - 1)).all fun j => match ops[ops.size - 1]? with
  | none => true
  | some o => edgeTo o j
theorem lastOk_spec {ops : Array Oper} {m : Nat} (h : chainOk ops m = true) {j : Nat} {o : Oper} (ho : ops[ops.size - 1]? = some o) (hj : j < ops.size - 1) : ∃ e ∈ o.after.toList, Region.binds .any e = true ∧ e.on = j := by
  simp only [chainOk, Bool.and_eq_true] at h
  have := List.all_eq_true.1 h.2 j (List.mem_range.2 hj)
  rw [ho] at this
  exact edgeTo_spec this
theorem chainOk_spec {ops : Array Oper} {m : Nat} (h : chainOk ops m = true) {i : Nat} {o : Oper} (hi : ops[i]? = some o) (hm : m < i) : ∃ e ∈ o.after.toList, Region.binds .any e = true ∧ e.on = i - 1 := by
  simp only [chainOk, Bool.and_eq_true] at h
  have := List.all_eq_true.1 h.1 i (List.mem_range.2 (Array.getElem?_eq_some_iff.1 hi).1)
  rw [hi] at this
  simp only [Bool.or_eq_true] at this
  rcases this with h | h
  · have := Nat.le_of_ble_eq_true h; omega
  · exact edgeTo_spec h
section
variable {P : Program} {ops : Array Oper} {S : World → Prop}
/-- Operation o, from frame f, in whatever world meets S: leaves v, and the world as it is. -/
def OneR (P : Program) (ops : Array Oper) (S : World → Prop) (f : Env) (o : Oper) (v : Value) : Prop := ∀ w, S w → Wr P ops (fun _ _ f' w' => f' = setO f o.dst v ∧ w' = w) [] [o] f w
def ChR (P : Program) (ops : Array Oper) (S : World → Prop) (K : Env → Prop) : List Oper → Env → Prop
  | [], f => K f
  | o :: rest, f => ∃ v, OneR P ops S f o v ∧ ChR P ops S K rest (setO f o.dst v)
theorem chR_nil {K : Env → Prop} {f : Env} (h : K f) : ChR P ops S K [] f := h
theorem chR_step {K : Env → Prop} {o : Oper} {rest : List Oper} {f : Env} {v : Value} (h : ∀ w, S w → Wr P ops (fun _ _ f' w' => f' = setO f o.dst v ∧ w' = w) [] [o] f w) (hr : ChR P ops S K rest (setO f o.dst v)) : ChR P ops S K (o :: rest) f := ⟨v, h, hr⟩
/-- The last operations, one behind the other; S holds between. -/
def Sf (P : Program) (ops : Array Oper) (S : World → Prop) (K : Env → World → Prop) : List Oper → Env → World → Prop
  | [], f, w => K f w
  | o :: rest, f, w => S w ∧ Wr P ops (fun _ _ f' w' => Sf P ops S K rest f' w') [] [o] f w
theorem sf_nil {K : Env → World → Prop} {f : Env} {w : World} (h : K f w) : Sf P ops S K [] f w := h
theorem sf_step {K : Env → World → Prop} {o : Oper} {rest : List Oper} {f : Env} {w : World} (hS : S w) (h : Wr P ops (fun _ _ f' w' => Sf P ops S K rest f' w') [] [o] f w) : Sf P ops S K (o :: rest) f w := ⟨hS, h⟩
theorem ChR.all {K : Env → Prop} (hops : ROk ops) (m : Nat) : ∀ (l : List Oper) (k : Nat) (f g : Env), (∀ i, i < l.length → l[i]? = ops[k + i]?) → k + l.length = m → (∀ F : Env, (∀ s, (∀ j p, k ≤ j → j < m → ops[j]? = some p → p.dst ≠ some s) → F s = g s) → mix ops f F (fun j => Nat.blt j k) = g) → ChR P ops S K l g →
    ∃ F, K F ∧ (∀ s, (∀ j p, k ≤ j → j < m → ops[j]? = some p → p.dst ≠ some s) → F s = g s) ∧ mix ops f F (fun j => Nat.blt j m) = F ∧ ∀ i o, k ≤ i → i < m → ops[i]? = some o → ∃ v, OneR P ops S (mix ops f F (fun j => Nat.blt j i)) o v ∧ ∀ d, o.dst = some d → F d = v
  | [], k, f, g, hl, hk, hmix, hch => by
    simp only [List.length_nil, Nat.add_zero] at hk
    exact ⟨g, hch, fun _ _ => rfl, by rw [← hk]; exact hmix g fun _ _ => rfl, fun i o hi hi' ho => by omega⟩
  | o :: l, k, f, g, hl, hk, hmix, hch => by
    obtain ⟨v, h1, h2⟩ := hch
    simp only [List.length_cons] at hk
    have ho : ops[k]? = some o := by have := hl 0 (by simp); simpa using this.symm
    have step : ∀ F : Env, (∀ s, (∀ j p, k + 1 ≤ j → j < m → ops[j]? = some p → p.dst ≠ some s) → F s = setO g o.dst v s) → (mix ops f F (fun j => Nat.blt j k) = g) ∧ ∀ d, o.dst = some d → F d = v := by
      intro F hF
      constructor
      · refine hmix F fun s hs => ?_
        rw [hF s fun j p hj => hs j p (by omega)]
        cases hd : o.dst with
        | none => rfl
        | some d => exact Env.set_ne _ _ (by rintro rfl; exact hs k o (Nat.le_refl _) (by omega) ho hd)
      · intro d hd
        rw [hF d fun j p hj hjm hp hpd => by have := hops.one k j o p d ho hp hpd hd; omega, hd]
        exact Env.set_same _ _ _
    have hsucc : (fun j => Nat.blt j k || Nat.beq j k) = fun j => Nat.blt j (k + 1) := by
      funext j
      apply Bool.eq_iff_iff.2
      simp only [Bool.or_eq_true, Nat.beq_eq, Nat.blt_eq]
      omega
    obtain ⟨F, hK, hF, hFF, hall⟩ := ChR.all hops m l (k + 1) f (setO g o.dst v) (fun i hi => by have := hl (i + 1) (by simp; omega); simp only [List.getElem?_cons_succ] at this; rw [this]; congr 1; omega) (by omega) (fun F hF => by
      obtain ⟨e1, e2⟩ := step F hF
      have := mix_step (f := f) (F := F) (L := fun j => Nat.blt j k) ho e2
      rw [e1, hsucc] at this
      exact this.symm) h2
    obtain ⟨e1, e2⟩ := step F hF
    refine ⟨F, hK, fun s hs => ?_, hFF, fun i o' hi hi' ho' => ?_⟩
    · rw [hF s fun j p hj => hs j p (by omega)]
      cases hd : o.dst with
      | none => rfl
      | some d => exact Env.set_ne _ _ (by rintro rfl; exact hs k o (Nat.le_refl _) (by omega) ho hd)
    · rcases Nat.eq_or_lt_of_le hi with rfl | hlt
      · rw [ho] at ho'; cases ho'
        exact ⟨v, by rw [e1]; exact h1, e2⟩
      · exact hall i o' (by omega) hi' ho'
theorem mix_no {f F : Env} {L : Nat → Bool} {s : Nat} (h : ∀ j p, ops[j]? = some p → p.dst = some s → L j = false) : mix ops f F L s = f s := by
  unfold mix
  rw [if_neg]
  rintro ⟨j, p, h1, h2, h3⟩
  rw [h j p h2 h3] at h1; cases h1
theorem mix_yes {f F : Env} {L : Nat → Bool} {s j : Nat} {p : Oper} (h : L j = true) (hj : ops[j]? = some p) (hp : p.dst = some s) : mix ops f F L s = F s := by
  unfold mix
  rw [if_pos ⟨j, p, h, hj, hp⟩]
theorem wr_anyT {Q : Post} {ds : List Deferred} {f F0 : Env} {K : Env → World → Prop} {m : Nat} {l2 : List Oper} (hops : ROk ops) (hch : chainOk ops m = true) (hsz0 : ops.size = m + l2.length) (hl20 : l2.length ≠ 0) (hl2 : ∀ i, l2[i]? = ops[m + i]?)
    (hFF : mix ops f F0 (fun j => Nat.blt j m) = F0) (hall : ∀ i o, i < m → ops[i]? = some o → ∃ v, OneR P ops S (mix ops f F0 (fun j => Nat.blt j i)) o v ∧ ∀ d, o.dst = some d → F0 d = v) (hQ : ∀ G w', K G w' → Q .normal ds G w') :
    ∀ (fuel t : Nat) (listed : Array Bool) (w : World) (G : Env) (c : Nat), listed.size = ops.size → cnt (fun j => listed.getD j false) ops.size ≤ fuel →
      (∀ j p, listed.getD j false = true → ops[j]? = some p → ∀ e ∈ p.after.toList, Region.binds .any e = true → listed.getD e.on false = true) →
      (∀ j, m ≤ j → j < ops.size → (listed.getD j false = true ↔ j < m + c)) → c ≤ l2.length → (∀ s, (∀ j p, m ≤ j → j < m + c → ops[j]? = some p → p.dst ≠ some s) → G s = F0 s) → Sf P ops S K (l2.drop c) G w →
      Wr P ops Q ds ((Region.linearise.go .any ops fuel t listed []).filterMap (ops[·]?)) (mix ops f G (fun j => listed.getD j false)) w := by
  have hF0no : ∀ s, (∀ j p, j < m → ops[j]? = some p → p.dst ≠ some s) → F0 s = f s := by
    intro s hs
    rw [← hFF]
    refine mix_no fun j p hj hp => nblt_false ?_
    rcases Nat.lt_or_ge j m with h | h
    · exact absurd hp (hs j p h hj)
    · exact h
  have fin : ∀ (listed : Array Bool) (w : World) (G : Env) (c : Nat), (∀ i, i < ops.size → listed.getD i false = true) → (∀ j, m ≤ j → j < ops.size → (listed.getD j false = true ↔ j < m + c)) → c ≤ l2.length → (∀ s, (∀ j p, m ≤ j → j < m + c → ops[j]? = some p → p.dst ≠ some s) → G s = F0 s) → Sf P ops S K (l2.drop c) G w →
      Wr P ops Q ds [] (mix ops f G (fun j => listed.getD j false)) w := by
    intro listed w G c hl hmain hc hG hSf
    have hcl : c = l2.length := by
      rcases Nat.lt_or_ge c l2.length with h | h
      · have := (hmain (m + c) (by omega) (by omega)).1 (hl (m + c) (by omega)); omega
      · omega
    rw [hcl, List.drop_length] at hSf
    have hfr : mix ops f G (fun j => listed.getD j false) = G := by
      funext s
      by_cases hw : ∃ (j : Nat) (p : Oper), ops[j]? = some p ∧ p.dst = some s
      · obtain ⟨j, p, hj, hp⟩ := hw
        exact mix_yes (hl j (Array.getElem?_eq_some_iff.1 hj).1) hj hp
      · have hno : ∀ (j : Nat) (p : Oper), ops[j]? = some p → p.dst ≠ some s := fun j p hj hp => hw ⟨j, p, hj, hp⟩
        rw [mix_no fun j p hj hp => absurd hp (hno j p hj), hG s fun j p _ _ hj => hno j p hj, hF0no s fun j p _ hj => hno j p hj]
    rw [hfr]; exact wr_nil (hQ G w hSf)
  intro fuel
  induction fuel with
  | zero =>
    intro t listed w G c hsz hc hcl hmain hcm hG hSf
    exact fin listed w G c (fun i hi => cnt_zero (L := fun j => listed.getD j false) ops.size (Nat.le_zero.1 hc) i hi) hmain hcm hG hSf
  | succ fuel ih =>
    intro t listed w G c hsz hc hcl hmain hcm hG hSf
    simp only [Region.linearise.go]
    generalize hrs : ((List.range ops.size).filter fun i => !listed.getD i true && ((ops[i]?).map (·.after.all fun e => !Region.binds .any e || listed.getD e.on false)).getD false) = rs
    have hgd : ∀ i, i < ops.size → listed.getD i true = listed.getD i false := by
      intro i hi
      simp [Array.getD_eq_getD_getElem?, hsz, hi]
    cases hi : rs[t % rs.length]? with
    | none =>
      have hnil : rs = [] := by
        cases rs with
        | nil => rfl
        | cons x xs =>
          have hlt : t % (x :: xs).length < (x :: xs).length := Nat.mod_lt _ (by simp)
          rw [List.getElem?_eq_none_iff] at hi
          omega
      refine fin listed w G c ?_ hmain hcm hG hSf
      have : ∀ k, k ≤ ops.size → ∀ i, i < k → listed.getD i false = true := by
        intro k
        induction k with
        | zero => intro _ i hi; omega
        | succ k ihk =>
          intro hk i hik
          rcases Nat.lt_or_eq_of_le (Nat.le_of_lt_succ hik) with hlt | rfl
          · exact ihk (by omega) i hlt
          · cases hL : listed.getD i false with
            | true => rfl
            | false =>
              exfalso
              have hmem : i ∈ rs := by
                rw [← hrs, List.mem_filter]
                refine ⟨List.mem_range.2 (by omega), ?_⟩
                obtain ⟨o, ho⟩ : ∃ o, ops[i]? = some o := ⟨ops[i]'(by omega), by simp [show i < ops.size by omega]⟩
                rw [hgd i (by omega), hL, ho]
                simp only [Bool.not_false, Bool.true_and, Option.map_some, Option.getD_some]
                rw [← Array.all_toList]
                refine List.all_eq_true.2 fun e he => ?_
                cases hb : Region.binds .any e with
                | false => rfl
                | true =>
                  have := hops.low i o ho e he hb
                  rw [ihk (by omega) e.on this]; rfl
              rw [hnil] at hmem; cases hmem
      exact this ops.size (Nat.le_refl _)
    | some i =>
      have hmem : i ∈ rs := List.mem_of_getElem? hi
      rw [← hrs, List.mem_filter] at hmem
      obtain ⟨hir, hib⟩ := hmem
      have hisz : i < ops.size := List.mem_range.1 hir
      obtain ⟨o, ho⟩ : ∃ o, ops[i]? = some o := ⟨ops[i], by simp [hisz]⟩
      rw [hgd i hisz, ho] at hib
      simp only [Bool.and_eq_true, Bool.not_eq_true', Option.map_some, Option.getD_some] at hib
      obtain ⟨hun, hready⟩ := hib
      rw [← Array.all_toList] at hready
      have hedge : ∀ e ∈ o.after.toList, Region.binds .any e = true → listed.getD e.on false = true := by
        intro e he hb
        have := List.all_eq_true.1 hready e he
        simpa [hb] using this
      dsimp only
      rw [linearise_go_acc, List.reverse_singleton, List.singleton_append, List.filterMap_cons, ho]
      have hset : ∀ j, (listed.setIfInBounds i true).getD j false = (listed.getD j false || Nat.beq j i) := by
        intro j
        by_cases hji : j = i
        · subst hji; simp [Array.getD_eq_getD_getElem?, hsz, hisz]
        · have : Nat.beq j i = false := by
            cases hb : Nat.beq j i with
            | false => rfl
            | true => exact absurd (Nat.eq_of_beq_eq_true hb) hji
          rw [this, Bool.or_false]
          simp [Array.getD_eq_getD_getElem?, Array.getElem?_setIfInBounds, Ne.symm hji]
      have hmono : ∀ j, listed.getD j false = true → (listed.setIfInBounds i true).getD j false = true := by
        intro j hj; rw [hset, hj]; rfl
      have hself : (listed.setIfInBounds i true).getD i false = true := by rw [hset]; simp
      have hcnt : cnt (fun j => (listed.setIfInBounds i true).getD j false) ops.size ≤ fuel := by
        have := cnt_lt (L := fun j => listed.getD j false) (L' := fun j => (listed.setIfInBounds i true).getD j false) hmono hun hself ops.size hisz
        omega
      have hclos : ∀ j p, (listed.setIfInBounds i true).getD j false = true → ops[j]? = some p → ∀ e ∈ p.after.toList, Region.binds .any e = true → (listed.setIfInBounds i true).getD e.on false = true := by
        intro j p hj hp e he hb
        rw [hset] at hj
        simp only [Bool.or_eq_true, Nat.beq_eq] at hj
        rcases hj with hj | rfl
        · exact hmono _ (hcl j p hj hp e he hb)
        · rw [ho] at hp; cases hp
          exact hmono _ (hedge e he hb)
      -- what the operation looks at, written by operation j
      have hseeL : ∀ d, looks ops o d = true → ∀ j p, ops[j]? = some p → p.dst = some d → (listed.getD j false = true ∧ j < i) ∨ (listed.getD j false = false ∧ i ≤ j) := by
        intro d hd j p hj hp
        rcases hops.see i j o p d ho hj hp hd with rfl | ⟨e, he, hb, rfl⟩ | ⟨e, he, hb, rfl⟩
        · exact .inr ⟨hun, Nat.le_refl _⟩
        · exact .inl ⟨hedge e he hb, hops.low i o ho e he hb⟩
        · have := hops.low j p hj e he hb
          refine .inr ⟨?_, by omega⟩
          cases hL : listed.getD j false with
          | false => rfl
          | true => have := hcl j p hL hj e he hb; rw [hun] at this; cases this
      rcases Nat.lt_or_ge i m with him | him
      · -- one that only reads
        obtain ⟨v, hone, hFd⟩ := hall i o him ho
        have hsee : ∀ d, looks ops o d = true → mix ops f G (fun j => listed.getD j false) d = mix ops f F0 (fun j => Nat.blt j i) d := by
          intro d hd
          by_cases hw : ∃ (j : Nat) (p : Oper), ops[j]? = some p ∧ p.dst = some d
          · obtain ⟨j, p, hj, hp⟩ := hw
            rcases hseeL d hd j p hj hp with ⟨h1, h2⟩ | ⟨h1, h2⟩
            · rw [mix_yes (L := fun j => listed.getD j false) h1 hj hp, mix_yes (L := fun j => Nat.blt j i) (by simpa using h2) hj hp]
              exact hG d fun j' p' hm' _ hj' hp' => by have := hops.one j' j p' p d hj' hj hp hp'; omega
            · have huniq : ∀ (j' : Nat) (p' : Oper), ops[j']? = some p' → p'.dst = some d → j' = j := fun j' p' hj' hp' => hops.one j' j p' p d hj' hj hp hp'
              rw [mix_no fun j' p' hj' hp' => by rw [huniq j' p' hj' hp']; exact h1, mix_no fun j' p' hj' hp' => by rw [huniq j' p' hj' hp']; exact nblt_false h2]
          · rw [mix_no fun j p hj hp => absurd ⟨j, p, hj, hp⟩ hw, mix_no fun j p hj hp => absurd ⟨j, p, hj, hp⟩ hw]
        obtain ⟨c1, c2⟩ := looks_congr (o := o) hsee (hops.sel i o ho)
        have hGd : ∀ d, o.dst = some d → G d = v := fun d hd => by
          rw [hG d fun j' p' hm' _ hj' hp' => by have := hops.one j' i p' o d hj' ho hd hp'; omega]
          exact hFd d hd
        have hframe : setO (mix ops f G (fun j => listed.getD j false)) o.dst v = mix ops f G (fun j => (listed.setIfInBounds i true).getD j false) := by
          rw [mix_step ho hGd]
          funext s
          exact mix_congr fun j p _ _ => (hset j).symm
        have next : Wr P ops Q ds ((Region.linearise.go .any ops fuel (t / rs.length) (listed.setIfInBounds i true) []).filterMap (ops[·]?)) (setO (mix ops f G (fun j => listed.getD j false)) o.dst v) w := by
          rw [hframe]
          refine ih _ _ w G c (by simpa using hsz) hcnt hclos (fun j hj hjs => ?_) hcm hG hSf
          rw [hset]
          have : Nat.beq j i = false := by
            cases hb : Nat.beq j i with
            | false => rfl
            | true => have := Nat.eq_of_beq_eq_true hb; omega
          rw [this, Bool.or_false]; exact hmain j hj hjs
        have hSw : S w := by
          rcases Nat.lt_or_ge c l2.length with hlt | hge
          · rw [List.drop_eq_getElem_cons hlt] at hSf; exact hSf.1
          · exfalso
            rcases Nat.eq_zero_or_pos l2.length with hz | hp
            · exact hl20 hz
            · obtain ⟨q, hq⟩ : ∃ q, ops[ops.size - 1]? = some q := ⟨ops[ops.size - 1]'(by omega), by simp [show ops.size - 1 < ops.size by omega]⟩
              have hL := (hmain (ops.size - 1) (by omega) (by omega)).2 (by omega)
              obtain ⟨e, he, hb, hon⟩ := lastOk_spec hch hq (by omega : i < ops.size - 1)
              have := hcl _ q hL hq e he hb
              rw [hon, hun] at this; cases this
        have h1 := hone w hSw
        simp only [Wr] at h1 ⊢
        rw [c1, c2]
        cases hw : wantedE ops (mix ops f F0 (fun j => Nat.blt j i)) o with
        | false =>
          rw [hw] at h1
          simp only [cond_false] at h1 ⊢
          have hs2 : setO (mix ops f G (fun j => listed.getD j false)) o.dst undef = setO (mix ops f G (fun j => listed.getD j false)) o.dst v := by
            cases hd : o.dst with
            | none => rfl
            | some d =>
              have := congrFun h1.1 d
              rw [hd] at this
              have e : undef = v := by simpa [Env.set_same] using this
              rw [e]
          rw [hs2]; exact next
        | true =>
          rw [hw] at h1
          simp only [cond_true] at h1 ⊢
          refine upE_mono ?_ h1
          rintro u w' ⟨hu, rfl⟩
          have hs2 : setO (mix ops f G (fun j => listed.getD j false)) o.dst u = setO (mix ops f G (fun j => listed.getD j false)) o.dst v := by
            cases hd : o.dst with
            | none => rfl
            | some d =>
              have := congrFun hu d
              rw [hd] at this
              have e : u = v := by simpa [Env.set_same] using this
              rw [e]
          rw [hs2]; exact next
      · -- the next of the chain
        have hic : i = m + c := by
          have h1 : ¬ i < m + c := fun h => by have := (hmain i him hisz).2 h; rw [hun] at this; cases this
          rcases Nat.eq_or_lt_of_le (Nat.le_of_not_lt h1) with h2 | h2
          · exact h2.symm
          · obtain ⟨e, he, hb, hon⟩ := chainOk_spec hch ho (by omega : m < i)
            have h3 := hedge e he hb
            rw [hon] at h3
            have := (hmain (i - 1) (by omega) (by omega)).1 h3
            omega
        subst hic
        have hcons : l2.drop c = o :: l2.drop (c + 1) := by
          have h2 : l2[c]? = some o := by rw [hl2]; exact ho
          obtain ⟨hlt, he⟩ := List.getElem?_eq_some_iff.1 h2
          rw [List.drop_eq_getElem_cons hlt, he]
        have hclt : c < l2.length := by omega
        rw [hcons] at hSf
        have hsee : ∀ d, looks ops o d = true → mix ops f G (fun j => listed.getD j false) d = G d := by
          intro d hd
          by_cases hw : ∃ (j : Nat) (p : Oper), ops[j]? = some p ∧ p.dst = some d
          · obtain ⟨j, p, hj, hp⟩ := hw
            have huniq : ∀ (j' : Nat) (p' : Oper), ops[j']? = some p' → p'.dst = some d → j' = j := fun j' p' hj' hp' => hops.one j' j p' p d hj' hj hp hp'
            rcases hseeL d hd j p hj hp with ⟨h1, h2⟩ | ⟨h1, h2⟩
            · exact mix_yes (L := fun j => listed.getD j false) h1 hj hp
            · rw [mix_no fun j' p' hj' hp' => by rw [huniq j' p' hj' hp']; exact h1, hG d fun j' p' _ hlt hj' hp' => by have := huniq j' p' hj' hp'; omega, hF0no d fun j' p' hlt hj' hp' => by have := huniq j' p' hj' hp'; omega]
          · have hno : ∀ (j : Nat) (p : Oper), ops[j]? = some p → p.dst ≠ some d := fun j p hj hp => hw ⟨j, p, hj, hp⟩
            rw [mix_no fun j p hj hp => absurd hp (hno j p hj), hG d fun j p _ _ hj => hno j p hj, hF0no d fun j p _ hj => hno j p hj]
        obtain ⟨c1, c2⟩ := looks_congr (o := o) hsee (hops.sel _ o ho)
        have next : ∀ v w', Sf P ops S K (l2.drop (c + 1)) (setO G o.dst v) w' → Wr P ops Q ds ((Region.linearise.go .any ops fuel (t / rs.length) (listed.setIfInBounds (m + c) true) []).filterMap (ops[·]?)) (setO (mix ops f G (fun j => listed.getD j false)) o.dst v) w' := by
          intro v w' hSf'
          have hframe : setO (mix ops f G (fun j => listed.getD j false)) o.dst v = mix ops f (setO G o.dst v) (fun j => (listed.setIfInBounds (m + c) true).getD j false) := by
            funext s
            by_cases hd : o.dst = some s
            · rw [mix_yes (L := fun j => (listed.setIfInBounds (m + c) true).getD j false) hself ho hd, hd]
              show Env.set _ s v s = Env.set _ s v s
              rw [Env.set_same, Env.set_same]
            · have h1 : ∀ g : Env, setO g o.dst v s = g s := fun g => by
                cases ho' : o.dst with
                | none => rfl
                | some d => exact Env.set_ne _ _ (by rintro rfl; exact hd ho')
              rw [h1]
              by_cases hw : ∃ (j : Nat) (p : Oper), listed.getD j false = true ∧ ops[j]? = some p ∧ p.dst = some s
              · obtain ⟨j, p, hL, hj, hp⟩ := hw
                rw [mix_yes (L := fun j => listed.getD j false) hL hj hp, mix_yes (L := fun j => (listed.setIfInBounds (m + c) true).getD j false) (hmono j hL) hj hp, h1]
              · rw [mix_no fun j p hj hp => by cases hL : listed.getD j false with
                  | false => rfl
                  | true => exact absurd ⟨j, p, hL, hj, hp⟩ hw]
                rw [mix_no fun j p hj hp => by
                  rw [hset]
                  cases hL : listed.getD j false with
                  | true => exact absurd ⟨j, p, hL, hj, hp⟩ hw
                  | false =>
                    cases hb : Nat.beq j (m + c) with
                    | false => rfl
                    | true =>
                      have := Nat.eq_of_beq_eq_true hb
                      subst this
                      rw [ho] at hj; cases hj; exact absurd hp hd]
          rw [hframe]
          refine ih _ _ w' (setO G o.dst v) (c + 1) (by simpa using hsz) hcnt hclos (fun j hj hjs => ?_) hclt (fun s hs => ?_) hSf'
          · rw [hset]
            simp only [Bool.or_eq_true, Nat.beq_eq]
            constructor
            · rintro (h | h)
              · have := (hmain j hj hjs).1 h; omega
              · omega
            · intro h
              rcases Nat.lt_or_ge j (m + c) with h' | h'
              · exact .inl ((hmain j hj hjs).2 h')
              · exact .inr (by omega)
          · have : setO G o.dst v s = G s := by
              cases hd : o.dst with
              | none => rfl
              | some d => exact Env.set_ne _ _ (by rintro rfl; exact hs (m + c) o (by omega) (by omega) ho hd)
            rw [this]
            exact hG s fun j p h1 h2 => hs j p h1 (by omega)
        have h1 := hSf.2
        simp only [Wr] at h1 ⊢
        rw [c1, c2]
        cases hw : wantedE ops G o with
        | false =>
          rw [hw] at h1
          simp only [cond_false] at h1 ⊢
          exact next undef w h1
        | true =>
          rw [hw] at h1
          simp only [cond_true] at h1 ⊢
          exact upE_mono (fun u w' h => next u w' h) h1
/-- A region that draws its order: its first m operations only read, the others wait for one another. -/
theorem wc_drawT {r : Option Nat} {n id : Nat} {Q : Post} {ds : List Deferred} {f : Env} {w : World} {l : List Oper} (m : Nat) (S : World → Prop) (hm : P.follows .mixedOrders = true) (hok : regionOk l.toArray = true) (hcok : chainOk l.toArray m = true) (hml : m < l.length)
    (h : ChR P l.toArray S (fun F => Sf P l.toArray S (fun G w' => Q .normal ds G w') (l.drop m) F w.drew) (l.take m) f) : Wc r P n (.region id l.toArray true) Q ds f w := by
  refine wc_draw fun t => ?_
  obtain ⟨F, hK, _, hFF, hall⟩ := ChR.all (ROk.of hok) m (l.take m) 0 f f (fun i hi => by rw [List.length_take] at hi; rw [List.getElem?_take_of_lt (by omega)]; simp) (by rw [List.length_take]; omega) (fun F hF => by
    funext s
    unfold mix
    rw [if_neg]
    rintro ⟨j, p, h1, _⟩
    simp at h1) h
  simp only [Region.schedule, hm, Bool.true_or, if_true, Region.linearise]
  have := wr_anyT (Q := Q) (ds := ds) (K := fun G w' => Q .normal ds G w') (l2 := l.drop m) (ROk.of hok) hcok (by simp; omega) (by simp; omega) (fun i => by simp) hFF (fun i o him ho => hall i o (Nat.zero_le _) him ho) (fun G w' h => h) l.toArray.size t (Array.replicate l.toArray.size false) w.drew F 0 (by simp) (cnt_max _ _) (by intro j p hj; simp [Array.getD_eq_getD_getElem?, Array.getElem?_replicate] at hj; split at hj <;> simp_all)
    (fun j hj hjs => ⟨fun h => by simp only [Array.getD_eq_getD_getElem?, Array.getElem?_replicate] at h; split at h <;> simp at h, fun h => by omega⟩) (Nat.zero_le _) (fun s _ => rfl) (by rw [List.drop_zero]; exact hK)
  have he : mix l.toArray f F (fun j => (Array.replicate l.toArray.size false).getD j false) = f := by
    funext s
    refine mix_no fun j p hj hp => ?_
    simp only [Array.getD_eq_getD_getElem?, Array.getElem?_replicate]
    split <;> rfl
  rw [he] at this
  exact this
end
end Go.V

namespace Go.V
open Go.RowKit Go.Lib
set_option linter.unusedVariables false
set_option linter.unusedSimpArgs false

/-- v is a slice of n one-cell elements that read xs, at the start of a row of the call's own (block base on); what is frozen lies behind the cells. -/
def MRow (w : World) (base : Nat) (e : TypeId) (v : Value) (n : Nat) (xs : List Value) : Prop :=
  xs.length = n ∧ ∃ (g cap : Nat) (cur : Array Value) (fr : Nat × Nat), v = .slice (some ⟨g, 0, none⟩) n cap ∧ base ≤ g ∧ w.heap[g]? = some (.cells cur e fr) ∧ n ≤ cap ∧ cap ≤ maxLen ∧ cur.size = cap ∧ cur.toList.take n = xs ∧ (fr.2 = 0 ∨ cap ≤ fr.1)
theorem MRow.of_own {w : World} {base : Nat} {e : TypeId} {v : Value} {n : Nat} {xs : List Value} (h : w.ownsRow base e 1 v n xs) (hv : v ≠ .slice none 0 0) : MRow w base e v n xs := by
  obtain ⟨h1, h2⟩ := h
  rcases h2 with ⟨rfl, _⟩ | ⟨g, cap, cur, rfl, hb, hg, hn, hm, hs, ht⟩
  · exact absurd rfl hv
  · exact ⟨by omega, g, cap, cur, (0, 0), rfl, hb, hg, hn, hm, by omega, by rw [Nat.mul_one] at ht; exact ht, .inl rfl⟩
theorem MRow.slR {w : World} {base : Nat} {e : TypeId} {v : Value} {n : Nat} {xs : List Value} (h : MRow w base e v n xs) : SlR w 1 v n xs := by
  obtain ⟨h1, g, cap, cur, fr, rfl, hb, hg, hn, hm, hs, ht, hf⟩ := h
  refine ⟨by omega, _, cap, rfl, hn, .inr ⟨g, 0, cur, e, fr, rfl, hg, fun j hj => ?_⟩⟩
  rw [Nat.zero_add, ← ht, List.getElem?_take_of_lt (by omega)]; simp
theorem MRow.keep {D : Nat → Prop} {w w' : World} {base : Nat} {e : TypeId} {v : Value} {n : Nat} {xs : List Value} (h : MRow w base e v n xs) (k : Keeps D w w') (hd : ∀ b, v.ownBlock = some b → ¬ D b) : MRow w' base e v n xs := by
  obtain ⟨h1, g, cap, cur, fr, rfl, hb, hg, hr⟩ := h
  exact ⟨h1, g, cap, cur, fr, rfl, hb, k.heap hg (hd g (by simp [Value.ownBlock])), hr⟩
theorem MRow.block {w : World} {base : Nat} {e : TypeId} {v : Value} {n : Nat} {xs : List Value} (h : MRow w base e v n xs) : ∀ k, v.ownBlock = some k → base ≤ k ∧ k < w.heap.size := by
  obtain ⟨h1, g, cap, cur, fr, rfl, hb, hg, hr⟩ := h
  intro k hk
  simp [Value.ownBlock] at hk
  subst hk
  exact ⟨hb, lt_of_heap hg⟩
theorem frozen_no {w : World} {g o cap : Nat} {cur : Array Value} {e : TypeId} {fr : Nat × Nat} (hg : w.heap[g]? = some (.cells cur e fr)) (hf : fr.2 = 0 ∨ cap ≤ fr.1) (ho : o < cap) : w.frozen? ⟨g, o, none⟩ = false := by
  obtain ⟨lo, hi⟩ := fr
  simp only [World.frozen?, hg]
  rcases hf with h | h
  · simp only at h; subst h; simp
  · simp only at h
    have : ¬ lo ≤ o := by omega
    simp [this]
theorem run_store_m {P : Program} {w : World} {g o cap : Nat} {cur : Array Value} {e : TypeId} {fr : Nat × Nat} {u : Value} (h1 : u.oneCell' = true) (hg : w.heap[g]? = some (.cells cur e fr)) (hf : fr.2 = 0 ∨ cap ≤ fr.1) (ho : o < cap) (hs : cur.size = cap) :
    (store ⟨g, o, none⟩ u .plain).run P w = .ok () (w.putObj g (.cells (cur.setIfInBounds o u) e fr)) := by
  obtain ⟨x, hx⟩ : ∃ x, cur[o]? = some x := ⟨cur[o]'(by omega), by simp [show o < cur.size by omega]⟩
  rw [run_store P w ⟨g, o, none⟩ u .plain h1, cell_of_heap hg hx]
  simp only [frozen_no hg hf ho, Bool.false_eq_true, if_false, set_of_heap u hg]
section ops
variable {P : Program} {ops : Array Oper} {Q : Post} {ds : List Deferred} {f : Env} {w w' : World} {rest : List Oper}
variable {d : Option Nat} {ty : TypeId} {pos : String} {af : Array Edge} {g : Option (Nat × Bool)}
theorem wr_str2bytes {s t e : TypeId} {x : Operand} {l : List UInt8} {sd : TypeDesc} [U : Und P s sd] [V : Und P t (.slice e)] [E : Und P e (.int .u8)] (hw : wantedE ops f ⟨d, .convert s t x, ty, pos, af, g⟩ = true) (hx : ev f x = S l) (hlen : l.length ≤ maxLen)
    (kk : ∀ v w', MRow w' w.heap.size e v l.length (bytesV l) → Keeps NoB w w' → Wr P ops Q ds rest (setO f d v) w') : Wr P ops Q ds (⟨d, .convert s t x, ty, pos, af, g⟩ :: rest) f w := by
  refine wr_v (s := convert s t (ev f x)) (w' := bytesWorld w e ⟨l.toArray⟩) hw rfl (by rw [hx]; exact run_convert_string_bytes w s t e ⟨l.toArray⟩ U.h V.h E.h) (kk _ _ ?_ ⟨rfl, rfl, rfl, by rw [bytesWorld_size]; omega, fun k hk _ => bytesWorld_at_old w e _ k hk⟩)
  have hge := grownCap_ge w l.length 0 e
  have hle := grownCap_le_maxLen w l.length 0 e hlen
  have hsz : (⟨l.toArray⟩ : ByteArray).size = l.length := S_size l
  have hbc : (bytesCells w e ⟨l.toArray⟩).size = grownCap w l.length 0 e := by
    unfold bytesCells
    rw [hsz]; simp; omega
  refine ⟨by simp [bytesV], w.heap.size, grownCap w (⟨l.toArray⟩ : ByteArray).size 0 e, bytesCells w e ⟨l.toArray⟩, _, by rw [hsz], Nat.le_refl _, bytesWorld_at_new w e _, by rw [hsz]; exact hge, by rw [hsz]; exact hle, by rw [hbc, hsz], ?_, .inr (by rw [hbc, hsz]; exact Nat.le_refl _)⟩
  unfold bytesCells
  rw [Array.toList_append]
  have : ((⟨l.toArray⟩ : ByteArray).data.map fun b => Value.int .u8 (b.toNat : Int)).toList = bytesV l := by simp [bytesV]
  rw [this, List.take_left' (by simp [bytesV])]
theorem wr_storeM {t e : TypeId} {z : Value} {by' base n cap gb o : Nat} {x y : Operand} {xs : List Value} {u : Value} [I : Info P t z 1 by'] (hw : wantedE ops f ⟨d, .store t x y, ty, pos, af, g⟩ = true) (hx : ev f x = .pointer (some ⟨gb, o, none⟩)) (hy : ev f y = u) (h1 : u.oneCell' = true)
    (hm : MRow w base e (.slice (some ⟨gb, 0, none⟩) n cap) n xs) (ho : o < n) (kk : ∀ w', MRow w' base e (.slice (some ⟨gb, 0, none⟩) n cap) n (xs.set o u) → Keeps (· = gb) w w' → Wr P ops Q ds rest (setO f d undef) w') :
    Wr P ops Q ds (⟨d, .store t x y, ty, pos, af, g⟩ :: rest) f w := by
  obtain ⟨hl, g', cap', cur, fr, hv, hb, hg, hn, hmx, hs, ht, hf⟩ := hm
  simp only [Value.slice.injEq, Option.some.injEq, Addr.mk.injEq, and_true] at hv
  obtain ⟨rfl, _, rfl⟩ := hv
  refine wr_u (s := Instr.storeAt t (ev f x) (ev f y)) (w' := w.putObj gb (.cells (cur.setIfInBounds o u) e fr)) hw rfl ?_ (kk _ ⟨by simpa using hl, gb, cap, _, fr, rfl, hb, World.putObj_heap_same (lt_of_heap hg), hn, hmx, by simpa using hs, ?_, hf⟩ ((Keeps.refl _ w).put _ (fun _ => rfl)))
  · have hcells : u.cells = #[u] := by cases u <;> first | rfl | simp [Value.oneCell'] at h1
    have hst := run_store_m (P := P) (cap := cap) h1 hg hf (by omega : o < cap) hs
    rw [hx, hy]
    simp only [Instr.storeAt, Instr.sureAddr, storeVar, Sem.run_bind, Sem.run_pure, Result.andThen_ok, run_sizeOf' I, hcells]
    simp only [List.size_toArray, List.length_cons, List.length_nil, Nat.zero_add, ne_eq, not_true_eq_false, if_false, Sem.run_pure, Result.andThen_ok, storeCells, Sem.run_bind, addr_add, Nat.add_zero, hst]
  · rw [Array.toList_setIfInBounds, List.take_set, ht]
/-- One element appended: in place, or in a new row. -/
theorem wr_append1M {t e : TypeId} {z : Value} {by' : Nat} {x y : Operand} {base n b c : Nat} {v u : Value} {xs : List Value} {e' : TypeId} {fr : Nat × Nat} [U : Und P t (.slice e)] [I : Info P e z 1 by']
    (hw : wantedE ops f ⟨d, .call { callee := .builtin .append, args := #[x, y], argTypes := #[t, t] }, ty, pos, af, g⟩ = true) (hx : ev f x = v) (hown : MRow w base e v n xs) (hy : ev f y = .slice (some ⟨b, 0, none⟩) 1 c)
    (hb : w.heap[b]? = some (.cells #[u] e' fr)) (h1 : u.oneCell' = true) (hzs : z.cells.size = 1) (h63 : n + 1 ≤ 1000000000000) (hby : by' ≤ 8) (hbase : base ≤ w.heap.size)
    (kk : ∀ v' w', MRow w' base e v' (n + 1) (xs ++ [u]) → Keeps (fun k => v.ownBlock = some k) w w' → Wr P ops Q ds rest (setO f d v') w') :
    Wr P ops Q ds (⟨d, .call { callee := .builtin .append, args := #[x, y], argTypes := #[t, t] }, ty, pos, af, g⟩ :: rest) f w := by
  obtain ⟨i, hi, hz, hs, hby'⟩ := I.parts
  obtain ⟨hl, g', cap, cur, fr', rfl, hbg, hg, hn, hm, hcs, ht, hf⟩ := hown
  have hnews : ∀ j w1, [u][j]? = some w1 → w.cell? ((⟨b, 0, none⟩ : Addr).add j) = some w1 := fun j w1 hj => by rw [addr_add]; exact cell_of_heap hb (by simpa using hj)
  by_cases hroom : n + 1 ≤ cap
  · have hff := run_firstCells_some (P := P) w i.size 1 ⟨b, 0, none⟩ 1 c [u] (by rw [hs]; rfl) hnews
    rw [hs] at hff
    have hst := run_store_m (P := P) (cap := cap) (o := n) h1 hg hf (by omega) hcs
    refine wr_val (v := .slice (some ⟨g', 0, none⟩) (n + 1) cap) (w' := w.putObj g' (.cells (cur.setIfInBounds n u) e fr')) hw ?_ (kk _ _ ⟨by simp [hl], g', cap, _, fr', rfl, hbg, World.putObj_heap_same (lt_of_heap hg), hroom, hm, by simpa using hcs, ?_, hf⟩ ((Keeps.refl _ w).put _ (fun _ => by simp [Value.ownBlock])))
    · have hst' : (storeCells ⟨g', n, none⟩ [u]).run P w = .ok () (w.putObj g' (.cells (cur.setIfInBounds n u) e fr')) := by
        simp only [storeCells, addr_add, Nat.add_zero, Sem.run_bind, hst, Result.andThen_ok, Sem.run_pure]
      have hap : (Builtin.append_ #[t, t] ty #[.slice (some ⟨g', 0, none⟩) n cap, .slice (some ⟨b, 0, none⟩) 1 c]).run P w = .ok (.slice (some ⟨g', 0, none⟩) (n + 1) cap) (w.putObj g' (.cells (cur.setIfInBounds n u) e fr')) := by
        simp [Builtin.append_, run_underlying U.h, sizeOf, typeInfo, hi, Builtin.lenOf, hroom, hff, Addr.add_lit, hst', hs]
      simp only [execOp, resolve, invoke, builtin, Sem.run_bind, Sem.run_pure, Result.andThen_ok, List.map_toArray, List.map_cons, List.map_nil, hx, hy, hap]
    · rw [Array.toList_setIfInBounds, ← ht]
      apply List.ext_getElem?
      intro j
      rw [List.getElem?_append]
      rcases Nat.lt_trichotomy j n with h | h | h
      · rw [List.getElem?_take_of_lt (by omega), List.getElem?_set_ne (by omega), if_pos (by rw [List.length_take, Array.length_toList]; omega), List.getElem?_take_of_lt h]
      · subst h
        rw [List.getElem?_take_of_lt (by omega), List.getElem?_set_self (by rw [Array.length_toList]; omega), if_neg (by rw [List.length_take, Array.length_toList]; omega)]
        rw [List.length_take, Array.length_toList, Nat.min_eq_left (by omega), Nat.sub_self]; rfl
      · rw [List.getElem?_eq_none (by rw [List.length_take]; omega), if_neg (by rw [List.length_take, Array.length_toList]; omega)]
        rw [List.length_take, Array.length_toList, Nat.min_eq_left (by omega), List.getElem?_eq_none (by simp; omega)]
  · have holds : ∀ j w1, xs[j]? = some w1 → w.cell? ((⟨g', 0, none⟩ : Addr).add j) = some w1 := fun j w1 hj => by
      rw [addr_add, Nat.zero_add]
      refine cell_of_heap hg ?_
      have hjn : j < n := by rw [← hl]; exact (List.getElem?_eq_some_iff.1 hj).1
      rw [← ht, List.getElem?_take_of_lt hjn] at hj
      simpa using hj
    have hr := run_append_grow (P := P) w t ty e i z U.h hi hz ⟨g', 0, none⟩ n cap xs (by rw [hs]; omega) holds ⟨b, 0, none⟩ 1 c [u] (by rw [hs]; rfl) hnews (by omega) (by omega) (growslice_fits (by omega) (by rw [hby']; have : (n + 1) * by' ≤ 1000000000000 * 8 := Nat.mul_le_mul h63 hby; omega))
    have hge := grownCap_ge w (n + 1) cap e
    have hcm := grownCap_le_maxLen w (n + 1) cap e (by unfold maxLen; omega)
    refine wr_val (v := .slice (some ⟨w.heap.size, 0, none⟩) (n + 1) (grownCap w (n + 1) cap e)) (w' := w.drew.alloc (.cells (xs.toArray ++ [u].toArray ++ Builtin.zeroCells z.cells (grownCap w (n + 1) cap e - (n + 1))) e)) hw ?_ (kk _ _ ⟨by simp [hl], w.heap.size, _, _, (0, 0), rfl, hbase, heap_alloc_new w.drew _, hge, hcm, ?_, ?_, .inl rfl⟩ ⟨rfl, rfl, rfl, by simp, fun k hk _ => heap_alloc_old w.drew _ k hk⟩)
    · simp only [execOp, resolve, invoke, builtin, Sem.run_bind, Sem.run_pure, Result.andThen_ok, List.map_toArray, List.map_cons, List.map_nil, hx, hy, hr]
    · simp only [Array.size_append, List.size_toArray, size_zeroCells, hzs, hl, List.length_cons, List.length_nil, Nat.mul_one]
      omega
    · simp only [Array.toList_append, List.append_assoc]
      rw [← List.append_assoc, List.take_left' (by simp [hl])]
end ops
end Go.V
