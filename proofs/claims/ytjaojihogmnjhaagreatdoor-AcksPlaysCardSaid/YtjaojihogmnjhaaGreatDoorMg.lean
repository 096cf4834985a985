/- Drawn regions of which the world's condition hangs on what is done: SL (what is done) holds between. -/
import Derived.Test.YtjaojihogmnjhaaGreatDoorMf
namespace Go.V.L
open Go.RowKit
set_option linter.unusedVariables false
set_option linter.unusedSimpArgs false

section
variable {P : Program} {ops : Array Oper} {SL : (Nat → Bool) → World → Prop}
def Clo (ops : Array Oper) (L : Nat → Bool) : Prop := ∀ j p, L j = true → ops[j]? = some p → ∀ e ∈ p.after.toList, Region.binds .any e = true → L e.on = true
/-- Operation number i, from frame f, whatever is done of what it need not wait for: leaves v. -/
def One (P : Program) (ops : Array Oper) (SL : (Nat → Bool) → World → Prop) (i : Nat) (f : Env) (o : Oper) (v : Value) : Prop := ∀ (L : Nat → Bool) (w : World), L i = false → Clo ops L → (∀ e ∈ o.after.toList, Region.binds .any e = true → L e.on = true) → SL L w → Wr P ops (fun _ _ f' w' => f' = setO f o.dst v ∧ SL (fun j => L j || Nat.beq j i) w') [] [o] f w
/-- The operations in the text's order. -/
def Ch (P : Program) (ops : Array Oper) (SL : (Nat → Bool) → World → Prop) (K : Env → Prop) : List Oper → Nat → Env → Prop
  | [], _, f => K f
  | o :: rest, i, f => ∃ v, One P ops SL i f o v ∧ Ch P ops SL K rest (i + 1) (setO f o.dst v)
theorem ch_nil {K : Env → Prop} {i : Nat} {f : Env} (h : K f) : Ch P ops SL K [] i f := h
theorem ch_step {K : Env → Prop} {o : Oper} {rest : List Oper} {i : Nat} {f : Env} {v : Value} (h : One P ops SL i f o v) (hr : Ch P ops SL K rest (i + 1) (setO f o.dst v)) : Ch P ops SL K (o :: rest) i f := ⟨v, h, hr⟩
/-- What the text's order shows of each operation. -/
theorem Ch.all {K : Env → Prop} (hops : ROk ops) : ∀ (l : List Oper) (k : Nat) (f g : Env), (∀ i, l[i]? = ops[k + i]?) → k + l.length = ops.size → (∀ F : Env, (∀ s, (∀ j p, k ≤ j → ops[j]? = some p → p.dst ≠ some s) → F s = g s) → mix ops f F (fun j => Nat.blt j k) = g) → Ch P ops SL K l k g →
    ∃ F, K F ∧ (∀ s, (∀ j p, k ≤ j → ops[j]? = some p → p.dst ≠ some s) → F s = g s) ∧ mix ops f F (fun j => Nat.blt j ops.size) = F ∧ ∀ i o, k ≤ i → ops[i]? = some o → ∃ v, One P ops SL i (mix ops f F (fun j => Nat.blt j i)) o v ∧ ∀ d, o.dst = some d → F d = v
  | [], k, f, g, hl, hk, hmix, hch => by
    refine ⟨g, hch, fun _ _ => rfl, ?_, fun i o hi ho => ?_⟩
    · simp only [List.length_nil, Nat.add_zero] at hk
      rw [← hk]; exact hmix g fun _ _ => rfl
    · have := (Array.getElem?_eq_some_iff.1 ho).1
      simp at hk; omega
  | o :: l, k, f, g, hl, hk, hmix, hch => by
    obtain ⟨v, h1, h2⟩ := hch
    have ho : ops[k]? = some o := by have := hl 0; simpa using this.symm
    have step : ∀ F : Env, (∀ s, (∀ j p, k + 1 ≤ j → ops[j]? = some p → p.dst ≠ some s) → F s = setO g o.dst v s) → (mix ops f F (fun j => Nat.blt j k) = g) ∧ ∀ d, o.dst = some d → F d = v := by
      intro F hF
      constructor
      · refine hmix F fun s hs => ?_
        rw [hF s fun j p hj => hs j p (by omega)]
        cases hd : o.dst with
        | none => rfl
        | some d => exact Env.set_ne _ _ (by rintro rfl; exact hs k o (Nat.le_refl _) ho hd)
      · intro d hd
        rw [hF d fun j p hj hp hpd => by have := hops.one k j o p d ho hp hpd hd; omega, hd]
        exact Env.set_same _ _ _
    have hsucc : (fun j => Nat.blt j k || Nat.beq j k) = fun j => Nat.blt j (k + 1) := by
      funext j
      apply Bool.eq_iff_iff.2
      simp only [Bool.or_eq_true, Nat.beq_eq, Nat.blt_eq]
      omega
    obtain ⟨F, hK, hF, hFF, hall⟩ := Ch.all hops l (k + 1) f (setO g o.dst v) (fun i => by have := hl (i + 1); simp only [List.getElem?_cons_succ] at this; rw [this]; congr 1; omega) (by simp at hk; omega) (fun F hF => by
      obtain ⟨e1, e2⟩ := step F hF
      have := mix_step (f := f) (F := F) (L := fun j => Nat.blt j k) ho e2
      rw [e1, hsucc] at this
      exact this.symm) h2
    obtain ⟨e1, e2⟩ := step F hF
    refine ⟨F, hK, fun s hs => ?_, hFF, fun i o' hi ho' => ?_⟩
    · rw [hF s fun j p hj => hs j p (by omega)]
      cases hd : o.dst with
      | none => rfl
      | some d => exact Env.set_ne _ _ (by rintro rfl; exact hs k o (Nat.le_refl _) ho hd)
    · rcases Nat.eq_or_lt_of_le hi with rfl | hlt
      · rw [ho] at ho'; cases ho'
        exact ⟨v, by rw [e1]; exact h1, e2⟩
      · exact hall i o' (by omega) ho'

theorem wr_any {Q : Post} {ds : List Deferred} {f F : Env} (hops : ROk ops) (hFF : mix ops f F (fun j => Nat.blt j ops.size) = F) (hall : ∀ i o, ops[i]? = some o → ∃ v, One P ops SL i (mix ops f F (fun j => Nat.blt j i)) o v ∧ ∀ d, o.dst = some d → F d = v) (hQ : ∀ w', SL (fun j => Nat.blt j ops.size) w' → Q .normal ds F w') :
    ∀ (fuel t : Nat) (listed : Array Bool) (w : World), listed.size = ops.size → cnt (fun j => listed.getD j false) ops.size ≤ fuel →
      (∀ j p, listed.getD j false = true → ops[j]? = some p → ∀ e ∈ p.after.toList, Region.binds .any e = true → listed.getD e.on false = true) → SL (fun j => listed.getD j false) w →
      Wr P ops Q ds ((Region.linearise.go .any ops fuel t listed []).filterMap (ops[·]?)) (mix ops f F (fun j => listed.getD j false)) w := by
  have fin : ∀ (listed : Array Bool) (w : World), listed.size = ops.size → (∀ i, i < ops.size → listed.getD i false = true) → SL (fun j => listed.getD j false) w → Wr P ops Q ds [] (mix ops f F (fun j => listed.getD j false)) w := by
    intro listed w hsz hl hS
    have hfun : (fun j => listed.getD j false) = fun j => Nat.blt j ops.size := by
      funext j
      by_cases hj : j < ops.size
      · rw [hl j hj]; exact (show Nat.blt j ops.size = true by rw [Nat.blt_eq]; exact hj).symm
      · rw [nblt_false (Nat.le_of_not_lt hj)]; simp [Array.getD_eq_getD_getElem?, Array.getElem?_eq_none (show listed.size ≤ j by omega)]
    have : mix ops f F (fun j => listed.getD j false) = F := by
      rw [← hFF]; funext s
      rw [hFF]
      conv => rhs; rw [← hFF]
      exact mix_congr fun j p hj _ => by
        have hlt := (Array.getElem?_eq_some_iff.1 hj).1
        rw [hl j hlt]; simp [hlt]
    rw [this]; exact wr_nil (hQ w (by rw [← hfun]; exact hS))
  intro fuel
  induction fuel with
  | zero =>
    intro t listed w hsz hc hcl hS
    exact fin listed w hsz (fun i hi => cnt_zero (L := fun j => listed.getD j false) ops.size (Nat.le_zero.1 hc) i hi) hS
  | succ fuel ih =>
    intro t listed w hsz hc hcl hS
    simp only [Region.linearise.go]
    generalize hrs : ((List.range ops.size).filter fun i => !listed.getD i true && ((ops[i]?).map (·.after.all fun e => !Region.binds .any e || listed.getD e.on false)).getD false) = rs
    have hgd : ∀ i, i < ops.size → listed.getD i true = listed.getD i false := by
      intro i hi
      simp [Array.getD_eq_getD_getElem?, hsz, hi]
    cases hi : rs[t % rs.length]? with
    | none =>
      have hnil : rs = [] := by
        cases rs with
        | nil => rfl
        | cons x xs =>
          have hlt : t % (x :: xs).length < (x :: xs).length := Nat.mod_lt _ (by simp)
          rw [List.getElem?_eq_none_iff] at hi
          omega
      refine fin listed w hsz ?_ hS
      -- the least that is not listed would be ready
      have : ∀ k, k ≤ ops.size → ∀ i, i < k → listed.getD i false = true := by
        intro k
        induction k with
        | zero => intro _ i hi; omega
        | succ k ihk =>
          intro hk i hik
          rcases Nat.lt_or_eq_of_le (Nat.le_of_lt_succ hik) with hlt | rfl
          · exact ihk (by omega) i hlt
          · cases hL : listed.getD i false with
            | true => rfl
            | false =>
              exfalso
              have hmem : i ∈ rs := by
                rw [← hrs, List.mem_filter]
                refine ⟨List.mem_range.2 (by omega), ?_⟩
                obtain ⟨o, ho⟩ : ∃ o, ops[i]? = some o := ⟨ops[i]'(by omega), by simp [show i < ops.size by omega]⟩
                rw [hgd i (by omega), hL, ho]
                simp only [Bool.not_false, Bool.true_and, Option.map_some, Option.getD_some]
                rw [← Array.all_toList]
                refine List.all_eq_true.2 fun e he => ?_
                cases hb : Region.binds .any e with
                | false => rfl
                | true =>
                  have := hops.low i o ho e he hb
                  rw [ihk (by omega) e.on this]; rfl
              rw [hnil] at hmem; cases hmem
      exact this ops.size (Nat.le_refl _)
    | some i =>
      have hmem : i ∈ rs := List.mem_of_getElem? hi
      rw [← hrs, List.mem_filter] at hmem
      obtain ⟨hir, hib⟩ := hmem
      have hisz : i < ops.size := List.mem_range.1 hir
      obtain ⟨o, ho⟩ : ∃ o, ops[i]? = some o := ⟨ops[i], by simp [hisz]⟩
      rw [hgd i hisz, ho] at hib
      simp only [Bool.and_eq_true, Bool.not_eq_true', Option.map_some, Option.getD_some] at hib
      obtain ⟨hun, hready⟩ := hib
      rw [← Array.all_toList] at hready
      have hedge : ∀ e ∈ o.after.toList, Region.binds .any e = true → listed.getD e.on false = true := by
        intro e he hb
        have := List.all_eq_true.1 hready e he
        simpa [hb] using this
      dsimp only
      rw [linearise_go_acc, List.reverse_singleton, List.singleton_append, List.filterMap_cons, ho]
      obtain ⟨v, hone, hFd⟩ := hall i o ho
      -- the frame as the operation sees it
      have hsee : ∀ d, looks ops o d = true → mix ops f F (fun j => listed.getD j false) d = mix ops f F (fun j => Nat.blt j i) d := by
        intro d hd
        refine mix_congr fun j p hj hp => ?_
        rcases hops.see i j o p d ho hj hp hd with rfl | ⟨e, he, hb, rfl⟩ | ⟨e, he, hb, rfl⟩
        · rw [hun, nblt_irrefl]
        · have := hops.low i o ho e he hb
          rw [hedge e he hb]; simp [this]
        · have := hops.low j p hj e he hb
          cases hL : listed.getD j false with
          | false => exact (nblt_false (by omega)).symm
          | true =>
            have := hcl j p hL hj e he hb
            rw [hun] at this; cases this
      obtain ⟨c1, c2⟩ := looks_congr (o := o) hsee (hops.sel i o ho)
      have hframe : setO (mix ops f F (fun j => listed.getD j false)) o.dst v = mix ops f F (fun j => (listed.setIfInBounds i true).getD j false) := by
        rw [mix_step ho hFd]
        funext s
        refine mix_congr fun j p _ _ => ?_
        by_cases hji : j = i
        · subst hji; simp [Array.getD_eq_getD_getElem?, hsz, hisz]
        · have : Nat.beq j i = false := by
            cases hb : Nat.beq j i with
            | false => rfl
            | true => exact absurd (Nat.eq_of_beq_eq_true hb) hji
          rw [this, Bool.or_false]
          simp [Array.getD_eq_getD_getElem?, Array.getElem?_setIfInBounds, Ne.symm hji]
      have hmono : ∀ j, listed.getD j false = true → (listed.setIfInBounds i true).getD j false = true := by
        intro j hj
        by_cases hji : j = i
        · subst hji; simp [Array.getD_eq_getD_getElem?, hsz, hisz]
        · simpa [Array.getD_eq_getD_getElem?, Array.getElem?_setIfInBounds, Ne.symm hji] using hj
      have hself : (listed.setIfInBounds i true).getD i false = true := by simp [Array.getD_eq_getD_getElem?, hsz, hisz]
      have next : ∀ w', SL (fun j => listed.getD j false || Nat.beq j i) w' → Wr P ops Q ds ((Region.linearise.go .any ops fuel (t / rs.length) (listed.setIfInBounds i true) []).filterMap (ops[·]?)) (setO (mix ops f F (fun j => listed.getD j false)) o.dst v) w' := by
        intro w' hS'
        rw [hframe]
        have hfun2 : (fun j => listed.getD j false || Nat.beq j i) = fun j => (listed.setIfInBounds i true).getD j false := by
          funext j
          by_cases hji : j = i
          · subst hji; simp [Array.getD_eq_getD_getElem?, hsz, hisz]
          · have : Nat.beq j i = false := by
              cases hb : Nat.beq j i with
              | false => rfl
              | true => exact absurd (Nat.eq_of_beq_eq_true hb) hji
            rw [this, Bool.or_false]
            simp [Array.getD_eq_getD_getElem?, Array.getElem?_setIfInBounds, Ne.symm hji]
        rw [hfun2] at hS'
        refine ih _ _ w' (by simpa using hsz) ?_ ?_ hS'
        · have := cnt_lt (L := fun j => listed.getD j false) (L' := fun j => (listed.setIfInBounds i true).getD j false) hmono hun hself ops.size hisz
          omega
        · intro j p hj hp e he hb
          by_cases hji : j = i
          · subst hji
            rw [ho] at hp; cases hp
            exact hmono _ (hedge e he hb)
          · have : listed.getD j false = true := by simpa [Array.getD_eq_getD_getElem?, Array.getElem?_setIfInBounds, Ne.symm hji] using hj
            exact hmono _ (hcl j p this hp e he hb)
      have h1 := hone (fun j => listed.getD j false) w hun (fun j p hj hp e he hb => hcl j p hj hp e he hb) hedge hS
      simp only [Wr] at h1 ⊢
      rw [c1, c2]
      cases hw : wantedE ops (mix ops f F (fun j => Nat.blt j i)) o with
      | false =>
        rw [hw] at h1
        simp only [cond_false] at h1 ⊢
        have hset : setO (mix ops f F (fun j => listed.getD j false)) o.dst undef = setO (mix ops f F (fun j => listed.getD j false)) o.dst v := by
          cases hd : o.dst with
          | none => rfl
          | some d =>
            have := congrFun h1.1 d
            rw [hd] at this
            have e : undef = v := by simpa [Env.set_same] using this
            rw [e]
        rw [hset]; exact next w h1.2
      | true =>
        rw [hw] at h1
        simp only [cond_true] at h1 ⊢
        refine upE_mono ?_ h1
        rintro u w' ⟨hu, hS'⟩
        have hset : setO (mix ops f F (fun j => listed.getD j false)) o.dst u = setO (mix ops f F (fun j => listed.getD j false)) o.dst v := by
          cases hd : o.dst with
          | none => rfl
          | some d =>
            have := congrFun hu d
            rw [hd] at this
            have e : u = v := by simpa [Env.set_same] using this
            rw [e]
        rw [hset]; exact next w' hS'
/-- A region that draws its order, whose results do not hang on it: its operations are walked once, in the text's order, under S. -/
theorem wc_drawL {r : Option Nat} {n id : Nat} {Q : Post} {ds : List Deferred} {f : Env} {w : World} {l : List Oper} (SL : (Nat → Bool) → World → Prop) (hm : P.follows .mixedOrders = true) (hok : regionOk l.toArray = true) (hS : SL (fun _ => false) w.drew)
    (h : Ch P l.toArray SL (fun F => ∀ w', SL (fun j => Nat.blt j l.length) w' → Q .normal ds F w') l 0 f) : Wc r P n (.region id l.toArray true) Q ds f w := by
  refine wc_draw fun t => ?_
  obtain ⟨F, hK, _, hFF, hall⟩ := Ch.all (ROk.of hok) l 0 f f (fun i => by simp) (by simp) (fun F hF => by
    funext s
    unfold mix
    rw [if_neg]
    rintro ⟨j, p, h1, _⟩
    simp at h1) h
  simp only [Region.schedule, hm, Bool.true_or, if_true, Region.linearise]
  have := wr_any (Q := Q) (ds := ds) (ROk.of hok) hFF (fun i o ho => hall i o (Nat.zero_le _) ho) hK l.toArray.size t (Array.replicate l.toArray.size false) w.drew (by simp) (cnt_max _ _) (by intro j p hj; simp [Array.getD_eq_getD_getElem?, Array.getElem?_replicate] at hj; split at hj <;> simp_all) (by
      have : (fun j => (Array.replicate l.toArray.size false).getD j false) = fun _ => false := by
        funext j; simp only [Array.getD_eq_getD_getElem?, Array.getElem?_replicate]; split <;> rfl
      rw [this]; exact hS)
  have he : mix l.toArray f F (fun j => (Array.replicate l.toArray.size false).getD j false) = f := by
    funext s
    unfold mix
    rw [if_neg]
    rintro ⟨j, p, h1, _⟩
    simp only [Array.getD_eq_getD_getElem?, Array.getElem?_replicate] at h1
    split at h1 <;> simp at h1
  rw [he] at this
  exact this
end
/-- One operation lays a block (a), one writes it (s); all others read only. -/
def tri (a s : Nat) (w1 w2 w3 : World) : (Nat → Bool) → World → Prop := fun L w => w = (bif L s then w3 else bif L a then w2 else w1)
section
variable {P : Program} {ops : Array Oper} {a s i : Nat} {w1 w2 w3 : World} {f : Env} {o : Oper} {v : Value}
theorem wr_post {Q Q' : Post} {ds : List Deferred} {w : World} (h : Wr P ops Q ds [o] f w) (hq : ∀ f' w', Q .normal ds f' w' → Q' .normal ds f' w') : Wr P ops Q' ds [o] f w := by
  simp only [Wr] at h ⊢
  cases hw : wantedE ops f o with
  | false => rw [hw] at h; exact hq _ _ h
  | true => rw [hw] at h; exact upE_mono (fun v w h => hq _ _ h) h
theorem one_read (hk2 : Keeps NoB w1 w2) (hk3 : Keeps NoB w1 w3) (ha : Nat.beq a i = false) (hs : Nat.beq s i = false) (h : ∀ w, Keeps NoB w1 w → Wr P ops (fun _ _ f' w' => f' = setO f o.dst v ∧ w' = w) [] [o] f w) : One P ops (tri a s w1 w2 w3) i f o v := by
  intro L w hL hC hd hS
  have hk : Keeps NoB w1 w := by
    unfold tri at hS
    rw [hS]
    cases L s
    · cases L a
      · exact Keeps.refl _ _
      · exact hk2
    · exact hk3
  refine wr_post (h w hk) ?_
  rintro f' w' ⟨h1, rfl⟩
  refine ⟨h1, ?_⟩
  unfold tri at hS ⊢
  dsimp only
  rw [ha, hs, Bool.or_false, Bool.or_false]
  exact hS
theorem one_alloc (hdep : (match ops[s]? with | some p => edgeTo p a | none => false) = true) (hsa : Nat.beq s a = false) (h : Wr P ops (fun _ _ f' w' => f' = setO f o.dst v ∧ w' = w2) [] [o] f w1) : One P ops (tri a s w1 w2 w3) a f o v := by
  intro L w hL hC hd hS
  have hLs : L s = false := by
    cases hc : L s with
    | false => rfl
    | true =>
      exfalso
      cases hp : ops[s]? with
      | none => rw [hp] at hdep; cases hdep
      | some p =>
        rw [hp] at hdep
        obtain ⟨e, h1, h2, h3⟩ := edgeTo_spec hdep
        have := hC s p hc hp e h1 h2
        rw [h3, hL] at this
        cases this
  have hw : w = w1 := by unfold tri at hS; rw [hS, hLs, hL]; rfl
  subst hw
  refine wr_post h ?_
  rintro f' w' ⟨h1, rfl⟩
  refine ⟨h1, ?_⟩
  unfold tri
  dsimp only
  rw [hLs, hsa, Nat.beq_refl, Bool.or_true]
  rfl
theorem one_store (hdep : edgeTo o a = true) (h : Wr P ops (fun _ _ f' w' => f' = setO f o.dst v ∧ w' = w3) [] [o] f w2) : One P ops (tri a s w1 w2 w3) s f o v := by
  intro L w hL hC hd hS
  obtain ⟨e, h1, h2, h3⟩ := edgeTo_spec hdep
  have hLa : L a = true := by rw [← h3]; exact hd e h1 h2
  have hw : w = w2 := by unfold tri at hS; rw [hS, hL, hLa]; rfl
  subst hw
  refine wr_post h ?_
  rintro f' w' ⟨h1, rfl⟩
  refine ⟨h1, ?_⟩
  unfold tri
  dsimp only
  rw [Nat.beq_refl, Bool.or_true]
  rfl
theorem tri_end {n : Nat} {w : World} (h : tri a s w1 w2 w3 (fun j => Nat.blt j n) w) (hs : Nat.blt s n = true) : w = w3 := by
  unfold tri at h
  rw [h]
  dsimp only
  rw [hs]; rfl
end
end Go.V.L

namespace Go.V.L
open Go.RowKit
set_option linter.unusedVariables false
set_option linter.unusedSimpArgs false

def duo (w0 : World) (s1 s2 b1 b2 : Nat) (o1 o2 n1 n2 : Obj) : (Nat → Bool) → World → Prop := fun L w =>
  Keeps (fun q => q = b1 ∨ q = b2) w0 w ∧ w.heap[b1]? = some (bif L s1 then n1 else o1) ∧ w.heap[b2]? = some (bif L s2 then n2 else o2)
section
variable {P : Program} {ops : Array Oper} {s1 s2 b1 b2 i : Nat} {w0 : World} {o1 o2 n1 n2 : Obj} {f : Env} {o : Oper} {v : Value}
theorem duo_read (h1 : Nat.beq s1 i = false) (h2 : Nat.beq s2 i = false) (h : ∀ w, Keeps (fun q => q = b1 ∨ q = b2) w0 w → Wr P ops (fun _ _ f' w' => f' = setO f o.dst v ∧ Keeps NoB w w') [] [o] f w) : One P ops (duo w0 s1 s2 b1 b2 o1 o2 n1 n2) i f o v := by
  intro L w hL hC hd hS
  obtain ⟨hk, hb1, hb2⟩ := hS
  refine wr_post (h w hk) ?_
  rintro f' w' ⟨e, k⟩
  refine ⟨e, hk.trans k.upD, ?_, ?_⟩
  · dsimp only
    rw [h1, Bool.or_false]
    exact k.heap hb1 (fun h => h)
  · dsimp only
    rw [h2, Bool.or_false]
    exact k.heap hb2 (fun h => h)
theorem duo_st1 (hbb : b1 ≠ b2) (hs : Nat.beq s2 s1 = false) (h : ∀ w, Keeps (fun q => q = b1 ∨ q = b2) w0 w → w.heap[b1]? = some o1 → Wr P ops (fun _ _ f' w' => f' = setO f o.dst v ∧ w' = w.putObj b1 n1) [] [o] f w) : One P ops (duo w0 s1 s2 b1 b2 o1 o2 n1 n2) s1 f o v := by
  intro L w hL hC hd hS
  obtain ⟨hk, hb1, hb2⟩ := hS
  rw [hL] at hb1
  refine wr_post (h w hk hb1) ?_
  rintro f' w' ⟨e, rfl⟩
  refine ⟨e, hk.put _ (fun _ => .inl rfl), ?_, ?_⟩
  · dsimp only
    rw [Nat.beq_refl, Bool.or_true]
    exact World.putObj_heap_same (lt_of_heap hb1)
  · dsimp only
    rw [hs, Bool.or_false]
    exact Keeps.heap ((Keeps.refl (· = b1) w).put n1 (fun _ => rfl)) hb2 (fun e => hbb e.symm)
theorem duo_st2 (hbb : b1 ≠ b2) (hs : Nat.beq s1 s2 = false) (h : ∀ w, Keeps (fun q => q = b1 ∨ q = b2) w0 w → w.heap[b2]? = some o2 → Wr P ops (fun _ _ f' w' => f' = setO f o.dst v ∧ w' = w.putObj b2 n2) [] [o] f w) : One P ops (duo w0 s1 s2 b1 b2 o1 o2 n1 n2) s2 f o v := by
  intro L w hL hC hd hS
  obtain ⟨hk, hb1, hb2⟩ := hS
  rw [hL] at hb2
  refine wr_post (h w hk hb2) ?_
  rintro f' w' ⟨e, rfl⟩
  refine ⟨e, hk.put _ (fun _ => .inr rfl), ?_, ?_⟩
  · dsimp only
    rw [hs, Bool.or_false]
    exact Keeps.heap ((Keeps.refl (· = b2) w).put n2 (fun _ => rfl)) hb1 (fun e => hbb e)
  · dsimp only
    rw [Nat.beq_refl, Bool.or_true]
    exact World.putObj_heap_same (lt_of_heap hb2)
theorem duo_end {n : Nat} {w : World} (h : duo w0 s1 s2 b1 b2 o1 o2 n1 n2 (fun j => Nat.blt j n) w) (h1 : Nat.blt s1 n = true) (h2 : Nat.blt s2 n = true) : Keeps (fun q => q = b1 ∨ q = b2) w0 w ∧ w.heap[b1]? = some n1 ∧ w.heap[b2]? = some n2 := by
  obtain ⟨hk, hb1, hb2⟩ := h
  dsimp only at hb1 hb2
  rw [h1] at hb1
  rw [h2] at hb2
  exact ⟨hk, hb1, hb2⟩
end
/-- One store only. -/
def mono1 (w0 : World) (s b : Nat) (o n : Obj) : (Nat → Bool) → World → Prop := fun L w => Keeps (fun q => q = b) w0 w ∧ w.heap[b]? = some (bif L s then n else o)
section
variable {P : Program} {ops : Array Oper} {s b i : Nat} {w0 : World} {o' n : Obj} {f : Env} {o : Oper} {v : Value}
theorem mono_read (h1 : Nat.beq s i = false) (h : ∀ w, Keeps (fun q => q = b) w0 w → Wr P ops (fun _ _ f' w' => f' = setO f o.dst v ∧ Keeps NoB w w') [] [o] f w) : One P ops (mono1 w0 s b o' n) i f o v := by
  intro L w hL hC hd hS
  obtain ⟨hk, hb1⟩ := hS
  refine wr_post (h w hk) ?_
  rintro f' w' ⟨e, k⟩
  refine ⟨e, hk.trans k.upD, ?_⟩
  dsimp only
  rw [h1, Bool.or_false]
  exact k.heap hb1 (fun h => h)
theorem mono_st (h : ∀ w, Keeps (fun q => q = b) w0 w → w.heap[b]? = some o' → Wr P ops (fun _ _ f' w' => f' = setO f o.dst v ∧ w' = w.putObj b n) [] [o] f w) : One P ops (mono1 w0 s b o' n) s f o v := by
  intro L w hL hC hd hS
  obtain ⟨hk, hb1⟩ := hS
  rw [hL] at hb1
  refine wr_post (h w hk hb1) ?_
  rintro f' w' ⟨e, rfl⟩
  refine ⟨e, hk.put _ (fun _ => rfl), ?_⟩
  dsimp only
  rw [Nat.beq_refl, Bool.or_true]
  exact World.putObj_heap_same (lt_of_heap hb1)
theorem mono_end {k : Nat} {w : World} (h : mono1 w0 s b o' n (fun j => Nat.blt j k) w) (h1 : Nat.blt s k = true) : Keeps (fun q => q = b) w0 w ∧ w.heap[b]? = some n := by
  obtain ⟨hk, hb1⟩ := h
  dsimp only at hb1
  rw [h1] at hb1
  exact ⟨hk, hb1⟩
end
end Go.V.L

namespace Go.V.E
open Go.RowKit
set_option linter.unusedVariables false
set_option linter.unusedSimpArgs false

/-- What may have been written when operation i is done: by those that do not wait for it. -/
def monE (E : Nat → Nat → Prop) (B : Nat) (i : Nat) : Nat → Prop := fun q => ∃ j, E j q ∧ (Nat.beq i j || bef B j i) = false
/-- What others may write. -/
def othE (E : Nat → World → Nat → Prop) (i : Nat) (w : World) : Nat → Prop := fun q => ∃ j, j ≠ i ∧ E j w q
def allE (E : Nat → Nat → Prop) : Nat → Prop := fun q => ∃ j, E j q
def lisE (E : Nat → Nat → Prop) (listed : Array Bool) : Nat → Prop := fun q => ∃ j, listed.getD j false = true ∧ E j q
theorem lis_all {E : Nat → Nat → Prop} {listed : Array Bool} {q : Nat} (h : lisE E listed q) : allE E q := by
  obtain ⟨j, _, h⟩ := h
  exact ⟨j, h⟩
section
variable {P : Program} {ops : Array Oper}
/-- The operations in the text's order; each leaves v of what those before it left; A tells of what it left itself. -/
def ChP (E : Nat → World → Nat → Prop) (E0 : Nat → Nat → Prop) (P : Program) (ops : Array Oper) (B : Nat) (w0 : World) (K : (Prm → Env) → (Nat → Fact) → Prop) : List Oper → Nat → (Prm → Env) → (Nat → Fact) → Prop
  | [], _, f, fa => K f fa
  | o :: rest, i, f, fa => ∃ (v : Prm → Value) (A : Value → World → Prop), (∀ x y : Prm, (∀ j, bef B i j = true ∨ j = i → x j = y j) → v x = v y) ∧ (∀ y w w', A y w → Keeps (othE E i w) w w' → A y w') ∧
      (∀ (x : Prm) w, Keeps (monE E0 B i) w0 w → (∀ j, bef B i j = true → fa j x w) → Wr P ops (fun _ _ f' w' => ∃ y, f' = setO (f x) o.dst (v (upd x i y)) ∧ A y w' ∧ Keeps (E i w) w w') [] [o] (f x) w) ∧
      ChP E E0 P ops B w0 K rest (i + 1) (fun x => setO (f x) o.dst (v x)) (updF fa i A)
variable {E : Nat → World → Nat → Prop} {E0 : Nat → Nat → Prop} {B : Nat} {w0 : World} {K : (Prm → Env) → (Nat → Fact) → Prop}
theorem chP_nil {i : Nat} {f : Prm → Env} {fa : Nat → Fact} (h : K f fa) : ChP E E0 P ops B w0 K [] i f fa := h
/-- One whose result does not hang on the world. -/
theorem chP_pure {o : Oper} {rest : List Oper} {i : Nat} {f : Prm → Env} {fa : Nat → Fact} {v : Prm → Value} (h : ∀ (x : Prm) w, Keeps (monE E0 B i) w0 w → (∀ j, bef B i j = true → fa j x w) → Wr P ops (fun _ _ f' w' => f' = setO (f x) o.dst (v x) ∧ Keeps (E i w) w w') [] [o] (f x) w)
    (hl : ∀ x y : Prm, (∀ j, bef B i j = true → x j = y j) → v x = v y) (hni : bef B i i = false)
    (hr : ChP E E0 P ops B w0 K rest (i + 1) (fun x => setO (f x) o.dst (v x)) (updF fa i fun _ _ => True)) : ChP E E0 P ops B w0 K (o :: rest) i f fa := by
  refine ⟨v, fun _ _ => True, fun x y hxy => hl x y fun j hj => hxy j (.inl hj), fun _ _ _ h _ => h, fun x w hk hf => ?_, hr⟩
  have h1 := h x w hk hf
  have hv : v (upd x i undef) = v x := hl _ _ fun j hj => upd_ne _ _ (by rintro rfl; rw [hni] at hj; cases hj)
  simp only [Wr] at h1 ⊢
  cases hw : wantedE ops (f x) o with
  | false =>
    rw [hw] at h1
    exact ⟨undef, by rw [hv]; exact h1.1, True.intro, h1.2⟩
  | true =>
    rw [hw] at h1
    exact upE_mono (fun u w' hu => ⟨undef, by rw [hv]; exact hu.1, True.intro, hu.2⟩) h1
/-- One that tells A of what it left. -/
theorem chP_fact {o : Oper} {rest : List Oper} {i : Nat} {f : Prm → Env} {fa : Nat → Fact} (F : Value → Value) (A : Value → World → Prop) (hA : ∀ y w w', A y w → Keeps (othE E i w) w w' → A y w')
    (h : ∀ (x : Prm) w, Keeps (monE E0 B i) w0 w → (∀ j, bef B i j = true → fa j x w) → Wr P ops (fun _ _ f' w' => ∃ y, f' = setO (f x) o.dst (F y) ∧ A y w' ∧ Keeps (E i w) w w') [] [o] (f x) w)
    (hr : ChP E E0 P ops B w0 K rest (i + 1) (fun x => setO (f x) o.dst (F (x i))) (updF fa i A)) : ChP E E0 P ops B w0 K (o :: rest) i f fa :=
  ⟨fun x => F (x i), A, fun x y hxy => congrArg F (hxy i (.inr rfl)), hA, fun x w hk hf => by simpa only [upd_same] using h x w hk hf, hr⟩

/-- What the text's order shows of each operation. -/
theorem ChP.all (hops : ROk ops) (hB : masksOk ops B = true) {f : Env} {m : Nat} : ∀ (l : List Oper) (k : Nat) (g : Prm → Env) (fa : Nat → Fact), (∀ i, i < l.length → l[i]? = ops[k + i]?) → k + l.length = m →
    (∀ G : Prm → Env, (∀ x s, (∀ j p, k ≤ j → j < m → ops[j]? = some p → p.dst ≠ some s) → G x s = g x s) → ∀ x, mix ops f (G x) (fun j => Nat.blt j k) = g x) → ChP E E0 P ops B w0 K l k g fa →
    ∃ (G : Prm → Env) (FA : Nat → Fact), K G FA ∧ (∀ x s, (∀ j p, k ≤ j → j < m → ops[j]? = some p → p.dst ≠ some s) → G x s = g x s) ∧ (∀ j, j < k → FA j = fa j) ∧ (∀ x, mix ops f (G x) (fun j => Nat.blt j m) = G x) ∧
      ∀ i o, k ≤ i → i < m → ops[i]? = some o → ∃ (v : Prm → Value) (A : Value → World → Prop), (∀ x y : Prm, (∀ j, bef B i j = true ∨ j = i → x j = y j) → v x = v y) ∧ (∀ y w w', A y w → Keeps (othE E i w) w w' → A y w') ∧ (FA i = fun x w => A (x i) w) ∧ (∀ x d, o.dst = some d → G x d = v x) ∧
        ∀ (x : Prm) w, Keeps (monE E0 B i) w0 w → (∀ j, bef B i j = true → FA j x w) → Wr P ops (fun _ _ f' w' => ∃ y, f' = setO (mix ops f (G x) (fun j => Nat.blt j i)) o.dst (v (upd x i y)) ∧ A y w' ∧ Keeps (E i w) w w') [] [o] (mix ops f (G x) (fun j => Nat.blt j i)) w
  | [], k, g, fa, hl, hk, hmix, hch => by
    simp only [List.length_nil, Nat.add_zero] at hk
    exact ⟨g, fa, hch, fun _ _ _ => rfl, fun _ _ => rfl, by rw [← hk]; exact hmix g fun _ _ _ => rfl, fun i o hi hi' ho => by omega⟩
  | o :: l, k, g, fa, hl, hk, hmix, hch => by
    obtain ⟨v, A, hloc, hmono, h1, h2⟩ := hch
    simp only [List.length_cons] at hk
    have ho : ops[k]? = some o := by have := hl 0 (by simp); simpa using this.symm
    have step : ∀ G : Prm → Env, (∀ x s, (∀ j p, k + 1 ≤ j → j < m → ops[j]? = some p → p.dst ≠ some s) → G x s = setO (g x) o.dst (v x) s) → (∀ x, mix ops f (G x) (fun j => Nat.blt j k) = g x) ∧ ∀ x d, o.dst = some d → G x d = v x := by
      intro G hG
      constructor
      · refine hmix G fun x s hs => ?_
        rw [hG x s fun j p hj hjm => hs j p (by omega) hjm]
        cases hd : o.dst with
        | none => rfl
        | some d => exact Env.set_ne _ _ (by rintro rfl; exact hs k o (Nat.le_refl _) (by omega) ho hd)
      · intro x d hd
        rw [hG x d fun j p hj hjm hp hpd => by have := hops.one k j o p d ho hp hpd hd; omega, hd]
        exact Env.set_same _ _ _
    have hsucc : (fun j => Nat.blt j k || Nat.beq j k) = fun j => Nat.blt j (k + 1) := by
      funext j
      apply Bool.eq_iff_iff.2
      simp only [Bool.or_eq_true, Nat.beq_eq, Nat.blt_eq]
      omega
    obtain ⟨G, FA, hK, hG, hFA, hGG, hall⟩ := ChP.all (f := f) (m := m) hops hB l (k + 1) (fun x => setO (g x) o.dst (v x)) (updF fa k A) (fun i hi => by have := hl (i + 1) (by simp; omega); simp only [List.getElem?_cons_succ] at this; rw [this]; congr 1; omega) (by omega) (fun G hG x => by
      obtain ⟨e1, e2⟩ := step G hG
      have := mix_step (f := f) (F := G x) (L := fun j => Nat.blt j k) ho (e2 x)
      rw [e1, hsucc] at this
      exact this.symm) h2
    obtain ⟨e1, e2⟩ := step G hG
    refine ⟨G, FA, hK, fun x s hs => ?_, fun j hj => ?_, hGG, fun i o' hi him ho' => ?_⟩
    · rw [hG x s fun j p hj hjm => hs j p (by omega) hjm]
      cases hd : o.dst with
      | none => rfl
      | some d => exact Env.set_ne _ _ (by rintro rfl; exact hs k o (Nat.le_refl _) (by omega) ho hd)
    · rw [hFA j (by omega), updF_ne _ _ (by omega)]
    · rcases Nat.eq_or_lt_of_le hi with rfl | hlt
      · rw [ho] at ho'; cases ho'
        refine ⟨v, A, hloc, hmono, by rw [hFA k (by omega), updF_same], e2, fun x w hk hf => ?_⟩
        rw [e1]
        refine h1 x w hk fun j hj => ?_
        have hjk := bef_lt hB hops ho hj
        have := hf j hj
        rwa [hFA j (by omega), updF_ne _ _ (by omega)] at this
      · exact hall i o' (by omega) him ho'

theorem wr_P (hE0 : ∀ (j : Nat) (w : World) (q : Nat), q < w0.heap.size → E j w q → E0 j q) {Q : Post} {ds : List Deferred} {f : Env} {G : Prm → Env} {FA : Nat → Fact} {m : Nat} (hops : ROk ops) (hB : masksOk ops B = true) (ht : tailOk ops.size m B = true) (hm : m ≤ ops.size)
    (hGG : ∀ x, mix ops f (G x) (fun j => Nat.blt j m) = G x)
    (hall : ∀ i o, i < m → ops[i]? = some o → ∃ (v : Prm → Value) (A : Value → World → Prop), (∀ x y : Prm, (∀ j, bef B i j = true ∨ j = i → x j = y j) → v x = v y) ∧ (∀ y w w', A y w → Keeps (othE E i w) w w' → A y w') ∧ (FA i = fun x w => A (x i) w) ∧ (∀ x d, o.dst = some d → G x d = v x) ∧
        ∀ (x : Prm) w, Keeps (monE E0 B i) w0 w → (∀ j, bef B i j = true → FA j x w) → Wr P ops (fun _ _ f' w' => ∃ y, f' = setO (mix ops f (G x) (fun j => Nat.blt j i)) o.dst (v (upd x i y)) ∧ A y w' ∧ Keeps (E i w) w w') [] [o] (mix ops f (G x) (fun j => Nat.blt j i)) w)
    (hQ : ∀ x w', Keeps (allE E0) w0 w' → (∀ j, j < m → FA j x w') → Wr P ops Q ds (ops.toList.drop m) (G x) w') :
    ∀ (fuel t : Nat) (listed : Array Bool) (x : Prm) (w : World), listed.size = ops.size → cnt (fun j => listed.getD j false) ops.size ≤ fuel →
      (∀ j p, listed.getD j false = true → ops[j]? = some p → ∀ e ∈ p.after.toList, Region.binds .any e = true → listed.getD e.on false = true) →
      (∀ j, m ≤ j → listed.getD j false = false) → Keeps (lisE E0 listed) w0 w → (∀ j, j < m → listed.getD j false = true → FA j x w) →
      Wr P ops Q ds ((Region.linearise.go .any ops fuel t listed []).filterMap (ops[·]?)) (mix ops f (G x) (fun j => listed.getD j false)) w := by
  have fin : ∀ (fuel t : Nat) (listed : Array Bool) (x : Prm) (w : World), listed.size = ops.size → cnt (fun j => listed.getD j false) ops.size ≤ fuel → (∀ j, m ≤ j → listed.getD j false = false) → (∀ j, j < m → listed.getD j false = true) → Keeps (allE E0) w0 w → (∀ j, j < m → listed.getD j false = true → FA j x w) →
      Wr P ops Q ds ((Region.linearise.go .any ops fuel t listed []).filterMap (ops[·]?)) (mix ops f (G x) (fun j => listed.getD j false)) w := by
    intro fuel t listed x w hsz hcn hno hyes hk hf
    have hl : ∀ j, listed.getD j false = Nat.blt j m := by
      intro j
      rcases Nat.lt_or_ge j m with h | h
      · rw [hyes j h]; symm; rw [Nat.blt_eq]; exact h
      · rw [hno j h, nblt_false h]
    have e : mix ops f (G x) (fun j => listed.getD j false) = G x := by
      rw [← hGG x]
      conv => rhs; rw [← hGG x]
      rw [hGG x]
      congr 1
      funext j; exact hl j
    rw [e]
    refine wr_tail hops hB ht fuel t listed m _ w hsz (fun j _ => hl j) (Nat.le_refl _) hm ?_ (hQ x w hk fun j hj => hf j hj (hyes j hj))
    have : ∀ k, m ≤ k → k - m ≤ cnt (fun j => listed.getD j false) k := by
      intro k
      induction k with
      | zero => intro _; simp
      | succ k ih =>
        intro hmk
        rcases Nat.eq_or_lt_of_le hmk with h | h
        · rw [h]; simp
        · have := ih (by omega)
          simp only [cnt, hno k (by omega), cond_false]; omega
    have := this ops.size hm
    omega
  intro fuel
  induction fuel with
  | zero =>
    intro t listed x w hsz hc hcl hno hk hf
    exact fin 0 t listed x w hsz hc hno (fun j hj => cnt_zero (L := fun j => listed.getD j false) ops.size (Nat.le_zero.1 hc) j (by omega)) (hk.mono fun q _ h => lis_all h) hf
  | succ fuel ih =>
    intro t listed x w hsz hc hcl hno hk hf
    by_cases hdone : ∀ j, j < m → listed.getD j false = true
    · exact fin (fuel + 1) t listed x w hsz hc hno hdone (hk.mono fun q _ h => lis_all h) hf
    simp only [Region.linearise.go]
    generalize hrs : ((List.range ops.size).filter fun i => !listed.getD i true && ((ops[i]?).map (·.after.all fun e => !Region.binds .any e || listed.getD e.on false)).getD false) = rs
    have hgd : ∀ i, i < ops.size → listed.getD i true = listed.getD i false := by
      intro i hi
      simp [Array.getD_eq_getD_getElem?, hsz, hi]
    cases hi : rs[t % rs.length]? with
    | none =>
      exfalso
      have hnil : rs = [] := by
        cases rs with
        | nil => rfl
        | cons x xs =>
          have hlt : t % (x :: xs).length < (x :: xs).length := Nat.mod_lt _ (by simp)
          rw [List.getElem?_eq_none_iff] at hi
          omega
      refine hdone ?_
      have : ∀ k, k ≤ ops.size → ∀ i, i < k → listed.getD i false = true := by
        intro k
        induction k with
        | zero => intro _ i hi; omega
        | succ k ihk =>
          intro hk' i hik
          rcases Nat.lt_or_eq_of_le (Nat.le_of_lt_succ hik) with hlt | rfl
          · exact ihk (by omega) i hlt
          · cases hL : listed.getD i false with
            | true => rfl
            | false =>
              exfalso
              have hmem : i ∈ rs := by
                rw [← hrs, List.mem_filter]
                refine ⟨List.mem_range.2 (by omega), ?_⟩
                obtain ⟨o, ho⟩ : ∃ o, ops[i]? = some o := ⟨ops[i]'(by omega), by simp [show i < ops.size by omega]⟩
                rw [hgd i (by omega), hL, ho]
                simp only [Bool.not_false, Bool.true_and, Option.map_some, Option.getD_some]
                rw [← Array.all_toList]
                refine List.all_eq_true.2 fun e he => ?_
                cases hb : Region.binds .any e with
                | false => rfl
                | true =>
                  have := hops.low i o ho e he hb
                  rw [ihk (by omega) e.on this]; rfl
              rw [hnil] at hmem; cases hmem
      exact fun j hj => this ops.size (Nat.le_refl _) j (by omega)
    | some i =>
      have hmem : i ∈ rs := List.mem_of_getElem? hi
      rw [← hrs, List.mem_filter] at hmem
      obtain ⟨hir, hib⟩ := hmem
      have hisz : i < ops.size := List.mem_range.1 hir
      obtain ⟨o, ho⟩ : ∃ o, ops[i]? = some o := ⟨ops[i], by simp [hisz]⟩
      rw [hgd i hisz, ho] at hib
      simp only [Bool.and_eq_true, Bool.not_eq_true', Option.map_some, Option.getD_some] at hib
      obtain ⟨hun, hready⟩ := hib
      rw [← Array.all_toList] at hready
      have hedge : ∀ e ∈ o.after.toList, Region.binds .any e = true → listed.getD e.on false = true := by
        intro e he hb
        have := List.all_eq_true.1 hready e he
        simpa [hb] using this
      have hbi : ∀ j, bef B i j = true → listed.getD j false = true ∧ j < i := fun j hj => bef_in hB hops (listed := fun j => listed.getD j false) hcl i o j ho hedge hj
      have him : i < m := by
        rcases Nat.lt_or_ge i m with h | h
        · exact h
        · exfalso
          exact hdone fun j hj => (hbi j (tail_bef ht hisz h (by omega))).1
      dsimp only
      rw [linearise_go_acc, List.reverse_singleton, List.singleton_append, List.filterMap_cons, ho]
      obtain ⟨v, A, hloc, hmono, hFAi, hGv, hone⟩ := hall i o him ho
      have hsee : ∀ d, looks ops o d = true → mix ops f (G x) (fun j => listed.getD j false) d = mix ops f (G x) (fun j => Nat.blt j i) d := by
        intro d hd
        refine mix_congr fun j p hj hp => ?_
        rcases hops.see i j o p d ho hj hp hd with rfl | ⟨e, he, hb, rfl⟩ | ⟨e, he, hb, rfl⟩
        · rw [hun, nblt_irrefl]
        · have := hops.low i o ho e he hb
          rw [hedge e he hb]; simp [this]
        · have := hops.low j p hj e he hb
          cases hL : listed.getD j false with
          | false => exact (nblt_false (by omega)).symm
          | true =>
            have := hcl j p hL hj e he hb
            rw [hun] at this; cases this
      obtain ⟨c1, c2⟩ := looks_congr (o := o) hsee (hops.sel i o ho)
      have hmon : ∀ j, listed.getD j false = true → (listed.setIfInBounds i true).getD j false = true := by
        intro j hj
        by_cases hji : j = i
        · subst hji; simp [Array.getD_eq_getD_getElem?, hsz, hisz]
        · simpa [Array.getD_eq_getD_getElem?, Array.getElem?_setIfInBounds, Ne.symm hji] using hj
      have hself : (listed.setIfInBounds i true).getD i false = true := by simp [Array.getD_eq_getD_getElem?, hsz, hisz]
      have hother : ∀ j, j ≠ i → (listed.setIfInBounds i true).getD j false = listed.getD j false := fun j hji => by simp [Array.getD_eq_getD_getElem?, Array.getElem?_setIfInBounds, Ne.symm hji]
      -- what those that are done left does not hang on what this one leaves
      have hold : ∀ (y : Value) (j : Nat) (p : Oper), listed.getD j false = true → ops[j]? = some p → ∀ d, p.dst = some d → G (upd x i y) d = G x d := by
        intro y j p hL hj d hd
        have hji : j ≠ i := by rintro rfl; rw [hun] at hL; cases hL
        have hjm : j < m := by
          rcases Nat.lt_or_ge j m with h | h
          · exact h
          · rw [hno j h] at hL; cases hL
        obtain ⟨v', _, hloc', _, _, hGv', _⟩ := hall j p hjm hj
        rw [hGv' _ d hd, hGv' _ d hd]
        refine hloc' _ _ fun j' hj' => upd_ne _ _ ?_
        rintro rfl
        rcases hj' with hj' | hj'
        · have := (bef_in hB hops (listed := fun j => listed.getD j false) hcl j p j' hj (fun e he hb => hcl j p hL hj e he hb) hj').1
          rw [hun] at this; cases this
        · exact hji hj'.symm
      have hframe : ∀ y, setO (mix ops f (G x) (fun j => listed.getD j false)) o.dst (v (upd x i y)) = mix ops f (G (upd x i y)) (fun j => (listed.setIfInBounds i true).getD j false) := by
        intro y
        have e1 : mix ops f (G x) (fun j => listed.getD j false) = mix ops f (G (upd x i y)) (fun j => listed.getD j false) := by
          funext s
          unfold mix
          by_cases hc : ∃ j p, listed.getD j false = true ∧ ops[j]? = some p ∧ p.dst = some s
          · rw [if_pos hc, if_pos hc]
            obtain ⟨j, p, h1, h2, h3⟩ := hc
            exact (hold y j p h1 h2 s h3).symm
          · rw [if_neg hc, if_neg hc]
        rw [e1, mix_step ho (fun d hd => hGv (upd x i y) d hd)]
        funext s
        refine mix_congr fun j p _ _ => ?_
        by_cases hji : j = i
        · subst hji; rw [hself]; simp
        · rw [hother j hji, nbeq_ne hji, Bool.or_false]
      have next : ∀ y w', A y w' → Keeps (E i w) w w' → Wr P ops Q ds ((Region.linearise.go .any ops fuel (t / rs.length) (listed.setIfInBounds i true) []).filterMap (ops[·]?)) (setO (mix ops f (G x) (fun j => listed.getD j false)) o.dst (v (upd x i y))) w' := by
        intro y w' hA hkw
        rw [hframe y]
        refine ih _ _ (upd x i y) w' (by simpa using hsz) ?_ ?_ ?_ ((hk.mono fun q _ h => by obtain ⟨j, hj, h⟩ := h; exact ⟨j, hmon _ hj, h⟩).trans' hkw (fun q hq h => ⟨i, hself, hE0 i w q hq h⟩)) ?_
        · have := cnt_lt (L := fun j => listed.getD j false) (L' := fun j => (listed.setIfInBounds i true).getD j false) hmon hun hself ops.size hisz
          omega
        · intro j p hj hp e he hb
          by_cases hji : j = i
          · subst hji
            rw [ho] at hp; cases hp
            exact hmon _ (hedge e he hb)
          · rw [hother j hji] at hj
            exact hmon _ (hcl j p hj hp e he hb)
        · intro j hj
          rw [hother j (by omega)]; exact hno j hj
        · intro j hjm hj
          by_cases hji : j = i
          · subst hji
            rw [hFAi]
            simp only [upd_same]; exact hA
          · rw [hother j hji] at hj
            have h0 := hf j hjm hj
            obtain ⟨p, hp⟩ : ∃ p, ops[j]? = some p := ⟨ops[j]'(by omega), by simp [show j < ops.size by omega]⟩
            obtain ⟨_, A', _, hmono', hFAj, _, _⟩ := hall j p hjm hp
            rw [hFAj] at h0 ⊢
            simp only [upd_ne _ _ hji]
            exact hmono' _ _ _ h0 (hkw.mono fun q _ h => ⟨i, fun e => hji e.symm, h⟩)
      have hkm : Keeps (monE E0 B i) w0 w := by
        refine hk.mono fun q _ h => ?_
        obtain ⟨k, hL, hE⟩ := h
        refine ⟨k, hE, ?_⟩
        cases hb : (Nat.beq i k || bef B k i) with
        | false => rfl
        | true =>
          exfalso
          rcases Bool.or_eq_true _ _ ▸ hb with h | h
          · have := Nat.eq_of_beq_eq_true h
            subst this
            rw [hun] at hL; cases hL
          · have hkm' : k < m := by
              rcases Nat.lt_or_ge k m with h' | h'
              · exact h'
              · rw [hno k h'] at hL; cases hL
            obtain ⟨p, hp⟩ : ∃ p, ops[k]? = some p := ⟨ops[k]'(by omega), by simp [show k < ops.size by omega]⟩
            have := (bef_in hB hops (listed := fun j => listed.getD j false) hcl k p i hp (fun e he hb => hcl k p hL hp e he hb) h).1
            rw [hun] at this; cases this
      have h1 := hone x w hkm fun j hj => by
        obtain ⟨h1, h2⟩ := hbi j hj
        exact hf j (by omega) h1
      simp only [Wr] at h1 ⊢
      rw [c1, c2]
      cases hw : wantedE ops (mix ops f (G x) (fun j => Nat.blt j i)) o with
      | false =>
        rw [hw] at h1
        obtain ⟨y, h2, h3, h4⟩ := h1
        have hset : setO (mix ops f (G x) (fun j => listed.getD j false)) o.dst undef = setO (mix ops f (G x) (fun j => listed.getD j false)) o.dst (v (upd x i y)) := by
          cases hd : o.dst with
          | none => rfl
          | some d =>
            have := congrFun h2 d
            rw [hd] at this
            have e : undef = v (upd x i y) := by simpa [Env.set_same] using this
            rw [e]
        show Wr P ops Q ds _ (setO (mix ops f (G x) (fun j => listed.getD j false)) o.dst undef) w
        rw [hset]; exact next y w h3 h4
      | true =>
        rw [hw] at h1
        refine upE_mono ?_ h1
        rintro u w' ⟨y, hu, hA, hkw⟩
        have hset : setO (mix ops f (G x) (fun j => listed.getD j false)) o.dst u = setO (mix ops f (G x) (fun j => listed.getD j false)) o.dst (v (upd x i y)) := by
          cases hd : o.dst with
          | none => rfl
          | some d =>
            have := congrFun hu d
            rw [hd] at this
            have e : u = v (upd x i y) := by simpa [Env.set_same] using this
            rw [e]
        rw [hset]; exact next y w' hA hkw
/-- A region that draws its order: its first m operations lay new blocks at most, but for one, which may write D; the others wait for all of them, and one for another. -/
theorem wc_drawE (E : Nat → World → Nat → Prop) (E0 : Nat → Nat → Prop) {r : Option Nat} {n id : Nat} {Q : Post} {ds : List Deferred} {f : Env} {w : World} {l : List Oper} (m : Nat) (B : Nat) (hm : P.follows .mixedOrders = true) (hok : regionOk l.toArray = true) (hBB : B = masks l) (hB : masksOk l.toArray B = true) (ht : tailOk l.length m B = true) (hml : m ≤ l.length) (hE0 : ∀ (j : Nat) (w' : World) (q : Nat), q < w.drew.heap.size → E j w' q → E0 j q)
    (h : ChP E E0 P l.toArray B w.drew (fun g fa => ∀ x w', Keeps (allE E0) w.drew w' → (∀ j, j < m → fa j x w') → Wr P l.toArray Q ds (l.drop m) (g x) w') (l.take m) 0 (fun _ => f) (fun _ _ _ => True)) : Wc r P n (.region id l.toArray true) Q ds f w := by
  refine wc_draw fun t => ?_
  obtain ⟨G, FA, hK, _, _, hGG, hall⟩ := ChP.all (f := f) (m := m) (ROk.of hok) hB (l.take m) 0 (fun _ => f) (fun _ _ _ => True) (fun i hi => by rw [List.length_take] at hi; rw [List.getElem?_take_of_lt (by omega)]; simp) (by rw [List.length_take]; omega) (fun G hG x => by
    funext s
    unfold mix
    rw [if_neg]
    rintro ⟨j, p, h1, _⟩
    simp at h1) h
  simp only [Region.schedule, hm, Bool.true_or, if_true, Region.linearise]
  have := wr_P hE0 (Q := Q) (ds := ds) (ROk.of hok) hB (by simpa using ht) (by simpa using hml) hGG (fun i o him ho => hall i o (Nat.zero_le _) him ho) hK l.toArray.size t (Array.replicate l.toArray.size false) (fun _ => undef) w.drew (by simp) (cnt_max _ _) (by intro j p hj; simp [Array.getD_eq_getD_getElem?, Array.getElem?_replicate] at hj; split at hj <;> simp_all)
    (fun j _ => by simp only [Array.getD_eq_getD_getElem?, Array.getElem?_replicate]; split <;> rfl) (Keeps.refl _ _) (fun j _ hj => by simp only [Array.getD_eq_getD_getElem?, Array.getElem?_replicate] at hj; split at hj <;> simp at hj)
  have he : mix l.toArray f (G fun _ => undef) (fun j => (Array.replicate l.toArray.size false).getD j false) = f := by
    funext s
    refine mix_no fun j p hj hp => ?_
    simp only [Array.getD_eq_getD_getElem?, Array.getElem?_replicate]
    split <;> rfl
  rw [he] at this
  exact this
end
end Go.V.E

namespace Go.V.F
open Go.V.E
open Go.RowKit
set_option linter.unusedVariables false
set_option linter.unusedSimpArgs false

/-- Blocks of cells stay such, of their type and size. -/
def Tk (w w' : World) : Prop := ∀ (b : Nat) (cs : Array Value) (T : TypeId) (fr : Nat × Nat), w.heap[b]? = some (Obj.cells cs T fr) → ∃ cs' : Array Value, w'.heap[b]? = some (.cells cs' T fr) ∧ cs'.size = cs.size
def Kp (D : Nat → Prop) (w w' : World) : Prop := Keeps D w w' ∧ Tk w w'
theorem Kp.of {D : Nat → Prop} {w w' : World} (h : Keeps NoB w w') : Kp D w w' := ⟨h.mono fun _ _ h => h.elim, fun b cs T fr hb => ⟨cs, h.heap hb (fun h => h), rfl⟩⟩
theorem Kp.put {D : Nat → Prop} {w : World} {b : Nat} {cs cs' : Array Value} {T : TypeId} {fr : Nat × Nat} (hb : w.heap[b]? = some (.cells cs T fr)) (hs : cs'.size = cs.size) (hD : D b) : Kp D w (w.putObj b (.cells cs' T fr)) := by
  refine ⟨(Keeps.refl D w).put _ (fun _ => hD), fun q c T' fr' hq => ?_⟩
  by_cases e : q = b
  · subst e
    rw [hb] at hq
    injection hq with hq
    injection hq with h1 h2 h3
    subst h1 h2 h3
    exact ⟨cs', World.putObj_heap_same (lt_of_heap hb), hs⟩
  · exact ⟨c, Keeps.heap ((Keeps.refl (· = b) w).put _ (fun _ => rfl)) hq e, rfl⟩
theorem Kp.mono {D D' : Nat → Prop} {w w' : World} (h : Kp D w w') (hd : ∀ k, k < w.heap.size → D k → D' k) : Kp D' w w' := ⟨h.1.mono hd, h.2⟩
def updG (fa : Nat → Fact) (i : Nat) (A : Prm → World → Prop) : Nat → Fact := fun j => match Nat.beq j i with
  | true => A
  | false => fa j
theorem updG_same (fa : Nat → Fact) (i : Nat) (A : Prm → World → Prop) : updG fa i A i = A := by simp [updG]
theorem updG_ne (fa : Nat → Fact) {i j : Nat} (A : Prm → World → Prop) (h : j ≠ i) : updG fa i A j = fa j := by simp [updG, nbeq_ne h]
section
variable {P : Program} {ops : Array Oper}
/-- The operations in the text's order; each leaves v of what those before it left; A tells of what it left itself. -/
def ChP (E : Nat → World → Nat → Prop) (E0 : Nat → Nat → Prop) (P : Program) (ops : Array Oper) (B : Nat) (w0 : World) (K : (Prm → Env) → (Nat → Fact) → Prop) : List Oper → Nat → (Prm → Env) → (Nat → Fact) → Prop
  | [], _, f, fa => K f fa
  | o :: rest, i, f, fa => ∃ (v : Prm → Value) (A : Prm → World → Prop), (∀ x y : Prm, (∀ j, bef B i j = true ∨ j = i → x j = y j) → v x = v y) ∧ (∀ (x y : Prm) w, (∀ j, bef B i j = true ∨ j = i → x j = y j) → A x w → A y w) ∧ (∀ x w w', A x w → Kp (othE E i w) w w' → A x w') ∧
      (∀ (x : Prm) w, Keeps (monE E0 B i) w0 w → (∀ j, bef B i j = true → fa j x w) → Wr P ops (fun _ _ f' w' => ∃ y, f' = setO (f x) o.dst (v (upd x i y)) ∧ A (upd x i y) w' ∧ Kp (E i w) w w') [] [o] (f x) w) ∧
      ChP E E0 P ops B w0 K rest (i + 1) (fun x => setO (f x) o.dst (v x)) (updG fa i A)
variable {E : Nat → World → Nat → Prop} {E0 : Nat → Nat → Prop} {B : Nat} {w0 : World} {K : (Prm → Env) → (Nat → Fact) → Prop}
theorem chP_nil {i : Nat} {f : Prm → Env} {fa : Nat → Fact} (h : K f fa) : ChP E E0 P ops B w0 K [] i f fa := h
/-- One whose result does not hang on the world. -/
theorem chP_pure {o : Oper} {rest : List Oper} {i : Nat} {f : Prm → Env} {fa : Nat → Fact} {v : Prm → Value} (h : ∀ (x : Prm) w, Keeps (monE E0 B i) w0 w → (∀ j, bef B i j = true → fa j x w) → Wr P ops (fun _ _ f' w' => f' = setO (f x) o.dst (v x) ∧ Kp (E i w) w w') [] [o] (f x) w)
    (hl : ∀ x y : Prm, (∀ j, bef B i j = true → x j = y j) → v x = v y) (hni : bef B i i = false)
    (hr : ChP E E0 P ops B w0 K rest (i + 1) (fun x => setO (f x) o.dst (v x)) (updG fa i fun _ _ => True)) : ChP E E0 P ops B w0 K (o :: rest) i f fa := by
  refine ⟨v, fun _ _ => True, fun x y hxy => hl x y fun j hj => hxy j (.inl hj), fun _ _ _ _ h => h, fun _ _ _ h _ => h, fun x w hk hf => ?_, hr⟩
  have h1 := h x w hk hf
  have hv : v (upd x i undef) = v x := hl _ _ fun j hj => upd_ne _ _ (by rintro rfl; rw [hni] at hj; cases hj)
  simp only [Wr] at h1 ⊢
  cases hw : wantedE ops (f x) o with
  | false =>
    rw [hw] at h1
    exact ⟨undef, by rw [hv]; exact h1.1, True.intro, h1.2⟩
  | true =>
    rw [hw] at h1
    exact upE_mono (fun u w' hu => ⟨undef, by rw [hv]; exact hu.1, True.intro, hu.2⟩) h1
/-- One that tells A of what it left; A may hang on what those before it left. -/
theorem chP_fact {o : Oper} {rest : List Oper} {i : Nat} {f : Prm → Env} {fa : Nat → Fact} (F : Value → Value) (A : Prm → Value → World → Prop) (hl : ∀ (x x' : Prm) y w, (∀ j, bef B i j = true → x j = x' j) → A x y w → A x' y w) (hni : bef B i i = false)
    (hA : ∀ x y w w', A x y w → Kp (othE E i w) w w' → A x y w')
    (h : ∀ (x : Prm) w, Keeps (monE E0 B i) w0 w → (∀ j, bef B i j = true → fa j x w) → Wr P ops (fun _ _ f' w' => ∃ y, f' = setO (f x) o.dst (F y) ∧ A x y w' ∧ Kp (E i w) w w') [] [o] (f x) w)
    (hr : ChP E E0 P ops B w0 K rest (i + 1) (fun x => setO (f x) o.dst (F (x i))) (updG fa i fun x w => A x (x i) w)) : ChP E E0 P ops B w0 K (o :: rest) i f fa := by
  refine ⟨fun x => F (x i), fun x w => A x (x i) w, fun x y hxy => congrArg F (hxy i (.inr rfl)), fun x x' w hxx ha => ?_, fun x w w' ha hk => hA x _ w w' ha hk, fun x w hk hf => ?_, hr⟩
  · dsimp only
    rw [← hxx i (.inr rfl)]
    exact hl x x' _ w (fun j hj => hxx j (.inl hj)) ha
  · have h1 := h x w hk hf
    have hx : ∀ y, ∀ j, bef B i j = true → x j = upd x i y j := fun y j hj => (upd_ne _ _ (by rintro rfl; rw [hni] at hj; cases hj)).symm
    have imp : ∀ (f' : Env) (w' : World), (∃ y, f' = setO (f x) o.dst (F y) ∧ A x y w' ∧ Kp (E i w) w w') → ∃ y, f' = setO (f x) o.dst (F (upd x i y i)) ∧ A (upd x i y) (upd x i y i) w' ∧ Kp (E i w) w w' := by
      rintro f' w' ⟨y, e, ha, hk⟩
      exact ⟨y, by rw [upd_same]; exact e, by rw [upd_same]; exact hl _ _ _ _ (hx y) ha, hk⟩
    simp only [Wr] at h1 ⊢
    cases hw : wantedE ops (f x) o with
    | false =>
      rw [hw] at h1
      exact imp _ _ h1
    | true =>
      rw [hw] at h1
      exact upE_mono (fun u w' hu => imp _ _ hu) h1

/-- What the text's order shows of each operation. -/
theorem ChP.all (hops : ROk ops) (hB : masksOk ops B = true) {f : Env} {m : Nat} : ∀ (l : List Oper) (k : Nat) (g : Prm → Env) (fa : Nat → Fact), (∀ i, i < l.length → l[i]? = ops[k + i]?) → k + l.length = m →
    (∀ G : Prm → Env, (∀ x s, (∀ j p, k ≤ j → j < m → ops[j]? = some p → p.dst ≠ some s) → G x s = g x s) → ∀ x, mix ops f (G x) (fun j => Nat.blt j k) = g x) → ChP E E0 P ops B w0 K l k g fa →
    ∃ (G : Prm → Env) (FA : Nat → Fact), K G FA ∧ (∀ x s, (∀ j p, k ≤ j → j < m → ops[j]? = some p → p.dst ≠ some s) → G x s = g x s) ∧ (∀ j, j < k → FA j = fa j) ∧ (∀ x, mix ops f (G x) (fun j => Nat.blt j m) = G x) ∧
      ∀ i o, k ≤ i → i < m → ops[i]? = some o → ∃ (v : Prm → Value) (A : Prm → World → Prop), (∀ x y : Prm, (∀ j, bef B i j = true ∨ j = i → x j = y j) → v x = v y) ∧ (∀ (x y : Prm) w, (∀ j, bef B i j = true ∨ j = i → x j = y j) → A x w → A y w) ∧ (∀ x w w', A x w → Kp (othE E i w) w w' → A x w') ∧ (FA i = A) ∧ (∀ x d, o.dst = some d → G x d = v x) ∧
        ∀ (x : Prm) w, Keeps (monE E0 B i) w0 w → (∀ j, bef B i j = true → FA j x w) → Wr P ops (fun _ _ f' w' => ∃ y, f' = setO (mix ops f (G x) (fun j => Nat.blt j i)) o.dst (v (upd x i y)) ∧ A (upd x i y) w' ∧ Kp (E i w) w w') [] [o] (mix ops f (G x) (fun j => Nat.blt j i)) w
  | [], k, g, fa, hl, hk, hmix, hch => by
    simp only [List.length_nil, Nat.add_zero] at hk
    exact ⟨g, fa, hch, fun _ _ _ => rfl, fun _ _ => rfl, by rw [← hk]; exact hmix g fun _ _ _ => rfl, fun i o hi hi' ho => by omega⟩
  | o :: l, k, g, fa, hl, hk, hmix, hch => by
    obtain ⟨v, A, hloc, hlA, hmono, h1, h2⟩ := hch
    simp only [List.length_cons] at hk
    have ho : ops[k]? = some o := by have := hl 0 (by simp); simpa using this.symm
    have step : ∀ G : Prm → Env, (∀ x s, (∀ j p, k + 1 ≤ j → j < m → ops[j]? = some p → p.dst ≠ some s) → G x s = setO (g x) o.dst (v x) s) → (∀ x, mix ops f (G x) (fun j => Nat.blt j k) = g x) ∧ ∀ x d, o.dst = some d → G x d = v x := by
      intro G hG
      constructor
      · refine hmix G fun x s hs => ?_
        rw [hG x s fun j p hj hjm => hs j p (by omega) hjm]
        cases hd : o.dst with
        | none => rfl
        | some d => exact Env.set_ne _ _ (by rintro rfl; exact hs k o (Nat.le_refl _) (by omega) ho hd)
      · intro x d hd
        rw [hG x d fun j p hj hjm hp hpd => by have := hops.one k j o p d ho hp hpd hd; omega, hd]
        exact Env.set_same _ _ _
    have hsucc : (fun j => Nat.blt j k || Nat.beq j k) = fun j => Nat.blt j (k + 1) := by
      funext j
      apply Bool.eq_iff_iff.2
      simp only [Bool.or_eq_true, Nat.beq_eq, Nat.blt_eq]
      omega
    obtain ⟨G, FA, hK, hG, hFA, hGG, hall⟩ := ChP.all (f := f) (m := m) hops hB l (k + 1) (fun x => setO (g x) o.dst (v x)) (updG fa k A) (fun i hi => by have := hl (i + 1) (by simp; omega); simp only [List.getElem?_cons_succ] at this; rw [this]; congr 1; omega) (by omega) (fun G hG x => by
      obtain ⟨e1, e2⟩ := step G hG
      have := mix_step (f := f) (F := G x) (L := fun j => Nat.blt j k) ho (e2 x)
      rw [e1, hsucc] at this
      exact this.symm) h2
    obtain ⟨e1, e2⟩ := step G hG
    refine ⟨G, FA, hK, fun x s hs => ?_, fun j hj => ?_, hGG, fun i o' hi him ho' => ?_⟩
    · rw [hG x s fun j p hj hjm => hs j p (by omega) hjm]
      cases hd : o.dst with
      | none => rfl
      | some d => exact Env.set_ne _ _ (by rintro rfl; exact hs k o (Nat.le_refl _) (by omega) ho hd)
    · rw [hFA j (by omega), updG_ne _ _ (by omega)]
    · rcases Nat.eq_or_lt_of_le hi with rfl | hlt
      · rw [ho] at ho'; cases ho'
        refine ⟨v, A, hloc, hlA, hmono, by rw [hFA k (by omega), updG_same], e2, fun x w hk hf => ?_⟩
        rw [e1]
        refine h1 x w hk fun j hj => ?_
        have hjk := bef_lt hB hops ho hj
        have := hf j hj
        rwa [hFA j (by omega), updG_ne _ _ (by omega)] at this
      · exact hall i o' (by omega) him ho'

theorem wr_P (hE0 : ∀ (j : Nat) (w : World) (q : Nat), q < w0.heap.size → E j w q → E0 j q) {Q : Post} {ds : List Deferred} {f : Env} {G : Prm → Env} {FA : Nat → Fact} {m : Nat} (hops : ROk ops) (hB : masksOk ops B = true) (ht : tailOk ops.size m B = true) (hm : m ≤ ops.size)
    (hGG : ∀ x, mix ops f (G x) (fun j => Nat.blt j m) = G x)
    (hall : ∀ i o, i < m → ops[i]? = some o → ∃ (v : Prm → Value) (A : Prm → World → Prop), (∀ x y : Prm, (∀ j, bef B i j = true ∨ j = i → x j = y j) → v x = v y) ∧ (∀ (x y : Prm) w, (∀ j, bef B i j = true ∨ j = i → x j = y j) → A x w → A y w) ∧ (∀ x w w', A x w → Kp (othE E i w) w w' → A x w') ∧ (FA i = A) ∧ (∀ x d, o.dst = some d → G x d = v x) ∧
        ∀ (x : Prm) w, Keeps (monE E0 B i) w0 w → (∀ j, bef B i j = true → FA j x w) → Wr P ops (fun _ _ f' w' => ∃ y, f' = setO (mix ops f (G x) (fun j => Nat.blt j i)) o.dst (v (upd x i y)) ∧ A (upd x i y) w' ∧ Kp (E i w) w w') [] [o] (mix ops f (G x) (fun j => Nat.blt j i)) w)
    (hQ : ∀ x w', Keeps (allE E0) w0 w' → (∀ j, j < m → FA j x w') → Wr P ops Q ds (ops.toList.drop m) (G x) w') :
    ∀ (fuel t : Nat) (listed : Array Bool) (x : Prm) (w : World), listed.size = ops.size → cnt (fun j => listed.getD j false) ops.size ≤ fuel →
      (∀ j p, listed.getD j false = true → ops[j]? = some p → ∀ e ∈ p.after.toList, Region.binds .any e = true → listed.getD e.on false = true) →
      (∀ j, m ≤ j → listed.getD j false = false) → Keeps (lisE E0 listed) w0 w → (∀ j, j < m → listed.getD j false = true → FA j x w) →
      Wr P ops Q ds ((Region.linearise.go .any ops fuel t listed []).filterMap (ops[·]?)) (mix ops f (G x) (fun j => listed.getD j false)) w := by
  have fin : ∀ (fuel t : Nat) (listed : Array Bool) (x : Prm) (w : World), listed.size = ops.size → cnt (fun j => listed.getD j false) ops.size ≤ fuel → (∀ j, m ≤ j → listed.getD j false = false) → (∀ j, j < m → listed.getD j false = true) → Keeps (allE E0) w0 w → (∀ j, j < m → listed.getD j false = true → FA j x w) →
      Wr P ops Q ds ((Region.linearise.go .any ops fuel t listed []).filterMap (ops[·]?)) (mix ops f (G x) (fun j => listed.getD j false)) w := by
    intro fuel t listed x w hsz hcn hno hyes hk hf
    have hl : ∀ j, listed.getD j false = Nat.blt j m := by
      intro j
      rcases Nat.lt_or_ge j m with h | h
      · rw [hyes j h]; symm; rw [Nat.blt_eq]; exact h
      · rw [hno j h, nblt_false h]
    have e : mix ops f (G x) (fun j => listed.getD j false) = G x := by
      rw [← hGG x]
      conv => rhs; rw [← hGG x]
      rw [hGG x]
      congr 1
      funext j; exact hl j
    rw [e]
    refine wr_tail hops hB ht fuel t listed m _ w hsz (fun j _ => hl j) (Nat.le_refl _) hm ?_ (hQ x w hk fun j hj => hf j hj (hyes j hj))
    have : ∀ k, m ≤ k → k - m ≤ cnt (fun j => listed.getD j false) k := by
      intro k
      induction k with
      | zero => intro _; simp
      | succ k ih =>
        intro hmk
        rcases Nat.eq_or_lt_of_le hmk with h | h
        · rw [h]; simp
        · have := ih (by omega)
          simp only [cnt, hno k (by omega), cond_false]; omega
    have := this ops.size hm
    omega
  intro fuel
  induction fuel with
  | zero =>
    intro t listed x w hsz hc hcl hno hk hf
    exact fin 0 t listed x w hsz hc hno (fun j hj => cnt_zero (L := fun j => listed.getD j false) ops.size (Nat.le_zero.1 hc) j (by omega)) (hk.mono fun q _ h => lis_all h) hf
  | succ fuel ih =>
    intro t listed x w hsz hc hcl hno hk hf
    by_cases hdone : ∀ j, j < m → listed.getD j false = true
    · exact fin (fuel + 1) t listed x w hsz hc hno hdone (hk.mono fun q _ h => lis_all h) hf
    simp only [Region.linearise.go]
    generalize hrs : ((List.range ops.size).filter fun i => !listed.getD i true && ((ops[i]?).map (·.after.all fun e => !Region.binds .any e || listed.getD e.on false)).getD false) = rs
    have hgd : ∀ i, i < ops.size → listed.getD i true = listed.getD i false := by
      intro i hi
      simp [Array.getD_eq_getD_getElem?, hsz, hi]
    cases hi : rs[t % rs.length]? with
    | none =>
      exfalso
      have hnil : rs = [] := by
        cases rs with
        | nil => rfl
        | cons x xs =>
          have hlt : t % (x :: xs).length < (x :: xs).length := Nat.mod_lt _ (by simp)
          rw [List.getElem?_eq_none_iff] at hi
          omega
      refine hdone ?_
      have : ∀ k, k ≤ ops.size → ∀ i, i < k → listed.getD i false = true := by
        intro k
        induction k with
        | zero => intro _ i hi; omega
        | succ k ihk =>
          intro hk' i hik
          rcases Nat.lt_or_eq_of_le (Nat.le_of_lt_succ hik) with hlt | rfl
          · exact ihk (by omega) i hlt
          · cases hL : listed.getD i false with
            | true => rfl
            | false =>
              exfalso
              have hmem : i ∈ rs := by
                rw [← hrs, List.mem_filter]
                refine ⟨List.mem_range.2 (by omega), ?_⟩
                obtain ⟨o, ho⟩ : ∃ o, ops[i]? = some o := ⟨ops[i]'(by omega), by simp [show i < ops.size by omega]⟩
                rw [hgd i (by omega), hL, ho]
                simp only [Bool.not_false, Bool.true_and, Option.map_some, Option.getD_some]
                rw [← Array.all_toList]
                refine List.all_eq_true.2 fun e he => ?_
                cases hb : Region.binds .any e with
                | false => rfl
                | true =>
                  have := hops.low i o ho e he hb
                  rw [ihk (by omega) e.on this]; rfl
              rw [hnil] at hmem; cases hmem
      exact fun j hj => this ops.size (Nat.le_refl _) j (by omega)
    | some i =>
      have hmem : i ∈ rs := List.mem_of_getElem? hi
      rw [← hrs, List.mem_filter] at hmem
      obtain ⟨hir, hib⟩ := hmem
      have hisz : i < ops.size := List.mem_range.1 hir
      obtain ⟨o, ho⟩ : ∃ o, ops[i]? = some o := ⟨ops[i], by simp [hisz]⟩
      rw [hgd i hisz, ho] at hib
      simp only [Bool.and_eq_true, Bool.not_eq_true', Option.map_some, Option.getD_some] at hib
      obtain ⟨hun, hready⟩ := hib
      rw [← Array.all_toList] at hready
      have hedge : ∀ e ∈ o.after.toList, Region.binds .any e = true → listed.getD e.on false = true := by
        intro e he hb
        have := List.all_eq_true.1 hready e he
        simpa [hb] using this
      have hbi : ∀ j, bef B i j = true → listed.getD j false = true ∧ j < i := fun j hj => bef_in hB hops (listed := fun j => listed.getD j false) hcl i o j ho hedge hj
      have him : i < m := by
        rcases Nat.lt_or_ge i m with h | h
        · exact h
        · exfalso
          exact hdone fun j hj => (hbi j (tail_bef ht hisz h (by omega))).1
      dsimp only
      rw [linearise_go_acc, List.reverse_singleton, List.singleton_append, List.filterMap_cons, ho]
      obtain ⟨v, A, hloc, hlA, hmono, hFAi, hGv, hone⟩ := hall i o him ho
      have hsee : ∀ d, looks ops o d = true → mix ops f (G x) (fun j => listed.getD j false) d = mix ops f (G x) (fun j => Nat.blt j i) d := by
        intro d hd
        refine mix_congr fun j p hj hp => ?_
        rcases hops.see i j o p d ho hj hp hd with rfl | ⟨e, he, hb, rfl⟩ | ⟨e, he, hb, rfl⟩
        · rw [hun, nblt_irrefl]
        · have := hops.low i o ho e he hb
          rw [hedge e he hb]; simp [this]
        · have := hops.low j p hj e he hb
          cases hL : listed.getD j false with
          | false => exact (nblt_false (by omega)).symm
          | true =>
            have := hcl j p hL hj e he hb
            rw [hun] at this; cases this
      obtain ⟨c1, c2⟩ := looks_congr (o := o) hsee (hops.sel i o ho)
      have hmon : ∀ j, listed.getD j false = true → (listed.setIfInBounds i true).getD j false = true := by
        intro j hj
        by_cases hji : j = i
        · subst hji; simp [Array.getD_eq_getD_getElem?, hsz, hisz]
        · simpa [Array.getD_eq_getD_getElem?, Array.getElem?_setIfInBounds, Ne.symm hji] using hj
      have hself : (listed.setIfInBounds i true).getD i false = true := by simp [Array.getD_eq_getD_getElem?, hsz, hisz]
      have hother : ∀ j, j ≠ i → (listed.setIfInBounds i true).getD j false = listed.getD j false := fun j hji => by simp [Array.getD_eq_getD_getElem?, Array.getElem?_setIfInBounds, Ne.symm hji]
      -- what those that are done left does not hang on what this one leaves
      have hold : ∀ (y : Value) (j : Nat) (p : Oper), listed.getD j false = true → ops[j]? = some p → ∀ d, p.dst = some d → G (upd x i y) d = G x d := by
        intro y j p hL hj d hd
        have hji : j ≠ i := by rintro rfl; rw [hun] at hL; cases hL
        have hjm : j < m := by
          rcases Nat.lt_or_ge j m with h | h
          · exact h
          · rw [hno j h] at hL; cases hL
        obtain ⟨v', _, hloc', _, _, _, hGv', _⟩ := hall j p hjm hj
        rw [hGv' _ d hd, hGv' _ d hd]
        refine hloc' _ _ fun j' hj' => upd_ne _ _ ?_
        rintro rfl
        rcases hj' with hj' | hj'
        · have := (bef_in hB hops (listed := fun j => listed.getD j false) hcl j p j' hj (fun e he hb => hcl j p hL hj e he hb) hj').1
          rw [hun] at this; cases this
        · exact hji hj'.symm
      have hframe : ∀ y, setO (mix ops f (G x) (fun j => listed.getD j false)) o.dst (v (upd x i y)) = mix ops f (G (upd x i y)) (fun j => (listed.setIfInBounds i true).getD j false) := by
        intro y
        have e1 : mix ops f (G x) (fun j => listed.getD j false) = mix ops f (G (upd x i y)) (fun j => listed.getD j false) := by
          funext s
          unfold mix
          by_cases hc : ∃ j p, listed.getD j false = true ∧ ops[j]? = some p ∧ p.dst = some s
          · rw [if_pos hc, if_pos hc]
            obtain ⟨j, p, h1, h2, h3⟩ := hc
            exact (hold y j p h1 h2 s h3).symm
          · rw [if_neg hc, if_neg hc]
        rw [e1, mix_step ho (fun d hd => hGv (upd x i y) d hd)]
        funext s
        refine mix_congr fun j p _ _ => ?_
        by_cases hji : j = i
        · subst hji; rw [hself]; simp
        · rw [hother j hji, nbeq_ne hji, Bool.or_false]
      have next : ∀ y w', A (upd x i y) w' → Kp (E i w) w w' → Wr P ops Q ds ((Region.linearise.go .any ops fuel (t / rs.length) (listed.setIfInBounds i true) []).filterMap (ops[·]?)) (setO (mix ops f (G x) (fun j => listed.getD j false)) o.dst (v (upd x i y))) w' := by
        intro y w' hA hkw
        rw [hframe y]
        refine ih _ _ (upd x i y) w' (by simpa using hsz) ?_ ?_ ?_ ((hk.mono fun q _ h => by obtain ⟨j, hj, h⟩ := h; exact ⟨j, hmon _ hj, h⟩).trans' hkw.1 (fun q hq h => ⟨i, hself, hE0 i w q hq h⟩)) ?_
        · have := cnt_lt (L := fun j => listed.getD j false) (L' := fun j => (listed.setIfInBounds i true).getD j false) hmon hun hself ops.size hisz
          omega
        · intro j p hj hp e he hb
          by_cases hji : j = i
          · subst hji
            rw [ho] at hp; cases hp
            exact hmon _ (hedge e he hb)
          · rw [hother j hji] at hj
            exact hmon _ (hcl j p hj hp e he hb)
        · intro j hj
          rw [hother j (by omega)]; exact hno j hj
        · intro j hjm hj
          by_cases hji : j = i
          · subst hji
            rw [hFAi]
            exact hA
          · rw [hother j hji] at hj
            have h0 := hf j hjm hj
            obtain ⟨p, hp⟩ : ∃ p, ops[j]? = some p := ⟨ops[j]'(by omega), by simp [show j < ops.size by omega]⟩
            obtain ⟨_, A', _, hlA', hmono', hFAj, _, _⟩ := hall j p hjm hp
            rw [hFAj] at h0 ⊢
            refine hlA' x _ _ (fun k hk' => (upd_ne _ _ ?_).symm) (hmono' _ _ _ h0 (hkw.mono fun q _ h => ⟨i, fun e => hji e.symm, h⟩))
            rintro rfl
            rcases hk' with hk' | hk'
            · have := (bef_in hB hops (listed := fun j => listed.getD j false) hcl j p k hp (fun e he hb => hcl j p hj hp e he hb) hk').1
              rw [hun] at this; cases this
            · exact hji hk'.symm
      have hkm : Keeps (monE E0 B i) w0 w := by
        refine hk.mono fun q _ h => ?_
        obtain ⟨k, hL, hE⟩ := h
        refine ⟨k, hE, ?_⟩
        cases hb : (Nat.beq i k || bef B k i) with
        | false => rfl
        | true =>
          exfalso
          rcases Bool.or_eq_true _ _ ▸ hb with h | h
          · have := Nat.eq_of_beq_eq_true h
            subst this
            rw [hun] at hL; cases hL
          · have hkm' : k < m := by
              rcases Nat.lt_or_ge k m with h' | h'
              · exact h'
              · rw [hno k h'] at hL; cases hL
            obtain ⟨p, hp⟩ : ∃ p, ops[k]? = some p := ⟨ops[k]'(by omega), by simp [show k < ops.size by omega]⟩
            have := (bef_in hB hops (listed := fun j => listed.getD j false) hcl k p i hp (fun e he hb => hcl k p hL hp e he hb) h).1
            rw [hun] at this; cases this
      have h1 := hone x w hkm fun j hj => by
        obtain ⟨h1, h2⟩ := hbi j hj
        exact hf j (by omega) h1
      simp only [Wr] at h1 ⊢
      rw [c1, c2]
      cases hw : wantedE ops (mix ops f (G x) (fun j => Nat.blt j i)) o with
      | false =>
        rw [hw] at h1
        obtain ⟨y, h2, h3, h4⟩ := h1
        have hset : setO (mix ops f (G x) (fun j => listed.getD j false)) o.dst undef = setO (mix ops f (G x) (fun j => listed.getD j false)) o.dst (v (upd x i y)) := by
          cases hd : o.dst with
          | none => rfl
          | some d =>
            have := congrFun h2 d
            rw [hd] at this
            have e : undef = v (upd x i y) := by simpa [Env.set_same] using this
            rw [e]
        show Wr P ops Q ds _ (setO (mix ops f (G x) (fun j => listed.getD j false)) o.dst undef) w
        rw [hset]; exact next y w h3 h4
      | true =>
        rw [hw] at h1
        refine upE_mono ?_ h1
        rintro u w' ⟨y, hu, hA, hkw⟩
        have hset : setO (mix ops f (G x) (fun j => listed.getD j false)) o.dst u = setO (mix ops f (G x) (fun j => listed.getD j false)) o.dst (v (upd x i y)) := by
          cases hd : o.dst with
          | none => rfl
          | some d =>
            have := congrFun hu d
            rw [hd] at this
            have e : u = v (upd x i y) := by simpa [Env.set_same] using this
            rw [e]
        rw [hset]; exact next y w' hA hkw
/-- A region that draws its order: its first m operations lay new blocks at most, but for one, which may write D; the others wait for all of them, and one for another. -/
theorem wc_drawE (E : Nat → World → Nat → Prop) (E0 : Nat → Nat → Prop) {r : Option Nat} {n id : Nat} {Q : Post} {ds : List Deferred} {f : Env} {w : World} {l : List Oper} (m : Nat) (B : Nat) (hm : P.follows .mixedOrders = true) (hok : regionOk l.toArray = true) (hBB : B = masks l) (hB : masksOk l.toArray B = true) (ht : tailOk l.length m B = true) (hml : m ≤ l.length) (hE0 : ∀ (j : Nat) (w' : World) (q : Nat), q < w.drew.heap.size → E j w' q → E0 j q)
    (h : ChP E E0 P l.toArray B w.drew (fun g fa => ∀ x w', Keeps (allE E0) w.drew w' → (∀ j, j < m → fa j x w') → Wr P l.toArray Q ds (l.drop m) (g x) w') (l.take m) 0 (fun _ => f) (fun _ _ _ => True)) : Wc r P n (.region id l.toArray true) Q ds f w := by
  refine wc_draw fun t => ?_
  obtain ⟨G, FA, hK, _, _, hGG, hall⟩ := ChP.all (f := f) (m := m) (ROk.of hok) hB (l.take m) 0 (fun _ => f) (fun _ _ _ => True) (fun i hi => by rw [List.length_take] at hi; rw [List.getElem?_take_of_lt (by omega)]; simp) (by rw [List.length_take]; omega) (fun G hG x => by
    funext s
    unfold mix
    rw [if_neg]
    rintro ⟨j, p, h1, _⟩
    simp at h1) h
  simp only [Region.schedule, hm, Bool.true_or, if_true, Region.linearise]
  have := wr_P hE0 (Q := Q) (ds := ds) (ROk.of hok) hB (by simpa using ht) (by simpa using hml) hGG (fun i o him ho => hall i o (Nat.zero_le _) him ho) hK l.toArray.size t (Array.replicate l.toArray.size false) (fun _ => undef) w.drew (by simp) (cnt_max _ _) (by intro j p hj; simp [Array.getD_eq_getD_getElem?, Array.getElem?_replicate] at hj; split at hj <;> simp_all)
    (fun j _ => by simp only [Array.getD_eq_getD_getElem?, Array.getElem?_replicate]; split <;> rfl) (Keeps.refl _ _) (fun j _ hj => by simp only [Array.getD_eq_getD_getElem?, Array.getElem?_replicate] at hj; split at hj <;> simp at hj)
  have he : mix l.toArray f (G fun _ => undef) (fun j => (Array.replicate l.toArray.size false).getD j false) = f := by
    funext s
    refine mix_no fun j p hj hp => ?_
    simp only [Array.getD_eq_getD_getElem?, Array.getElem?_replicate]
    split <;> rfl
  rw [he] at this
  exact this
end
end Go.V.F

namespace Go.V.F
open Go.RowKit Go.V.E
set_option linter.unusedVariables false
set_option linter.unusedSimpArgs false

/-- Number s1 writes block b; s2 one from n0 on of type T2; s3 one of type T3. -/
def E3 (n0 b s1 s2 : Nat) (T2 : TypeId) (s3 : Nat) (T3 : TypeId) (i : Nat) (w : World) (q : Nat) : Prop :=
  (i = s1 ∧ Nat.beq s1 1000 = false ∧ q = b) ∨ (i = s2 ∧ n0 ≤ q ∧ ∃ cs fr, w.heap[q]? = some (.cells cs T2 fr)) ∨ (i = s3 ∧ n0 ≤ q ∧ ∃ cs fr, w.heap[q]? = some (.cells cs T3 fr))
def E30 (b s1 : Nat) (i q : Nat) : Prop := i = s1 ∧ Nat.beq s1 1000 = false ∧ q = b
section
variable {n0 b s1 s2 s3 i B : Nat} {T T2 T3 : TypeId} {w0 w w' : World}
theorem e3_E0 (hn : w0.heap.size ≤ n0) : ∀ (j : Nat) (w' : World) (q : Nat), q < w0.heap.size → E3 n0 b s1 s2 T2 s3 T3 j w' q → E30 b s1 j q := by
  rintro j w' q hq (h | ⟨_, h, _⟩ | ⟨_, h, _⟩)
  · exact h
  · omega
  · omega
theorem e3_mon (h : (Nat.beq s1 1000 || (Nat.beq i s1 || bef B s1 i)) = true) (k : Keeps (monE (E30 b s1) B i) w0 w) : Keeps NoB w0 w := k.mono fun q _ hq => by
  obtain ⟨j, ⟨rfl, h0, _⟩, hb⟩ := hq
  rw [hb, h0] at h; cases h
theorem e3_all0 (k : Keeps (allE (E30 b 1000)) w0 w) : Keeps NoB w0 w := k.mono fun q _ hq => by
  obtain ⟨j, _, h, _⟩ := hq
  cases h
theorem e3_mon' (k : Keeps (monE (E30 b s1) B i) w0 w) : Keeps (· = b) w0 w := k.mono fun q _ hq => by
  obtain ⟨j, ⟨_, _, h⟩, _⟩ := hq
  exact h
theorem e3_all (k : Keeps (allE (E30 b s1)) w0 w) : Keeps (· = b) w0 w := k.mono fun q _ hq => by
  obtain ⟨j, _, _, h⟩ := hq
  exact h
theorem heap_neT {q p : Nat} {c c' : Array Value} {T' : TypeId} {fr fr' : Nat × Nat} (h : w.heap[p]? = some (.cells c T fr)) (hq : w.heap[q]? = some (.cells c' T' fr')) (hT : T ≠ T') : p ≠ q := by
  rintro rfl
  rw [hq] at h
  injection h with h
  injection h with _ h
  exact hT h.symm
theorem own_neT {base n sz q : Nat} {T' : TypeId} {v : Value} {xs : List Value} {c : Array Value} {fr : Nat × Nat} (h : w.ownsRow base T sz v n xs) (hq : w.heap[q]? = some (.cells c T' fr)) (hT : T ≠ T') : ∀ b, v.ownBlock = some b → b ≠ q := by
  intro b hb e
  rcases h.2 with ⟨rfl, _⟩ | ⟨g, cap, cur, rfl, _, hg, _⟩
  · simp [Value.ownBlock] at hb
  · simp [Value.ownBlock] at hb
    subst hb
    exact heap_neT hg hq hT e
theorem own_geF {base sz n : Nat} {v : Value} {xs : List Value} (h : w.ownsRow base T sz v n xs) {q : Nat} (hb : v.ownBlock = some q) : base ≤ q := by
  rcases h.2 with ⟨rfl, _⟩ | ⟨g, cap, cur, rfl, hg, _⟩
  · cases hb
  · cases hb; exact hg
/-- Rows of another type, behind b. -/
theorem own_E3 {base sz n : Nat} {v : Value} {xs : List Value} (h : w.ownsRow base T sz v n xs) (hb : b < base) (h2 : T ≠ T2) (h3 : T ≠ T3) (k : Kp (othE (E3 n0 b s1 s2 T2 s3 T3) i w) w w') : w'.ownsRow base T sz v n xs :=
  own_keep h k.1 fun q hq e => by
    obtain ⟨j, _, e | ⟨_, _, cs, fr, e⟩ | ⟨_, _, cs, fr, e⟩⟩ := e
    · have := own_geF h hq; omega
    · exact own_neT h e h2 q hq rfl
    · exact own_neT h e h3 q hq rfl
theorem blk_E3 {p : Nat} {c : Array Value} {fr : Nat × Nat} (h : w.heap[p]? = some (.cells c T fr)) (hp : b ≠ p) (h2 : T ≠ T2) (h3 : T ≠ T3) (k : Kp (othE (E3 n0 b s1 s2 T2 s3 T3) i w) w w') : w'.heap[p]? = some (.cells c T fr) :=
  k.1.heap h fun e => by
    obtain ⟨j, _, e | ⟨_, _, cs, fr, e⟩ | ⟨_, _, cs, fr, e⟩⟩ := e
    · exact hp e.2.2.symm
    · exact heap_neT h e h2 rfl
    · exact heap_neT h e h3 rfl
/-- What s1 left. -/
theorem blk1_E3 {o : Obj} (h : w.heap[b]? = some o) (hb : b < n0) (k : Kp (othE (E3 n0 b s1 s2 T2 s3 T3) s1 w) w w') : w'.heap[b]? = some o :=
  k.1.heap h fun e => by
    obtain ⟨j, hj, e | ⟨_, e, _⟩ | ⟨_, e, _⟩⟩ := e
    · exact hj e.1
    · omega
    · omega
/-- What s2, s3 left. -/
theorem blk2_E3 {p : Nat} {c : Array Value} {fr : Nat × Nat} (h : w.heap[p]? = some (.cells c T2 fr)) (hp : b ≠ p) (h3 : T2 ≠ T3) (k : Kp (othE (E3 n0 b s1 s2 T2 s3 T3) s2 w) w w') : w'.heap[p]? = some (.cells c T2 fr) :=
  k.1.heap h fun e => by
    obtain ⟨j, hj, e | ⟨e, _⟩ | ⟨_, _, cs, fr, e⟩⟩ := e
    · exact hp e.2.2.symm
    · exact hj e
    · exact heap_neT h e h3 rfl
theorem blk3_E3 {p : Nat} {c : Array Value} {fr : Nat × Nat} (h : w.heap[p]? = some (.cells c T3 fr)) (hp : b ≠ p) (h2 : T3 ≠ T2) (k : Kp (othE (E3 n0 b s1 s2 T2 s3 T3) s3 w) w w') : w'.heap[p]? = some (.cells c T3 fr) :=
  k.1.heap h fun e => by
    obtain ⟨j, hj, e | ⟨_, _, cs, fr, e⟩ | ⟨e, _⟩⟩ := e
    · exact hp e.2.2.symm
    · exact heap_neT h e h2 rfl
    · exact hj e
/-- A new block, whatever it holds. -/
def Fr (w : World) (n0 : Nat) (T : TypeId) (z p : Nat) : Prop := n0 ≤ p ∧ ∃ cs : Array Value, w.heap[p]? = some (.cells cs T (0, 0)) ∧ cs.size = z
theorem Fr.keep {D : Nat → Prop} {z p : Nat} (h : Fr w n0 T z p) (k : Kp D w w') : Fr w' n0 T z p := by
  obtain ⟨h1, cs, h2, h3⟩ := h
  obtain ⟨cs', h4, h5⟩ := k.2 _ _ _ _ h2
  exact ⟨h1, cs', h4, h5.trans h3⟩
end
end Go.V.F
namespace Go.V
open Go.RowKit
/-- A tuple's parts; a struct's cells. -/
def tupI (v : Value) (i : Nat) : Value := match v with
  | .tuple a => a.getD i undef
  | _ => undef
def cellsV : Value → Array Value
  | .agg a => a
  | _ => #[]
end Go.V

namespace Go.V.T
open Go.V.E Go.V.F
open Go.RowKit
set_option linter.unusedVariables false
set_option linter.unusedSimpArgs false

def blkV : Value → Nat
  | .pointer (some ⟨b, _, _⟩) => b
  | _ => 0
/-- Number a and number b leave a new block. -/
def Nw (a b i : Nat) (y : Value) (w w' : World) : Prop := (i = a ∨ i = b) → w.heap.size ≤ blkV y ∧ blkV y < w'.heap.size
def Xab (a b : Nat) (L : Nat → Bool) (x : Prm) (w : World) : Prop := (∀ j, (j = a ∨ j = b) → L j = true → blkV (x j) < w.heap.size) ∧ (L a = true → L b = true → blkV (x a) ≠ blkV (x b))
theorem Xab.step {a b i : Nat} {L L' : Nat → Bool} {x : Prm} {y : Value} {w w' : World} (h : Xab a b L x w) (hab : a ≠ b) (hn : Nw a b i y w w') (hs : w.heap.size ≤ w'.heap.size) (hL : ∀ j, j ≠ i → L' j = L j) : Xab a b L' (upd x i y) w' := by
  refine ⟨fun j hj hl => ?_, fun ha hb => ?_⟩
  · by_cases e : j = i
    · subst e
      rw [upd_same]; exact (hn hj).2
    · rw [upd_ne _ _ e]
      rw [hL j e] at hl
      have := h.1 j hj hl
      omega
  · by_cases e : a = i
    · subst e
      rw [upd_same, upd_ne _ _ (Ne.symm hab)]
      rw [hL b (Ne.symm hab)] at hb
      have := h.1 b (.inr rfl) hb
      have := (hn (.inl rfl)).1
      omega
    · by_cases e2 : b = i
      · subst e2
        rw [upd_same, upd_ne _ _ hab]
        rw [hL a hab] at ha
        have := h.1 a (.inl rfl) ha
        have := (hn (.inr rfl)).1
        omega
      · rw [upd_ne _ _ e, upd_ne _ _ e2]
        rw [hL a e] at ha
        rw [hL b e2] at hb
        exact h.2 ha hb
theorem nw_none {a b i : Nat} {y : Value} {w w' : World} (h : (Nat.beq i a || Nat.beq i b) = false) : Nw a b i y w w' := by
  rintro (e | e)
  · subst e; simp at h
  · subst e; simp at h
section
variable {P : Program} {ops : Array Oper}
/-- The operations in the text's order; each leaves v of what those before it left; A tells of what it left itself. -/
def ChP (a b : Nat) (E : Nat → World → Nat → Prop) (E0 : Nat → Nat → Prop) (P : Program) (ops : Array Oper) (B : Nat) (w0 : World) (K : (Prm → Env) → (Nat → Fact) → Prop) : List Oper → Nat → (Prm → Env) → (Nat → Fact) → Prop
  | [], _, f, fa => K f fa
  | o :: rest, i, f, fa => ∃ (v : Prm → Value) (A : Prm → World → Prop), (∀ x y : Prm, (∀ j, bef B i j = true ∨ j = i → x j = y j) → v x = v y) ∧ (∀ (x y : Prm) w, (∀ j, bef B i j = true ∨ j = i → x j = y j) → A x w → A y w) ∧ (∀ x w w', A x w → Kp (othE E i w) w w' → A x w') ∧
      (∀ (x : Prm) w, Keeps (monE E0 B i) w0 w → (∀ j, bef B i j = true → fa j x w) → Wr P ops (fun _ _ f' w' => ∃ y, f' = setO (f x) o.dst (v (upd x i y)) ∧ A (upd x i y) w' ∧ Kp (E i w) w w' ∧ Nw a b i y w w') [] [o] (f x) w) ∧
      ChP a b E E0 P ops B w0 K rest (i + 1) (fun x => setO (f x) o.dst (v x)) (updG fa i A)
variable {a b : Nat} {E : Nat → World → Nat → Prop} {E0 : Nat → Nat → Prop} {B : Nat} {w0 : World} {K : (Prm → Env) → (Nat → Fact) → Prop}
theorem chP_nil {i : Nat} {f : Prm → Env} {fa : Nat → Fact} (h : K f fa) : ChP a b E E0 P ops B w0 K [] i f fa := h
/-- One whose result does not hang on the world. -/
theorem chP_pure {o : Oper} {rest : List Oper} {i : Nat} {f : Prm → Env} {fa : Nat → Fact} {v : Prm → Value} (h : ∀ (x : Prm) w, Keeps (monE E0 B i) w0 w → (∀ j, bef B i j = true → fa j x w) → Wr P ops (fun _ _ f' w' => f' = setO (f x) o.dst (v x) ∧ Kp (E i w) w w') [] [o] (f x) w)
    (hl : ∀ x y : Prm, (∀ j, bef B i j = true → x j = y j) → v x = v y) (hni : bef B i i = false) (hab : (Nat.beq i a || Nat.beq i b) = false)
    (hr : ChP a b E E0 P ops B w0 K rest (i + 1) (fun x => setO (f x) o.dst (v x)) (updG fa i fun _ _ => True)) : ChP a b E E0 P ops B w0 K (o :: rest) i f fa := by
  refine ⟨v, fun _ _ => True, fun x y hxy => hl x y fun j hj => hxy j (.inl hj), fun _ _ _ _ h => h, fun _ _ _ h _ => h, fun x w hk hf => ?_, hr⟩
  have h1 := h x w hk hf
  have hv : v (upd x i undef) = v x := hl _ _ fun j hj => upd_ne _ _ (by rintro rfl; rw [hni] at hj; cases hj)
  simp only [Wr] at h1 ⊢
  cases hw : wantedE ops (f x) o with
  | false =>
    rw [hw] at h1
    exact ⟨undef, by rw [hv]; exact h1.1, True.intro, h1.2, nw_none hab⟩
  | true =>
    rw [hw] at h1
    exact upE_mono (fun u w' hu => ⟨undef, by rw [hv]; exact hu.1, True.intro, hu.2, nw_none hab⟩) h1
/-- One that tells A of what it left; A may hang on what those before it left. -/
theorem chP_fact {o : Oper} {rest : List Oper} {i : Nat} {f : Prm → Env} {fa : Nat → Fact} (F : Value → Value) (A : Prm → Value → World → Prop) (hl : ∀ (x x' : Prm) y w, (∀ j, bef B i j = true → x j = x' j) → A x y w → A x' y w) (hni : bef B i i = false)
    (hA : ∀ x y w w', A x y w → Kp (othE E i w) w w' → A x y w')
    (h : ∀ (x : Prm) w, Keeps (monE E0 B i) w0 w → (∀ j, bef B i j = true → fa j x w) → Wr P ops (fun _ _ f' w' => ∃ y, f' = setO (f x) o.dst (F y) ∧ A x y w' ∧ Kp (E i w) w w' ∧ Nw a b i y w w') [] [o] (f x) w)
    (hr : ChP a b E E0 P ops B w0 K rest (i + 1) (fun x => setO (f x) o.dst (F (x i))) (updG fa i fun x w => A x (x i) w)) : ChP a b E E0 P ops B w0 K (o :: rest) i f fa := by
  refine ⟨fun x => F (x i), fun x w => A x (x i) w, fun x y hxy => congrArg F (hxy i (.inr rfl)), fun x x' w hxx ha => ?_, fun x w w' ha hk => hA x _ w w' ha hk, fun x w hk hf => ?_, hr⟩
  · dsimp only
    rw [← hxx i (.inr rfl)]
    exact hl x x' _ w (fun j hj => hxx j (.inl hj)) ha
  · have h1 := h x w hk hf
    have hx : ∀ y, ∀ j, bef B i j = true → x j = upd x i y j := fun y j hj => (upd_ne _ _ (by rintro rfl; rw [hni] at hj; cases hj)).symm
    have imp : ∀ (f' : Env) (w' : World), (∃ y, f' = setO (f x) o.dst (F y) ∧ A x y w' ∧ Kp (E i w) w w' ∧ Nw a b i y w w') → ∃ y, f' = setO (f x) o.dst (F (upd x i y i)) ∧ A (upd x i y) (upd x i y i) w' ∧ Kp (E i w) w w' ∧ Nw a b i y w w' := by
      rintro f' w' ⟨y, e, ha, hk⟩
      exact ⟨y, by rw [upd_same]; exact e, by rw [upd_same]; exact hl _ _ _ _ (hx y) ha, hk⟩
    simp only [Wr] at h1 ⊢
    cases hw : wantedE ops (f x) o with
    | false =>
      rw [hw] at h1
      exact imp _ _ h1
    | true =>
      rw [hw] at h1
      exact upE_mono (fun u w' hu => imp _ _ hu) h1

/-- What the text's order shows of each operation. -/
theorem ChP.all (hops : ROk ops) (hB : masksOk ops B = true) {f : Env} {m : Nat} : ∀ (l : List Oper) (k : Nat) (g : Prm → Env) (fa : Nat → Fact), (∀ i, i < l.length → l[i]? = ops[k + i]?) → k + l.length = m →
    (∀ G : Prm → Env, (∀ x s, (∀ j p, k ≤ j → j < m → ops[j]? = some p → p.dst ≠ some s) → G x s = g x s) → ∀ x, mix ops f (G x) (fun j => Nat.blt j k) = g x) → ChP a b E E0 P ops B w0 K l k g fa →
    ∃ (G : Prm → Env) (FA : Nat → Fact), K G FA ∧ (∀ x s, (∀ j p, k ≤ j → j < m → ops[j]? = some p → p.dst ≠ some s) → G x s = g x s) ∧ (∀ j, j < k → FA j = fa j) ∧ (∀ x, mix ops f (G x) (fun j => Nat.blt j m) = G x) ∧
      ∀ i o, k ≤ i → i < m → ops[i]? = some o → ∃ (v : Prm → Value) (A : Prm → World → Prop), (∀ x y : Prm, (∀ j, bef B i j = true ∨ j = i → x j = y j) → v x = v y) ∧ (∀ (x y : Prm) w, (∀ j, bef B i j = true ∨ j = i → x j = y j) → A x w → A y w) ∧ (∀ x w w', A x w → Kp (othE E i w) w w' → A x w') ∧ (FA i = A) ∧ (∀ x d, o.dst = some d → G x d = v x) ∧
        ∀ (x : Prm) w, Keeps (monE E0 B i) w0 w → (∀ j, bef B i j = true → FA j x w) → Wr P ops (fun _ _ f' w' => ∃ y, f' = setO (mix ops f (G x) (fun j => Nat.blt j i)) o.dst (v (upd x i y)) ∧ A (upd x i y) w' ∧ Kp (E i w) w w' ∧ Nw a b i y w w') [] [o] (mix ops f (G x) (fun j => Nat.blt j i)) w
  | [], k, g, fa, hl, hk, hmix, hch => by
    simp only [List.length_nil, Nat.add_zero] at hk
    exact ⟨g, fa, hch, fun _ _ _ => rfl, fun _ _ => rfl, by rw [← hk]; exact hmix g fun _ _ _ => rfl, fun i o hi hi' ho => by omega⟩
  | o :: l, k, g, fa, hl, hk, hmix, hch => by
    obtain ⟨v, A, hloc, hlA, hmono, h1, h2⟩ := hch
    simp only [List.length_cons] at hk
    have ho : ops[k]? = some o := by have := hl 0 (by simp); simpa using this.symm
    have step : ∀ G : Prm → Env, (∀ x s, (∀ j p, k + 1 ≤ j → j < m → ops[j]? = some p → p.dst ≠ some s) → G x s = setO (g x) o.dst (v x) s) → (∀ x, mix ops f (G x) (fun j => Nat.blt j k) = g x) ∧ ∀ x d, o.dst = some d → G x d = v x := by
      intro G hG
      constructor
      · refine hmix G fun x s hs => ?_
        rw [hG x s fun j p hj hjm => hs j p (by omega) hjm]
        cases hd : o.dst with
        | none => rfl
        | some d => exact Env.set_ne _ _ (by rintro rfl; exact hs k o (Nat.le_refl _) (by omega) ho hd)
      · intro x d hd
        rw [hG x d fun j p hj hjm hp hpd => by have := hops.one k j o p d ho hp hpd hd; omega, hd]
        exact Env.set_same _ _ _
    have hsucc : (fun j => Nat.blt j k || Nat.beq j k) = fun j => Nat.blt j (k + 1) := by
      funext j
      apply Bool.eq_iff_iff.2
      simp only [Bool.or_eq_true, Nat.beq_eq, Nat.blt_eq]
      omega
    obtain ⟨G, FA, hK, hG, hFA, hGG, hall⟩ := ChP.all (f := f) (m := m) hops hB l (k + 1) (fun x => setO (g x) o.dst (v x)) (updG fa k A) (fun i hi => by have := hl (i + 1) (by simp; omega); simp only [List.getElem?_cons_succ] at this; rw [this]; congr 1; omega) (by omega) (fun G hG x => by
      obtain ⟨e1, e2⟩ := step G hG
      have := mix_step (f := f) (F := G x) (L := fun j => Nat.blt j k) ho (e2 x)
      rw [e1, hsucc] at this
      exact this.symm) h2
    obtain ⟨e1, e2⟩ := step G hG
    refine ⟨G, FA, hK, fun x s hs => ?_, fun j hj => ?_, hGG, fun i o' hi him ho' => ?_⟩
    · rw [hG x s fun j p hj hjm => hs j p (by omega) hjm]
      cases hd : o.dst with
      | none => rfl
      | some d => exact Env.set_ne _ _ (by rintro rfl; exact hs k o (Nat.le_refl _) (by omega) ho hd)
    · rw [hFA j (by omega), updG_ne _ _ (by omega)]
    · rcases Nat.eq_or_lt_of_le hi with rfl | hlt
      · rw [ho] at ho'; cases ho'
        refine ⟨v, A, hloc, hlA, hmono, by rw [hFA k (by omega), updG_same], e2, fun x w hk hf => ?_⟩
        rw [e1]
        refine h1 x w hk fun j hj => ?_
        have hjk := bef_lt hB hops ho hj
        have := hf j hj
        rwa [hFA j (by omega), updG_ne _ _ (by omega)] at this
      · exact hall i o' (by omega) him ho'

theorem wr_P (hE0 : ∀ (j : Nat) (w : World) (q : Nat), q < w0.heap.size → E j w q → E0 j q) {Q : Post} {ds : List Deferred} {f : Env} {G : Prm → Env} {FA : Nat → Fact} {m : Nat} (hops : ROk ops) (hB : masksOk ops B = true) (ht : tailOk ops.size m B = true) (hm : m ≤ ops.size)
    (hGG : ∀ x, mix ops f (G x) (fun j => Nat.blt j m) = G x)
    (hall : ∀ i o, i < m → ops[i]? = some o → ∃ (v : Prm → Value) (A : Prm → World → Prop), (∀ x y : Prm, (∀ j, bef B i j = true ∨ j = i → x j = y j) → v x = v y) ∧ (∀ (x y : Prm) w, (∀ j, bef B i j = true ∨ j = i → x j = y j) → A x w → A y w) ∧ (∀ x w w', A x w → Kp (othE E i w) w w' → A x w') ∧ (FA i = A) ∧ (∀ x d, o.dst = some d → G x d = v x) ∧
        ∀ (x : Prm) w, Keeps (monE E0 B i) w0 w → (∀ j, bef B i j = true → FA j x w) → Wr P ops (fun _ _ f' w' => ∃ y, f' = setO (mix ops f (G x) (fun j => Nat.blt j i)) o.dst (v (upd x i y)) ∧ A (upd x i y) w' ∧ Kp (E i w) w w' ∧ Nw a b i y w w') [] [o] (mix ops f (G x) (fun j => Nat.blt j i)) w)
    (hab : a ≠ b) (ham : a < m) (hbm : b < m) (hQ : ∀ x w', Keeps (allE E0) w0 w' → (∀ j, j < m → FA j x w') → blkV (x a) ≠ blkV (x b) → Wr P ops Q ds (ops.toList.drop m) (G x) w') :
    ∀ (fuel t : Nat) (listed : Array Bool) (x : Prm) (w : World), listed.size = ops.size → cnt (fun j => listed.getD j false) ops.size ≤ fuel →
      (∀ j p, listed.getD j false = true → ops[j]? = some p → ∀ e ∈ p.after.toList, Region.binds .any e = true → listed.getD e.on false = true) →
      (∀ j, m ≤ j → listed.getD j false = false) → Keeps (lisE E0 listed) w0 w → (∀ j, j < m → listed.getD j false = true → FA j x w) → Xab a b (fun j => listed.getD j false) x w →
      Wr P ops Q ds ((Region.linearise.go .any ops fuel t listed []).filterMap (ops[·]?)) (mix ops f (G x) (fun j => listed.getD j false)) w := by
  have fin : ∀ (fuel t : Nat) (listed : Array Bool) (x : Prm) (w : World), listed.size = ops.size → cnt (fun j => listed.getD j false) ops.size ≤ fuel → (∀ j, m ≤ j → listed.getD j false = false) → (∀ j, j < m → listed.getD j false = true) → Keeps (allE E0) w0 w → (∀ j, j < m → listed.getD j false = true → FA j x w) → Xab a b (fun j => listed.getD j false) x w →
      Wr P ops Q ds ((Region.linearise.go .any ops fuel t listed []).filterMap (ops[·]?)) (mix ops f (G x) (fun j => listed.getD j false)) w := by
    intro fuel t listed x w hsz hcn hno hyes hk hf hX
    have hl : ∀ j, listed.getD j false = Nat.blt j m := by
      intro j
      rcases Nat.lt_or_ge j m with h | h
      · rw [hyes j h]; symm; rw [Nat.blt_eq]; exact h
      · rw [hno j h, nblt_false h]
    have e : mix ops f (G x) (fun j => listed.getD j false) = G x := by
      rw [← hGG x]
      conv => rhs; rw [← hGG x]
      rw [hGG x]
      congr 1
      funext j; exact hl j
    rw [e]
    refine wr_tail hops hB ht fuel t listed m _ w hsz (fun j _ => hl j) (Nat.le_refl _) hm ?_ (hQ x w hk (fun j hj => hf j hj (hyes j hj)) (hX.2 (hyes a ham) (hyes b hbm)))
    have : ∀ k, m ≤ k → k - m ≤ cnt (fun j => listed.getD j false) k := by
      intro k
      induction k with
      | zero => intro _; simp
      | succ k ih =>
        intro hmk
        rcases Nat.eq_or_lt_of_le hmk with h | h
        · rw [h]; simp
        · have := ih (by omega)
          simp only [cnt, hno k (by omega), cond_false]; omega
    have := this ops.size hm
    omega
  intro fuel
  induction fuel with
  | zero =>
    intro t listed x w hsz hc hcl hno hk hf hX
    exact fin 0 t listed x w hsz hc hno (fun j hj => cnt_zero (L := fun j => listed.getD j false) ops.size (Nat.le_zero.1 hc) j (by omega)) (hk.mono fun q _ h => lis_all h) hf hX
  | succ fuel ih =>
    intro t listed x w hsz hc hcl hno hk hf hX
    by_cases hdone : ∀ j, j < m → listed.getD j false = true
    · exact fin (fuel + 1) t listed x w hsz hc hno hdone (hk.mono fun q _ h => lis_all h) hf hX
    simp only [Region.linearise.go]
    generalize hrs : ((List.range ops.size).filter fun i => !listed.getD i true && ((ops[i]?).map (·.after.all fun e => !Region.binds .any e || listed.getD e.on false)).getD false) = rs
    have hgd : ∀ i, i < ops.size → listed.getD i true = listed.getD i false := by
      intro i hi
      simp [Array.getD_eq_getD_getElem?, hsz, hi]
    cases hi : rs[t % rs.length]? with
    | none =>
      exfalso
      have hnil : rs = [] := by
        cases rs with
        | nil => rfl
        | cons x xs =>
          have hlt : t % (x :: xs).length < (x :: xs).length := Nat.mod_lt _ (by simp)
          rw [List.getElem?_eq_none_iff] at hi
          omega
      refine hdone ?_
      have : ∀ k, k ≤ ops.size → ∀ i, i < k → listed.getD i false = true := by
        intro k
        induction k with
        | zero => intro _ i hi; omega
        | succ k ihk =>
          intro hk' i hik
          rcases Nat.lt_or_eq_of_le (Nat.le_of_lt_succ hik) with hlt | rfl
          · exact ihk (by omega) i hlt
          · cases hL : listed.getD i false with
            | true => rfl
            | false =>
              exfalso
              have hmem : i ∈ rs := by
                rw [← hrs, List.mem_filter]
                refine ⟨List.mem_range.2 (by omega), ?_⟩
                obtain ⟨o, ho⟩ : ∃ o, ops[i]? = some o := ⟨ops[i]'(by omega), by simp [show i < ops.size by omega]⟩
                rw [hgd i (by omega), hL, ho]
                simp only [Bool.not_false, Bool.true_and, Option.map_some, Option.getD_some]
                rw [← Array.all_toList]
                refine List.all_eq_true.2 fun e he => ?_
                cases hb : Region.binds .any e with
                | false => rfl
                | true =>
                  have := hops.low i o ho e he hb
                  rw [ihk (by omega) e.on this]; rfl
              rw [hnil] at hmem; cases hmem
      exact fun j hj => this ops.size (Nat.le_refl _) j (by omega)
    | some i =>
      have hmem : i ∈ rs := List.mem_of_getElem? hi
      rw [← hrs, List.mem_filter] at hmem
      obtain ⟨hir, hib⟩ := hmem
      have hisz : i < ops.size := List.mem_range.1 hir
      obtain ⟨o, ho⟩ : ∃ o, ops[i]? = some o := ⟨ops[i], by simp [hisz]⟩
      rw [hgd i hisz, ho] at hib
      simp only [Bool.and_eq_true, Bool.not_eq_true', Option.map_some, Option.getD_some] at hib
      obtain ⟨hun, hready⟩ := hib
      rw [← Array.all_toList] at hready
      have hedge : ∀ e ∈ o.after.toList, Region.binds .any e = true → listed.getD e.on false = true := by
        intro e he hb
        have := List.all_eq_true.1 hready e he
        simpa [hb] using this
      have hbi : ∀ j, bef B i j = true → listed.getD j false = true ∧ j < i := fun j hj => bef_in hB hops (listed := fun j => listed.getD j false) hcl i o j ho hedge hj
      have him : i < m := by
        rcases Nat.lt_or_ge i m with h | h
        · exact h
        · exfalso
          exact hdone fun j hj => (hbi j (tail_bef ht hisz h (by omega))).1
      dsimp only
      rw [linearise_go_acc, List.reverse_singleton, List.singleton_append, List.filterMap_cons, ho]
      obtain ⟨v, A, hloc, hlA, hmono, hFAi, hGv, hone⟩ := hall i o him ho
      have hsee : ∀ d, looks ops o d = true → mix ops f (G x) (fun j => listed.getD j false) d = mix ops f (G x) (fun j => Nat.blt j i) d := by
        intro d hd
        refine mix_congr fun j p hj hp => ?_
        rcases hops.see i j o p d ho hj hp hd with rfl | ⟨e, he, hb, rfl⟩ | ⟨e, he, hb, rfl⟩
        · rw [hun, nblt_irrefl]
        · have := hops.low i o ho e he hb
          rw [hedge e he hb]; simp [this]
        · have := hops.low j p hj e he hb
          cases hL : listed.getD j false with
          | false => exact (nblt_false (by omega)).symm
          | true =>
            have := hcl j p hL hj e he hb
            rw [hun] at this; cases this
      obtain ⟨c1, c2⟩ := looks_congr (o := o) hsee (hops.sel i o ho)
      have hmon : ∀ j, listed.getD j false = true → (listed.setIfInBounds i true).getD j false = true := by
        intro j hj
        by_cases hji : j = i
        · subst hji; simp [Array.getD_eq_getD_getElem?, hsz, hisz]
        · simpa [Array.getD_eq_getD_getElem?, Array.getElem?_setIfInBounds, Ne.symm hji] using hj
      have hself : (listed.setIfInBounds i true).getD i false = true := by simp [Array.getD_eq_getD_getElem?, hsz, hisz]
      have hother : ∀ j, j ≠ i → (listed.setIfInBounds i true).getD j false = listed.getD j false := fun j hji => by simp [Array.getD_eq_getD_getElem?, Array.getElem?_setIfInBounds, Ne.symm hji]
      -- what those that are done left does not hang on what this one leaves
      have hold : ∀ (y : Value) (j : Nat) (p : Oper), listed.getD j false = true → ops[j]? = some p → ∀ d, p.dst = some d → G (upd x i y) d = G x d := by
        intro y j p hL hj d hd
        have hji : j ≠ i := by rintro rfl; rw [hun] at hL; cases hL
        have hjm : j < m := by
          rcases Nat.lt_or_ge j m with h | h
          · exact h
          · rw [hno j h] at hL; cases hL
        obtain ⟨v', _, hloc', _, _, _, hGv', _⟩ := hall j p hjm hj
        rw [hGv' _ d hd, hGv' _ d hd]
        refine hloc' _ _ fun j' hj' => upd_ne _ _ ?_
        rintro rfl
        rcases hj' with hj' | hj'
        · have := (bef_in hB hops (listed := fun j => listed.getD j false) hcl j p j' hj (fun e he hb => hcl j p hL hj e he hb) hj').1
          rw [hun] at this; cases this
        · exact hji hj'.symm
      have hframe : ∀ y, setO (mix ops f (G x) (fun j => listed.getD j false)) o.dst (v (upd x i y)) = mix ops f (G (upd x i y)) (fun j => (listed.setIfInBounds i true).getD j false) := by
        intro y
        have e1 : mix ops f (G x) (fun j => listed.getD j false) = mix ops f (G (upd x i y)) (fun j => listed.getD j false) := by
          funext s
          unfold mix
          by_cases hc : ∃ j p, listed.getD j false = true ∧ ops[j]? = some p ∧ p.dst = some s
          · rw [if_pos hc, if_pos hc]
            obtain ⟨j, p, h1, h2, h3⟩ := hc
            exact (hold y j p h1 h2 s h3).symm
          · rw [if_neg hc, if_neg hc]
        rw [e1, mix_step ho (fun d hd => hGv (upd x i y) d hd)]
        funext s
        refine mix_congr fun j p _ _ => ?_
        by_cases hji : j = i
        · subst hji; rw [hself]; simp
        · rw [hother j hji, nbeq_ne hji, Bool.or_false]
      have next : ∀ y w', A (upd x i y) w' → Kp (E i w) w w' → Nw a b i y w w' → Wr P ops Q ds ((Region.linearise.go .any ops fuel (t / rs.length) (listed.setIfInBounds i true) []).filterMap (ops[·]?)) (setO (mix ops f (G x) (fun j => listed.getD j false)) o.dst (v (upd x i y))) w' := by
        intro y w' hA hkw hnw
        rw [hframe y]
        refine ih _ _ (upd x i y) w' (by simpa using hsz) ?_ ?_ ?_ ((hk.mono fun q _ h => by obtain ⟨j, hj, h⟩ := h; exact ⟨j, hmon _ hj, h⟩).trans' hkw.1 (fun q hq h => ⟨i, hself, hE0 i w q hq h⟩)) ?_ (hX.step hab hnw hkw.1.size hother)
        · have := cnt_lt (L := fun j => listed.getD j false) (L' := fun j => (listed.setIfInBounds i true).getD j false) hmon hun hself ops.size hisz
          omega
        · intro j p hj hp e he hb
          by_cases hji : j = i
          · subst hji
            rw [ho] at hp; cases hp
            exact hmon _ (hedge e he hb)
          · rw [hother j hji] at hj
            exact hmon _ (hcl j p hj hp e he hb)
        · intro j hj
          rw [hother j (by omega)]; exact hno j hj
        · intro j hjm hj
          by_cases hji : j = i
          · subst hji
            rw [hFAi]
            exact hA
          · rw [hother j hji] at hj
            have h0 := hf j hjm hj
            obtain ⟨p, hp⟩ : ∃ p, ops[j]? = some p := ⟨ops[j]'(by omega), by simp [show j < ops.size by omega]⟩
            obtain ⟨_, A', _, hlA', hmono', hFAj, _, _⟩ := hall j p hjm hp
            rw [hFAj] at h0 ⊢
            refine hlA' x _ _ (fun k hk' => (upd_ne _ _ ?_).symm) (hmono' _ _ _ h0 (hkw.mono fun q _ h => ⟨i, fun e => hji e.symm, h⟩))
            rintro rfl
            rcases hk' with hk' | hk'
            · have := (bef_in hB hops (listed := fun j => listed.getD j false) hcl j p k hp (fun e he hb => hcl j p hj hp e he hb) hk').1
              rw [hun] at this; cases this
            · exact hji hk'.symm
      have hkm : Keeps (monE E0 B i) w0 w := by
        refine hk.mono fun q _ h => ?_
        obtain ⟨k, hL, hE⟩ := h
        refine ⟨k, hE, ?_⟩
        cases hb : (Nat.beq i k || bef B k i) with
        | false => rfl
        | true =>
          exfalso
          rcases Bool.or_eq_true _ _ ▸ hb with h | h
          · have := Nat.eq_of_beq_eq_true h
            subst this
            rw [hun] at hL; cases hL
          · have hkm' : k < m := by
              rcases Nat.lt_or_ge k m with h' | h'
              · exact h'
              · rw [hno k h'] at hL; cases hL
            obtain ⟨p, hp⟩ : ∃ p, ops[k]? = some p := ⟨ops[k]'(by omega), by simp [show k < ops.size by omega]⟩
            have := (bef_in hB hops (listed := fun j => listed.getD j false) hcl k p i hp (fun e he hb => hcl k p hL hp e he hb) h).1
            rw [hun] at this; cases this
      have h1 := hone x w hkm fun j hj => by
        obtain ⟨h1, h2⟩ := hbi j hj
        exact hf j (by omega) h1
      simp only [Wr] at h1 ⊢
      rw [c1, c2]
      cases hw : wantedE ops (mix ops f (G x) (fun j => Nat.blt j i)) o with
      | false =>
        rw [hw] at h1
        obtain ⟨y, h2, h3, h4, h5⟩ := h1
        have hset : setO (mix ops f (G x) (fun j => listed.getD j false)) o.dst undef = setO (mix ops f (G x) (fun j => listed.getD j false)) o.dst (v (upd x i y)) := by
          cases hd : o.dst with
          | none => rfl
          | some d =>
            have := congrFun h2 d
            rw [hd] at this
            have e : undef = v (upd x i y) := by simpa [Env.set_same] using this
            rw [e]
        show Wr P ops Q ds _ (setO (mix ops f (G x) (fun j => listed.getD j false)) o.dst undef) w
        rw [hset]; exact next y w h3 h4 h5
      | true =>
        rw [hw] at h1
        refine upE_mono ?_ h1
        rintro u w' ⟨y, hu, hA, hkw, hnw⟩
        have hset : setO (mix ops f (G x) (fun j => listed.getD j false)) o.dst u = setO (mix ops f (G x) (fun j => listed.getD j false)) o.dst (v (upd x i y)) := by
          cases hd : o.dst with
          | none => rfl
          | some d =>
            have := congrFun hu d
            rw [hd] at this
            have e : u = v (upd x i y) := by simpa [Env.set_same] using this
            rw [e]
        rw [hset]; exact next y w' hA hkw hnw
/-- A region that draws its order: its first m operations lay new blocks at most, but for one, which may write D; the others wait for all of them, and one for another. -/
theorem wc_drawE (a b : Nat) (E : Nat → World → Nat → Prop) (E0 : Nat → Nat → Prop) {r : Option Nat} {n id : Nat} {Q : Post} {ds : List Deferred} {f : Env} {w : World} {l : List Oper} (m : Nat) (B : Nat) (hm : P.follows .mixedOrders = true) (hok : regionOk l.toArray = true) (hBB : B = masks l) (hB : masksOk l.toArray B = true) (ht : tailOk l.length m B = true) (hml : m ≤ l.length) (hE0 : ∀ (j : Nat) (w' : World) (q : Nat), q < w.drew.heap.size → E j w' q → E0 j q) (hab : a ≠ b) (ham : a < m) (hbm : b < m)
    (h : ChP a b E E0 P l.toArray B w.drew (fun g fa => ∀ x w', Keeps (allE E0) w.drew w' → (∀ j, j < m → fa j x w') → blkV (x a) ≠ blkV (x b) → Wr P l.toArray Q ds (l.drop m) (g x) w') (l.take m) 0 (fun _ => f) (fun _ _ _ => True)) : Wc r P n (.region id l.toArray true) Q ds f w := by
  refine wc_draw fun t => ?_
  obtain ⟨G, FA, hK, _, _, hGG, hall⟩ := ChP.all (f := f) (m := m) (ROk.of hok) hB (l.take m) 0 (fun _ => f) (fun _ _ _ => True) (fun i hi => by rw [List.length_take] at hi; rw [List.getElem?_take_of_lt (by omega)]; simp) (by rw [List.length_take]; omega) (fun G hG x => by
    funext s
    unfold mix
    rw [if_neg]
    rintro ⟨j, p, h1, _⟩
    simp at h1) h
  simp only [Region.schedule, hm, Bool.true_or, if_true, Region.linearise]
  have := wr_P hE0 (Q := Q) (ds := ds) (ROk.of hok) hB (by simpa using ht) (by simpa using hml) hGG (fun i o him ho => hall i o (Nat.zero_le _) him ho) hab ham hbm hK l.toArray.size t (Array.replicate l.toArray.size false) (fun _ => undef) w.drew (by simp) (cnt_max _ _) (by intro j p hj; simp [Array.getD_eq_getD_getElem?, Array.getElem?_replicate] at hj; split at hj <;> simp_all)
    (fun j _ => by simp only [Array.getD_eq_getD_getElem?, Array.getElem?_replicate]; split <;> rfl) (Keeps.refl _ _) (fun j _ hj => by simp only [Array.getD_eq_getD_getElem?, Array.getElem?_replicate] at hj; split at hj <;> simp at hj) ⟨fun j _ hj => by simp only [Array.getD_eq_getD_getElem?, Array.getElem?_replicate] at hj; split at hj <;> simp at hj, fun hj => by simp only [Array.getD_eq_getD_getElem?, Array.getElem?_replicate] at hj; split at hj <;> simp at hj⟩
  have he : mix l.toArray f (G fun _ => undef) (fun j => (Array.replicate l.toArray.size false).getD j false) = f := by
    funext s
    refine mix_no fun j p hj hp => ?_
    simp only [Array.getD_eq_getD_getElem?, Array.getElem?_replicate]
    split <;> rfl
  rw [he] at this
  exact this
end
end Go.V.T
