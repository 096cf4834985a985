/- Drawn regions of which the world's condition hangs on what is done: SL (what is done) holds between. -/
import Derived.Test.YtajajahofkialaaGreatDoorVL
namespace Go.V.L
open Go.RowKit
set_option linter.unusedVariables false
set_option linter.unusedSimpArgs false

section
variable {P : Program} {ops : Array Oper} {SL : (Nat → Bool) → World → Prop}
def Clo (ops : Array Oper) (L : Nat → Bool) : Prop := ∀ j p, L j = true → ops[j]? = some p → ∀ e ∈ p.after.toList, Region.binds .any e = true → L e.on = true
/-- Operation number i, from frame f, whatever is done of what it need not wait for: leaves v. -/
def One (P : Program) (ops : Array Oper) (SL : (Nat → Bool) → World → Prop) (i : Nat) (f : Env) (o : Oper) (v : Value) : Prop := ∀ (L : Nat → Bool) (w : World), L i = false → Clo ops L → (∀ e ∈ o.after.toList, Region.binds .any e = true → L e.on = true) → SL L w → Wr P ops (fun _ _ f' w' => f' = setO f o.dst v ∧ SL (fun j => L j || Nat.beq j i) w') [] [o] f w
/-- The operations in the text's order. -/
def Ch (P : Program) (ops : Array Oper) (SL : (Nat → Bool) → World → Prop) (K : Env → Prop) : List Oper → Nat → Env → Prop
  | [], _, f => K f
  | o :: rest, i, f => ∃ v, One P ops SL i f o v ∧ Ch P ops SL K rest (i + 1) (setO f o.dst v)
theorem ch_nil {K : Env → Prop} {i : Nat} {f : Env} (h : K f) : Ch P ops SL K [] i f := h
theorem ch_step {K : Env → Prop} {o : Oper} {rest : List Oper} {i : Nat} {f : Env} {v : Value} (h : One P ops SL i f o v) (hr : Ch P ops SL K rest (i + 1) (setO f o.dst v)) : Ch P ops SL K (o :: rest) i f := ⟨v, h, hr⟩
/-- What the text's order shows of each operation. -/
theorem Ch.all {K : Env → Prop} (hops : ROk ops) : ∀ (l : List Oper) (k : Nat) (f g : Env), (∀ i, l[i]? = ops[k + i]?) → k + l.length = ops.size → (∀ F : Env, (∀ s, (∀ j p, k ≤ j → ops[j]? = some p → p.dst ≠ some s) → F s = g s) → mix ops f F (fun j => Nat.blt j k) = g) → Ch P ops SL K l k g →
    ∃ F, K F ∧ (∀ s, (∀ j p, k ≤ j → ops[j]? = some p → p.dst ≠ some s) → F s = g s) ∧ mix ops f F (fun j => Nat.blt j ops.size) = F ∧ ∀ i o, k ≤ i → ops[i]? = some o → ∃ v, One P ops SL i (mix ops f F (fun j => Nat.blt j i)) o v ∧ ∀ d, o.dst = some d → F d = v
  | [], k, f, g, hl, hk, hmix, hch => by
    refine ⟨g, hch, fun _ _ => rfl, ?_, fun i o hi ho => ?_⟩
    · simp only [List.length_nil, Nat.add_zero] at hk
      rw [← hk]; exact hmix g fun _ _ => rfl
    · have := (Array.getElem?_eq_some_iff.1 ho).1
      simp at hk; omega
  | o :: l, k, f, g, hl, hk, hmix, hch => by
    obtain ⟨v, h1, h2⟩ := hch
    have ho : ops[k]? = some o := by have := hl 0; simpa using this.symm
    have step : ∀ F : Env, (∀ s, (∀ j p, k + 1 ≤ j → ops[j]? = some p → p.dst ≠ some s) → F s = setO g o.dst v s) → (mix ops f F (fun j => Nat.blt j k) = g) ∧ ∀ d, o.dst = some d → F d = v := by
      intro F hF
      constructor
      · refine hmix F fun s hs => ?_
        rw [hF s fun j p hj => hs j p (by omega)]
        cases hd : o.dst with
        | none => rfl
        | some d => exact Env.set_ne _ _ (by rintro rfl; exact hs k o (Nat.le_refl _) ho hd)
      · intro d hd
        rw [hF d fun j p hj hp hpd => by have := hops.one k j o p d ho hp hpd hd; omega, hd]
        exact Env.set_same _ _ _
    have hsucc : (fun j => Nat.blt j k || Nat.beq j k) = fun j => Nat.blt j (k + 1) := by
      funext j
      apply Bool.eq_iff_iff.2
      simp only [Bool.or_eq_true, Nat.beq_eq, Nat.blt_eq]
      omega
    obtain ⟨F, hK, hF, hFF, hall⟩ := Ch.all hops l (k + 1) f (setO g o.dst v) (fun i => by have := hl (i + 1); simp only [List.getElem?_cons_succ] at this; rw [this]; congr 1; omega) (by simp at hk; omega) (fun F hF => by
      obtain ⟨e1, e2⟩ := step F hF
      have := mix_step (f := f) (F := F) (L := fun j => Nat.blt j k) ho e2
      rw [e1, hsucc] at this
      exact this.symm) h2
    obtain ⟨e1, e2⟩ := step F hF
    refine ⟨F, hK, fun s hs => ?_, hFF, fun i o' hi ho' => ?_⟩
    · rw [hF s fun j p hj => hs j p (by omega)]
      cases hd : o.dst with
      | none => rfl
      | some d => exact Env.set_ne _ _ (by rintro rfl; exact hs k o (Nat.le_refl _) ho hd)
    · rcases Nat.eq_or_lt_of_le hi with rfl | hlt
      · rw [ho] at ho'; cases ho'
        exact ⟨v, by rw [e1]; exact h1, e2⟩
      · exact hall i o' (by omega) ho'

theorem wr_any {Q : Post} {ds : List Deferred} {f F : Env} (hops : ROk ops) (hFF : mix ops f F (fun j => Nat.blt j ops.size) = F) (hall : ∀ i o, ops[i]? = some o → ∃ v, One P ops SL i (mix ops f F (fun j => Nat.blt j i)) o v ∧ ∀ d, o.dst = some d → F d = v) (hQ : ∀ w', SL (fun j => Nat.blt j ops.size) w' → Q .normal ds F w') :
    ∀ (fuel t : Nat) (listed : Array Bool) (w : World), listed.size = ops.size → cnt (fun j => listed.getD j false) ops.size ≤ fuel →
      (∀ j p, listed.getD j false = true → ops[j]? = some p → ∀ e ∈ p.after.toList, Region.binds .any e = true → listed.getD e.on false = true) → SL (fun j => listed.getD j false) w →
      Wr P ops Q ds ((Region.linearise.go .any ops fuel t listed []).filterMap (ops[·]?)) (mix ops f F (fun j => listed.getD j false)) w := by
  have fin : ∀ (listed : Array Bool) (w : World), listed.size = ops.size → (∀ i, i < ops.size → listed.getD i false = true) → SL (fun j => listed.getD j false) w → Wr P ops Q ds [] (mix ops f F (fun j => listed.getD j false)) w := by
    intro listed w hsz hl hS
    have hfun : (fun j => listed.getD j false) = fun j => Nat.blt j ops.size := by
      funext j
      by_cases hj : j < ops.size
      · rw [hl j hj]; exact (show Nat.blt j ops.size = true by rw [Nat.blt_eq]; exact hj).symm
      · rw [nblt_false (Nat.le_of_not_lt hj)]; simp [Array.getD_eq_getD_getElem?, Array.getElem?_eq_none (show listed.size ≤ j by omega)]
    have : mix ops f F (fun j => listed.getD j false) = F := by
      rw [← hFF]; funext s
      rw [hFF]
      conv => rhs; rw [← hFF]
      exact mix_congr fun j p hj _ => by
        have hlt := (Array.getElem?_eq_some_iff.1 hj).1
        rw [hl j hlt]; simp [hlt]
    rw [this]; exact wr_nil (hQ w (by rw [← hfun]; exact hS))
  intro fuel
  induction fuel with
  | zero =>
    intro t listed w hsz hc hcl hS
    exact fin listed w hsz (fun i hi => cnt_zero (L := fun j => listed.getD j false) ops.size (Nat.le_zero.1 hc) i hi) hS
  | succ fuel ih =>
    intro t listed w hsz hc hcl hS
    simp only [Region.linearise.go]
    generalize hrs : ((List.range ops.size).filter fun i => !listed.getD i true && ((ops[i]?).map (·.after.all fun e => !Region.binds .any e || listed.getD e.on false)).getD false) = rs
    have hgd : ∀ i, i < ops.size → listed.getD i true = listed.getD i false := by
      intro i hi
      simp [Array.getD_eq_getD_getElem?, hsz, hi]
    cases hi : rs[t % rs.length]? with
    | none =>
      have hnil : rs = [] := by
        cases rs with
        | nil => rfl
        | cons x xs =>
          have hlt : t % (x :: xs).length < (x :: xs).length := Nat.mod_lt _ (by simp)
          rw [List.getElem?_eq_none_iff] at hi
          omega
      refine fin listed w hsz ?_ hS
      -- the least that is not listed would be ready
      have : ∀ k, k ≤ ops.size → ∀ i, i < k → listed.getD i false = true := by
        intro k
        induction k with
        | zero => intro _ i hi; omega
        | succ k ihk =>
          intro hk i hik
          rcases Nat.lt_or_eq_of_le (Nat.le_of_lt_succ hik) with hlt | rfl
          · exact ihk (by omega) i hlt
          · cases hL : listed.getD i false with
            | true => rfl
            | false =>
              exfalso
              have hmem : i ∈ rs := by
                rw [← hrs, List.mem_filter]
                refine ⟨List.mem_range.2 (by omega), ?_⟩
                obtain ⟨o, ho⟩ : ∃ o, ops[i]? = some o := ⟨ops[i]'(by omega), by simp [show i < ops.size by omega]⟩
                rw [hgd i (by omega), hL, ho]
                simp only [Bool.not_false, Bool.true_and, Option.map_some, Option.getD_some]
                rw [← Array.all_toList]
                refine List.all_eq_true.2 fun e he => ?_
                cases hb : Region.binds .any e with
                | false => rfl
                | true =>
                  have := hops.low i o ho e he hb
                  rw [ihk (by omega) e.on this]; rfl
              rw [hnil] at hmem; cases hmem
      exact this ops.size (Nat.le_refl _)
    | some i =>
      have hmem : i ∈ rs := List.mem_of_getElem? hi
      rw [← hrs, List.mem_filter] at hmem
      obtain ⟨hir, hib⟩ := hmem
      have hisz : i < ops.size := List.mem_range.1 hir
      obtain ⟨o, ho⟩ : ∃ o, ops[i]? = some o := ⟨ops[i], by simp [hisz]⟩
      rw [hgd i hisz, ho] at hib
      simp only [Bool.and_eq_true, Bool.not_eq_true', Option.map_some, Option.getD_some] at hib
      obtain ⟨hun, hready⟩ := hib
      rw [← Array.all_toList] at hready
      have hedge : ∀ e ∈ o.after.toList, Region.binds .any e = true → listed.getD e.on false = true := by
        intro e he hb
        have := List.all_eq_true.1 hready e he
        simpa [hb] using this
      dsimp only
      rw [linearise_go_acc, List.reverse_singleton, List.singleton_append, List.filterMap_cons, ho]
      obtain ⟨v, hone, hFd⟩ := hall i o ho
      -- the frame as the operation sees it
      have hsee : ∀ d, looks ops o d = true → mix ops f F (fun j => listed.getD j false) d = mix ops f F (fun j => Nat.blt j i) d := by
        intro d hd
        refine mix_congr fun j p hj hp => ?_
        rcases hops.see i j o p d ho hj hp hd with rfl | ⟨e, he, hb, rfl⟩ | ⟨e, he, hb, rfl⟩
        · rw [hun, nblt_irrefl]
        · have := hops.low i o ho e he hb
          rw [hedge e he hb]; simp [this]
        · have := hops.low j p hj e he hb
          cases hL : listed.getD j false with
          | false => exact (nblt_false (by omega)).symm
          | true =>
            have := hcl j p hL hj e he hb
            rw [hun] at this; cases this
      obtain ⟨c1, c2⟩ := looks_congr (o := o) hsee (hops.sel i o ho)
      have hframe : setO (mix ops f F (fun j => listed.getD j false)) o.dst v = mix ops f F (fun j => (listed.setIfInBounds i true).getD j false) := by
        rw [mix_step ho hFd]
        funext s
        refine mix_congr fun j p _ _ => ?_
        by_cases hji : j = i
        · subst hji; simp [Array.getD_eq_getD_getElem?, hsz, hisz]
        · have : Nat.beq j i = false := by
            cases hb : Nat.beq j i with
            | false => rfl
            | true => exact absurd (Nat.eq_of_beq_eq_true hb) hji
          rw [this, Bool.or_false]
          simp [Array.getD_eq_getD_getElem?, Array.getElem?_setIfInBounds, Ne.symm hji]
      have hmono : ∀ j, listed.getD j false = true → (listed.setIfInBounds i true).getD j false = true := by
        intro j hj
        by_cases hji : j = i
        · subst hji; simp [Array.getD_eq_getD_getElem?, hsz, hisz]
        · simpa [Array.getD_eq_getD_getElem?, Array.getElem?_setIfInBounds, Ne.symm hji] using hj
      have hself : (listed.setIfInBounds i true).getD i false = true := by simp [Array.getD_eq_getD_getElem?, hsz, hisz]
      have next : ∀ w', SL (fun j => listed.getD j false || Nat.beq j i) w' → Wr P ops Q ds ((Region.linearise.go .any ops fuel (t / rs.length) (listed.setIfInBounds i true) []).filterMap (ops[·]?)) (setO (mix ops f F (fun j => listed.getD j false)) o.dst v) w' := by
        intro w' hS'
        rw [hframe]
        have hfun2 : (fun j => listed.getD j false || Nat.beq j i) = fun j => (listed.setIfInBounds i true).getD j false := by
          funext j
          by_cases hji : j = i
          · subst hji; simp [Array.getD_eq_getD_getElem?, hsz, hisz]
          · have : Nat.beq j i = false := by
              cases hb : Nat.beq j i with
              | false => rfl
              | true => exact absurd (Nat.eq_of_beq_eq_true hb) hji
            rw [this, Bool.or_false]
            simp [Array.getD_eq_getD_getElem?, Array.getElem?_setIfInBounds, Ne.symm hji]
        rw [hfun2] at hS'
        refine ih _ _ w' (by simpa using hsz) ?_ ?_ hS'
        · have := cnt_lt (L := fun j => listed.getD j false) (L' := fun j => (listed.setIfInBounds i true).getD j false) hmono hun hself ops.size hisz
          omega
        · intro j p hj hp e he hb
          by_cases hji : j = i
          · subst hji
            rw [ho] at hp; cases hp
            exact hmono _ (hedge e he hb)
          · have : listed.getD j false = true := by simpa [Array.getD_eq_getD_getElem?, Array.getElem?_setIfInBounds, Ne.symm hji] using hj
            exact hmono _ (hcl j p this hp e he hb)
      have h1 := hone (fun j => listed.getD j false) w hun (fun j p hj hp e he hb => hcl j p hj hp e he hb) hedge hS
      simp only [Wr] at h1 ⊢
      rw [c1, c2]
      cases hw : wantedE ops (mix ops f F (fun j => Nat.blt j i)) o with
      | false =>
        rw [hw] at h1
        simp only [cond_false] at h1 ⊢
        have hset : setO (mix ops f F (fun j => listed.getD j false)) o.dst undef = setO (mix ops f F (fun j => listed.getD j false)) o.dst v := by
          cases hd : o.dst with
          | none => rfl
          | some d =>
            have := congrFun h1.1 d
            rw [hd] at this
            have e : undef = v := by simpa [Env.set_same] using this
            rw [e]
        rw [hset]; exact next w h1.2
      | true =>
        rw [hw] at h1
        simp only [cond_true] at h1 ⊢
        refine upE_mono ?_ h1
        rintro u w' ⟨hu, hS'⟩
        have hset : setO (mix ops f F (fun j => listed.getD j false)) o.dst u = setO (mix ops f F (fun j => listed.getD j false)) o.dst v := by
          cases hd : o.dst with
          | none => rfl
          | some d =>
            have := congrFun hu d
            rw [hd] at this
            have e : u = v := by simpa [Env.set_same] using this
            rw [e]
        rw [hset]; exact next w' hS'
/-- A region that draws its order, whose results do not hang on it: its operations are walked once, in the text's order, under S. -/
theorem wc_drawL {r : Option Nat} {n id : Nat} {Q : Post} {ds : List Deferred} {f : Env} {w : World} {l : List Oper} (SL : (Nat → Bool) → World → Prop) (hm : P.follows .mixedOrders = true) (hok : regionOk l.toArray = true) (hS : SL (fun _ => false) w.drew)
    (h : Ch P l.toArray SL (fun F => ∀ w', SL (fun j => Nat.blt j l.length) w' → Q .normal ds F w') l 0 f) : Wc r P n (.region id l.toArray true) Q ds f w := by
  refine wc_draw fun t => ?_
  obtain ⟨F, hK, _, hFF, hall⟩ := Ch.all (ROk.of hok) l 0 f f (fun i => by simp) (by simp) (fun F hF => by
    funext s
    unfold mix
    rw [if_neg]
    rintro ⟨j, p, h1, _⟩
    simp at h1) h
  simp only [Region.schedule, hm, Bool.true_or, if_true, Region.linearise]
  have := wr_any (Q := Q) (ds := ds) (ROk.of hok) hFF (fun i o ho => hall i o (Nat.zero_le _) ho) hK l.toArray.size t (Array.replicate l.toArray.size false) w.drew (by simp) (cnt_max _ _) (by intro j p hj; simp [Array.getD_eq_getD_getElem?, Array.getElem?_replicate] at hj; split at hj <;> simp_all) (by
      have : (fun j => (Array.replicate l.toArray.size false).getD j false) = fun _ => false := by
        funext j; simp only [Array.getD_eq_getD_getElem?, Array.getElem?_replicate]; split <;> rfl
      rw [this]; exact hS)
  have he : mix l.toArray f F (fun j => (Array.replicate l.toArray.size false).getD j false) = f := by
    funext s
    unfold mix
    rw [if_neg]
    rintro ⟨j, p, h1, _⟩
    simp only [Array.getD_eq_getD_getElem?, Array.getElem?_replicate] at h1
    split at h1 <;> simp at h1
  rw [he] at this
  exact this
end
/-- One operation lays a block (a), one writes it (s); all others read only. -/
def tri (a s : Nat) (w1 w2 w3 : World) : (Nat → Bool) → World → Prop := fun L w => w = (bif L s then w3 else bif L a then w2 else w1)
section
variable {P : Program} {ops : Array Oper} {a s i : Nat} {w1 w2 w3 : World} {f : Env} {o : Oper} {v : Value}
theorem wr_post {Q Q' : Post} {ds : List Deferred} {w : World} (h : Wr P ops Q ds [o] f w) (hq : ∀ f' w', Q .normal ds f' w' → Q' .normal ds f' w') : Wr P ops Q' ds [o] f w := by
  simp only [Wr] at h ⊢
  cases hw : wantedE ops f o with
  | false => rw [hw] at h; exact hq _ _ h
  | true => rw [hw] at h; exact upE_mono (fun v w h => hq _ _ h) h
theorem one_read (hk2 : Keeps NoB w1 w2) (hk3 : Keeps NoB w1 w3) (ha : Nat.beq a i = false) (hs : Nat.beq s i = false) (h : ∀ w, Keeps NoB w1 w → Wr P ops (fun _ _ f' w' => f' = setO f o.dst v ∧ w' = w) [] [o] f w) : One P ops (tri a s w1 w2 w3) i f o v := by
  intro L w hL hC hd hS
  have hk : Keeps NoB w1 w := by
    unfold tri at hS
    rw [hS]
    cases L s
    · cases L a
      · exact Keeps.refl _ _
      · exact hk2
    · exact hk3
  refine wr_post (h w hk) ?_
  rintro f' w' ⟨h1, rfl⟩
  refine ⟨h1, ?_⟩
  unfold tri at hS ⊢
  dsimp only
  rw [ha, hs, Bool.or_false, Bool.or_false]
  exact hS
theorem one_alloc (hdep : (match ops[s]? with | some p => edgeTo p a | none => false) = true) (hsa : Nat.beq s a = false) (h : Wr P ops (fun _ _ f' w' => f' = setO f o.dst v ∧ w' = w2) [] [o] f w1) : One P ops (tri a s w1 w2 w3) a f o v := by
  intro L w hL hC hd hS
  have hLs : L s = false := by
    cases hc : L s with
    | false => rfl
    | true =>
      exfalso
      cases hp : ops[s]? with
      | none => rw [hp] at hdep; cases hdep
      | some p =>
        rw [hp] at hdep
        obtain ⟨e, h1, h2, h3⟩ := edgeTo_spec hdep
        have := hC s p hc hp e h1 h2
        rw [h3, hL] at this
        cases this
  have hw : w = w1 := by unfold tri at hS; rw [hS, hLs, hL]; rfl
  subst hw
  refine wr_post h ?_
  rintro f' w' ⟨h1, rfl⟩
  refine ⟨h1, ?_⟩
  unfold tri
  dsimp only
  rw [hLs, hsa, Nat.beq_refl, Bool.or_true]
  rfl
theorem one_store (hdep : edgeTo o a = true) (h : Wr P ops (fun _ _ f' w' => f' = setO f o.dst v ∧ w' = w3) [] [o] f w2) : One P ops (tri a s w1 w2 w3) s f o v := by
  intro L w hL hC hd hS
  obtain ⟨e, h1, h2, h3⟩ := edgeTo_spec hdep
  have hLa : L a = true := by rw [← h3]; exact hd e h1 h2
  have hw : w = w2 := by unfold tri at hS; rw [hS, hL, hLa]; rfl
  subst hw
  refine wr_post h ?_
  rintro f' w' ⟨h1, rfl⟩
  refine ⟨h1, ?_⟩
  unfold tri
  dsimp only
  rw [Nat.beq_refl, Bool.or_true]
  rfl
theorem tri_end {n : Nat} {w : World} (h : tri a s w1 w2 w3 (fun j => Nat.blt j n) w) (hs : Nat.blt s n = true) : w = w3 := by
  unfold tri at h
  rw [h]
  dsimp only
  rw [hs]; rfl
end
end Go.V.L
