/- payload.take, over fields that are taken each in its own way: what it does. -/
import Derived.Test.YthlbgeonobicbaaDoorYg
namespace Go.Proofs.YthlbgeonobicbaaDoor
open Go Go.V Go.RowKit
set_option linter.unusedVariables false
set_option linter.unusedSimpArgs false

/-- What a message's fields are taken into: St s w: the world holds s; own s: the blocks that taking may write. -/
structure Mach {σ τ : Type} (St : σ → World → Prop) (own : σ → Nat → Prop) (slL : Value) (L : List Fd) (pi : σ → τ) (inv : Nat → σ → Prop) (tk : Nat → τ → List WF → Option τ) : Prop where
  keep : ∀ s w w', St s w → Keeps NoB w w' → St s w'
  lt : ∀ s w k, St s w → own s k → k < w.heap.size
  sl : ∀ s w, St s w → SlR w 3 slL L.length (L.flatMap G3)
  glo : ∀ s w, St s w → ∃ p q, Glo w p q
  one : ∀ x ∈ L, x.one
  len : L.length ≤ 1000
  step : ∀ k x, L[k]? = some x → ∀ s w fl sl, St s w → inv k s → fl.length ≤ 1000000000 → (∀ f ∈ fl, f.s.length ≤ 1000000000 ∧ f.n < 18446744073709551616) → SlR w 4 sl fl.length (FL fl) → (∀ b, sl.ownBlock = some b → b < w.heap.size ∧ ¬ own s b) →
    CallV Tryd.prog x.2.2 #[sl] w fun v w' => ∃ s', St s' w' ∧ Keeps (own s) w w' ∧ (∀ b, own s' b → own s b ∨ w.heap.size ≤ b) ∧ ((v = .bool true ∧ tk k (pi s) fl = some (pi s') ∧ inv (k + 1) s') ∨ (v = .bool false ∧ tk k (pi s) fl = none))
def tkAll {τ : Type} (tk : Nat → τ → List WF → Option τ) (l : List WF) : Nat → Nat → τ → Option τ
  | 0, _, s => some s
  | n + 1, k, s => (tk k s (allF l ((k + 1 : Nat) : Int))).bind fun s' => tkAll tk l n (k + 1) s'
theorem takeF_n {s : List UInt8} {f : WF} {r : List UInt8} (h : takeF s = .ok f r) : f.n < 18446744073709551616 := by
  unfold takeF at h
  cases hrv : readVarint s with
  | none => rw [hrv] at h; cases h
  | some nk =>
    obtain ⟨tag, n⟩ := nk
    rw [hrv] at h
    dsimp only at h
    split at h
    · cases h
    · split at h
      · cases hr2 : readVarint (s.drop n) with
        | none => rw [hr2] at h; cases h
        | some vm =>
          obtain ⟨v, m⟩ := vm
          rw [hr2] at h
          have := (readVarint_bounds hr2).1
          simp only [TR.ok.injEq] at h
          rw [← h.1]; exact this
      · split at h
        · split at h
          · cases h
          · split at h
            · cases h
            · simp only [TR.ok.injEq] at h
              rw [← h.1]; exact (by decide : (0 : Nat) < 18446744073709551616)
        · split at h
          · split at h
            · cases h
            · simp only [TR.ok.injEq] at h
              rw [← h.1]; exact (by decide : (0 : Nat) < 18446744073709551616)
          · split at h
            · split at h
              · cases h
              · simp only [TR.ok.injEq] at h
                rw [← h.1]; exact (by decide : (0 : Nat) < 18446744073709551616)
            · cases h
theorem parse_slen : ∀ (n : Nat) (s : List UInt8) (l : List WF), s.length ≤ n → parseF s = some l → ∀ f ∈ l, f.s.length ≤ s.length ∧ f.n < 18446744073709551616
  | 0, s, l, hn, h, f, hf => by
    have : s = [] := List.eq_nil_of_length_eq_zero (by omega)
    subst this
    rw [parseF_nil] at h; cases h; cases hf
  | n + 1, s, l, hn, h, f, hf => by
    by_cases hs : s = []
    · subst hs; rw [parseF_nil] at h; cases h; cases hf
    · cases hT : takeF s with
      | ok g r =>
        rw [parseF_ok hs hT] at h
        have hlt := takeF_lt hT
        cases hp : parseF r with
        | none => rw [hp] at h; cases h
        | some l' =>
          rw [hp] at h
          simp at h; subst h
          rcases List.mem_cons.1 hf with rfl | hf
          · refine ⟨?_, takeF_n hT⟩
            obtain ⟨a, b, c, d⟩ := f
            exact takeF_s hT
          · have := parse_slen n r l' (by omega) hp f hf
            exact ⟨by omega, this.2⟩
      | short => rw [parseF_no hs (.inl hT)] at h; cases h
      | wrong => rw [parseF_no hs (.inr hT)] at h; cases h
theorem parse_own {s : List UInt8} {w w' : World} {v : Value} (h : parseR s w v w') : ∃ sl, v = .tuple #[sl, .bool (parseF s).isSome] ∧ SlR w' 4 sl ((parseF s).getD []).length (FL ((parseF s).getD [])) ∧ ∀ b, sl.ownBlock = some b → w.heap.size ≤ b ∧ b < w'.heap.size := by
  unfold parseR at h
  cases hp : parseF s with
  | some l =>
    rw [hp] at h
    obtain ⟨sl, rfl, ho⟩ := h
    exact ⟨sl, rfl, SlR.of_own ho, fun b hb => ho.lt b hb⟩
  | none =>
    rw [hp] at h
    exact ⟨.slice none 0 0, h, ⟨rfl, none, 0, rfl, Nat.le_refl _, .inl ⟨rfl, fun _ => rfl⟩⟩, fun b hb => by simp [Value.ownBlock] at hb⟩
set_option maxRecDepth 100000 in
set_option maxHeartbeats 4000000 in
theorem ptake_ca {σ τ : Type} {St : σ → World → Prop} {own : σ → Nat → Prop} {slL : Value} {L : List Fd} {pi : σ → τ} {inv : Nat → σ → Prop} {tk : Nat → τ → List WF → Option τ} (M : Mach St own slL L pi inv tk) (s : List UInt8) (hs : s.length ≤ 1000000000) (st0 : σ) (hi0 : inv 0 st0) {w : World} (h0 : St st0 w) :
    Ca Tryd.prog 35 #[S s, slL] w fun v w' => ∃ st', St st' w' ∧ Keeps (own st0) w w' ∧ (∀ b, own st' b → own st0 b ∨ w.heap.size ≤ b) ∧ ((v = .bool true ∧ ((parseF s).bind fun l => tkAll tk l L.length 0 (pi st0)) = some (pi st')) ∨ (v = .bool false ∧ ((parseF s).bind fun l => tkAll tk l L.length 0 (pi st0)) = none)) := by
  obtain ⟨p, q, hg⟩ := M.glo st0 w h0
  obtain ⟨aL, cL, rfl, hcL, _⟩ := (M.sl st0 w h0).shape
  have hML := M.len
  refine ca_of_body (args := [S s, .slice aL L.length cL]) Tryd.func35 rfl (by kernel_rfl) ?_
  (repeat first | (apply wr_move; exact rfl; with_reducible (conv => enter [6, 3]; whnf)) | (apply wr_assign; exact rfl; with_reducible (conv => enter [6, 3]; whnf)) | apply wr_end | apply wc_seq | apply wc_region)
  refine wr_call (vs := [S s]) rfl (parse_ca s (by omega) hg) rfl ?_
  rintro v w1 ⟨hv, hk1⟩
  obtain ⟨sf, rfl, hsf1, hsfb⟩ := parse_own hv
  clear hv
  obtain ⟨l, hl⟩ : ∃ l, l = (parseF s).getD [] := ⟨_, rfl⟩
  rw [← hl] at hsf1
  obtain ⟨pok, hpok⟩ : ∃ b, b = (parseF s).isSome := ⟨_, rfl⟩
  rw [← hpok]
  have hll : l.length ≤ 1000000000 ∧ ∀ f ∈ l, f.s.length ≤ 1000000000 ∧ f.n < 18446744073709551616 := by
    cases hp : parseF s with
    | none => rw [hl, hp]; simp
    | some l' =>
      have h1 := parseF_len s.length s l' (Nat.le_refl _) hp
      have h2 := parse_slen s.length s l' (Nat.le_refl _) hp
      rw [hl, hp]
      exact ⟨by simp only [Option.getD_some]; omega, fun f hf => by have := h2 f hf; exact ⟨by omega, this.2⟩⟩
  have hres : pok = true → ((parseF s).bind fun l => tkAll tk l L.length 0 (pi st0)) = tkAll tk l L.length 0 (pi st0) := by
    intro h
    cases hp : parseF s with
    | none => rw [hpok, hp] at h; cases h
    | some l' => rw [hl, hp]; rfl
  have hres0 : pok = false → ((parseF s).bind fun l => tkAll tk l L.length 0 (pi st0)) = none := by
    intro h
    cases hp : parseF s with
    | none => rfl
    | some l' => rw [hpok, hp] at h; cases h
  generalize ((parseF s).bind fun l => tkAll tk l L.length 0 (pi st0)) = R at hres hres0 ⊢
  have hst1 := M.keep st0 w w1 h0 hk1
  have hs1 := hk1.size
  obtain ⟨af, cf, hsfe, _, _⟩ := hsf1.shape
  clear hl hpok
  (repeat first | (apply wr_move; exact rfl; with_reducible (conv => enter [6, 3]; whnf)) | (apply wr_assign; exact rfl; with_reducible (conv => enter [6, 3]; whnf)) | apply wr_end | apply wc_seq | apply wc_region | apply wc_block | (apply wr_len_slice; iterate 2 exact rfl) | (apply wr_extract; (iterate 3 exact rfl); with_reducible (conv => enter [6, 3]; whnf)))
  refine wc_loopL (α := Nat × Bool × σ) (fun x => [(5, sf), (6, .bool x.2.1), (14, .slice aL L.length cL), (15, .int .i64 (L.length : Int)), (16, .int .i64 (x.1 : Int))])
    (fun x ds w' => ds = [] ∧ x.1 ≤ L.length ∧ St x.2.2 w' ∧ Keeps (own st0) w w' ∧ (∀ b, own x.2.2 b → own st0 b ∨ w1.heap.size ≤ b) ∧ w1.heap.size ≤ w'.heap.size ∧ SlR w' 4 sf l.length (FL l) ∧ ((x.2.1 = true ∧ R = tkAll tk l (L.length - x.1) x.1 (pi x.2.2) ∧ inv x.1 x.2.2) ∨ (x.2.1 = false ∧ R = none))) (fun x => L.length - x.1) (0, pok, st0)
    ⟨rfl, Nat.zero_le _, hst1, hk1.upD, fun b hb => .inl hb, Nat.le_refl _, hsf1, by cases hp : pok; exact .inr ⟨rfl, hres0 hp⟩; exact .inl ⟨rfl, hres hp, hi0⟩⟩ ⟨rfl, rfl, rfl, rfl, rfl, trivial⟩ ?_
  rintro ⟨k, ok, st⟩ ds f0 w2 ⟨rfl, hk, hst, hk2, hown, hs2, hsf2, hR⟩
  dsimp only at hk hst hk2 hown hs2 hsf2 hR ⊢
  by_cases hlt : k < L.length
  · have hslL := M.sl st w2 hst
    obtain ⟨a', c', he', _, hat⟩ := hslL.shape
    simp only [Value.slice.injEq, true_and] at he'
    obtain ⟨rfl, rfl⟩ := he'
    obtain ⟨b, o, rfl, cur, e, fr, hb, hr⟩ := hat (by omega)
    obtain ⟨x, hx⟩ : ∃ x, L[k]? = some x := ⟨L[k], by simp [hlt]⟩
    obtain ⟨o1, o2, o3⟩ := M.one x (List.mem_of_getElem? hx)
    have hstep := M.step k x hx
    obtain ⟨x1, x2, x3⟩ := x
    dsimp only at o1 o2 o3 hstep
    have hcast : (k : Int) + 1 = ((k + 1 : Nat) : Int) := by omega
    (repeat first | (apply wr_move; exact rfl; with_reducible (conv => enter [6, 3]; whnf)) | apply wr_end | apply wc_seq | apply wc_region | apply wc_skip | apply wc_block | (apply wr_cmp; (iterate 3 exact rfl); exact cmpT (by dsimp only [cmpP]; first | done | omega)) | (apply wc_true; exact rfl))
    refine wr_indexAddr (i := k) rfl rfl rfl hlt ?_
    refine wr_loadElem (G := G3) (n := L.length) rfl rfl G3_len rfl hb hr hlt hx rfl ?_
    (repeat first | (apply wr_assign; exact rfl; with_reducible (conv => enter [6, 3]; whnf)) | (apply wr_alloc; exact rfl))
    refine wr_storeAll (cs := [x1, x2, x3]) rfl rfl rfl (by intro u hu; simp at hu; rcases hu with rfl | rfl | rfl; exact o1; exact o2; exact o3) (heap_alloc_same _ _) rfl rfl ?_
    obtain ⟨w3, hw3⟩ : ∃ w3, w3 = (w2.alloc (.cells (Value.agg #[S [], .nilFunc, .nilFunc]).cells 79)).putObj w2.heap.size (.cells #[x1, x2, x3] 79 (0, 0)) := ⟨_, rfl⟩
    have hk3 : Keeps NoB w2 w3 := by rw [hw3]; exact ((Keeps.refl NoB w2).alloc _).put _ (fun h => by omega)
    have hf3 : w3.heap[w2.heap.size]? = some (.cells #[x1, x2, x3] 79 (0, 0)) := by rw [hw3]; exact World.putObj_heap_same (by simp)
    rw [← hw3]
    clear hw3
    have hst3 := M.keep st w2 w3 hst hk3
    have hs3 := hk3.size
    (repeat first | apply wr_end)
    rcases hR with ⟨rfl, hR, hik⟩ | ⟨rfl, hR⟩
    · have hdec : L.length - k = (L.length - (k + 1)) + 1 := by omega
      rw [hdec] at hR
      refine wc_drawP (l := _) 8 _ (by kernel_rfl) (by kernel_rfl) rfl (by kernel_rfl) (by kernel_rfl) (by decide) ?_
      apply chP_pure
      focus
        intro x w' hk hF
        apply wr_move; exact rfl; with_reducible (conv => enter [6, 3]; whnf)
        apply wr_nil
        exact ⟨rfl, Keeps.refl _ _⟩
      focus (intro x y h; rfl)
      focus kernel_rfl
      apply chP_pure
      focus
        intro x w' hk hF
        apply wr_move; exact rfl; with_reducible (conv => enter [6, 3]; whnf)
        apply wr_nil
        exact ⟨rfl, Keeps.refl _ _⟩
      focus (intro x y h; rfl)
      focus kernel_rfl
      apply chP_pure
      focus
        intro x w' hk hF
        refine wr_fieldAddr rfl rfl ?_
        apply wr_nil
        exact ⟨rfl, Keeps.refl _ _⟩
      focus (intro x y h; rfl)
      focus kernel_rfl
      apply chP_pure
      focus
        intro x w' hk hF
        refine wr_load (v := x3) rfl rfl rfl (hk.heap (a := w3.drew) hf3 (fun h => h)) rfl ?_
        apply wr_nil
        exact ⟨rfl, Keeps.refl _ _⟩
      focus (intro x y h; rfl)
      focus kernel_rfl
      apply chP_pure
      focus
        intro x w' hk hF
        apply wr_move; exact rfl; with_reducible (conv => enter [6, 3]; whnf)
        apply wr_nil
        exact ⟨rfl, Keeps.refl _ _⟩
      focus (intro x y h; rfl)
      focus kernel_rfl
      apply chP_pure
      focus
        intro x w' hk hF
        apply wr_move; exact rfl; with_reducible (conv => enter [6, 3]; whnf)
        apply wr_nil
        exact ⟨rfl, Keeps.refl _ _⟩
      focus (intro x y h; rfl)
      focus kernel_rfl
      apply chP_pure
      focus
        intro x w' hk hF
        refine wr_add (c := ((k + 1 : Nat) : Int)) rfl rfl rfl (by rw [hcast]; exact w_i64 (by omega)) ?_
        apply wr_nil
        exact ⟨rfl, Keeps.refl _ _⟩
      focus (intro x y h; rfl)
      focus kernel_rfl
      refine chP_fact (fun y => y) (fun y w' => SlR w' 4 y (allF l ((k + 1 : Nat) : Int)).length (FL (allF l ((k + 1 : Nat) : Int))) ∧ ∀ b, y.ownBlock = some b → w3.heap.size ≤ b ∧ b < w'.heap.size) (fun y w w' h k => ⟨h.1.keep k (fun _ _ h => h), fun b hb => ⟨(h.2 b hb).1, Nat.lt_of_lt_of_le (h.2 b hb).2 k.size⟩⟩) ?_ ?_
      focus
        intro x w' hk' hF
        refine wr_call (vs := [sf, .int .i64 ((k + 1 : Nat) : Int)]) rfl (all_ca l ((k + 1 : Nat) : Int) sf _ (hsf2.keep (hk3.trans ((Keeps.refl NoB w3).drew.trans hk')) (fun _ _ h => h)) (by omega)) rfl ?_
        rintro v w'' ⟨ho, hk''⟩
        apply wr_nil
        exact ⟨v, rfl, ⟨SlR.of_own ho, fun b hb => ⟨Nat.le_trans hk'.size (ho.lt b hb).1, (ho.lt b hb).2⟩⟩, hk''⟩
      refine chP_nil ?_
      intro x w4 hk4' hF
      obtain ⟨hsl4, hsb4⟩ : SlR w4 4 (x 7) (allF l ((k + 1 : Nat) : Int)).length (FL (allF l ((k + 1 : Nat) : Int))) ∧ ∀ b, (x 7).ownBlock = some b → w3.heap.size ≤ b ∧ b < w4.heap.size := hF 7 (by decide)
      have hk4 : Keeps NoB w3 w4 := (Keeps.refl NoB w3).drew.trans hk4'
      have hst4 := M.keep st w3 w4 hst3 hk4
      have hall : ∀ f ∈ allF l ((k + 1 : Nat) : Int), f.s.length ≤ 1000000000 ∧ f.n < 18446744073709551616 := fun f hf => hll.2 f (List.mem_filter.1 hf).1
      refine wr_callv rfl (hstep st w4 (allF l ((k + 1 : Nat) : Int)) (x 7) hst4 hik (Nat.le_trans (List.length_filter_le _ _) hll.1) hall hsl4 (fun b hb => ⟨(hsb4 b hb).2, fun h => by have h1 := M.lt st w2 b hst h; have h2 := hsb4 b hb; omega⟩)) rfl rfl ?_
      rintro v w5 ⟨st', hst', hk5, hown', hv⟩
      have hk25 : Keeps (own st) w2 w5 := (hk3.trans hk4).upD.trans hk5
      have hs24 := (hk3.trans hk4).size
      have hk05 : Keeps (own st0) w w5 := hk2.trans' hk25 fun i hi h => by
        rcases hown i h with h | h
        · exact h
        · omega
      have hown5 : ∀ b, own st' b → own st0 b ∨ w1.heap.size ≤ b := fun b hb => by
        rcases hown' b hb with h | h
        · exact hown b h
        · exact .inr (by omega)
      have hsf5 : SlR w5 4 sf l.length (FL l) := hsf2.keep hk25 fun b hb h => by
        obtain ⟨h1, h2⟩ := hsfb b hb
        rcases hown b h with h | h
        · have := M.lt st0 w b h0 h; omega
        · omega
      have hs5 := hk25.size
      unfold tkAll at hR
      rcases hv with ⟨rfl, hv, hik'⟩ | ⟨rfl, hv⟩
      · rw [hv] at hR
        (repeat first | (apply wr_move; exact rfl; with_reducible (conv => enter [6, 3]; whnf)) | (apply wr_assign; exact rfl; with_reducible (conv => enter [6, 3]; whnf)) | apply wr_end | apply wc_region | (apply wr_pick (t := true); (iterate 2 exact rfl); with_reducible (conv => enter [6, 3]; whnf)) | (apply wr_add; (iterate 3 exact rfl); exact w_fit (by dsimp only [kIn]; first | done | omega)) | (apply wr_nil; try simp only [thenE, inBlockE, bodyQ]))
        exact ⟨(k + 1, true, st'), by dsimp only; omega, ⟨by trivial, hlt, hst', hk05, hown5, by omega, hsf5, .inl ⟨rfl, hR, hik'⟩⟩, rfl, rfl, rfl, rfl, by simp, trivial⟩
      · rw [hv] at hR
        (repeat first | (apply wr_move; exact rfl; with_reducible (conv => enter [6, 3]; whnf)) | (apply wr_assign; exact rfl; with_reducible (conv => enter [6, 3]; whnf)) | apply wr_end | apply wc_region | (apply wr_pick (t := true); (iterate 2 exact rfl); with_reducible (conv => enter [6, 3]; whnf)) | (apply wr_add; (iterate 3 exact rfl); exact w_fit (by dsimp only [kIn]; first | done | omega)) | (apply wr_nil; try simp only [thenE, inBlockE, bodyQ]))
        exact ⟨(k + 1, false, st'), by dsimp only; omega, ⟨by trivial, hlt, hst', hk05, hown5, by omega, hsf5, .inr ⟨rfl, hR⟩⟩, rfl, rfl, rfl, rfl, by simp, trivial⟩
    · refine wc_drawS (l := _) (S := fun w' => w' = w3.drew) (by kernel_rfl) (by kernel_rfl) rfl ?_
      repeat
        apply ch_step
        focus
          intro w' hS
          subst hS
          (repeat first | (apply wr_move; exact rfl; with_reducible (conv => enter [6, 3]; whnf)) | (apply wr_assign; exact rfl; with_reducible (conv => enter [6, 3]; whnf)) | (apply wr_pick (t := false); (iterate 2 exact rfl); with_reducible (conv => enter [6, 3]; whnf)) | (apply wr_nil; try simp only [thenE, inBlockE, bodyQ]) | (apply wr_skip; exact rfl))
          exact ⟨rfl, by trivial⟩
      refine ch_nil ?_
      intro w' hS
      subst hS
      have hkd : Keeps NoB w2 w3.drew := hk3.drew
      (repeat first | (apply wr_move; exact rfl; with_reducible (conv => enter [6, 3]; whnf)) | apply wr_end | apply wc_region | (apply wr_add; (iterate 3 exact rfl); exact w_fit (by dsimp only [kIn]; first | done | omega)))
      exact ⟨(k + 1, false, st), by dsimp only; omega, ⟨by trivial, hlt, M.keep st w2 _ hst hkd, hk2.trans' hkd (fun i hi h => h.elim), hown, Nat.le_trans hs2 hkd.size, hsf2.keep hkd (fun _ _ h => h), .inr ⟨rfl, hR⟩⟩, rfl, rfl, rfl, rfl, by simp, trivial⟩
  · have he : k = L.length := by omega
    subst he
    have hfin : ∀ b, own st b → own st0 b ∨ w.heap.size ≤ b := fun b hb => by
      rcases hown b hb with h | h
      · exact .inl h
      · exact .inr (by omega)
    rw [Nat.sub_self] at hR
    unfold tkAll at hR
    rcases hR with ⟨rfl, hR, _⟩ | ⟨rfl, hR⟩
    · (repeat first | (apply wr_move; exact rfl; with_reducible (conv => enter [6, 3]; whnf)) | (apply wr_assign; exact rfl; with_reducible (conv => enter [6, 3]; whnf)) | apply wr_end | apply wc_seq | apply wc_region | (apply wr_cmp; (iterate 3 exact rfl); exact cmpF (by dsimp only [cmpN]; first | done | omega)) | (apply wc_false; exact rfl) | (apply wc_exit; try simp only [thenE, inBlockE, bodyQ, ↓reduceIte, Nat.reduceEqDiff]) | (apply wc_ret; try simp only [thenE, inBlockE, bodyQ]))
      exact leave1 (v := .bool true) rfl rfl ⟨st, hst, hk2, hfin, .inl ⟨rfl, hR⟩⟩
    · (repeat first | (apply wr_move; exact rfl; with_reducible (conv => enter [6, 3]; whnf)) | (apply wr_assign; exact rfl; with_reducible (conv => enter [6, 3]; whnf)) | apply wr_end | apply wc_seq | apply wc_region | (apply wr_cmp; (iterate 3 exact rfl); exact cmpF (by dsimp only [cmpN]; first | done | omega)) | (apply wc_false; exact rfl) | (apply wc_exit; try simp only [thenE, inBlockE, bodyQ, ↓reduceIte, Nat.reduceEqDiff]) | (apply wc_ret; try simp only [thenE, inBlockE, bodyQ]))
      exact leave1 (v := .bool false) rfl rfl ⟨st, hst, hk2, hfin, .inr ⟨rfl, hR⟩⟩
end Go.Proofs.YthlbgeonobicbaaDoor
