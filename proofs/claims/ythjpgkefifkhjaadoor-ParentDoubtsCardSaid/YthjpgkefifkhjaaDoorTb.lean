/- parent.Right: which nodes may be. -/
import Derived.Test.YthjpgkefifkhjaaDoorTa
namespace Go.Proofs.YthjpgkefifkhjaaDoor
open Go Go.V Go.RowKit
set_option linter.unusedVariables false
set_option linter.unusedSimpArgs false

theorem getM_putM (M : List (Int × Value)) (c x : Int) (v : Value) : getM (putM M c v) x = if x = c then some v else getM M x := by
  unfold getM putM
  by_cases hm : c ∈ M.map (·.1)
  · rw [if_pos hm]
    induction M with
    | nil => simp at hm
    | cons p M ih =>
      simp only [List.map_cons, List.find?_cons]
      by_cases hp : p.1 = c
      · simp only [hp, if_true]
        by_cases hx : x = c
        · subst hx; simp
        · have hx' : ¬ c = x := fun h => hx h.symm
          simp only [hx', decide_false, hx, if_false, hp]
          by_cases hm2 : c ∈ M.map (·.1)
          · have := ih hm2; simp only [hx, if_false] at this; exact this
          · have hid : M.map (fun p => if p.1 = c then (c, v) else p) = M := by
              conv => rhs; rw [← List.map_id M]
              apply List.map_congr_left
              intro q hq
              rw [if_neg (fun h => hm2 (List.mem_map.2 ⟨q, hq, h⟩))]; rfl
            rw [hid]
      · simp only [hp, if_false]
        have hm2 : c ∈ M.map (·.1) := by
          simp only [List.map_cons, List.mem_cons] at hm
          rcases hm with h | h
          · exact absurd h.symm hp
          · exact h
        by_cases hx : p.1 = x
        · have : ¬ x = c := fun h => hp (by rw [hx, h])
          simp [hx, this]
        · simp only [hx, decide_false]
          exact ih hm2
  · rw [if_neg hm, List.find?_append]
    by_cases hx : x = c
    · subst hx
      have : M.find? (fun p => decide (p.1 = x)) = none := by
        rw [List.find?_eq_none]
        intro p hp h
        exact hm (List.mem_map.2 ⟨p, hp, by simpa using h⟩)
      simp [this]
    · have hx' : ¬ c = x := fun h => hx h.symm
      simp [hx, hx']
/-- A map of what was met. -/
def MetAt (w : World) (b : Nat) (S : List Int) : Prop := ∃ M : List (Int × Value), MapAt w (encI .i64) b M ∧ ∀ c, getM M c = if c ∈ S then some (.bool true) else none
theorem MetAt.keep {D : Nat → Prop} {w w' : World} {b : Nat} {S : List Int} (h : MetAt w b S) (k : Keeps D w w') (hd : ¬ D b) : MetAt w' b S := by
  obtain ⟨M, h1, h2⟩ := h
  exact ⟨M, h1.keep k hd, h2⟩
/-- x[i:] of a slice that is read. -/
theorem slr_from {w : World} {sz n c i : Nat} {a : Option Addr} {cs : List Value} (h : SlR w sz (.slice a n c) n cs) (hi : i ≤ n) : SlR w sz (.slice (if c = i then a else a.map (·.add (i * sz))) (n - i) (c - i)) (n - i) (cs.drop (i * sz)) := by
  obtain ⟨hl, a', c', he, hc, hat⟩ := h
  cases he
  refine ⟨by rw [List.length_drop, hl, Nat.sub_mul], _, _, rfl, by omega, ?_⟩
  rcases hat with ⟨h0, h1⟩ | ⟨b, o, cur, e, fr, rfl, hb, hr⟩
  · refine .inl ⟨by omega, fun hn => ?_⟩
    split at hn
    · have := h1 hn; omega
    · cases ha : a with
      | none => have := h1 ha; omega
      | some x => rw [ha] at hn; cases hn
  · by_cases hci : c = i
    · exact .inl ⟨by omega, fun _ => by omega⟩
    · rw [if_neg hci]
      refine .inr ⟨b, o + i * sz, cur, e, fr, by simp [addr_add], hb, fun j hj => ?_⟩
      have : i * sz + j < n * sz := by rw [Nat.sub_mul] at hj; omega
      rw [List.getElem?_drop, ← hr (i * sz + j) this, Nat.add_assoc]
abbrev NG := Int × List Int
/-- Nodes that are given. -/
structure Given (w : World) (N : List NG) (gs : List GN) : Prop where
  len : gs.length = N.length
  el : ∀ (i : Nat) (g : GN) (n : NG), gs[i]? = some g → N[i]? = some n → g.1 = n.1 ∧ SlR w 1 g.2 n.2.length (IL n.2)
theorem Given.keep {w w' : World} {N : List NG} {gs : List GN} (h : Given w N gs) (k : Keeps NoB w w') : Given w' N gs := ⟨h.len, fun i g n hg hn => ⟨(h.el i g n hg hn).1, (h.el i g n hg hn).2.keep k (fun _ _ h => h)⟩⟩
def depthAt (N : List NG) (c : Int) : Int := (N.getD (c - 1).toNat (0, [])).1
def candOk (N : List NG) (d c : Int) : Prop := 1 ≤ c ∧ c ≤ N.length ∧ depthAt N c < d
instance (N : List NG) (d c : Int) : Decidable (candOk N d c) := by unfold candOk; infer_instance
def nodeOk (N : List NG) (n : NG) : Prop := (1 ≤ n.1 ∧ n.1 ≤ 8) ∧ (1 ≤ n.2.length ∧ n.2.length ≤ 8) ∧ n.2.Nodup ∧ ∀ c ∈ n.2, candOk N n.1 c
instance (N : List NG) (n : NG) : Decidable (nodeOk N n) := by unfold nodeOk; infer_instance
def rightP (N : List NG) : Prop := (1 ≤ N.length ∧ N.length ≤ 32) ∧ (N.getD 0 (0, [])).1 = 0 ∧ (N.getD 0 (0, [])).2 = [] ∧ ∀ n ∈ N.drop 1, nodeOk N n
instance (N : List NG) : Decidable (rightP N) := by unfold rightP; infer_instance
set_option maxRecDepth 100000 in
set_option maxHeartbeats 2000000 in
theorem wrong_ca (N : List NG) (gs : List GN) (S : List Int) (c d : Int) (cv sl : Value) (xm xl xn mb : Nat) (hN : N.length ≤ 1000000) (hc : -9223372036854775808 ≤ c ∧ c ≤ 9223372036854775807) {em el en : TypeId} (w : World)
    (hm : w.heap[xm]? = some (.cells #[.map (some mb)] em (0, 0))) (hl : w.heap[xl]? = some (.cells #[sl] el (0, 0))) (hn : w.heap[xn]? = some (.cells #[.int .i64 d, cv] en (0, 0))) (hmet : MetAt w mb S) (hsl : SlR w 2 sl gs.length (gs.flatMap GNc)) (hg : Given w N gs) :
    Ca Tryd.prog 33 #[.int .i64 c, .pointer (some ⟨xm, 0, none⟩), .pointer (some ⟨xl, 0, none⟩), .pointer (some ⟨xn, 0, none⟩)] w fun v w' => v = .bool (!decide (c ∉ S ∧ candOk N d c)) ∧ MetAt w' mb (c :: S) ∧ Keeps (· = mb) w w' := by
  refine ca_of_body (args := [.int .i64 c, .pointer (some ⟨xm, 0, none⟩), .pointer (some ⟨xl, 0, none⟩), .pointer (some ⟨xn, 0, none⟩)]) Tryd.func33 rfl (by kernel_rfl) ?_
  obtain ⟨M, hM, hget⟩ := hmet
  have hlen := hg.len
  (repeat first | (apply wr_move; exact rfl; with_reducible (conv => enter [6, 3]; whnf)) | (apply wr_assign; exact rfl; with_reducible (conv => enter [6, 3]; whnf)) | apply wr_end | apply wc_seq | apply wc_region | (apply wr_load; (iterate 3 exact rfl); (focus repeat first | with_reducible assumption | exact heap_alloc_same _ _ | exact World.putObj_heap_same (by first | omega | (simp only [World.size_alloc, World.putObj_size, ne_eq]; omega)) | ((first | refine hAl ?_ ?_ | refine hPu ?_ ?_); focus first | omega | (simp only [World.size_alloc, World.putObj_size, ne_eq]; omega))); exact rfl; conv => enter [6, 3]; whnf))
  refine wr_lookupV (enc := encI .i64) (l := M) (a := c) (u := .bool (decide (c ∈ S))) rfl rfl hM rfl (by rw [hget]; by_cases h : c ∈ S <;> simp [h]) ?_
  (repeat first | (apply wr_move; exact rfl; with_reducible (conv => enter [6, 3]; whnf)) | (apply wr_assign; exact rfl; with_reducible (conv => enter [6, 3]; whnf)) | apply wr_end | apply wc_seq | apply wc_region | (apply wr_load; (iterate 3 exact rfl); (focus repeat first | with_reducible assumption | exact heap_alloc_same _ _ | exact World.putObj_heap_same (by first | omega | (simp only [World.size_alloc, World.putObj_size, ne_eq]; omega)) | ((first | refine hAl ?_ ?_ | refine hPu ?_ ?_); focus first | omega | (simp only [World.size_alloc, World.putObj_size, ne_eq]; omega))); exact rfl; conv => enter [6, 3]; whnf))
  refine wr_update (enc := encI .i64) (l := M) (a := c) (v := .bool true) rfl rfl hM rfl rfl ?_
  intro w2 hM2 hk2
  have hmet2 : MetAt w2 mb (c :: S) := ⟨_, hM2, fun x => by
    rw [getM_putM, hget]
    by_cases hx : x = c
    · simp [hx]
    · simp [hx]⟩
  have hmb : ∀ (b : Nat) (e : Array Value × TypeId × (Nat × Nat)), w.heap[b]? = some (.cells e.1 e.2.1 e.2.2) → b ≠ mb := by
    rintro b ⟨e1, e2, e3⟩ hb rfl
    obtain ⟨es, clock, hh, _⟩ := hM
    rw [hh] at hb; cases hb
  have hl2 := hk2.heap hl (hmb xl (_, _, _) hl)
  have hn2 := hk2.heap hn (hmb xn (_, _, _) hn)
  obtain ⟨a, cp, rfl, hcp, hat⟩ := hsl.shape
  (repeat first | apply wr_end | apply wc_seq)
  refine wc_drawS (l := _) (S := fun w' => w' = w2.drew) (by kernel_rfl) (by kernel_rfl) rfl ?_
  by_cases h1 : c ∈ S
  · rw [decide_eq_true h1]
    repeat
      apply ch_step
      focus
        intro w' hS
        subst hS
        (repeat first | (apply wr_move; exact rfl; with_reducible (conv => enter [6, 3]; whnf)) | (apply wr_assign; exact rfl; with_reducible (conv => enter [6, 3]; whnf)) | (apply wr_pick (t := true); (iterate 2 exact rfl); with_reducible (conv => enter [6, 3]; whnf)) | (apply wr_nil; try simp only [thenE, inBlockE, bodyQ]) | (apply wr_skip; exact rfl))
        exact ⟨rfl, by trivial⟩
    refine ch_nil ?_
    intro w' hS
    subst hS
    (repeat first | (apply wc_ret; try simp only [thenE, inBlockE, bodyQ]))
    exact leave1 (v := .bool true) rfl rfl ⟨by rw [decide_eq_false (fun h => h.1 h1)]; rfl, hmet2.keep (Keeps.refl NoB w2).drew (fun h => h), hk2.trans ((Keeps.refl _ w2).drew)⟩
  rw [decide_eq_false h1]
  apply ch_step
  focus
    intro w' hS
    subst hS
    (repeat first | (apply wr_move; exact rfl; with_reducible (conv => enter [6, 3]; whnf)) | (apply wr_nil; try simp only [thenE, inBlockE, bodyQ]))
    exact ⟨rfl, by trivial⟩
  apply ch_step
  focus
    intro w' hS
    subst hS
    (repeat first | (apply wr_move; exact rfl; with_reducible (conv => enter [6, 3]; whnf)) | (apply wr_nil; try simp only [thenE, inBlockE, bodyQ]))
    exact ⟨rfl, by trivial⟩
  apply ch_step
  focus
    intro w' hS
    subst hS
    (repeat first | (apply wr_move; exact rfl; with_reducible (conv => enter [6, 3]; whnf)) | (apply wr_nil; try simp only [thenE, inBlockE, bodyQ]))
    exact ⟨rfl, by trivial⟩
  apply ch_step
  focus
    intro w' hS
    subst hS
    refine wr_load (v := .slice a gs.length cp) rfl rfl rfl hl2 rfl ?_
    apply wr_nil
    exact ⟨rfl, rfl⟩
  apply ch_step
  focus
    intro w' hS
    subst hS
    (repeat first | (apply wr_len_slice; iterate 2 exact rfl) | (apply wr_nil; try simp only [thenE, inBlockE, bodyQ]))
    exact ⟨rfl, by trivial⟩
  apply ch_step
  focus
    intro w' hS
    subst hS
    refine wr_call (vs := [.int .i64 c, .int .i64 1, .int .i64 (gs.length : Int)]) rfl (in_ca c 1 gs.length _) rfl ?_
    rintro v w4 ⟨rfl, rfl⟩
    apply wr_nil
    exact ⟨rfl, rfl⟩
  by_cases h2 : 1 ≤ c ∧ c ≤ gs.length
  rotate_left
  · rw [decide_eq_false h2]
    repeat
      apply ch_step
      focus
        intro w' hS
        subst hS
        (repeat first | (apply wr_move; exact rfl; with_reducible (conv => enter [6, 3]; whnf)) | (apply wr_assign; exact rfl; with_reducible (conv => enter [6, 3]; whnf)) | (apply wr_not; iterate 2 exact rfl) | (apply wr_pick (t := true); (iterate 2 exact rfl); with_reducible (conv => enter [6, 3]; whnf)) | (apply wr_pick (t := false); (iterate 2 exact rfl); with_reducible (conv => enter [6, 3]; whnf)) | (apply wr_nil; try simp only [thenE, inBlockE, bodyQ]) | (apply wr_skip; exact rfl))
        exact ⟨rfl, by trivial⟩
    refine ch_nil ?_
    intro w' hS
    subst hS
    (repeat first | (apply wc_ret; try simp only [thenE, inBlockE, bodyQ]))
    exact leave1 (v := .bool true) rfl rfl ⟨by rw [decide_eq_false (fun h => h2 ⟨h.2.1, by have := h.2.2.1; omega⟩)]; rfl, hmet2.keep (Keeps.refl NoB w2).drew (fun h => h), hk2.trans ((Keeps.refl _ w2).drew)⟩
  rw [decide_eq_true h2]
  obtain ⟨k, hk⟩ : ∃ k : Nat, c - 1 = (k : Int) := ⟨(c - 1).toNat, by omega⟩
  obtain ⟨b, o, rfl, cur, e, fr, hb, hr⟩ := hat (by omega)
  have hb2 := hk2.heap hb (hmb b (_, _, _) hb)
  obtain ⟨⟨g1, g2⟩, hgk⟩ : ∃ g, gs[k]? = some g := ⟨gs[k]'(by omega), by simp [show k < gs.length by omega]⟩
  obtain ⟨⟨n1, n2⟩, hnk⟩ : ∃ n, N[k]? = some n := ⟨N[k]'(by omega), by simp [show k < N.length by omega]⟩
  have hel := (hg.el k _ _ hgk hnk).1
  dsimp only at hel
  have hdp : depthAt N c = n1 := by unfold depthAt; rw [hk]; simp [hnk]
  have hv : cur[o + k * 2 + 0]? = some (.int .i64 g1) := cell_elem (g := GNc) (k := 2) (n := gs.length) (i := k) (j := 0) GNc_len hr (by omega) hgk rfl
  apply ch_step
  focus
    intro w' hS
    subst hS
    (repeat first | (apply wr_not; iterate 2 exact rfl) | (apply wr_nil; try simp only [thenE, inBlockE, bodyQ]))
    exact ⟨rfl, by trivial⟩
  apply ch_step
  focus
    intro w' hS
    subst hS
    (repeat first | (apply wr_pick (t := false); (iterate 2 exact rfl); with_reducible (conv => enter [6, 3]; whnf)) | (apply wr_nil; try simp only [thenE, inBlockE, bodyQ]))
    exact ⟨rfl, by trivial⟩
  apply ch_step
  focus
    intro w' hS
    subst hS
    (repeat first | (apply wr_move; exact rfl; with_reducible (conv => enter [6, 3]; whnf)) | (apply wr_nil; try simp only [thenE, inBlockE, bodyQ]))
    exact ⟨rfl, by trivial⟩
  apply ch_step
  focus
    intro w' hS
    subst hS
    refine wr_load (v := .slice (some ⟨b, o, none⟩) gs.length cp) rfl rfl rfl hl2 rfl ?_
    apply wr_nil
    exact ⟨rfl, rfl⟩
  apply ch_step
  focus
    intro w' hS
    subst hS
    (repeat first | (apply wr_move; exact rfl; with_reducible (conv => enter [6, 3]; whnf)) | (apply wr_nil; try simp only [thenE, inBlockE, bodyQ]))
    exact ⟨rfl, by trivial⟩
  apply ch_step
  focus
    intro w' hS
    subst hS
    refine wr_sub (c := (k : Int)) rfl rfl rfl (by rw [hk]; exact w_i64 (by omega)) ?_
    apply wr_nil
    exact ⟨rfl, rfl⟩
  apply ch_step
  focus
    intro w' hS
    subst hS
    refine wr_indexAddr (i := k) rfl rfl rfl (by omega) ?_
    apply wr_nil
    exact ⟨rfl, rfl⟩
  apply ch_step
  focus
    intro w' hS
    subst hS
    refine wr_fieldAddr rfl rfl ?_
    apply wr_nil
    exact ⟨rfl, rfl⟩
  apply ch_step
  focus
    intro w' hS
    subst hS
    refine wr_load (v := .int .i64 g1) rfl rfl rfl hb2 hv ?_
    apply wr_nil
    exact ⟨rfl, rfl⟩
  apply ch_step
  focus
    intro w' hS
    subst hS
    refine wr_fieldAddr rfl rfl ?_
    apply wr_nil
    exact ⟨rfl, rfl⟩
  apply ch_step
  focus
    intro w' hS
    subst hS
    refine wr_load (v := .int .i64 d) rfl rfl rfl hn2 rfl ?_
    apply wr_nil
    exact ⟨rfl, rfl⟩
  by_cases h3 : d ≤ g1
  · repeat
      apply ch_step
      focus
        intro w' hS
        subst hS
        (repeat first | (apply wr_assign; exact rfl; with_reducible (conv => enter [6, 3]; whnf)) | (apply wr_cmp; (iterate 3 exact rfl); exact cmpT (by dsimp only [cmpP]; first | done | omega)) | (apply wr_pick (t := false); (iterate 2 exact rfl); with_reducible (conv => enter [6, 3]; whnf)) | (apply wr_nil; try simp only [thenE, inBlockE, bodyQ]))
        exact ⟨rfl, by trivial⟩
    refine ch_nil ?_
    intro w' hS
    subst hS
    (repeat first | (apply wc_ret; try simp only [thenE, inBlockE, bodyQ]))
    exact leave1 (v := .bool true) rfl rfl ⟨by rw [decide_eq_false (fun h => by have h4 := h.2.2.2; rw [hdp] at h4; omega)]; rfl, hmet2.keep (Keeps.refl NoB w2).drew (fun h => h), hk2.trans ((Keeps.refl _ w2).drew)⟩
  · repeat
      apply ch_step
      focus
        intro w' hS
        subst hS
        (repeat first | (apply wr_assign; exact rfl; with_reducible (conv => enter [6, 3]; whnf)) | (apply wr_cmp; (iterate 3 exact rfl); exact cmpF (by dsimp only [cmpN]; first | done | omega)) | (apply wr_pick (t := false); (iterate 2 exact rfl); with_reducible (conv => enter [6, 3]; whnf)) | (apply wr_nil; try simp only [thenE, inBlockE, bodyQ]))
        exact ⟨rfl, by trivial⟩
    refine ch_nil ?_
    intro w' hS
    subst hS
    (repeat first | (apply wc_ret; try simp only [thenE, inBlockE, bodyQ]))
    exact leave1 (v := .bool false) rfl rfl ⟨by rw [decide_eq_true ⟨h1, h2.1, by omega, by rw [hdp]; omega⟩]; rfl, hmet2.keep (Keeps.refl NoB w2).drew (fun h => h), hk2.trans ((Keeps.refl _ w2).drew)⟩
theorem slr_keepC {w w' : World} {mb sz n : Nat} {v : Value} {cs : List Value} (h : SlR w sz v n cs) (k : Keeps (· = mb) w w') (hx : ∀ (b : Nat) (e : Array Value × TypeId × (Nat × Nat)), w.heap[b]? = some (.cells e.1 e.2.1 e.2.2) → b ≠ mb) : SlR w' sz v n cs := by
  obtain ⟨hl, a, c, rfl, hc, hat⟩ := h
  refine ⟨hl, a, c, rfl, hc, ?_⟩
  rcases hat with h0 | ⟨b, o, cur, e, fr, rfl, hb, hr⟩
  · exact .inl h0
  · exact .inr ⟨b, o, cur, e, fr, rfl, k.heap hb (hx b (_, _, _) hb), hr⟩
theorem Given.keepC {w w' : World} {mb : Nat} {N : List NG} {gs : List GN} (h : Given w N gs) (k : Keeps (· = mb) w w') (hx : ∀ (b : Nat) (e : Array Value × TypeId × (Nat × Nat)), w.heap[b]? = some (.cells e.1 e.2.1 e.2.2) → b ≠ mb) : Given w' N gs :=
  ⟨h.len, fun i g n hg hn => ⟨(h.el i g n hg hn).1, slr_keepC (h.el i g n hg hn).2 k hx⟩⟩
theorem MetAt.congr {w : World} {b : Nat} {S S' : List Int} (h : MetAt w b S) (e : ∀ x, x ∈ S ↔ x ∈ S') : MetAt w b S' := by
  obtain ⟨M, h1, h2⟩ := h
  exact ⟨M, h1, fun c => by rw [h2]; by_cases hc : c ∈ S <;> simp [hc, (e c).symm]⟩
theorem nodup_take : ∀ {cs : List Int}, (∀ j c, cs[j]? = some c → c ∉ cs.take j) ↔ cs.Nodup := by
  intro cs
  constructor
  · intro h
    rw [List.nodup_iff_pairwise_ne, List.pairwise_iff_getElem]
    intro i j hi hj hij e
    refine h j cs[j] (by simp) ?_
    rw [← e]
    exact List.mem_of_getElem? (i := i) (by rw [List.getElem?_take_of_lt hij]; simp)
  · intro h j c hc hm
    obtain ⟨i, hi⟩ := List.getElem?_of_mem hm
    have hlt := (List.getElem?_eq_some_iff.1 hi).1
    rw [List.length_take] at hlt
    rw [List.getElem?_take_of_lt (by omega)] at hi
    have := (List.getElem?_inj (by omega) h).1 (hi.trans hc.symm)
    omega
def i64B (c : Int) : Prop := -9223372036854775808 ≤ c ∧ c ≤ 9223372036854775807
set_option maxRecDepth 100000 in
set_option maxHeartbeats 2000000 in
theorem wrongNode_ca (N : List NG) (gs : List GN) (n : NG) (cv sl : Value) (xl : Nat) (hN : N.length ≤ 1000000) (hlen : n.2.length ≤ 1000000) (hb64 : ∀ c ∈ n.2, i64B c) {el : TypeId} (w : World)
    (hl : w.heap[xl]? = some (.cells #[sl] el (0, 0))) (hcv : SlR w 1 cv n.2.length (IL n.2)) (hsl : SlR w 2 sl gs.length (gs.flatMap GNc)) (hg : Given w N gs) :
    Ca Tryd.prog 32 #[.agg #[.int .i64 n.1, cv], .pointer (some ⟨xl, 0, none⟩)] w fun v w' => v = .bool (!decide (nodeOk N n)) ∧ Keeps NoB w w' := by
  obtain ⟨d, cs⟩ := n
  dsimp only at hlen hb64 hcv ⊢
  obtain ⟨a, cp, rfl, hcp, hat⟩ := hcv.shape
  refine ca_of_body (args := [.agg #[.int .i64 d, .slice a cs.length cp], .pointer (some ⟨xl, 0, none⟩)]) Tryd.func32 rfl (by kernel_rfl) ?_
  apply wc_seq
  apply wc_region
  refine wr_box (v := .agg #[.int .i64 d, .slice a cs.length cp]) rfl rfl ?_
  obtain ⟨w1, hw1⟩ : ∃ w1, w1 = w.alloc (.cells (Value.agg #[.int .i64 d, .slice a cs.length cp]).cells 35) := ⟨_, rfl⟩
  have hk1 : Keeps NoB w w1 := by rw [hw1]; exact (Keeps.refl NoB w).alloc _
  obtain ⟨xn, hxn⟩ : ∃ xn, xn = w.heap.size := ⟨_, rfl⟩
  have hn1 : w1.heap[xn]? = some (.cells #[.int .i64 d, .slice a cs.length cp] 35 (0, 0)) := by rw [hw1, hxn]; exact heap_alloc_same _ _
  rw [← hw1, ← hxn]
  clear hw1
  (repeat first | (apply wr_assign; exact rfl; with_reducible (conv => enter [6, 3]; whnf)) | apply wr_end | apply wc_seq | apply wc_region)
  refine wr_makeMap rfl ?_
  have hM0 : MapAt (w1.alloc (.map #[] 0)) (encI .i64) w1.heap.size [] := MapAt.new w1 _
  obtain ⟨mb, hmb⟩ : ∃ mb, mb = w1.heap.size := ⟨_, rfl⟩
  rw [← hmb] at hM0 ⊢
  obtain ⟨w2, hw2⟩ : ∃ w2, w2 = w1.alloc (.map #[] 0) := ⟨_, rfl⟩
  have hk2 : Keeps NoB w1 w2 := by rw [hw2]; exact (Keeps.refl NoB w1).alloc _
  rw [← hw2] at hM0 ⊢
  have hmb2 : mb < w2.heap.size := hM0.lt
  clear hw2
  refine wr_alloc rfl ?_
  refine wr_store (v := .map (some mb)) rfl rfl rfl rfl (heap_alloc_same _ _) rfl ?_
  obtain ⟨w3, hw3⟩ : ∃ w3, w3 = (w2.alloc (.cells (Value.map none).cells 54)).putObj w2.heap.size (.cells ((Value.map none).cells.setIfInBounds 0 (.map (some mb))) 54 (0, 0)) := ⟨_, rfl⟩
  have hk3 : Keeps NoB w2 w3 := by rw [hw3]; exact ((Keeps.refl NoB w2).alloc _).put _ (fun h => by omega)
  have hm3 : w3.heap[w2.heap.size]? = some (.cells #[.map (some mb)] 54 (0, 0)) := by rw [hw3]; exact World.putObj_heap_same (by simp)
  rw [← hw3]
  clear hw3
  obtain ⟨xm, hxm⟩ : ∃ xm, xm = w2.heap.size := ⟨_, rfl⟩
  rw [← hxm] at hm3 ⊢
  have hk13 := hk2.trans hk3
  have hn3 := hk13.heap hn1 (fun h => h)
  have hl3 := (hk1.trans hk13).heap hl (fun h => h)
  have hmet3 : MetAt w3 mb [] := ⟨[], hM0.keep hk3 (fun h => h), fun c => by simp [getM]⟩
  have hw3' := hk1.trans hk13
  have hcv3 := hcv.keep hw3' (fun _ _ h => h)
  have hsl3 := hsl.keep hw3' (fun _ _ h => h)
  have hg3 := hg.keep hw3'
  have hxlm : ∀ (b : Nat) (e : Array Value × TypeId × (Nat × Nat)), w3.heap[b]? = some (.cells e.1 e.2.1 e.2.2) → b ≠ mb := by
    rintro b ⟨e1, e2, e3⟩ hb rfl
    obtain ⟨M, ⟨es, clock, hh, _⟩, _⟩ := hmet3
    rw [hh] at hb; cases hb
  (repeat first | apply wr_end | apply wc_seq | apply wc_region)
  refine wr_makeFunc (v1 := []) (v2 := [.pointer (some ⟨xm, 0, none⟩), .pointer (some ⟨xl, 0, none⟩), .pointer (some ⟨xn, 0, none⟩)]) rfl rfl rfl ?_
  (repeat first | (apply wr_assign; exact rfl; with_reducible (conv => enter [6, 3]; whnf)) | apply wr_end | apply wc_seq | apply wc_region | (apply wr_fieldAddr; iterate 2 exact rfl) | (apply wr_load; (iterate 3 exact rfl); (focus repeat first | with_reducible assumption | exact heap_alloc_same _ _ | exact World.putObj_heap_same (by first | omega | (simp only [World.size_alloc, World.putObj_size, ne_eq]; omega)) | ((first | refine hAl ?_ ?_ | refine hPu ?_ ?_); focus first | omega | (simp only [World.size_alloc, World.putObj_size, ne_eq]; omega))); exact rfl; conv => enter [6, 3]; whnf))
  refine wr_call (vs := [.int .i64 d, .int .i64 1, .int .i64 8]) rfl (in_ca d 1 8 _) rfl ?_
  rintro v w4 ⟨rfl, rfl⟩
  by_cases h1 : 1 ≤ d ∧ d ≤ 8
  rotate_left
  · rw [decide_eq_false h1]
    (repeat first | (apply wr_move; exact rfl; with_reducible (conv => enter [6, 3]; whnf)) | (apply wr_assign; exact rfl; with_reducible (conv => enter [6, 3]; whnf)) | apply wr_end | (apply wr_not; iterate 2 exact rfl) | (apply wr_pick (t := true); (iterate 2 exact rfl); with_reducible (conv => enter [6, 3]; whnf)) | (apply wc_ret; try simp only [thenE, inBlockE, bodyQ]) | (apply wr_skip; exact rfl))
    exact leave1 (v := .bool true) rfl rfl ⟨by rw [decide_eq_false (fun h => h1 h.1)]; rfl, hw3'⟩
  rw [decide_eq_true h1]
  (repeat first | (apply wr_move; exact rfl; with_reducible (conv => enter [6, 3]; whnf)) | (apply wr_fieldAddr; iterate 2 exact rfl) | (apply wr_not; iterate 2 exact rfl) | (apply wr_len_slice; iterate 2 exact rfl) | (apply wr_load; (iterate 3 exact rfl); (focus repeat first | with_reducible assumption | exact heap_alloc_same _ _ | exact World.putObj_heap_same (by first | omega | (simp only [World.size_alloc, World.putObj_size, ne_eq]; omega)) | ((first | refine hAl ?_ ?_ | refine hPu ?_ ?_); focus first | omega | (simp only [World.size_alloc, World.putObj_size, ne_eq]; omega))); exact rfl; conv => enter [6, 3]; whnf))
  refine wr_call (vs := [.int .i64 (cs.length : Int), .int .i64 1, .int .i64 8]) rfl (in_ca cs.length 1 8 _) rfl ?_
  rintro v w5 ⟨rfl, rfl⟩
  by_cases h2 : 1 ≤ (cs.length : Int) ∧ (cs.length : Int) ≤ 8
  rotate_left
  · rw [decide_eq_false h2]
    (repeat first | (apply wr_move; exact rfl; with_reducible (conv => enter [6, 3]; whnf)) | (apply wr_assign; exact rfl; with_reducible (conv => enter [6, 3]; whnf)) | apply wr_end | (apply wr_not; iterate 2 exact rfl) | (apply wr_pick (t := true); (iterate 2 exact rfl); with_reducible (conv => enter [6, 3]; whnf)) | (apply wr_pick (t := false); (iterate 2 exact rfl); with_reducible (conv => enter [6, 3]; whnf)) | (apply wc_ret; try simp only [thenE, inBlockE, bodyQ]) | (apply wr_skip; exact rfl))
    exact leave1 (v := .bool true) rfl rfl ⟨by rw [decide_eq_false (fun h => h2 ⟨by have := h.2.1.1; dsimp only at this; omega, by have := h.2.1.2; dsimp only at this; omega⟩)]; rfl, hw3'⟩
  rw [decide_eq_true h2]
  (repeat first | (apply wr_move; exact rfl; with_reducible (conv => enter [6, 3]; whnf)) | (apply wr_fieldAddr; iterate 2 exact rfl) | (apply wr_not; iterate 2 exact rfl) | (apply wr_load; (iterate 3 exact rfl); (focus repeat first | with_reducible assumption | exact heap_alloc_same _ _ | exact World.putObj_heap_same (by first | omega | (simp only [World.size_alloc, World.putObj_size, ne_eq]; omega)) | ((first | refine hAl ?_ ?_ | refine hPu ?_ ?_); focus first | omega | (simp only [World.size_alloc, World.putObj_size, ne_eq]; omega))); exact rfl; conv => enter [6, 3]; whnf) | (apply wr_pick (t := false); (iterate 2 exact rfl); with_reducible (conv => enter [6, 3]; whnf)))
  refine wr_call (vs := [.slice a cs.length cp, .func (.func 33) #[] #[.pointer (some ⟨xm, 0, none⟩), .pointer (some ⟨xl, 0, none⟩), .pointer (some ⟨xn, 0, none⟩)]]) rfl
    (containsFuncI_ca cs _ (.slice a cs.length cp) (fun i w' => MetAt w' mb (cs.take i) ∧ (∀ (j : Nat) (c : Int), j < i → cs[j]? = some c → c ∉ cs.take j ∧ candOk N d c) ∧ Keeps (· = mb) w5 w') (fun i w' => (∃ c, cs[i]? = some c ∧ ¬ (c ∉ cs.take i ∧ candOk N d c)) ∧ Keeps (· = mb) w5 w') w5 (by omega) ⟨hmet3, (fun j c h => by omega), Keeps.refl _ _⟩
      (fun i w' h => slr_keepC hcv3 h.2.2 hxlm) ?_) rfl ?_
  · rintro i c w' hc ⟨hmet, hpre, hk⟩
    have hlt := (List.getElem?_eq_some_iff.1 hc).1
    have hmem := List.mem_of_getElem? hc
    refine (callV_of (args := [.int .i64 c]) (by kernel_rfl) (wrong_ca N gs (cs.take i) c d (.slice a cs.length cp) sl xm xl xn mb hN (hb64 c hmem) w' (hk.heap hm3 (hxlm _ (_, _, _) hm3)) (hk.heap hl3 (hxlm _ (_, _, _) hl3)) (hk.heap hn3 (hxlm _ (_, _, _) hn3)) hmet ?_ ?_)).mono ?_
    · exact slr_keepC hsl3 hk hxlm
    · exact hg3.keepC hk hxlm
    · rintro v w'' ⟨rfl, hmet', hk'⟩
      by_cases h : c ∉ cs.take i ∧ candOk N d c
      · refine ⟨false, by rw [decide_eq_true h]; rfl, .inr ⟨rfl, hmet'.congr (fun x => ?_), fun j c' hj hc' => ?_, hk.trans hk'⟩⟩
        · rw [List.take_add_one, hc]; simp [or_comm]
        · by_cases hji : j = i
          · subst hji; rw [hc] at hc'; cases hc'; exact h
          · exact hpre j c' (by omega) hc'
      · exact ⟨true, by rw [decide_eq_false h]; rfl, .inl ⟨rfl, ⟨c, hc, h⟩, hk.trans hk'⟩⟩
  · have hmw : w.heap.size ≤ mb := by have := hk1.size; omega
    rintro v w6 (⟨rfl, i, hi, ⟨c, hc, hbad⟩, hk⟩ | ⟨rfl, hmet, hall, hk⟩)
    · (repeat first | (apply wr_assign; exact rfl; with_reducible (conv => enter [6, 3]; whnf)) | apply wr_end | (apply wr_pick (t := false); (iterate 2 exact rfl); with_reducible (conv => enter [6, 3]; whnf)) | (apply wc_ret; try simp only [thenE, inBlockE, bodyQ]))
      refine leave1 (v := .bool true) rfl rfl ⟨?_, Keeps.trans' hw3' hk (fun b hb e => by omega)⟩
      rw [decide_eq_false]; rfl
      rintro ⟨_, _, h3, h4⟩
      exact hbad ⟨nodup_take.2 h3 i c hc, h4 c (List.mem_of_getElem? hc)⟩
    · (repeat first | (apply wr_assign; exact rfl; with_reducible (conv => enter [6, 3]; whnf)) | apply wr_end | (apply wr_pick (t := false); (iterate 2 exact rfl); with_reducible (conv => enter [6, 3]; whnf)) | (apply wc_ret; try simp only [thenE, inBlockE, bodyQ]))
      refine leave1 (v := .bool false) rfl rfl ⟨?_, Keeps.trans' hw3' hk (fun b hb e => by omega)⟩
      rw [decide_eq_true]; rfl
      refine ⟨h1, ⟨by dsimp only; omega, by dsimp only; omega⟩, nodup_take.1 (fun j c hc => (hall j c (List.getElem?_eq_some_iff.1 hc).1 hc).1), fun c hc => ?_⟩
      obtain ⟨j, hj⟩ := List.getElem?_of_mem hc
      exact (hall j c (List.getElem?_eq_some_iff.1 hj).1 hj).2
set_option maxRecDepth 100000 in
set_option maxHeartbeats 2000000 in
/-- parent.Right. -/
theorem right_ca (N : List NG) (gs : List GN) (sl : Value) (hN : N.length ≤ 1000000) (hlen : ∀ n ∈ N, n.2.length ≤ 1000000 ∧ ∀ c ∈ n.2, i64B c) (w : World) (hsl : SlR w 2 sl gs.length (gs.flatMap GNc)) (hg : Given w N gs) :
    Ca Tryd.prog 18 #[sl] w fun v w' => v = .bool (decide (rightP N)) ∧ Keeps NoB w w' := by
  have hgl := hg.len
  obtain ⟨a, cp, rfl, hcp, hat⟩ := hsl.shape
  refine ca_of_body (args := [.slice a gs.length cp]) Tryd.func18 rfl (by kernel_rfl) ?_
  apply wc_seq
  apply wc_region
  refine wr_box (v := .slice a gs.length cp) rfl rfl ?_
  obtain ⟨w1, hw1⟩ : ∃ w1, w1 = w.alloc (.cells (Value.slice a gs.length cp).cells 25) := ⟨_, rfl⟩
  have hk1 : Keeps NoB w w1 := by rw [hw1]; exact (Keeps.refl NoB w).alloc _
  obtain ⟨xl, hxl⟩ : ∃ xl, xl = w.heap.size := ⟨_, rfl⟩
  have hl1 : w1.heap[xl]? = some (.cells #[.slice a gs.length cp] 25 (0, 0)) := by rw [hw1, hxl]; exact heap_alloc_same _ _
  rw [← hw1, ← hxl]
  clear hw1
  have hsl1 := hsl.keep hk1 (fun _ _ h => h)
  have hg1 := hg.keep hk1
  (repeat first | (apply wr_assign; exact rfl; with_reducible (conv => enter [6, 3]; whnf)) | apply wr_end | apply wc_seq | apply wc_region | (apply wr_len_slice; iterate 2 exact rfl) | (apply wr_load; (iterate 3 exact rfl); (focus repeat first | with_reducible assumption | exact heap_alloc_same _ _ | exact World.putObj_heap_same (by first | omega | (simp only [World.size_alloc, World.putObj_size, ne_eq]; omega)) | ((first | refine hAl ?_ ?_ | refine hPu ?_ ?_); focus first | omega | (simp only [World.size_alloc, World.putObj_size, ne_eq]; omega))); exact rfl; conv => enter [6, 3]; whnf))
  refine wr_call (vs := [.int .i64 (gs.length : Int), .int .i64 1, .int .i64 32]) rfl (in_ca gs.length 1 32 _) rfl ?_
  rintro v w2 ⟨rfl, rfl⟩
  by_cases h1 : 1 ≤ (gs.length : Int) ∧ (gs.length : Int) ≤ 32
  rotate_left
  · rw [decide_eq_false h1]
    (repeat first | (apply wr_move; exact rfl; with_reducible (conv => enter [6, 3]; whnf)) | (apply wr_assign; exact rfl; with_reducible (conv => enter [6, 3]; whnf)) | apply wr_end | apply wc_seq | apply wc_region | (apply wr_not; iterate 2 exact rfl) | (apply wr_pick (t := true); (iterate 2 exact rfl); with_reducible (conv => enter [6, 3]; whnf)) | (apply wc_true; exact rfl) | (apply wc_ret; try simp only [thenE, inBlockE, bodyQ]) | (apply wr_skip; exact rfl))
    exact leave1 (v := .bool false) rfl rfl ⟨by rw [decide_eq_false (fun h => h1 ⟨by have := h.1.1; omega, by have := h.1.2; omega⟩)], hk1⟩
  rw [decide_eq_true h1]
  obtain ⟨⟨g1, g2⟩, hg0⟩ : ∃ g, gs[0]? = some g := ⟨gs[0]'(by omega), by simp [show 0 < gs.length by omega]⟩
  obtain ⟨⟨n1, n2⟩, hn0⟩ : ∃ n, N[0]? = some n := ⟨N[0]'(by omega), by simp [show 0 < N.length by omega]⟩
  have hel := hg1.el 0 _ _ hg0 hn0
  dsimp only at hel
  obtain ⟨he1, he2⟩ := hel
  obtain ⟨a2, c2, rfl, hc2, _⟩ := he2.shape
  obtain ⟨b, o, rfl, cur, e, fr, hb, hr⟩ := hat (by omega)
  have hb1 := hk1.heap hb (fun h => h)
  have hv1 : cur[o + 0 * 2 + 0]? = some (.int .i64 g1) := cell_elem (g := GNc) (k := 2) (n := gs.length) (i := 0) (j := 0) GNc_len hr (by omega) hg0 rfl
  have hv2 : cur[o + 0 * 2 + 1]? = some (.slice a2 n2.length c2) := cell_elem (g := GNc) (k := 2) (n := gs.length) (i := 0) (j := 1) GNc_len hr (by omega) hg0 rfl
  have hN0 : N.getD 0 (0, []) = (n1, n2) := by simp [hn0]
  (repeat first | (apply wr_move; exact rfl; with_reducible (conv => enter [6, 3]; whnf)) | (apply wr_not; iterate 2 exact rfl) | (apply wr_load; (iterate 3 exact rfl); (focus repeat first | with_reducible assumption | exact heap_alloc_same _ _ | exact World.putObj_heap_same (by first | omega | (simp only [World.size_alloc, World.putObj_size, ne_eq]; omega)) | ((first | refine hAl ?_ ?_ | refine hPu ?_ ?_); focus first | omega | (simp only [World.size_alloc, World.putObj_size, ne_eq]; omega))); exact rfl; conv => enter [6, 3]; whnf))
  refine wr_indexAddr (i := 0) rfl rfl rfl (by omega) ?_
  refine wr_fieldAddr rfl rfl ?_
  refine wr_load (v := .int .i64 g1) rfl rfl rfl hb1 hv1 ?_
  by_cases h2 : g1 = 0
  rotate_left
  · (repeat first | (apply wr_move; exact rfl; with_reducible (conv => enter [6, 3]; whnf)) | (apply wr_assign; exact rfl; with_reducible (conv => enter [6, 3]; whnf)) | apply wr_end | apply wc_seq | apply wc_region | (apply wr_cmp; (iterate 3 exact rfl); exact cmpT (by dsimp only [cmpP]; first | done | omega)) | (apply wr_pick (t := true); (iterate 2 exact rfl); with_reducible (conv => enter [6, 3]; whnf)) | (apply wr_pick (t := false); (iterate 2 exact rfl); with_reducible (conv => enter [6, 3]; whnf)) | (apply wc_true; exact rfl) | (apply wc_ret; try simp only [thenE, inBlockE, bodyQ]) | (apply wr_skip; exact rfl))
    exact leave1 (v := .bool false) rfl rfl ⟨by rw [decide_eq_false (fun h => h2 (by have := h.2.1; rw [hN0] at this; dsimp only at this; omega))], hk1⟩
  (repeat first | (apply wr_move; exact rfl; with_reducible (conv => enter [6, 3]; whnf)) | (apply wr_load; (iterate 3 exact rfl); (focus repeat first | with_reducible assumption | exact heap_alloc_same _ _ | exact World.putObj_heap_same (by first | omega | (simp only [World.size_alloc, World.putObj_size, ne_eq]; omega)) | ((first | refine hAl ?_ ?_ | refine hPu ?_ ?_); focus first | omega | (simp only [World.size_alloc, World.putObj_size, ne_eq]; omega))); exact rfl; conv => enter [6, 3]; whnf) | (apply wr_cmp; (iterate 3 exact rfl); exact cmpF (by dsimp only [cmpN]; first | done | omega)) | (apply wr_pick (t := false); (iterate 2 exact rfl); with_reducible (conv => enter [6, 3]; whnf)))
  refine wr_indexAddr (i := 0) rfl rfl rfl (by omega) ?_
  refine wr_fieldAddr rfl rfl ?_
  refine wr_load (v := .slice a2 n2.length c2) rfl rfl rfl hb1 hv2 ?_
  by_cases h3 : n2.length = 0
  rotate_left
  · (repeat first | (apply wr_assign; exact rfl; with_reducible (conv => enter [6, 3]; whnf)) | apply wr_end | apply wc_seq | apply wc_region | (apply wr_len_slice; iterate 2 exact rfl) | (apply wr_cmp; (iterate 3 exact rfl); exact cmpT (by dsimp only [cmpP]; first | done | omega)) | (apply wr_pick (t := false); (iterate 2 exact rfl); with_reducible (conv => enter [6, 3]; whnf)) | (apply wc_true; exact rfl) | (apply wc_ret; try simp only [thenE, inBlockE, bodyQ]))
    exact leave1 (v := .bool false) rfl rfl ⟨by rw [decide_eq_false (fun h => h3 (by have := h.2.2.1; rw [hN0] at this; dsimp only at this; rw [this]; rfl))], hk1⟩
  (repeat first | apply wr_end | apply wc_seq | apply wc_region | apply wc_skip | (apply wr_len_slice; iterate 2 exact rfl) | (apply wr_load; (iterate 3 exact rfl); (focus repeat first | with_reducible assumption | exact heap_alloc_same _ _ | exact World.putObj_heap_same (by first | omega | (simp only [World.size_alloc, World.putObj_size, ne_eq]; omega)) | ((first | refine hAl ?_ ?_ | refine hPu ?_ ?_); focus first | omega | (simp only [World.size_alloc, World.putObj_size, ne_eq]; omega))); exact rfl; conv => enter [6, 3]; whnf) | (apply wr_cmp; (iterate 3 exact rfl); exact cmpF (by dsimp only [cmpN]; first | done | omega)) | (apply wr_pick (t := false); (iterate 2 exact rfl); with_reducible (conv => enter [6, 3]; whnf)) | (apply wc_false; exact rfl))
  refine wr_sl_slice (i := 1) (j := gs.length) rfl rfl (.inl ⟨rfl, rfl⟩) (.inr ⟨_, rfl, by omega⟩) ?_
  refine wr_makeFunc (v1 := []) (v2 := [.pointer (some ⟨xl, 0, none⟩)]) rfl rfl rfl ?_
  have htail := slr_from hsl1 (i := 1) (by omega)
  obtain ⟨tv, htv⟩ : ∃ tv, tv = Value.slice (if cp = 1 then some ⟨b, o, none⟩ else Option.map (fun x : Addr => x.add (1 * 2)) (some ⟨b, o, none⟩)) (gs.length - 1) (cp - 1) := ⟨_, rfl⟩
  have hts : SlR w2 2 tv (gs.drop 1).length ((gs.drop 1).flatMap GNc) := by
    rw [htv, List.length_drop]
    have : (gs.flatMap GNc).drop (1 * 2) = (gs.drop 1).flatMap GNc := by
      cases gs with
      | nil => rfl
      | cons g gs => rfl
    rw [← this]; exact htail
  rw [← htv]
  have hgd : ∀ i g, (gs.drop 1)[i]? = some g → ∃ n, (N.drop 1)[i]? = some n ∧ N[1 + i]? = some n ∧ gs[1 + i]? = some g := fun i g h => by
    rw [List.getElem?_drop] at h
    have hlt := (List.getElem?_eq_some_iff.1 h).1
    exact ⟨N[1 + i]'(by omega), by rw [List.getElem?_drop]; simp [show 1 + i < N.length by omega], by simp [show 1 + i < N.length by omega], h⟩
  refine wr_call (vs := [tv, .func (.func 32) #[] #[.pointer (some ⟨xl, 0, none⟩)]]) rfl
    (containsFuncN_ca (gs.drop 1) _ tv (fun i w' => (∀ (j : Nat) (n : NG), j < i → (N.drop 1)[j]? = some n → nodeOk N n) ∧ Keeps NoB w2 w') (fun i w' => (∃ n, (N.drop 1)[i]? = some n ∧ ¬ nodeOk N n) ∧ Keeps NoB w2 w') w2 (by rw [List.length_drop]; omega) ⟨(fun j c h => by omega), Keeps.refl _ _⟩
      (fun i w' h => hts.keep h.2 (fun _ _ h => h)) ?_) rfl ?_
  · rintro i ⟨x1, x2⟩ w' hx ⟨hpre, hk⟩
    obtain ⟨n, hn, hnN, hgx⟩ := hgd i _ hx
    have hel := hg1.el (1 + i) _ _ hgx hnN
    dsimp only at hel
    have hnm := List.mem_of_getElem? hnN
    rw [hel.1]
    refine (callV_of (args := [.agg #[.int .i64 n.1, x2]]) (by kernel_rfl) (wrongNode_ca N gs n x2 _ xl hN (hlen n hnm).1 (hlen n hnm).2 w' (hk.heap hl1 (fun h => h)) (hel.2.keep hk (fun _ _ h => h)) (hsl1.keep hk (fun _ _ h => h)) (hg1.keep hk))).mono ?_
    rintro v w'' ⟨rfl, hk'⟩
    by_cases h : nodeOk N n
    · refine ⟨false, by rw [decide_eq_true h]; rfl, .inr ⟨rfl, fun j n' hj hn' => ?_, hk.trans hk'⟩⟩
      by_cases hji : j = i
      · subst hji; rw [hn] at hn'; cases hn'; exact h
      · exact hpre j n' (by omega) hn'
    · exact ⟨true, by rw [decide_eq_false h]; rfl, .inl ⟨rfl, ⟨n, hn, h⟩, hk.trans hk'⟩⟩
  · rintro v w6 (⟨rfl, i, hi, ⟨n, hn, hbad⟩, hk⟩ | ⟨rfl, hall, hk⟩)
    · (repeat first | (apply wr_assign; exact rfl; with_reducible (conv => enter [6, 3]; whnf)) | apply wr_end | (apply wr_not; iterate 2 exact rfl) | (apply wc_ret; try simp only [thenE, inBlockE, bodyQ]))
      exact leave1 (v := .bool false) rfl rfl ⟨by rw [decide_eq_false (fun h => hbad (h.2.2.2 n (List.mem_of_getElem? hn)))], hk1.trans hk⟩
    · (repeat first | (apply wr_assign; exact rfl; with_reducible (conv => enter [6, 3]; whnf)) | apply wr_end | (apply wr_not; iterate 2 exact rfl) | (apply wc_ret; try simp only [thenE, inBlockE, bodyQ]))
      refine leave1 (v := .bool true) rfl rfl ⟨?_, hk1.trans hk⟩
      rw [decide_eq_true]
      refine ⟨⟨by omega, by omega⟩, by rw [hN0]; dsimp only; omega, by rw [hN0]; exact List.length_eq_zero_iff.1 h3, fun n hn => ?_⟩
      obtain ⟨j, hj⟩ := List.getElem?_of_mem hn
      have hjl := (List.getElem?_eq_some_iff.1 hj).1
      rw [List.length_drop] at hjl
      exact hall j n (by rw [List.length_drop]; omega) hj
end Go.Proofs.YthjpgkefifkhjaaDoor
