/- payload: a rule and an address taken; an element of a list: what they do. -/
import Derived.Test.YthlbgeonobicbaaDoorMb
namespace Go.Proofs.YthlbgeonobicbaaDoor
open Go Go.V Go.RowKit
set_option linter.unusedVariables false
set_option linter.unusedSimpArgs false

/-- The package's errors lie below block N. -/
def GloN (N : Nat) (w : World) : Prop := 2 ≤ N ∧ ∃ p q, Glo w p q ∧ p.block < N ∧ q.block < N
theorem GloN.keep {N : Nat} {w w' : World} {D : Nat → Prop} (h : GloN N w) (k : Keeps D w w') (hd : ∀ i, i < N → ¬ D i) : GloN N w' := by
  obtain ⟨h2, p, q, ⟨⟨t0, r0, h0⟩, ⟨t1, r1, h1⟩, ⟨_, _, hp⟩, ⟨_, _, hq⟩, hne⟩, hpn, hqn⟩ := h
  exact ⟨h2, p, q, ⟨⟨_, _, k.heap h0 (hd _ (by omega))⟩, ⟨_, _, k.heap h1 (hd _ (by omega))⟩, ⟨_, _, k.heap hp (hd _ hpn)⟩, ⟨_, _, k.heap hq (hd _ hqn)⟩, hne⟩, hpn, hqn⟩
theorem GloN.kin {N : Nat} {w w' : World} (h : GloN N w) (k : Keeps NoB w w') : GloN N w' := h.keep k fun _ _ h => h
def tkRule (k : Nat) (r : RuleD) (l : List WF) : Option RuleD := match k with
  | 0 => if kindsB l 2 = true then some (lastS r.1 l, r.2) else none
  | 1 => if kindsB l 2 = true then some (r.1, lastS r.2 l) else none
  | _ => none
def tkAddr (k : Nat) (r : AddrD) (l : List WF) : Option AddrD := match k with
  | 0 => if kindsB l 2 = true then some (lastS r.1 l, r.2) else none
  | 1 => if kindsB l 0 = true then some (r.1, lastN r.2.1 l, r.2.2) else none
  | 2 => if kindsB l 0 = true then some (r.1, r.2.1, lastN r.2.2 l) else none
  | _ => none
def ruleTk (s : List UInt8) : Option RuleD := (parseF s).bind fun l => tkAll tkRule l 2 0 ([], [])
def addrTk (s : List UInt8) : Option AddrD := (parseF s).bind fun l => tkAll tkAddr l 3 0 ([], 0, 0)
abbrev BS (w : World) (bx b o : Nat) : Prop := w.heap[bx]? = some (.cells #[.pointer (some ⟨b, o, none⟩)] 104 (0, 0))
abbrev BN (w : World) (bx b o : Nat) : Prop := w.heap[bx]? = some (.cells #[.pointer (some ⟨b, o, none⟩)] 106 (0, 0))
theorem allF_len (l : List WF) : True := True.intro
structure RuleSt (xb b0 b1 g N : Nat) (r : RuleD) (w : World) : Prop where
  x : w.heap[xb]? = some (.cells (GR r).toArray 51 (0, 0))
  h0 : BS w b0 xb 0
  h1 : BS w b1 xb 1
  f : FS w g ([textT [] b0, textT [] b1].flatMap G3)
  glo : GloN N w
theorem ruleMach {xb b0 b1 g N : Nat} (hb0 : b0 ≠ xb) (hb1 : b1 ≠ xb) (hg : g ≠ xb) (hN : N ≤ xb) : Mach (RuleSt xb b0 b1 g N) (fun _ k => k = xb) (.slice (some ⟨g, 0, none⟩) 2 2) [textT [] b0, textT [] b1] id (fun _ _ => True) tkRule where
  keep := fun s w w' h k => ⟨k.heap h.x (fun h => h), k.heap h.h0 (fun h => h), k.heap h.h1 (fun h => h), k.heap h.f (fun h => h), h.glo.kin k⟩
  lt := fun s w k h e => by subst e; exact lt_of_heap h.x
  sl := fun s w h => FS_slR h.f rfl
  glo := fun s w h => by obtain ⟨_, p, q, h, _⟩ := h.glo; exact ⟨p, q, h⟩
  one := by intro x hx; simp at hx; rcases hx with rfl | rfl <;> exact ⟨rfl, rfl, rfl⟩
  len := by simp
  step := by
    intro k x hx s w fl sl hst _ hfl hfs hsl hsb
    have hsb' : sl.ownBlock ≠ some xb := fun e => (hsb xb e).2 rfl
    match k with
    | 0 =>
      simp at hx; subst hx
      refine callV_of (args := [sl]) (by kernel_rfl) ((textTk_ca fl (by omega) s.1 sl hst.h0 hst.x rfl hb0 hsl hsb').mono ?_)
      rintro v w' ⟨y0, h1, h2, h3, h4⟩
      refine ⟨(y0, s.2), ⟨h1, h2.heap hst.h0 hb0, h2.heap hst.h1 hb1, h2.heap hst.f hg, hst.glo.keep h2 (fun i hi e => by omega)⟩, h2, fun b hb => .inl hb, ?_⟩
      rcases h3 with ⟨rfl, hk, rfl⟩ | ⟨rfl, hk⟩
      · exact .inl ⟨rfl, by simp only [id, tkRule, hk, if_true], True.intro⟩
      · exact .inr ⟨rfl, by simp only [id, tkRule, hk]; rfl⟩
    | 1 =>
      simp at hx; subst hx
      refine callV_of (args := [sl]) (by kernel_rfl) ((textTk_ca fl (by omega) s.2 sl hst.h1 hst.x rfl hb1 hsl hsb').mono ?_)
      rintro v w' ⟨y0, h1, h2, h3, h4⟩
      refine ⟨(s.1, y0), ⟨h1, h2.heap hst.h0 hb0, h2.heap hst.h1 hb1, h2.heap hst.f hg, hst.glo.keep h2 (fun i hi e => by omega)⟩, h2, fun b hb => .inl hb, ?_⟩
      rcases h3 with ⟨rfl, hk, rfl⟩ | ⟨rfl, hk⟩
      · exact .inl ⟨rfl, by simp only [id, tkRule, hk, if_true], True.intro⟩
      · exact .inr ⟨rfl, by simp only [id, tkRule, hk]; rfl⟩
    | k + 2 => simp at hx
structure AddrSt (xb b0 b1 b2 g N : Nat) (r : AddrD) (w : World) : Prop where
  x : w.heap[xb]? = some (.cells (GA r).toArray 65 (0, 0))
  h0 : BS w b0 xb 0
  h1 : BN w b1 xb 1
  h2 : BN w b2 xb 2
  f : FS w g ([textT [] b0, numT [] b1, numT [] b2].flatMap G3)
  glo : GloN N w
theorem addrMach {xb b0 b1 b2 g N : Nat} (hb0 : b0 ≠ xb) (hb1 : b1 ≠ xb) (hb2 : b2 ≠ xb) (hg : g ≠ xb) (hN : N ≤ xb) : Mach (AddrSt xb b0 b1 b2 g N) (fun _ k => k = xb) (.slice (some ⟨g, 0, none⟩) 3 3) [textT [] b0, numT [] b1, numT [] b2] id (fun _ _ => True) tkAddr where
  keep := fun s w w' h k => ⟨k.heap h.x (fun h => h), k.heap h.h0 (fun h => h), k.heap h.h1 (fun h => h), k.heap h.h2 (fun h => h), k.heap h.f (fun h => h), h.glo.kin k⟩
  lt := fun s w k h e => by subst e; exact lt_of_heap h.x
  sl := fun s w h => FS_slR h.f rfl
  glo := fun s w h => by obtain ⟨_, p, q, h, _⟩ := h.glo; exact ⟨p, q, h⟩
  one := by intro x hx; simp at hx; rcases hx with rfl | rfl | rfl <;> exact ⟨rfl, rfl, rfl⟩
  len := by simp
  step := by
    intro k x hx s w fl sl hst _ hfl hfs hsl hsb
    have hsb' : sl.ownBlock ≠ some xb := fun e => (hsb xb e).2 rfl
    match k with
    | 0 =>
      simp at hx; subst hx
      refine callV_of (args := [sl]) (by kernel_rfl) ((textTk_ca fl (by omega) s.1 sl hst.h0 hst.x rfl hb0 hsl hsb').mono ?_)
      rintro v w' ⟨y0, h1, h2, h3, h4⟩
      refine ⟨(y0, s.2), ⟨h1, h2.heap hst.h0 hb0, h2.heap hst.h1 hb1, h2.heap hst.h2 hb2, h2.heap hst.f hg, hst.glo.keep h2 (fun i hi e => by omega)⟩, h2, fun b hb => .inl hb, ?_⟩
      rcases h3 with ⟨rfl, hk, rfl⟩ | ⟨rfl, hk⟩
      · exact .inl ⟨rfl, by simp only [id, tkAddr, hk, if_true], True.intro⟩
      · exact .inr ⟨rfl, by simp only [id, tkAddr, hk]; rfl⟩
    | 1 =>
      simp at hx; subst hx
      refine callV_of (args := [sl]) (by kernel_rfl) ((numTk_ca fl (by omega) s.2.1 sl hst.h1 hst.x rfl hb1 hsl hsb').mono ?_)
      rintro v w' ⟨y0, h1, h2, h3, h4⟩
      refine ⟨(s.1, y0, s.2.2), ⟨h1, h2.heap hst.h0 hb0, h2.heap hst.h1 hb1, h2.heap hst.h2 hb2, h2.heap hst.f hg, hst.glo.keep h2 (fun i hi e => by omega)⟩, h2, fun b hb => .inl hb, ?_⟩
      rcases h3 with ⟨rfl, hk, rfl⟩ | ⟨rfl, hk⟩
      · exact .inl ⟨rfl, by simp only [id, tkAddr, hk, if_true], True.intro⟩
      · exact .inr ⟨rfl, by simp only [id, tkAddr, hk]; rfl⟩
    | 2 =>
      simp at hx; subst hx
      refine callV_of (args := [sl]) (by kernel_rfl) ((numTk_ca fl (by omega) s.2.2 sl hst.h2 hst.x rfl hb2 hsl hsb').mono ?_)
      rintro v w' ⟨y0, h1, h2, h3, h4⟩
      refine ⟨(s.1, s.2.1, y0), ⟨h1, h2.heap hst.h0 hb0, h2.heap hst.h1 hb1, h2.heap hst.h2 hb2, h2.heap hst.f hg, hst.glo.keep h2 (fun i hi e => by omega)⟩, h2, fun b hb => .inl hb, ?_⟩
      rcases h3 with ⟨rfl, hk, rfl⟩ | ⟨rfl, hk⟩
      · exact .inl ⟨rfl, by simp only [id, tkAddr, hk, if_true], True.intro⟩
      · exact .inr ⟨rfl, by simp only [id, tkAddr, hk]; rfl⟩
    | k + 3 => simp at hx
set_option maxRecDepth 100000 in
set_option maxHeartbeats 4000000 in
theorem ruleEl_ca (x : WF) (hxs : x.s.length ≤ 1000000000) {ob bf bx pb o N : Nat} {cur : Array Value} {e : TypeId} (ok : Bool) (rs : List RuleD) (rv : Value) {base : Nat} {w : World} (hob : w.heap[ob]? = some (.cells #[.bool ok] 4 (0, 0)))
    (hbf : w.heap[bf]? = some (.cells #[.func (.func 52) #[] #[]] 109 (0, 0))) (hbx : w.heap[bx]? = some (.cells #[.pointer (some ⟨pb, o, none⟩)] 108 (0, 0))) (hpb : w.heap[pb]? = some (.cells cur e (0, 0))) (ho : cur[o]? = some rv)
    (hrv : w.ownsRow base 51 2 rv rs.length (rs.flatMap GR)) (hbase : base ≤ w.heap.size) (hlen : rs.length ≤ 2000000000) (hG : GloN N w) (hne : ob ≠ pb ∧ bf ≠ ob ∧ bx ≠ ob ∧ bx ≠ pb ∧ bf ≠ pb ∧ N ≤ ob ∧ N ≤ pb) (hrb : ∀ b, rv.ownBlock = some b → b ≠ ob ∧ b ≠ bf ∧ b ≠ bx ∧ b ≠ pb ∧ N ≤ b) :
    Ca Tryd.prog 75 #[x.v, .pointer (some ⟨ob, 0, none⟩), .pointer (some ⟨bf, 0, none⟩), .pointer (some ⟨bx, 0, none⟩)] w fun v w' => ∃ (r' : RuleD) (rv' : Value),
      w'.heap[ob]? = some (.cells #[.bool (ok && (ruleTk x.s).isSome)] 4 (0, 0)) ∧ w'.heap[pb]? = some (.cells (cur.setIfInBounds o rv') e (0, 0)) ∧ w'.ownsRow base 51 2 rv' (rs.length + 1) ((rs ++ [r']).flatMap GR) ∧
      Keeps (fun k => k = ob ∨ k = pb ∨ rv.ownBlock = some k) w w' ∧ (∀ b, rv'.ownBlock = some b → rv.ownBlock = some b ∨ w.heap.size ≤ b) ∧ (ok = true → ∀ r, ruleTk x.s = some r → r' = r) := by
  obtain ⟨n1, n2, n3, n4, n5, g1, g2⟩ := hne
  have hpbl := lt_of_heap hpb
  have hobl := lt_of_heap hob
  have hbfl := lt_of_heap hbf
  have hbxl := lt_of_heap hbx
  obtain ⟨xn, xk, xv, xs⟩ := x
  simp only at hxs
  have hc : (Value.agg #[.int .i64 xn, .int .i64 xk, .int .u64 (xv : Int), S xs]).cells = #[.int .i64 xn, .int .i64 xk, .int .u64 (xv : Int), S xs] := rfl
  refine ca_of_body (args := [.agg #[.int .i64 xn, .int .i64 xk, .int .u64 (xv : Int), S xs], .pointer (some ⟨ob, 0, none⟩), .pointer (some ⟨bf, 0, none⟩), .pointer (some ⟨bx, 0, none⟩)]) Tryd.func75 rfl (by kernel_rfl) ?_
  (repeat first | apply wr_end | apply wc_seq | apply wc_region | (apply wr_box; iterate 2 exact rfl) | (apply wr_alloc; exact rfl))
  -- the element's own block
  obtain ⟨w1, hw1⟩ : ∃ w1, w1 = (w.alloc (.cells (Value.agg #[.int .i64 xn, .int .i64 xk, .int .u64 (xv : Int), S xs]).cells 101)).alloc (.cells (Value.agg #[S [], S []]).cells 51) := ⟨_, rfl⟩
  have hk1 : Keeps NoB w w1 := by rw [hw1]; exact ((Keeps.refl NoB w).alloc _).alloc _
  have hf1 : w1.heap[w.heap.size]? = some (.cells #[.int .i64 xn, .int .i64 xk, .int .u64 (xv : Int), S xs] 101 (0, 0)) := by rw [hw1]; exact hAl (by simp) (heap_alloc_same w (.cells (Value.agg #[.int .i64 xn, .int .i64 xk, .int .u64 (xv : Int), S xs]).cells 101))
  have hx1 : w1.heap[w.heap.size + 1]? = some (.cells (GR (([], []))).toArray 51 (0, 0)) := by rw [hw1]; exact heap_alloc_at _ _ (by simp)
  have hs1 : w1.heap.size = w.heap.size + 2 := by rw [hw1]; simp
  refine wc_keep [(1, .pointer (some ⟨ob, 0, none⟩)), (2, .pointer (some ⟨bf, 0, none⟩)), (3, .pointer (some ⟨bx, 0, none⟩)), (4, .pointer (some ⟨w.heap.size, 0, none⟩)), (5, .pointer (some ⟨w.heap.size + 1, 0, none⟩))] ⟨rfl, rfl, rfl, rfl, by show Value.pointer _ = _; simp, trivial⟩ ?_
  intro fk
  change Wc _ _ _ _ _ _ _ ((w.alloc (.cells (Value.agg #[.int .i64 xn, .int .i64 xk, .int .u64 (xv : Int), S xs]).cells 101)).alloc (.cells (Value.agg #[S [], S []]).cells 51))
  rw [← hw1]
  clear hw1
  have hob1 := hk1.heap hob (fun h => h)
  have hbf1 := hk1.heap hbf (fun h => h)
  have hbl : ∀ b, rv.ownBlock = some b → (base ≤ b ∧ b < w.heap.size) ∧ b ≠ ob ∧ b ≠ bf ∧ b ≠ bx ∧ b ≠ pb ∧ N ≤ b := fun b hb => ⟨hrv.lt b hb, hrb b hb⟩
  -- is it taken?
  refine wc_cut (fun ds f w' => ds = [] ∧ ∃ r' : RuleD, Slots f [(1, .pointer (some ⟨ob, 0, none⟩)), (3, .pointer (some ⟨bx, 0, none⟩)), (5, .pointer (some ⟨w.heap.size + 1, 0, none⟩))] ∧ w'.heap[ob]? = some (.cells #[.bool (ok && (ruleTk xs).isSome)] 4 (0, 0)) ∧ w'.heap[w.heap.size + 1]? = some (.cells (GR r').toArray 51 (0, 0)) ∧ Keeps (fun k => k = ob ∨ k = w.heap.size + 1) w1 w' ∧ (ok = true → ∀ r, ruleTk xs = some r → r' = r)) ?_ ?_
  · cases ok with
    | true =>
      refine wc_drawP (l := _) 6 _ (by kernel_rfl) (by kernel_rfl) rfl (by kernel_rfl) (by kernel_rfl) (by decide) ?_
      apply chP_pure
      focus
        intro x w' hk hF
        refine wr_load (v := .bool true) rfl rfl rfl (hk.heap (a := w1.drew) hob1 (fun h => h)) rfl ?_
        apply wr_nil
        exact ⟨rfl, Keeps.refl _ _⟩
      focus (intro x y h; rfl)
      focus kernel_rfl
      apply chP_pure
      focus
        intro x w' hk hF
        apply wr_move; exact rfl; with_reducible (conv => enter [6, 3]; whnf)
        apply wr_nil
        exact ⟨rfl, Keeps.refl _ _⟩
      focus (intro x y h; rfl)
      focus kernel_rfl
      apply chP_pure
      focus
        intro x w' hk hF
        refine wr_fieldAddr rfl rfl ?_
        apply wr_nil
        exact ⟨rfl, Keeps.refl _ _⟩
      focus (intro x y h; rfl)
      focus kernel_rfl
      apply chP_pure
      focus
        intro x w' hk hF
        refine wr_load (v := S xs) rfl rfl rfl (hk.heap (a := w1.drew) hf1 (fun h => h)) rfl ?_
        apply wr_nil
        exact ⟨rfl, Keeps.refl _ _⟩
      focus (intro x y h; rfl)
      focus kernel_rfl
      apply chP_pure
      focus
        intro x w' hk hF
        refine wr_load (v := .func (.func 52) #[] #[]) rfl rfl rfl (hk.heap (a := w1.drew) hbf1 (fun h => h)) rfl ?_
        apply wr_nil
        exact ⟨rfl, Keeps.refl _ _⟩
      focus (intro x y h; rfl)
      focus kernel_rfl
      refine chP_fact (fun y => .slice (some ⟨blkOf y, 0, none⟩) 2 2) (fun y w' => ∃ b0 b1, FS w' (blkOf y) ([textT [] b0, textT [] b1].flatMap G3) ∧ BS w' b0 (w.heap.size + 1) 0 ∧ BS w' b1 (w.heap.size + 1) 1 ∧ w.heap.size + 2 ≤ b0 ∧ w.heap.size + 2 ≤ b1 ∧ w.heap.size + 2 ≤ blkOf y) (fun y w w' h k => by obtain ⟨b0, b1, h1, h2, h3, h4⟩ := h; exact ⟨b0, b1, k.heap h1 (fun h => h), k.heap h2 (fun h => h), k.heap h3 (fun h => h), h4⟩) ?_ ?_
      focus
        intro x w' hk hF
        refine wr_callv rfl (callV_of (args := [.pointer (some ⟨w.heap.size + 1, 0, none⟩)]) (by kernel_rfl) (rule_ca (w.heap.size + 1) w')) rfl rfl ?_
        rintro v w'' ⟨g, b0, b1, rfl, hFS, hb0, hb1, hgg, hk4⟩
        have hwk : w1.heap.size ≤ w'.heap.size := hk.size
        apply wr_nil
        exact ⟨.pointer (some ⟨g, 0, none⟩), rfl, ⟨b0, b1, hFS, hb0.1, hb1.1, by have := hb0.2; omega, by have := hb1.2; omega, by show _ ≤ g; omega⟩, hk4⟩
      refine chP_nil ?_
      intro x w2 hk2' hF
      obtain ⟨b0, b1, q1, q2, q3, q4, q5, q6⟩ := hF 5 (by decide)
      change FS _ (blkOf (x 5)) _ at q1
      change _ ≤ blkOf (x 5) at q6
      have hk2 : Keeps NoB w1 w2 := (Keeps.refl NoB w1).drew.trans hk2'
      have hst : RuleSt (w.heap.size + 1) b0 b1 (blkOf (x 5)) N ([], []) w2 := ⟨hk2.heap hx1 (fun h => h), q2, q3, q1, (hG.kin hk1).kin hk2⟩
      refine wr_call (vs := [S xs, .slice (some ⟨blkOf (x 5), 0, none⟩) 2 2]) rfl (ptake_ca (ruleMach (g := blkOf (x 5)) (by omega) (by omega) (by omega) (by omega)) xs hxs (([], [])) True.intro hst) rfl ?_
      rintro v w3 ⟨st', hst', hk3, _, hv⟩
      have hob3 := hk3.heap (hk2.heap hob1 (fun h => h)) (by omega)
      have hob3l := lt_of_heap hob3
      have hkk : Keeps (fun k => k = ob ∨ k = w.heap.size + 1) w1 w3 := hk2.upD.trans (hk3.mono fun k _ h => .inr h)
      have hx3 := hst'.x
      have hv' : ∃ b, v = .bool b ∧ b = (ruleTk xs).isSome ∧ (∀ r, ruleTk xs = some r → st' = r) := by
        rcases hv with ⟨rfl, hv⟩ | ⟨rfl, hv⟩
        · have hv' : ruleTk xs = some st' := hv
          exact ⟨true, rfl, by rw [hv']; rfl, fun r hr => by rw [hv'] at hr; exact Option.some.inj hr⟩
        · have hv' : ruleTk xs = none := hv
          exact ⟨false, rfl, by rw [hv']; rfl, fun r hr => by rw [hv'] at hr; cases hr⟩
      obtain ⟨bb, rfl, hbb, hrr⟩ := hv'
      rw [← hbb]
      (repeat first | apply wr_end | (apply wr_pick (t := true); (iterate 2 exact rfl); with_reducible (conv => enter [6, 3]; whnf)) | (apply wr_store; (iterate 3 exact rfl); (first | exact rfl | with_reducible assumption); (focus repeat first | with_reducible assumption | exact heap_alloc_same _ _ | exact World.putObj_heap_same (by first | omega | (simp only [World.size_alloc, World.putObj_size, ne_eq]; omega)) | ((first | refine hAl ?_ ?_ | refine hPu ?_ ?_); focus first | omega | (simp only [World.size_alloc, World.putObj_size, ne_eq]; omega))); exact rfl))
      exact ⟨by trivial, st', ⟨rfl, rfl, rfl, trivial⟩, World.putObj_heap_same hob3l, (heap_put_ne _ _ (by omega)).trans hx3, hkk.put _ (fun _ => .inl rfl), fun _ => hrr⟩
    | false =>
      refine wc_drawP (l := _) 8 _ (by kernel_rfl) (by kernel_rfl) rfl (by kernel_rfl) (by kernel_rfl) (by decide) ?_
      apply chP_pure
      focus
        intro x w' hk hF
        refine wr_load (v := .bool false) rfl rfl rfl (hk.heap (a := w1.drew) hob1 (fun h => h)) rfl ?_
        apply wr_nil
        exact ⟨rfl, Keeps.refl _ _⟩
      focus (intro x y h; rfl)
      focus kernel_rfl
      repeat
        apply chP_pure
        focus
          intro x w' hk hF
          (repeat first | (apply wr_move; exact rfl; with_reducible (conv => enter [6, 3]; whnf)) | (apply wr_pick (t := false); (iterate 2 exact rfl); with_reducible (conv => enter [6, 3]; whnf)) | (apply wr_nil; try simp only [thenE, inBlockE, bodyQ]) | (apply wr_skip; exact rfl))
          exact ⟨rfl, Keeps.refl _ _⟩
        focus (intro x y h; rfl)
        focus kernel_rfl
      refine chP_nil ?_
      intro x w2 hk2' hF
      have hk2 : Keeps NoB w1 w2 := (Keeps.refl NoB w1).drew.trans hk2'
      have hob2 := hk2.heap hob1 (fun h => h)
      have hx2 := hk2.heap hx1 (fun h => h)
      have hob2l := lt_of_heap hob2
      (repeat first | apply wr_end | (apply wr_store; (iterate 3 exact rfl); (first | exact rfl | with_reducible assumption); (focus repeat first | with_reducible assumption | exact heap_alloc_same _ _ | exact World.putObj_heap_same (by first | omega | (simp only [World.size_alloc, World.putObj_size, ne_eq]; omega)) | ((first | refine hAl ?_ ?_ | refine hPu ?_ ?_); focus first | omega | (simp only [World.size_alloc, World.putObj_size, ne_eq]; omega))); exact rfl))
      exact ⟨by trivial, ([], []), ⟨rfl, rfl, rfl, trivial⟩, World.putObj_heap_same hob2l, (heap_put_ne _ _ (by omega)).trans hx2, hk2.upD.put _ (fun _ => .inl rfl), fun h => by cases h⟩
  rintro ds f w2 ⟨rfl, r', hslots, hob2, hx2, hk2, hr2⟩
  refine wc_keep _ hslots ?_
  intro f0
  clear hslots f
  have hbx2 := hk2.heap (hk1.heap hbx (fun h => h)) (by omega)
  have hpb2 := hk2.heap (hk1.heap hpb (fun h => h)) (by omega)
  have hrv2 : w2.ownsRow base 51 2 rv rs.length (rs.flatMap GR) := own_keep (own_keep hrv hk1 (fun _ _ h => h)) hk2 (fun b hb h => by have := hbl b hb; omega)
  have hs2 := hk2.size
  have hosz : o < cur.size := (Array.getElem?_eq_some_iff.1 ho).1
  have hflat : (rs ++ [r']).flatMap GR = rs.flatMap GR ++ GR r' := by simp
  have hrd : ∀ {i w'}, Keeps (monD (fun k => rv.ownBlock = some k) (some 6) i) w2.drew w' → Keeps (fun k => rv.ownBlock = some k) w2.drew w' := by
    intro i w' h
    unfold monD at h
    simp only at h
    cases hb : Nat.beq i 6 with
    | true => rw [hb] at h; exact Keeps.upD h
    | false => rw [hb] at h; exact h
  refine wc_drawQ (fun k => rv.ownBlock = some k) (some 6) (l := _) 8 _ (by kernel_rfl) (by kernel_rfl) rfl (by kernel_rfl) (by kernel_rfl) (by decide) ?_
  apply chP_pure
  focus
    intro x w' hk hF
    refine wr_load (v := .pointer (some ⟨pb, o, none⟩)) rfl rfl rfl ((hrd hk).heap (a := w2.drew) hbx2 (fun h => by have := hbl _ h; omega)) rfl ?_
    apply wr_nil
    exact ⟨rfl, Keeps.refl _ _⟩
  focus (intro x y h; rfl)
  focus kernel_rfl
  apply chP_pure
  focus
    intro x w' hk hF
    refine wr_load (v := .pointer (some ⟨pb, o, none⟩)) rfl rfl rfl ((hrd hk).heap (a := w2.drew) hbx2 (fun h => by have := hbl _ h; omega)) rfl ?_
    apply wr_nil
    exact ⟨rfl, Keeps.refl _ _⟩
  focus (intro x y h; rfl)
  focus kernel_rfl
  apply chP_pure
  focus
    intro x w' hk hF
    refine wr_nilCheck rfl rfl ?_
    apply wr_nil
    exact ⟨rfl, Keeps.refl _ _⟩
  focus (intro x y h; rfl)
  focus kernel_rfl
  apply chP_pure
  focus
    intro x w' hk hF
    refine wr_load (v := rv) rfl rfl rfl ((hrd hk).heap (a := w2.drew) hpb2 (fun h => by have := hbl _ h; omega)) ho ?_
    apply wr_nil
    exact ⟨rfl, Keeps.refl _ _⟩
  focus (intro x y h; rfl)
  focus kernel_rfl
  apply chP_pure
  focus
    intro x w' hk hF
    refine wr_loadAll (cs := GR r') rfl rfl rfl ((hrd hk).heap (a := w2.drew) hx2 (fun h => by have := hbl _ h; omega)) rfl ?_
    apply wr_nil
    exact ⟨rfl, Keeps.refl _ _⟩
  focus (intro x y h; rfl)
  focus kernel_rfl
  refine chP_fact (fun y => .slice (some ⟨blkOf y, 0, none⟩) 1 1) (fun y w' => w'.heap[blkOf y]? = some (.cells (GR r').toArray 51 (0, 0)) ∧ w2.heap.size ≤ blkOf y) (fun y w w' h k => ⟨Keeps.heap (D := fun k => rv.ownBlock = some k) k h.1 (fun hd => by have := hbl _ hd; omega), h.2⟩) ?_ ?_
  focus
    intro x w' hk hF
    refine wr_buildSlice (vs := [.agg (GR r').toArray]) rfl rfl (by intro v hv; simp at hv; subst hv; rfl) rfl (by decide) (by decide) (by decide) ?_
    apply wr_nil
    exact ⟨.pointer (some ⟨w'.heap.size, 0, none⟩), rfl, ⟨by have e : ([Value.agg (GR r').toArray].flatMap fun v => v.cells.toList).toArray = (GR r').toArray := by simp [Value.cells]
                                                             rw [e]; exact heap_alloc_same _ _, (hrd hk).size⟩, (Keeps.refl _ _).alloc _⟩
  refine chP_fact (fun y => y) (fun y w' => w'.ownsRow base 51 2 y (rs.length + 1) (rs.flatMap GR ++ GR r') ∧ ∀ b, y.ownBlock = some b → rv.ownBlock = some b ∨ w2.heap.size ≤ b) (fun y w w' h k => ⟨own_keep (D := NoB) h.1 k (fun _ _ h => h), h.2⟩) ?_ ?_
  focus
    intro x w' hk hF
    obtain ⟨q1, q2⟩ : w'.heap[blkOf (x 5)]? = some (.cells (GR r').toArray 51 (0, 0)) ∧ w2.heap.size ≤ blkOf (x 5) := hF 5 (by kernel_rfl)
    have hkn : Keeps NoB w2.drew w' := hk
    have hwk := hkn.size
    refine wr_append2 (v := rv) (n := rs.length) (m := 1) (b := blkOf (x 5)) (news := GR r') rfl rfl (own_keep (w := w2.drew) hrv2 hkn (fun _ _ h => h)) rfl q1 rfl (by intro u hu; simp [GR] at hu; rcases hu with rfl | rfl <;> rfl) rfl (by decide) (by omega) (by omega) (by have : w2.drew.heap.size = w2.heap.size := rfl; omega) ?_
    intro v' w'' ho' hk' hb'
    apply wr_nil
    exact ⟨v', rfl, ⟨ho', fun b hb => by have : w2.drew.heap.size = w2.heap.size := rfl; rcases hb' b hb with h | h; exact .inl h; exact .inr (by omega)⟩, hk'⟩
  apply chP_pure
  focus
    intro x w' hk hF
    refine wr_nilCheck rfl rfl ?_
    apply wr_nil
    exact ⟨rfl, Keeps.refl _ _⟩
  focus (intro x y h; rfl)
  focus kernel_rfl
  refine chP_nil ?_
  intro x w3 hk3 hF
  obtain ⟨q1, q2⟩ : w3.ownsRow base 51 2 (x 6) (rs.length + 1) (rs.flatMap GR ++ GR r') ∧ ∀ b, (x 6).ownBlock = some b → rv.ownBlock = some b ∨ w2.heap.size ≤ b := hF 6 (by decide)
  have h6 := own_one q1
  have hpb3 := hk3.heap (a := w2.drew) hpb2 (fun h => by have := hbl _ h; omega)
  have hob3 := hk3.heap (a := w2.drew) hob2 (fun h => by have := hbl _ h; omega)
  have hpb3l := lt_of_heap hpb3
  refine wr_store (v := x 6) rfl rfl rfl h6 hpb3 ho ?_
  (repeat first | (apply wr_nil; try simp only [thenE, inBlockE, bodyQ]))
  try simp only [bodyQ]
  refine leave0 rfl ⟨r', x 6, (heap_put_ne _ _ (by omega)).trans hob3, World.putObj_heap_same hpb3l, ?_, ?_, ?_, hr2⟩
  · rw [hflat]
    exact own_keep q1 ((Keeps.refl (fun k => k = pb) w3).put _ (fun _ => rfl)) (fun b hb e => by rcases q2 b hb with h | h; have := hbl _ h; omega; omega)
  · refine (((hk1.upD (D := fun k => k = ob ∨ k = pb ∨ rv.ownBlock = some k)).trans' hk2 (fun i hi h => by rcases h with h | h; exact .inl h; omega)).drew.trans' hk3 (fun i hi h => .inr (.inr h))).put _ (fun _ => .inr (.inl rfl))
  · intro b hb
    rcases q2 b hb with h | h
    · exact .inl h
    · exact .inr (by omega)
set_option maxRecDepth 100000 in
set_option maxHeartbeats 4000000 in
theorem addrEl_ca (x : WF) (hxs : x.s.length ≤ 1000000000) {ob bf bx pb o N : Nat} {cur : Array Value} {e : TypeId} (ok : Bool) (rs : List AddrD) (rv : Value) {base : Nat} {w : World} (hob : w.heap[ob]? = some (.cells #[.bool ok] 4 (0, 0)))
    (hbf : w.heap[bf]? = some (.cells #[.func (.func 54) #[] #[]] 112 (0, 0))) (hbx : w.heap[bx]? = some (.cells #[.pointer (some ⟨pb, o, none⟩)] 111 (0, 0))) (hpb : w.heap[pb]? = some (.cells cur e (0, 0))) (ho : cur[o]? = some rv)
    (hrv : w.ownsRow base 65 3 rv rs.length (rs.flatMap GA)) (hbase : base ≤ w.heap.size) (hlen : rs.length ≤ 2000000000) (hG : GloN N w) (hne : ob ≠ pb ∧ bf ≠ ob ∧ bx ≠ ob ∧ bx ≠ pb ∧ bf ≠ pb ∧ N ≤ ob ∧ N ≤ pb) (hrb : ∀ b, rv.ownBlock = some b → b ≠ ob ∧ b ≠ bf ∧ b ≠ bx ∧ b ≠ pb ∧ N ≤ b) :
    Ca Tryd.prog 78 #[x.v, .pointer (some ⟨ob, 0, none⟩), .pointer (some ⟨bf, 0, none⟩), .pointer (some ⟨bx, 0, none⟩)] w fun v w' => ∃ (r' : AddrD) (rv' : Value),
      w'.heap[ob]? = some (.cells #[.bool (ok && (addrTk x.s).isSome)] 4 (0, 0)) ∧ w'.heap[pb]? = some (.cells (cur.setIfInBounds o rv') e (0, 0)) ∧ w'.ownsRow base 65 3 rv' (rs.length + 1) ((rs ++ [r']).flatMap GA) ∧
      Keeps (fun k => k = ob ∨ k = pb ∨ rv.ownBlock = some k) w w' ∧ (∀ b, rv'.ownBlock = some b → rv.ownBlock = some b ∨ w.heap.size ≤ b) ∧ (ok = true → ∀ r, addrTk x.s = some r → r' = r) := by
  obtain ⟨n1, n2, n3, n4, n5, g1, g2⟩ := hne
  have hpbl := lt_of_heap hpb
  have hobl := lt_of_heap hob
  have hbfl := lt_of_heap hbf
  have hbxl := lt_of_heap hbx
  obtain ⟨xn, xk, xv, xs⟩ := x
  simp only at hxs
  have hc : (Value.agg #[.int .i64 xn, .int .i64 xk, .int .u64 (xv : Int), S xs]).cells = #[.int .i64 xn, .int .i64 xk, .int .u64 (xv : Int), S xs] := rfl
  refine ca_of_body (args := [.agg #[.int .i64 xn, .int .i64 xk, .int .u64 (xv : Int), S xs], .pointer (some ⟨ob, 0, none⟩), .pointer (some ⟨bf, 0, none⟩), .pointer (some ⟨bx, 0, none⟩)]) Tryd.func78 rfl (by kernel_rfl) ?_
  (repeat first | apply wr_end | apply wc_seq | apply wc_region | (apply wr_box; iterate 2 exact rfl) | (apply wr_alloc; exact rfl))
  -- the element's own block
  obtain ⟨w1, hw1⟩ : ∃ w1, w1 = (w.alloc (.cells (Value.agg #[.int .i64 xn, .int .i64 xk, .int .u64 (xv : Int), S xs]).cells 101)).alloc (.cells (Value.agg #[S [], .int .u64 0, .int .u64 0]).cells 65) := ⟨_, rfl⟩
  have hk1 : Keeps NoB w w1 := by rw [hw1]; exact ((Keeps.refl NoB w).alloc _).alloc _
  have hf1 : w1.heap[w.heap.size]? = some (.cells #[.int .i64 xn, .int .i64 xk, .int .u64 (xv : Int), S xs] 101 (0, 0)) := by rw [hw1]; exact hAl (by simp) (heap_alloc_same w (.cells (Value.agg #[.int .i64 xn, .int .i64 xk, .int .u64 (xv : Int), S xs]).cells 101))
  have hx1 : w1.heap[w.heap.size + 1]? = some (.cells (GA (([], 0, 0))).toArray 65 (0, 0)) := by rw [hw1]; exact heap_alloc_at _ _ (by simp)
  have hs1 : w1.heap.size = w.heap.size + 2 := by rw [hw1]; simp
  refine wc_keep [(1, .pointer (some ⟨ob, 0, none⟩)), (2, .pointer (some ⟨bf, 0, none⟩)), (3, .pointer (some ⟨bx, 0, none⟩)), (4, .pointer (some ⟨w.heap.size, 0, none⟩)), (5, .pointer (some ⟨w.heap.size + 1, 0, none⟩))] ⟨rfl, rfl, rfl, rfl, by show Value.pointer _ = _; simp, trivial⟩ ?_
  intro fk
  change Wc _ _ _ _ _ _ _ ((w.alloc (.cells (Value.agg #[.int .i64 xn, .int .i64 xk, .int .u64 (xv : Int), S xs]).cells 101)).alloc (.cells (Value.agg #[S [], .int .u64 0, .int .u64 0]).cells 65))
  rw [← hw1]
  clear hw1
  have hob1 := hk1.heap hob (fun h => h)
  have hbf1 := hk1.heap hbf (fun h => h)
  have hbl : ∀ b, rv.ownBlock = some b → (base ≤ b ∧ b < w.heap.size) ∧ b ≠ ob ∧ b ≠ bf ∧ b ≠ bx ∧ b ≠ pb ∧ N ≤ b := fun b hb => ⟨hrv.lt b hb, hrb b hb⟩
  -- is it taken?
  refine wc_cut (fun ds f w' => ds = [] ∧ ∃ r' : AddrD, Slots f [(1, .pointer (some ⟨ob, 0, none⟩)), (3, .pointer (some ⟨bx, 0, none⟩)), (5, .pointer (some ⟨w.heap.size + 1, 0, none⟩))] ∧ w'.heap[ob]? = some (.cells #[.bool (ok && (addrTk xs).isSome)] 4 (0, 0)) ∧ w'.heap[w.heap.size + 1]? = some (.cells (GA r').toArray 65 (0, 0)) ∧ Keeps (fun k => k = ob ∨ k = w.heap.size + 1) w1 w' ∧ (ok = true → ∀ r, addrTk xs = some r → r' = r)) ?_ ?_
  · cases ok with
    | true =>
      refine wc_drawP (l := _) 6 _ (by kernel_rfl) (by kernel_rfl) rfl (by kernel_rfl) (by kernel_rfl) (by decide) ?_
      apply chP_pure
      focus
        intro x w' hk hF
        refine wr_load (v := .bool true) rfl rfl rfl (hk.heap (a := w1.drew) hob1 (fun h => h)) rfl ?_
        apply wr_nil
        exact ⟨rfl, Keeps.refl _ _⟩
      focus (intro x y h; rfl)
      focus kernel_rfl
      apply chP_pure
      focus
        intro x w' hk hF
        apply wr_move; exact rfl; with_reducible (conv => enter [6, 3]; whnf)
        apply wr_nil
        exact ⟨rfl, Keeps.refl _ _⟩
      focus (intro x y h; rfl)
      focus kernel_rfl
      apply chP_pure
      focus
        intro x w' hk hF
        refine wr_fieldAddr rfl rfl ?_
        apply wr_nil
        exact ⟨rfl, Keeps.refl _ _⟩
      focus (intro x y h; rfl)
      focus kernel_rfl
      apply chP_pure
      focus
        intro x w' hk hF
        refine wr_load (v := S xs) rfl rfl rfl (hk.heap (a := w1.drew) hf1 (fun h => h)) rfl ?_
        apply wr_nil
        exact ⟨rfl, Keeps.refl _ _⟩
      focus (intro x y h; rfl)
      focus kernel_rfl
      apply chP_pure
      focus
        intro x w' hk hF
        refine wr_load (v := .func (.func 54) #[] #[]) rfl rfl rfl (hk.heap (a := w1.drew) hbf1 (fun h => h)) rfl ?_
        apply wr_nil
        exact ⟨rfl, Keeps.refl _ _⟩
      focus (intro x y h; rfl)
      focus kernel_rfl
      refine chP_fact (fun y => .slice (some ⟨blkOf y, 0, none⟩) 3 3) (fun y w' => ∃ b0 b1 b2, FS w' (blkOf y) ([textT [] b0, numT [] b1, numT [] b2].flatMap G3) ∧ BS w' b0 (w.heap.size + 1) 0 ∧ BN w' b1 (w.heap.size + 1) 1 ∧ BN w' b2 (w.heap.size + 1) 2 ∧ w.heap.size + 2 ≤ b0 ∧ w.heap.size + 2 ≤ b1 ∧ w.heap.size + 2 ≤ b2 ∧ w.heap.size + 2 ≤ blkOf y) (fun y w w' h k => by obtain ⟨b0, b1, b2, h1, h2, h3, h4, h5⟩ := h; exact ⟨b0, b1, b2, k.heap h1 (fun h => h), k.heap h2 (fun h => h), k.heap h3 (fun h => h), k.heap h4 (fun h => h), h5⟩) ?_ ?_
      focus
        intro x w' hk hF
        refine wr_callv rfl (callV_of (args := [.pointer (some ⟨w.heap.size + 1, 0, none⟩)]) (by kernel_rfl) (addr_ca (w.heap.size + 1) w')) rfl rfl ?_
        rintro v w'' ⟨g, b0, b1, b2, rfl, hFS, hb0, hb1, hb2, hgg, hk4⟩
        have hwk : w1.heap.size ≤ w'.heap.size := hk.size
        apply wr_nil
        exact ⟨.pointer (some ⟨g, 0, none⟩), rfl, ⟨b0, b1, b2, hFS, hb0.1, hb1.1, hb2.1, by have := hb0.2; omega, by have := hb1.2; omega, by have := hb2.2; omega, by show _ ≤ g; omega⟩, hk4⟩
      refine chP_nil ?_
      intro x w2 hk2' hF
      obtain ⟨b0, b1, b2, q1, q2, q3, q4, q5, q6, q7, q8⟩ := hF 5 (by decide)
      change FS _ (blkOf (x 5)) _ at q1
      change _ ≤ blkOf (x 5) at q8
      have hk2 : Keeps NoB w1 w2 := (Keeps.refl NoB w1).drew.trans hk2'
      have hst : AddrSt (w.heap.size + 1) b0 b1 b2 (blkOf (x 5)) N ([], 0, 0) w2 := ⟨hk2.heap hx1 (fun h => h), q2, q3, q4, q1, (hG.kin hk1).kin hk2⟩
      refine wr_call (vs := [S xs, .slice (some ⟨blkOf (x 5), 0, none⟩) 3 3]) rfl (ptake_ca (addrMach (g := blkOf (x 5)) (by omega) (by omega) (by omega) (by omega) (by omega)) xs hxs (([], 0, 0)) True.intro hst) rfl ?_
      rintro v w3 ⟨st', hst', hk3, _, hv⟩
      have hob3 := hk3.heap (hk2.heap hob1 (fun h => h)) (by omega)
      have hob3l := lt_of_heap hob3
      have hkk : Keeps (fun k => k = ob ∨ k = w.heap.size + 1) w1 w3 := hk2.upD.trans (hk3.mono fun k _ h => .inr h)
      have hx3 := hst'.x
      have hv' : ∃ b, v = .bool b ∧ b = (addrTk xs).isSome ∧ (∀ r, addrTk xs = some r → st' = r) := by
        rcases hv with ⟨rfl, hv⟩ | ⟨rfl, hv⟩
        · have hv' : addrTk xs = some st' := hv
          exact ⟨true, rfl, by rw [hv']; rfl, fun r hr => by rw [hv'] at hr; exact Option.some.inj hr⟩
        · have hv' : addrTk xs = none := hv
          exact ⟨false, rfl, by rw [hv']; rfl, fun r hr => by rw [hv'] at hr; cases hr⟩
      obtain ⟨bb, rfl, hbb, hrr⟩ := hv'
      rw [← hbb]
      (repeat first | apply wr_end | (apply wr_pick (t := true); (iterate 2 exact rfl); with_reducible (conv => enter [6, 3]; whnf)) | (apply wr_store; (iterate 3 exact rfl); (first | exact rfl | with_reducible assumption); (focus repeat first | with_reducible assumption | exact heap_alloc_same _ _ | exact World.putObj_heap_same (by first | omega | (simp only [World.size_alloc, World.putObj_size, ne_eq]; omega)) | ((first | refine hAl ?_ ?_ | refine hPu ?_ ?_); focus first | omega | (simp only [World.size_alloc, World.putObj_size, ne_eq]; omega))); exact rfl))
      exact ⟨by trivial, st', ⟨rfl, rfl, rfl, trivial⟩, World.putObj_heap_same hob3l, (heap_put_ne _ _ (by omega)).trans hx3, hkk.put _ (fun _ => .inl rfl), fun _ => hrr⟩
    | false =>
      refine wc_drawP (l := _) 8 _ (by kernel_rfl) (by kernel_rfl) rfl (by kernel_rfl) (by kernel_rfl) (by decide) ?_
      apply chP_pure
      focus
        intro x w' hk hF
        refine wr_load (v := .bool false) rfl rfl rfl (hk.heap (a := w1.drew) hob1 (fun h => h)) rfl ?_
        apply wr_nil
        exact ⟨rfl, Keeps.refl _ _⟩
      focus (intro x y h; rfl)
      focus kernel_rfl
      repeat
        apply chP_pure
        focus
          intro x w' hk hF
          (repeat first | (apply wr_move; exact rfl; with_reducible (conv => enter [6, 3]; whnf)) | (apply wr_pick (t := false); (iterate 2 exact rfl); with_reducible (conv => enter [6, 3]; whnf)) | (apply wr_nil; try simp only [thenE, inBlockE, bodyQ]) | (apply wr_skip; exact rfl))
          exact ⟨rfl, Keeps.refl _ _⟩
        focus (intro x y h; rfl)
        focus kernel_rfl
      refine chP_nil ?_
      intro x w2 hk2' hF
      have hk2 : Keeps NoB w1 w2 := (Keeps.refl NoB w1).drew.trans hk2'
      have hob2 := hk2.heap hob1 (fun h => h)
      have hx2 := hk2.heap hx1 (fun h => h)
      have hob2l := lt_of_heap hob2
      (repeat first | apply wr_end | (apply wr_store; (iterate 3 exact rfl); (first | exact rfl | with_reducible assumption); (focus repeat first | with_reducible assumption | exact heap_alloc_same _ _ | exact World.putObj_heap_same (by first | omega | (simp only [World.size_alloc, World.putObj_size, ne_eq]; omega)) | ((first | refine hAl ?_ ?_ | refine hPu ?_ ?_); focus first | omega | (simp only [World.size_alloc, World.putObj_size, ne_eq]; omega))); exact rfl))
      exact ⟨by trivial, ([], 0, 0), ⟨rfl, rfl, rfl, trivial⟩, World.putObj_heap_same hob2l, (heap_put_ne _ _ (by omega)).trans hx2, hk2.upD.put _ (fun _ => .inl rfl), fun h => by cases h⟩
  rintro ds f w2 ⟨rfl, r', hslots, hob2, hx2, hk2, hr2⟩
  refine wc_keep _ hslots ?_
  intro f0
  clear hslots f
  have hbx2 := hk2.heap (hk1.heap hbx (fun h => h)) (by omega)
  have hpb2 := hk2.heap (hk1.heap hpb (fun h => h)) (by omega)
  have hrv2 : w2.ownsRow base 65 3 rv rs.length (rs.flatMap GA) := own_keep (own_keep hrv hk1 (fun _ _ h => h)) hk2 (fun b hb h => by have := hbl b hb; omega)
  have hs2 := hk2.size
  have hosz : o < cur.size := (Array.getElem?_eq_some_iff.1 ho).1
  have hflat : (rs ++ [r']).flatMap GA = rs.flatMap GA ++ GA r' := by simp
  have hrd : ∀ {i w'}, Keeps (monD (fun k => rv.ownBlock = some k) (some 6) i) w2.drew w' → Keeps (fun k => rv.ownBlock = some k) w2.drew w' := by
    intro i w' h
    unfold monD at h
    simp only at h
    cases hb : Nat.beq i 6 with
    | true => rw [hb] at h; exact Keeps.upD h
    | false => rw [hb] at h; exact h
  refine wc_drawQ (fun k => rv.ownBlock = some k) (some 6) (l := _) 8 _ (by kernel_rfl) (by kernel_rfl) rfl (by kernel_rfl) (by kernel_rfl) (by decide) ?_
  apply chP_pure
  focus
    intro x w' hk hF
    refine wr_load (v := .pointer (some ⟨pb, o, none⟩)) rfl rfl rfl ((hrd hk).heap (a := w2.drew) hbx2 (fun h => by have := hbl _ h; omega)) rfl ?_
    apply wr_nil
    exact ⟨rfl, Keeps.refl _ _⟩
  focus (intro x y h; rfl)
  focus kernel_rfl
  apply chP_pure
  focus
    intro x w' hk hF
    refine wr_load (v := .pointer (some ⟨pb, o, none⟩)) rfl rfl rfl ((hrd hk).heap (a := w2.drew) hbx2 (fun h => by have := hbl _ h; omega)) rfl ?_
    apply wr_nil
    exact ⟨rfl, Keeps.refl _ _⟩
  focus (intro x y h; rfl)
  focus kernel_rfl
  apply chP_pure
  focus
    intro x w' hk hF
    refine wr_nilCheck rfl rfl ?_
    apply wr_nil
    exact ⟨rfl, Keeps.refl _ _⟩
  focus (intro x y h; rfl)
  focus kernel_rfl
  apply chP_pure
  focus
    intro x w' hk hF
    refine wr_load (v := rv) rfl rfl rfl ((hrd hk).heap (a := w2.drew) hpb2 (fun h => by have := hbl _ h; omega)) ho ?_
    apply wr_nil
    exact ⟨rfl, Keeps.refl _ _⟩
  focus (intro x y h; rfl)
  focus kernel_rfl
  apply chP_pure
  focus
    intro x w' hk hF
    refine wr_loadAll (cs := GA r') rfl rfl rfl ((hrd hk).heap (a := w2.drew) hx2 (fun h => by have := hbl _ h; omega)) rfl ?_
    apply wr_nil
    exact ⟨rfl, Keeps.refl _ _⟩
  focus (intro x y h; rfl)
  focus kernel_rfl
  refine chP_fact (fun y => .slice (some ⟨blkOf y, 0, none⟩) 1 1) (fun y w' => w'.heap[blkOf y]? = some (.cells (GA r').toArray 65 (0, 0)) ∧ w2.heap.size ≤ blkOf y) (fun y w w' h k => ⟨Keeps.heap (D := fun k => rv.ownBlock = some k) k h.1 (fun hd => by have := hbl _ hd; omega), h.2⟩) ?_ ?_
  focus
    intro x w' hk hF
    refine wr_buildSlice (vs := [.agg (GA r').toArray]) rfl rfl (by intro v hv; simp at hv; subst hv; rfl) rfl (by decide) (by decide) (by decide) ?_
    apply wr_nil
    exact ⟨.pointer (some ⟨w'.heap.size, 0, none⟩), rfl, ⟨by have e : ([Value.agg (GA r').toArray].flatMap fun v => v.cells.toList).toArray = (GA r').toArray := by simp [Value.cells]
                                                             rw [e]; exact heap_alloc_same _ _, (hrd hk).size⟩, (Keeps.refl _ _).alloc _⟩
  refine chP_fact (fun y => y) (fun y w' => w'.ownsRow base 65 3 y (rs.length + 1) (rs.flatMap GA ++ GA r') ∧ ∀ b, y.ownBlock = some b → rv.ownBlock = some b ∨ w2.heap.size ≤ b) (fun y w w' h k => ⟨own_keep (D := NoB) h.1 k (fun _ _ h => h), h.2⟩) ?_ ?_
  focus
    intro x w' hk hF
    obtain ⟨q1, q2⟩ : w'.heap[blkOf (x 5)]? = some (.cells (GA r').toArray 65 (0, 0)) ∧ w2.heap.size ≤ blkOf (x 5) := hF 5 (by kernel_rfl)
    have hkn : Keeps NoB w2.drew w' := hk
    have hwk := hkn.size
    refine wr_append2 (v := rv) (n := rs.length) (m := 1) (b := blkOf (x 5)) (news := GA r') rfl rfl (own_keep (w := w2.drew) hrv2 hkn (fun _ _ h => h)) rfl q1 rfl (by intro u hu; simp [GA] at hu; rcases hu with rfl | rfl | rfl <;> rfl) rfl (by decide) (by omega) (by omega) (by have : w2.drew.heap.size = w2.heap.size := rfl; omega) ?_
    intro v' w'' ho' hk' hb'
    apply wr_nil
    exact ⟨v', rfl, ⟨ho', fun b hb => by have : w2.drew.heap.size = w2.heap.size := rfl; rcases hb' b hb with h | h; exact .inl h; exact .inr (by omega)⟩, hk'⟩
  apply chP_pure
  focus
    intro x w' hk hF
    refine wr_nilCheck rfl rfl ?_
    apply wr_nil
    exact ⟨rfl, Keeps.refl _ _⟩
  focus (intro x y h; rfl)
  focus kernel_rfl
  refine chP_nil ?_
  intro x w3 hk3 hF
  obtain ⟨q1, q2⟩ : w3.ownsRow base 65 3 (x 6) (rs.length + 1) (rs.flatMap GA ++ GA r') ∧ ∀ b, (x 6).ownBlock = some b → rv.ownBlock = some b ∨ w2.heap.size ≤ b := hF 6 (by decide)
  have h6 := own_one q1
  have hpb3 := hk3.heap (a := w2.drew) hpb2 (fun h => by have := hbl _ h; omega)
  have hob3 := hk3.heap (a := w2.drew) hob2 (fun h => by have := hbl _ h; omega)
  have hpb3l := lt_of_heap hpb3
  refine wr_store (v := x 6) rfl rfl rfl h6 hpb3 ho ?_
  (repeat first | (apply wr_nil; try simp only [thenE, inBlockE, bodyQ]))
  try simp only [bodyQ]
  refine leave0 rfl ⟨r', x 6, (heap_put_ne _ _ (by omega)).trans hob3, World.putObj_heap_same hpb3l, ?_, ?_, ?_, hr2⟩
  · rw [hflat]
    exact own_keep q1 ((Keeps.refl (fun k => k = pb) w3).put _ (fun _ => rfl)) (fun b hb e => by rcases q2 b hb with h | h; have := hbl _ h; omega; omega)
  · refine (((hk1.upD (D := fun k => k = ob ∨ k = pb ∨ rv.ownBlock = some k)).trans' hk2 (fun i hi h => by rcases h with h | h; exact .inl h; omega)).drew.trans' hk3 (fun i hi h => .inr (.inr h))).put _ (fun _ => .inr (.inl rfl))
  · intro b hb
    rcases q2 b hb with h | h
    · exact .inl h
    · exact .inr (by omega)
def tkList {α : Type} (tk : List UInt8 → Option α) (rs : List α) (fl : List WF) : Option (List α) := if kindsB fl 2 = true ∧ fl.length ≤ 64 ∧ (fl.all fun f => (tk f.s).isSome) = true then some (rs ++ fl.filterMap fun f => tk f.s) else none
theorem all_take {α : Type} (p : α → Bool) {l : List α} {i : Nat} {x : α} (h : l[i]? = some x) : (l.take (i + 1)).all p = ((l.take i).all p && p x) := by
  rw [List.take_add_one, h]; simp
set_option maxRecDepth 100000 in
set_option maxHeartbeats 2000000 in
theorem rulesTk_ca (fl : List WF) (hfl : fl.length ≤ 1000000000) (hfs : ∀ f ∈ fl, f.s.length ≤ 1000000000) {bf bx pb o N : Nat} {cur : Array Value} {e : TypeId} (rs : List RuleD) (rv sl : Value) {base : Nat} {w : World}
    (hbf : w.heap[bf]? = some (.cells #[.func (.func 52) #[] #[]] 109 (0, 0))) (hbx : w.heap[bx]? = some (.cells #[.pointer (some ⟨pb, o, none⟩)] 108 (0, 0))) (hpb : w.heap[pb]? = some (.cells cur e (0, 0))) (ho : cur[o]? = some rv)
    (hrv : w.ownsRow base 51 2 rv rs.length (rs.flatMap GR)) (hbase : base ≤ w.heap.size) (hlen : rs.length ≤ 1000) (hG : GloN N w) (hne : bx ≠ pb ∧ bf ≠ pb ∧ N ≤ pb) (hrb : ∀ b, rv.ownBlock = some b → b ≠ bf ∧ b ≠ bx ∧ b ≠ pb ∧ N ≤ b)
    (hsl : SlR w 4 sl fl.length (FL fl)) (hsb : ∀ b, sl.ownBlock = some b → b < w.heap.size ∧ b ≠ pb ∧ rv.ownBlock ≠ some b) :
    Ca Tryd.prog 74 #[sl, .pointer (some ⟨bf, 0, none⟩), .pointer (some ⟨bx, 0, none⟩)] w fun v w' => ∃ (rs' : List RuleD) (rv' : Value),
      w'.heap[pb]? = some (.cells (cur.setIfInBounds o rv') e (0, 0)) ∧ w'.ownsRow base 51 2 rv' rs'.length (rs'.flatMap GR) ∧
      Keeps (fun k => k = pb ∨ rv.ownBlock = some k) w w' ∧ (∀ b, rv'.ownBlock = some b → rv.ownBlock = some b ∨ w.heap.size ≤ b) ∧ ((v = .bool true ∧ tkList ruleTk rs fl = some rs') ∨ (v = .bool false ∧ tkList ruleTk rs fl = none)) := by
  obtain ⟨n1, n2, g1⟩ := hne
  have hpbl := lt_of_heap hpb
  have hbfl := lt_of_heap hbf
  have hbxl := lt_of_heap hbx
  have hosz : o < cur.size := (Array.getElem?_eq_some_iff.1 ho).1
  have hset : cur.setIfInBounds o rv = cur := by
    apply Array.ext_getElem?
    intro j
    rw [Array.getElem?_setIfInBounds]
    split
    · rename_i h; subst h; first | (rw [ho]; done) | (rw [ho]; simp [hosz])
    · rfl
  obtain ⟨asl, csl, rfl, _, _⟩ := hsl.shape
  refine ca_of_body (args := [.slice asl fl.length csl, .pointer (some ⟨bf, 0, none⟩), .pointer (some ⟨bx, 0, none⟩)]) Tryd.func74 rfl (by kernel_rfl) ?_
  have hdec : ∃ c : Bool, (Op.intCmp .leq (fl.length : Int) 64 : Sem Value) = pure (.bool c) ∧ c = decide (fl.length ≤ 64) := by
    by_cases h : fl.length ≤ 64
    · exact ⟨true, cmp_le_t (by omega), by simp [h]⟩
    · exact ⟨false, cmp_le_f (by omega), by simp [h]⟩
  obtain ⟨c64, hc64, hc64'⟩ := hdec
  apply wc_seq
  apply wc_region
  apply wr_assign
  exact rfl
  apply wr_end
  apply wc_seq
  apply wc_region
  apply wr_move
  exact rfl
  apply wr_len_slice
  exact rfl
  exact rfl
  refine wr_cmp rfl rfl rfl hc64 ?_
  (repeat first | (apply wr_move; exact rfl; with_reducible (conv => enter [6, 3]; whnf)) | apply wr_end | apply wc_seq | apply wc_region | (apply wr_alloc; exact rfl) | (apply wr_store; (iterate 3 exact rfl); (first | exact rfl | with_reducible assumption); (focus repeat first | with_reducible assumption | exact heap_alloc_same _ _ | exact World.putObj_heap_same (by first | omega | (simp only [World.size_alloc, World.putObj_size, ne_eq]; omega)) | ((first | refine hAl ?_ ?_ | refine hPu ?_ ?_); focus first | omega | (simp only [World.size_alloc, World.putObj_size, ne_eq]; omega))); exact rfl))
  obtain ⟨w1, hw1⟩ : ∃ w1, w1 = (w.alloc (.cells (Value.bool false).cells 4)).putObj w.heap.size (.cells #[.bool c64] 4 (0, 0)) := ⟨_, rfl⟩
  have hk1 : Keeps NoB w w1 := by rw [hw1]; exact ((Keeps.refl NoB w).alloc _).put _ (fun h => by omega)
  have hob1 : w1.heap[w.heap.size]? = some (.cells #[.bool c64] 4 (0, 0)) := by rw [hw1]; exact World.putObj_heap_same (by simp)
  change Wr _ _ _ _ _ _ ((w.alloc (.cells (Value.bool false).cells 4)).putObj w.heap.size (.cells #[.bool c64] 4 (0, 0)))
  rw [← hw1]
  clear hw1
  refine wr_makeFunc rfl rfl rfl ?_
  have hbl : ∀ b, rv.ownBlock = some b → b < w.heap.size ∧ b ≠ bf ∧ b ≠ bx ∧ b ≠ pb ∧ N ≤ b := fun b hb => ⟨(hrv.lt b hb).2, hrb b hb⟩
  have hob1l := lt_of_heap hob1
  refine wr_call (vs := [.slice asl fl.length csl, .int .i64 2, .func (.func 75) #[] #[.pointer (some ⟨w.heap.size, 0, none⟩), .pointer (some ⟨bf, 0, none⟩), .pointer (some ⟨bx, 0, none⟩)]]) rfl (plain_ca fl 2 _ _
    (fun i w' => ∃ (rs' : List RuleD) (rv' : Value) (okb : Bool), w'.heap[w.heap.size]? = some (.cells #[.bool okb] 4 (0, 0)) ∧ w'.heap[pb]? = some (.cells (cur.setIfInBounds o rv') e (0, 0)) ∧ w'.ownsRow base 51 2 rv' rs'.length (rs'.flatMap GR) ∧ rs'.length = rs.length + min i fl.length ∧
      Keeps (fun k => k = w.heap.size ∨ k = pb ∨ rv.ownBlock = some k) w1 w' ∧ (∀ b, rv'.ownBlock = some b → rv.ownBlock = some b ∨ w1.heap.size ≤ b) ∧ okb = (c64 && (fl.take i).all fun f => (ruleTk f.s).isSome) ∧ (okb = true → rs' = rs ++ (fl.take i).filterMap fun f => ruleTk f.s))
    w1 (by omega) ⟨rs, rv, c64, hob1, by rw [hset]; exact hk1.heap hpb (fun h => h), own_keep hrv hk1 (fun _ _ h => h), by simp, Keeps.refl _ _, fun b hb => .inl hb, by simp, fun _ => by simp⟩ ?_ ?_ ?_) rfl ?_
  · rintro i w' w'' ⟨rs', rv', okb, h1, h2, h3, h4, h5, h6, h7, h8⟩ k
    exact ⟨rs', rv', okb, k.heap h1 (fun h => h), k.heap h2 (fun h => h), own_keep h3 k (fun _ _ h => h), h4, h5.trans' k (fun i hi h => h.elim), h6, h7, h8⟩
  · rintro i w' ⟨rs', rv', okb, h1, h2, h3, h4, h5, h6, h7, h8⟩
    refine (hsl.keep hk1 (fun _ _ h => h)).keep h5 (fun b hb h => ?_)
    have hq := hsb b hb
    rcases h with h | h | h
    · omega
    · exact hq.2.1 h
    · exact hq.2.2 h
  · rintro i x w' hx ⟨rs', rv', okb, h1, h2, h3, h4, h5, h6, h7, h8⟩
    have hil := (List.getElem?_eq_some_iff.1 hx).1
    have h5s := h5.size
    refine callV_of (args := [x.v]) (by kernel_rfl) (Ca.mono (ruleEl_ca x (hfs x (List.mem_of_getElem? hx)) okb rs' rv' h1 (h5.heap (hk1.heap hbf (fun h => h)) (by rintro (h | h | h); omega; omega; have := hbl _ h; omega)) (h5.heap (hk1.heap hbx (fun h => h)) (by rintro (h | h | h); omega; omega; have := hbl _ h; omega)) h2 (by simp [hosz]) h3 (by omega) (by omega)
      ((hG.kin hk1).keep h5 (fun j hj h => by rcases h with h | h | h; omega; omega; have := hbl _ h; omega)) (by omega) (fun b hb => by rcases h6 b hb with h | h; have := hbl _ h; omega; omega)) ?_)
    rintro v w'' ⟨r', rv'', q1, q2, q3, q4, q5, q6⟩
    refine ⟨rs' ++ [r'], rv'', _, q1, by simpa using q2, by rw [List.length_append]; exact q3, by rw [List.length_append]; simp only [List.length_cons, List.length_nil]; omega, h5.trans' q4 (fun j hj h => ?_), fun b hb => ?_, ?_, fun h => ?_⟩
    · rcases h with h | h | h
      · exact .inl h
      · exact .inr (.inl h)
      · rcases h6 j h with h | h
        · exact .inr (.inr h)
        · omega
    · rcases q5 b hb with h | h
      · exact h6 b h
      · exact .inr (by omega)
    · rw [h7, all_take _ hx, Bool.and_assoc]
    · rw [Bool.and_eq_true] at h
      obtain ⟨r, hr⟩ := Option.isSome_iff_exists.1 h.2
      rw [h8 h.1, q6 h.1 r hr, List.take_add_one, hx]
      simp [hr]
  · rintro v w2 (⟨rfl, hk, rs', rv', okb, h1, h2, h3, h4, h5, h6, h7, h8⟩ | ⟨rfl, hk, i, rs', rv', okb, h1, h2, h3, h4, h5, h6, h7, h8⟩)
    all_goals
      have hkf : Keeps (fun k => k = pb ∨ rv.ownBlock = some k) w w2 := hk1.upD.trans' h5 (fun i hi h => by rcases h with h | h | h; omega; exact .inl h; exact .inr h)
      have h6' : ∀ b, rv'.ownBlock = some b → rv.ownBlock = some b ∨ w.heap.size ≤ b := fun b hb => by rcases h6 b hb with h | h; exact .inl h; exact .inr (by omega)
      (repeat first | (apply wr_move; exact rfl; with_reducible (conv => enter [6, 3]; whnf)) | (apply wr_assign; exact rfl; with_reducible (conv => enter [6, 3]; whnf)) | apply wr_end | (apply wr_load; (iterate 3 exact rfl); (focus repeat first | with_reducible assumption | exact heap_alloc_same _ _ | exact World.putObj_heap_same (by first | omega | (simp only [World.size_alloc, World.putObj_size, ne_eq]; omega)) | ((first | refine hAl ?_ ?_ | refine hPu ?_ ?_); focus first | omega | (simp only [World.size_alloc, World.putObj_size, ne_eq]; omega))); exact rfl; conv => enter [6, 3]; whnf) | (apply wr_pick (t := true); (iterate 2 exact rfl); with_reducible (conv => enter [6, 3]; whnf)) | (apply wr_pick (t := false); (iterate 2 exact rfl); with_reducible (conv => enter [6, 3]; whnf)) | (apply wc_ret; try simp only [thenE, inBlockE, bodyQ]) | (apply wr_skip; exact rfl))
    · refine leave1 (v := .bool okb) rfl rfl ⟨rs', rv', h2, h3, hkf, h6', ?_⟩
      rw [List.take_length] at h7 h8
      cases hok : okb with
      | true =>
        rw [hok] at h7
        have h9 := (Bool.and_eq_true _ _).mp h7.symm
        rw [hc64'] at h9
        exact .inl ⟨rfl, by unfold tkList; rw [if_pos ⟨hk, of_decide_eq_true h9.1, h9.2⟩, h8 hok]⟩
      | false =>
        rw [hok] at h7
        refine .inr ⟨rfl, if_neg fun h => ?_⟩
        rw [hc64', decide_eq_true h.2.1, h.2.2] at h7
        cases h7
    · exact leave1 (v := .bool false) rfl rfl ⟨rs', rv', h2, h3, hkf, h6', .inr ⟨rfl, if_neg fun h => by rw [hk] at h; exact absurd h.1 (by decide)⟩⟩
set_option maxRecDepth 100000 in
set_option maxHeartbeats 2000000 in
theorem addrsTk_ca (fl : List WF) (hfl : fl.length ≤ 1000000000) (hfs : ∀ f ∈ fl, f.s.length ≤ 1000000000) {bf bx pb o N : Nat} {cur : Array Value} {e : TypeId} (rs : List AddrD) (rv sl : Value) {base : Nat} {w : World}
    (hbf : w.heap[bf]? = some (.cells #[.func (.func 54) #[] #[]] 112 (0, 0))) (hbx : w.heap[bx]? = some (.cells #[.pointer (some ⟨pb, o, none⟩)] 111 (0, 0))) (hpb : w.heap[pb]? = some (.cells cur e (0, 0))) (ho : cur[o]? = some rv)
    (hrv : w.ownsRow base 65 3 rv rs.length (rs.flatMap GA)) (hbase : base ≤ w.heap.size) (hlen : rs.length ≤ 1000) (hG : GloN N w) (hne : bx ≠ pb ∧ bf ≠ pb ∧ N ≤ pb) (hrb : ∀ b, rv.ownBlock = some b → b ≠ bf ∧ b ≠ bx ∧ b ≠ pb ∧ N ≤ b)
    (hsl : SlR w 4 sl fl.length (FL fl)) (hsb : ∀ b, sl.ownBlock = some b → b < w.heap.size ∧ b ≠ pb ∧ rv.ownBlock ≠ some b) :
    Ca Tryd.prog 77 #[sl, .pointer (some ⟨bf, 0, none⟩), .pointer (some ⟨bx, 0, none⟩)] w fun v w' => ∃ (rs' : List AddrD) (rv' : Value),
      w'.heap[pb]? = some (.cells (cur.setIfInBounds o rv') e (0, 0)) ∧ w'.ownsRow base 65 3 rv' rs'.length (rs'.flatMap GA) ∧
      Keeps (fun k => k = pb ∨ rv.ownBlock = some k) w w' ∧ (∀ b, rv'.ownBlock = some b → rv.ownBlock = some b ∨ w.heap.size ≤ b) ∧ ((v = .bool true ∧ tkList addrTk rs fl = some rs') ∨ (v = .bool false ∧ tkList addrTk rs fl = none)) := by
  obtain ⟨n1, n2, g1⟩ := hne
  have hpbl := lt_of_heap hpb
  have hbfl := lt_of_heap hbf
  have hbxl := lt_of_heap hbx
  have hosz : o < cur.size := (Array.getElem?_eq_some_iff.1 ho).1
  have hset : cur.setIfInBounds o rv = cur := by
    apply Array.ext_getElem?
    intro j
    rw [Array.getElem?_setIfInBounds]
    split
    · rename_i h; subst h; first | (rw [ho]; done) | (rw [ho]; simp [hosz])
    · rfl
  obtain ⟨asl, csl, rfl, _, _⟩ := hsl.shape
  refine ca_of_body (args := [.slice asl fl.length csl, .pointer (some ⟨bf, 0, none⟩), .pointer (some ⟨bx, 0, none⟩)]) Tryd.func77 rfl (by kernel_rfl) ?_
  have hdec : ∃ c : Bool, (Op.intCmp .leq (fl.length : Int) 64 : Sem Value) = pure (.bool c) ∧ c = decide (fl.length ≤ 64) := by
    by_cases h : fl.length ≤ 64
    · exact ⟨true, cmp_le_t (by omega), by simp [h]⟩
    · exact ⟨false, cmp_le_f (by omega), by simp [h]⟩
  obtain ⟨c64, hc64, hc64'⟩ := hdec
  apply wc_seq
  apply wc_region
  apply wr_assign
  exact rfl
  apply wr_end
  apply wc_seq
  apply wc_region
  apply wr_move
  exact rfl
  apply wr_len_slice
  exact rfl
  exact rfl
  refine wr_cmp rfl rfl rfl hc64 ?_
  (repeat first | (apply wr_move; exact rfl; with_reducible (conv => enter [6, 3]; whnf)) | apply wr_end | apply wc_seq | apply wc_region | (apply wr_alloc; exact rfl) | (apply wr_store; (iterate 3 exact rfl); (first | exact rfl | with_reducible assumption); (focus repeat first | with_reducible assumption | exact heap_alloc_same _ _ | exact World.putObj_heap_same (by first | omega | (simp only [World.size_alloc, World.putObj_size, ne_eq]; omega)) | ((first | refine hAl ?_ ?_ | refine hPu ?_ ?_); focus first | omega | (simp only [World.size_alloc, World.putObj_size, ne_eq]; omega))); exact rfl))
  obtain ⟨w1, hw1⟩ : ∃ w1, w1 = (w.alloc (.cells (Value.bool false).cells 4)).putObj w.heap.size (.cells #[.bool c64] 4 (0, 0)) := ⟨_, rfl⟩
  have hk1 : Keeps NoB w w1 := by rw [hw1]; exact ((Keeps.refl NoB w).alloc _).put _ (fun h => by omega)
  have hob1 : w1.heap[w.heap.size]? = some (.cells #[.bool c64] 4 (0, 0)) := by rw [hw1]; exact World.putObj_heap_same (by simp)
  change Wr _ _ _ _ _ _ ((w.alloc (.cells (Value.bool false).cells 4)).putObj w.heap.size (.cells #[.bool c64] 4 (0, 0)))
  rw [← hw1]
  clear hw1
  refine wr_makeFunc rfl rfl rfl ?_
  have hbl : ∀ b, rv.ownBlock = some b → b < w.heap.size ∧ b ≠ bf ∧ b ≠ bx ∧ b ≠ pb ∧ N ≤ b := fun b hb => ⟨(hrv.lt b hb).2, hrb b hb⟩
  have hob1l := lt_of_heap hob1
  refine wr_call (vs := [.slice asl fl.length csl, .int .i64 2, .func (.func 78) #[] #[.pointer (some ⟨w.heap.size, 0, none⟩), .pointer (some ⟨bf, 0, none⟩), .pointer (some ⟨bx, 0, none⟩)]]) rfl (plain_ca fl 2 _ _
    (fun i w' => ∃ (rs' : List AddrD) (rv' : Value) (okb : Bool), w'.heap[w.heap.size]? = some (.cells #[.bool okb] 4 (0, 0)) ∧ w'.heap[pb]? = some (.cells (cur.setIfInBounds o rv') e (0, 0)) ∧ w'.ownsRow base 65 3 rv' rs'.length (rs'.flatMap GA) ∧ rs'.length = rs.length + min i fl.length ∧
      Keeps (fun k => k = w.heap.size ∨ k = pb ∨ rv.ownBlock = some k) w1 w' ∧ (∀ b, rv'.ownBlock = some b → rv.ownBlock = some b ∨ w1.heap.size ≤ b) ∧ okb = (c64 && (fl.take i).all fun f => (addrTk f.s).isSome) ∧ (okb = true → rs' = rs ++ (fl.take i).filterMap fun f => addrTk f.s))
    w1 (by omega) ⟨rs, rv, c64, hob1, by rw [hset]; exact hk1.heap hpb (fun h => h), own_keep hrv hk1 (fun _ _ h => h), by simp, Keeps.refl _ _, fun b hb => .inl hb, by simp, fun _ => by simp⟩ ?_ ?_ ?_) rfl ?_
  · rintro i w' w'' ⟨rs', rv', okb, h1, h2, h3, h4, h5, h6, h7, h8⟩ k
    exact ⟨rs', rv', okb, k.heap h1 (fun h => h), k.heap h2 (fun h => h), own_keep h3 k (fun _ _ h => h), h4, h5.trans' k (fun i hi h => h.elim), h6, h7, h8⟩
  · rintro i w' ⟨rs', rv', okb, h1, h2, h3, h4, h5, h6, h7, h8⟩
    refine (hsl.keep hk1 (fun _ _ h => h)).keep h5 (fun b hb h => ?_)
    have hq := hsb b hb
    rcases h with h | h | h
    · omega
    · exact hq.2.1 h
    · exact hq.2.2 h
  · rintro i x w' hx ⟨rs', rv', okb, h1, h2, h3, h4, h5, h6, h7, h8⟩
    have hil := (List.getElem?_eq_some_iff.1 hx).1
    have h5s := h5.size
    refine callV_of (args := [x.v]) (by kernel_rfl) (Ca.mono (addrEl_ca x (hfs x (List.mem_of_getElem? hx)) okb rs' rv' h1 (h5.heap (hk1.heap hbf (fun h => h)) (by rintro (h | h | h); omega; omega; have := hbl _ h; omega)) (h5.heap (hk1.heap hbx (fun h => h)) (by rintro (h | h | h); omega; omega; have := hbl _ h; omega)) h2 (by simp [hosz]) h3 (by omega) (by omega)
      ((hG.kin hk1).keep h5 (fun j hj h => by rcases h with h | h | h; omega; omega; have := hbl _ h; omega)) (by omega) (fun b hb => by rcases h6 b hb with h | h; have := hbl _ h; omega; omega)) ?_)
    rintro v w'' ⟨r', rv'', q1, q2, q3, q4, q5, q6⟩
    refine ⟨rs' ++ [r'], rv'', _, q1, by simpa using q2, by rw [List.length_append]; exact q3, by rw [List.length_append]; simp only [List.length_cons, List.length_nil]; omega, h5.trans' q4 (fun j hj h => ?_), fun b hb => ?_, ?_, fun h => ?_⟩
    · rcases h with h | h | h
      · exact .inl h
      · exact .inr (.inl h)
      · rcases h6 j h with h | h
        · exact .inr (.inr h)
        · omega
    · rcases q5 b hb with h | h
      · exact h6 b h
      · exact .inr (by omega)
    · rw [h7, all_take _ hx, Bool.and_assoc]
    · rw [Bool.and_eq_true] at h
      obtain ⟨r, hr⟩ := Option.isSome_iff_exists.1 h.2
      rw [h8 h.1, q6 h.1 r hr, List.take_add_one, hx]
      simp [hr]
  · rintro v w2 (⟨rfl, hk, rs', rv', okb, h1, h2, h3, h4, h5, h6, h7, h8⟩ | ⟨rfl, hk, i, rs', rv', okb, h1, h2, h3, h4, h5, h6, h7, h8⟩)
    all_goals
      have hkf : Keeps (fun k => k = pb ∨ rv.ownBlock = some k) w w2 := hk1.upD.trans' h5 (fun i hi h => by rcases h with h | h | h; omega; exact .inl h; exact .inr h)
      have h6' : ∀ b, rv'.ownBlock = some b → rv.ownBlock = some b ∨ w.heap.size ≤ b := fun b hb => by rcases h6 b hb with h | h; exact .inl h; exact .inr (by omega)
      (repeat first | (apply wr_move; exact rfl; with_reducible (conv => enter [6, 3]; whnf)) | (apply wr_assign; exact rfl; with_reducible (conv => enter [6, 3]; whnf)) | apply wr_end | (apply wr_load; (iterate 3 exact rfl); (focus repeat first | with_reducible assumption | exact heap_alloc_same _ _ | exact World.putObj_heap_same (by first | omega | (simp only [World.size_alloc, World.putObj_size, ne_eq]; omega)) | ((first | refine hAl ?_ ?_ | refine hPu ?_ ?_); focus first | omega | (simp only [World.size_alloc, World.putObj_size, ne_eq]; omega))); exact rfl; conv => enter [6, 3]; whnf) | (apply wr_pick (t := true); (iterate 2 exact rfl); with_reducible (conv => enter [6, 3]; whnf)) | (apply wr_pick (t := false); (iterate 2 exact rfl); with_reducible (conv => enter [6, 3]; whnf)) | (apply wc_ret; try simp only [thenE, inBlockE, bodyQ]) | (apply wr_skip; exact rfl))
    · refine leave1 (v := .bool okb) rfl rfl ⟨rs', rv', h2, h3, hkf, h6', ?_⟩
      rw [List.take_length] at h7 h8
      cases hok : okb with
      | true =>
        rw [hok] at h7
        have h9 := (Bool.and_eq_true _ _).mp h7.symm
        rw [hc64'] at h9
        exact .inl ⟨rfl, by unfold tkList; rw [if_pos ⟨hk, of_decide_eq_true h9.1, h9.2⟩, h8 hok]⟩
      | false =>
        rw [hok] at h7
        refine .inr ⟨rfl, if_neg fun h => ?_⟩
        rw [hc64', decide_eq_true h.2.1, h.2.2] at h7
        cases h7
    · exact leave1 (v := .bool false) rfl rfl ⟨rs', rv', h2, h3, hkf, h6', .inr ⟨rfl, if_neg fun h => by rw [hk] at h; exact absurd h.1 (by decide)⟩⟩
end Go.Proofs.YthlbgeonobicbaaDoor

namespace Go.Proofs.YthlbgeonobicbaaDoor
open Go Go.V Go.RowKit
set_option linter.unusedVariables false
set_option linter.unusedSimpArgs false

def PL0 : PL := ⟨[], 0, [], [], 0, [], [], []⟩
def tkPay (has : List UInt8) (k : Nat) (p : PL) (l : List WF) : Option PL :=
  if inF has (lets.getD k []) = false then some p else match k with
  | 0 => if kindsB l 2 = true then some { p with name := lastS p.name l } else none
  | 1 => if kindsB l 0 = true then some { p with port := lastN p.port l } else none
  | 2 => if kindsB l 2 = true then some { p with route := lastS p.route l } else none
  | 3 => (tkList ruleTk p.rules l).map fun x => { p with rules := x }
  | 4 => if kindsB l 0 = true then some { p with policy := lastN p.policy l } else none
  | 5 => if kindsB l 2 = true then some { p with secret := lastS p.secret l } else none
  | 6 => (tkList addrTk p.addrs l).map fun x => { p with addrs := x }
  | 7 => if kindsB l 2 = true then some { p with key := lastS p.key l } else none
  | _ => none
def noTake : Value := .func (.func 34) #[] #[]
def cF (has : List UInt8) (k i : Nat) (x : Fd) : Fd := bif (Nat.blt i k && !inF has (lets.getD i [])) then (x.1, x.2.1, noTake) else x
def curL (has : List UInt8) (B : Nat → Nat) (k : Nat) : List Fd := [cF has k 0 (textT [] (B 0)), cF has k 1 (numT [112] (B 1)), cF has k 2 (textT [111] (B 2)), cF has k 3 (rulesT [114] (B 3) (B 8)), cF has k 4 (numT [108] (B 4)), cF has k 5 (textT [115] (B 5)), cF has k 6 (addrsT [97] (B 6) (B 9)), cF has k 7 (textT [107] (B 7))]
theorem curL_zero (has : List UInt8) (B : Nat → Nat) : curL has B 0 = fldL B := rfl
theorem cF_parts (has : List UInt8) (k i : Nat) (x : Fd) : (cF has k i x).1 = x.1 ∧ (cF has k i x).2.1 = x.2.1 := by
  unfold cF
  cases (Nat.blt i k && !inF has (lets.getD i [])) <;> exact ⟨rfl, rfl⟩
theorem cF_one {has : List UInt8} {k i : Nat} {x : Fd} (h : x.one) : (cF has k i x).one := by
  unfold cF
  cases (Nat.blt i k && !inF has (lets.getD i []))
  · exact h
  · exact ⟨h.1, h.2.1, rfl⟩
theorem curL_get {has : List UInt8} {B : Nat → Nat} {k i : Nat} {x : Fd} (h : (curL has B k)[i]? = some x) : ∃ y, (fldL B)[i]? = some y ∧ x = cF has k i y := by
  match i with
  | 0 | 1 | 2 | 3 | 4 | 5 | 6 | 7 => simp [curL] at h; subst h; exact ⟨_, rfl, rfl⟩
  | i + 8 => simp [curL] at h
theorem curL_one (has : List UInt8) (B : Nat → Nat) (k : Nat) : ∀ x ∈ curL has B k, x.one := by
  intro x hx
  obtain ⟨i, hi⟩ := List.getElem?_of_mem hx
  obtain ⟨y, hy, rfl⟩ := curL_get hi
  exact cF_one (fldL_one B y (List.mem_of_getElem? hy))
theorem curL_same {has : List UInt8} {B : Nat → Nat} {k : Nat} (hk : k < 8) (h : inF has (lets.getD k []) = true) : curL has B (k + 1) = curL has B k := by
  match k with
  | 0 | 1 | 2 | 3 | 4 | 5 | 6 | 7 => simp only [curL, cF, h]; rfl
theorem curL_cut {has : List UInt8} {B : Nat → Nat} {k : Nat} {x : Fd} (hx : (curL has B k)[k]? = some x) (h : inF has (lets.getD k []) = false) : curL has B (k + 1) = (curL has B k).set k (x.1, x.2.1, noTake) := by
  match k with
  | 0 | 1 | 2 | 3 | 4 | 5 | 6 | 7 => simp [curL] at hx; subst hx; simp only [curL, cF, h]; rfl
  | k + 8 => simp [curL] at hx
theorem flat_set3 : ∀ (l : List Fd) (k : Nat) (x : Fd) (f : Value), l[k]? = some x → (l.set k (x.1, x.2.1, f)).flatMap G3 = (l.flatMap G3).set (k * 3 + 2) f
  | [], k, x, f, h => by simp at h
  | y :: l, 0, x, f, h => by simp at h; subst h; simp [G3]
  | y :: l, k + 1, x, f, h => by
    have ih := flat_set3 l k x f (by simpa using h)
    have e : (k + 1) * 3 + 2 = (k * 3 + 2) + 3 := by omega
    simp only [List.set_cons_succ, List.flatMap_cons, ih, e]
    rfl
theorem FB.keepB {w w' : World} {b base : Nat} {B : Nat → Nat} {D : Nat → Prop} (h : FB w b base B) (k : Keeps D w w') (hd : ∀ i, i < 10 → ¬ D (B i)) : FB w' b base B :=
  ⟨⟨k.heap h.h0.1 (hd _ (by decide)), h.h0.2⟩, ⟨k.heap h.h1.1 (hd _ (by decide)), h.h1.2⟩, ⟨k.heap h.h2.1 (hd _ (by decide)), h.h2.2⟩, ⟨k.heap h.h3.1 (hd _ (by decide)), k.heap h.h3.2.1 (hd _ (by decide)), h.h3.2.2⟩, ⟨k.heap h.h4.1 (hd _ (by decide)), h.h4.2⟩, ⟨k.heap h.h5.1 (hd _ (by decide)), h.h5.2⟩, ⟨k.heap h.h6.1 (hd _ (by decide)), k.heap h.h6.2.1 (hd _ (by decide)), h.h6.2.2⟩, ⟨k.heap h.h7.1 (hd _ (by decide)), h.h7.2⟩⟩
theorem FB.lt {w : World} {b base : Nat} {B : Nat → Nat} (h : FB w b base B) : ∀ i, i < 10 → B i < w.heap.size ∧ base ≤ B i := by
  intro i hi
  match i with
  | 0 => exact ⟨lt_of_heap h.h0.1, h.h0.2⟩
  | 1 => exact ⟨lt_of_heap h.h1.1, h.h1.2⟩
  | 2 => exact ⟨lt_of_heap h.h2.1, h.h2.2⟩
  | 3 => exact ⟨lt_of_heap h.h3.1, h.h3.2.2.1⟩
  | 4 => exact ⟨lt_of_heap h.h4.1, h.h4.2⟩
  | 5 => exact ⟨lt_of_heap h.h5.1, h.h5.2⟩
  | 6 => exact ⟨lt_of_heap h.h6.1, h.h6.2.2.1⟩
  | 7 => exact ⟨lt_of_heap h.h7.1, h.h7.2⟩
  | 8 => exact ⟨lt_of_heap h.h3.2.1, h.h3.2.2.2⟩
  | 9 => exact ⟨lt_of_heap h.h6.2.1, h.h6.2.2.2⟩
  | i + 10 => omega
abbrev PS := PL × Value × Value
structure PaySt (pb g base fbase N : Nat) (B : Nat → Nat) (has : List UInt8) (s : PS) (w : World) : Prop where
  x : w.heap[pb]? = some (.cells (PlC s.1 s.2.1 s.2.2).toArray 26 (0, 0))
  fb : FB w pb fbase B
  f : FS w g ((curL has B 8).flatMap G3)
  r : w.ownsRow base 51 2 s.2.1 s.1.rules.length (s.1.rules.flatMap GR)
  a : w.ownsRow base 65 3 s.2.2 s.1.addrs.length (s.1.addrs.flatMap GA)
  glo : GloN N w
  hb : base ≤ w.heap.size
def payOwn (pb : Nat) (s : PS) (k : Nat) : Prop := k = pb ∨ s.2.1.ownBlock = some k ∨ s.2.2.ownBlock = some k
theorem rows_apart {w : World} {base n m : Nat} {rv av : Value} {xs ys : List Value} (hr : w.ownsRow base 51 2 rv n xs) (ha : w.ownsRow base 65 3 av m ys) : ∀ b, rv.ownBlock = some b → av.ownBlock ≠ some b := by
  intro b h1 h2
  rcases hr.2 with ⟨rfl, _⟩ | ⟨g, cap, cur, rfl, _, hg, _⟩
  · simp [Value.ownBlock] at h1
  · rcases ha.2 with ⟨rfl, _⟩ | ⟨g', cap', cur', rfl, _, hg', _⟩
    · simp [Value.ownBlock] at h2
    · simp [Value.ownBlock] at h1 h2
      subst h1 h2
      rw [hg] at hg'
      simp at hg'
theorem noTake_ca (sl : Value) (w : World) : Ca Tryd.prog 34 #[sl] w fun v w' => v = .bool true ∧ w' = w := by
  refine ca_of_body (args := [sl]) Tryd.func34 rfl (by kernel_rfl) ?_
  (repeat first | (apply wr_assign; exact rfl; with_reducible (conv => enter [6, 3]; whnf)) | apply wr_end | apply wc_seq | apply wc_region | (apply wc_ret; try simp only [thenE, inBlockE, bodyQ]))
  exact leave1 (v := .bool true) rfl rfl ⟨rfl, rfl⟩
theorem payMach {pb g base fbase N : Nat} {B : Nat → Nat} {has : List UInt8} (hBl : ∀ i, i < 10 → B i < base ∧ fbase ≤ B i) (hg : g < base) (hgp : g ≠ pb) (hpf : pb < fbase) (hfb : fbase ≤ base) (hN : N ≤ pb) :
    Mach (PaySt pb g base fbase N B has) (payOwn pb) (.slice (some ⟨g, 0, none⟩) 8 8) (curL has B 8) (fun s => s.1) (fun k s => (k ≤ 3 → s.1.rules = []) ∧ (k ≤ 6 → s.1.addrs = [])) (tkPay has) where
  keep := fun s w w' h k => ⟨k.heap h.x (fun h => h), h.fb.keep k (fun _ _ h => h), k.heap h.f (fun h => h), own_keep h.r k (fun _ _ h => h), own_keep h.a k (fun _ _ h => h), h.glo.kin k, Nat.le_trans h.hb k.size⟩
  lt := fun s w k h e => by
    rcases e with e | e | e
    · subst e; exact lt_of_heap h.x
    · exact (h.r.lt k e).2
    · exact (h.a.lt k e).2
  sl := fun s w h => FS_slR h.f rfl
  glo := fun s w h => by obtain ⟨_, p, q, h, _⟩ := h.glo; exact ⟨p, q, h⟩
  one := curL_one has B 8
  len := by simp [curL]
  step := by
    rintro k x hx ⟨p, rv, av⟩ w fl sl hst hinv hfl hfs hsl hsb
    have hBne : ∀ i, i < 10 → B i ≠ pb := fun i hi => by have := hBl i hi; omega
    have hsp : sl.ownBlock ≠ some pb := fun e => (hsb pb e).2 (.inl rfl)
    obtain ⟨y, hy, rfl⟩ := curL_get hx
    have hk8 : k < 8 := by
      have := (List.getElem?_eq_some_iff.1 hx).1
      simpa [curL] using this
    dsimp only at hinv
    cases hin : inF has (lets.getD k []) with
    | false =>
      have hc : (cF has 8 k y).2.2 = noTake := by
        unfold cF
        have : Nat.blt k 8 = true := by simpa using hk8
        rw [this, hin]; rfl
      rw [hc]
      refine callV_of (args := [sl]) (by kernel_rfl) ((noTake_ca sl w).mono ?_)
      rintro v w' ⟨rfl, rfl⟩
      refine ⟨(p, rv, av), hst, Keeps.refl _ _, fun b hb => .inl hb, .inl ⟨rfl, by unfold tkPay; rw [if_pos hin], fun h => hinv.1 (by omega), fun h => hinv.2 (by omega)⟩⟩
    | true =>
      have hc : cF has 8 k y = y := by
        unfold cF
        have : Nat.blt k 8 = true := by simpa using hk8
        rw [this, hin]; rfl
      rw [hc]
      have hrr : ∀ b, rv.ownBlock = some b → base ≤ b ∧ b < w.heap.size := fun b hb => hst.r.lt b hb
      have haa : ∀ b, av.ownBlock = some b → base ≤ b ∧ b < w.heap.size := fun b hb => hst.a.lt b hb
      have hap := rows_apart hst.r hst.a
      match k with
      | 0 =>
        replace hinv : (0 + 1 ≤ 3 → p.rules = []) ∧ (0 + 1 ≤ 6 → p.addrs = []) := ⟨fun h => hinv.1 (by omega), fun h => hinv.2 (by omega)⟩
        simp [fldL] at hy; subst hy
        refine callV_of (args := [sl]) (by kernel_rfl) ((textTk_ca fl (by omega) p.name sl hst.fb.h0.1 hst.x rfl (hBne 0 (by decide)) hsl hsp).mono ?_)
        rintro v w' ⟨y0, h1, h2, h3, h4⟩
        refine ⟨({ p with name := y0 }, rv, av), ⟨h1, hst.fb.keepB h2 (fun i hi => hBne i hi), h2.heap hst.f hgp, own_keep hst.r h2 (fun b hb e => by have := (hst.r.lt b hb).1; omega), own_keep hst.a h2 (fun b hb e => by have := (hst.a.lt b hb).1; omega), hst.glo.keep h2 (fun i hi e => by omega), Nat.le_trans hst.hb h2.size⟩, h2.mono (fun k _ h => .inl h), fun b hb => .inl hb, ?_⟩
        rcases h3 with ⟨rfl, hk, rfl⟩ | ⟨rfl, hk⟩
        · exact .inl ⟨rfl, by simp only [tkPay, hin, hk, if_true, Bool.true_eq_false, if_false], hinv.1, hinv.2⟩
        · exact .inr ⟨rfl, by simp only [tkPay, hin, hk, Bool.true_eq_false, if_false]; rfl⟩
      | 1 =>
        replace hinv : (1 + 1 ≤ 3 → p.rules = []) ∧ (1 + 1 ≤ 6 → p.addrs = []) := ⟨fun h => hinv.1 (by omega), fun h => hinv.2 (by omega)⟩
        simp [fldL] at hy; subst hy
        refine callV_of (args := [sl]) (by kernel_rfl) ((numTk_ca fl (by omega) p.port sl hst.fb.h1.1 hst.x rfl (hBne 1 (by decide)) hsl hsp).mono ?_)
        rintro v w' ⟨y0, h1, h2, h3, h4⟩
        refine ⟨({ p with port := y0 }, rv, av), ⟨h1, hst.fb.keepB h2 (fun i hi => hBne i hi), h2.heap hst.f hgp, own_keep hst.r h2 (fun b hb e => by have := (hst.r.lt b hb).1; omega), own_keep hst.a h2 (fun b hb e => by have := (hst.a.lt b hb).1; omega), hst.glo.keep h2 (fun i hi e => by omega), Nat.le_trans hst.hb h2.size⟩, h2.mono (fun k _ h => .inl h), fun b hb => .inl hb, ?_⟩
        rcases h3 with ⟨rfl, hk, rfl⟩ | ⟨rfl, hk⟩
        · exact .inl ⟨rfl, by simp only [tkPay, hin, hk, if_true, Bool.true_eq_false, if_false], hinv.1, hinv.2⟩
        · exact .inr ⟨rfl, by simp only [tkPay, hin, hk, Bool.true_eq_false, if_false]; rfl⟩
      | 2 =>
        replace hinv : (2 + 1 ≤ 3 → p.rules = []) ∧ (2 + 1 ≤ 6 → p.addrs = []) := ⟨fun h => hinv.1 (by omega), fun h => hinv.2 (by omega)⟩
        simp [fldL] at hy; subst hy
        refine callV_of (args := [sl]) (by kernel_rfl) ((textTk_ca fl (by omega) p.route sl hst.fb.h2.1 hst.x rfl (hBne 2 (by decide)) hsl hsp).mono ?_)
        rintro v w' ⟨y0, h1, h2, h3, h4⟩
        refine ⟨({ p with route := y0 }, rv, av), ⟨h1, hst.fb.keepB h2 (fun i hi => hBne i hi), h2.heap hst.f hgp, own_keep hst.r h2 (fun b hb e => by have := (hst.r.lt b hb).1; omega), own_keep hst.a h2 (fun b hb e => by have := (hst.a.lt b hb).1; omega), hst.glo.keep h2 (fun i hi e => by omega), Nat.le_trans hst.hb h2.size⟩, h2.mono (fun k _ h => .inl h), fun b hb => .inl hb, ?_⟩
        rcases h3 with ⟨rfl, hk, rfl⟩ | ⟨rfl, hk⟩
        · exact .inl ⟨rfl, by simp only [tkPay, hin, hk, if_true, Bool.true_eq_false, if_false], hinv.1, hinv.2⟩
        · exact .inr ⟨rfl, by simp only [tkPay, hin, hk, Bool.true_eq_false, if_false]; rfl⟩
      | 3 =>
        simp [fldL] at hy; subst hy
        have hr0 := hinv.1 (by decide)
        refine callV_of (args := [sl]) (by kernel_rfl) ((rulesTk_ca fl hfl (fun f hf => (hfs f hf).1) p.rules rv sl (N := N) hst.fb.h3.2.1 hst.fb.h3.1 hst.x rfl hst.r hst.hb (by rw [hr0]; decide) hst.glo ⟨hBne 3 (by decide), hBne 8 (by decide), hN⟩ (fun b hb => by have h1 := hrr b hb; have h2 := hBl 3 (by decide); have h3 := hBl 8 (by decide); omega) hsl (fun b hb => ⟨(hsb b hb).1, fun e => (hsb b hb).2 (.inl e), fun e => (hsb b hb).2 (.inr (.inl e))⟩)).mono ?_)
        rintro v w' ⟨rs', rv', h1, h2, h3, h4, h5⟩
        refine ⟨({ p with rules := rs' }, rv', av), ⟨h1, hst.fb.keepB h3 (fun i hi h => by have hb := hBl i hi; rcases h with h | h; exact hBne i hi h; have := hrr _ h; omega), h3.heap hst.f (fun h => by rcases h with h | h; exact hgp h; have := hrr _ h; omega), h2, own_keep hst.a h3 (fun b hb h => by rcases h with h | h; have := haa b hb; omega; exact hap b h hb), hst.glo.keep h3 (fun i hi h => by rcases h with h | h; omega; have := hrr _ h; omega), Nat.le_trans hst.hb h3.size⟩, h3.mono (fun k _ h => by rcases h with h | h; exact .inl h; exact .inr (.inl h)), fun b hb => ?_, ?_⟩
        · rcases hb with hb | hb | hb
          · exact .inl (.inl hb)
          · rcases h4 b hb with h | h
            · exact .inl (.inr (.inl h))
            · exact .inr h
          · exact .inl (.inr (.inr hb))
        · rcases h5 with ⟨rfl, hk⟩ | ⟨rfl, hk⟩
          · exact .inl ⟨rfl, by simp only [tkPay, hin, hk, Bool.true_eq_false, if_false, Option.map_some], fun h => absurd h (by decide), fun h => hinv.2 (by omega)⟩
          · exact .inr ⟨rfl, by simp only [tkPay, hin, hk, Bool.true_eq_false, if_false, Option.map_none]⟩
      | 4 =>
        replace hinv : (4 + 1 ≤ 3 → p.rules = []) ∧ (4 + 1 ≤ 6 → p.addrs = []) := ⟨fun h => hinv.1 (by omega), fun h => hinv.2 (by omega)⟩
        simp [fldL] at hy; subst hy
        refine callV_of (args := [sl]) (by kernel_rfl) ((numTk_ca fl (by omega) p.policy sl hst.fb.h4.1 hst.x rfl (hBne 4 (by decide)) hsl hsp).mono ?_)
        rintro v w' ⟨y0, h1, h2, h3, h4⟩
        refine ⟨({ p with policy := y0 }, rv, av), ⟨h1, hst.fb.keepB h2 (fun i hi => hBne i hi), h2.heap hst.f hgp, own_keep hst.r h2 (fun b hb e => by have := (hst.r.lt b hb).1; omega), own_keep hst.a h2 (fun b hb e => by have := (hst.a.lt b hb).1; omega), hst.glo.keep h2 (fun i hi e => by omega), Nat.le_trans hst.hb h2.size⟩, h2.mono (fun k _ h => .inl h), fun b hb => .inl hb, ?_⟩
        rcases h3 with ⟨rfl, hk, rfl⟩ | ⟨rfl, hk⟩
        · exact .inl ⟨rfl, by simp only [tkPay, hin, hk, if_true, Bool.true_eq_false, if_false], hinv.1, hinv.2⟩
        · exact .inr ⟨rfl, by simp only [tkPay, hin, hk, Bool.true_eq_false, if_false]; rfl⟩
      | 5 =>
        replace hinv : (5 + 1 ≤ 3 → p.rules = []) ∧ (5 + 1 ≤ 6 → p.addrs = []) := ⟨fun h => hinv.1 (by omega), fun h => hinv.2 (by omega)⟩
        simp [fldL] at hy; subst hy
        refine callV_of (args := [sl]) (by kernel_rfl) ((textTk_ca fl (by omega) p.secret sl hst.fb.h5.1 hst.x rfl (hBne 5 (by decide)) hsl hsp).mono ?_)
        rintro v w' ⟨y0, h1, h2, h3, h4⟩
        refine ⟨({ p with secret := y0 }, rv, av), ⟨h1, hst.fb.keepB h2 (fun i hi => hBne i hi), h2.heap hst.f hgp, own_keep hst.r h2 (fun b hb e => by have := (hst.r.lt b hb).1; omega), own_keep hst.a h2 (fun b hb e => by have := (hst.a.lt b hb).1; omega), hst.glo.keep h2 (fun i hi e => by omega), Nat.le_trans hst.hb h2.size⟩, h2.mono (fun k _ h => .inl h), fun b hb => .inl hb, ?_⟩
        rcases h3 with ⟨rfl, hk, rfl⟩ | ⟨rfl, hk⟩
        · exact .inl ⟨rfl, by simp only [tkPay, hin, hk, if_true, Bool.true_eq_false, if_false], hinv.1, hinv.2⟩
        · exact .inr ⟨rfl, by simp only [tkPay, hin, hk, Bool.true_eq_false, if_false]; rfl⟩
      | 6 =>
        simp [fldL] at hy; subst hy
        have hr0 := hinv.2 (by decide)
        refine callV_of (args := [sl]) (by kernel_rfl) ((addrsTk_ca fl hfl (fun f hf => (hfs f hf).1) p.addrs av sl (N := N) hst.fb.h6.2.1 hst.fb.h6.1 hst.x rfl hst.a hst.hb (by rw [hr0]; decide) hst.glo ⟨hBne 6 (by decide), hBne 9 (by decide), hN⟩ (fun b hb => by have h1 := haa b hb; have h2 := hBl 6 (by decide); have h3 := hBl 9 (by decide); omega) hsl (fun b hb => ⟨(hsb b hb).1, fun e => (hsb b hb).2 (.inl e), fun e => (hsb b hb).2 (.inr (.inr e))⟩)).mono ?_)
        rintro v w' ⟨rs', rv', h1, h2, h3, h4, h5⟩
        refine ⟨({ p with addrs := rs' }, rv, rv'), ⟨h1, hst.fb.keepB h3 (fun i hi h => by have hb := hBl i hi; rcases h with h | h; exact hBne i hi h; have := haa _ h; omega), h3.heap hst.f (fun h => by rcases h with h | h; exact hgp h; have := haa _ h; omega), own_keep hst.r h3 (fun b hb h => by rcases h with h | h; have := hrr b hb; omega; exact hap b hb h), h2, hst.glo.keep h3 (fun i hi h => by rcases h with h | h; omega; have := haa _ h; omega), Nat.le_trans hst.hb h3.size⟩, h3.mono (fun k _ h => by rcases h with h | h; exact .inl h; exact .inr (.inr h)), fun b hb => ?_, ?_⟩
        · rcases hb with hb | hb | hb
          · exact .inl (.inl hb)
          · exact .inl (.inr (.inl hb))
          · rcases h4 b hb with h | h
            · exact .inl (.inr (.inr h))
            · exact .inr h
        · rcases h5 with ⟨rfl, hk⟩ | ⟨rfl, hk⟩
          · exact .inl ⟨rfl, by simp only [tkPay, hin, hk, Bool.true_eq_false, if_false, Option.map_some], fun h => absurd h (by decide), fun h => absurd h (by decide)⟩
          · exact .inr ⟨rfl, by simp only [tkPay, hin, hk, Bool.true_eq_false, if_false, Option.map_none]⟩
      | 7 =>
        replace hinv : (7 + 1 ≤ 3 → p.rules = []) ∧ (7 + 1 ≤ 6 → p.addrs = []) := ⟨fun h => hinv.1 (by omega), fun h => hinv.2 (by omega)⟩
        simp [fldL] at hy; subst hy
        refine callV_of (args := [sl]) (by kernel_rfl) ((textTk_ca fl (by omega) p.key sl hst.fb.h7.1 hst.x rfl (hBne 7 (by decide)) hsl hsp).mono ?_)
        rintro v w' ⟨y0, h1, h2, h3, h4⟩
        refine ⟨({ p with key := y0 }, rv, av), ⟨h1, hst.fb.keepB h2 (fun i hi => hBne i hi), h2.heap hst.f hgp, own_keep hst.r h2 (fun b hb e => by have := (hst.r.lt b hb).1; omega), own_keep hst.a h2 (fun b hb e => by have := (hst.a.lt b hb).1; omega), hst.glo.keep h2 (fun i hi e => by omega), Nat.le_trans hst.hb h2.size⟩, h2.mono (fun k _ h => .inl h), fun b hb => .inl hb, ?_⟩
        rcases h3 with ⟨rfl, hk, rfl⟩ | ⟨rfl, hk⟩
        · exact .inl ⟨rfl, by simp only [tkPay, hin, hk, if_true, Bool.true_eq_false, if_false], hinv.1, hinv.2⟩
        · exact .inr ⟨rfl, by simp only [tkPay, hin, hk, Bool.true_eq_false, if_false]; rfl⟩
      | k + 8 => omega
def getP (kind : Int) (s : List UInt8) : Option PL := if (hasF kind).2 = true then (parseF s).bind fun l => tkAll (tkPay (hasF kind).1) l 8 0 PL0 else none
end Go.Proofs.YthlbgeonobicbaaDoor

namespace Go.Proofs.YthlbgeonobicbaaDoor
open Go Go.V Go.RowKit
set_option linter.unusedVariables false
set_option linter.unusedSimpArgs false

theorem GloN.of {w : World} {p q : Addr} (h : Glo w p q) : GloN w.heap.size w := by
  obtain ⟨l1, l2, l3⟩ := h.lts
  exact ⟨l1, p, q, h, l2, l3⟩
/-- What Get hands back. -/
def getR (kind : Int) (s : List UInt8) (v : Value) (w' : World) : Prop := ∃ (p : PL) (rv av : Value) (b : Bool), v = .tuple #[PlV p rv av, .bool b] ∧ PlS w' p rv av ∧ ((b = true ∧ getP kind s = some p) ∨ (b = false ∧ getP kind s = none ∧ p = PL0))
theorem PlS.zero (w : World) : PlS w PL0 (.slice none 0 0) (.slice none 0 0) := ⟨⟨rfl, none, 0, rfl, Nat.le_refl _, .inl ⟨rfl, fun _ => rfl⟩⟩, ⟨rfl, none, 0, rfl, Nat.le_refl _, .inl ⟨rfl, fun _ => rfl⟩⟩⟩
theorem FB_ne {w : World} {b base g : Nat} {B : Nat → Nat} {cs : List Value} (h : FB w b base B) (hg : FS w g cs) : ∀ i, i < 10 → B i ≠ g := by
  intro i hi e
  match i with
  | 0 => have := h.h0.1; rw [e, hg] at this; simp at this
  | 1 => have := h.h1.1; rw [e, hg] at this; simp at this
  | 2 => have := h.h2.1; rw [e, hg] at this; simp at this
  | 3 => have := h.h3.1; rw [e, hg] at this; simp at this
  | 4 => have := h.h4.1; rw [e, hg] at this; simp at this
  | 5 => have := h.h5.1; rw [e, hg] at this; simp at this
  | 6 => have := h.h6.1; rw [e, hg] at this; simp at this
  | 7 => have := h.h7.1; rw [e, hg] at this; simp at this
  | 8 => have := h.h3.2.1; rw [e, hg] at this; simp at this
  | 9 => have := h.h6.2.1; rw [e, hg] at this; simp at this
  | i + 10 => omega
abbrev PlZ : List Value := [S [], .int .u64 0, S [], .slice none 0 0, .int .u64 0, S [], .slice none 0 0, S []]
theorem PlC_one {p : PL} {rv av : Value} (hr : rv.oneCell' = true) (ha : av.oneCell' = true) : ∀ u ∈ PlC p rv av, u.oneCell' = true := by
  intro u hu
  simp [PlC] at hu
  rcases hu with rfl | rfl | rfl | rfl | rfl | rfl | rfl | rfl <;> first | rfl | exact hr | exact ha
set_option maxRecDepth 100000 in
set_option maxHeartbeats 4000000 in
theorem pGet_ca (kind : Int) (s : List UInt8) (hs : s.length ≤ 1000000000) {p q : Addr} {w : World} (hg : Glo w p q) :
    Ca Tryd.prog 15 #[.int .i64 kind, S s] w fun v w' => getR kind s v w' ∧ Keeps NoB w w' := by
  refine ca_of_body (args := [.int .i64 kind, S s]) Tryd.func15 rfl (by kernel_rfl) ?_
  (repeat first | (apply wr_move; exact rfl; with_reducible (conv => enter [6, 3]; whnf)) | (apply wr_assign; exact rfl; with_reducible (conv => enter [6, 3]; whnf)) | apply wr_end | apply wc_seq | apply wc_region | (apply wr_alloc; exact rfl))
  refine wr_call (vs := [.int .i64 kind]) rfl (has_ca kind _) rfl ?_
  rintro v w1 ⟨rfl, hk1⟩
  have hb1 : w1.heap[w.heap.size]? = some (.cells PlZ.toArray 26 (0, 0)) := hk1.heap (heap_alloc_same w (.cells (Value.agg PlZ.toArray).cells 26)) (fun h => h)
  have hkw1 := ((Keeps.refl NoB w).alloc (.cells (Value.agg PlZ.toArray).cells 26)).trans hk1
  clear hk1
  cases hok : (hasF kind).2 with
  | false =>
    have hnone : getP kind s = none := if_neg (by rw [hok]; decide)
    (repeat first | (apply wr_move; exact rfl; with_reducible (conv => enter [6, 3]; whnf)) | (apply wr_assign; exact rfl; with_reducible (conv => enter [6, 3]; whnf)) | apply wr_end | apply wc_seq | apply wc_region | (apply wr_not; iterate 2 exact rfl) | (apply wr_extract; (iterate 3 exact rfl); with_reducible (conv => enter [6, 3]; whnf)) | (apply wc_true; exact rfl))
    refine wr_build (ps := []) (cs := PlZ) rfl rfl rfl rfl ?_
    refine wr_storeAll (cs := PlZ) rfl rfl rfl (by intro u hu; simp at hu; rcases hu with rfl | rfl | rfl | rfl | rfl | rfl | rfl | rfl <;> rfl) hb1 rfl rfl ?_
    (repeat first | (apply wr_assign; exact rfl; with_reducible (conv => enter [6, 3]; whnf)) | apply wr_end | (apply wc_ret; try simp only [thenE, inBlockE, bodyQ]))
    exact leaveN (vs := [PlV PL0 (.slice none 0 0) (.slice none 0 0), .bool false]) (resv_cells (cs := PlZ) rfl rfl (World.putObj_heap_same (lt_of_heap hb1)) rfl (resv_tmp rfl resv_nil)) ⟨⟨PL0, _, _, false, rfl, PlS.zero _, .inr ⟨rfl, hnone, rfl⟩⟩, hkw1.put _ (fun h => by omega)⟩
  | true =>
    (repeat first | (apply wr_move; exact rfl; with_reducible (conv => enter [6, 3]; whnf)) | (apply wr_assign; exact rfl; with_reducible (conv => enter [6, 3]; whnf)) | apply wr_end | apply wc_seq | apply wc_region | apply wc_skip | (apply wr_not; iterate 2 exact rfl) | (apply wr_extract; (iterate 3 exact rfl); with_reducible (conv => enter [6, 3]; whnf)) | (apply wc_false; exact rfl))
    refine wr_call (vs := [.pointer (some ⟨w.heap.size, 0, none⟩)]) rfl (fields_ca2 w.heap.size _) rfl ?_
    rintro v w2 ⟨g, B, rfl, hFS, hFB, hgs, hk2⟩
    have hkw2 := hkw1.trans hk2
    have hb2 := hk2.heap hb1 (fun h => h)
    have hg2 := hg.keep hkw2 (fun i hi h => h)
    have hgl := lt_of_heap hFS
    have hb1l := lt_of_heap hb1
    obtain ⟨hasL, hhas⟩ : ∃ l, l = (hasF kind).1 := ⟨_, rfl⟩
    rw [← hhas]
    (repeat first | (apply wr_move; exact rfl; with_reducible (conv => enter [6, 3]; whnf)) | (apply wr_assign; exact rfl; with_reducible (conv => enter [6, 3]; whnf)) | apply wr_end | apply wc_seq | apply wc_region | apply wc_block | (apply wr_len_slice; iterate 2 exact rfl))
    refine wc_loopL (α := Nat) (fun k => [(1, S s), (4, .pointer (some ⟨w.heap.size, 0, none⟩)), (6, S hasL), (7, .slice (some ⟨g, 0, none⟩) 8 8), (19, .slice (some ⟨g, 0, none⟩) 8 8), (20, .int .i64 8), (21, .int .i64 (k : Int))])
      (fun k ds w' => ds = [] ∧ k ≤ 8 ∧ FS w' g ((curL hasL B k).flatMap G3) ∧ Keeps (· = g) w2 w') (fun k => 8 - k) 0 ⟨rfl, Nat.zero_le _, by rw [curL_zero, fldL_flat]; exact hFS, Keeps.refl _ _⟩ ⟨rfl, rfl, rfl, rfl, rfl, rfl, rfl, trivial⟩ ?_
    rintro k ds f0 w3 ⟨rfl, hk8, hFS3, hk3⟩
    have hs3 := hk3.size
    by_cases hlt : k < 8
    · obtain ⟨x, hx⟩ : ∃ x, (curL hasL B k)[k]? = some x := ⟨(curL hasL B k)[k]'(by simp [curL]; omega), by simp [curL, hlt]⟩
      obtain ⟨y, hy, hxy⟩ := curL_get hx
      obtain ⟨hlet, hlet1⟩ := lets_letter B hy
      obtain ⟨o1, o2, o3⟩ := curL_one hasL B k x (List.mem_of_getElem? hx)
      have hlx : x.1 = S (lets.getD k []) := by rw [hxy, (cF_parts _ _ _ _).1, hlet]
      obtain ⟨x1, x2, x3⟩ := x
      dsimp only at hlx o1 o2 o3
      subst hlx
      (repeat first | (apply wr_move; exact rfl; with_reducible (conv => enter [6, 3]; whnf)) | apply wr_end | apply wc_seq | apply wc_region | apply wc_skip | apply wc_block | (apply wr_cmp; (iterate 3 exact rfl); exact cmpT (by dsimp only [cmpP]; first | done | omega)) | (apply wc_true; exact rfl))
      refine wr_indexAddr (i := k) rfl rfl rfl hlt ?_
      refine wr_loadElem (G := G3) (n := 8) (l := curL hasL B k) rfl rfl G3_len rfl hFS3 (o := 0) (fun j hj => by rw [Nat.zero_add, List.getElem?_toArray]) hlt hx rfl ?_
      (repeat first | (apply wr_assign; exact rfl; with_reducible (conv => enter [6, 3]; whnf)) | (apply wr_alloc; exact rfl))
      refine wr_storeAll (cs := [S (lets.getD k []), x2, x3]) rfl rfl rfl (by intro u hu; simp at hu; rcases hu with rfl | rfl | rfl; exact o1; exact o2; exact o3) (heap_alloc_same _ _) rfl rfl ?_
      obtain ⟨w4, hw4⟩ : ∃ w4, w4 = (w3.alloc (.cells (Value.agg #[S [], .nilFunc, .nilFunc]).cells 79)).putObj w3.heap.size (.cells #[S (lets.getD k []), x2, x3] 79 (0, 0)) := ⟨_, rfl⟩
      have hk4 : Keeps NoB w3 w4 := by rw [hw4]; exact ((Keeps.refl NoB w3).alloc _).put _ (fun h => by omega)
      have hf4 : w4.heap[w3.heap.size]? = some (.cells #[S (lets.getD k []), x2, x3] 79 (0, 0)) := by rw [hw4]; exact World.putObj_heap_same (by simp)
      rw [← hw4]
      clear hw4
      (repeat first | (apply wr_move; exact rfl; with_reducible (conv => enter [6, 3]; whnf)) | apply wr_end | apply wc_seq | apply wc_region | (apply wr_fieldAddr; iterate 2 exact rfl) | (apply wr_load; (iterate 3 exact rfl); (focus repeat first | with_reducible assumption | exact heap_alloc_same _ _ | exact World.putObj_heap_same (by first | omega | (simp only [World.size_alloc, World.putObj_size, ne_eq]; omega)) | ((first | refine hAl ?_ ?_ | refine hPu ?_ ?_); focus first | omega | (simp only [World.size_alloc, World.putObj_size, ne_eq]; omega))); exact rfl; conv => enter [6, 3]; whnf))
      refine wr_call (vs := [S hasL, S (lets.getD k [])]) rfl (contains_ca hasL (lets.getD k []) hlet1 _) rfl ?_
      rintro v w5 ⟨rfl, hw5⟩
      subst hw5
      have hFS5 := hk4.heap hFS3 (fun h => h)
      have hk25 := hk3.trans' hk4 (fun i hi h => h.elim)
      cases hin : inF hasL (lets.getD k []) with
      | true =>
        (repeat first | (apply wr_move; exact rfl; with_reducible (conv => enter [6, 3]; whnf)) | apply wr_end | apply wc_region | apply wc_skip | (apply wr_not; iterate 2 exact rfl) | (apply wr_add; (iterate 3 exact rfl); exact w_fit (by dsimp only [kIn]; first | done | omega)) | (apply wc_false; exact rfl))
        exact ⟨k + 1, by omega, ⟨by trivial, hlt, by rw [curL_same hlt hin]; exact hFS5, hk25⟩, rfl, rfl, rfl, rfl, rfl, rfl, by simp, trivial⟩
      | false =>
        have hcell : ((curL hasL B k).flatMap G3)[k * 3 + 2]? = some x3 := by
          rw [flat_get G3_len _ k _ 2 hx (by decide)]; rfl
        have hgl5 := lt_of_heap hFS5
        (repeat first | (apply wr_move; exact rfl; with_reducible (conv => enter [6, 3]; whnf)) | apply wr_end | apply wc_region | (apply wr_not; iterate 2 exact rfl) | (apply wc_true; exact rfl))
        refine wr_indexAddr (i := k) rfl rfl rfl hlt ?_
        refine wr_fieldAddr rfl rfl ?_
        refine wr_store (v := noTake) rfl rfl rfl rfl hFS5 (by rw [Nat.zero_add, List.getElem?_toArray]; exact hcell) ?_
        (repeat first | (apply wr_move; exact rfl; with_reducible (conv => enter [6, 3]; whnf)) | apply wr_end | apply wc_region | (apply wr_add; (iterate 3 exact rfl); exact w_fit (by dsimp only [kIn]; first | done | omega)) | (apply wr_nil; try simp only [thenE, inBlockE, bodyQ]))
        refine ⟨k + 1, by omega, ⟨by trivial, hlt, ?_, hk25.put _ (fun _ => rfl)⟩, rfl, rfl, rfl, rfl, rfl, rfl, by simp, trivial⟩
        have e : (((curL hasL B k).flatMap G3).toArray.setIfInBounds (0 + k * 3 + 2) noTake) = ((curL hasL B (k + 1)).flatMap G3).toArray := by
          apply Array.toList_inj.1
          rw [Array.toList_setIfInBounds, curL_cut hx hin, flat_set3 _ k _ noTake hx, Nat.zero_add]
        rw [e]
        exact World.putObj_heap_same hgl5
    · have he : k = 8 := by omega
      subst he
      have hgn : g ≠ w.heap.size := by omega
      have hgk : Keeps (· = g) w2 w3 := hk3
      have hM := payMach (pb := w.heap.size) (g := g) (base := w3.heap.size) (fbase := w1.heap.size) (N := w.heap.size) (B := B) (has := hasL) (fun i hi => by have := hFB.lt i hi; omega) (by omega) hgn hb1l (by have := hk2.size; omega) (Nat.le_refl _)
      have hFB3 : FB w3 w.heap.size w1.heap.size B := hFB.keepB hk3 (FB_ne hFB hFS)
      have hst : PaySt w.heap.size g w3.heap.size w1.heap.size w.heap.size B hasL (PL0, .slice none 0 0, .slice none 0 0) w3 := ⟨hk3.heap hb2 (Ne.symm hgn), hFB3, hFS3, ⟨rfl, .inl ⟨rfl, rfl⟩⟩, ⟨rfl, .inl ⟨rfl, rfl⟩⟩, ((GloN.of hg).kin hkw2).keep hk3 (fun i hi e => by omega), Nat.le_refl _⟩
      have hkw3 : Keeps NoB w w3 := hkw2.trans' hk3 (fun i hi e => by omega)
      (repeat first | (apply wr_move; exact rfl; with_reducible (conv => enter [6, 3]; whnf)) | apply wr_end | apply wc_seq | apply wc_region | (apply wr_cmp; (iterate 3 exact rfl); exact cmpF (by dsimp only [cmpN]; first | done | omega)) | (apply wc_false; exact rfl) | (apply wc_exit; try simp only [thenE, inBlockE, bodyQ, ↓reduceIte, Nat.reduceEqDiff]))
      refine wr_call (vs := [S s, .slice (some ⟨g, 0, none⟩) 8 8]) rfl (ptake_ca hM s hs (PL0, .slice none 0 0, .slice none 0 0) ⟨fun _ => rfl, fun _ => rfl⟩ hst) rfl ?_
      rintro v w4 ⟨⟨p', rv, av⟩, hst4, hk4, _, hv⟩
      have hr1 := own_one hst4.r
      have ha1 := own_one hst4.a
      dsimp only at hr1 ha1
      have hx4 := hst4.x
      dsimp only at hx4
      have hx4l := lt_of_heap hx4
      have hkw4 : Keeps NoB w w4 := hkw3.trans' hk4 (fun i hi h => by
        rcases h with h | h | h
        · omega
        · simp [Value.ownBlock] at h
        · simp [Value.ownBlock] at h)
      have hgP : getP kind s = (parseF s).bind fun l => tkAll (tkPay hasL) l 8 0 PL0 := by unfold getP; rw [if_pos hok, ← hhas]
      rcases hv with ⟨rfl, hv⟩ | ⟨rfl, hv⟩
      · have hv' : getP kind s = some p' := hgP.trans hv
        (repeat first | apply wr_end | apply wc_seq | apply wc_region | apply wc_skip | (apply wr_not; iterate 2 exact rfl) | (apply wc_false; exact rfl))
        refine wr_loadAll (cs := PlC p' rv av) rfl rfl rfl hx4 rfl ?_
        refine wr_storeAll (cs := PlC p' rv av) rfl rfl rfl (PlC_one hr1 ha1) hx4 rfl rfl ?_
        (repeat first | (apply wr_assign; exact rfl; with_reducible (conv => enter [6, 3]; whnf)) | apply wr_end | (apply wc_ret; try simp only [thenE, inBlockE, bodyQ]))
        refine leaveN (vs := [PlV p' rv av, .bool true]) (resv_cells (cs := PlC p' rv av) rfl rfl (World.putObj_heap_same hx4l) rfl (resv_tmp rfl resv_nil)) ⟨⟨p', rv, av, true, rfl, ?_, .inl ⟨rfl, hv'⟩⟩, hkw4.put _ (fun h => by omega)⟩
        have hkp : Keeps (· = w.heap.size) w4 (w4.putObj w.heap.size (.cells (PlC p' rv av).toArray 26 (0, 0))) := (Keeps.refl _ w4).put _ (fun _ => rfl)
        exact ⟨(SlR.of_own hst4.r).keep hkp (fun b hb e => by have := (hst4.r.lt b hb).1; omega), (SlR.of_own hst4.a).keep hkp (fun b hb e => by have := (hst4.a.lt b hb).1; omega)⟩
      · have hv' : getP kind s = none := hgP.trans hv
        (repeat first | apply wr_end | apply wc_seq | apply wc_region | (apply wr_not; iterate 2 exact rfl) | (apply wc_true; exact rfl))
        refine wr_build (ps := []) (cs := PlZ) rfl rfl rfl rfl ?_
        refine wr_storeAll (cs := PlZ) rfl rfl rfl (by intro u hu; simp at hu; rcases hu with rfl | rfl | rfl | rfl | rfl | rfl | rfl | rfl <;> rfl) hx4 rfl rfl ?_
        (repeat first | (apply wr_assign; exact rfl; with_reducible (conv => enter [6, 3]; whnf)) | apply wr_end | (apply wc_ret; try simp only [thenE, inBlockE, bodyQ]))
        exact leaveN (vs := [PlV PL0 (.slice none 0 0) (.slice none 0 0), .bool false]) (resv_cells (cs := PlZ) rfl rfl (World.putObj_heap_same hx4l) rfl (resv_tmp rfl resv_nil)) ⟨⟨PL0, _, _, false, rfl, PlS.zero _, .inr ⟨rfl, hv', rfl⟩⟩, hkw4.put _ (fun h => by omega)⟩
end Go.Proofs.YthlbgeonobicbaaDoor
