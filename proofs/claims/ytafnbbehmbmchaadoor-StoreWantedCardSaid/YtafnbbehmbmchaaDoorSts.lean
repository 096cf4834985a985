/- What the rows of package 12 share: what is listed; numbers and things among the arguments; what a law leaves. -/
import Derived.Test.YtafnbbehmbmchaaDoorSj
import Derived.Test.YtafnbbehmbmchaaDoorCards
import Derived.Test.YtafnbbehmbmchaaDoorTie
import Derived.Test.YtafnbbehmbmchaaDoorVS
import Derived.WalkKit
import Derived.ProofKit
import Derived.OpenShut
import Derived.OpenVars
import Derived.Stop.LaidTwo
import Derived.Deep.DeepLaidRun
import Derived.Deep.DeepHandedRow
import Derived.Deep.DeepWitnessRowRef
namespace Go.Proofs.YtafnbbehmbmchaaDoor
open Go Go.V Go.RowKit Go.ChangeShapes Go.WideShapes Go.ChangeAt
set_option linter.unusedVariables false
set_option linter.unusedSimpArgs false

theorem own : ownKnob Tryd.prog.godebug = none := by kernel_rfl
theorem laidOut : laidOutB Tryd.prog = true := by kernel_rfl
def laidE : List (String × DataW Unit) := [("unicode/utf8.acceptRanges", Rows.laid_unicode_utf8_acceptRanges), ("unicode/utf8.first", Rows.laid_unicode_utf8_first)]
def litOf {H : Type} : DataW H → Value
  | .lit (.int k n) => .int k n
  | _ => .bool false
def litsOf {H : Type} : DataW H → List Value
  | .lit (.int k n) => [.int k n]
  | .agg l => l.map litOf
  | _ => []
def tabOf (d : DataW Unit) : Array Value := match d with
  | .agg l => (l.flatMap litsOf).toArray
  | _ => #[]
def relay (d : DataW Unit) : Obj → Obj
  | .cells _ t fr => .cells (tabOf d) t fr
  | o => o
noncomputable def laidWorld (os : Os) : World :=
  let w0 := World.holding Tryd.prog os ⟨#[], #[], []⟩
  { w0 with heap := (w0.heap.modify 1 (relay Rows.laid_unicode_utf8_acceptRanges)).modify 0 (relay Rows.laid_unicode_utf8_first) }
theorem laid_met (os : Os) (args : Array Value) : laidMetH Tryd.prog laidE ((laidWorld os).forCall (fun _ _ => 0) ⟨#[], args, []⟩).memory := by
  show laidMet Tryd.prog laidE _
  exact laidMet_of_run3 8 (by kernel_rfl) (by kernel_rfl) (by kernel_rfl)

/-! ### What a law leaves -/
theorem trodAll_stays {H : Type} {enc : TypeId × Value → H} {P : Program} (hl : laidOutB P = true) {W W' : World} (hb : Below W.heap.size W W') :
    ∀ {ts : List TypeId} {vs : List Value} {ds : List (DataW H)} {ps : List MemPlace}, (∀ t ∈ ts, P.readableRec t = true ∧ t < P.types.size) → DataW.TrodAll enc P W 0 (fun _ => true) true ts vs ds ps → (∀ x ∈ ps, x.block < W.heap.size) →
      DataW.TrodAll enc P W' 0 (fun b => decide (b < W.heap.size)) true ts vs ds ps
  | [], vs, ds, ps, _, h, _ => by
    obtain ⟨rfl, rfl, rfl⟩ := trodAll_nil h
    exact trodAll_mk0
  | t :: ts, vs, ds, ps, ht, h, hlt => by
    obtain ⟨v, vs, d, ds, p, q, rfl, rfl, rfl, h0, h1⟩ := trodAll_cons h
    exact trodAll_cons_mk (Below.trod hl (ht t (by simp)).1 (ht t (by simp)).2 h0 hb fun x hx => hlt x (by simp [hx])) (trodAll_stays hl hb (fun t h => ht t (by simp [h])) h1 fun x hx => hlt x (by simp [hx]))
def parsOk (P : Program) (ts : List TypeId) : Bool := ts.all fun t => P.readableRec t && decide (t < P.types.size)
theorem post_law {H : Type} {enc : TypeId × Value → H} {P : Program} {f : Func} {s : ChangeSpec} {W W' : World} {args : Array Value} {ds gs : List (DataW H)} {before : List MemPlace} {tb : TypeId} (hl : laidOutB P = true) (hv : s.vars = []) (hpar : parsOk P f.params.toList = true)
    (hrt : f.resultTypes = #[tb]) (hbool : P.underlying tb = some .bool) (hfn : s.fn H ds = { results := [.lit (.bool true)], args := ds }) (hW : DataW.Whole enc P f.params.toList s.vars false W args.toList ds gs before) (hb : Below W.heap.size W W') :
    s.post enc P f false true false false W args (.bool true) W' := by
  have hW' := hW
  have hlt := hW.lt
  obtain ⟨p, q, hA, hV, rfl, hfz, hnd⟩ := hW
  rw [hv] at hV
  obtain ⟨rfl, rfl⟩ := trodVars_none hV
  have hpar' : ∀ t ∈ f.params.toList, P.readableRec t = true ∧ t < P.types.size := fun t ht => by
    have := List.all_eq_true.1 hpar t ht
    simpa using this
  refine ⟨ds, [], p ++ [], [], p, [], hW', ?_, ?_, ?_, World.keptBut_mono (fun _ h => h.elim) (World.keptBut_none_iff.2 ⟨hb.os, hb.output, hb.block⟩), fun h => by cases h⟩
  · rw [List.append_nil, hfn, hrt]
    exact trodAll_mk1 (shut_bool hbool true)
  · rw [List.append_nil, hfn]
    exact trodAll_stays hl hb hpar' hA fun x hx => hlt x (by simp [hx])
  · rw [List.append_nil, hfn, hv]
    exact rfl

/-! ### Numbers and things -/
theorem cellsI8 : Tryd.prog.cellsOf 48 = 1 := by kernel_rfl
theorem cellsU8 : Tryd.prog.cellsOf 5 = 1 := by kernel_rfl
theorem cellsI : Tryd.prog.cellsOf 3 = 1 := by kernel_rfl
theorem cellsU64 : Tryd.prog.cellsOf 26 = 1 := by kernel_rfl
theorem cellsB : Tryd.prog.cellsOf 4 = 1 := by kernel_rfl
theorem cellsStr : Tryd.prog.cellsOf 9 = 1 := by kernel_rfl
theorem cellsKy : Tryd.prog.cellsOf 28 = 2 := by kernel_rfl
theorem cellsRd : Tryd.prog.cellsOf 30 = 5 := by kernel_rfl
theorem cellsTh : Tryd.prog.cellsOf 32 = 7 := by kernel_rfl
def i8Rd {H : Type} (x : Int) (d : DataW H) : Prop := -128 ≤ x ∧ x ≤ 127
def GI8 (x : Int) : List Value := [.int .i8 x]
theorem i8_el {H : Type} {enc : TypeId × Value → H} {W : World} (fuel : Nat) (cs : List Value) (x : DataW H × List MemPlace) (h : DataW.trod enc Tryd.prog W 0 (fun _ => true) true fuel 48 cs = some x) : ∃ a : Int, cs = GI8 a ∧ i8Rd a x.1 := by
  obtain ⟨b, h1, e1, w1⟩ := DataW.trod_int Tryd.underlying48 h
  exact ⟨b, h1, bounds_i8 w1⟩
theorem GI8_I8 (l : List Int) : l.flatMap GI8 = I8 l := by
  induction l with
  | nil => rfl
  | cons a l ih => rw [List.flatMap_cons, ih]; rfl
set_option maxRecDepth 100000 in
theorem open_i8s {H : Type} {enc : TypeId × Value → H} {W : World} {v : Value} {d : DataW H} {ps : List MemPlace} {base : Nat} (hok : Value.okWide Tryd.prog W .any base 46 v) (hT : DataW.Trod enc Tryd.prog W 0 (fun _ => true) true 46 v d ps) :
    ∃ l : List Int, SlR W 1 v l.length (I8 l) ∧ ∀ x ∈ l, -128 ≤ x ∧ x ≤ 127 := by
  obtain ⟨a0, len0, cap0, rfl⟩ := okWide_slice Tryd.underlying46 hok
  obtain ⟨l, hl, _, hsl, hd⟩ := slice_read GI8 1 i8Rd Tryd.underlying46 cellsI8 (by decide) (fun _ => rfl) i8_el hT
  refine ⟨l, by rw [hl, ← GI8_I8]; exact hsl, fun x hx => ?_⟩
  obtain ⟨i, hi⟩ := List.getElem?_of_mem hx
  rcases hd with ⟨h1, h2⟩ | ⟨elems, rest, h1, h2, h3⟩
  · have := (List.getElem?_eq_some_iff.1 hi).1
    omega
  · obtain ⟨z, _, hz⟩ := h3 i x hi
    exact hz
def thRd {H : Type} (x : TH) (d : DataW H) : Prop := thOk x
set_option maxRecDepth 100000 in
set_option maxHeartbeats 1000000 in
theorem th_el {H : Type} {enc : TypeId × Value → H} {W : World} (fuel : Nat) (cs : List Value) (x : DataW H × List MemPlace) (h : DataW.trod enc Tryd.prog W 0 (fun _ => true) true fuel 32 cs = some x) : ∃ a : TH, cs = GTh a ∧ thRd a x.1 := by
  obtain ⟨xs, m, rfl, hx, hl, hxl, hf⟩ := DataW.trod_struct Tryd.underlying32 h
  rw [cellsTh] at hl
  match cs, hl with
  | [c0, c1, c2, c3, c4, c5, c6], _ =>
    match xs, hxl with
    | [y0, y1, y2], _ =>
      have u0 := hf 0 ⟨"R", 30, 0, false, "", "", 0⟩ rfl
      have u1 := hf 1 ⟨"Own", 4, 5, false, "", "", 56⟩ rfl
      have u2 := hf 2 ⟨"Name", 5, 6, false, "", "", 57⟩ rfl
      dsimp only at u0 u1 u2
      rw [cellsRd] at u0
      rw [cellsB] at u1
      rw [cellsU8] at u2
      simp only [List.drop, List.take, List.getElem?_cons_zero, List.getElem?_cons_succ] at u0 u1 u2
      obtain ⟨xs1, m1, rfl, hx1, hl1, hxl1, hf1⟩ := DataW.trod_struct Tryd.underlying30 u0
      match xs1, hxl1 with
      | [z0, z1, z2, z3], _ =>
        have t0 := hf1 0 ⟨"Key", 28, 0, true, "", "", 0⟩ rfl
        have t1 := hf1 1 ⟨"Seq", 26, 2, false, "", "", 24⟩ rfl
        have t2 := hf1 2 ⟨"Gone", 4, 3, false, "", "", 32⟩ rfl
        have t3 := hf1 3 ⟨"Body", 9, 4, false, "", "", 40⟩ rfl
        dsimp only at t0 t1 t2 t3
        rw [cellsKy] at t0
        rw [cellsU64] at t1
        rw [cellsB] at t2
        rw [cellsStr] at t3
        simp only [List.drop, List.take, List.getElem?_cons_zero, List.getElem?_cons_succ] at t0 t1 t2 t3
        obtain ⟨xs2, m2, rfl, hx2, hl2, hxl2, hf2⟩ := DataW.trod_struct Tryd.underlying28 t0
        match xs2, hxl2 with
        | [k0, k1], _ =>
          have s0 := hf2 0 ⟨"Type", 3, 0, false, "", "", 0⟩ rfl
          have s1 := hf2 1 ⟨"Name", 9, 1, false, "", "", 8⟩ rfl
          dsimp only at s0 s1
          rw [cellsI] at s0
          rw [cellsStr] at s1
          simp only [List.drop, List.take, List.getElem?_cons_zero, List.getElem?_cons_succ] at s0 s1
          obtain ⟨i, g0, e0, w0⟩ := DataW.trod_int Tryd.underlying3 s0
          obtain ⟨s, g1, e1, w1⟩ := DataW.trod_string Tryd.underlying9 s1
          obtain ⟨q, g2, e2, w2⟩ := DataW.trod_int Tryd.underlying26 t1
          obtain ⟨c, g3, e3⟩ := DataW.trod_bool Tryd.underlying4 t2
          obtain ⟨b, g4, e4, w4⟩ := DataW.trod_string Tryd.underlying9 t3
          obtain ⟨o, g5, e5⟩ := DataW.trod_bool Tryd.underlying4 u1
          obtain ⟨n, g6, e6, w6⟩ := DataW.trod_int Tryd.underlying5 u2
          have b0 := bounds_i64 w0
          have b2 := bounds_u64 w2
          have b6 := bounds_u8 w6
          obtain ⟨q, rfl⟩ := Int.eq_ofNat_of_zero_le b2.1
          obtain ⟨n, rfl⟩ := Int.eq_ofNat_of_zero_le b6.1
          simp only [List.cons.injEq, and_true] at g0 g1 g2 g3 g4 g5 g6
          subst g0 g1 g2 g3 g4 g5 g6
          have h1 : s.data.toList.length = s.size := Array.length_toList
          have h4 : b.data.toList.length = b.size := Array.length_toList
          exact ⟨((i, s.data.toList, q, c, b.data.toList), o, n), rfl, b0, by show s.data.toList.length ≤ _; rw [h1]; exact w1, by show q ≤ _; omega, by show b.data.toList.length ≤ _; rw [h4]; exact w4, by show n < 256; omega⟩
set_option maxRecDepth 100000 in
theorem open_ths {H : Type} {enc : TypeId × Value → H} {W : World} {v : Value} {d : DataW H} {ps : List MemPlace} {base : Nat} (hok : Value.okWide Tryd.prog W .any base 22 v) (hT : DataW.Trod enc Tryd.prog W 0 (fun _ => true) true 22 v d ps) :
    ∃ l : List TH, SlR W 7 v l.length (l.flatMap GTh) ∧ ∀ x ∈ l, thOk x := by
  obtain ⟨a0, len0, cap0, rfl⟩ := okWide_slice Tryd.underlying22 hok
  obtain ⟨l, hl, _, hsl, hd⟩ := slice_read GTh 7 thRd Tryd.underlying22 cellsTh (by decide) GTh_len th_el hT
  refine ⟨l, by rw [hl]; exact hsl, fun x hx => ?_⟩
  obtain ⟨i, hi⟩ := List.getElem?_of_mem hx
  rcases hd with ⟨h1, h2⟩ | ⟨elems, rest, h1, h2, h3⟩
  · have := (List.getElem?_eq_some_iff.1 hi).1
    omega
  · obtain ⟨z, _, hz⟩ := h3 i x hi
    exact hz
end Go.Proofs.YtafnbbehmbmchaaDoor
