/- What the rows of package 15 share: what is listed; bytes among the arguments; what a law leaves. -/
import Derived.Test.YtjaojihogmnjhaaGreatDoorKn
import Derived.Test.YtjaojihogmnjhaaGreatDoorCards
import Derived.Test.YtjaojihogmnjhaaGreatDoorTie
import Derived.Test.YtjaojihogmnjhaaGreatDoorVS
import Derived.WalkKit
import Derived.ProofKit
import Derived.OpenShut
import Derived.OpenVars
import Derived.Stop.LaidTwo
import Derived.Deep.DeepLaidRun
import Derived.Deep.DeepHandedRow
import Derived.Deep.DeepWitnessRowRef
namespace Go.Proofs.YtjaojihogmnjhaaGreatDoor
open Go Go.V Go.RowKit Go.ChangeShapes Go.WideShapes Go.ChangeAt
set_option linter.unusedVariables false
set_option linter.unusedSimpArgs false

theorem own : ownKnob Tryz.prog.godebug = none := by kernel_rfl
theorem laidOut : laidOutB Tryz.prog = true := by kernel_rfl
def laidE : List (String × DataW Unit) := [("unicode/utf8.acceptRanges", Rows.laid_unicode_utf8_acceptRanges), ("unicode/utf8.first", Rows.laid_unicode_utf8_first)]
def litOf {H : Type} : DataW H → Value
  | .lit (.int k n) => .int k n
  | _ => .bool false
def litsOf {H : Type} : DataW H → List Value
  | .lit (.int k n) => [.int k n]
  | .agg l => l.map litOf
  | _ => []
def tabOf (d : DataW Unit) : Array Value := match d with
  | .agg l => (l.flatMap litsOf).toArray
  | _ => #[]
def relay (d : DataW Unit) : Obj → Obj
  | .cells _ t fr => .cells (tabOf d) t fr
  | o => o
noncomputable def laidWorld (os : Os) : World :=
  let w0 := World.holding Tryz.prog os ⟨#[], #[], []⟩
  { w0 with heap := (w0.heap.modify 1 (relay Rows.laid_unicode_utf8_acceptRanges)).modify 0 (relay Rows.laid_unicode_utf8_first) }
theorem laid_met (os : Os) (args : Array Value) : laidMetH Tryz.prog laidE ((laidWorld os).forCall (fun _ _ => 0) ⟨#[], args, []⟩).memory := by
  show laidMet Tryz.prog laidE _
  exact laidMet_of_run3 8 (by kernel_rfl) (by kernel_rfl) (by kernel_rfl)

/-! ### What a law leaves -/
theorem trodAll_stays {H : Type} {enc : TypeId × Value → H} {P : Program} (hl : laidOutB P = true) {W W' : World} (hb : Below W.heap.size W W') :
    ∀ {ts : List TypeId} {vs : List Value} {ds : List (DataW H)} {ps : List MemPlace}, (∀ t ∈ ts, P.readableRec t = true ∧ t < P.types.size) → DataW.TrodAll enc P W 0 (fun _ => true) true ts vs ds ps → (∀ x ∈ ps, x.block < W.heap.size) →
      DataW.TrodAll enc P W' 0 (fun b => decide (b < W.heap.size)) true ts vs ds ps
  | [], vs, ds, ps, _, h, _ => by
    obtain ⟨rfl, rfl, rfl⟩ := trodAll_nil h
    exact trodAll_mk0
  | t :: ts, vs, ds, ps, ht, h, hlt => by
    obtain ⟨v, vs, d, ds, p, q, rfl, rfl, rfl, h0, h1⟩ := trodAll_cons h
    exact trodAll_cons_mk (Below.trod hl (ht t (by simp)).1 (ht t (by simp)).2 h0 hb fun x hx => hlt x (by simp [hx])) (trodAll_stays hl hb (fun t h => ht t (by simp [h])) h1 fun x hx => hlt x (by simp [hx]))
def parsOk (P : Program) (ts : List TypeId) : Bool := ts.all fun t => P.readableRec t && decide (t < P.types.size)
theorem post_law {H : Type} {enc : TypeId × Value → H} {P : Program} {f : Func} {s : ChangeSpec} {W W' : World} {args : Array Value} {ds gs : List (DataW H)} {before : List MemPlace} {tb : TypeId} (hl : laidOutB P = true) (hv : s.vars = []) (hpar : parsOk P f.params.toList = true)
    (hrt : f.resultTypes = #[tb]) (hbool : P.underlying tb = some .bool) (hfn : s.fn H ds = { results := [.lit (.bool true)], args := ds }) (hW : DataW.Whole enc P f.params.toList s.vars false W args.toList ds gs before) (hb : Below W.heap.size W W') :
    s.post enc P f false true false false W args (.bool true) W' := by
  have hW' := hW
  have hlt := hW.lt
  obtain ⟨p, q, hA, hV, rfl, hfz, hnd⟩ := hW
  rw [hv] at hV
  obtain ⟨rfl, rfl⟩ := trodVars_none hV
  have hpar' : ∀ t ∈ f.params.toList, P.readableRec t = true ∧ t < P.types.size := fun t ht => by
    have := List.all_eq_true.1 hpar t ht
    simpa using this
  refine ⟨ds, [], p ++ [], [], p, [], hW', ?_, ?_, ?_, World.keptBut_mono (fun _ h => h.elim) (World.keptBut_none_iff.2 ⟨hb.os, hb.output, hb.block⟩), fun h => by cases h⟩
  · rw [List.append_nil, hfn, hrt]
    exact trodAll_mk1 (shut_bool hbool true)
  · rw [List.append_nil, hfn]
    exact trodAll_stays hl hb hpar' hA fun x hx => hlt x (by simp [hx])
  · rw [List.append_nil, hfn, hv]
    exact rfl

/-! ### Bytes -/
theorem cellsU8 : Tryz.prog.cellsOf 5 = 1 := by kernel_rfl
def u8Rd {H : Type} (x : Nat) (d : DataW H) : Prop := x < 256
def GU8 (x : Nat) : List Value := [.int .u8 (x : Int)]
theorem u8_el {H : Type} {enc : TypeId × Value → H} {W : World} (fuel : Nat) (cs : List Value) (x : DataW H × List MemPlace) (h : DataW.trod enc Tryz.prog W 0 (fun _ => true) true fuel 5 cs = some x) : ∃ a : Nat, cs = GU8 a ∧ u8Rd a x.1 := by
  obtain ⟨b, h1, e1, w1⟩ := DataW.trod_int Tryz.underlying5 h
  have b0 := bounds_u8 w1
  obtain ⟨n, rfl⟩ := Int.eq_ofNat_of_zero_le b0.1
  exact ⟨n, h1, by show n < 256; omega⟩
theorem GU8_IB (l : List Nat) : l.flatMap GU8 = IB l := by
  induction l with
  | nil => rfl
  | cons a l ih => rw [List.flatMap_cons, ih]; rfl
set_option maxRecDepth 100000 in
theorem open_u8s {H : Type} {enc : TypeId × Value → H} {W : World} {v : Value} {d : DataW H} {ps : List MemPlace} {base : Nat} (hok : Value.okWide Tryz.prog W .any base 86 v) (hT : DataW.Trod enc Tryz.prog W 0 (fun _ => true) true 86 v d ps) :
    ∃ l : List Nat, SlR W 1 v l.length (IB l) ∧ ∀ x ∈ l, x < 256 := by
  obtain ⟨a0, len0, cap0, rfl⟩ := okWide_slice Tryz.underlying86 hok
  obtain ⟨l, hl, _, hsl, hd⟩ := slice_read GU8 1 u8Rd Tryz.underlying86 cellsU8 (by decide) (fun _ => rfl) u8_el hT
  refine ⟨l, by rw [hl, ← GU8_IB]; exact hsl, fun x hx => ?_⟩
  obtain ⟨i, hi⟩ := List.getElem?_of_mem hx
  rcases hd with ⟨h1, h2⟩ | ⟨elems, rest, h1, h2, h3⟩
  · have := (List.getElem?_eq_some_iff.1 hi).1
    omega
  · obtain ⟨z, _, hz⟩ := h3 i x hi
    exact hz
end Go.Proofs.YtjaojihogmnjhaaGreatDoor
