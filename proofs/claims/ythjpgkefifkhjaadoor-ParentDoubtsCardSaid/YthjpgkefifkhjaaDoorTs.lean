/- What the rows of package 16 share: what is listed; sketches and deeds among the arguments; what a law leaves. -/
import Derived.Test.YthjpgkefifkhjaaDoorTp
import Derived.Test.YthjpgkefifkhjaaDoorCards
import Derived.Test.YthjpgkefifkhjaaDoorTie
import Derived.Test.YthjpgkefifkhjaaDoorVS
import Derived.WalkKit
import Derived.ProofKit
import Derived.OpenShut
import Derived.OpenVars
import Derived.Stop.LaidTwo
import Derived.Deep.DeepLaidRun
import Derived.Deep.DeepHandedRow
import Derived.Deep.DeepWitnessRowRef
namespace Go.Proofs.YthjpgkefifkhjaaDoor
open Go Go.V Go.RowKit Go.ChangeShapes Go.WideShapes Go.ChangeAt
set_option linter.unusedVariables false
set_option linter.unusedSimpArgs false

theorem own : ownKnob Tryd.prog.godebug = none := by kernel_rfl
theorem laidOut : laidOutB Tryd.prog = true := by kernel_rfl
def laidE : List (String × DataW Unit) := [("math/bits.deBruijn32tab", Rows.laid_math_bits_deBruijn32tab), ("math/bits.deBruijn64tab", Rows.laid_math_bits_deBruijn64tab), ("internal/strconv.uint64pow10", Rows.laid_internal_strconv_uint64pow10)]
def litOf {H : Type} : DataW H → Value
  | .lit (.int k n) => .int k n
  | _ => .bool false
def tabOf (d : DataW Unit) : Array Value := match d with
  | .agg l => (l.map litOf).toArray
  | _ => #[]
def relay (d : DataW Unit) : Obj → Obj
  | .cells _ t fr => .cells (tabOf d) t fr
  | o => o
noncomputable def laidWorld (os : Os) : World :=
  let w0 := World.holding Tryd.prog os ⟨#[], #[], []⟩
  { w0 with heap := ((w0.heap.modify 2 (relay Rows.laid_math_bits_deBruijn32tab)).modify 3 (relay Rows.laid_math_bits_deBruijn64tab)).modify 0 (relay Rows.laid_internal_strconv_uint64pow10) }
theorem laid_met (os : Os) (args : Array Value) : laidMetH Tryd.prog laidE ((laidWorld os).forCall (fun _ _ => 0) ⟨#[], args, []⟩).memory := by
  show laidMet Tryd.prog laidE _
  exact laidMet_of_run3 8 (by kernel_rfl) (by kernel_rfl) (by kernel_rfl)

/-! ### What a law leaves -/
theorem trodAll_stays {H : Type} {enc : TypeId × Value → H} {P : Program} (hl : laidOutB P = true) {W W' : World} (hb : Below W.heap.size W W') :
    ∀ {ts : List TypeId} {vs : List Value} {ds : List (DataW H)} {ps : List MemPlace}, (∀ t ∈ ts, P.readableRec t = true ∧ t < P.types.size) → DataW.TrodAll enc P W 0 (fun _ => true) true ts vs ds ps → (∀ x ∈ ps, x.block < W.heap.size) →
      DataW.TrodAll enc P W' 0 (fun b => decide (b < W.heap.size)) true ts vs ds ps
  | [], vs, ds, ps, _, h, _ => by
    obtain ⟨rfl, rfl, rfl⟩ := trodAll_nil h
    exact trodAll_mk0
  | t :: ts, vs, ds, ps, ht, h, hlt => by
    obtain ⟨v, vs, d, ds, p, q, rfl, rfl, rfl, h0, h1⟩ := trodAll_cons h
    exact trodAll_cons_mk (Below.trod hl (ht t (by simp)).1 (ht t (by simp)).2 h0 hb fun x hx => hlt x (by simp [hx])) (trodAll_stays hl hb (fun t h => ht t (by simp [h])) h1 fun x hx => hlt x (by simp [hx]))
def parsOk (P : Program) (ts : List TypeId) : Bool := ts.all fun t => P.readableRec t && decide (t < P.types.size)
theorem post_law {H : Type} {enc : TypeId × Value → H} {P : Program} {f : Func} {s : ChangeSpec} {W W' : World} {args : Array Value} {ds gs : List (DataW H)} {before : List MemPlace} {tb : TypeId} (hl : laidOutB P = true) (hv : s.vars = []) (hpar : parsOk P f.params.toList = true)
    (hrt : f.resultTypes = #[tb]) (hbool : P.underlying tb = some .bool) (hfn : s.fn H ds = { results := [.lit (.bool true)], args := ds }) (hW : DataW.Whole enc P f.params.toList s.vars false W args.toList ds gs before) (hb : Below W.heap.size W W') :
    s.post enc P f false true false false W args (.bool true) W' := by
  have hW' := hW
  have hlt := hW.lt
  obtain ⟨p, q, hA, hV, rfl, hfz, hnd⟩ := hW
  rw [hv] at hV
  obtain ⟨rfl, rfl⟩ := trodVars_none hV
  have hpar' : ∀ t ∈ f.params.toList, P.readableRec t = true ∧ t < P.types.size := fun t ht => by
    have := List.all_eq_true.1 hpar t ht
    simpa using this
  refine ⟨ds, [], p ++ [], [], p, [], hW', ?_, ?_, ?_, World.keptBut_mono (fun _ h => h.elim) (World.keptBut_none_iff.2 ⟨hb.os, hb.output, hb.block⟩), fun h => by cases h⟩
  · rw [List.append_nil, hfn, hrt]
    exact trodAll_mk1 (shut_bool hbool true)
  · rw [List.append_nil, hfn]
    exact trodAll_stays hl hb hpar' hA fun x hx => hlt x (by simp [hx])
  · rw [List.append_nil, hfn, hv]
    exact rfl

/-! ### Sketches and deeds -/
theorem cellsI : Tryd.prog.cellsOf 3 = 1 := by kernel_rfl
theorem cellsB : Tryd.prog.cellsOf 4 = 1 := by kernel_rfl
theorem cellsU8 : Tryd.prog.cellsOf 5 = 1 := by kernel_rfl
theorem cellsBs : Tryd.prog.cellsOf 50 = 1 := by kernel_rfl
theorem cellsSk : Tryd.prog.cellsOf 52 = 2 := by kernel_rfl
theorem cellsDd : Tryd.prog.cellsOf 42 = 4 := by kernel_rfl
def byteRd {H : Type} (x : Nat) (d : DataW H) : Prop := x < 256
def GB (x : Nat) : List Value := [.int .u8 ((x : Nat) : Int)]
theorem byte_el {H : Type} {enc : TypeId × Value → H} {W : World} (fuel : Nat) (cs : List Value) (x : DataW H × List MemPlace) (h : DataW.trod enc Tryd.prog W 0 (fun _ => true) true fuel 5 cs = some x) : ∃ a : Nat, cs = GB a ∧ byteRd a x.1 := by
  obtain ⟨b, h1, e1, w1⟩ := DataW.trod_int Tryd.underlying5 h
  have b1 := bounds_u8 w1
  obtain ⟨b, rfl⟩ := Int.eq_ofNat_of_zero_le b1.1
  exact ⟨b, h1, by show b < 256; omega⟩
theorem slice_in {H : Type} {enc : TypeId × Value → H} {W : World} {t e : TypeId} {α : Type} (G : α → List Value) (k : Nat) (D : α → DataW H → Prop) (ht : Tryd.prog.underlying t = some (.slice e)) (hc : Tryd.prog.cellsOf e = k) (hk : 0 < k) (hG : ∀ a, (G a).length = k)
    (hel : ∀ fuel cs x, DataW.trod enc Tryd.prog W 0 (fun _ => true) true fuel e cs = some x → ∃ a, cs = G a ∧ D a x.1) {fuel : Nat} {c : Value} {x : DataW H × List MemPlace} (h : DataW.trod enc Tryd.prog W 0 (fun _ => true) true fuel t [c] = some x) :
    ∃ l : List α, SlR W k c l.length (l.flatMap G) ∧ ∀ y ∈ l, ∃ z, D y z := by
  have hv : ∃ a n cap, c = .slice a n cap := by
    rcases Deep.open_slice ht h with ⟨hcs, _⟩ | ⟨a, len, cap, m, n, D, Pl, hcs, _⟩
    · simp at hcs; exact ⟨_, _, _, hcs⟩
    · simp at hcs; exact ⟨_, _, _, hcs⟩
  obtain ⟨a, n, cap, rfl⟩ := hv
  obtain ⟨l, hl, _, hsl, hd⟩ := slice_read G k D ht hc hk hG hel (d := x.1) (p := x.2) ⟨fuel, h⟩
  refine ⟨l, by rw [hl]; exact hsl, fun y hy => ?_⟩
  obtain ⟨i, hi⟩ := List.getElem?_of_mem hy
  rcases hd with ⟨h1, h2⟩ | ⟨elems, rest, h1, h2, h3⟩
  · have := (List.getElem?_eq_some_iff.1 hi).1
    omega
  · obtain ⟨z, _, hz⟩ := h3 i y hi
    exact ⟨z, hz⟩
theorem GB_IB (l : List Nat) : l.flatMap GB = IB l := by
  induction l with
  | nil => rfl
  | cons a l ih => rw [List.flatMap_cons, ih]; rfl
def skRd {H : Type} (W : World) (x : SK) (d : DataW H) : Prop := SKok W x
set_option maxRecDepth 100000 in
theorem sk_el {H : Type} {enc : TypeId × Value → H} {W : World} (fuel : Nat) (cs : List Value) (x : DataW H × List MemPlace) (h : DataW.trod enc Tryd.prog W 0 (fun _ => true) true fuel 52 cs = some x) : ∃ a : SK, cs = GS a ∧ skRd W a x.1 := by
  obtain ⟨xs, m, rfl, hx, hl, hxl, hf⟩ := DataW.trod_struct Tryd.underlying52 h
  rw [cellsSk] at hl
  match cs, hl with
  | [c0, c1], _ =>
    match xs, hxl with
    | [y0, y1], _ =>
      have u0 := hf 0 ⟨"Depth", 5, 0, false, "", "", 0⟩ rfl
      have u1 := hf 1 ⟨"L", 50, 1, false, "", "", 8⟩ rfl
      dsimp only at u0 u1
      rw [cellsU8] at u0
      rw [cellsBs] at u1
      simp only [List.drop, List.take, List.getElem?_cons_zero, List.getElem?_cons_succ] at u0 u1
      obtain ⟨b, h0, e0, w0⟩ := DataW.trod_int Tryd.underlying5 u0
      obtain ⟨l, hsl, hbl⟩ := slice_in GB 1 byteRd Tryd.underlying50 cellsU8 (by decide) (fun _ => rfl) byte_el u1
      have b0 := bounds_u8 w0
      obtain ⟨b, rfl⟩ := Int.eq_ofNat_of_zero_le b0.1
      simp only [List.cons.injEq, and_true] at h0
      subst h0
      rw [GB_IB] at hsl
      exact ⟨⟨b, l, c1⟩, rfl, by show b < 256; omega, fun y hy => by obtain ⟨_, h⟩ := hbl y hy; exact h, hsl⟩
def dkRd {H : Type} (x : DK) (d : DataW H) : Prop := x.kind < 256 ∧ i64B x.id ∧ i64B x.of
set_option maxRecDepth 100000 in
theorem dk_el {H : Type} {enc : TypeId × Value → H} {W : World} (fuel : Nat) (cs : List Value) (x : DataW H × List MemPlace) (h : DataW.trod enc Tryd.prog W 0 (fun _ => true) true fuel 42 cs = some x) : ∃ a : DK, cs = GD a ∧ dkRd a x.1 := by
  obtain ⟨xs, m, rfl, hx, hl, hxl, hf⟩ := DataW.trod_struct Tryd.underlying42 h
  rw [cellsDd] at hl
  match cs, hl with
  | [c0, c1, c2, c3], _ =>
    match xs, hxl with
    | [y0, y1, y2, y3], _ =>
      have u0 := hf 0 ⟨"Kind", 5, 0, false, "", "", 0⟩ rfl
      have u1 := hf 1 ⟨"ID", 3, 1, false, "", "", 8⟩ rfl
      have u2 := hf 2 ⟨"Of", 3, 2, false, "", "", 16⟩ rfl
      have u3 := hf 3 ⟨"Near", 4, 3, false, "", "", 24⟩ rfl
      dsimp only at u0 u1 u2 u3
      rw [cellsU8] at u0
      rw [cellsI] at u1 u2
      rw [cellsB] at u3
      simp only [List.drop, List.take, List.getElem?_cons_zero, List.getElem?_cons_succ] at u0 u1 u2 u3
      obtain ⟨b, h0, e0, w0⟩ := DataW.trod_int Tryd.underlying5 u0
      obtain ⟨i, h1, e1, w1⟩ := DataW.trod_int Tryd.underlying3 u1
      obtain ⟨j, h2, e2, w2⟩ := DataW.trod_int Tryd.underlying3 u2
      obtain ⟨c, h3, e3⟩ := DataW.trod_bool Tryd.underlying4 u3
      have b0 := bounds_u8 w0
      have b1 := bounds_i64 w1
      have b2 := bounds_i64 w2
      obtain ⟨b, rfl⟩ := Int.eq_ofNat_of_zero_le b0.1
      simp only [List.cons.injEq, and_true] at h0 h1 h2 h3
      subst h0 h1 h2 h3
      exact ⟨⟨b, i, j, c⟩, rfl, by show b < 256; omega, by show i64B i; unfold i64B; omega, by show i64B j; unfold i64B; omega⟩
theorem open_sks {H : Type} {enc : TypeId × Value → H} {W : World} {v : Value} {d : DataW H} {ps : List MemPlace} {base : Nat} (hok : Value.okWide Tryd.prog W .any base 22 v) (hT : DataW.Trod enc Tryd.prog W 0 (fun _ => true) true 22 v d ps) :
    ∃ l : List SK, SlR W 2 v l.length (l.flatMap GS) ∧ ∀ x ∈ l, SKok W x := by
  obtain ⟨a0, len0, cap0, rfl⟩ := okWide_slice Tryd.underlying22 hok
  obtain ⟨l, hl, _, hsl, hd⟩ := slice_read GS 2 (skRd W) Tryd.underlying22 cellsSk (by decide) GS_len sk_el hT
  refine ⟨l, by rw [hl]; exact hsl, fun x hx => ?_⟩
  obtain ⟨i, hi⟩ := List.getElem?_of_mem hx
  rcases hd with ⟨h1, h2⟩ | ⟨elems, rest, h1, h2, h3⟩
  · have := (List.getElem?_eq_some_iff.1 hi).1
    omega
  · obtain ⟨z, _, hz⟩ := h3 i x hi
    exact hz
theorem open_dks {H : Type} {enc : TypeId × Value → H} {W : World} {v : Value} {d : DataW H} {ps : List MemPlace} {base : Nat} (hok : Value.okWide Tryd.prog W .any base 39 v) (hT : DataW.Trod enc Tryd.prog W 0 (fun _ => true) true 39 v d ps) :
    ∃ l : List DK, SlR W 4 v l.length (l.flatMap GD) ∧ ∀ x ∈ l, x.kind < 256 ∧ i64B x.id ∧ i64B x.of := by
  obtain ⟨a0, len0, cap0, rfl⟩ := okWide_slice Tryd.underlying39 hok
  obtain ⟨l, hl, _, hsl, hd⟩ := slice_read GD 4 dkRd Tryd.underlying39 cellsDd (by decide) GD_len dk_el hT
  refine ⟨l, by rw [hl]; exact hsl, fun x hx => ?_⟩
  obtain ⟨i, hi⟩ := List.getElem?_of_mem hx
  rcases hd with ⟨h1, h2⟩ | ⟨elems, rest, h1, h2, h3⟩
  · have := (List.getElem?_eq_some_iff.1 hi).1
    omega
  · obtain ⟨z, _, hz⟩ := h3 i x hi
    exact hz
end Go.Proofs.YthjpgkefifkhjaaDoor
