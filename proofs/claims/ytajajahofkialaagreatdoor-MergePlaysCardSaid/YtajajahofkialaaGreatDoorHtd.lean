/- Deeds among the arguments. -/
import Derived.Test.YtajajahofkialaaGreatDoorHts
import Derived.Test.YtajajahofkialaaGreatDoorHr
namespace Go.Proofs.YtajajahofkialaaGreatDoor
open Go Go.V Go.RowKit Go.ChangeShapes Go.WideShapes Go.ChangeAt
set_option linter.unusedVariables false
set_option linter.unusedSimpArgs false

theorem cellsI : Tryz.prog.cellsOf 3 = 1 := by kernel_rfl
theorem cellsB : Tryz.prog.cellsOf 4 = 1 := by kernel_rfl
theorem cellsU8s : Tryz.prog.cellsOf 34 = 1 := by kernel_rfl
theorem cellsDl : Tryz.prog.cellsOf 36 = 7 := by kernel_rfl
def u8sOk (W : World) (p : Value × List Nat) : Prop := SlR W 1 p.1 p.2.length (IB p.2) ∧ ∀ x ∈ p.2, x < 256
def u8sRd {H : Type} (W : World) (p : Value × List Nat) (d : DataW H) : Prop := u8sOk W p
theorem u8s_el {H : Type} {enc : TypeId × Value → H} {W : World} (fuel : Nat) (cs : List Value) (x : DataW H × List MemPlace) (h : DataW.trod enc Tryz.prog W 0 (fun _ => true) true fuel 34 cs = some x) : ∃ p : Value × List Nat, cs = [p.1] ∧ u8sRd W p x.1 := by
  have hv : ∃ a n cap, cs = [.slice a n cap] := by
    rcases Deep.open_slice Tryz.underlying34 h with ⟨hcs, _⟩ | ⟨a, len, cap, m, n, D, Pl, hcs, _⟩
    · exact ⟨_, _, _, hcs⟩
    · exact ⟨_, _, _, hcs⟩
  obtain ⟨a, n, cap, rfl⟩ := hv
  obtain ⟨l, hl, _, hsl, hd⟩ := slice_read GU8 1 u8Rd Tryz.underlying34 cellsU8 (by decide) (fun _ => rfl) u8_el (d := x.1) (p := x.2) ⟨fuel, h⟩
  refine ⟨(.slice a n cap, l), rfl, by rw [hl, ← GU8_IB]; exact hsl, fun y hy => ?_⟩
  obtain ⟨i, hi⟩ := List.getElem?_of_mem hy
  rcases hd with ⟨h1, h2⟩ | ⟨elems, rest, h1, h2, h3⟩
  · have h3 := (List.getElem?_eq_some_iff.1 hi).1
    dsimp only at h3
    omega
  · obtain ⟨z, _, hz⟩ := h3 i y hi
    exact hz
def dlRd {H : Type} (W : World) (x : DL) (d : DataW H) : Prop := dlOk W x
set_option maxRecDepth 100000 in
set_option maxHeartbeats 1000000 in
theorem dl_el {H : Type} {enc : TypeId × Value → H} {W : World} (fuel : Nat) (cs : List Value) (x : DataW H × List MemPlace) (h : DataW.trod enc Tryz.prog W 0 (fun _ => true) true fuel 36 cs = some x) : ∃ a : DL, cs = GDl a ∧ dlRd W a x.1 := by
  obtain ⟨xs, m, rfl, hx, hl, hxl, hf⟩ := DataW.trod_struct Tryz.underlying36 h
  rw [cellsDl] at hl
  match cs, hl with
  | [c0, c1, c2, c3, c4, c5, c6], _ =>
    match xs, hxl with
    | [y0, y1, y2, y3, y4, y5, y6], _ =>
      have u0 := hf 0 ⟨"Kind", 5, 0, false, "", "", 0⟩ rfl
      have u1 := hf 1 ⟨"ID", 3, 1, false, "", "", 8⟩ rfl
      have u2 := hf 2 ⟨"Type", 3, 2, false, "", "", 16⟩ rfl
      have u3 := hf 3 ⟨"Near", 4, 3, false, "", "", 24⟩ rfl
      have u4 := hf 4 ⟨"L", 34, 4, false, "", "", 32⟩ rfl
      have u5 := hf 5 ⟨"Many", 5, 5, false, "", "", 56⟩ rfl
      have u6 := hf 6 ⟨"Name", 5, 6, false, "", "", 57⟩ rfl
      dsimp only at u0 u1 u2 u3 u4 u5 u6
      rw [cellsU8] at u0 u5 u6
      rw [cellsI] at u1 u2
      rw [cellsB] at u3
      rw [cellsU8s] at u4
      simp only [List.drop, List.take, List.getElem?_cons_zero, List.getElem?_cons_succ] at u0 u1 u2 u3 u4 u5 u6
      obtain ⟨a0, g0, e0, w0⟩ := DataW.trod_int Tryz.underlying5 u0
      obtain ⟨a1, g1, e1, w1⟩ := DataW.trod_int Tryz.underlying3 u1
      obtain ⟨a2, g2, e2, w2⟩ := DataW.trod_int Tryz.underlying3 u2
      obtain ⟨a3, g3, e3⟩ := DataW.trod_bool Tryz.underlying4 u3
      obtain ⟨p4, g4, hp4⟩ := u8s_el _ _ _ u4
      obtain ⟨a5, g5, e5, w5⟩ := DataW.trod_int Tryz.underlying5 u5
      obtain ⟨a6, g6, e6, w6⟩ := DataW.trod_int Tryz.underlying5 u6
      have b0 := bounds_u8 w0
      have b1 := bounds_i64 w1
      have b2 := bounds_i64 w2
      have b5 := bounds_u8 w5
      have b6 := bounds_u8 w6
      obtain ⟨a0, rfl⟩ := Int.eq_ofNat_of_zero_le b0.1
      obtain ⟨a5, rfl⟩ := Int.eq_ofNat_of_zero_le b5.1
      obtain ⟨a6, rfl⟩ := Int.eq_ofNat_of_zero_le b6.1
      simp only [List.cons.injEq, and_true] at g0 g1 g2 g3 g4 g5 g6
      subst g0 g1 g2 g3 g4 g5 g6
      exact ⟨⟨a0, a1, a2, a3, p4.1, p4.2, a5, a6⟩, rfl, ⟨by show a0 < 256; omega, ⟨b1.1, by show a1 < _; omega⟩, ⟨b2.1, by show a2 < _; omega⟩, by show a5 < 256; omega, by show a6 < 256; omega, hp4.1, hp4.2⟩⟩
set_option maxRecDepth 100000 in
theorem open_dls {H : Type} {enc : TypeId × Value → H} {W : World} {v : Value} {d : DataW H} {ps : List MemPlace} {base : Nat} (hok : Value.okWide Tryz.prog W .any base 22 v) (hT : DataW.Trod enc Tryz.prog W 0 (fun _ => true) true 22 v d ps) :
    ∃ l : List DL, SlR W 7 v l.length (l.flatMap GDl) ∧ ∀ x ∈ l, dlOk W x := by
  obtain ⟨a0, len0, cap0, rfl⟩ := okWide_slice Tryz.underlying22 hok
  obtain ⟨l, hl, _, hsl, hd⟩ := slice_read GDl 7 (dlRd W) Tryz.underlying22 cellsDl (by decide) GDl_len dl_el hT
  refine ⟨l, by rw [hl]; exact hsl, fun x hx => ?_⟩
  obtain ⟨i, hi⟩ := List.getElem?_of_mem hx
  rcases hd with ⟨h1, h2⟩ | ⟨elems, rest, h1, h2, h3⟩
  · have := (List.getElem?_eq_some_iff.1 hi).1
    omega
  · obtain ⟨z, _, hz⟩ := h3 i x hi
    exact hz
end Go.Proofs.YtajajahofkialaaGreatDoor
