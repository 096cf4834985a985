/- Deeds among the arguments. -/
import Derived.Test.YtjaojihogmnjhaaGreatDoorKts
import Derived.Test.YtjaojihogmnjhaaGreatDoorJi
namespace Go.Proofs.YtjaojihogmnjhaaGreatDoor
open Go Go.V Go.RowKit Go.ChangeShapes Go.WideShapes Go.ChangeAt
set_option linter.unusedVariables false
set_option linter.unusedSimpArgs false

theorem cellsI : Tryz.prog.cellsOf 3 = 1 := by kernel_rfl
theorem cellsU64 : Tryz.prog.cellsOf 30 = 1 := by kernel_rfl
theorem cellsB : Tryz.prog.cellsOf 4 = 1 := by kernel_rfl
theorem cellsStr : Tryz.prog.cellsOf 9 = 1 := by kernel_rfl
theorem cellsIs : Tryz.prog.cellsOf 31 = 1 := by kernel_rfl
theorem cellsDe : Tryz.prog.cellsOf 33 = 8 := by kernel_rfl
theorem slice_in {H : Type} {enc : TypeId × Value → H} {W : World} {t e : TypeId} {α : Type} (G : α → List Value) (k : Nat) (D : α → DataW H → Prop) (ht : Tryz.prog.underlying t = some (.slice e)) (hc : Tryz.prog.cellsOf e = k) (hk : 0 < k) (hG : ∀ a, (G a).length = k)
    (hel : ∀ fuel cs x, DataW.trod enc Tryz.prog W 0 (fun _ => true) true fuel e cs = some x → ∃ a, cs = G a ∧ D a x.1) {fuel : Nat} {c : Value} {x : DataW H × List MemPlace} (h : DataW.trod enc Tryz.prog W 0 (fun _ => true) true fuel t [c] = some x) :
    ∃ l : List α, SlR W k c l.length (l.flatMap G) ∧ l.length ≤ maxLen := by
  have hv : ∃ a n cap, c = .slice a n cap := by
    rcases Deep.open_slice ht h with ⟨hcs, _⟩ | ⟨a, len, cap, m, n, D, Pl, hcs, _⟩
    · simp at hcs; exact ⟨_, _, _, hcs⟩
    · simp at hcs; exact ⟨_, _, _, hcs⟩
  obtain ⟨a, n, cap, rfl⟩ := hv
  obtain ⟨l, hl, hml, hsl, hd⟩ := slice_read G k D ht hc hk hG hel (d := x.1) (p := x.2) ⟨fuel, h⟩
  exact ⟨l, by rw [hl]; exact hsl, by rw [hl]; exact hml⟩
def GI64 (x : Int) : List Value := [.int .i64 x]
theorem i64_el {H : Type} {enc : TypeId × Value → H} {W : World} (fuel : Nat) (cs : List Value) (x : DataW H × List MemPlace) (h : DataW.trod enc Tryz.prog W 0 (fun _ => true) true fuel 3 cs = some x) : ∃ a : Int, cs = GI64 a ∧ True := by
  obtain ⟨b, h1, e1, w1⟩ := DataW.trod_int Tryz.underlying3 h
  exact ⟨b, h1, trivial⟩
theorem GI64_map (l : List Int) : l.flatMap GI64 = l.map (Value.int .i64) := by
  induction l with
  | nil => rfl
  | cons a l ih => rw [List.flatMap_cons, ih]; rfl
def deRd {H : Type} (W : World) (x : DE) (d : DataW H) : Prop := deOk W x
set_option maxRecDepth 100000 in
set_option maxHeartbeats 1000000 in
theorem de_el {H : Type} {enc : TypeId × Value → H} {W : World} (fuel : Nat) (cs : List Value) (x : DataW H × List MemPlace) (h : DataW.trod enc Tryz.prog W 0 (fun _ => true) true fuel 33 cs = some x) : ∃ a : DE, cs = GDe a ∧ deRd W a x.1 := by
  obtain ⟨xs, m, rfl, hx, hl, hxl, hf⟩ := DataW.trod_struct Tryz.underlying33 h
  rw [cellsDe] at hl
  match cs, hl with
  | [c0, c1, c2, c3, c4, c5, c6, c7], _ =>
    match xs, hxl with
    | [y0, y1, y2, y3, y4, y5, y6, y7], _ =>
      have u0 := hf 0 ⟨"Kind", 5, 0, false, "", "", 0⟩ rfl
      have u1 := hf 1 ⟨"ID", 3, 1, false, "", "", 8⟩ rfl
      have u2 := hf 2 ⟨"Name", 5, 2, false, "", "", 16⟩ rfl
      have u3 := hf 3 ⟨"Seq", 30, 3, false, "", "", 24⟩ rfl
      have u4 := hf 4 ⟨"OK", 4, 4, false, "", "", 32⟩ rfl
      have u5 := hf 5 ⟨"S", 9, 5, false, "", "", 40⟩ rfl
      have u6 := hf 6 ⟨"Who", 31, 6, false, "", "", 56⟩ rfl
      have u7 := hf 7 ⟨"Near", 4, 7, false, "", "", 80⟩ rfl
      dsimp only at u0 u1 u2 u3 u4 u5 u6 u7
      rw [cellsU8] at u0 u2
      rw [cellsI] at u1
      rw [cellsU64] at u3
      rw [cellsB] at u4 u7
      rw [cellsStr] at u5
      rw [cellsIs] at u6
      simp only [List.drop, List.take, List.getElem?_cons_zero, List.getElem?_cons_succ] at u0 u1 u2 u3 u4 u5 u6 u7
      obtain ⟨a0, g0, e0, w0⟩ := DataW.trod_int Tryz.underlying5 u0
      obtain ⟨a1, g1, e1, w1⟩ := DataW.trod_int Tryz.underlying3 u1
      obtain ⟨a2, g2, e2, w2⟩ := DataW.trod_int Tryz.underlying5 u2
      obtain ⟨a3, g3, e3, w3⟩ := DataW.trod_int Tryz.underlying30 u3
      obtain ⟨a4, g4, e4⟩ := DataW.trod_bool Tryz.underlying4 u4
      obtain ⟨a5, g5, e5, w5⟩ := DataW.trod_string Tryz.underlying9 u5
      obtain ⟨l6, hsl6, hml6⟩ := slice_in GI64 1 (fun _ _ => True) Tryz.underlying31 cellsI (by decide) (fun _ => rfl) i64_el u6
      obtain ⟨a7, g7, e7⟩ := DataW.trod_bool Tryz.underlying4 u7
      have b0 := bounds_u8 w0
      have b1 := bounds_i64 w1
      have b2 := bounds_u8 w2
      have b3 := bounds_u64 w3
      obtain ⟨a0, rfl⟩ := Int.eq_ofNat_of_zero_le b0.1
      obtain ⟨a2, rfl⟩ := Int.eq_ofNat_of_zero_le b2.1
      obtain ⟨a3, rfl⟩ := Int.eq_ofNat_of_zero_le b3.1
      simp only [List.cons.injEq, and_true] at g0 g1 g2 g3 g4 g5 g7
      subst g0 g1 g2 g3 g4 g5 g7
      have h5 : a5.data.toList.length = a5.size := Array.length_toList
      rw [GI64_map] at hsl6
      exact ⟨⟨a0, a1, a2, a3, a4, a5.data.toList, c6, l6, a7⟩, rfl, ⟨by show a0 < 256; omega, b1, by show a2 < 256; omega, by show a3 < _; omega, by show a5.data.toList.length ≤ _; rw [h5]; exact w5, hsl6, by show l6.length ≤ _; exact Nat.le_trans hml6 (by decide)⟩⟩
set_option maxRecDepth 100000 in
theorem open_des {H : Type} {enc : TypeId × Value → H} {W : World} {v : Value} {d : DataW H} {ps : List MemPlace} {base : Nat} (hok : Value.okWide Tryz.prog W .any base 22 v) (hT : DataW.Trod enc Tryz.prog W 0 (fun _ => true) true 22 v d ps) :
    ∃ l : List DE, SlR W 8 v l.length (l.flatMap GDe) ∧ ∀ x ∈ l, deOk W x := by
  obtain ⟨a0, len0, cap0, rfl⟩ := okWide_slice Tryz.underlying22 hok
  obtain ⟨l, hl, _, hsl, hd⟩ := slice_read GDe 8 (deRd W) Tryz.underlying22 cellsDe (by decide) GDe_len de_el hT
  refine ⟨l, by rw [hl]; exact hsl, fun x hx => ?_⟩
  obtain ⟨i, hi⟩ := List.getElem?_of_mem hx
  rcases hd with ⟨h1, h2⟩ | ⟨elems, rest, h1, h2, h3⟩
  · have := (List.getElem?_eq_some_iff.1 hi).1
    omega
  · obtain ⟨z, _, hz⟩ := h3 i x hi
    exact hz
end Go.Proofs.YtjaojihogmnjhaaGreatDoor
