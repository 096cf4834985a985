/- A Made among the arguments: what is read. -/
import Derived.Test.YthlbgeonobicbaaDoorRa
import Derived.Test.YthlbgeonobicbaaDoorVS
import Derived.Test.YthlbgeonobicbaaDoorYo
namespace Go.Proofs.YthlbgeonobicbaaDoor
open Go Go.V Go.RowKit Go.ChangeShapes Go.WideShapes Go.ChangeAt
set_option linter.unusedVariables false
set_option linter.unusedSimpArgs false

theorem cellsI : Tryd.prog.cellsOf 3 = 1 := by kernel_rfl
theorem cellsB : Tryd.prog.cellsOf 4 = 1 := by kernel_rfl
theorem cellsU8 : Tryd.prog.cellsOf 5 = 1 := by kernel_rfl
theorem cellsU : Tryd.prog.cellsOf 22 = 1 := by kernel_rfl
theorem cellsR : Tryd.prog.cellsOf 51 = 2 := by kernel_rfl
theorem cellsA : Tryd.prog.cellsOf 65 = 3 := by kernel_rfl
theorem cellsRs : Tryd.prog.cellsOf 23 = 1 := by kernel_rfl
theorem cellsAs : Tryd.prog.cellsOf 24 = 1 := by kernel_rfl
theorem cellsP : Tryd.prog.cellsOf 26 = 8 := by kernel_rfl
theorem cellsM : Tryd.prog.cellsOf 28 = 12 := by kernel_rfl
def ruleRd {H : Type} (x : RuleD) (d : DataW H) : Prop := d = .agg [.lit (.string x.1), .lit (.string x.2)]
def addrRd {H : Type} (x : AddrD) (d : DataW H) : Prop := x.2.1 < 18446744073709551616 ∧ x.2.2 < 18446744073709551616 ∧ d = .agg [.lit (.string x.1), .lit (.int .u64 (x.2.1 : Int)), .lit (.int .u64 (x.2.2 : Int))]
set_option maxRecDepth 100000 in
theorem rule_el {H : Type} {enc : TypeId × Value → H} {W : World} (fuel : Nat) (cs : List Value) (x : DataW H × List MemPlace) (h : DataW.trod enc Tryd.prog W 0 (fun _ => true) true fuel 51 cs = some x) : ∃ a : RuleD, cs = GR a ∧ ruleRd a x.1 := by
  obtain ⟨xs, m, rfl, hx, hl, hxl, hf⟩ := DataW.trod_struct Tryd.underlying51 h
  rw [cellsR] at hl
  match cs, hl with
  | [c0, c1], _ =>
    match xs, hxl with
    | [y0, y1], _ =>
      have u0 := hf 0 ⟨"Prefix", 9, 0, false, "", "", 0⟩ rfl
      have u1 := hf 1 ⟨"Cluster", 9, 1, false, "", "", 16⟩ rfl
      dsimp only at u0 u1
      rw [cellsS] at u0 u1
      simp only [List.drop, List.take, List.getElem?_cons_zero, List.getElem?_cons_succ] at u0 u1
      obtain ⟨a, h0, e0, w0⟩ := DataW.trod_string Tryd.underlying9 u0
      obtain ⟨b, h1, e1, w1⟩ := DataW.trod_string Tryd.underlying9 u1
      simp only [List.cons.injEq, and_true] at h0 h1
      subst h0 h1
      refine ⟨(a.data.toList, b.data.toList), rfl, ?_⟩
      show x.1 = _
      rw [hx, e0, e1]; rfl
set_option maxRecDepth 100000 in
theorem addr_el {H : Type} {enc : TypeId × Value → H} {W : World} (fuel : Nat) (cs : List Value) (x : DataW H × List MemPlace) (h : DataW.trod enc Tryd.prog W 0 (fun _ => true) true fuel 65 cs = some x) : ∃ a : AddrD, cs = GA a ∧ addrRd a x.1 := by
  obtain ⟨xs, m, rfl, hx, hl, hxl, hf⟩ := DataW.trod_struct Tryd.underlying65 h
  rw [cellsA] at hl
  match cs, hl with
  | [c0, c1, c2], _ =>
    match xs, hxl with
    | [y0, y1, y2], _ =>
      have u0 := hf 0 ⟨"Host", 9, 0, false, "", "", 0⟩ rfl
      have u1 := hf 1 ⟨"Port", 22, 1, false, "", "", 16⟩ rfl
      have u2 := hf 2 ⟨"Weight", 22, 2, false, "", "", 24⟩ rfl
      dsimp only at u0 u1 u2
      rw [cellsS] at u0
      rw [cellsU] at u1 u2
      simp only [List.drop, List.take, List.getElem?_cons_zero, List.getElem?_cons_succ] at u0 u1 u2
      obtain ⟨a, h0, e0, w0⟩ := DataW.trod_string Tryd.underlying9 u0
      obtain ⟨b, h1, e1, w1⟩ := DataW.trod_int Tryd.underlying22 u1
      obtain ⟨c, h2, e2, w2⟩ := DataW.trod_int Tryd.underlying22 u2
      have b1 := bounds_u64 w1
      have b2 := bounds_u64 w2
      obtain ⟨b, rfl⟩ := Int.eq_ofNat_of_zero_le b1.1
      obtain ⟨c, rfl⟩ := Int.eq_ofNat_of_zero_le b2.1
      simp only [List.cons.injEq, and_true] at h0 h1 h2
      subst h0 h1 h2
      refine ⟨(a.data.toList, b, c), rfl, by show b < _; omega, by show c < _; omega, ?_⟩
      show x.1 = _
      rw [hx, e0, e1, e2]; rfl
/-- A slice within what came in: what it reads, and how much that is. -/
theorem slice_in {H : Type} {enc : TypeId × Value → H} {W : World} {t e : TypeId} {α : Type} (G : α → List Value) (k : Nat) (D : α → DataW H → Prop) (ht : Tryd.prog.underlying t = some (.slice e)) (hc : Tryd.prog.cellsOf e = k) (hk : 0 < k) (hG : ∀ a, (G a).length = k)
    (hel : ∀ fuel cs x, DataW.trod enc Tryd.prog W 0 (fun _ => true) true fuel e cs = some x → ∃ a, cs = G a ∧ D a x.1) {fuel : Nat} {c : Value} {x : DataW H × List MemPlace} (h : DataW.trod enc Tryd.prog W 0 (fun _ => true) true fuel t [c] = some x) :
    ∃ l : List α, SlR W k c l.length (l.flatMap G) ∧ ((x.1 = .nil ∧ l = []) ∨ ∃ elems rest, x.1 = .slice elems rest ∧ elems.length = l.length ∧ ∀ (i : Nat) (y : α), l[i]? = some y → ∃ z, elems[i]? = some z ∧ D y z) := by
  have hv : ∃ a n cap, c = .slice a n cap := by
    rcases Deep.open_slice ht h with ⟨hcs, _⟩ | ⟨a, len, cap, m, n, D, Pl, hcs, _⟩
    · simp at hcs; exact ⟨_, _, _, hcs⟩
    · simp at hcs; exact ⟨_, _, _, hcs⟩
  obtain ⟨a, n, cap, rfl⟩ := hv
  obtain ⟨l, hl, _, hsl, hd⟩ := slice_read G k D ht hc hk hG hel (d := x.1) (p := x.2) ⟨fuel, h⟩
  refine ⟨l, by rw [hl]; exact hsl, ?_⟩
  rcases hd with ⟨h1, h2⟩ | ⟨elems, rest, h1, h2, h3⟩
  · exact .inl ⟨h1, List.eq_nil_of_length_eq_zero (by omega)⟩
  · exact .inr ⟨elems, rest, h1, by omega, h3⟩
theorem bulk_pos {H : Type} (d : DataW H) : 1 ≤ Rows.uptoBulk d := by
  unfold Rows.uptoBulk; split <;> omega
theorem bulk_len {H : Type} : ∀ (l : List (DataW H)), l.length ≤ Rows.uptoBulkAll l
  | [] => Nat.zero_le _
  | d :: l => by
    have := bulk_len l
    have := bulk_pos d
    simp only [Rows.uptoBulkAll, List.length_cons]; omega
theorem bulk_mem {H : Type} : ∀ (l : List (DataW H)) (i : Nat) (y : DataW H), l[i]? = some y → Rows.uptoBulk y ≤ Rows.uptoBulkAll l
  | [], i, y, h => by simp at h
  | d :: l, 0, y, h => by simp at h; subst h; simp only [Rows.uptoBulkAll]; omega
  | d :: l, i + 1, y, h => by
    have := bulk_mem l i y (by simpa using h)
    simp only [Rows.uptoBulkAll]; omega
theorem slice_small {H : Type} {α : Type} {D : α → DataW H → Prop} {l : List α} {d : DataW H} (h : (d = .nil ∧ l = []) ∨ ∃ elems rest, d = .slice elems rest ∧ elems.length = l.length ∧ ∀ (i : Nat) (y : α), l[i]? = some y → ∃ z, elems[i]? = some z ∧ D y z) {B : Nat} (hB : Rows.uptoBulk d ≤ B) :
    l.length ≤ B ∧ ∀ y ∈ l, ∃ z, D y z ∧ Rows.uptoBulk z ≤ B := by
  rcases h with ⟨_, rfl⟩ | ⟨elems, rest, rfl, h2, h3⟩
  · exact ⟨Nat.zero_le _, fun y hy => nomatch hy⟩
  · have h4 := bulk_len elems
    simp only [Rows.uptoBulk] at hB
    refine ⟨by omega, fun y hy => ?_⟩
    obtain ⟨i, hi⟩ := List.getElem?_of_mem hy
    obtain ⟨z, hz, hD⟩ := h3 i y hi
    have := bulk_mem elems i z hz
    exact ⟨z, hD, by omega⟩
set_option maxRecDepth 100000 in
theorem trod_pl {H : Type} {enc : TypeId × Value → H} {W : World} {fuel : Nat} {cs : List Value} {x : DataW H × List MemPlace} (h : DataW.trod enc Tryd.prog W 0 (fun _ => true) true fuel 26 cs = some x) :
    ∃ (p : PL) (rv av : Value), cs = PlC p rv av ∧ PlS W p rv av ∧ (Rows.uptoBulk x.1 ≤ 1048576 → p.ok) := by
  obtain ⟨xs, m, rfl, hx, hl, hxl, hf⟩ := DataW.trod_struct Tryd.underlying26 h
  rw [cellsP] at hl
  match cs, hl with
  | [c0, c1, c2, c3, c4, c5, c6, c7], _ =>
    match xs, hxl with
    | [y0, y1, y2, y3, y4, y5, y6, y7], _ =>
      have u0 := hf 0 ⟨"Name", 9, 0, false, "", "", 0⟩ rfl
      have u1 := hf 1 ⟨"Port", 22, 1, false, "", "", 16⟩ rfl
      have u2 := hf 2 ⟨"Route", 9, 2, false, "", "", 24⟩ rfl
      have u3 := hf 3 ⟨"Rules", 23, 3, false, "", "", 40⟩ rfl
      have u4 := hf 4 ⟨"Policy", 22, 4, false, "", "", 64⟩ rfl
      have u5 := hf 5 ⟨"Secret", 9, 5, false, "", "", 72⟩ rfl
      have u6 := hf 6 ⟨"Addrs", 24, 6, false, "", "", 88⟩ rfl
      have u7 := hf 7 ⟨"Key", 9, 7, false, "", "", 112⟩ rfl
      dsimp only at u0 u1 u2 u3 u4 u5 u6 u7
      rw [cellsS] at u0 u2 u5 u7
      rw [cellsU] at u1 u4
      rw [cellsRs] at u3
      rw [cellsAs] at u6
      simp only [List.drop, List.take, List.getElem?_cons_zero, List.getElem?_cons_succ] at u0 u1 u2 u3 u4 u5 u6 u7
      obtain ⟨a, h0, e0, w0⟩ := DataW.trod_string Tryd.underlying9 u0
      obtain ⟨b, h1, e1, w1⟩ := DataW.trod_int Tryd.underlying22 u1
      obtain ⟨c, h2, e2, w2⟩ := DataW.trod_string Tryd.underlying9 u2
      obtain ⟨rs, hrs, hrd⟩ := slice_in GR 2 ruleRd Tryd.underlying23 cellsR (by decide) (fun _ => rfl) rule_el u3
      obtain ⟨d, h4, e4, w4⟩ := DataW.trod_int Tryd.underlying22 u4
      obtain ⟨e, h5, e5, w5⟩ := DataW.trod_string Tryd.underlying9 u5
      obtain ⟨ads, has, had⟩ := slice_in GA 3 addrRd Tryd.underlying24 cellsA (by decide) (fun _ => rfl) addr_el u6
      obtain ⟨k, h7, e7, w7⟩ := DataW.trod_string Tryd.underlying9 u7
      have b1 := bounds_u64 w1
      have b4 := bounds_u64 w4
      obtain ⟨b, rfl⟩ := Int.eq_ofNat_of_zero_le b1.1
      obtain ⟨d, rfl⟩ := Int.eq_ofNat_of_zero_le b4.1
      simp only [List.cons.injEq, and_true] at h0 h1 h2 h4 h5 h7
      subst h0 h1 h2 h4 h5 h7
      refine ⟨⟨a.data.toList, b, c.data.toList, rs, d, e.data.toList, ads, k.data.toList⟩, c3, c6, rfl, ⟨hrs, has⟩, fun hB => ?_⟩
      have hx1 : x.1 = .agg [.lit (.string a.data.toList), .lit (.int .u64 (b : Int)), .lit (.string c.data.toList), y3.1, .lit (.int .u64 (d : Int)), .lit (.string e.data.toList), y6.1, .lit (.string k.data.toList)] := by
        rw [hx, e0, e1, e2, e4, e5, e7]; rfl
      rw [hx1] at hB
      simp only [Rows.uptoBulk, Rows.uptoBulkAll] at hB
      obtain ⟨r1, r2⟩ := slice_small hrd (B := 1048576) (by omega)
      obtain ⟨a1, a2⟩ := slice_small had (B := 1048576) (by omega)
      refine ⟨?_, ?_, ?_, fun r hr => ?_, ?_, ?_, ?_, fun r hr => ?_, ?_, ?_⟩
      · show a.data.toList.length ≤ _; omega
      · show b < _; omega
      · show c.data.toList.length ≤ _; omega
      · obtain ⟨z, rfl, hz⟩ := r2 r hr
        simp only [Rows.uptoBulk, Rows.uptoBulkAll] at hz
        exact ⟨by omega, by omega⟩
      · show rs.length ≤ _; omega
      · show d < _; omega
      · show e.data.toList.length ≤ _; omega
      · obtain ⟨z, ⟨q1, q2, rfl⟩, hz⟩ := a2 r hr
        simp only [Rows.uptoBulk, Rows.uptoBulkAll] at hz
        exact ⟨by omega, q1, q2⟩
      · show ads.length ≤ _; omega
      · show k.data.toList.length ≤ _; omega
set_option maxRecDepth 100000 in
theorem open_made {H : Type} {enc : TypeId × Value → H} {W : World} {base : Nat} {v : Value} {d : DataW H} {ps : List MemPlace} (hok : Value.okWide Tryd.prog W .any base 28 v) (hT : DataW.Trod enc Tryd.prog W 0 (fun _ => true) true 28 v d ps) :
    ∃ (m : MD) (rv av : Value), v = MdV m rv av ∧ PlS W m.p rv av ∧ (Rows.uptoBulk d ≤ 1048576 → m.ok) := by
  obtain ⟨cs, rfl, hsz⟩ := okWide_struct Tryd.underlying28 hok
  obtain ⟨fuel, h⟩ := hT
  obtain ⟨xs, m, rfl, hx, hl, hxl, hf⟩ := DataW.trod_struct Tryd.underlying28 h
  rw [cellsM] at hl
  obtain ⟨cl, hcl⟩ : ∃ cl, cl = (Value.agg cs).cells.toList := ⟨_, rfl⟩
  have hcs : cs = cl.toArray := by apply Array.toList_inj.1; rw [hcl]; rfl
  rw [← hcl] at hl hf
  clear hcl
  match cl, hl, hf, hcs with
  | [c0, c1, c2, c3, c4, c5, c6, c7, c8, c9, c10, c11], _, hf, hcs =>
    match xs, hxl, hf, hx with
    | [y0, y1, y2, y3, y4], _, hf, hx =>
      have u0 := hf 0 ⟨"P", 26, 0, false, "", "", 0⟩ rfl
      have u1 := hf 1 ⟨"Kind", 3, 8, false, "", "", 128⟩ rfl
      have u2 := hf 2 ⟨"Own", 4, 9, false, "", "", 136⟩ rfl
      have u3 := hf 3 ⟨"Name", 5, 10, false, "", "", 137⟩ rfl
      have u4 := hf 4 ⟨"Many", 5, 11, false, "", "", 138⟩ rfl
      dsimp only at u0 u1 u2 u3 u4
      rw [cellsP] at u0
      rw [cellsI] at u1
      rw [cellsB] at u2
      rw [cellsU8] at u3 u4
      simp only [List.drop, List.take, List.getElem?_cons_zero, List.getElem?_cons_succ] at u0 u1 u2 u3 u4
      obtain ⟨p, rv, av, h0, hs, hp⟩ := trod_pl u0
      obtain ⟨a, h1, e1, w1⟩ := DataW.trod_int Tryd.underlying3 u1
      obtain ⟨b, h2, e2⟩ := DataW.trod_bool Tryd.underlying4 u2
      obtain ⟨n, h3, e3, w3⟩ := DataW.trod_int Tryd.underlying5 u3
      obtain ⟨k, h4, e4, w4⟩ := DataW.trod_int Tryd.underlying5 u4
      have b1 := bounds_i64 w1
      have b3 := bounds_u8 w3
      have b4 := bounds_u8 w4
      obtain ⟨n, rfl⟩ := Int.eq_ofNat_of_zero_le b3.1
      obtain ⟨k, rfl⟩ := Int.eq_ofNat_of_zero_le b4.1
      simp only [List.cons.injEq, and_true, PlC] at h0 h1 h2 h3 h4
      obtain ⟨g0, g1, g2, g3, g4, g5, g6, g7⟩ := h0
      subst h1 h2 h3 h4 g0 g1 g2 g3 g4 g5 g6 g7
      refine ⟨⟨p, a, b, n, k⟩, c3, c6, by rw [hcs]; rfl, hs, fun hB => ?_⟩
      have hd : d = .agg [y0.1, y1.1, y2.1, y3.1, y4.1] := by
        have := congrArg Prod.fst hx; exact this
      rw [hd] at hB
      simp only [Rows.uptoBulk, Rows.uptoBulkAll] at hB
      exact ⟨hp (by omega), ⟨by show _ ≤ a; omega, by show a ≤ _; omega⟩, by show n < 256; omega, by show k < 256; omega⟩
end Go.Proofs.YthlbgeonobicbaaDoor
