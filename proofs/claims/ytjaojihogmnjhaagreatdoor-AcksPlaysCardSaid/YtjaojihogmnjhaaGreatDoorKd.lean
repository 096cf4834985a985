/- wire.Varint, sizes, Put, Number, Text: what they do. -/
import Derived.Test.YtjaojihogmnjhaaGreatDoorM3
import Derived.Test.YtjaojihogmnjhaaGreatDoorTab
namespace Go.Proofs.YtjaojihogmnjhaaGreatDoor
open Go Go.V Go.RowKit
set_option linter.unusedVariables false
set_option linter.unusedSimpArgs false


/-- A number's bytes. -/
def varint (n : Nat) : List UInt8 := if h : n < 128 then [UInt8.ofNat n] else UInt8.ofNat (n % 128 + 128) :: varint (n / 128)
termination_by n
decreasing_by omega
theorem varint_lt {n : Nat} (h : n < 128) : varint n = [UInt8.ofNat n] := by unfold varint; rw [dif_pos h]
theorem varint_ge {n : Nat} (h : 128 ≤ n) : varint n = UInt8.ofNat (n % 128 + 128) :: varint (n / 128) := by rw [varint, dif_neg (by omega)]
theorem varint_le : ∀ (k n : Nat), n < 128 ^ (k + 1) → (varint n).length ≤ k + 1
  | 0, n, h => by rw [varint_lt (by omega)]; simp
  | k + 1, n, h => by
    by_cases hn : n < 128
    · rw [varint_lt hn]; simp
    · rw [varint_ge (by omega)]
      have := varint_le k (n / 128) (by rw [Nat.pow_succ] at h; omega)
      simp; omega
theorem bytesV_snoc (l : List UInt8) (b : UInt8) : bytesV (l ++ [b]) = bytesV l ++ [.int .u8 (b.toNat : Int)] := by simp [bytesV]
theorem byte_or (m : Nat) : bits .or .u8 ((m : Int) % 256) 128 = ((UInt8.ofNat (m % 128 + 128)).toNat : Int) := by
  rw [u8_or _ _ (by omega) (by omega) (by omega) (by omega)]
  have h1 : ((m : Int) % 256).toNat = m % 256 := by omega
  rw [h1]
  have h2 : m % 256 ||| (128 : Int).toNat = m % 128 + 128 := by
    show m % 256 ||| 128 = _
    have : ∀ x : Fin 256, (x.val ||| 128) = x.val % 128 + 128 := by decide +kernel
    have := this ⟨m % 256, Nat.mod_lt _ (by omega)⟩
    simp only at this
    rw [this]; omega
  rw [h2]
  simp; omega

set_option maxRecDepth 100000 in
set_option maxHeartbeats 1000000 in
theorem varint_ca (n : Nat) (hn : n < 18446744073709551616) (w : World) :
    Ca Tryz.prog 84 #[.int .u64 (n : Int)] w fun v w' => v = S (varint n) ∧ Keeps NoB w w' := by
  refine ca_of_body (args := [.int .u64 (n : Int)]) Tryz.func84 rfl (by kernel_rfl) ?_
  (repeat first | (apply wr_assign; exact rfl; with_reducible (conv => enter [6, 3]; whnf)) | apply wr_end | apply wc_seq | apply wc_region)
  refine wr_make0 (cap := 10) w.heap.size rfl rfl rfl (by decide) (by decide) (Nat.le_refl _) ?_
  intro v w1 ho1 hk1 hne1
  (repeat first | (apply wr_assign; exact rfl; with_reducible (conv => enter [6, 3]; whnf)) | apply wr_end | apply wc_seq | apply wc_block)
  refine wc_loopL (α := Nat × Value × List UInt8) (fun x => [(0, .int .u64 (x.1 : Int)), (3, x.2.1)])
    (fun x ds w' => ds = [] ∧ x.1 < 18446744073709551616 ∧ x.2.2.length ≤ 10 ∧ x.2.2 ++ varint x.1 = varint n ∧ w'.ownsRow w.heap.size 5 1 x.2.1 x.2.2.length (bytesV x.2.2) ∧ Keeps NoB w w') (fun x => x.1) (n, v, []) ⟨rfl, hn, by simp, rfl, ho1, hk1⟩ ⟨rfl, rfl, trivial⟩ ?_
  rintro ⟨m, v2, pre⟩ ds f0 w2 ⟨rfl, hm, hpl, hpre, ho2, hk2⟩
  simp only at hm hpl hpre ho2
  dsimp only
  have hvl := varint_le 9 n (by omega)
  have hle : pre.length + (varint m).length ≤ 10 := by rw [← List.length_append, hpre]; exact hvl
  have hpos : 1 ≤ (varint m).length := by unfold varint; split <;> simp
  by_cases hlt : m < 128
  · (repeat first | (apply wr_move; exact rfl; with_reducible (conv => enter [6, 3]; whnf)) | apply wr_end | apply wc_seq | apply wc_region | (apply wr_cmp; (iterate 3 exact rfl); exact cmpF (by dsimp only [cmpN]; first | done | omega)) | (apply wr_conv; (iterate 2 exact rfl); exact w_fit (by dsimp only [kIn]; first | done | omega)) | (apply wc_false; exact rfl) | (apply wc_exit; try simp only [thenE, inBlockE, bodyQ, ↓reduceIte, Nat.reduceEqDiff]))
    refine wr_buildSlice (vs := [.int .u8 (m : Int)]) rfl rfl (by intro v hv; simp at hv; subst hv; rfl) rfl (by decide) (by decide) (by decide) ?_
    refine wr_append (v := v2) (n := pre.length) (m := 1) (news := [.int .u8 (m : Int)]) rfl rfl (ho2.alloc _) rfl (heap_alloc_same _ _) rfl (by intro v hv; simp at hv; subst hv; rfl) rfl (by decide) (by omega) (by omega) (by have := hk2.size; simp; omega) ?_
    intro v3 w3 ho3 hk3 _
    have hb : bytesV pre ++ [.int .u8 (m : Int)] = bytesV (pre ++ [UInt8.ofNat m]) := by rw [bytesV_snoc]; simp; omega
    rw [hb] at ho3
    refine wr_bytes2str rfl rfl (SlR.of_own ho3) ?_
    (repeat first | (apply wr_assign; exact rfl; with_reducible (conv => enter [6, 3]; whnf)) | apply wr_end | (apply wc_ret; try simp only [thenE, inBlockE, bodyQ]))
    refine leave1 (v := S (pre ++ [UInt8.ofNat m])) rfl rfl ⟨?_, ?_⟩
    · rw [← hpre, varint_lt hlt]
    · exact (hk2.alloc _).trans' hk3 fun i hi h => absurd (ho2.lt i h).1 (by omega)
  · have hbyte : bits .or .u8 ((m : Int) % 256) 128 = ((UInt8.ofNat (m % 128 + 128)).toNat : Int) := byte_or m
    have hconv : IntKind.u8.wrap (m : Int) = (m : Int) % 256 := m_u8 _
    (repeat first | (apply wr_move; exact rfl; with_reducible (conv => enter [6, 3]; whnf)) | apply wr_end | apply wc_seq | apply wc_region | apply wc_skip | apply wc_block | (apply wr_cmp; (iterate 3 exact rfl); exact cmpT (by dsimp only [cmpP]; first | done | omega)) | (apply wr_conv; (iterate 2 exact rfl); (first | exact w_fit (by dsimp only [kIn]; first | done | omega) | with_reducible assumption | rfl)) | (apply wr_bits; exact rfl; (focus (simp; done)); (iterate 2 exact rfl); assumption) | (apply wc_true; exact rfl))
    refine wr_buildSlice (vs := [.int .u8 ((UInt8.ofNat (m % 128 + 128)).toNat : Int)]) rfl rfl (by intro v hv; simp at hv; subst hv; rfl) rfl (by decide) (by decide) (by decide) ?_
    refine wr_append (v := v2) (n := pre.length) (m := 1) (news := [.int .u8 ((UInt8.ofNat (m % 128 + 128)).toNat : Int)]) rfl rfl (ho2.alloc _) rfl (heap_alloc_same _ _) rfl (by intro v hv; simp at hv; subst hv; rfl) rfl (by decide) (by omega) (by omega) (by have := hk2.size; simp; omega) ?_
    intro v3 w3 ho3 hk3 _
    rw [← bytesV_snoc] at ho3
    (repeat first | (apply wr_move; exact rfl; with_reducible (conv => enter [6, 3]; whnf)) | (apply wr_assign; exact rfl; with_reducible (conv => enter [6, 3]; whnf)) | apply wc_region | (apply wr_nil; try simp only [thenE, inBlockE, bodyQ]))
    refine wr_shrN 7 rfl rfl rfl (by decide) ?_
    (repeat first | (apply wr_assign; exact rfl; with_reducible (conv => enter [6, 3]; whnf)) | apply wr_end)
    rw [varint_ge (by omega)] at hpre hle
    refine ⟨(m / 128, v3, pre ++ [UInt8.ofNat (m % 128 + 128)]), by simp only; omega, ⟨rfl, by simp only; omega, ?_, ?_, ?_, ?_⟩, rfl, rfl, trivial⟩
    · simp at hle ⊢; omega
    · simpa using hpre
    · simpa using ho3
    · exact (hk2.alloc _).trans' hk3 fun i hi h => absurd (ho2.lt i h).1 (by omega)
theorem varint_ca' (z : Int) (h0 : 0 ≤ z) (h1 : z < 18446744073709551616) (w : World) :
    Ca Tryz.prog 84 #[.int .u64 z] w fun v w' => v = S (varint z.toNat) ∧ Keeps NoB w w' := by
  obtain ⟨n, rfl⟩ := Int.eq_ofNat_of_zero_le h0
  rw [Int.toNat_natCast]
  exact varint_ca n (by omega) w
theorem varint_len (n : Nat) (h : n < 18446744073709551616) : (varint n).length ≤ 10 := varint_le 9 n (by omega)


def sizesL : List (Int × Value) := [(0, .int .i64 0), (1, .int .i64 8), (5, .int .i64 4)]
set_option maxRecDepth 100000 in
set_option maxHeartbeats 1000000 in
theorem sizes_ca (w : World) : Ca Tryz.prog 83 #[] w fun v w' => ∃ b, v = .map (some b) ∧ MapAt w' (encI .i64) b sizesL ∧ Keeps NoB w w' := by
  refine ca_of_body (args := []) Tryz.func83 rfl (by kernel_rfl) ?_
  (repeat first | (apply wr_assign; exact rfl; with_reducible (conv => enter [6, 3]; whnf)) | apply wr_end | apply wc_seq | apply wc_region)
  refine wr_makeMap rfl ?_
  refine wr_insert rfl rfl (MapAt.new w (encI .i64)) rfl rfl ?_
  intro w1 h1 k1
  refine wr_insert rfl rfl h1 rfl rfl ?_
  intro w2 h2 k2
  refine wr_insert rfl rfl h2 rfl rfl ?_
  intro w3 h3 k3
  (repeat first | (apply wr_move; exact rfl; with_reducible (conv => enter [6, 3]; whnf)) | (apply wr_assign; exact rfl; with_reducible (conv => enter [6, 3]; whnf)) | apply wr_end | (apply wc_ret; try simp only [thenE, inBlockE, bodyQ]))
  refine leave1 (v := .map (some w.heap.size)) rfl rfl ⟨_, rfl, h3, ?_⟩
  have k0 := (Keeps.refl NoB w).alloc (.map #[] 0)
  refine ((k0.trans' k1 ?_).trans' k2 ?_).trans' k3 ?_ <;> (intro i hi e; omega)
theorem sizes_get (k : Int) : (getM sizesL k).getD (.int .i64 0) = .int .i64 (if k = 1 then 8 else if k = 5 then 4 else 0) ∧ (getM sizesL k).isSome = decide (k = 0 ∨ k = 1 ∨ k = 5) := by
  unfold getM sizesL
  by_cases h0 : k = 0
  · subst h0; exact ⟨rfl, rfl⟩
  · by_cases h1 : k = 1
    · subst h1; exact ⟨rfl, rfl⟩
    · by_cases h5 : k = 5
      · subst h5; exact ⟨rfl, rfl⟩
      · simp [List.find?_cons, Ne.symm h0, Ne.symm h1, Ne.symm h5, h0, h1, h5]

/-- A field. -/
structure WF where
  num : Int
  kind : Int
  n : Nat
  s : List UInt8
  deriving DecidableEq
def WF.cs (x : WF) : List Value := [.int .i64 x.num, .int .i64 x.kind, .int .u64 (x.n : Int), S x.s]
abbrev WF.v (x : WF) : Value := .agg #[.int .i64 x.num, .int .i64 x.kind, .int .u64 (x.n : Int), S x.s]
structure WF.ok (x : WF) : Prop where
  num : -9223372036854775808 ≤ x.num ∧ x.num ≤ 9223372036854775807
  kind : -9223372036854775808 ≤ x.kind ∧ x.kind ≤ 9223372036854775807
  n : x.n < 18446744073709551616
  s : x.s.length ≤ 4611686018427387904
/-- A field's bytes. -/
def putF (x : WF) : Option (List UInt8) :=
  if x.num < 1 ∨ 536870912 ≤ x.num ∨ (x.kind ≠ 0 ∧ x.n ≠ 0) then none else
  if x.kind = 0 then (if x.s = [] then some (varint (x.num * 8).toNat ++ varint x.n) else none) else
  if x.kind = 1 then (if x.s.length = 8 then some (varint (x.num * 8 + 1).toNat ++ x.s) else none) else
  if x.kind = 5 then (if x.s.length = 4 then some (varint (x.num * 8 + 5).toNat ++ x.s) else none) else
  if x.kind = 2 then some (varint (x.num * 8 + 2).toNat ++ varint x.s.length ++ x.s) else none
theorem put_cases {num kind : Int} {n : Nat} {s : List UInt8} (h : ¬ (num < 1 ∨ 536870912 ≤ num ∨ (kind ≠ 0 ∧ n ≠ 0))) : putF ⟨num, kind, n, s⟩ =
    if kind = 0 then (if s = [] then some (varint (num * 8).toNat ++ varint n) else none) else
    if kind = 1 then (if s.length = 8 then some (varint (num * 8 + 1).toNat ++ s) else none) else
    if kind = 5 then (if s.length = 4 then some (varint (num * 8 + 5).toNat ++ s) else none) else
    if kind = 2 then some (varint (num * 8 + 2).toNat ++ varint s.length ++ s) else none := if_neg h
def putV (o : Option (List UInt8)) : Value := match o with
  | some s => .tuple #[S s, .bool true]
  | none => .tuple #[S [], .bool false]

set_option maxRecDepth 100000 in
set_option maxHeartbeats 4000000 in
theorem put_ca (x : WF) (hx : x.ok) (w : World) : Ca Tryz.prog 73 #[x.v] w fun v w' => v = putV (putF x) ∧ Keeps NoB w w' := by
  obtain ⟨hnum, hkind, hn, hs⟩ := hx
  obtain ⟨num, kind, n, s⟩ := x
  simp only at hnum hkind hn hs
  by_cases hbad : num < 1 ∨ 536870912 ≤ num ∨ (kind ≠ 0 ∧ n ≠ 0)
  · have hnone : putF ⟨num, kind, n, s⟩ = none := if_pos hbad
    have hc : num < 1 ∨ (1 ≤ num ∧ 536870912 ≤ num) ∨ (1 ≤ num ∧ num < 536870912 ∧ kind ≠ 0 ∧ n ≠ 0) := by omega
    clear hbad
    rcases hc with hc | hc | hc <;> refine ca_of_body (args := [.agg #[.int .i64 num, .int .i64 kind, .int .u64 (n : Int), S s]]) Tryz.func73 rfl (by kernel_rfl) ?_
    all_goals
      (repeat first | (apply wr_move; exact rfl; with_reducible (conv => enter [6, 3]; whnf)) | (apply wr_assign; exact rfl; with_reducible (conv => enter [6, 3]; whnf)) | apply wr_end | apply wc_seq | apply wc_region | (apply wr_fieldAddr; iterate 2 exact rfl) | (apply wr_box; iterate 2 exact rfl) | (apply wr_load; (iterate 3 exact rfl); (focus repeat first | with_reducible assumption | exact heap_alloc_same _ _ | exact World.putObj_heap_same (by first | omega | (simp only [World.size_alloc, World.putObj_size, ne_eq]; omega)) | ((first | refine hAl ?_ ?_ | refine hPu ?_ ?_); focus first | omega | (simp only [World.size_alloc, World.putObj_size, ne_eq]; omega))); exact rfl; conv => enter [6, 3]; whnf) | (apply wr_cmp; (iterate 3 exact rfl); exact cmpT (by dsimp only [cmpP]; first | done | omega)) | (apply wr_cmp; (iterate 3 exact rfl); exact cmpF (by dsimp only [cmpN]; first | done | omega)) | (apply wr_pick (t := true); (iterate 2 exact rfl); with_reducible (conv => enter [6, 3]; whnf)) | (apply wr_pick (t := false); (iterate 2 exact rfl); with_reducible (conv => enter [6, 3]; whnf)) | (apply wc_true; exact rfl) | (apply wc_ret; try simp only [thenE, inBlockE, bodyQ]) | (apply wr_skip; exact rfl))
      refine leave2 (v1 := S []) (v2 := .bool false) rfl rfl rfl ⟨by rw [hnone]; rfl, (Keeps.refl _ _).alloc _⟩
  · have hok : 1 ≤ num ∧ num < 536870912 := by omega
    have hkn : kind = 0 ∨ (kind ≠ 0 ∧ (n : Int) = 0) := by omega
    have hput := put_cases (num := num) (kind := kind) (n := n) (s := s) hbad
    clear hbad
    have hk5 : kind = 0 ∨ kind = 1 ∨ kind = 5 ∨ kind = 2 ∨ (kind ≠ 0 ∧ kind ≠ 1 ∧ kind ≠ 5 ∧ kind ≠ 2) := by omega
    have hl5 : (s.length = 0 ∨ s.length = 4 ∨ s.length = 8 ∨ (s.length ≠ 0 ∧ s.length ≠ 4 ∧ s.length ≠ 8)) := by omega
    obtain ⟨size, fixed, hg1, hg2, hsf⟩ : ∃ (size : Int) (fixed : Bool), (getM sizesL kind).getD (.int .i64 0) = .int .i64 size ∧ (getM sizesL kind).isSome = fixed ∧ ((kind = 0 ∧ size = 0 ∧ fixed = true) ∨ (kind = 1 ∧ size = 8 ∧ fixed = true) ∨ (kind = 5 ∧ size = 4 ∧ fixed = true) ∨ (kind ≠ 0 ∧ kind ≠ 1 ∧ kind ≠ 5 ∧ size = 0 ∧ fixed = false)) := by
      obtain ⟨e1, e2⟩ := sizes_get kind
      refine ⟨_, _, e1, e2, ?_⟩
      rcases hk5 with rfl | rfl | rfl | rfl | h
      · simp
      · simp
      · simp
      · simp
      · simp [h]
    have hall : (fixed = true ∧ (s.length : Int) ≠ size ∧ putF ⟨num, kind, n, s⟩ = none) ∨ (fixed = false ∧ kind ≠ 0 ∧ kind ≠ 1 ∧ kind ≠ 5 ∧ kind ≠ 2 ∧ putF ⟨num, kind, n, s⟩ = none) ∨
        (fixed = true ∧ (s.length : Int) = size ∧ kind = 0 ∧ putF ⟨num, kind, n, s⟩ = some (varint (num * 8 + kind).toNat ++ varint n ++ s)) ∨
        (fixed = true ∧ (s.length : Int) = size ∧ kind ≠ 0 ∧ kind ≠ 2 ∧ 0 ≤ kind ∧ kind < 8 ∧ putF ⟨num, kind, n, s⟩ = some (varint (num * 8 + kind).toNat ++ s)) ∨ (fixed = false ∧ kind = 2 ∧ putF ⟨num, kind, n, s⟩ = some (varint (num * 8 + kind).toNat ++ varint s.length ++ s)) := by
      rw [hput]
      rcases hsf with h | h | h | h <;> obtain ⟨h1, h⟩ := h
      · obtain ⟨h2, h3⟩ := h
        subst h1 h2 h3
        by_cases e : s = []
        · subst e; simp
        · have : (s.length : Int) ≠ 0 := by simpa using e
          simp [e]
      · obtain ⟨h2, h3⟩ := h
        subst h1 h2 h3
        by_cases e : s.length = 8
        · simp [e]
        · have : (s.length : Int) ≠ 8 := by omega
          simp [e, this]
      · obtain ⟨h2, h3⟩ := h
        subst h1 h2 h3
        by_cases e : s.length = 4
        · simp [e]
        · have : (s.length : Int) ≠ 4 := by omega
          simp [e, this]
      · obtain ⟨h2, h3, h4, h5⟩ := h
        by_cases e : kind = 2
        · subst e; simp [h5]
        · simp [h1, h2, h3, e, h5]
    clear hk5 hl5 hput
    rcases hkn with hkn | hkn <;> rcases hall with ⟨hf, ha⟩ | ⟨hf, ha⟩ | ⟨hf, ha⟩ | ⟨hf, ha⟩ | ⟨hf, ha⟩ <;> (try (exfalso; omega)) <;> subst hf
    all_goals
      refine ca_of_body (args := [.agg #[.int .i64 num, .int .i64 kind, .int .u64 (n : Int), S s]]) Tryz.func73 rfl (by kernel_rfl) ?_
      (repeat first | (apply wr_move; exact rfl; with_reducible (conv => enter [6, 3]; whnf)) | (apply wr_assign; exact rfl; with_reducible (conv => enter [6, 3]; whnf)) | apply wr_end | apply wc_seq | apply wc_region | apply wc_skip | (apply wr_fieldAddr; iterate 2 exact rfl) | (apply wr_box; iterate 2 exact rfl) | (apply wr_load; (iterate 3 exact rfl); (focus repeat first | with_reducible assumption | exact heap_alloc_same _ _ | exact World.putObj_heap_same (by first | omega | (simp only [World.size_alloc, World.putObj_size, ne_eq]; omega)) | ((first | refine hAl ?_ ?_ | refine hPu ?_ ?_); focus first | omega | (simp only [World.size_alloc, World.putObj_size, ne_eq]; omega))); exact rfl; conv => enter [6, 3]; whnf) | (apply wr_cmp; (iterate 3 exact rfl); exact cmpT (by dsimp only [cmpP]; first | done | omega)) | (apply wr_cmp; (iterate 3 exact rfl); exact cmpF (by dsimp only [cmpN]; first | done | omega)) | (apply wr_pick (t := true); (iterate 2 exact rfl); with_reducible (conv => enter [6, 3]; whnf)) | (apply wr_pick (t := false); (iterate 2 exact rfl); with_reducible (conv => enter [6, 3]; whnf)) | (apply wc_false; exact rfl) | (apply wr_skip; exact rfl))
      refine wr_call rfl (sizes_ca _) rfl ?_
      rintro v w1 ⟨bm, rfl, hm, hk1⟩
      have hb1 := hk1.heap (heap_alloc_same _ _) (fun h => h)
      have hk0 := ((Keeps.refl NoB w).alloc (.cells (Value.agg #[.int .i64 num, .int .i64 kind, .int .u64 (n : Int), S s]).cells 136)).trans hk1
      (repeat first | (apply wr_move; exact rfl; with_reducible (conv => enter [6, 3]; whnf)) | (apply wr_assign; exact rfl; with_reducible (conv => enter [6, 3]; whnf)) | apply wr_end | apply wc_seq | apply wc_region | (apply wr_fieldAddr; iterate 2 exact rfl) | (apply wr_load; (iterate 3 exact rfl); (focus repeat first | with_reducible assumption | exact heap_alloc_same _ _ | exact World.putObj_heap_same (by first | omega | (simp only [World.size_alloc, World.putObj_size, ne_eq]; omega)) | ((first | refine hAl ?_ ?_ | refine hPu ?_ ?_); focus first | omega | (simp only [World.size_alloc, World.putObj_size, ne_eq]; omega))); exact rfl; conv => enter [6, 3]; whnf))
      refine wr_lookupOk (enc := encI .i64) (a := kind) rfl rfl hm rfl ?_
      rw [hg1, hg2]
      (repeat first | (apply wr_move; exact rfl; with_reducible (conv => enter [6, 3]; whnf)) | (apply wr_assign; exact rfl; with_reducible (conv => enter [6, 3]; whnf)) | apply wr_end | apply wc_seq | apply wc_region | apply wc_skip | (apply wr_fieldAddr; iterate 2 exact rfl) | (apply wr_not; iterate 2 exact rfl) | (apply wr_len_str; iterate 2 exact rfl) | (apply wr_load; (iterate 3 exact rfl); (focus repeat first | with_reducible assumption | exact heap_alloc_same _ _ | exact World.putObj_heap_same (by first | omega | (simp only [World.size_alloc, World.putObj_size, ne_eq]; omega)) | ((first | refine hAl ?_ ?_ | refine hPu ?_ ?_); focus first | omega | (simp only [World.size_alloc, World.putObj_size, ne_eq]; omega))); exact rfl; conv => enter [6, 3]; whnf) | (apply wr_cmp; (iterate 3 exact rfl); exact cmpT (by dsimp only [cmpP]; first | done | omega)) | (apply wr_cmp; (iterate 3 exact rfl); exact cmpF (by dsimp only [cmpN]; first | done | omega)) | (apply wr_pick (t := true); (iterate 2 exact rfl); with_reducible (conv => enter [6, 3]; whnf)) | (apply wr_pick (t := false); (iterate 2 exact rfl); with_reducible (conv => enter [6, 3]; whnf)) | (apply wr_add; (iterate 3 exact rfl); exact w_fit (by dsimp only [kIn]; first | done | omega)) | (apply wr_mul; (iterate 3 exact rfl); exact w_fit (by dsimp only [kIn]; first | done | omega)) | (apply wr_conv; (iterate 2 exact rfl); exact w_fit (by dsimp only [kIn]; first | done | omega)) | (apply wr_extract; (iterate 3 exact rfl); with_reducible (conv => enter [6, 3]; whnf)) | (apply wc_true; exact rfl) | (apply wc_false; exact rfl) | (apply wc_ret; try simp only [thenE, inBlockE, bodyQ]) | (apply wr_skip; exact rfl))
    all_goals first
      | exact leave2 (v1 := S []) (v2 := .bool false) rfl rfl rfl ⟨by (first | rw [ha.2] | rw [ha.2.2.2.2]); rfl, hk0⟩
      | (refine wr_call rfl (varint_ca' (num * 8 + kind) (by omega) (by omega) _) rfl ?_
         rintro v w2 ⟨rfl, hk2⟩
         have hb2 := hk2.heap hb1 (fun h => h)
         have hl2 := varint_len (num * 8 + kind).toNat (by omega)
         (repeat first | (apply wr_move; exact rfl; with_reducible (conv => enter [6, 3]; whnf)) | (apply wr_assign; exact rfl; with_reducible (conv => enter [6, 3]; whnf)) | apply wr_end | apply wc_seq | apply wc_region | apply wc_skip | apply wc_block | (apply wr_fieldAddr; iterate 2 exact rfl) | (apply wr_len_str; iterate 2 exact rfl) | (apply wr_load; (iterate 3 exact rfl); (focus repeat first | with_reducible assumption | exact heap_alloc_same _ _ | exact World.putObj_heap_same (by first | omega | (simp only [World.size_alloc, World.putObj_size, ne_eq]; omega)) | ((first | refine hAl ?_ ?_ | refine hPu ?_ ?_); focus first | omega | (simp only [World.size_alloc, World.putObj_size, ne_eq]; omega))); exact rfl; conv => enter [6, 3]; whnf) | (apply wr_cmp; (iterate 3 exact rfl); exact cmpT (by dsimp only [cmpP]; first | done | omega)) | (apply wr_cmp; (iterate 3 exact rfl); exact cmpF (by dsimp only [cmpN]; first | done | omega)) | (apply wr_conv; (iterate 2 exact rfl); exact w_fit (by dsimp only [kIn]; first | done | omega)) | (apply wr_cat; (iterate 3 exact rfl); (first | omega | (simp only [List.length_append]; omega))) | (apply wc_true; exact rfl) | (apply wc_false; exact rfl) | (apply wc_ret; try simp only [thenE, inBlockE, bodyQ]))
         first
           | exact leave2 (v1 := S (varint (num * 8 + kind).toNat ++ s)) (v2 := .bool true) rfl rfl rfl ⟨by rw [ha.2.2.2.2.2]; rfl, hk0.trans hk2⟩
           | (refine wr_call rfl (varint_ca n hn _) rfl ?_
              rintro v w3 ⟨rfl, hk3⟩
              have hb3 := hk3.heap hb2 (fun h => h)
              have hl3 := varint_len n hn
              (repeat first | (apply wr_move; exact rfl; with_reducible (conv => enter [6, 3]; whnf)) | (apply wr_assign; exact rfl; with_reducible (conv => enter [6, 3]; whnf)) | apply wr_end | apply wc_seq | apply wc_region | (apply wr_fieldAddr; iterate 2 exact rfl) | (apply wr_load; (iterate 3 exact rfl); (focus repeat first | with_reducible assumption | exact heap_alloc_same _ _ | exact World.putObj_heap_same (by first | omega | (simp only [World.size_alloc, World.putObj_size, ne_eq]; omega)) | ((first | refine hAl ?_ ?_ | refine hPu ?_ ?_); focus first | omega | (simp only [World.size_alloc, World.putObj_size, ne_eq]; omega))); exact rfl; conv => enter [6, 3]; whnf) | (apply wr_cat; (iterate 3 exact rfl); (first | omega | (simp only [List.length_append]; omega))) | (apply wc_ret; try simp only [thenE, inBlockE, bodyQ]) | (apply wr_nil; try simp only [thenE, inBlockE, bodyQ]))
              refine leave2 (v1 := S (varint (num * 8 + kind).toNat ++ varint n ++ s)) (v2 := .bool true) rfl rfl rfl ⟨by rw [ha.2.2]; rfl, (hk0.trans hk2).trans hk3⟩)
           | (refine wr_call rfl (varint_ca s.length (by omega) _) rfl ?_
              rintro v w3 ⟨rfl, hk3⟩
              have hb3 := hk3.heap hb2 (fun h => h)
              have hl3 := varint_len s.length (by omega)
              (repeat first | (apply wr_move; exact rfl; with_reducible (conv => enter [6, 3]; whnf)) | (apply wr_assign; exact rfl; with_reducible (conv => enter [6, 3]; whnf)) | apply wr_end | apply wc_seq | apply wc_region | (apply wr_fieldAddr; iterate 2 exact rfl) | (apply wr_load; (iterate 3 exact rfl); (focus repeat first | with_reducible assumption | exact heap_alloc_same _ _ | exact World.putObj_heap_same (by first | omega | (simp only [World.size_alloc, World.putObj_size, ne_eq]; omega)) | ((first | refine hAl ?_ ?_ | refine hPu ?_ ?_); focus first | omega | (simp only [World.size_alloc, World.putObj_size, ne_eq]; omega))); exact rfl; conv => enter [6, 3]; whnf) | (apply wr_cat; (iterate 3 exact rfl); (first | omega | (simp only [List.length_append]; omega))) | (apply wc_ret; try simp only [thenE, inBlockE, bodyQ]) | (apply wr_nil; try simp only [thenE, inBlockE, bodyQ]))
              refine leave2 (v1 := S (varint (num * 8 + kind).toNat ++ varint s.length ++ s)) (v2 := .bool true) rfl rfl rfl ⟨by rw [ha.2]; rfl, (hk0.trans hk2).trans hk3⟩))


def numberF (num : Int) (n : Nat) : List UInt8 := (putF ⟨num, 0, n, []⟩).getD []
def textF (num : Int) (s : List UInt8) : List UInt8 := (putF ⟨num, 2, 0, s⟩).getD []
theorem putV_get0 (o : Option (List UInt8)) : ∃ b, putV o = .tuple #[S (o.getD []), .bool b] := by
  cases o with
  | none => exact ⟨false, rfl⟩
  | some s => exact ⟨true, rfl⟩
set_option maxRecDepth 100000 in
set_option maxHeartbeats 1000000 in
theorem number_ca (num : Int) (n : Nat) (h1 : -9223372036854775808 ≤ num ∧ num ≤ 9223372036854775807) (h2 : n < 18446744073709551616) (w : World) :
    Ca Tryz.prog 51 #[.int .i64 num, .int .u64 (n : Int)] w fun v w' => v = S (numberF num n) ∧ Keeps NoB w w' := by
  refine ca_of_body (args := [.int .i64 num, .int .u64 (n : Int)]) Tryz.func51 rfl (by kernel_rfl) ?_
  (repeat first | (apply wr_move; exact rfl; with_reducible (conv => enter [6, 3]; whnf)) | (apply wr_assign; exact rfl; with_reducible (conv => enter [6, 3]; whnf)) | apply wr_end | apply wc_seq | apply wc_region)
  refine wr_build (ps := [(0, .int .i64 num), (2, .int .u64 (n : Int))]) (cs := [.int .i64 num, .int .i64 0, .int .u64 (n : Int), S []]) rfl rfl rfl rfl ?_
  refine wr_call (vs := [(⟨num, 0, n, []⟩ : WF).v]) rfl (put_ca ⟨num, 0, n, []⟩ ⟨h1, by simp, h2, by simp⟩ _) rfl ?_
  rintro v w1 ⟨rfl, hk1⟩
  obtain ⟨b, hb⟩ := putV_get0 (putF ⟨num, 0, n, []⟩)
  rw [hb]
  (repeat first | (apply wr_move; exact rfl; with_reducible (conv => enter [6, 3]; whnf)) | (apply wr_assign; exact rfl; with_reducible (conv => enter [6, 3]; whnf)) | apply wr_end | apply wc_seq | apply wc_region | (apply wr_extract; (iterate 3 exact rfl); with_reducible (conv => enter [6, 3]; whnf)) | (apply wc_ret; try simp only [thenE, inBlockE, bodyQ]))
  exact leave1 (v := S (numberF num n)) rfl rfl ⟨rfl, hk1⟩
set_option maxRecDepth 100000 in
set_option maxHeartbeats 1000000 in
theorem text_ca (num : Int) (s : List UInt8) (h1 : -9223372036854775808 ≤ num ∧ num ≤ 9223372036854775807) (h2 : s.length ≤ 4611686018427387904) (w : World) :
    Ca Tryz.prog 52 #[.int .i64 num, S s] w fun v w' => v = S (textF num s) ∧ Keeps NoB w w' := by
  refine ca_of_body (args := [.int .i64 num, S s]) Tryz.func52 rfl (by kernel_rfl) ?_
  (repeat first | (apply wr_move; exact rfl; with_reducible (conv => enter [6, 3]; whnf)) | (apply wr_assign; exact rfl; with_reducible (conv => enter [6, 3]; whnf)) | apply wr_end | apply wc_seq | apply wc_region)
  refine wr_build (ps := [(0, .int .i64 num), (1, .int .i64 2), (3, S s)]) (cs := [.int .i64 num, .int .i64 2, .int .u64 0, S s]) rfl rfl rfl rfl ?_
  refine wr_call (vs := [(⟨num, 2, 0, s⟩ : WF).v]) rfl (put_ca ⟨num, 2, 0, s⟩ ⟨h1, by simp, by simp, h2⟩ _) rfl ?_
  rintro v w1 ⟨rfl, hk1⟩
  obtain ⟨b, hb⟩ := putV_get0 (putF ⟨num, 2, 0, s⟩)
  rw [hb]
  (repeat first | (apply wr_move; exact rfl; with_reducible (conv => enter [6, 3]; whnf)) | (apply wr_assign; exact rfl; with_reducible (conv => enter [6, 3]; whnf)) | apply wr_end | apply wc_seq | apply wc_region | (apply wr_extract; (iterate 3 exact rfl); with_reducible (conv => enter [6, 3]; whnf)) | (apply wc_ret; try simp only [thenE, inBlockE, bodyQ]))
  exact leave1 (v := S (textF num s)) rfl rfl ⟨rfl, hk1⟩

end Go.Proofs.YtjaojihogmnjhaaGreatDoor
