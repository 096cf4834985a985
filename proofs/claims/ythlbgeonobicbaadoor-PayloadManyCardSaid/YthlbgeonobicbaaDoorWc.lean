/- wire.sizes, Put, Number, Text: what they do. -/
import Derived.Test.YthlbgeonobicbaaDoorWb
import Derived.Test.YthlbgeonobicbaaDoorV6
namespace Go.Proofs.YthlbgeonobicbaaDoor
open Go Go.V Go.RowKit
set_option linter.unusedVariables false
set_option linter.unusedSimpArgs false

def sizesL : List (Int × Value) := [(0, .int .i64 0), (1, .int .i64 8), (5, .int .i64 4)]
set_option maxRecDepth 100000 in
set_option maxHeartbeats 1000000 in
theorem sizes_ca (w : World) : Ca Tryd.prog 63 #[] w fun v w' => ∃ b, v = .map (some b) ∧ MapAt w' (encI .i64) b sizesL ∧ Keeps NoB w w' := by
  refine ca_of_body (args := []) Tryd.func63 rfl (by kernel_rfl) ?_
  (repeat first | (apply wr_assign; exact rfl; with_reducible (conv => enter [6, 3]; whnf)) | apply wr_end | apply wc_seq | apply wc_region)
  refine wr_makeMap rfl ?_
  refine wr_insert rfl rfl (MapAt.new w (encI .i64)) rfl rfl ?_
  intro w1 h1 k1
  refine wr_insert rfl rfl h1 rfl rfl ?_
  intro w2 h2 k2
  refine wr_insert rfl rfl h2 rfl rfl ?_
  intro w3 h3 k3
  (repeat first | (apply wr_move; exact rfl; with_reducible (conv => enter [6, 3]; whnf)) | (apply wr_assign; exact rfl; with_reducible (conv => enter [6, 3]; whnf)) | apply wr_end | (apply wc_ret; try simp only [thenE, inBlockE, bodyQ]))
  refine leave1 (v := .map (some w.heap.size)) rfl rfl ⟨_, rfl, h3, ?_⟩
  have k0 := (Keeps.refl NoB w).alloc (.map #[] 0)
  refine ((k0.trans' k1 ?_).trans' k2 ?_).trans' k3 ?_ <;> (intro i hi e; omega)
theorem sizes_get (k : Int) : (getM sizesL k).getD (.int .i64 0) = .int .i64 (if k = 1 then 8 else if k = 5 then 4 else 0) ∧ (getM sizesL k).isSome = decide (k = 0 ∨ k = 1 ∨ k = 5) := by
  unfold getM sizesL
  by_cases h0 : k = 0
  · subst h0; exact ⟨rfl, rfl⟩
  · by_cases h1 : k = 1
    · subst h1; exact ⟨rfl, rfl⟩
    · by_cases h5 : k = 5
      · subst h5; exact ⟨rfl, rfl⟩
      · simp [List.find?_cons, Ne.symm h0, Ne.symm h1, Ne.symm h5, h0, h1, h5]

/-- A field. -/
structure WF where
  num : Int
  kind : Int
  n : Nat
  s : List UInt8
  deriving DecidableEq
def WF.cs (x : WF) : List Value := [.int .i64 x.num, .int .i64 x.kind, .int .u64 (x.n : Int), S x.s]
abbrev WF.v (x : WF) : Value := .agg #[.int .i64 x.num, .int .i64 x.kind, .int .u64 (x.n : Int), S x.s]
structure WF.ok (x : WF) : Prop where
  num : -9223372036854775808 ≤ x.num ∧ x.num ≤ 9223372036854775807
  kind : -9223372036854775808 ≤ x.kind ∧ x.kind ≤ 9223372036854775807
  n : x.n < 18446744073709551616
  s : x.s.length ≤ 4611686018427387904
/-- A field's bytes. -/
def putF (x : WF) : Option (List UInt8) :=
  if x.num < 1 ∨ 536870912 ≤ x.num ∨ (x.kind ≠ 0 ∧ x.n ≠ 0) then none else
  if x.kind = 0 then (if x.s = [] then some (varint (x.num * 8).toNat ++ varint x.n) else none) else
  if x.kind = 1 then (if x.s.length = 8 then some (varint (x.num * 8 + 1).toNat ++ x.s) else none) else
  if x.kind = 5 then (if x.s.length = 4 then some (varint (x.num * 8 + 5).toNat ++ x.s) else none) else
  if x.kind = 2 then some (varint (x.num * 8 + 2).toNat ++ varint x.s.length ++ x.s) else none
theorem put_cases {num kind : Int} {n : Nat} {s : List UInt8} (h : ¬ (num < 1 ∨ 536870912 ≤ num ∨ (kind ≠ 0 ∧ n ≠ 0))) : putF ⟨num, kind, n, s⟩ =
    if kind = 0 then (if s = [] then some (varint (num * 8).toNat ++ varint n) else none) else
    if kind = 1 then (if s.length = 8 then some (varint (num * 8 + 1).toNat ++ s) else none) else
    if kind = 5 then (if s.length = 4 then some (varint (num * 8 + 5).toNat ++ s) else none) else
    if kind = 2 then some (varint (num * 8 + 2).toNat ++ varint s.length ++ s) else none := if_neg h
def putV (o : Option (List UInt8)) : Value := match o with
  | some s => .tuple #[S s, .bool true]
  | none => .tuple #[S [], .bool false]

set_option maxRecDepth 100000 in
set_option maxHeartbeats 4000000 in
theorem put_ca (x : WF) (hx : x.ok) (w : World) : Ca Tryd.prog 46 #[x.v] w fun v w' => v = putV (putF x) ∧ Keeps NoB w w' := by
  obtain ⟨hnum, hkind, hn, hs⟩ := hx
  obtain ⟨num, kind, n, s⟩ := x
  simp only at hnum hkind hn hs
  by_cases hbad : num < 1 ∨ 536870912 ≤ num ∨ (kind ≠ 0 ∧ n ≠ 0)
  · have hnone : putF ⟨num, kind, n, s⟩ = none := if_pos hbad
    have hc : num < 1 ∨ (1 ≤ num ∧ 536870912 ≤ num) ∨ (1 ≤ num ∧ num < 536870912 ∧ kind ≠ 0 ∧ n ≠ 0) := by omega
    clear hbad
    rcases hc with hc | hc | hc <;> refine ca_of_body (args := [.agg #[.int .i64 num, .int .i64 kind, .int .u64 (n : Int), S s]]) Tryd.func46 rfl (by kernel_rfl) ?_
    all_goals
      (repeat first | (apply wr_move; exact rfl; with_reducible (conv => enter [6, 3]; whnf)) | (apply wr_assign; exact rfl; with_reducible (conv => enter [6, 3]; whnf)) | apply wr_end | apply wc_seq | apply wc_region | (apply wr_fieldAddr; iterate 2 exact rfl) | (apply wr_box; iterate 2 exact rfl) | (apply wr_load; (iterate 3 exact rfl); (focus repeat first | with_reducible assumption | exact heap_alloc_same _ _ | exact World.putObj_heap_same (by first | omega | (simp only [World.size_alloc, World.putObj_size, ne_eq]; omega)) | ((first | refine hAl ?_ ?_ | refine hPu ?_ ?_); focus first | omega | (simp only [World.size_alloc, World.putObj_size, ne_eq]; omega))); exact rfl; conv => enter [6, 3]; whnf) | (apply wr_cmp; (iterate 3 exact rfl); exact cmpT (by dsimp only [cmpP]; first | done | omega)) | (apply wr_cmp; (iterate 3 exact rfl); exact cmpF (by dsimp only [cmpN]; first | done | omega)) | (apply wr_pick (t := true); (iterate 2 exact rfl); with_reducible (conv => enter [6, 3]; whnf)) | (apply wr_pick (t := false); (iterate 2 exact rfl); with_reducible (conv => enter [6, 3]; whnf)) | (apply wc_true; exact rfl) | (apply wc_ret; try simp only [thenE, inBlockE, bodyQ]) | (apply wr_skip; exact rfl))
      refine leave2 (v1 := S []) (v2 := .bool false) rfl rfl rfl ⟨by rw [hnone]; rfl, (Keeps.refl _ _).alloc _⟩
  · have hok : 1 ≤ num ∧ num < 536870912 := by omega
    have hkn : kind = 0 ∨ (kind ≠ 0 ∧ (n : Int) = 0) := by omega
    have hput := put_cases (num := num) (kind := kind) (n := n) (s := s) hbad
    clear hbad
    have hk5 : kind = 0 ∨ kind = 1 ∨ kind = 5 ∨ kind = 2 ∨ (kind ≠ 0 ∧ kind ≠ 1 ∧ kind ≠ 5 ∧ kind ≠ 2) := by omega
    have hl5 : (s.length = 0 ∨ s.length = 4 ∨ s.length = 8 ∨ (s.length ≠ 0 ∧ s.length ≠ 4 ∧ s.length ≠ 8)) := by omega
    obtain ⟨size, fixed, hg1, hg2, hsf⟩ : ∃ (size : Int) (fixed : Bool), (getM sizesL kind).getD (.int .i64 0) = .int .i64 size ∧ (getM sizesL kind).isSome = fixed ∧ ((kind = 0 ∧ size = 0 ∧ fixed = true) ∨ (kind = 1 ∧ size = 8 ∧ fixed = true) ∨ (kind = 5 ∧ size = 4 ∧ fixed = true) ∨ (kind ≠ 0 ∧ kind ≠ 1 ∧ kind ≠ 5 ∧ size = 0 ∧ fixed = false)) := by
      obtain ⟨e1, e2⟩ := sizes_get kind
      refine ⟨_, _, e1, e2, ?_⟩
      rcases hk5 with rfl | rfl | rfl | rfl | h
      · simp
      · simp
      · simp
      · simp
      · simp [h]
    have hall : (fixed = true ∧ (s.length : Int) ≠ size ∧ putF ⟨num, kind, n, s⟩ = none) ∨ (fixed = false ∧ kind ≠ 0 ∧ kind ≠ 1 ∧ kind ≠ 5 ∧ kind ≠ 2 ∧ putF ⟨num, kind, n, s⟩ = none) ∨
        (fixed = true ∧ (s.length : Int) = size ∧ kind = 0 ∧ putF ⟨num, kind, n, s⟩ = some (varint (num * 8 + kind).toNat ++ varint n ++ s)) ∨
        (fixed = true ∧ (s.length : Int) = size ∧ kind ≠ 0 ∧ kind ≠ 2 ∧ 0 ≤ kind ∧ kind < 8 ∧ putF ⟨num, kind, n, s⟩ = some (varint (num * 8 + kind).toNat ++ s)) ∨ (fixed = false ∧ kind = 2 ∧ putF ⟨num, kind, n, s⟩ = some (varint (num * 8 + kind).toNat ++ varint s.length ++ s)) := by
      rw [hput]
      rcases hsf with h | h | h | h <;> obtain ⟨h1, h⟩ := h
      · obtain ⟨h2, h3⟩ := h
        subst h1 h2 h3
        by_cases e : s = []
        · subst e; simp
        · have : (s.length : Int) ≠ 0 := by simpa using e
          simp [e]
      · obtain ⟨h2, h3⟩ := h
        subst h1 h2 h3
        by_cases e : s.length = 8
        · simp [e]
        · have : (s.length : Int) ≠ 8 := by omega
          simp [e, this]
      · obtain ⟨h2, h3⟩ := h
        subst h1 h2 h3
        by_cases e : s.length = 4
        · simp [e]
        · have : (s.length : Int) ≠ 4 := by omega
          simp [e, this]
      · obtain ⟨h2, h3, h4, h5⟩ := h
        by_cases e : kind = 2
        · subst e; simp [h5]
        · simp [h1, h2, h3, e, h5]
    clear hk5 hl5 hput
    rcases hkn with hkn | hkn <;> rcases hall with ⟨hf, ha⟩ | ⟨hf, ha⟩ | ⟨hf, ha⟩ | ⟨hf, ha⟩ | ⟨hf, ha⟩ <;> (try (exfalso; omega)) <;> subst hf
    all_goals
      refine ca_of_body (args := [.agg #[.int .i64 num, .int .i64 kind, .int .u64 (n : Int), S s]]) Tryd.func46 rfl (by kernel_rfl) ?_
      (repeat first | (apply wr_move; exact rfl; with_reducible (conv => enter [6, 3]; whnf)) | (apply wr_assign; exact rfl; with_reducible (conv => enter [6, 3]; whnf)) | apply wr_end | apply wc_seq | apply wc_region | apply wc_skip | (apply wr_fieldAddr; iterate 2 exact rfl) | (apply wr_box; iterate 2 exact rfl) | (apply wr_load; (iterate 3 exact rfl); (focus repeat first | with_reducible assumption | exact heap_alloc_same _ _ | exact World.putObj_heap_same (by first | omega | (simp only [World.size_alloc, World.putObj_size, ne_eq]; omega)) | ((first | refine hAl ?_ ?_ | refine hPu ?_ ?_); focus first | omega | (simp only [World.size_alloc, World.putObj_size, ne_eq]; omega))); exact rfl; conv => enter [6, 3]; whnf) | (apply wr_cmp; (iterate 3 exact rfl); exact cmpT (by dsimp only [cmpP]; first | done | omega)) | (apply wr_cmp; (iterate 3 exact rfl); exact cmpF (by dsimp only [cmpN]; first | done | omega)) | (apply wr_pick (t := true); (iterate 2 exact rfl); with_reducible (conv => enter [6, 3]; whnf)) | (apply wr_pick (t := false); (iterate 2 exact rfl); with_reducible (conv => enter [6, 3]; whnf)) | (apply wc_false; exact rfl) | (apply wr_skip; exact rfl))
      refine wr_call rfl (sizes_ca _) rfl ?_
      rintro v w1 ⟨bm, rfl, hm, hk1⟩
      have hb1 := hk1.heap (heap_alloc_same _ _) (fun h => h)
      have hk0 := ((Keeps.refl NoB w).alloc (.cells (Value.agg #[.int .i64 num, .int .i64 kind, .int .u64 (n : Int), S s]).cells 101)).trans hk1
      (repeat first | (apply wr_move; exact rfl; with_reducible (conv => enter [6, 3]; whnf)) | (apply wr_assign; exact rfl; with_reducible (conv => enter [6, 3]; whnf)) | apply wr_end | apply wc_seq | apply wc_region | (apply wr_fieldAddr; iterate 2 exact rfl) | (apply wr_load; (iterate 3 exact rfl); (focus repeat first | with_reducible assumption | exact heap_alloc_same _ _ | exact World.putObj_heap_same (by first | omega | (simp only [World.size_alloc, World.putObj_size, ne_eq]; omega)) | ((first | refine hAl ?_ ?_ | refine hPu ?_ ?_); focus first | omega | (simp only [World.size_alloc, World.putObj_size, ne_eq]; omega))); exact rfl; conv => enter [6, 3]; whnf))
      refine wr_lookupOk (enc := encI .i64) (a := kind) rfl rfl hm rfl ?_
      rw [hg1, hg2]
      (repeat first | (apply wr_move; exact rfl; with_reducible (conv => enter [6, 3]; whnf)) | (apply wr_assign; exact rfl; with_reducible (conv => enter [6, 3]; whnf)) | apply wr_end | apply wc_seq | apply wc_region | apply wc_skip | (apply wr_fieldAddr; iterate 2 exact rfl) | (apply wr_not; iterate 2 exact rfl) | (apply wr_len_str; iterate 2 exact rfl) | (apply wr_load; (iterate 3 exact rfl); (focus repeat first | with_reducible assumption | exact heap_alloc_same _ _ | exact World.putObj_heap_same (by first | omega | (simp only [World.size_alloc, World.putObj_size, ne_eq]; omega)) | ((first | refine hAl ?_ ?_ | refine hPu ?_ ?_); focus first | omega | (simp only [World.size_alloc, World.putObj_size, ne_eq]; omega))); exact rfl; conv => enter [6, 3]; whnf) | (apply wr_cmp; (iterate 3 exact rfl); exact cmpT (by dsimp only [cmpP]; first | done | omega)) | (apply wr_cmp; (iterate 3 exact rfl); exact cmpF (by dsimp only [cmpN]; first | done | omega)) | (apply wr_pick (t := true); (iterate 2 exact rfl); with_reducible (conv => enter [6, 3]; whnf)) | (apply wr_pick (t := false); (iterate 2 exact rfl); with_reducible (conv => enter [6, 3]; whnf)) | (apply wr_add; (iterate 3 exact rfl); exact w_fit (by dsimp only [kIn]; first | done | omega)) | (apply wr_mul; (iterate 3 exact rfl); exact w_fit (by dsimp only [kIn]; first | done | omega)) | (apply wr_conv; (iterate 2 exact rfl); exact w_fit (by dsimp only [kIn]; first | done | omega)) | (apply wr_extract; (iterate 3 exact rfl); with_reducible (conv => enter [6, 3]; whnf)) | (apply wc_true; exact rfl) | (apply wc_false; exact rfl) | (apply wc_ret; try simp only [thenE, inBlockE, bodyQ]) | (apply wr_skip; exact rfl))
    all_goals first
      | exact leave2 (v1 := S []) (v2 := .bool false) rfl rfl rfl ⟨by (first | rw [ha.2] | rw [ha.2.2.2.2]); rfl, hk0⟩
      | (refine wr_call rfl (varint_ca' (num * 8 + kind) (by omega) (by omega) _) rfl ?_
         rintro v w2 ⟨rfl, hk2⟩
         have hb2 := hk2.heap hb1 (fun h => h)
         have hl2 := varint_len (num * 8 + kind).toNat (by omega)
         (repeat first | (apply wr_move; exact rfl; with_reducible (conv => enter [6, 3]; whnf)) | (apply wr_assign; exact rfl; with_reducible (conv => enter [6, 3]; whnf)) | apply wr_end | apply wc_seq | apply wc_region | apply wc_skip | apply wc_block | (apply wr_fieldAddr; iterate 2 exact rfl) | (apply wr_len_str; iterate 2 exact rfl) | (apply wr_load; (iterate 3 exact rfl); (focus repeat first | with_reducible assumption | exact heap_alloc_same _ _ | exact World.putObj_heap_same (by first | omega | (simp only [World.size_alloc, World.putObj_size, ne_eq]; omega)) | ((first | refine hAl ?_ ?_ | refine hPu ?_ ?_); focus first | omega | (simp only [World.size_alloc, World.putObj_size, ne_eq]; omega))); exact rfl; conv => enter [6, 3]; whnf) | (apply wr_cmp; (iterate 3 exact rfl); exact cmpT (by dsimp only [cmpP]; first | done | omega)) | (apply wr_cmp; (iterate 3 exact rfl); exact cmpF (by dsimp only [cmpN]; first | done | omega)) | (apply wr_conv; (iterate 2 exact rfl); exact w_fit (by dsimp only [kIn]; first | done | omega)) | (apply wr_cat; (iterate 3 exact rfl); (first | omega | (simp only [List.length_append]; omega))) | (apply wc_true; exact rfl) | (apply wc_false; exact rfl) | (apply wc_ret; try simp only [thenE, inBlockE, bodyQ]))
         first
           | exact leave2 (v1 := S (varint (num * 8 + kind).toNat ++ s)) (v2 := .bool true) rfl rfl rfl ⟨by rw [ha.2.2.2.2.2]; rfl, hk0.trans hk2⟩
           | (refine wr_call rfl (varint_ca n hn _) rfl ?_
              rintro v w3 ⟨rfl, hk3⟩
              have hb3 := hk3.heap hb2 (fun h => h)
              have hl3 := varint_len n hn
              (repeat first | (apply wr_move; exact rfl; with_reducible (conv => enter [6, 3]; whnf)) | (apply wr_assign; exact rfl; with_reducible (conv => enter [6, 3]; whnf)) | apply wr_end | apply wc_seq | apply wc_region | (apply wr_fieldAddr; iterate 2 exact rfl) | (apply wr_load; (iterate 3 exact rfl); (focus repeat first | with_reducible assumption | exact heap_alloc_same _ _ | exact World.putObj_heap_same (by first | omega | (simp only [World.size_alloc, World.putObj_size, ne_eq]; omega)) | ((first | refine hAl ?_ ?_ | refine hPu ?_ ?_); focus first | omega | (simp only [World.size_alloc, World.putObj_size, ne_eq]; omega))); exact rfl; conv => enter [6, 3]; whnf) | (apply wr_cat; (iterate 3 exact rfl); (first | omega | (simp only [List.length_append]; omega))) | (apply wc_ret; try simp only [thenE, inBlockE, bodyQ]) | (apply wr_nil; try simp only [thenE, inBlockE, bodyQ]))
              refine leave2 (v1 := S (varint (num * 8 + kind).toNat ++ varint n ++ s)) (v2 := .bool true) rfl rfl rfl ⟨by rw [ha.2.2]; rfl, (hk0.trans hk2).trans hk3⟩)
           | (refine wr_call rfl (varint_ca s.length (by omega) _) rfl ?_
              rintro v w3 ⟨rfl, hk3⟩
              have hb3 := hk3.heap hb2 (fun h => h)
              have hl3 := varint_len s.length (by omega)
              (repeat first | (apply wr_move; exact rfl; with_reducible (conv => enter [6, 3]; whnf)) | (apply wr_assign; exact rfl; with_reducible (conv => enter [6, 3]; whnf)) | apply wr_end | apply wc_seq | apply wc_region | (apply wr_fieldAddr; iterate 2 exact rfl) | (apply wr_load; (iterate 3 exact rfl); (focus repeat first | with_reducible assumption | exact heap_alloc_same _ _ | exact World.putObj_heap_same (by first | omega | (simp only [World.size_alloc, World.putObj_size, ne_eq]; omega)) | ((first | refine hAl ?_ ?_ | refine hPu ?_ ?_); focus first | omega | (simp only [World.size_alloc, World.putObj_size, ne_eq]; omega))); exact rfl; conv => enter [6, 3]; whnf) | (apply wr_cat; (iterate 3 exact rfl); (first | omega | (simp only [List.length_append]; omega))) | (apply wc_ret; try simp only [thenE, inBlockE, bodyQ]) | (apply wr_nil; try simp only [thenE, inBlockE, bodyQ]))
              refine leave2 (v1 := S (varint (num * 8 + kind).toNat ++ varint s.length ++ s)) (v2 := .bool true) rfl rfl rfl ⟨by rw [ha.2]; rfl, (hk0.trans hk2).trans hk3⟩))
end Go.Proofs.YthlbgeonobicbaaDoor
