/- wire.Varint: what it does. -/
import Derived.Test.YthlbgeonobicbaaDoorV5
import Derived.Test.YthlbgeonobicbaaDoorTab
namespace Go.Proofs.YthlbgeonobicbaaDoor
open Go Go.V Go.RowKit
set_option linter.unusedVariables false
set_option linter.unusedSimpArgs false

/-- A number's bytes. -/
def varint (n : Nat) : List UInt8 := if h : n < 128 then [UInt8.ofNat n] else UInt8.ofNat (n % 128 + 128) :: varint (n / 128)
termination_by n
decreasing_by omega
theorem varint_lt {n : Nat} (h : n < 128) : varint n = [UInt8.ofNat n] := by unfold varint; rw [dif_pos h]
theorem varint_ge {n : Nat} (h : 128 ≤ n) : varint n = UInt8.ofNat (n % 128 + 128) :: varint (n / 128) := by rw [varint, dif_neg (by omega)]
theorem varint_le : ∀ (k n : Nat), n < 128 ^ (k + 1) → (varint n).length ≤ k + 1
  | 0, n, h => by rw [varint_lt (by omega)]; simp
  | k + 1, n, h => by
    by_cases hn : n < 128
    · rw [varint_lt hn]; simp
    · rw [varint_ge (by omega)]
      have := varint_le k (n / 128) (by rw [Nat.pow_succ] at h; omega)
      simp; omega
theorem bytesV_snoc (l : List UInt8) (b : UInt8) : bytesV (l ++ [b]) = bytesV l ++ [.int .u8 (b.toNat : Int)] := by simp [bytesV]
theorem byte_or (m : Nat) : bits .or .u8 ((m : Int) % 256) 128 = ((UInt8.ofNat (m % 128 + 128)).toNat : Int) := by
  rw [u8_or _ _ (by omega) (by omega) (by omega) (by omega)]
  have h1 : ((m : Int) % 256).toNat = m % 256 := by omega
  rw [h1]
  have h2 : m % 256 ||| (128 : Int).toNat = m % 128 + 128 := by
    show m % 256 ||| 128 = _
    have : ∀ x : Fin 256, (x.val ||| 128) = x.val % 128 + 128 := by decide +kernel
    have := this ⟨m % 256, Nat.mod_lt _ (by omega)⟩
    simp only at this
    rw [this]; omega
  rw [h2]
  simp; omega

set_option maxRecDepth 100000 in
set_option maxHeartbeats 1000000 in
theorem varint_ca (n : Nat) (hn : n < 18446744073709551616) (w : World) :
    Ca Tryd.prog 64 #[.int .u64 (n : Int)] w fun v w' => v = S (varint n) ∧ Keeps NoB w w' := by
  refine ca_of_body (args := [.int .u64 (n : Int)]) Tryd.func64 rfl (by kernel_rfl) ?_
  (repeat first | (apply wr_assign; exact rfl; with_reducible (conv => enter [6, 3]; whnf)) | apply wr_end | apply wc_seq | apply wc_region)
  refine wr_make0 (cap := 10) w.heap.size rfl rfl rfl (by decide) (by decide) (Nat.le_refl _) ?_
  intro v w1 ho1 hk1 hne1
  (repeat first | (apply wr_assign; exact rfl; with_reducible (conv => enter [6, 3]; whnf)) | apply wr_end | apply wc_seq | apply wc_block)
  refine wc_loopL (α := Nat × Value × List UInt8) (fun x => [(0, .int .u64 (x.1 : Int)), (3, x.2.1)])
    (fun x ds w' => ds = [] ∧ x.1 < 18446744073709551616 ∧ x.2.2.length ≤ 10 ∧ x.2.2 ++ varint x.1 = varint n ∧ w'.ownsRow w.heap.size 5 1 x.2.1 x.2.2.length (bytesV x.2.2) ∧ Keeps NoB w w') (fun x => x.1) (n, v, []) ⟨rfl, hn, by simp, rfl, ho1, hk1⟩ ⟨rfl, rfl, trivial⟩ ?_
  rintro ⟨m, v2, pre⟩ ds f0 w2 ⟨rfl, hm, hpl, hpre, ho2, hk2⟩
  simp only at hm hpl hpre ho2
  dsimp only
  have hvl := varint_le 9 n (by omega)
  have hle : pre.length + (varint m).length ≤ 10 := by rw [← List.length_append, hpre]; exact hvl
  have hpos : 1 ≤ (varint m).length := by unfold varint; split <;> simp
  by_cases hlt : m < 128
  · (repeat first | (apply wr_move; exact rfl; with_reducible (conv => enter [6, 3]; whnf)) | apply wr_end | apply wc_seq | apply wc_region | (apply wr_cmp; (iterate 3 exact rfl); exact cmpF (by dsimp only [cmpN]; first | done | omega)) | (apply wr_conv; (iterate 2 exact rfl); exact w_fit (by dsimp only [kIn]; first | done | omega)) | (apply wc_false; exact rfl) | (apply wc_exit; try simp only [thenE, inBlockE, bodyQ, ↓reduceIte, Nat.reduceEqDiff]))
    refine wr_buildSlice (vs := [.int .u8 (m : Int)]) rfl rfl (by intro v hv; simp at hv; subst hv; rfl) rfl (by decide) (by decide) (by decide) ?_
    refine wr_append (v := v2) (n := pre.length) (m := 1) (news := [.int .u8 (m : Int)]) rfl rfl (ho2.alloc _) rfl (heap_alloc_same _ _) rfl (by intro v hv; simp at hv; subst hv; rfl) rfl (by decide) (by omega) (by omega) (by have := hk2.size; simp; omega) ?_
    intro v3 w3 ho3 hk3 _
    have hb : bytesV pre ++ [.int .u8 (m : Int)] = bytesV (pre ++ [UInt8.ofNat m]) := by rw [bytesV_snoc]; simp; omega
    rw [hb] at ho3
    refine wr_bytes2str rfl rfl (SlR.of_own ho3) ?_
    (repeat first | (apply wr_assign; exact rfl; with_reducible (conv => enter [6, 3]; whnf)) | apply wr_end | (apply wc_ret; try simp only [thenE, inBlockE, bodyQ]))
    refine leave1 (v := S (pre ++ [UInt8.ofNat m])) rfl rfl ⟨?_, ?_⟩
    · rw [← hpre, varint_lt hlt]
    · exact (hk2.alloc _).trans' hk3 fun i hi h => absurd (ho2.lt i h).1 (by omega)
  · have hbyte : bits .or .u8 ((m : Int) % 256) 128 = ((UInt8.ofNat (m % 128 + 128)).toNat : Int) := byte_or m
    have hconv : IntKind.u8.wrap (m : Int) = (m : Int) % 256 := m_u8 _
    (repeat first | (apply wr_move; exact rfl; with_reducible (conv => enter [6, 3]; whnf)) | apply wr_end | apply wc_seq | apply wc_region | apply wc_skip | apply wc_block | (apply wr_cmp; (iterate 3 exact rfl); exact cmpT (by dsimp only [cmpP]; first | done | omega)) | (apply wr_conv; (iterate 2 exact rfl); (first | exact w_fit (by dsimp only [kIn]; first | done | omega) | with_reducible assumption | rfl)) | (apply wr_bits; exact rfl; (focus (simp; done)); (iterate 2 exact rfl); assumption) | (apply wc_true; exact rfl))
    refine wr_buildSlice (vs := [.int .u8 ((UInt8.ofNat (m % 128 + 128)).toNat : Int)]) rfl rfl (by intro v hv; simp at hv; subst hv; rfl) rfl (by decide) (by decide) (by decide) ?_
    refine wr_append (v := v2) (n := pre.length) (m := 1) (news := [.int .u8 ((UInt8.ofNat (m % 128 + 128)).toNat : Int)]) rfl rfl (ho2.alloc _) rfl (heap_alloc_same _ _) rfl (by intro v hv; simp at hv; subst hv; rfl) rfl (by decide) (by omega) (by omega) (by have := hk2.size; simp; omega) ?_
    intro v3 w3 ho3 hk3 _
    rw [← bytesV_snoc] at ho3
    (repeat first | (apply wr_move; exact rfl; with_reducible (conv => enter [6, 3]; whnf)) | (apply wr_assign; exact rfl; with_reducible (conv => enter [6, 3]; whnf)) | apply wc_region | (apply wr_nil; try simp only [thenE, inBlockE, bodyQ]))
    refine wr_shrN 7 rfl rfl rfl (by decide) ?_
    (repeat first | (apply wr_assign; exact rfl; with_reducible (conv => enter [6, 3]; whnf)) | apply wr_end)
    rw [varint_ge (by omega)] at hpre hle
    refine ⟨(m / 128, v3, pre ++ [UInt8.ofNat (m % 128 + 128)]), by simp only; omega, ⟨rfl, by simp only; omega, ?_, ?_, ?_, ?_⟩, rfl, rfl, trivial⟩
    · simp at hle ⊢; omega
    · simpa using hpre
    · simpa using ho3
    · exact (hk2.alloc _).trans' hk3 fun i hi h => absurd (ho2.lt i h).1 (by omega)
theorem varint_ca' (z : Int) (h0 : 0 ≤ z) (h1 : z < 18446744073709551616) (w : World) :
    Ca Tryd.prog 64 #[.int .u64 z] w fun v w' => v = S (varint z.toNat) ∧ Keeps NoB w w' := by
  obtain ⟨n, rfl⟩ := Int.eq_ofNat_of_zero_le h0
  rw [Int.toNat_natCast]
  exact varint_ca n (by omega) w
theorem varint_len (n : Nat) (h : n < 18446744073709551616) : (varint n).length ≤ 10 := varint_le 9 n (by omega)
end Go.Proofs.YthlbgeonobicbaaDoor
