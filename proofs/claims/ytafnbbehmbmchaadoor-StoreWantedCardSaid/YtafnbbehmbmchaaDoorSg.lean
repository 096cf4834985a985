/- slices.SortFunc at no or one element. -/
import Derived.Test.YtafnbbehmbmchaaDoorSf
import Derived.Test.YtafnbbehmbmchaaDoorShelf
namespace Go.Proofs.YtafnbbehmbmchaaDoor
open Go Go.V Go.RowKit
set_option linter.unusedVariables false
set_option linter.unusedSimpArgs false

theorem bitsLen_ca (n : Nat) (hn : n < 4611686018427387904) (w : World) : Ca Tryd.prog 35 #[.int .u64 (n : Int)] w fun v w' => v = .int .i64 (Lib.bitLen n : Int) ∧ w' = w := by
  refine Ca.of_calls (Tryd.bits_Len (n : Int) w (by omega) (by omega)) ?_
  rintro e w' ⟨h1, h2⟩
  exact ⟨_, h1, by simp, h2⟩
set_option maxRecDepth 100000 in
theorem kins_small (a : Option Addr) (n c : Nat) (hn : n ≤ 1) (fv : Value) (w : World) :
    Ca Tryd.prog 43 #[.slice a n c, .int .i64 0, .int .i64 (n : Int), fv] w fun v w' => v = .tuple #[] ∧ w' = w := by
  refine ca_of_body (args := [.slice a n c, .int .i64 0, .int .i64 (n : Int), fv]) Tryd.func43 rfl (by kernel_rfl) ?_
  (repeat first | (apply wr_move; exact rfl; with_reducible (conv => enter [6, 3]; whnf)) | (apply wr_assign; exact rfl; with_reducible (conv => enter [6, 3]; whnf)) | apply wr_end | apply wc_seq | apply wc_region | apply wc_block | (apply wr_add; (iterate 3 exact rfl); exact w_fit (by dsimp only [kIn]; first | done | omega)))
  refine wc_loopL (α := Unit) (fun _ => [(2, .int .i64 (n : Int)), (8, .int .i64 1)]) (fun _ ds w' => ds = [] ∧ w' = w) (fun _ => 0) () ⟨rfl, rfl⟩ ⟨rfl, rfl, trivial⟩ ?_
  rintro _ ds f0 w2 ⟨rfl, rfl⟩
  (repeat first | (apply wr_move; exact rfl; with_reducible (conv => enter [6, 3]; whnf)) | apply wr_end | apply wc_seq | apply wc_region | (apply wr_cmp; (iterate 3 exact rfl); exact cmpF (by dsimp only [cmpN]; first | done | omega)) | (apply wc_false; exact rfl) | (apply wc_exit; try simp only [thenE, inBlockE, bodyQ, ↓reduceIte, Nat.reduceEqDiff]))
  try unfold bodyQ
  exact leave0 rfl ⟨rfl, rfl⟩
set_option maxRecDepth 100000 in
theorem kpdq_small (a : Option Addr) (n c : Nat) (hn : n ≤ 1) (l : Int) (fv : Value) (w : World) :
    Ca Tryd.prog 34 #[.slice a n c, .int .i64 0, .int .i64 (n : Int), .int .i64 l, fv] w fun v w' => v = .tuple #[] ∧ w' = w := by
  refine ca_of_body (args := [.slice a n c, .int .i64 0, .int .i64 (n : Int), .int .i64 l, fv]) Tryd.func34 rfl (by kernel_rfl) ?_
  (repeat first | (apply wr_assign; exact rfl; with_reducible (conv => enter [6, 3]; whnf)) | apply wr_end | apply wc_seq | apply wc_region | apply wc_block)
  refine wc_loopL (α := Unit) (fun _ => [(0, .slice a n c), (1, .int .i64 0), (2, .int .i64 (n : Int)), (4, fv)]) (fun _ ds w' => ds = [] ∧ w' = w) (fun _ => 0) () ⟨rfl, rfl⟩ ⟨rfl, rfl, rfl, rfl, trivial⟩ ?_
  rintro _ ds f0 w2 ⟨rfl, rfl⟩
  (repeat first | (apply wr_move; exact rfl; with_reducible (conv => enter [6, 3]; whnf)) | (apply wr_assign; exact rfl; with_reducible (conv => enter [6, 3]; whnf)) | apply wr_end | apply wc_seq | apply wc_region | apply wc_block | (apply wr_cmp; (iterate 3 exact rfl); exact cmpT (by dsimp only [cmpP]; first | done | omega)) | (apply wr_sub; (iterate 3 exact rfl); exact w_fit (by dsimp only [kIn]; first | done | omega)) | (apply wc_true; exact rfl))
  refine wr_call (vs := [.slice a n c, .int .i64 0, .int .i64 (n : Int), fv]) rfl (kins_small a n c hn fv w2) rfl ?_
  rintro v w3 ⟨rfl, rfl⟩
  (repeat first | apply wr_end | (apply wc_ret; try simp only [thenE, inBlockE, bodyQ]))
  try unfold bodyQ
  exact leave0 rfl ⟨rfl, rfl⟩
set_option maxRecDepth 100000 in
theorem ksort_small (a : Option Addr) (n c : Nat) (hn : n ≤ 1) (fv : Value) (w : World) :
    Ca Tryd.prog 27 #[.slice a n c, fv] w fun v w' => v = .tuple #[] ∧ w' = w := by
  refine ca_of_body (args := [.slice a n c, fv]) Tryd.func27 rfl (by kernel_rfl) ?_
  (repeat first | (apply wr_move; exact rfl; with_reducible (conv => enter [6, 3]; whnf)) | (apply wr_assign; exact rfl; with_reducible (conv => enter [6, 3]; whnf)) | apply wr_end | apply wc_seq | apply wc_region | (apply wr_len_slice; iterate 2 exact rfl) | (apply wr_conv; (iterate 2 exact rfl); exact w_fit (by dsimp only [kIn]; first | done | omega)))
  refine wr_call (vs := [.int .u64 (n : Int)]) rfl (bitsLen_ca n (by omega) w) rfl ?_
  rintro v w3 ⟨rfl, rfl⟩
  (repeat first | (apply wr_move; exact rfl; with_reducible (conv => enter [6, 3]; whnf)))
  refine wr_call (vs := [.slice a n c, .int .i64 0, .int .i64 (n : Int), .int .i64 (Lib.bitLen n : Int), fv]) rfl (kpdq_small a n c hn _ fv w3) rfl ?_
  rintro v w4 ⟨rfl, rfl⟩
  (repeat first | (apply wr_nil; try simp only [thenE, inBlockE, bodyQ]))
  try unfold bodyQ
  exact leave0 rfl ⟨rfl, rfl⟩
set_option maxRecDepth 100000 in
theorem rins_small (a : Option Addr) (n c : Nat) (hn : n ≤ 1) (fv : Value) (w : World) :
    Ca Tryd.prog 55 #[.slice a n c, .int .i64 0, .int .i64 (n : Int), fv] w fun v w' => v = .tuple #[] ∧ w' = w := by
  refine ca_of_body (args := [.slice a n c, .int .i64 0, .int .i64 (n : Int), fv]) Tryd.func55 rfl (by kernel_rfl) ?_
  (repeat first | (apply wr_move; exact rfl; with_reducible (conv => enter [6, 3]; whnf)) | (apply wr_assign; exact rfl; with_reducible (conv => enter [6, 3]; whnf)) | apply wr_end | apply wc_seq | apply wc_region | apply wc_block | (apply wr_add; (iterate 3 exact rfl); exact w_fit (by dsimp only [kIn]; first | done | omega)))
  refine wc_loopL (α := Unit) (fun _ => [(2, .int .i64 (n : Int)), (8, .int .i64 1)]) (fun _ ds w' => ds = [] ∧ w' = w) (fun _ => 0) () ⟨rfl, rfl⟩ ⟨rfl, rfl, trivial⟩ ?_
  rintro _ ds f0 w2 ⟨rfl, rfl⟩
  (repeat first | (apply wr_move; exact rfl; with_reducible (conv => enter [6, 3]; whnf)) | apply wr_end | apply wc_seq | apply wc_region | (apply wr_cmp; (iterate 3 exact rfl); exact cmpF (by dsimp only [cmpN]; first | done | omega)) | (apply wc_false; exact rfl) | (apply wc_exit; try simp only [thenE, inBlockE, bodyQ, ↓reduceIte, Nat.reduceEqDiff]))
  try unfold bodyQ
  exact leave0 rfl ⟨rfl, rfl⟩
set_option maxRecDepth 100000 in
theorem rpdq_small (a : Option Addr) (n c : Nat) (hn : n ≤ 1) (l : Int) (fv : Value) (w : World) :
    Ca Tryd.prog 39 #[.slice a n c, .int .i64 0, .int .i64 (n : Int), .int .i64 l, fv] w fun v w' => v = .tuple #[] ∧ w' = w := by
  refine ca_of_body (args := [.slice a n c, .int .i64 0, .int .i64 (n : Int), .int .i64 l, fv]) Tryd.func39 rfl (by kernel_rfl) ?_
  (repeat first | (apply wr_assign; exact rfl; with_reducible (conv => enter [6, 3]; whnf)) | apply wr_end | apply wc_seq | apply wc_region | apply wc_block)
  refine wc_loopL (α := Unit) (fun _ => [(0, .slice a n c), (1, .int .i64 0), (2, .int .i64 (n : Int)), (4, fv)]) (fun _ ds w' => ds = [] ∧ w' = w) (fun _ => 0) () ⟨rfl, rfl⟩ ⟨rfl, rfl, rfl, rfl, trivial⟩ ?_
  rintro _ ds f0 w2 ⟨rfl, rfl⟩
  (repeat first | (apply wr_move; exact rfl; with_reducible (conv => enter [6, 3]; whnf)) | (apply wr_assign; exact rfl; with_reducible (conv => enter [6, 3]; whnf)) | apply wr_end | apply wc_seq | apply wc_region | apply wc_block | (apply wr_cmp; (iterate 3 exact rfl); exact cmpT (by dsimp only [cmpP]; first | done | omega)) | (apply wr_sub; (iterate 3 exact rfl); exact w_fit (by dsimp only [kIn]; first | done | omega)) | (apply wc_true; exact rfl))
  refine wr_call (vs := [.slice a n c, .int .i64 0, .int .i64 (n : Int), fv]) rfl (rins_small a n c hn fv w2) rfl ?_
  rintro v w3 ⟨rfl, rfl⟩
  (repeat first | apply wr_end | (apply wc_ret; try simp only [thenE, inBlockE, bodyQ]))
  try unfold bodyQ
  exact leave0 rfl ⟨rfl, rfl⟩
set_option maxRecDepth 100000 in
theorem rsort_small (a : Option Addr) (n c : Nat) (hn : n ≤ 1) (fv : Value) (w : World) :
    Ca Tryd.prog 29 #[.slice a n c, fv] w fun v w' => v = .tuple #[] ∧ w' = w := by
  refine ca_of_body (args := [.slice a n c, fv]) Tryd.func29 rfl (by kernel_rfl) ?_
  (repeat first | (apply wr_move; exact rfl; with_reducible (conv => enter [6, 3]; whnf)) | (apply wr_assign; exact rfl; with_reducible (conv => enter [6, 3]; whnf)) | apply wr_end | apply wc_seq | apply wc_region | (apply wr_len_slice; iterate 2 exact rfl) | (apply wr_conv; (iterate 2 exact rfl); exact w_fit (by dsimp only [kIn]; first | done | omega)))
  refine wr_call (vs := [.int .u64 (n : Int)]) rfl (bitsLen_ca n (by omega) w) rfl ?_
  rintro v w3 ⟨rfl, rfl⟩
  (repeat first | (apply wr_move; exact rfl; with_reducible (conv => enter [6, 3]; whnf)))
  refine wr_call (vs := [.slice a n c, .int .i64 0, .int .i64 (n : Int), .int .i64 (Lib.bitLen n : Int), fv]) rfl (rpdq_small a n c hn _ fv w3) rfl ?_
  rintro v w4 ⟨rfl, rfl⟩
  (repeat first | (apply wr_nil; try simp only [thenE, inBlockE, bodyQ]))
  try unfold bodyQ
  exact leave0 rfl ⟨rfl, rfl⟩
end Go.Proofs.YtafnbbehmbmchaaDoor
