/- payload.rule, addr, fields: what they do. -/
import Derived.Test.YthlbgeonobicbaaDoorYa
namespace Go.Proofs.YthlbgeonobicbaaDoor
open Go Go.V Go.RowKit
set_option linter.unusedVariables false
set_option linter.unusedSimpArgs false

/-- Block g holds fields' cells. -/
abbrev FS (w : World) (g : Nat) (cs : List Value) : Prop := w.heap[g]? = some (.cells cs.toArray 79 (0, 0))
set_option maxRecDepth 100000 in
set_option maxHeartbeats 1000000 in
theorem rule_ca (b : Nat) (w : World) : Ca Tryd.prog 52 #[.pointer (some ⟨b, 0, none⟩)] w fun v w' => ∃ g b0 b1, v = .slice (some ⟨g, 0, none⟩) 2 2 ∧ FS w' g (textC [] b0 ++ textC [] b1) ∧ (w'.heap[b0]? = some (.cells #[.pointer (some ⟨b, 0, none⟩)] 104 (0, 0)) ∧ w.heap.size ≤ b0) ∧ (w'.heap[b1]? = some (.cells #[.pointer (some ⟨b, 1, none⟩)] 104 (0, 0)) ∧ w.heap.size ≤ b1) ∧ w.heap.size ≤ g ∧ Keeps NoB w w' := by
  refine ca_of_body (args := [.pointer (some ⟨b, 0, none⟩)]) Tryd.func52 rfl (by kernel_rfl) ?_
  (repeat first | (apply wr_assign; exact rfl; with_reducible (conv => enter [6, 3]; whnf)) | apply wr_end | apply wc_seq | apply wc_region)
  refine wc_drawP (l := _) 8 _ (by kernel_rfl) (by kernel_rfl) rfl (by kernel_rfl) (by kernel_rfl) (by decide) ?_
  apply chP_pure
  focus
    intro x w' hk hF
    apply wr_move; exact rfl; with_reducible (conv => enter [6, 3]; whnf)
    apply wr_nil
    exact ⟨rfl, Keeps.refl _ _⟩
  focus (intro x y h; rfl)
  focus kernel_rfl
  apply chP_pure
  focus
    intro x w' hk hF
    refine wr_nilCheck rfl rfl ?_
    apply wr_nil
    exact ⟨rfl, Keeps.refl _ _⟩
  focus (intro x y h; rfl)
  focus kernel_rfl
  apply chP_pure
  focus
    intro x w' hk hF
    refine wr_fieldAddr rfl rfl ?_
    apply wr_nil
    exact ⟨rfl, Keeps.refl _ _⟩
  focus (intro x y h; rfl)
  focus kernel_rfl
  refine chP_fact (fun y => .agg (textC [] (blkOf y)).toArray) (fun y w' => w'.heap[blkOf y]? = some (.cells #[.pointer (some ⟨b, 0, none⟩)] 104 (0, 0)) ∧ w.heap.size ≤ blkOf y) (fun y w w' h k => ⟨k.heap h.1 (fun h => h), h.2⟩) ?_ ?_
  focus
    intro x w' hk hF
    refine wr_call (vs := [S [], .pointer (some ⟨b, 0, none⟩)]) rfl (ptext_ca [] ⟨b, 0, none⟩ _) rfl ?_
    rintro v w'' ⟨bx, rfl, h1, h2, h3⟩
    apply wr_nil
    exact ⟨.pointer (some ⟨bx, 0, none⟩), rfl, ⟨h1, Nat.le_trans hk.size h2⟩, h3⟩
  apply chP_pure
  focus
    intro x w' hk hF
    apply wr_move; exact rfl; with_reducible (conv => enter [6, 3]; whnf)
    apply wr_nil
    exact ⟨rfl, Keeps.refl _ _⟩
  focus (intro x y h; rfl)
  focus kernel_rfl
  apply chP_pure
  focus
    intro x w' hk hF
    refine wr_nilCheck rfl rfl ?_
    apply wr_nil
    exact ⟨rfl, Keeps.refl _ _⟩
  focus (intro x y h; rfl)
  focus kernel_rfl
  apply chP_pure
  focus
    intro x w' hk hF
    refine wr_fieldAddr rfl rfl ?_
    apply wr_nil
    exact ⟨rfl, Keeps.refl _ _⟩
  focus (intro x y h; rfl)
  focus kernel_rfl
  refine chP_fact (fun y => .agg (textC [] (blkOf y)).toArray) (fun y w' => w'.heap[blkOf y]? = some (.cells #[.pointer (some ⟨b, 1, none⟩)] 104 (0, 0)) ∧ w.heap.size ≤ blkOf y) (fun y w w' h k => ⟨k.heap h.1 (fun h => h), h.2⟩) ?_ ?_
  focus
    intro x w' hk hF
    refine wr_call (vs := [S [], .pointer (some ⟨b, 1, none⟩)]) rfl (ptext_ca [] ⟨b, 1, none⟩ _) rfl ?_
    rintro v w'' ⟨bx, rfl, h1, h2, h3⟩
    apply wr_nil
    exact ⟨.pointer (some ⟨bx, 0, none⟩), rfl, ⟨h1, Nat.le_trans hk.size h2⟩, h3⟩
  refine chP_nil ?_
  intro x w3 hk3 hF
  have h0 : w3.heap[blkOf (x 3)]? = some (.cells #[.pointer (some ⟨b, 0, none⟩)] 104 (0, 0)) ∧ w.heap.size ≤ blkOf (x 3) := hF 3 (by decide)
  have h1 : w3.heap[blkOf (x 7)]? = some (.cells #[.pointer (some ⟨b, 1, none⟩)] 104 (0, 0)) ∧ w.heap.size ≤ blkOf (x 7) := hF 7 (by decide)
  have hs3 : w.heap.size ≤ w3.heap.size := hk3.size
  refine wr_buildSlice (vs := [.agg (textC [] (blkOf (x 3))).toArray, .agg (textC [] (blkOf (x 7))).toArray]) rfl rfl (by intro v hv; simp at hv; rcases hv with rfl | rfl <;> rfl) rfl (by decide) (by decide) (by decide) ?_
  (repeat first | (apply wr_assign; exact rfl; with_reducible (conv => enter [6, 3]; whnf)) | apply wr_end | (apply wc_ret; try simp only [thenE, inBlockE, bodyQ]))
  exact leave1 (v := .slice (some ⟨w3.heap.size, 0, none⟩) 2 2) rfl rfl ⟨_, blkOf (x 3), blkOf (x 7), rfl, heap_alloc_same _ _, ⟨hAl (by have := lt_of_heap h0.1; omega) h0.1, h0.2⟩, ⟨hAl (by have := lt_of_heap h1.1; omega) h1.1, h1.2⟩, hs3, (((Keeps.refl NoB w).drew).trans hk3).alloc _⟩
set_option maxRecDepth 100000 in
set_option maxHeartbeats 1000000 in
theorem addr_ca (b : Nat) (w : World) : Ca Tryd.prog 54 #[.pointer (some ⟨b, 0, none⟩)] w fun v w' => ∃ g b0 b1 b2, v = .slice (some ⟨g, 0, none⟩) 3 3 ∧ FS w' g (textC [] b0 ++ numC [] b1 ++ numC [] b2) ∧ (w'.heap[b0]? = some (.cells #[.pointer (some ⟨b, 0, none⟩)] 104 (0, 0)) ∧ w.heap.size ≤ b0) ∧ (w'.heap[b1]? = some (.cells #[.pointer (some ⟨b, 1, none⟩)] 106 (0, 0)) ∧ w.heap.size ≤ b1) ∧ (w'.heap[b2]? = some (.cells #[.pointer (some ⟨b, 2, none⟩)] 106 (0, 0)) ∧ w.heap.size ≤ b2) ∧ w.heap.size ≤ g ∧ Keeps NoB w w' := by
  refine ca_of_body (args := [.pointer (some ⟨b, 0, none⟩)]) Tryd.func54 rfl (by kernel_rfl) ?_
  (repeat first | (apply wr_assign; exact rfl; with_reducible (conv => enter [6, 3]; whnf)) | apply wr_end | apply wc_seq | apply wc_region)
  refine wc_drawP (l := _) 12 _ (by kernel_rfl) (by kernel_rfl) rfl (by kernel_rfl) (by kernel_rfl) (by decide) ?_
  apply chP_pure
  focus
    intro x w' hk hF
    apply wr_move; exact rfl; with_reducible (conv => enter [6, 3]; whnf)
    apply wr_nil
    exact ⟨rfl, Keeps.refl _ _⟩
  focus (intro x y h; rfl)
  focus kernel_rfl
  apply chP_pure
  focus
    intro x w' hk hF
    refine wr_nilCheck rfl rfl ?_
    apply wr_nil
    exact ⟨rfl, Keeps.refl _ _⟩
  focus (intro x y h; rfl)
  focus kernel_rfl
  apply chP_pure
  focus
    intro x w' hk hF
    refine wr_fieldAddr rfl rfl ?_
    apply wr_nil
    exact ⟨rfl, Keeps.refl _ _⟩
  focus (intro x y h; rfl)
  focus kernel_rfl
  refine chP_fact (fun y => .agg (textC [] (blkOf y)).toArray) (fun y w' => w'.heap[blkOf y]? = some (.cells #[.pointer (some ⟨b, 0, none⟩)] 104 (0, 0)) ∧ w.heap.size ≤ blkOf y) (fun y w w' h k => ⟨k.heap h.1 (fun h => h), h.2⟩) ?_ ?_
  focus
    intro x w' hk hF
    refine wr_call (vs := [S [], .pointer (some ⟨b, 0, none⟩)]) rfl (ptext_ca [] ⟨b, 0, none⟩ _) rfl ?_
    rintro v w'' ⟨bx, rfl, h1, h2, h3⟩
    apply wr_nil
    exact ⟨.pointer (some ⟨bx, 0, none⟩), rfl, ⟨h1, Nat.le_trans hk.size h2⟩, h3⟩
  apply chP_pure
  focus
    intro x w' hk hF
    apply wr_move; exact rfl; with_reducible (conv => enter [6, 3]; whnf)
    apply wr_nil
    exact ⟨rfl, Keeps.refl _ _⟩
  focus (intro x y h; rfl)
  focus kernel_rfl
  apply chP_pure
  focus
    intro x w' hk hF
    refine wr_nilCheck rfl rfl ?_
    apply wr_nil
    exact ⟨rfl, Keeps.refl _ _⟩
  focus (intro x y h; rfl)
  focus kernel_rfl
  apply chP_pure
  focus
    intro x w' hk hF
    refine wr_fieldAddr rfl rfl ?_
    apply wr_nil
    exact ⟨rfl, Keeps.refl _ _⟩
  focus (intro x y h; rfl)
  focus kernel_rfl
  refine chP_fact (fun y => .agg (numC [] (blkOf y)).toArray) (fun y w' => w'.heap[blkOf y]? = some (.cells #[.pointer (some ⟨b, 1, none⟩)] 106 (0, 0)) ∧ w.heap.size ≤ blkOf y) (fun y w w' h k => ⟨k.heap h.1 (fun h => h), h.2⟩) ?_ ?_
  focus
    intro x w' hk hF
    refine wr_call (vs := [S [], .pointer (some ⟨b, 1, none⟩)]) rfl (pnumber_ca [] ⟨b, 1, none⟩ _) rfl ?_
    rintro v w'' ⟨bx, rfl, h1, h2, h3⟩
    apply wr_nil
    exact ⟨.pointer (some ⟨bx, 0, none⟩), rfl, ⟨h1, Nat.le_trans hk.size h2⟩, h3⟩
  apply chP_pure
  focus
    intro x w' hk hF
    apply wr_move; exact rfl; with_reducible (conv => enter [6, 3]; whnf)
    apply wr_nil
    exact ⟨rfl, Keeps.refl _ _⟩
  focus (intro x y h; rfl)
  focus kernel_rfl
  apply chP_pure
  focus
    intro x w' hk hF
    refine wr_nilCheck rfl rfl ?_
    apply wr_nil
    exact ⟨rfl, Keeps.refl _ _⟩
  focus (intro x y h; rfl)
  focus kernel_rfl
  apply chP_pure
  focus
    intro x w' hk hF
    refine wr_fieldAddr rfl rfl ?_
    apply wr_nil
    exact ⟨rfl, Keeps.refl _ _⟩
  focus (intro x y h; rfl)
  focus kernel_rfl
  refine chP_fact (fun y => .agg (numC [] (blkOf y)).toArray) (fun y w' => w'.heap[blkOf y]? = some (.cells #[.pointer (some ⟨b, 2, none⟩)] 106 (0, 0)) ∧ w.heap.size ≤ blkOf y) (fun y w w' h k => ⟨k.heap h.1 (fun h => h), h.2⟩) ?_ ?_
  focus
    intro x w' hk hF
    refine wr_call (vs := [S [], .pointer (some ⟨b, 2, none⟩)]) rfl (pnumber_ca [] ⟨b, 2, none⟩ _) rfl ?_
    rintro v w'' ⟨bx, rfl, h1, h2, h3⟩
    apply wr_nil
    exact ⟨.pointer (some ⟨bx, 0, none⟩), rfl, ⟨h1, Nat.le_trans hk.size h2⟩, h3⟩
  refine chP_nil ?_
  intro x w3 hk3 hF
  have h0 : w3.heap[blkOf (x 3)]? = some (.cells #[.pointer (some ⟨b, 0, none⟩)] 104 (0, 0)) ∧ w.heap.size ≤ blkOf (x 3) := hF 3 (by decide)
  have h1 : w3.heap[blkOf (x 7)]? = some (.cells #[.pointer (some ⟨b, 1, none⟩)] 106 (0, 0)) ∧ w.heap.size ≤ blkOf (x 7) := hF 7 (by decide)
  have h2 : w3.heap[blkOf (x 11)]? = some (.cells #[.pointer (some ⟨b, 2, none⟩)] 106 (0, 0)) ∧ w.heap.size ≤ blkOf (x 11) := hF 11 (by decide)
  have hs3 : w.heap.size ≤ w3.heap.size := hk3.size
  refine wr_buildSlice (vs := [.agg (textC [] (blkOf (x 3))).toArray, .agg (numC [] (blkOf (x 7))).toArray, .agg (numC [] (blkOf (x 11))).toArray]) rfl rfl (by intro v hv; simp at hv; rcases hv with rfl | rfl | rfl <;> rfl) rfl (by decide) (by decide) (by decide) ?_
  (repeat first | (apply wr_assign; exact rfl; with_reducible (conv => enter [6, 3]; whnf)) | apply wr_end | (apply wc_ret; try simp only [thenE, inBlockE, bodyQ]))
  exact leave1 (v := .slice (some ⟨w3.heap.size, 0, none⟩) 3 3) rfl rfl ⟨_, blkOf (x 3), blkOf (x 7), blkOf (x 11), rfl, heap_alloc_same _ _, ⟨hAl (by have := lt_of_heap h0.1; omega) h0.1, h0.2⟩, ⟨hAl (by have := lt_of_heap h1.1; omega) h1.1, h1.2⟩, ⟨hAl (by have := lt_of_heap h2.1; omega) h2.1, h2.2⟩, hs3, (((Keeps.refl NoB w).drew).trans hk3).alloc _⟩
end Go.Proofs.YthlbgeonobicbaaDoor
