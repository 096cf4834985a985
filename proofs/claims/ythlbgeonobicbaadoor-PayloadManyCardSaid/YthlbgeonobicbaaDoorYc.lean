/- payload.fields: what it does. -/
import Derived.Test.YthlbgeonobicbaaDoorYb
namespace Go.Proofs.YthlbgeonobicbaaDoor
open Go Go.V Go.RowKit
set_option linter.unusedVariables false
set_option linter.unusedSimpArgs false

/-- A payload's fields' boxes. -/
structure FB (w : World) (b base : Nat) (B : Nat → Nat) : Prop where
  h0 : w.heap[B 0]? = some (.cells #[.pointer (some ⟨b, 0, none⟩)] 104 (0, 0)) ∧ base ≤ B 0
  h1 : w.heap[B 1]? = some (.cells #[.pointer (some ⟨b, 1, none⟩)] 106 (0, 0)) ∧ base ≤ B 1
  h2 : w.heap[B 2]? = some (.cells #[.pointer (some ⟨b, 2, none⟩)] 104 (0, 0)) ∧ base ≤ B 2
  h3 : w.heap[B 3]? = some (.cells #[.pointer (some ⟨b, 3, none⟩)] 108 (0, 0)) ∧ w.heap[B 8]? = some (.cells #[.func (.func 52) #[] #[]] 109 (0, 0)) ∧ base ≤ B 3 ∧ base ≤ B 8
  h4 : w.heap[B 4]? = some (.cells #[.pointer (some ⟨b, 4, none⟩)] 106 (0, 0)) ∧ base ≤ B 4
  h5 : w.heap[B 5]? = some (.cells #[.pointer (some ⟨b, 5, none⟩)] 104 (0, 0)) ∧ base ≤ B 5
  h6 : w.heap[B 6]? = some (.cells #[.pointer (some ⟨b, 6, none⟩)] 111 (0, 0)) ∧ w.heap[B 9]? = some (.cells #[.func (.func 54) #[] #[]] 112 (0, 0)) ∧ base ≤ B 6 ∧ base ≤ B 9
  h7 : w.heap[B 7]? = some (.cells #[.pointer (some ⟨b, 7, none⟩)] 104 (0, 0)) ∧ base ≤ B 7
theorem FB.keep {w w' : World} {b base : Nat} {B : Nat → Nat} {D : Nat → Prop} (h : FB w b base B) (k : Keeps D w w') (hd : ∀ i, base ≤ i → ¬ D i) : FB w' b base B :=
  ⟨⟨k.heap h.h0.1 (hd _ h.h0.2), h.h0.2⟩, ⟨k.heap h.h1.1 (hd _ h.h1.2), h.h1.2⟩, ⟨k.heap h.h2.1 (hd _ h.h2.2), h.h2.2⟩, ⟨k.heap h.h3.1 (hd _ h.h3.2.2.1), k.heap h.h3.2.1 (hd _ h.h3.2.2.2), h.h3.2.2⟩, ⟨k.heap h.h4.1 (hd _ h.h4.2), h.h4.2⟩, ⟨k.heap h.h5.1 (hd _ h.h5.2), h.h5.2⟩, ⟨k.heap h.h6.1 (hd _ h.h6.2.2.1), k.heap h.h6.2.1 (hd _ h.h6.2.2.2), h.h6.2.2⟩, ⟨k.heap h.h7.1 (hd _ h.h7.2), h.h7.2⟩⟩
def fldCs (B : Nat → Nat) : List (List Value) := [textC [] (B 0), numC [112] (B 1), textC [111] (B 2), rulesC [114] (B 3) (B 8), numC [108] (B 4), textC [115] (B 5), addrsC [97] (B 6) (B 9), textC [107] (B 7)]
set_option maxRecDepth 100000 in
set_option maxHeartbeats 4000000 in
theorem fields_ca2 (b : Nat) (w : World) : Ca Tryd.prog 32 #[.pointer (some ⟨b, 0, none⟩)] w fun v w' => ∃ g B, v = .slice (some ⟨g, 0, none⟩) 8 8 ∧ FS w' g (fldCs B).flatten ∧ FB w' b w.heap.size B ∧ w.heap.size ≤ g ∧ Keeps NoB w w' := by
  refine ca_of_body (args := [.pointer (some ⟨b, 0, none⟩)]) Tryd.func32 rfl (by kernel_rfl) ?_
  (repeat first | (apply wr_assign; exact rfl; with_reducible (conv => enter [6, 3]; whnf)) | apply wr_end | apply wc_seq | apply wc_region)
  refine wc_drawP (l := _) 32 _ (by kernel_rfl) (by kernel_rfl) rfl (by kernel_rfl) (by kernel_rfl) (by decide) ?_
  apply chP_pure
  focus
    intro x w' hk hF
    apply wr_move; exact rfl; with_reducible (conv => enter [6, 3]; whnf)
    apply wr_nil
    exact ⟨rfl, Keeps.refl _ _⟩
  focus (intro x y h; rfl)
  focus kernel_rfl
  apply chP_pure
  focus
    intro x w' hk hF
    refine wr_nilCheck rfl rfl ?_
    apply wr_nil
    exact ⟨rfl, Keeps.refl _ _⟩
  focus (intro x y h; rfl)
  focus kernel_rfl
  apply chP_pure
  focus
    intro x w' hk hF
    refine wr_fieldAddr rfl rfl ?_
    apply wr_nil
    exact ⟨rfl, Keeps.refl _ _⟩
  focus (intro x y h; rfl)
  focus kernel_rfl
  refine chP_fact (fun y => .agg (textC [] (blkOf y)).toArray) (fun y w' => w'.heap[blkOf y]? = some (.cells #[.pointer (some ⟨b, 0, none⟩)] 104 (0, 0)) ∧ w.heap.size ≤ blkOf y) (fun y w w' h k => ⟨k.heap h.1 (fun h => h), h.2⟩) ?_ ?_
  focus
    intro x w' hk hF
    refine wr_call (vs := [S [], .pointer (some ⟨b, 0, none⟩)]) rfl (ptext_ca [] ⟨b, 0, none⟩ _) rfl ?_
    rintro v w'' ⟨bx, rfl, h1, h2, h3⟩
    apply wr_nil
    exact ⟨.pointer (some ⟨bx, 0, none⟩), rfl, ⟨h1, Nat.le_trans hk.size h2⟩, h3⟩
  apply chP_pure
  focus
    intro x w' hk hF
    apply wr_move; exact rfl; with_reducible (conv => enter [6, 3]; whnf)
    apply wr_nil
    exact ⟨rfl, Keeps.refl _ _⟩
  focus (intro x y h; rfl)
  focus kernel_rfl
  apply chP_pure
  focus
    intro x w' hk hF
    refine wr_nilCheck rfl rfl ?_
    apply wr_nil
    exact ⟨rfl, Keeps.refl _ _⟩
  focus (intro x y h; rfl)
  focus kernel_rfl
  apply chP_pure
  focus
    intro x w' hk hF
    refine wr_fieldAddr rfl rfl ?_
    apply wr_nil
    exact ⟨rfl, Keeps.refl _ _⟩
  focus (intro x y h; rfl)
  focus kernel_rfl
  refine chP_fact (fun y => .agg (numC [112] (blkOf y)).toArray) (fun y w' => w'.heap[blkOf y]? = some (.cells #[.pointer (some ⟨b, 1, none⟩)] 106 (0, 0)) ∧ w.heap.size ≤ blkOf y) (fun y w w' h k => ⟨k.heap h.1 (fun h => h), h.2⟩) ?_ ?_
  focus
    intro x w' hk hF
    refine wr_call (vs := [S [112], .pointer (some ⟨b, 1, none⟩)]) rfl (pnumber_ca [112] ⟨b, 1, none⟩ _) rfl ?_
    rintro v w'' ⟨bx, rfl, h1, h2, h3⟩
    apply wr_nil
    exact ⟨.pointer (some ⟨bx, 0, none⟩), rfl, ⟨h1, Nat.le_trans hk.size h2⟩, h3⟩
  apply chP_pure
  focus
    intro x w' hk hF
    apply wr_move; exact rfl; with_reducible (conv => enter [6, 3]; whnf)
    apply wr_nil
    exact ⟨rfl, Keeps.refl _ _⟩
  focus (intro x y h; rfl)
  focus kernel_rfl
  apply chP_pure
  focus
    intro x w' hk hF
    refine wr_nilCheck rfl rfl ?_
    apply wr_nil
    exact ⟨rfl, Keeps.refl _ _⟩
  focus (intro x y h; rfl)
  focus kernel_rfl
  apply chP_pure
  focus
    intro x w' hk hF
    refine wr_fieldAddr rfl rfl ?_
    apply wr_nil
    exact ⟨rfl, Keeps.refl _ _⟩
  focus (intro x y h; rfl)
  focus kernel_rfl
  refine chP_fact (fun y => .agg (textC [111] (blkOf y)).toArray) (fun y w' => w'.heap[blkOf y]? = some (.cells #[.pointer (some ⟨b, 2, none⟩)] 104 (0, 0)) ∧ w.heap.size ≤ blkOf y) (fun y w w' h k => ⟨k.heap h.1 (fun h => h), h.2⟩) ?_ ?_
  focus
    intro x w' hk hF
    refine wr_call (vs := [S [111], .pointer (some ⟨b, 2, none⟩)]) rfl (ptext_ca [111] ⟨b, 2, none⟩ _) rfl ?_
    rintro v w'' ⟨bx, rfl, h1, h2, h3⟩
    apply wr_nil
    exact ⟨.pointer (some ⟨bx, 0, none⟩), rfl, ⟨h1, Nat.le_trans hk.size h2⟩, h3⟩
  apply chP_pure
  focus
    intro x w' hk hF
    apply wr_move; exact rfl; with_reducible (conv => enter [6, 3]; whnf)
    apply wr_nil
    exact ⟨rfl, Keeps.refl _ _⟩
  focus (intro x y h; rfl)
  focus kernel_rfl
  apply chP_pure
  focus
    intro x w' hk hF
    refine wr_nilCheck rfl rfl ?_
    apply wr_nil
    exact ⟨rfl, Keeps.refl _ _⟩
  focus (intro x y h; rfl)
  focus kernel_rfl
  apply chP_pure
  focus
    intro x w' hk hF
    refine wr_fieldAddr rfl rfl ?_
    apply wr_nil
    exact ⟨rfl, Keeps.refl _ _⟩
  focus (intro x y h; rfl)
  focus kernel_rfl
  refine chP_fact (fun y => .agg (rulesC [114] (blkOf y) (offOf y)).toArray) (fun y w' => w'.heap[blkOf y]? = some (.cells #[.pointer (some ⟨b, 3, none⟩)] 108 (0, 0)) ∧ w'.heap[offOf y]? = some (.cells #[.func (.func 52) #[] #[]] 109 (0, 0)) ∧ w.heap.size ≤ blkOf y ∧ w.heap.size ≤ offOf y) (fun y w w' h k => ⟨k.heap h.1 (fun h => h), k.heap h.2.1 (fun h => h), h.2.2⟩) ?_ ?_
  focus
    intro x w' hk hF
    refine wr_call (vs := [S [114], .pointer (some ⟨b, 3, none⟩), .func (.func 52) #[] #[]]) rfl (prules_ca [114] ⟨b, 3, none⟩ _) rfl ?_
    rintro v w'' ⟨bx, bf, rfl, h1, h2, h3, h4, h5⟩
    apply wr_nil
    exact ⟨.pointer (some ⟨bx, bf, none⟩), rfl, ⟨h1, h2, Nat.le_trans hk.size h3, Nat.le_trans hk.size h4⟩, h5⟩
  apply chP_pure
  focus
    intro x w' hk hF
    apply wr_move; exact rfl; with_reducible (conv => enter [6, 3]; whnf)
    apply wr_nil
    exact ⟨rfl, Keeps.refl _ _⟩
  focus (intro x y h; rfl)
  focus kernel_rfl
  apply chP_pure
  focus
    intro x w' hk hF
    refine wr_nilCheck rfl rfl ?_
    apply wr_nil
    exact ⟨rfl, Keeps.refl _ _⟩
  focus (intro x y h; rfl)
  focus kernel_rfl
  apply chP_pure
  focus
    intro x w' hk hF
    refine wr_fieldAddr rfl rfl ?_
    apply wr_nil
    exact ⟨rfl, Keeps.refl _ _⟩
  focus (intro x y h; rfl)
  focus kernel_rfl
  refine chP_fact (fun y => .agg (numC [108] (blkOf y)).toArray) (fun y w' => w'.heap[blkOf y]? = some (.cells #[.pointer (some ⟨b, 4, none⟩)] 106 (0, 0)) ∧ w.heap.size ≤ blkOf y) (fun y w w' h k => ⟨k.heap h.1 (fun h => h), h.2⟩) ?_ ?_
  focus
    intro x w' hk hF
    refine wr_call (vs := [S [108], .pointer (some ⟨b, 4, none⟩)]) rfl (pnumber_ca [108] ⟨b, 4, none⟩ _) rfl ?_
    rintro v w'' ⟨bx, rfl, h1, h2, h3⟩
    apply wr_nil
    exact ⟨.pointer (some ⟨bx, 0, none⟩), rfl, ⟨h1, Nat.le_trans hk.size h2⟩, h3⟩
  apply chP_pure
  focus
    intro x w' hk hF
    apply wr_move; exact rfl; with_reducible (conv => enter [6, 3]; whnf)
    apply wr_nil
    exact ⟨rfl, Keeps.refl _ _⟩
  focus (intro x y h; rfl)
  focus kernel_rfl
  apply chP_pure
  focus
    intro x w' hk hF
    refine wr_nilCheck rfl rfl ?_
    apply wr_nil
    exact ⟨rfl, Keeps.refl _ _⟩
  focus (intro x y h; rfl)
  focus kernel_rfl
  apply chP_pure
  focus
    intro x w' hk hF
    refine wr_fieldAddr rfl rfl ?_
    apply wr_nil
    exact ⟨rfl, Keeps.refl _ _⟩
  focus (intro x y h; rfl)
  focus kernel_rfl
  refine chP_fact (fun y => .agg (textC [115] (blkOf y)).toArray) (fun y w' => w'.heap[blkOf y]? = some (.cells #[.pointer (some ⟨b, 5, none⟩)] 104 (0, 0)) ∧ w.heap.size ≤ blkOf y) (fun y w w' h k => ⟨k.heap h.1 (fun h => h), h.2⟩) ?_ ?_
  focus
    intro x w' hk hF
    refine wr_call (vs := [S [115], .pointer (some ⟨b, 5, none⟩)]) rfl (ptext_ca [115] ⟨b, 5, none⟩ _) rfl ?_
    rintro v w'' ⟨bx, rfl, h1, h2, h3⟩
    apply wr_nil
    exact ⟨.pointer (some ⟨bx, 0, none⟩), rfl, ⟨h1, Nat.le_trans hk.size h2⟩, h3⟩
  apply chP_pure
  focus
    intro x w' hk hF
    apply wr_move; exact rfl; with_reducible (conv => enter [6, 3]; whnf)
    apply wr_nil
    exact ⟨rfl, Keeps.refl _ _⟩
  focus (intro x y h; rfl)
  focus kernel_rfl
  apply chP_pure
  focus
    intro x w' hk hF
    refine wr_nilCheck rfl rfl ?_
    apply wr_nil
    exact ⟨rfl, Keeps.refl _ _⟩
  focus (intro x y h; rfl)
  focus kernel_rfl
  apply chP_pure
  focus
    intro x w' hk hF
    refine wr_fieldAddr rfl rfl ?_
    apply wr_nil
    exact ⟨rfl, Keeps.refl _ _⟩
  focus (intro x y h; rfl)
  focus kernel_rfl
  refine chP_fact (fun y => .agg (addrsC [97] (blkOf y) (offOf y)).toArray) (fun y w' => w'.heap[blkOf y]? = some (.cells #[.pointer (some ⟨b, 6, none⟩)] 111 (0, 0)) ∧ w'.heap[offOf y]? = some (.cells #[.func (.func 54) #[] #[]] 112 (0, 0)) ∧ w.heap.size ≤ blkOf y ∧ w.heap.size ≤ offOf y) (fun y w w' h k => ⟨k.heap h.1 (fun h => h), k.heap h.2.1 (fun h => h), h.2.2⟩) ?_ ?_
  focus
    intro x w' hk hF
    refine wr_call (vs := [S [97], .pointer (some ⟨b, 6, none⟩), .func (.func 54) #[] #[]]) rfl (paddrs_ca [97] ⟨b, 6, none⟩ _) rfl ?_
    rintro v w'' ⟨bx, bf, rfl, h1, h2, h3, h4, h5⟩
    apply wr_nil
    exact ⟨.pointer (some ⟨bx, bf, none⟩), rfl, ⟨h1, h2, Nat.le_trans hk.size h3, Nat.le_trans hk.size h4⟩, h5⟩
  apply chP_pure
  focus
    intro x w' hk hF
    apply wr_move; exact rfl; with_reducible (conv => enter [6, 3]; whnf)
    apply wr_nil
    exact ⟨rfl, Keeps.refl _ _⟩
  focus (intro x y h; rfl)
  focus kernel_rfl
  apply chP_pure
  focus
    intro x w' hk hF
    refine wr_nilCheck rfl rfl ?_
    apply wr_nil
    exact ⟨rfl, Keeps.refl _ _⟩
  focus (intro x y h; rfl)
  focus kernel_rfl
  apply chP_pure
  focus
    intro x w' hk hF
    refine wr_fieldAddr rfl rfl ?_
    apply wr_nil
    exact ⟨rfl, Keeps.refl _ _⟩
  focus (intro x y h; rfl)
  focus kernel_rfl
  refine chP_fact (fun y => .agg (textC [107] (blkOf y)).toArray) (fun y w' => w'.heap[blkOf y]? = some (.cells #[.pointer (some ⟨b, 7, none⟩)] 104 (0, 0)) ∧ w.heap.size ≤ blkOf y) (fun y w w' h k => ⟨k.heap h.1 (fun h => h), h.2⟩) ?_ ?_
  focus
    intro x w' hk hF
    refine wr_call (vs := [S [107], .pointer (some ⟨b, 7, none⟩)]) rfl (ptext_ca [107] ⟨b, 7, none⟩ _) rfl ?_
    rintro v w'' ⟨bx, rfl, h1, h2, h3⟩
    apply wr_nil
    exact ⟨.pointer (some ⟨bx, 0, none⟩), rfl, ⟨h1, Nat.le_trans hk.size h2⟩, h3⟩
  refine chP_nil ?_
  intro x w3 hk3 hF
  obtain ⟨B, hB⟩ : ∃ B : Nat → Nat, B = fun i => match i with | 0 => blkOf (x 3) | 1 => blkOf (x 7) | 2 => blkOf (x 11) | 3 => blkOf (x 15) | 4 => blkOf (x 19) | 5 => blkOf (x 23) | 6 => blkOf (x 27) | 7 => blkOf (x 31) | 8 => offOf (x 15) | _ => offOf (x 27) := ⟨_, rfl⟩
  have hFB : FB w3 b w.heap.size B := by
    subst hB
    exact ⟨hF 3 (by decide), hF 7 (by decide), hF 11 (by decide), hF 15 (by decide), hF 19 (by decide), hF 23 (by decide), hF 27 (by decide), hF 31 (by decide)⟩
  have hs3 : w.heap.size ≤ w3.heap.size := hk3.size
  refine wr_buildSlice (vs := (fldCs B).map fun c => .agg c.toArray) rfl (by subst hB; rfl) (by intro v hv; simp [fldCs] at hv; rcases hv with rfl | rfl | rfl | rfl | rfl | rfl | rfl | rfl <;> rfl) rfl (by decide) (by decide) (by decide) ?_
  (repeat first | (apply wr_assign; exact rfl; with_reducible (conv => enter [6, 3]; whnf)) | apply wr_end | (apply wc_ret; try simp only [thenE, inBlockE, bodyQ]))
  exact leave1 (v := .slice (some ⟨w3.heap.size, 0, none⟩) 8 8) rfl rfl ⟨_, B, rfl, heap_alloc_same _ _, hFB.keep ((Keeps.refl NoB w3).alloc _) (fun i hi h => h), hs3, (((Keeps.refl NoB w).drew).trans hk3).alloc _⟩
end Go.Proofs.YthlbgeonobicbaaDoor
