/- message: Status.right, PutStatus. -/
import Derived.Test.YtjaojihogmnjhaaGreatDoorKb
import Derived.Test.YtjaojihogmnjhaaGreatDoorKe
import Derived.Test.YtjaojihogmnjhaaGreatDoorVL
namespace Go.Proofs.YtjaojihogmnjhaaGreatDoor
open Go Go.V Go.RowKit
set_option linter.unusedVariables false
set_option linter.unusedSimpArgs false

/-- A status: key, version, taken, detail. -/
abbrev SD := KY × Nat × Bool × TT
def GS (s : SD) : List Value := [.int .i64 s.1.1, S s.1.2, .int .u64 ((s.2.1 : Nat) : Int), .bool s.2.2.1, S s.2.2.2]
def SdV (s : SD) : Value := .agg (GS s).toArray
theorem GS_len (s : SD) : (GS s).length = 5 := rfl
theorem GS_one (s : SD) : ∀ u ∈ GS s, u.oneCell' = true := by
  intro u hu
  simp only [GS, List.mem_cons, List.not_mem_nil, or_false] at hu
  rcases hu with rfl | rfl | rfl | rfl | rfl <;> rfl
def stOk (s : SD) : Prop := keyOk s.1 ∧ s.1.2 ≠ star ∧ 1 ≤ s.2.1 ∧ s.2.2.2.length ≤ 256 ∧ (s.2.2.1 = true → s.2.2.2 = [])
instance (s : SD) : Decidable (stOk s) := by unfold stOk; infer_instance
set_option maxRecDepth 100000 in
set_option maxHeartbeats 2000000 in
theorem sright_ca (s : SD) (w : World) (hn : s.1.2.length ≤ 9223372036854775807) (hd : s.2.2.2.length ≤ 9223372036854775807) : Ca Tryz.prog 29 #[SdV s] w fun v w' => v = .bool (decide (stOk s)) ∧ Keeps NoB w w' := by
  obtain ⟨⟨t, n⟩, sq, o, d⟩ := s
  dsimp only at hn hd
  refine ca_of_body (args := [SdV ((t, n), sq, o, d)]) Tryz.func29 rfl (by kernel_rfl) ?_
  apply wc_seq
  apply wc_region
  refine wr_box (v := .agg (GS ((t, n), sq, o, d)).toArray) rfl rfl ?_
  refine wr_name ?_
  intro w1 hw1
  obtain ⟨b1, hb1⟩ : ∃ b1, b1 = w.heap.size := ⟨_, rfl⟩
  have hk1 : Keeps NoB w w1 := by rw [hw1]; exact (Keeps.refl NoB w).alloc _
  have hc1 : w1.heap[b1]? = some (.cells #[.int .i64 t, S n, .int .u64 (sq : Int), .bool o, S d] 43 (0, 0)) := by rw [hw1, hb1]; exact heap_alloc_same _ _
  rw [← hb1]
  clear hw1
  (repeat first | (apply wr_assign; exact rfl; with_reducible (conv => enter [6, 3]; whnf)) | apply wr_end | apply wc_seq | apply wc_region | (apply wr_fieldAddr; iterate 2 exact rfl))
  refine wr_loadAgg (cs := [.int .i64 t, S n]) rfl rfl rfl rfl (fun j u h => by match j, h with | 0, h => cases h; exact cell_of_heap hc1 rfl | 1, h => cases h; exact cell_of_heap hc1 rfl | j + 2, h => simp at h) ?_
  refine wr_call (vs := [encK (t, n)]) rfl (key_ca (t, n) w1 hn) rfl ?_
  rintro v w2 ⟨rfl, hk2⟩
  have hc2 := hk2.heap hc1 (fun h => h)
  by_cases h0 : keyOk (t, n)
  rotate_left
  · rw [decide_eq_false h0]
    (repeat first | (apply wr_move; exact rfl; with_reducible (conv => enter [6, 3]; whnf)) | (apply wr_assign; exact rfl; with_reducible (conv => enter [6, 3]; whnf)) | apply wr_end | (apply wr_pick (t := false); (iterate 2 exact rfl); with_reducible (conv => enter [6, 3]; whnf)) | (apply wc_ret; try simp only [thenE, inBlockE, bodyQ]) | (apply wr_skip; exact rfl))
    exact leave1 (v := .bool false) rfl rfl ⟨by rw [decide_eq_false (show ¬ stOk ((t, n), sq, o, d) from fun h => h0 h.1)], hk1.trans hk2⟩
  rw [decide_eq_true h0]
  by_cases h1 : n = [42]
  · skip
    (repeat first | (apply wr_move; exact rfl; with_reducible (conv => enter [6, 3]; whnf)) | (apply wr_assign; exact rfl; with_reducible (conv => enter [6, 3]; whnf)) | apply wr_end | (apply wr_fieldAddr; iterate 2 exact rfl) | (apply wr_load; (iterate 3 exact rfl); (focus repeat first | with_reducible assumption | exact heap_alloc_same _ _ | exact World.putObj_heap_same (by first | omega | (simp only [World.size_alloc, World.putObj_size, ne_eq]; omega)) | ((first | refine hAl ?_ ?_ | refine hPu ?_ ?_); focus first | omega | (simp only [World.size_alloc, World.putObj_size, ne_eq]; omega))); exact rfl; conv => enter [6, 3]; whnf) | (apply wr_pick (t := true); (iterate 2 exact rfl); with_reducible (conv => enter [6, 3]; whnf)) | (apply wr_pick (t := false); (iterate 2 exact rfl); with_reducible (conv => enter [6, 3]; whnf)) | (apply wr_strnec; (iterate 3 exact rfl); (first | exact decide_eq_true (by with_reducible assumption) | exact decide_eq_false (by with_reducible assumption) | exact decide_eq_true rfl | exact rfl); with_reducible (conv => enter [6, 3]; whnf)) | (apply wc_ret; try simp only [thenE, inBlockE, bodyQ]) | (apply wr_skip; exact rfl))
    exact leave1 (v := .bool false) rfl rfl ⟨by rw [decide_eq_false (show ¬ stOk ((t, n), sq, o, d) from fun h => h.2.1 h1)], hk1.trans hk2⟩
  by_cases h4 : 1 ≤ sq
  rotate_left
  · skip
    (repeat first | (apply wr_move; exact rfl; with_reducible (conv => enter [6, 3]; whnf)) | (apply wr_assign; exact rfl; with_reducible (conv => enter [6, 3]; whnf)) | apply wr_end | (apply wr_fieldAddr; iterate 2 exact rfl) | (apply wr_load; (iterate 3 exact rfl); (focus repeat first | with_reducible assumption | exact heap_alloc_same _ _ | exact World.putObj_heap_same (by first | omega | (simp only [World.size_alloc, World.putObj_size, ne_eq]; omega)) | ((first | refine hAl ?_ ?_ | refine hPu ?_ ?_); focus first | omega | (simp only [World.size_alloc, World.putObj_size, ne_eq]; omega))); exact rfl; conv => enter [6, 3]; whnf) | (apply wr_cmp; (iterate 3 exact rfl); exact cmpF (by dsimp only [cmpN]; first | done | omega)) | (apply wr_pick (t := true); (iterate 2 exact rfl); with_reducible (conv => enter [6, 3]; whnf)) | (apply wr_pick (t := false); (iterate 2 exact rfl); with_reducible (conv => enter [6, 3]; whnf)) | (apply wr_strnec; (iterate 3 exact rfl); (first | exact decide_eq_true (by with_reducible assumption) | exact decide_eq_false (by with_reducible assumption) | exact decide_eq_true rfl | exact rfl); with_reducible (conv => enter [6, 3]; whnf)) | (apply wc_ret; try simp only [thenE, inBlockE, bodyQ]) | (apply wr_skip; exact rfl))
    exact leave1 (v := .bool false) rfl rfl ⟨by rw [decide_eq_false (show ¬ stOk ((t, n), sq, o, d) from fun h => h4 h.2.2.1)], hk1.trans hk2⟩
  by_cases h2 : d.length ≤ 256
  rotate_left
  · skip
    (repeat first | (apply wr_move; exact rfl; with_reducible (conv => enter [6, 3]; whnf)) | (apply wr_assign; exact rfl; with_reducible (conv => enter [6, 3]; whnf)) | apply wr_end | (apply wr_fieldAddr; iterate 2 exact rfl) | (apply wr_len_str; iterate 2 exact rfl) | (apply wr_load; (iterate 3 exact rfl); (focus repeat first | with_reducible assumption | exact heap_alloc_same _ _ | exact World.putObj_heap_same (by first | omega | (simp only [World.size_alloc, World.putObj_size, ne_eq]; omega)) | ((first | refine hAl ?_ ?_ | refine hPu ?_ ?_); focus first | omega | (simp only [World.size_alloc, World.putObj_size, ne_eq]; omega))); exact rfl; conv => enter [6, 3]; whnf) | (apply wr_cmp; (iterate 3 exact rfl); exact cmpT (by dsimp only [cmpP]; first | done | omega)) | (apply wr_cmp; (iterate 3 exact rfl); exact cmpF (by dsimp only [cmpN]; first | done | omega)) | (apply wr_pick (t := true); (iterate 2 exact rfl); with_reducible (conv => enter [6, 3]; whnf)) | (apply wr_pick (t := false); (iterate 2 exact rfl); with_reducible (conv => enter [6, 3]; whnf)) | (apply wr_strnec; (iterate 3 exact rfl); (first | exact decide_eq_true (by with_reducible assumption) | exact decide_eq_false (by with_reducible assumption) | exact decide_eq_true rfl | exact rfl); with_reducible (conv => enter [6, 3]; whnf)) | (apply wc_ret; try simp only [thenE, inBlockE, bodyQ]) | (apply wr_skip; exact rfl))
    exact leave1 (v := .bool false) rfl rfl ⟨by rw [decide_eq_false (show ¬ stOk ((t, n), sq, o, d) from fun h => h2 h.2.2.2.1)], hk1.trans hk2⟩
  cases o with
  | false =>
    (repeat first | (apply wr_move; exact rfl; with_reducible (conv => enter [6, 3]; whnf)) | (apply wr_assign; exact rfl; with_reducible (conv => enter [6, 3]; whnf)) | apply wr_end | (apply wr_fieldAddr; iterate 2 exact rfl) | (apply wr_not; iterate 2 exact rfl) | (apply wr_len_str; iterate 2 exact rfl) | (apply wr_load; (iterate 3 exact rfl); (focus repeat first | with_reducible assumption | exact heap_alloc_same _ _ | exact World.putObj_heap_same (by first | omega | (simp only [World.size_alloc, World.putObj_size, ne_eq]; omega)) | ((first | refine hAl ?_ ?_ | refine hPu ?_ ?_); focus first | omega | (simp only [World.size_alloc, World.putObj_size, ne_eq]; omega))); exact rfl; conv => enter [6, 3]; whnf) | (apply wr_cmp; (iterate 3 exact rfl); exact cmpT (by dsimp only [cmpP]; first | done | omega)) | (apply wr_pick (t := true); (iterate 2 exact rfl); with_reducible (conv => enter [6, 3]; whnf)) | (apply wr_strnec; (iterate 3 exact rfl); (first | exact decide_eq_true (by with_reducible assumption) | exact decide_eq_false (by with_reducible assumption) | exact decide_eq_true rfl | exact rfl); with_reducible (conv => enter [6, 3]; whnf)) | (apply wc_ret; try simp only [thenE, inBlockE, bodyQ]) | (apply wr_skip; exact rfl))
    exact leave1 (v := .bool true) rfl rfl ⟨by rw [decide_eq_true (show stOk ((t, n), sq, false, d) from ⟨h0, h1, h4, h2, fun h => by cases h⟩)], hk1.trans hk2⟩
  | true =>
    by_cases h3 : d = []
    · (repeat first | (apply wr_move; exact rfl; with_reducible (conv => enter [6, 3]; whnf)) | (apply wr_assign; exact rfl; with_reducible (conv => enter [6, 3]; whnf)) | apply wr_end | (apply wr_fieldAddr; iterate 2 exact rfl) | (apply wr_not; iterate 2 exact rfl) | (apply wr_len_str; iterate 2 exact rfl) | (apply wr_load; (iterate 3 exact rfl); (focus repeat first | with_reducible assumption | exact heap_alloc_same _ _ | exact World.putObj_heap_same (by first | omega | (simp only [World.size_alloc, World.putObj_size, ne_eq]; omega)) | ((first | refine hAl ?_ ?_ | refine hPu ?_ ?_); focus first | omega | (simp only [World.size_alloc, World.putObj_size, ne_eq]; omega))); exact rfl; conv => enter [6, 3]; whnf) | (apply wr_cmp; (iterate 3 exact rfl); exact cmpT (by dsimp only [cmpP]; first | done | omega)) | (apply wr_pick (t := true); (iterate 2 exact rfl); with_reducible (conv => enter [6, 3]; whnf)) | (apply wr_pick (t := false); (iterate 2 exact rfl); with_reducible (conv => enter [6, 3]; whnf)) | (apply wr_streqc; (iterate 3 exact rfl); (first | exact decide_eq_true (by with_reducible assumption) | exact decide_eq_false (by with_reducible assumption) | exact decide_eq_true rfl | exact rfl)) | (apply wr_strnec; (iterate 3 exact rfl); (first | exact decide_eq_true (by with_reducible assumption) | exact decide_eq_false (by with_reducible assumption) | exact decide_eq_true rfl | exact rfl); with_reducible (conv => enter [6, 3]; whnf)) | (apply wc_ret; try simp only [thenE, inBlockE, bodyQ]))
      exact leave1 (v := .bool true) rfl rfl ⟨by rw [decide_eq_true (show stOk ((t, n), sq, true, d) from ⟨h0, h1, h4, h2, fun _ => h3⟩)], hk1.trans hk2⟩
    · (repeat first | (apply wr_move; exact rfl; with_reducible (conv => enter [6, 3]; whnf)) | (apply wr_assign; exact rfl; with_reducible (conv => enter [6, 3]; whnf)) | apply wr_end | (apply wr_fieldAddr; iterate 2 exact rfl) | (apply wr_not; iterate 2 exact rfl) | (apply wr_len_str; iterate 2 exact rfl) | (apply wr_load; (iterate 3 exact rfl); (focus repeat first | with_reducible assumption | exact heap_alloc_same _ _ | exact World.putObj_heap_same (by first | omega | (simp only [World.size_alloc, World.putObj_size, ne_eq]; omega)) | ((first | refine hAl ?_ ?_ | refine hPu ?_ ?_); focus first | omega | (simp only [World.size_alloc, World.putObj_size, ne_eq]; omega))); exact rfl; conv => enter [6, 3]; whnf) | (apply wr_cmp; (iterate 3 exact rfl); exact cmpT (by dsimp only [cmpP]; first | done | omega)) | (apply wr_pick (t := true); (iterate 2 exact rfl); with_reducible (conv => enter [6, 3]; whnf)) | (apply wr_pick (t := false); (iterate 2 exact rfl); with_reducible (conv => enter [6, 3]; whnf)) | (apply wr_streqc; (iterate 3 exact rfl); (first | exact decide_eq_true (by with_reducible assumption) | exact decide_eq_false (by with_reducible assumption) | exact decide_eq_true rfl | exact rfl)) | (apply wr_strnec; (iterate 3 exact rfl); (first | exact decide_eq_true (by with_reducible assumption) | exact decide_eq_false (by with_reducible assumption) | exact decide_eq_true rfl | exact rfl); with_reducible (conv => enter [6, 3]; whnf)) | (apply wc_ret; try simp only [thenE, inBlockE, bodyQ]))
      exact leave1 (v := .bool false) rfl rfl ⟨by rw [decide_eq_false (show ¬ stOk ((t, n), sq, true, d) from fun h => h3 (h.2.2.2.2 rfl))], hk1.trans hk2⟩
theorem Bd.lt {B b : Nat} {l : List UInt8} {w : World} (h : Bd B b l w) : b < w.heap.size := by
  rcases h with ⟨_, v, hb, _⟩ | ⟨_, v, hb, _⟩ <;> exact lt_of_heap hb
theorem putF_len (x : WF) (hx : x.ok) : ((putF x).getD []).length ≤ x.s.length + 20 := by
  obtain ⟨num, kind, n, s⟩ := x
  obtain ⟨h1, h2, h3, h4⟩ := hx
  simp only at h1 h2 h3 h4
  by_cases hbad : num < 1 ∨ 536870912 ≤ num ∨ (kind ≠ 0 ∧ n ≠ 0)
  · have : putF ⟨num, kind, n, s⟩ = none := if_pos hbad
    rw [this]; simp
  · rw [put_cases hbad]
    have v0 := varint_len (num * 8).toNat (by omega)
    have v1 := varint_len (num * 8 + 1).toNat (by omega)
    have v5 := varint_len (num * 8 + 5).toNat (by omega)
    have v2 := varint_len (num * 8 + 2).toNat (by omega)
    have vn := varint_len n h3
    have vs := varint_len s.length (by omega)
    repeat' split
    all_goals simp
    all_goals omega
set_option maxRecDepth 100000 in
set_option maxHeartbeats 1000000 in
theorem wnumber_ca (B b : Nat) (l : List UInt8) (num : Int) (hnum : 1 ≤ num ∧ num ≤ 100) (n : Nat) (hn : n < 18446744073709551616) (w : World) (h : Bd B b l w) (hl : l.length ≤ 100000) (hBw : B ≤ w.heap.size) :
    Ca Tryz.prog 31 #[.pointer (some ⟨b, 0, none⟩), .int .i64 num, .int .u64 (n : Int)] w fun v w' => v = .tuple #[] ∧ ∃ l' : List UInt8, Bd B b l' w' ∧ l.length ≤ l'.length ∧ l'.length ≤ l.length + 20 ∧ Keeps (fun k => B ≤ k) w w' := by
  refine ca_of_body (args := [.pointer (some ⟨b, 0, none⟩), .int .i64 num, .int .u64 (n : Int)]) Tryz.func31 rfl (by kernel_rfl) ?_
  by_cases h0 : n = 0
  · subst h0
    (repeat first | (apply wr_move; exact rfl; with_reducible (conv => enter [6, 3]; whnf)) | apply wr_end | apply wc_seq | apply wc_region | apply wc_skip | (apply wr_cmp; (iterate 3 exact rfl); exact cmpF (by dsimp only [cmpN]; first | done | omega)) | (apply wc_false; exact rfl))
    try unfold bodyQ
    exact leave0 rfl ⟨rfl, l, h, Nat.le_refl _, by omega, Keeps.refl _ _⟩
  · have hlen := putF_len ⟨num, 0, n, []⟩ ⟨by simp only; omega, by simp, hn, by simp⟩
    have hk0 : ∀ {w'}, Keeps NoB w.drew w' → Keeps NoB w w' := fun hk => (Keeps.refl NoB w).drew.trans hk
    (repeat first | (apply wr_move; exact rfl; with_reducible (conv => enter [6, 3]; whnf)) | apply wr_end | apply wc_seq | apply wc_region | (apply wr_cmp; (iterate 3 exact rfl); exact cmpT (by dsimp only [cmpP]; first | done | omega)) | (apply wc_true; exact rfl))
    refine wc_drawP (l := _) 6 _ (by kernel_rfl) (by kernel_rfl) rfl (by kernel_rfl) (by kernel_rfl) (by decide) ?_
    apply chP_pure
    focus
      intro xx w' hk hF
      apply wr_move; exact rfl; with_reducible (conv => enter [6, 3]; whnf)
      apply wr_nil
      exact ⟨rfl, Keeps.refl _ _⟩
    focus (intro xx yy h; rfl)
    focus kernel_rfl
    apply chP_pure
    focus
      intro xx w' hk hF
      refine wr_nilCheck rfl rfl ?_
      apply wr_nil
      exact ⟨rfl, Keeps.refl _ _⟩
    focus (intro xx yy h; rfl)
    focus kernel_rfl
    apply chP_pure
    focus
      intro xx w' hk hF
      refine wr_fieldAddr rfl rfl ?_
      apply wr_nil
      exact ⟨rfl, Keeps.refl _ _⟩
    focus (intro xx yy h; rfl)
    focus kernel_rfl
    apply chP_pure
    focus
      intro xx w' hk hF
      apply wr_move; exact rfl; with_reducible (conv => enter [6, 3]; whnf)
      apply wr_nil
      exact ⟨rfl, Keeps.refl _ _⟩
    focus (intro xx yy h; rfl)
    focus kernel_rfl
    apply chP_pure
    focus
      intro xx w' hk hF
      apply wr_move; exact rfl; with_reducible (conv => enter [6, 3]; whnf)
      apply wr_nil
      exact ⟨rfl, Keeps.refl _ _⟩
    focus (intro xx yy h; rfl)
    focus kernel_rfl
    apply chP_pure
    focus
      intro xx w' hk hF
      refine wr_call (vs := [.int .i64 num, .int .u64 (n : Int)]) rfl (number_ca num n (by omega) hn w') rfl ?_
      rintro v w'' ⟨rfl, hkc⟩
      apply wr_nil
      exact ⟨rfl, hkc⟩
    focus (intro xx yy h; rfl)
    focus kernel_rfl
    refine chP_nil ?_
    intro xx w3 hk3' hF
    have hk3 := hk0 hk3'
    have hs3 := hk3.size
    refine wr_call (vs := [.pointer (some ⟨b, 0, none⟩), S (numberF num n)]) rfl (writeS_ca B b l (numberF num n) w3 (h.kin hk3) (by unfold numberF; simp only at hlen; simp only [List.length_nil] at hlen; omega) (by omega)) rfl ?_
    rintro v w4 ⟨hb4, hk4⟩
    (repeat first | (apply wr_nil; try simp only [thenE, inBlockE, bodyQ]))
    try unfold bodyQ
    refine leave0 rfl ⟨rfl, _, hb4, by simp, ?_, hk3.upD.trans hk4⟩
    rw [List.length_append]
    unfold numberF
    simp only [List.length_nil] at hlen
    omega
set_option maxRecDepth 100000 in
set_option maxHeartbeats 1000000 in
theorem wlist_ca (B b : Nat) (l : List UInt8) (num : Int) (hnum : 1 ≤ num ∧ num ≤ 100) (s : TT) (hs : s.length ≤ 100000) (sb : Nat) (w : World) (h : Bd B b l w) (hl : l.length ≤ 100000) (hBw : B ≤ w.heap.size) {T : TypeId} {fr : Nat × Nat} (hsb : w.heap[sb]? = some (.cells #[S s] T fr)) (hsB : sb ≠ b) :
    Ca Tryz.prog 32 #[.pointer (some ⟨b, 0, none⟩), .int .i64 num, .slice (some ⟨sb, 0, none⟩) 1 1] w fun v w' => v = .tuple #[] ∧ ∃ l' : List UInt8, Bd B b l' w' ∧ l.length ≤ l'.length ∧ l'.length ≤ l.length + s.length + 20 ∧ Keeps (fun k => B ≤ k) w w' := by
  refine ca_of_body (args := [.pointer (some ⟨b, 0, none⟩), .int .i64 num, .slice (some ⟨sb, 0, none⟩) 1 1]) Tryz.func32 rfl (by kernel_rfl) ?_
  have hlen := putF_len ⟨num, 2, 0, s⟩ ⟨by simp only; omega, by simp, by simp, by simp only; omega⟩
  simp only at hlen
  (repeat first | (apply wr_move; exact rfl; with_reducible (conv => enter [6, 3]; whnf)) | apply wr_end | apply wc_seq | apply wc_region | apply wc_block | (apply wr_len_slice; iterate 2 exact rfl))
  refine wc_loopL (α := Nat) (fun i => [(0, .pointer (some ⟨b, 0, none⟩)), (1, .int .i64 num), (8, .slice (some ⟨sb, 0, none⟩) 1 1), (9, .int .i64 1), (10, .int .i64 (i : Int))])
    (fun i ds w' => ds = [] ∧ i ≤ 1 ∧ (i = 0 → w' = w) ∧ (i = 1 → ∃ l' : List UInt8, Bd B b l' w' ∧ l.length ≤ l'.length ∧ l'.length ≤ l.length + s.length + 20 ∧ Keeps (fun k => B ≤ k) w w')) (fun i => 1 - i) 0 ⟨rfl, by omega, fun _ => rfl, by omega⟩ ⟨rfl, rfl, rfl, rfl, rfl, trivial⟩ ?_
  rintro i ds f0 w2 ⟨rfl, hi, hi0, hi1⟩
  match i, hi with
  | 0, _ =>
    have hw2 := hi0 rfl
    subst hw2
    (repeat first | apply wr_end | apply wc_seq | apply wc_region | apply wc_skip | apply wc_block | (apply wr_cmp; (iterate 3 exact rfl); exact cmpT (by dsimp only [cmpP]; first | done | omega)) | (apply wc_true; exact rfl))
    refine wr_indexAddr (i := 0) rfl rfl rfl (by decide) ?_
    (repeat first | (apply wr_assign; exact rfl; with_reducible (conv => enter [6, 3]; whnf)) | apply wr_end | (apply wr_load; (iterate 3 exact rfl); (focus repeat first | with_reducible assumption | exact heap_alloc_same _ _ | exact World.putObj_heap_same (by first | omega | (simp only [World.size_alloc, World.putObj_size, ne_eq]; omega)) | ((first | refine hAl ?_ ?_ | refine hPu ?_ ?_); focus first | omega | (simp only [World.size_alloc, World.putObj_size, ne_eq]; omega))); exact rfl; conv => enter [6, 3]; whnf))
    have hk0 : ∀ {w'}, Keeps NoB w2.drew w' → Keeps NoB w2 w' := fun hk => (Keeps.refl NoB w2).drew.trans hk
    refine wc_drawP (l := _) 6 _ (by kernel_rfl) (by kernel_rfl) rfl (by kernel_rfl) (by kernel_rfl) (by decide) ?_
    apply chP_pure
    focus
      intro xx w' hk hF
      apply wr_move; exact rfl; with_reducible (conv => enter [6, 3]; whnf)
      apply wr_nil
      exact ⟨rfl, Keeps.refl _ _⟩
    focus (intro xx yy h; rfl)
    focus kernel_rfl
    apply chP_pure
    focus
      intro xx w' hk hF
      refine wr_nilCheck rfl rfl ?_
      apply wr_nil
      exact ⟨rfl, Keeps.refl _ _⟩
    focus (intro xx yy h; rfl)
    focus kernel_rfl
    apply chP_pure
    focus
      intro xx w' hk hF
      refine wr_fieldAddr rfl rfl ?_
      apply wr_nil
      exact ⟨rfl, Keeps.refl _ _⟩
    focus (intro xx yy h; rfl)
    focus kernel_rfl
    apply chP_pure
    focus
      intro xx w' hk hF
      apply wr_move; exact rfl; with_reducible (conv => enter [6, 3]; whnf)
      apply wr_nil
      exact ⟨rfl, Keeps.refl _ _⟩
    focus (intro xx yy h; rfl)
    focus kernel_rfl
    apply chP_pure
    focus
      intro xx w' hk hF
      apply wr_move; exact rfl; with_reducible (conv => enter [6, 3]; whnf)
      apply wr_nil
      exact ⟨rfl, Keeps.refl _ _⟩
    focus (intro xx yy h; rfl)
    focus kernel_rfl
    apply chP_pure
    focus
      intro xx w' hk hF
      refine wr_call (vs := [.int .i64 num, S s]) rfl (text_ca num s (by omega) (by omega) w') rfl ?_
      rintro v w'' ⟨rfl, hkc⟩
      apply wr_nil
      exact ⟨rfl, hkc⟩
    focus (intro xx yy h; rfl)
    focus kernel_rfl
    refine chP_nil ?_
    intro xx w3 hk3' hF
    have hk3 := hk0 hk3'
    have hs3 := hk3.size
    refine wr_call (vs := [.pointer (some ⟨b, 0, none⟩), S (textF num s)]) rfl (writeS_ca B b l (textF num s) w3 (h.kin hk3) (by unfold textF; omega) (by omega)) rfl ?_
    rintro v w4 ⟨hb4, hk4⟩
    (repeat first | (apply wr_move; exact rfl; with_reducible (conv => enter [6, 3]; whnf)) | apply wr_end | apply wc_region | (apply wr_add; (iterate 3 exact rfl); exact w_fit (by dsimp only [kIn]; first | done | omega)) | (apply wr_nil; try simp only [thenE, inBlockE, bodyQ]))
    refine ⟨1, by omega, ⟨by trivial, by omega, by omega, fun _ => ⟨_, hb4, by simp, ?_, hk3.upD.trans hk4⟩⟩, rfl, rfl, rfl, rfl, rfl, trivial⟩
    rw [List.length_append]
    unfold textF
    omega
  | 1, _ =>
    obtain ⟨l', h1, h2, h3, h4⟩ := hi1 rfl
    (repeat first | apply wr_end | apply wc_seq | apply wc_region | (apply wr_cmp; (iterate 3 exact rfl); exact cmpF (by dsimp only [cmpN]; first | done | omega)) | (apply wc_false; exact rfl) | (apply wc_exit; try simp only [thenE, inBlockE, bodyQ, ↓reduceIte, Nat.reduceEqDiff]))
    try unfold bodyQ
    exact leave0 rfl ⟨rfl, l', h1, h2, h3, h4⟩
set_option maxRecDepth 100000 in
set_option maxHeartbeats 1000000 in
theorem wflag_ca (B b : Nat) (l : List UInt8) (num : Int) (hnum : 1 ≤ num ∧ num ≤ 100) (o : Bool) (w : World) (h : Bd B b l w) (hl : l.length ≤ 100000) (hBw : B ≤ w.heap.size) :
    Ca Tryz.prog 33 #[.pointer (some ⟨b, 0, none⟩), .int .i64 num, .bool o] w fun v w' => v = .tuple #[] ∧ ∃ l' : List UInt8, Bd B b l' w' ∧ l.length ≤ l'.length ∧ l'.length ≤ l.length + 20 ∧ Keeps (fun k => B ≤ k) w w' := by
  refine ca_of_body (args := [.pointer (some ⟨b, 0, none⟩), .int .i64 num, .bool o]) Tryz.func33 rfl (by kernel_rfl) ?_
  cases o with
  | false =>
    (repeat first | (apply wr_move; exact rfl; with_reducible (conv => enter [6, 3]; whnf)) | apply wr_end | apply wc_seq | apply wc_region | apply wc_skip | (apply wc_false; exact rfl))
    try unfold bodyQ
    exact leave0 rfl ⟨rfl, l, h, Nat.le_refl _, by omega, Keeps.refl _ _⟩
  | true =>
    (repeat first | (apply wr_move; exact rfl; with_reducible (conv => enter [6, 3]; whnf)) | apply wr_end | apply wc_seq | apply wc_region | (apply wc_true; exact rfl))
    refine wr_call (vs := [.pointer (some ⟨b, 0, none⟩), .int .i64 num, .int .u64 1]) rfl (wnumber_ca B b l num hnum 1 (by decide) w h hl hBw) rfl ?_
    rintro v w4 ⟨rfl, l', h1, h2, h3, h4⟩
    (repeat first | (apply wr_nil; try simp only [thenE, inBlockE, bodyQ]))
    try unfold bodyQ
    exact leave0 rfl ⟨rfl, l', h1, h2, h3, h4⟩
set_option maxRecDepth 100000 in
set_option maxHeartbeats 4000000 in
theorem putStatus_ca (s : SD) (w : World) (hn : s.1.2.length ≤ 9223372036854775807) (hd : s.2.2.2.length ≤ 9223372036854775807) (hq : s.2.1 < 18446744073709551616) : Ca Tryz.prog 20 #[SdV s] w fun v w' => (∃ x : TT, v = .tuple #[S x, .bool (decide (stOk s))]) ∧ Keeps NoB w w' := by
  obtain ⟨⟨t, n⟩, sq, o, d⟩ := s
  dsimp only at hn hd hq
  refine ca_of_body (args := [SdV ((t, n), sq, o, d)]) Tryz.func20 rfl (by kernel_rfl) ?_
  apply wc_seq
  apply wc_region
  refine wr_box (v := .agg (GS ((t, n), sq, o, d)).toArray) rfl rfl ?_
  refine wr_name ?_
  intro w1 hw1
  obtain ⟨b1, hb1⟩ : ∃ b1, b1 = w.heap.size := ⟨_, rfl⟩
  have hk1 : Keeps NoB w w1 := by rw [hw1]; exact (Keeps.refl NoB w).alloc _
  have hc1 : w1.heap[b1]? = some (.cells #[.int .i64 t, S n, .int .u64 (sq : Int), .bool o, S d] 43 (0, 0)) := by rw [hw1, hb1]; exact heap_alloc_same _ _
  rw [← hb1]
  clear hw1
  (repeat first | (apply wr_assign; exact rfl; with_reducible (conv => enter [6, 3]; whnf)) | apply wr_end | apply wc_seq | apply wc_region)
  refine wr_loadAll (cs := GS ((t, n), sq, o, d)) rfl rfl rfl hc1 rfl ?_
  refine wr_call (vs := [SdV ((t, n), sq, o, d)]) rfl (sright_ca ((t, n), sq, o, d) w1 hn hd) rfl ?_
  rintro v w2 ⟨rfl, hk2⟩
  have hc2 := hk2.heap hc1 (fun h => h)
  by_cases hok : stOk ((t, n), sq, o, d)
  rotate_left
  · rw [decide_eq_false hok]
    (repeat first | (apply wr_assign; exact rfl; with_reducible (conv => enter [6, 3]; whnf)) | apply wr_end | apply wc_seq | apply wc_region | (apply wr_not; iterate 2 exact rfl) | (apply wc_true; exact rfl) | (apply wc_ret; try simp only [thenE, inBlockE, bodyQ]))
    exact leave2 (v1 := S []) (v2 := .bool false) rfl rfl rfl ⟨⟨[], rfl⟩, hk1.trans hk2⟩
  rw [decide_eq_true hok]
  have ht : 1 ≤ t ∧ t ≤ 5 := ⟨hok.1.1, hok.1.2.1⟩
  have hnl : n.length ≤ 64 := by
    rcases hok.1.2.2 with h | h
    · dsimp only at h; rw [h]; decide
    · exact h.2.1
  have hdl : d.length ≤ 256 := hok.2.2.2.1
  (repeat first | apply wr_end | apply wc_seq | apply wc_region | apply wc_skip | (apply wr_fieldAddr; iterate 2 exact rfl) | (apply wr_not; iterate 2 exact rfl) | (apply wr_alloc; exact rfl) | (apply wc_false; exact rfl))
  refine wr_name ?_
  intro w3 hw3
  obtain ⟨B, hB⟩ : ∃ b, b = w2.heap.size := ⟨_, rfl⟩
  have hk3 : Keeps NoB w2 w3 := by rw [hw3]; exact (Keeps.refl NoB w2).alloc _
  have hb3 : Bd B B [] w3 := by rw [hw3, hB]; exact Bd.new w2
  have hs3 : B ≤ w3.heap.size := by rw [hw3, hB]; simp
  rw [← hB]
  clear hw3
  have hlB : b1 < B := by rw [hB]; exact lt_of_heap hc2
  have hkB : ∀ {w' w'' : World}, Keeps (fun k => B ≤ k) w' w'' → w'.heap[b1]? = some (.cells #[.int .i64 t, S n, .int .u64 (sq : Int), .bool o, S d] 43 (0, 0)) → w''.heap[b1]? = some (.cells #[.int .i64 t, S n, .int .u64 (sq : Int), .bool o, S d] 43 (0, 0)) := fun k h => k.heap h (by omega)
  have hc3 := hk3.heap hc2 (fun h => h)
  skip
  refine wr_call (vs := [.pointer (some ⟨B, 0, none⟩), .int .u8 4]) rfl (writeB_ca B B [] 4 w3 hb3 (by decide) hs3) rfl ?_
  rintro v w4 ⟨hb4, hk4⟩
  have hs4 := hk4.size
  have hc4 := hkB hk4 hc3
  (repeat first | apply wr_end | apply wc_seq | apply wc_region | (apply wr_fieldAddr; iterate 2 exact rfl) | (apply wr_load; (iterate 3 exact rfl); (focus repeat first | with_reducible assumption | exact heap_alloc_same _ _ | exact World.putObj_heap_same (by first | omega | (simp only [World.size_alloc, World.putObj_size, ne_eq]; omega)) | ((first | refine hAl ?_ ?_ | refine hPu ?_ ?_); focus first | omega | (simp only [World.size_alloc, World.putObj_size, ne_eq]; omega))); exact rfl; conv => enter [6, 3]; whnf) | (apply wr_conv; (iterate 2 exact rfl); exact w_fit (by dsimp only [kIn]; first | done | omega)))
  refine wr_call (vs := [.pointer (some ⟨B, 0, none⟩), .int .i64 1, .int .u64 ((t.toNat : Nat) : Int)]) rfl (wnumber_ca B B _ 1 (by decide) t.toNat (by omega) w4 hb4 (by simp) (by omega)) (by rw [Int.toNat_of_nonneg (by omega)]; rfl) ?_
  rintro v w5 ⟨rfl, l5, hb5, hl5, hl5', hk5⟩
  have hs5 := hk5.size
  have hc5 := hkB hk5 hc4
  simp only [List.nil_append, List.length_singleton] at hl5 hl5'
  (repeat first | apply wr_end | apply wc_seq | apply wc_region | (apply wr_fieldAddr; iterate 2 exact rfl) | (apply wr_load; (iterate 3 exact rfl); (focus repeat first | with_reducible assumption | exact heap_alloc_same _ _ | exact World.putObj_heap_same (by first | omega | (simp only [World.size_alloc, World.putObj_size, ne_eq]; omega)) | ((first | refine hAl ?_ ?_ | refine hPu ?_ ?_); focus first | omega | (simp only [World.size_alloc, World.putObj_size, ne_eq]; omega))); exact rfl; conv => enter [6, 3]; whnf))
  refine wr_buildSlice (vs := [S n]) rfl rfl (by intro v hv; simp at hv; subst hv; rfl) rfl (by decide) (by decide) (by decide) ?_
  refine wr_name ?_
  intro w6 hw6
  obtain ⟨b6, hb6e⟩ : ∃ b, b = w5.heap.size := ⟨_, rfl⟩
  have hk6 : Keeps NoB w5 w6 := by rw [hw6]; exact (Keeps.refl NoB w5).alloc _
  have hc6 : w6.heap[b6]? = some (.cells #[S n] 9 (0, 0)) := by rw [hw6, hb6e]; exact heap_alloc_same _ _
  rw [← hb6e]
  clear hw6
  have hs6 := hk6.size
  have hlb5 := Bd.lt hb5
  refine wr_call (vs := [.pointer (some ⟨B, 0, none⟩), .int .i64 2, .slice (some ⟨b6, 0, none⟩) 1 1]) rfl (wlist_ca B B l5 2 (by decide) n (by omega) b6 w6 (hb5.kin hk6) (by omega) (by omega) hc6 (by omega)) rfl ?_
  rintro v w7 ⟨rfl, l7, hb7, hl7, hl7', hk7⟩
  have hs7 := hk7.size
  have hc7 := hkB hk7 (hk6.heap hc5 (fun h => h))
  (repeat first | apply wr_end | apply wc_seq | apply wc_region | (apply wr_fieldAddr; iterate 2 exact rfl) | (apply wr_load; (iterate 3 exact rfl); (focus repeat first | with_reducible assumption | exact heap_alloc_same _ _ | exact World.putObj_heap_same (by first | omega | (simp only [World.size_alloc, World.putObj_size, ne_eq]; omega)) | ((first | refine hAl ?_ ?_ | refine hPu ?_ ?_); focus first | omega | (simp only [World.size_alloc, World.putObj_size, ne_eq]; omega))); exact rfl; conv => enter [6, 3]; whnf))
  refine wr_call (vs := [.pointer (some ⟨B, 0, none⟩), .int .i64 3, .int .u64 ((sq : Nat) : Int)]) rfl (wnumber_ca B B l7 3 (by decide) sq hq w7 hb7 (by omega) (by omega)) rfl ?_
  rintro v w8 ⟨rfl, l8, hb8, hl8, hl8', hk8⟩
  have hs8 := hk8.size
  have hc8 := hkB hk8 hc7
  (repeat first | apply wr_end | apply wc_seq | apply wc_region | (apply wr_fieldAddr; iterate 2 exact rfl) | (apply wr_load; (iterate 3 exact rfl); (focus repeat first | with_reducible assumption | exact heap_alloc_same _ _ | exact World.putObj_heap_same (by first | omega | (simp only [World.size_alloc, World.putObj_size, ne_eq]; omega)) | ((first | refine hAl ?_ ?_ | refine hPu ?_ ?_); focus first | omega | (simp only [World.size_alloc, World.putObj_size, ne_eq]; omega))); exact rfl; conv => enter [6, 3]; whnf))
  refine wr_call (vs := [.pointer (some ⟨B, 0, none⟩), .int .i64 4, .bool o]) rfl (wflag_ca B B l8 4 (by decide) o w8 hb8 (by omega) (by omega)) rfl ?_
  rintro v w9 ⟨rfl, l9, hb9, hl9, hl9', hk9⟩
  have hs9 := hk9.size
  have hc9 := hkB hk9 hc8
  have hkw : Keeps NoB w w9 := ((hk1.trans hk2).trans hk3).trans' ((((hk4.trans hk5).trans hk6.upD).trans hk7).trans (hk8.trans hk9)) (fun i hi e => by
    have := (hk1.trans hk2).size
    omega)
  by_cases hd0 : d = []
  · (repeat first | apply wr_end | apply wc_seq | apply wc_region | apply wc_skip | (apply wr_fieldAddr; iterate 2 exact rfl) | (apply wr_load; (iterate 3 exact rfl); (focus repeat first | with_reducible assumption | exact heap_alloc_same _ _ | exact World.putObj_heap_same (by first | omega | (simp only [World.size_alloc, World.putObj_size, ne_eq]; omega)) | ((first | refine hAl ?_ ?_ | refine hPu ?_ ?_); focus first | omega | (simp only [World.size_alloc, World.putObj_size, ne_eq]; omega))); exact rfl; conv => enter [6, 3]; whnf) | (apply wr_strnec; (iterate 3 exact rfl); (first | exact decide_eq_true (by with_reducible assumption) | exact decide_eq_false (by with_reducible assumption) | exact decide_eq_true rfl | exact rfl); with_reducible (conv => enter [6, 3]; whnf)) | (apply wc_false; exact rfl))
    refine wr_call (vs := [.pointer (some ⟨B, 0, none⟩)]) rfl (bstring_ca B B l9 w9 hb9 (by intro e; have e' := congrArg List.length e; rw [List.length_nil] at e'; omega)) rfl ?_
    rintro v w10 ⟨rfl, hk10⟩
    (repeat first | (apply wr_assign; exact rfl; with_reducible (conv => enter [6, 3]; whnf)) | apply wr_end | (apply wc_ret; try simp only [thenE, inBlockE, bodyQ]))
    exact leave2 (v1 := S l9) (v2 := .bool true) rfl rfl rfl ⟨⟨l9, rfl⟩, hkw.trans' hk10 (fun i hi e => by
      have := (hk1.trans hk2).size
      omega)⟩
  · (repeat first | apply wr_end | apply wc_seq | apply wc_region | (apply wr_fieldAddr; iterate 2 exact rfl) | (apply wr_load; (iterate 3 exact rfl); (focus repeat first | with_reducible assumption | exact heap_alloc_same _ _ | exact World.putObj_heap_same (by first | omega | (simp only [World.size_alloc, World.putObj_size, ne_eq]; omega)) | ((first | refine hAl ?_ ?_ | refine hPu ?_ ?_); focus first | omega | (simp only [World.size_alloc, World.putObj_size, ne_eq]; omega))); exact rfl; conv => enter [6, 3]; whnf) | (apply wr_strnec; (iterate 3 exact rfl); (first | exact decide_eq_true (by with_reducible assumption) | exact decide_eq_false (by with_reducible assumption) | exact decide_eq_true rfl | exact rfl); with_reducible (conv => enter [6, 3]; whnf)) | (apply wc_true; exact rfl))
    refine wr_buildSlice (vs := [S d]) rfl rfl (by intro v hv; simp at hv; subst hv; rfl) rfl (by decide) (by decide) (by decide) ?_
    refine wr_name ?_
    intro wa hwa
    obtain ⟨ba, hbae⟩ : ∃ b, b = w9.heap.size := ⟨_, rfl⟩
    have hka : Keeps NoB w9 wa := by rw [hwa]; exact (Keeps.refl NoB w9).alloc _
    have hca : wa.heap[ba]? = some (.cells #[S d] 9 (0, 0)) := by rw [hwa, hbae]; exact heap_alloc_same _ _
    rw [← hbae]
    clear hwa
    have hsa := hka.size
    have hlb9 := Bd.lt hb9
    refine wr_call (vs := [.pointer (some ⟨B, 0, none⟩), .int .i64 5, .slice (some ⟨ba, 0, none⟩) 1 1]) rfl (wlist_ca B B l9 5 (by decide) d (by omega) ba wa (hb9.kin hka) (by omega) (by omega) hca (by omega)) rfl ?_
    rintro v wb ⟨rfl, lb, hbb, hlb, hlb', hkb⟩
    have hsb := hkb.size
    (repeat first | apply wr_end | apply wc_seq | apply wc_region | (apply wr_fieldAddr; iterate 2 exact rfl))
    refine wr_call (vs := [.pointer (some ⟨B, 0, none⟩)]) rfl (bstring_ca B B lb wb hbb (by intro e; have e' := congrArg List.length e; rw [List.length_nil] at e'; omega)) rfl ?_
    rintro v w10 ⟨rfl, hk10⟩
    (repeat first | (apply wr_assign; exact rfl; with_reducible (conv => enter [6, 3]; whnf)) | apply wr_end | (apply wc_ret; try simp only [thenE, inBlockE, bodyQ]))
    exact leave2 (v1 := S lb) (v2 := .bool true) rfl rfl rfl ⟨⟨lb, rfl⟩, (hkw.trans hka).trans' (hkb.trans hk10) (fun i hi e => by
      have := (hk1.trans hk2).size
      omega)⟩
end Go.Proofs.YtjaojihogmnjhaaGreatDoor
