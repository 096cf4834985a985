/- The document's answer to chapter 2: Has, in, text, number, Same; norialaw02.keys. -/
import Derived.Test.YthlbgeonobicbaaDoorYp
import Derived.Test.YthlbgeonobicbaaDoorWn
import Derived.Test.YthlbgeonobicbaaDoorYq
namespace Go.Proofs.YthlbgeonobicbaaDoor
open Go Go.V Go.RowKit
set_option linter.unusedVariables false
set_option linter.unusedSimpArgs false

def hasL : List (List UInt8) := [[], [112, 111], [114], [108, 115], [97], [107]]
set_option maxRecDepth 100000 in
set_option maxHeartbeats 1000000 in
theorem rHas_ca (kind : Int) (w : World) : Ca Tryd.prog 21 #[.int .i64 kind] w fun v w' => v = .tuple #[S (hasF kind).1, .bool (hasF kind).2] ∧ Keeps NoB w w' := by
  refine ca_of_body (args := [.int .i64 kind]) Tryd.func21 rfl (by kernel_rfl) ?_
  by_cases h1 : kind < 1
  · have e : hasF kind = ([], false) := by unfold hasF; rw [if_neg (by omega), if_neg (by omega), if_neg (by omega), if_neg (by omega), if_neg (by omega)]
    rw [e]
    (repeat first | (apply wr_move; exact rfl; with_reducible (conv => enter [6, 3]; whnf)) | (apply wr_assign; exact rfl; with_reducible (conv => enter [6, 3]; whnf)) | apply wr_end | apply wc_seq | apply wc_region | (apply wr_cmp; (iterate 3 exact rfl); exact cmpT (by dsimp only [cmpP]; first | done | omega)) | (apply wr_pick (t := true); (iterate 2 exact rfl); with_reducible (conv => enter [6, 3]; whnf)) | (apply wc_true; exact rfl) | (apply wc_ret; try simp only [thenE, inBlockE, bodyQ]) | (apply wr_skip; exact rfl))
    exact leave2 (v1 := S []) (v2 := .bool false) rfl rfl rfl ⟨rfl, Keeps.refl _ _⟩
  by_cases h2 : 5 < kind
  · have e : hasF kind = ([], false) := by unfold hasF; rw [if_neg (by omega), if_neg (by omega), if_neg (by omega), if_neg (by omega), if_neg (by omega)]
    rw [e]
    (repeat first | (apply wr_move; exact rfl; with_reducible (conv => enter [6, 3]; whnf)) | (apply wr_assign; exact rfl; with_reducible (conv => enter [6, 3]; whnf)) | apply wr_end | apply wc_seq | apply wc_region | (apply wr_cmp; (iterate 3 exact rfl); exact cmpT (by dsimp only [cmpP]; first | done | omega)) | (apply wr_cmp; (iterate 3 exact rfl); exact cmpF (by dsimp only [cmpN]; first | done | omega)) | (apply wr_pick (t := false); (iterate 2 exact rfl); with_reducible (conv => enter [6, 3]; whnf)) | (apply wc_true; exact rfl) | (apply wc_ret; try simp only [thenE, inBlockE, bodyQ]))
    exact leave2 (v1 := S []) (v2 := .bool false) rfl rfl rfl ⟨rfl, Keeps.refl _ _⟩
  obtain ⟨k, rfl⟩ := Int.eq_ofNat_of_zero_le (show 0 ≤ kind by omega)
  have hk : k = 1 ∨ k = 2 ∨ k = 3 ∨ k = 4 ∨ k = 5 := by omega
  (repeat first | (apply wr_move; exact rfl; with_reducible (conv => enter [6, 3]; whnf)) | (apply wr_assign; exact rfl; with_reducible (conv => enter [6, 3]; whnf)) | apply wr_end | apply wc_seq | apply wc_region | apply wc_skip | (apply wr_cmp; (iterate 3 exact rfl); exact cmpF (by dsimp only [cmpN]; first | done | omega)) | (apply wr_pick (t := false); (iterate 2 exact rfl); with_reducible (conv => enter [6, 3]; whnf)) | (apply wc_false; exact rfl))
  refine wr_buildSlice (vs := hasL.map S) rfl rfl (by intro v hv; simp [hasL] at hv; rcases hv with rfl | rfl | rfl | rfl | rfl | rfl <;> rfl) rfl (by decide) (by decide) (by decide) ?_
  refine wr_move rfl ?_
  refine wr_indexAddr (i := k) rfl rfl rfl (by omega) ?_
  rcases hk with rfl | rfl | rfl | rfl | rfl
  · refine wr_load rfl rfl rfl (heap_alloc_same _ _) rfl ?_
    (repeat first | (apply wr_assign; exact rfl; with_reducible (conv => enter [6, 3]; whnf)) | apply wr_end | (apply wc_ret; try simp only [thenE, inBlockE, bodyQ]))
    exact leave2 rfl rfl rfl ⟨rfl, (Keeps.refl NoB w).alloc _⟩
  · refine wr_load rfl rfl rfl (heap_alloc_same _ _) rfl ?_
    (repeat first | (apply wr_assign; exact rfl; with_reducible (conv => enter [6, 3]; whnf)) | apply wr_end | (apply wc_ret; try simp only [thenE, inBlockE, bodyQ]))
    exact leave2 rfl rfl rfl ⟨rfl, (Keeps.refl NoB w).alloc _⟩
  · refine wr_load rfl rfl rfl (heap_alloc_same _ _) rfl ?_
    (repeat first | (apply wr_assign; exact rfl; with_reducible (conv => enter [6, 3]; whnf)) | apply wr_end | (apply wc_ret; try simp only [thenE, inBlockE, bodyQ]))
    exact leave2 rfl rfl rfl ⟨rfl, (Keeps.refl NoB w).alloc _⟩
  · refine wr_load rfl rfl rfl (heap_alloc_same _ _) rfl ?_
    (repeat first | (apply wr_assign; exact rfl; with_reducible (conv => enter [6, 3]; whnf)) | apply wr_end | (apply wc_ret; try simp only [thenE, inBlockE, bodyQ]))
    exact leave2 rfl rfl rfl ⟨rfl, (Keeps.refl NoB w).alloc _⟩
  · refine wr_load rfl rfl rfl (heap_alloc_same _ _) rfl ?_
    (repeat first | (apply wr_assign; exact rfl; with_reducible (conv => enter [6, 3]; whnf)) | apply wr_end | (apply wc_ret; try simp only [thenE, inBlockE, bodyQ]))
    exact leave2 rfl rfl rfl ⟨rfl, (Keeps.refl NoB w).alloc _⟩
set_option maxRecDepth 100000 in
set_option maxHeartbeats 1000000 in
theorem rIn_ca (s : List UInt8) (b : UInt8) (hl : s.length ≤ 4611686018427387904) (w : World) : Ca Tryd.prog 28 #[S s, .int .u8 (b.toNat : Int)] w fun v w' => v = .bool (inF s [b]) ∧ Keeps NoB w w' := by
  refine ca_of_body (args := [S s, .int .u8 (b.toNat : Int)]) Tryd.func28 rfl (by kernel_rfl) ?_
  (repeat first | (apply wr_assign; exact rfl; with_reducible (conv => enter [6, 3]; whnf)) | apply wr_end | apply wc_seq | apply wc_region | apply wc_block)
  refine wc_loopL (α := Nat) (fun i => [(0, S s), (1, .int .u8 (b.toNat : Int)), (5, .int .i64 (i : Int))])
    (fun i ds w' => ds = [] ∧ i ≤ s.length ∧ b ∉ s.take i ∧ Keeps NoB w w') (fun i => s.length - i) 0 ⟨rfl, Nat.zero_le _, by simp, Keeps.refl _ _⟩ ⟨rfl, rfl, rfl, trivial⟩ ?_
  rintro i ds f0 w2 ⟨rfl, hi, hn, hk2⟩
  by_cases hlt : i < s.length
  · obtain ⟨x, hx⟩ : ∃ x, s[i]? = some x := ⟨s[i], by simp [hlt]⟩
    (repeat first | (apply wr_move; exact rfl; with_reducible (conv => enter [6, 3]; whnf)) | apply wr_end | apply wc_seq | apply wc_region | apply wc_skip | apply wc_block | (apply wr_len_str; iterate 2 exact rfl) | (apply wr_cmp; (iterate 3 exact rfl); exact cmpT (by dsimp only [cmpP]; first | done | omega)) | (apply wc_true; exact rfl))
    refine wr_index_str (i := (i : Int)) (b := x) rfl rfl rfl (by omega) (by simpa using hx) ?_
    by_cases he : x.toNat = b.toNat
    · have he' : x = b := UInt8.toNat_inj.1 he
      (repeat first | (apply wr_move; exact rfl; with_reducible (conv => enter [6, 3]; whnf)) | (apply wr_assign; exact rfl; with_reducible (conv => enter [6, 3]; whnf)) | apply wr_end | apply wc_seq | apply wc_region | (apply wr_cmp; (iterate 3 exact rfl); exact cmpT (by dsimp only [cmpP]; first | done | omega)) | (apply wc_true; exact rfl) | (apply wc_ret; try simp only [thenE, inBlockE, bodyQ]))
      refine leave1 (v := .bool true) rfl rfl ⟨?_, hk2⟩
      have : s.contains b = true := by
        rw [List.contains_iff_mem, ← he']; exact List.mem_of_getElem? hx
      show _ = Value.bool (s.contains b)
      rw [this]
    · (repeat first | (apply wr_move; exact rfl; with_reducible (conv => enter [6, 3]; whnf)) | (apply wr_assign; exact rfl; with_reducible (conv => enter [6, 3]; whnf)) | apply wr_end | apply wc_region | apply wc_skip | (apply wr_cmp; (iterate 3 exact rfl); exact cmpF (by dsimp only [cmpN]; first | done | omega)) | (apply wr_add; (iterate 3 exact rfl); exact w_fit (by dsimp only [kIn]; first | done | omega)) | (apply wc_false; exact rfl))
      refine ⟨i + 1, by omega, ⟨by trivial, hlt, ?_, hk2⟩, rfl, rfl, by simp, trivial⟩
      rw [List.take_add_one, hx]
      simp only [Option.toList_some, List.mem_append, List.mem_singleton, not_or]
      exact ⟨hn, fun h => he (by rw [h])⟩
  · have he : i = s.length := by omega
    subst he
    rw [List.take_length] at hn
    (repeat first | (apply wr_move; exact rfl; with_reducible (conv => enter [6, 3]; whnf)) | (apply wr_assign; exact rfl; with_reducible (conv => enter [6, 3]; whnf)) | apply wr_end | apply wc_seq | apply wc_region | (apply wr_len_str; iterate 2 exact rfl) | (apply wr_cmp; (iterate 3 exact rfl); exact cmpF (by dsimp only [cmpN]; first | done | omega)) | (apply wc_false; exact rfl) | (apply wc_exit; try simp only [thenE, inBlockE, bodyQ, ↓reduceIte, Nat.reduceEqDiff]) | (apply wc_ret; try simp only [thenE, inBlockE, bodyQ]))
    refine leave1 (v := .bool false) rfl rfl ⟨?_, hk2⟩
    have : s.contains b = false := by
      rw [Bool.eq_false_iff]; intro h; exact hn (List.contains_iff_mem.1 h)
    show _ = Value.bool (s.contains b)
    rw [this]
set_option maxRecDepth 100000 in
set_option maxHeartbeats 1000000 in
theorem rTxt_ca (num : Int) (s : List UInt8) (h1 : -9223372036854775808 ≤ num ∧ num ≤ 9223372036854775807) (h2 : s.length ≤ 4611686018427387904) (w : World) : Ca Tryd.prog 29 #[.int .i64 num, S s] w fun v w' => v = S (txt num s) ∧ Keeps NoB w w' := by
  refine ca_of_body (args := [.int .i64 num, S s]) Tryd.func29 rfl (by kernel_rfl) ?_
  by_cases hs : s = []
  · subst hs
    (repeat first | (apply wr_move; exact rfl; with_reducible (conv => enter [6, 3]; whnf)) | (apply wr_assign; exact rfl; with_reducible (conv => enter [6, 3]; whnf)) | apply wr_end | apply wc_seq | apply wc_region | (apply wr_streqc; (iterate 3 exact rfl); (first | exact decide_eq_true (by with_reducible assumption) | exact decide_eq_false (by with_reducible assumption) | exact decide_eq_true rfl | exact rfl)) | (apply wc_true; exact rfl) | (apply wc_ret; try simp only [thenE, inBlockE, bodyQ]))
    exact leave1 (v := S []) rfl rfl ⟨rfl, Keeps.refl _ _⟩
  · have e : txt num s = textF num s := if_neg hs
    rw [e]
    (repeat first | (apply wr_move; exact rfl; with_reducible (conv => enter [6, 3]; whnf)) | (apply wr_assign; exact rfl; with_reducible (conv => enter [6, 3]; whnf)) | apply wr_end | apply wc_seq | apply wc_region | apply wc_skip | (apply wr_streqc; (iterate 3 exact rfl); (first | exact decide_eq_true (by with_reducible assumption) | exact decide_eq_false (by with_reducible assumption) | exact decide_eq_true rfl | exact rfl)) | (apply wc_false; exact rfl))
    refine wr_call (vs := [.int .i64 num, S s]) rfl (rtext_ca num s h1 h2 _) rfl ?_
    rintro v w2 ⟨rfl, hk2⟩
    (repeat first | (apply wr_assign; exact rfl; with_reducible (conv => enter [6, 3]; whnf)) | apply wr_end | (apply wc_ret; try simp only [thenE, inBlockE, bodyQ]))
    exact leave1 rfl rfl ⟨rfl, hk2⟩
set_option maxRecDepth 100000 in
set_option maxHeartbeats 1000000 in
theorem rNmb_ca (num : Int) (n : Nat) (h1 : -9223372036854775808 ≤ num ∧ num ≤ 9223372036854775807) (h2 : n < 18446744073709551616) (w : World) : Ca Tryd.prog 30 #[.int .i64 num, .int .u64 (n : Int)] w fun v w' => v = S (nmb num n) ∧ Keeps NoB w w' := by
  refine ca_of_body (args := [.int .i64 num, .int .u64 (n : Int)]) Tryd.func30 rfl (by kernel_rfl) ?_
  by_cases hs : n = 0
  · subst hs
    (repeat first | (apply wr_move; exact rfl; with_reducible (conv => enter [6, 3]; whnf)) | (apply wr_assign; exact rfl; with_reducible (conv => enter [6, 3]; whnf)) | apply wr_end | apply wc_seq | apply wc_region | (apply wr_cmp; (iterate 3 exact rfl); exact cmpT (by dsimp only [cmpP]; first | done | omega)) | (apply wc_true; exact rfl) | (apply wc_ret; try simp only [thenE, inBlockE, bodyQ]))
    exact leave1 (v := S []) rfl rfl ⟨rfl, Keeps.refl _ _⟩
  · have e : nmb num n = numberF num n := if_neg hs
    rw [e]
    (repeat first | (apply wr_move; exact rfl; with_reducible (conv => enter [6, 3]; whnf)) | (apply wr_assign; exact rfl; with_reducible (conv => enter [6, 3]; whnf)) | apply wr_end | apply wc_seq | apply wc_region | apply wc_skip | (apply wr_cmp; (iterate 3 exact rfl); exact cmpF (by dsimp only [cmpN]; first | done | omega)) | (apply wc_false; exact rfl))
    refine wr_call (vs := [.int .i64 num, .int .u64 (n : Int)]) rfl (rnumber_ca num n h1 h2 _) rfl ?_
    rintro v w2 ⟨rfl, hk2⟩
    (repeat first | (apply wr_assign; exact rfl; with_reducible (conv => enter [6, 3]; whnf)) | apply wr_end | (apply wc_ret; try simp only [thenE, inBlockE, bodyQ]))
    exact leave1 rfl rfl ⟨rfl, hk2⟩
set_option maxRecDepth 100000 in
set_option maxHeartbeats 1000000 in
theorem keysEq_ca (l m : List KeyD) (x y : Value) (w : World) (hx : SlR w 2 x l.length (l.flatMap GK)) (hy : SlR w 2 y m.length (m.flatMap GK)) (hlen : l.length ≤ 1000000000000) (hlen' : m.length ≤ 1000000000000) :
    Ca Tryd.prog 22 #[x, y] w fun v w' => v = .bool (decide (l = m)) ∧ Keeps NoB w w' := by
  obtain ⟨a, c, rfl, hc, hat⟩ := hx.shape
  obtain ⟨a', c', rfl, hc', hat'⟩ := hy.shape
  refine ca_of_body (args := [.slice a l.length c, .slice a' m.length c']) Tryd.func22 rfl (by kernel_rfl) ?_
  by_cases hlm : l.length = m.length
  · (repeat first | (apply wr_move; exact rfl; with_reducible (conv => enter [6, 3]; whnf)) | (apply wr_assign; exact rfl; with_reducible (conv => enter [6, 3]; whnf)) | apply wr_end | apply wc_seq | apply wc_region | apply wc_skip | apply wc_block | (apply wr_len_slice; iterate 2 exact rfl) | (apply wr_cmp; (iterate 3 exact rfl); exact cmpF (by dsimp only [cmpN]; first | done | omega)) | (apply wc_false; exact rfl))
    refine wc_loopL (α := Nat) (fun i => [(0, .slice a l.length c), (1, .slice a' m.length c'), (5, .int .i64 (i : Int))])
      (fun i ds w' => ds = [] ∧ i ≤ l.length ∧ l.take i = m.take i ∧ Keeps NoB w w') (fun i => l.length - i) 0 ⟨rfl, Nat.zero_le _, rfl, Keeps.refl _ _⟩ ⟨rfl, rfl, rfl, trivial⟩ ?_
    rintro i ds f0 w2 ⟨rfl, hi, hpre, hk2⟩
    by_cases hlt : i < l.length
    · obtain ⟨b, o, rfl, cur, e, fr, hb, hr⟩ := hat (by omega)
      obtain ⟨b', o', rfl, cur', e', fr', hb', hr'⟩ := hat' (by omega)
      have hb2 := hk2.heap hb (fun h => h)
      have hb2' := hk2.heap hb' (fun h => h)
      obtain ⟨p, hp⟩ : ∃ p, l[i]? = some p := ⟨l[i], by simp [hlt]⟩
      obtain ⟨q, hq⟩ : ∃ q, m[i]? = some q := ⟨m[i]'(by omega), by simp [show i < m.length by omega]⟩
      obtain ⟨cc, hcc⟩ : ∃ cc : Bool, cc = !decide (p = q) := ⟨_, rfl⟩
      (repeat first | (apply wr_move; exact rfl; with_reducible (conv => enter [6, 3]; whnf)) | apply wr_end | apply wc_seq | apply wc_region | apply wc_skip | apply wc_block | (apply wr_len_slice; iterate 2 exact rfl) | (apply wr_cmp; (iterate 3 exact rfl); exact cmpT (by dsimp only [cmpP]; first | done | omega)) | (apply wc_true; exact rfl))
      refine wc_drawS (l := _) (S := fun w' => w' = w2.drew) (by kernel_rfl) (by kernel_rfl) rfl ?_
      apply ch_step
      focus
        intro w' hS
        subst hS
        apply wr_move; exact rfl; with_reducible (conv => enter [6, 3]; whnf)
        apply wr_nil
        exact ⟨rfl, rfl⟩
      apply ch_step
      focus
        intro w' hS
        subst hS
        apply wr_move; exact rfl; with_reducible (conv => enter [6, 3]; whnf)
        apply wr_nil
        exact ⟨rfl, rfl⟩
      apply ch_step
      focus
        intro w' hS
        subst hS
        refine wr_indexAddr (i := i) rfl rfl rfl hlt ?_
        apply wr_nil
        exact ⟨rfl, rfl⟩
      apply ch_step
      focus
        intro w' hS
        subst hS
        refine wr_loadElem (G := GK) (n := l.length) rfl rfl GK_len rfl hb2 hr hlt hp rfl ?_
        apply wr_nil
        exact ⟨rfl, rfl⟩
      apply ch_step
      focus
        intro w' hS
        subst hS
        apply wr_move; exact rfl; with_reducible (conv => enter [6, 3]; whnf)
        apply wr_nil
        exact ⟨rfl, rfl⟩
      apply ch_step
      focus
        intro w' hS
        subst hS
        apply wr_move; exact rfl; with_reducible (conv => enter [6, 3]; whnf)
        apply wr_nil
        exact ⟨rfl, rfl⟩
      apply ch_step
      focus
        intro w' hS
        subst hS
        refine wr_indexAddr (i := i) rfl rfl rfl (by omega) ?_
        apply wr_nil
        exact ⟨rfl, rfl⟩
      apply ch_step
      focus
        intro w' hS
        subst hS
        refine wr_loadElem (G := GK) (n := m.length) rfl rfl GK_len rfl hb2' hr' (by omega) hq rfl ?_
        apply wr_nil
        exact ⟨rfl, rfl⟩
      apply ch_step
      focus
        intro w' hS
        subst hS
        refine wr_structNe (c := cc) rfl rfl rfl key_stood key_guard (key_eqOk p q _) (by rw [hcc]; obtain ⟨p1, p2⟩ := p; obtain ⟨q1, q2⟩ := q; simp [List.all_cons, Prod.mk.injEq, Bool.decide_and]) ?_
        apply wr_nil
        exact ⟨rfl, rfl⟩
      refine ch_nil ?_
      intro w' hS
      subst hS
      by_cases he : p = q
      · rw [decide_eq_true he] at hcc
        subst hcc
        (repeat first | (apply wr_move; exact rfl; with_reducible (conv => enter [6, 3]; whnf)) | (apply wr_assign; exact rfl; with_reducible (conv => enter [6, 3]; whnf)) | apply wr_end | apply wc_region | apply wc_skip | (apply wr_add; (iterate 3 exact rfl); exact w_fit (by dsimp only [kIn]; first | done | omega)) | (apply wc_false; exact rfl))
        refine ⟨i + 1, by omega, ⟨by trivial, hlt, ?_, hk2.drew⟩, rfl, rfl, by simp, trivial⟩
        rw [List.take_add_one, List.take_add_one, hp, hq, hpre, he]
      · rw [decide_eq_false he] at hcc
        subst hcc
        (repeat first | (apply wr_assign; exact rfl; with_reducible (conv => enter [6, 3]; whnf)) | apply wr_end | apply wc_seq | apply wc_region | (apply wc_true; exact rfl) | (apply wc_ret; try simp only [thenE, inBlockE, bodyQ]))
        refine leave1 (v := .bool false) rfl rfl ⟨?_, hk2.drew⟩
        rw [decide_eq_false]
        intro h
        rw [h, hq] at hp
        exact he (Option.some.inj hp).symm
    · have he : i = l.length := by omega
      subst he
      rw [List.take_length, List.take_of_length_le (by omega)] at hpre
      (repeat first | (apply wr_move; exact rfl; with_reducible (conv => enter [6, 3]; whnf)) | (apply wr_assign; exact rfl; with_reducible (conv => enter [6, 3]; whnf)) | apply wr_end | apply wc_seq | apply wc_region | (apply wr_len_slice; iterate 2 exact rfl) | (apply wr_cmp; (iterate 3 exact rfl); exact cmpF (by dsimp only [cmpN]; first | done | omega)) | (apply wc_false; exact rfl) | (apply wc_exit; try simp only [thenE, inBlockE, bodyQ, ↓reduceIte, Nat.reduceEqDiff]) | (apply wc_ret; try simp only [thenE, inBlockE, bodyQ]))
      exact leave1 (v := .bool true) rfl rfl ⟨by rw [decide_eq_true hpre], hk2⟩
  · (repeat first | (apply wr_move; exact rfl; with_reducible (conv => enter [6, 3]; whnf)) | (apply wr_assign; exact rfl; with_reducible (conv => enter [6, 3]; whnf)) | apply wr_end | apply wc_seq | apply wc_region | (apply wr_len_slice; iterate 2 exact rfl) | (apply wr_cmp; (iterate 3 exact rfl); exact cmpT (by dsimp only [cmpP]; first | done | omega)) | (apply wc_true; exact rfl) | (apply wc_ret; try simp only [thenE, inBlockE, bodyQ]))
    exact leave1 (v := .bool false) rfl rfl ⟨by rw [decide_eq_false (fun h => hlm (by rw [h]))], Keeps.refl _ _⟩
end Go.Proofs.YthlbgeonobicbaaDoor

namespace Go.Proofs.YthlbgeonobicbaaDoor
open Go Go.V Go.RowKit
set_option linter.unusedVariables false
set_option linter.unusedSimpArgs false


theorem refZ (p : PL) : PlC p (.slice none 0 0) (.slice none 0 0) = PlC { p with rules := [], addrs := [] } (.slice none 0 0) (.slice none 0 0) := rfl
set_option maxRecDepth 100000 in
set_option maxHeartbeats 4000000 in
theorem refP_ca (p : PL) (hr : p.rules.length ≤ 1000000000) (ha : p.addrs.length ≤ 1000000000) (rv av : Value) (w : World) (hs : PlS w p rv av) :
    Ca Tryd.prog 13 #[PlV p rv av] w fun v w' => ∃ rv' av', v = PlV p rv' av' ∧ PlS w' p rv' av' ∧ Keeps NoB w w' := by
  obtain ⟨ar, cr, rfl, hcr, hatr⟩ := hs.r.shape
  obtain ⟨aa, ca, rfl, hca, hata⟩ := hs.a.shape
  refine ca_of_body (args := [PlV p (.slice ar p.rules.length cr) (.slice aa p.addrs.length ca)]) Tryd.func13 rfl (by kernel_rfl) ?_
  apply wc_seq
  apply wc_region
  refine wr_box (v := PlV p (.slice ar p.rules.length cr) (.slice aa p.addrs.length ca)) rfl rfl ?_
  refine wr_alloc rfl ?_
  obtain ⟨w1, hw1⟩ : ∃ w1, w1 = (w.alloc (.cells (PlV p (.slice ar p.rules.length cr) (.slice aa p.addrs.length ca)).cells 26)).alloc (.cells (Value.agg PlZ.toArray).cells 37) := ⟨_, rfl⟩
  have hk1 : Keeps NoB w w1 := by rw [hw1]; exact ((Keeps.refl NoB w).alloc _).alloc _
  obtain ⟨rb, hrb⟩ : ∃ rb, rb = (w.alloc (.cells (PlV p (.slice ar p.rules.length cr) (.slice aa p.addrs.length ca)).cells 26)).heap.size := ⟨_, rfl⟩
  have hR1 : w1.heap[rb]? = some (.cells PlZ.toArray 37 (0, 0)) := by rw [hw1, hrb]; exact heap_alloc_same _ _
  obtain ⟨pb, hpb⟩ : ∃ pb, pb = w.heap.size := ⟨_, rfl⟩
  have hA1 : w1.heap[pb]? = some (.cells (PlC p (.slice ar p.rules.length cr) (.slice aa p.addrs.length ca)).toArray 26 (0, 0)) := by
    rw [hw1, hpb, heap_alloc_ne _ _ (by simp only [World.size_alloc]; omega)]; exact heap_alloc_same _ _
  have hsz1 : w1.heap.size = w.heap.size + 2 := by rw [hw1]; simp
  rw [← hw1, ← hrb, ← hpb]
  rw [World.size_alloc] at hrb
  clear hw1
  (repeat first | apply wr_end | apply wc_seq | apply wc_region | (apply wr_fieldAddr; iterate 2 exact rfl) | (apply wr_load; (iterate 3 exact rfl); (focus repeat first | with_reducible assumption | exact heap_alloc_same _ _ | exact World.putObj_heap_same (by first | omega | (simp only [World.size_alloc, World.putObj_size, ne_eq]; omega)) | ((first | refine hAl ?_ ?_ | refine hPu ?_ ?_); focus first | omega | (simp only [World.size_alloc, World.putObj_size, ne_eq]; omega))); exact rfl; conv => enter [6, 3]; whnf))
  refine wr_build (ps := [(0, S p.name), (1, .int .u64 (p.port : Int)), (2, S p.route), (4, .int .u64 (p.policy : Int)), (5, S p.secret), (7, S p.key)]) (cs := PlC p (.slice none 0 0) (.slice none 0 0)) rfl rfl rfl rfl ?_
  refine wr_alloc rfl ?_
  refine wr_storeAll (cs := PlC p (.slice none 0 0) (.slice none 0 0)) rfl rfl rfl (PlC_one rfl rfl) (heap_alloc_same _ _) rfl rfl ?_
  obtain ⟨w3, h3⟩ : ∃ w', w' = (w1.alloc (.cells (Value.agg PlZ.toArray).cells 37)).putObj w1.heap.size (.cells (PlC p (.slice none 0 0) (.slice none 0 0)).toArray 37 (0, 0)) := ⟨_, rfl⟩
  have hk3 : Keeps NoB w1 w3 := by rw [h3]; exact ((Keeps.refl NoB w1).alloc _).put _ (fun h => by omega)
  have hb3 : w3.heap[w1.heap.size]? = some (.cells (PlC p (.slice none 0 0) (.slice none 0 0)).toArray 37 (0, 0)) := by rw [h3]; exact World.putObj_heap_same (by simp)
  have hsz3 : w1.heap.size < w3.heap.size := lt_of_heap hb3
  rw [← h3]
  clear h3
  obtain ⟨tb, etb⟩ : ∃ b, b = w1.heap.size := ⟨_, rfl⟩
  rw [← etb] at hb3 hsz3 ⊢
  have hA3 := hk3.heap hA1 (fun h => h)
  have hR3 := hk3.heap hR1 (fun h => h)
  have hkw3 := hk1.trans hk3
  (repeat first | (apply wr_assign; exact rfl; with_reducible (conv => enter [6, 3]; whnf)) | apply wr_end | apply wc_seq | apply wc_region | apply wc_block)
  refine wc_loopL (α := Nat × Value) (fun x => [(1, .pointer (some ⟨pb, 0, none⟩)), (2, .pointer (some ⟨rb, 0, none⟩)), (3, .pointer (some ⟨tb, 0, none⟩)), (4, .int .i64 (x.1 : Int))])
    (fun x ds w' => ds = [] ∧ x.1 ≤ p.rules.length ∧ w'.heap[tb]? = some (.cells (PlC p x.2 (.slice none 0 0)).toArray 37 (0, 0)) ∧ w'.ownsRow w3.heap.size 71 2 x.2 x.1 ((p.rules.take x.1).flatMap GR) ∧ Keeps (· = tb) w3 w') (fun x => p.rules.length - x.1) (0, .slice none 0 0) ⟨rfl, Nat.zero_le _, hb3, own_nil _ _ _ _, Keeps.refl _ _⟩ ⟨rfl, rfl, rfl, rfl, trivial⟩ ?_
  rintro ⟨i, v⟩ ds f0 w4 ⟨rfl, hi, hb4, ho4, hk4⟩
  dsimp only at hi hb4 ho4 ⊢
  have hkw4 : Keeps NoB w w4 := Keeps.trans' hkw3 hk4 (fun i hi e => by omega)
  have hA4 := hk4.heap hA3 (by omega)
  have hv4 := own_one ho4
  by_cases hlt : i < p.rules.length
  · obtain ⟨b, o, rfl, cur, e, fr, hb, hr⟩ := hatr (by omega)
    have hbb4 := hkw4.heap hb (fun h => h)
    have hbl : ∀ b, v.ownBlock = some b → w3.heap.size ≤ b ∧ b < w4.heap.size := fun b hb => ho4.lt b hb
    have hbw := lt_of_heap hb
    have hs4 := hk4.size
    obtain ⟨⟨x1, x2⟩, hx⟩ : ∃ x, p.rules[i]? = some x := ⟨p.rules[i], by simp [hlt]⟩
    have hsx : p.rules.take (i + 1) = p.rules.take i ++ [(x1, x2)] := by rw [List.take_add_one, hx]; rfl
    have hrd : ∀ {j w'}, Keeps (monD (fun k => v.ownBlock = some k) (some 16) j) w4.drew w' → Keeps (fun k => v.ownBlock = some k) w4.drew w' := by
      intro j w' h
      unfold monD at h
      simp only at h
      cases hb : Nat.beq j 16 with
      | true => rw [hb] at h; exact Keeps.upD h
      | false => rw [hb] at h; exact h
    (repeat first | (apply wr_move; exact rfl; with_reducible (conv => enter [6, 3]; whnf)) | apply wr_end | apply wc_seq | apply wc_region | apply wc_skip | apply wc_block | (apply wr_fieldAddr; iterate 2 exact rfl) | (apply wr_len_slice; iterate 2 exact rfl) | (apply wr_load; (iterate 3 exact rfl); (focus repeat first | with_reducible assumption | exact heap_alloc_same _ _ | exact World.putObj_heap_same (by first | omega | (simp only [World.size_alloc, World.putObj_size, ne_eq]; omega)) | ((first | refine hAl ?_ ?_ | refine hPu ?_ ?_); focus first | omega | (simp only [World.size_alloc, World.putObj_size, ne_eq]; omega))); exact rfl; conv => enter [6, 3]; whnf) | (apply wr_cmp; (iterate 3 exact rfl); exact cmpT (by dsimp only [cmpP]; first | done | omega)) | (apply wc_true; exact rfl))
    refine wc_drawQ (fun k => v.ownBlock = some k) (some 16) (l := _) 18 _ (by kernel_rfl) (by kernel_rfl) rfl (by kernel_rfl) (by kernel_rfl) (by decide) ?_
    apply chP_pure
    focus
      intro x w' hk hF
      refine wr_fieldAddr rfl rfl ?_
      apply wr_nil
      exact ⟨rfl, Keeps.refl _ _⟩
    focus (intro x y h; rfl)
    focus kernel_rfl
    apply chP_pure
    focus
      intro x w' hk hF
      refine wr_load (v := v) rfl rfl rfl ((hrd hk).heap (a := w4.drew) hb4 (fun h => by have := hbl _ h; omega)) rfl ?_
      apply wr_nil
      exact ⟨rfl, Keeps.refl _ _⟩
    focus (intro x y h; rfl)
    focus kernel_rfl
    apply chP_pure
    focus
      intro x w' hk hF
      refine wr_fieldAddr rfl rfl ?_
      apply wr_nil
      exact ⟨rfl, Keeps.refl _ _⟩
    focus (intro x y h; rfl)
    focus kernel_rfl
    apply chP_pure
    focus
      intro x w' hk hF
      refine wr_load (v := .slice (some ⟨b, o, none⟩) p.rules.length cr) rfl rfl rfl ((hrd hk).heap (a := w4.drew) hA4 (fun h => by have := hbl _ h; omega)) rfl ?_
      apply wr_nil
      exact ⟨rfl, Keeps.refl _ _⟩
    focus (intro x y h; rfl)
    focus kernel_rfl
    apply chP_pure
    focus
      intro x w' hk hF
      apply wr_move; exact rfl; with_reducible (conv => enter [6, 3]; whnf)
      apply wr_nil
      exact ⟨rfl, Keeps.refl _ _⟩
    focus (intro x y h; rfl)
    focus kernel_rfl
    apply chP_pure
    focus
      intro x w' hk hF
      refine wr_indexAddr (i := i) rfl rfl rfl hlt ?_
      apply wr_nil
      exact ⟨rfl, Keeps.refl _ _⟩
    focus (intro x y h; rfl)
    focus kernel_rfl
    apply chP_pure
    focus
      intro x w' hk hF
      refine wr_fieldAddr rfl rfl ?_
      apply wr_nil
      exact ⟨rfl, Keeps.refl _ _⟩
    focus (intro x y h; rfl)
    focus kernel_rfl
    apply chP_pure
    focus
      intro x w' hk hF
      refine wr_load (v := S x1) rfl rfl rfl ((hrd hk).heap (a := w4.drew) hbb4 (fun h => by have := hbl _ h; omega)) (cell_elem (g := GR) (k := 2) (n := p.rules.length) (i := i) (j := 0) GR_len hr hlt hx rfl) ?_
      apply wr_nil
      exact ⟨rfl, Keeps.refl _ _⟩
    focus (intro x y h; rfl)
    focus kernel_rfl
    apply chP_pure
    focus
      intro x w' hk hF
      refine wr_fieldAddr rfl rfl ?_
      apply wr_nil
      exact ⟨rfl, Keeps.refl _ _⟩
    focus (intro x y h; rfl)
    focus kernel_rfl
    apply chP_pure
    focus
      intro x w' hk hF
      refine wr_load (v := .slice (some ⟨b, o, none⟩) p.rules.length cr) rfl rfl rfl ((hrd hk).heap (a := w4.drew) hA4 (fun h => by have := hbl _ h; omega)) rfl ?_
      apply wr_nil
      exact ⟨rfl, Keeps.refl _ _⟩
    focus (intro x y h; rfl)
    focus kernel_rfl
    apply chP_pure
    focus
      intro x w' hk hF
      apply wr_move; exact rfl; with_reducible (conv => enter [6, 3]; whnf)
      apply wr_nil
      exact ⟨rfl, Keeps.refl _ _⟩
    focus (intro x y h; rfl)
    focus kernel_rfl
    apply chP_pure
    focus
      intro x w' hk hF
      refine wr_indexAddr (i := i) rfl rfl rfl hlt ?_
      apply wr_nil
      exact ⟨rfl, Keeps.refl _ _⟩
    focus (intro x y h; rfl)
    focus kernel_rfl
    apply chP_pure
    focus
      intro x w' hk hF
      refine wr_fieldAddr rfl rfl ?_
      apply wr_nil
      exact ⟨rfl, Keeps.refl _ _⟩
    focus (intro x y h; rfl)
    focus kernel_rfl
    apply chP_pure
    focus
      intro x w' hk hF
      refine wr_load (v := S x2) rfl rfl rfl ((hrd hk).heap (a := w4.drew) hbb4 (fun h => by have := hbl _ h; omega)) (cell_elem (g := GR) (k := 2) (n := p.rules.length) (i := i) (j := 1) GR_len hr hlt hx rfl) ?_
      apply wr_nil
      exact ⟨rfl, Keeps.refl _ _⟩
    focus (intro x y h; rfl)
    focus kernel_rfl
    apply chP_pure
    focus
      intro x w' hk hF
      refine wr_build (ps := [(0, S x1), (1, S x2)]) (cs := GR (x1, x2)) rfl rfl rfl rfl ?_
      apply wr_nil
      exact ⟨rfl, Keeps.refl _ _⟩
    focus (intro x y h; rfl)
    focus kernel_rfl
    refine chP_fact (fun y => .slice (some ⟨blkV y, 0, none⟩) 1 1) (fun y w' => w'.heap[blkV y]? = some (.cells (GR (x1, x2)).toArray 71 (0, 0)) ∧ w4.heap.size ≤ blkV y) (fun y w w' h k => ⟨Keeps.heap (D := fun k => v.ownBlock = some k) k h.1 (fun hd => by have := hbl _ hd; omega), h.2⟩) ?_ ?_
    focus
      intro x w' hk hF
      refine wr_buildSlice (vs := [.agg (GR (x1, x2)).toArray]) rfl rfl (by intro v hv; simp at hv; subst hv; rfl) rfl (by decide) (by decide) (by decide) ?_
      apply wr_nil
      exact ⟨.pointer (some ⟨w'.heap.size, 0, none⟩), rfl, ⟨one_cells _ _ (by simp [Value.cells]) _ _, (hrd hk).size⟩, (Keeps.refl _ _).alloc _⟩
    refine chP_fact (fun y => y) (fun y w' => w'.ownsRow w3.heap.size 71 2 y (i + 1) ((p.rules.take i).flatMap GR ++ GR (x1, x2))) (fun y w w' h k => own_keep (D := NoB) h k (fun _ _ h => h)) ?_ ?_
    focus
      intro x w' hk hF
      obtain ⟨q1, q2⟩ : w'.heap[blkV (x 15)]? = some (.cells (GR (x1, x2)).toArray 71 (0, 0)) ∧ w4.heap.size ≤ blkV (x 15) := hF 15 (by kernel_rfl)
      have hkn : Keeps NoB w4.drew w' := hk
      have hwk : w4.heap.size ≤ w'.heap.size := hkn.size
      refine wr_append2 (v := v) (n := i) (m := 1) (b := blkV (x 15)) (news := GR (x1, x2)) rfl rfl (own_keep (w := w4.drew) ho4 hkn (fun _ _ h => h)) rfl q1 rfl (by intro u hu; simp [GR] at hu; rcases hu with rfl | rfl <;> rfl) rfl (by decide) (by omega) (by omega) (by omega) ?_
      intro v' w'' ho' hk' hb'
      apply wr_nil
      exact ⟨v', rfl, ho', hk'⟩
    apply chP_pure
    focus
      intro x w' hk hF
      refine wr_fieldAddr rfl rfl ?_
      apply wr_nil
      exact ⟨rfl, Keeps.refl _ _⟩
    focus (intro x y h; rfl)
    focus kernel_rfl
    refine chP_nil ?_
    intro x w5 hk5 hF
    have q1 : w5.ownsRow w3.heap.size 71 2 (x 16) (i + 1) ((p.rules.take i).flatMap GR ++ GR (x1, x2)) := hF 16 (by decide)
    have h17 := own_one q1
    have hb5 := hk5.heap (a := w4.drew) hb4 (fun h => by have := hbl _ h; omega)
    have hpb5 := lt_of_heap hb5
    have hk35 : Keeps (· = tb) w3 w5 := hk4.trans' ((Keeps.refl _ w4).drew.trans hk5) (fun j hj h => by have := hbl j h; omega)
    (repeat first | (apply wr_move; exact rfl; with_reducible (conv => enter [6, 3]; whnf)) | (apply wr_assign; exact rfl; with_reducible (conv => enter [6, 3]; whnf)) | apply wr_end | apply wc_region | (apply wr_add; (iterate 3 exact rfl); exact w_fit (by dsimp only [kIn]; first | done | omega)) | (apply wr_store; (iterate 3 exact rfl); (first | exact rfl | with_reducible assumption); (focus repeat first | with_reducible assumption | exact heap_alloc_same _ _ | exact World.putObj_heap_same (by first | omega | (simp only [World.size_alloc, World.putObj_size, ne_eq]; omega)) | ((first | refine hAl ?_ ?_ | refine hPu ?_ ?_); focus first | omega | (simp only [World.size_alloc, World.putObj_size, ne_eq]; omega))); exact rfl) | (apply wr_nil; try simp only [thenE, inBlockE, bodyQ]))
    refine ⟨(i + 1, x 16), by dsimp only; omega, ⟨by trivial, hlt, World.putObj_heap_same hpb5, ?_, hk35.put _ (fun _ => rfl)⟩, rfl, rfl, rfl, (by show Value.int .i64 _ = Value.int .i64 _; congr 1), trivial⟩
    dsimp only
    rw [hsx, List.flatMap_append]
    exact own_keep (D := (· = tb)) (by simpa using q1) ((Keeps.refl (· = tb) w5).put _ (fun _ => rfl)) (fun b hb e => by have := (q1.lt b hb).1; omega)
  · have he : i = p.rules.length := by omega
    subst he
    rw [List.take_length] at ho4
    have hR4 := hk4.heap hR3 (by omega)
    obtain ⟨w6, e6⟩ : ∃ w6, w6 = w4 := ⟨_, rfl⟩
    obtain ⟨rv', e'⟩ : ∃ rv', rv' = v := ⟨_, rfl⟩
    rw [← e6] at hb4 ho4 hk4 hkw4 hA4 hR4 ⊢
    rw [← e'] at hb4 ho4 hv4
    (repeat first | (apply wr_move; exact rfl; with_reducible (conv => enter [6, 3]; whnf)) | (apply wr_assign; exact rfl; with_reducible (conv => enter [6, 3]; whnf)) | apply wr_end | apply wc_seq | apply wc_region | apply wc_block | (apply wr_fieldAddr; iterate 2 exact rfl) | (apply wr_len_slice; iterate 2 exact rfl) | (apply wr_load; (iterate 3 exact rfl); (focus repeat first | with_reducible assumption | exact heap_alloc_same _ _ | exact World.putObj_heap_same (by first | omega | (simp only [World.size_alloc, World.putObj_size, ne_eq]; omega)) | ((first | refine hAl ?_ ?_ | refine hPu ?_ ?_); focus first | omega | (simp only [World.size_alloc, World.putObj_size, ne_eq]; omega))); exact rfl; conv => enter [6, 3]; whnf) | (apply wr_cmp; (iterate 3 exact rfl); exact cmpF (by dsimp only [cmpN]; first | done | omega)) | (apply wc_false; exact rfl) | (apply wc_exit; try simp only [thenE, inBlockE, bodyQ, ↓reduceIte, Nat.reduceEqDiff]))
    have hb6 := hb4
    have ho6 := ho4
    have hkw6 := hkw4
    have hA6 := hA4
    have hR6 := hR4
    have hv6 := hv4
    have hsl6 := SlR.of_own ho4
    have hw36 := hk4.size
    clear hb4 ho4 hkw4 hA4 hR4 hv4 hk4 e6 e'
    refine wc_loopL (α := Nat × Value) (fun x => [(1, .pointer (some ⟨pb, 0, none⟩)), (2, .pointer (some ⟨rb, 0, none⟩)), (3, .pointer (some ⟨tb, 0, none⟩)), (5, .int .i64 (x.1 : Int))])
      (fun x ds w' => ds = [] ∧ x.1 ≤ p.addrs.length ∧ w'.heap[tb]? = some (.cells (PlC p rv' x.2).toArray 37 (0, 0)) ∧ w'.ownsRow w6.heap.size 72 3 x.2 x.1 ((p.addrs.take x.1).flatMap GA) ∧ Keeps (· = tb) w6 w') (fun x => p.addrs.length - x.1) (0, .slice none 0 0) ⟨rfl, Nat.zero_le _, hb6, own_nil _ _ _ _, Keeps.refl _ _⟩ ⟨rfl, rfl, rfl, rfl, trivial⟩ ?_
    rintro ⟨i, v⟩ ds f0 w4 ⟨rfl, hi, hb4, ho4, hk4⟩
    dsimp only at hi hb4 ho4 ⊢
    have hkw4 : Keeps NoB w w4 := Keeps.trans' hkw6 hk4 (fun i hi e => by omega)
    have hA4 := hk4.heap hA6 (by omega)
    have hv4 := own_one ho4
    by_cases hlt : i < p.addrs.length
    · obtain ⟨b, o, rfl, cur, e, fr, hb, hr⟩ := hata (by omega)
      have hbb4 := hkw4.heap hb (fun h => h)
      have hbl : ∀ b, v.ownBlock = some b → w6.heap.size ≤ b ∧ b < w4.heap.size := fun b hb => ho4.lt b hb
      have hbw := lt_of_heap hb
      have hs4 := hk4.size
      obtain ⟨⟨x1, x2, x3⟩, hx⟩ : ∃ x, p.addrs[i]? = some x := ⟨p.addrs[i], by simp [hlt]⟩
      have hsx : p.addrs.take (i + 1) = p.addrs.take i ++ [(x1, x2, x3)] := by rw [List.take_add_one, hx]; rfl
      have hrd : ∀ {j w'}, Keeps (monD (fun k => v.ownBlock = some k) (some 22) j) w4.drew w' → Keeps (fun k => v.ownBlock = some k) w4.drew w' := by
        intro j w' h
        unfold monD at h
        simp only at h
        cases hb : Nat.beq j 22 with
        | true => rw [hb] at h; exact Keeps.upD h
        | false => rw [hb] at h; exact h
      (repeat first | (apply wr_move; exact rfl; with_reducible (conv => enter [6, 3]; whnf)) | apply wr_end | apply wc_seq | apply wc_region | apply wc_skip | apply wc_block | (apply wr_fieldAddr; iterate 2 exact rfl) | (apply wr_len_slice; iterate 2 exact rfl) | (apply wr_load; (iterate 3 exact rfl); (focus repeat first | with_reducible assumption | exact heap_alloc_same _ _ | exact World.putObj_heap_same (by first | omega | (simp only [World.size_alloc, World.putObj_size, ne_eq]; omega)) | ((first | refine hAl ?_ ?_ | refine hPu ?_ ?_); focus first | omega | (simp only [World.size_alloc, World.putObj_size, ne_eq]; omega))); exact rfl; conv => enter [6, 3]; whnf) | (apply wr_cmp; (iterate 3 exact rfl); exact cmpT (by dsimp only [cmpP]; first | done | omega)) | (apply wc_true; exact rfl))
      refine wc_drawQ (fun k => v.ownBlock = some k) (some 22) (l := _) 24 _ (by kernel_rfl) (by kernel_rfl) rfl (by kernel_rfl) (by kernel_rfl) (by decide) ?_
      apply chP_pure
      focus
        intro x w' hk hF
        refine wr_fieldAddr rfl rfl ?_
        apply wr_nil
        exact ⟨rfl, Keeps.refl _ _⟩
      focus (intro x y h; rfl)
      focus kernel_rfl
      apply chP_pure
      focus
        intro x w' hk hF
        refine wr_load (v := v) rfl rfl rfl ((hrd hk).heap (a := w4.drew) hb4 (fun h => by have := hbl _ h; omega)) rfl ?_
        apply wr_nil
        exact ⟨rfl, Keeps.refl _ _⟩
      focus (intro x y h; rfl)
      focus kernel_rfl
      apply chP_pure
      focus
        intro x w' hk hF
        refine wr_fieldAddr rfl rfl ?_
        apply wr_nil
        exact ⟨rfl, Keeps.refl _ _⟩
      focus (intro x y h; rfl)
      focus kernel_rfl
      apply chP_pure
      focus
        intro x w' hk hF
        refine wr_load (v := .slice (some ⟨b, o, none⟩) p.addrs.length ca) rfl rfl rfl ((hrd hk).heap (a := w4.drew) hA4 (fun h => by have := hbl _ h; omega)) rfl ?_
        apply wr_nil
        exact ⟨rfl, Keeps.refl _ _⟩
      focus (intro x y h; rfl)
      focus kernel_rfl
      apply chP_pure
      focus
        intro x w' hk hF
        apply wr_move; exact rfl; with_reducible (conv => enter [6, 3]; whnf)
        apply wr_nil
        exact ⟨rfl, Keeps.refl _ _⟩
      focus (intro x y h; rfl)
      focus kernel_rfl
      apply chP_pure
      focus
        intro x w' hk hF
        refine wr_indexAddr (i := i) rfl rfl rfl hlt ?_
        apply wr_nil
        exact ⟨rfl, Keeps.refl _ _⟩
      focus (intro x y h; rfl)
      focus kernel_rfl
      apply chP_pure
      focus
        intro x w' hk hF
        refine wr_fieldAddr rfl rfl ?_
        apply wr_nil
        exact ⟨rfl, Keeps.refl _ _⟩
      focus (intro x y h; rfl)
      focus kernel_rfl
      apply chP_pure
      focus
        intro x w' hk hF
        refine wr_load (v := S x1) rfl rfl rfl ((hrd hk).heap (a := w4.drew) hbb4 (fun h => by have := hbl _ h; omega)) (cell_elem (g := GA) (k := 3) (n := p.addrs.length) (i := i) (j := 0) GA_len hr hlt hx rfl) ?_
        apply wr_nil
        exact ⟨rfl, Keeps.refl _ _⟩
      focus (intro x y h; rfl)
      focus kernel_rfl
      apply chP_pure
      focus
        intro x w' hk hF
        refine wr_fieldAddr rfl rfl ?_
        apply wr_nil
        exact ⟨rfl, Keeps.refl _ _⟩
      focus (intro x y h; rfl)
      focus kernel_rfl
      apply chP_pure
      focus
        intro x w' hk hF
        refine wr_load (v := .slice (some ⟨b, o, none⟩) p.addrs.length ca) rfl rfl rfl ((hrd hk).heap (a := w4.drew) hA4 (fun h => by have := hbl _ h; omega)) rfl ?_
        apply wr_nil
        exact ⟨rfl, Keeps.refl _ _⟩
      focus (intro x y h; rfl)
      focus kernel_rfl
      apply chP_pure
      focus
        intro x w' hk hF
        apply wr_move; exact rfl; with_reducible (conv => enter [6, 3]; whnf)
        apply wr_nil
        exact ⟨rfl, Keeps.refl _ _⟩
      focus (intro x y h; rfl)
      focus kernel_rfl
      apply chP_pure
      focus
        intro x w' hk hF
        refine wr_indexAddr (i := i) rfl rfl rfl hlt ?_
        apply wr_nil
        exact ⟨rfl, Keeps.refl _ _⟩
      focus (intro x y h; rfl)
      focus kernel_rfl
      apply chP_pure
      focus
        intro x w' hk hF
        refine wr_fieldAddr rfl rfl ?_
        apply wr_nil
        exact ⟨rfl, Keeps.refl _ _⟩
      focus (intro x y h; rfl)
      focus kernel_rfl
      apply chP_pure
      focus
        intro x w' hk hF
        refine wr_load (v := .int .u64 (x2 : Int)) rfl rfl rfl ((hrd hk).heap (a := w4.drew) hbb4 (fun h => by have := hbl _ h; omega)) (cell_elem (g := GA) (k := 3) (n := p.addrs.length) (i := i) (j := 1) GA_len hr hlt hx rfl) ?_
        apply wr_nil
        exact ⟨rfl, Keeps.refl _ _⟩
      focus (intro x y h; rfl)
      focus kernel_rfl
      apply chP_pure
      focus
        intro x w' hk hF
        refine wr_fieldAddr rfl rfl ?_
        apply wr_nil
        exact ⟨rfl, Keeps.refl _ _⟩
      focus (intro x y h; rfl)
      focus kernel_rfl
      apply chP_pure
      focus
        intro x w' hk hF
        refine wr_load (v := .slice (some ⟨b, o, none⟩) p.addrs.length ca) rfl rfl rfl ((hrd hk).heap (a := w4.drew) hA4 (fun h => by have := hbl _ h; omega)) rfl ?_
        apply wr_nil
        exact ⟨rfl, Keeps.refl _ _⟩
      focus (intro x y h; rfl)
      focus kernel_rfl
      apply chP_pure
      focus
        intro x w' hk hF
        apply wr_move; exact rfl; with_reducible (conv => enter [6, 3]; whnf)
        apply wr_nil
        exact ⟨rfl, Keeps.refl _ _⟩
      focus (intro x y h; rfl)
      focus kernel_rfl
      apply chP_pure
      focus
        intro x w' hk hF
        refine wr_indexAddr (i := i) rfl rfl rfl hlt ?_
        apply wr_nil
        exact ⟨rfl, Keeps.refl _ _⟩
      focus (intro x y h; rfl)
      focus kernel_rfl
      apply chP_pure
      focus
        intro x w' hk hF
        refine wr_fieldAddr rfl rfl ?_
        apply wr_nil
        exact ⟨rfl, Keeps.refl _ _⟩
      focus (intro x y h; rfl)
      focus kernel_rfl
      apply chP_pure
      focus
        intro x w' hk hF
        refine wr_load (v := .int .u64 (x3 : Int)) rfl rfl rfl ((hrd hk).heap (a := w4.drew) hbb4 (fun h => by have := hbl _ h; omega)) (cell_elem (g := GA) (k := 3) (n := p.addrs.length) (i := i) (j := 2) GA_len hr hlt hx rfl) ?_
        apply wr_nil
        exact ⟨rfl, Keeps.refl _ _⟩
      focus (intro x y h; rfl)
      focus kernel_rfl
      apply chP_pure
      focus
        intro x w' hk hF
        refine wr_build (ps := [(0, S x1), (1, .int .u64 (x2 : Int)), (2, .int .u64 (x3 : Int))]) (cs := GA (x1, x2, x3)) rfl rfl rfl rfl ?_
        apply wr_nil
        exact ⟨rfl, Keeps.refl _ _⟩
      focus (intro x y h; rfl)
      focus kernel_rfl
      refine chP_fact (fun y => .slice (some ⟨blkV y, 0, none⟩) 1 1) (fun y w' => w'.heap[blkV y]? = some (.cells (GA (x1, x2, x3)).toArray 72 (0, 0)) ∧ w4.heap.size ≤ blkV y) (fun y w w' h k => ⟨Keeps.heap (D := fun k => v.ownBlock = some k) k h.1 (fun hd => by have := hbl _ hd; omega), h.2⟩) ?_ ?_
      focus
        intro x w' hk hF
        refine wr_buildSlice (vs := [.agg (GA (x1, x2, x3)).toArray]) rfl rfl (by intro v hv; simp at hv; subst hv; rfl) rfl (by decide) (by decide) (by decide) ?_
        apply wr_nil
        exact ⟨.pointer (some ⟨w'.heap.size, 0, none⟩), rfl, ⟨one_cells _ _ (by simp [Value.cells]) _ _, (hrd hk).size⟩, (Keeps.refl _ _).alloc _⟩
      refine chP_fact (fun y => y) (fun y w' => w'.ownsRow w6.heap.size 72 3 y (i + 1) ((p.addrs.take i).flatMap GA ++ GA (x1, x2, x3))) (fun y w w' h k => own_keep (D := NoB) h k (fun _ _ h => h)) ?_ ?_
      focus
        intro x w' hk hF
        obtain ⟨q1, q2⟩ : w'.heap[blkV (x 21)]? = some (.cells (GA (x1, x2, x3)).toArray 72 (0, 0)) ∧ w4.heap.size ≤ blkV (x 21) := hF 21 (by kernel_rfl)
        have hkn : Keeps NoB w4.drew w' := hk
        have hwk : w4.heap.size ≤ w'.heap.size := hkn.size
        refine wr_append2 (v := v) (n := i) (m := 1) (b := blkV (x 21)) (news := GA (x1, x2, x3)) rfl rfl (own_keep (w := w4.drew) ho4 hkn (fun _ _ h => h)) rfl q1 rfl (by intro u hu; simp [GA] at hu; rcases hu with rfl | rfl | rfl <;> rfl) rfl (by decide) (by omega) (by omega) (by omega) ?_
        intro v' w'' ho' hk' hb'
        apply wr_nil
        exact ⟨v', rfl, ho', hk'⟩
      apply chP_pure
      focus
        intro x w' hk hF
        refine wr_fieldAddr rfl rfl ?_
        apply wr_nil
        exact ⟨rfl, Keeps.refl _ _⟩
      focus (intro x y h; rfl)
      focus kernel_rfl
      refine chP_nil ?_
      intro x w5 hk5 hF
      have q1 : w5.ownsRow w6.heap.size 72 3 (x 22) (i + 1) ((p.addrs.take i).flatMap GA ++ GA (x1, x2, x3)) := hF 22 (by decide)
      have h17 := own_one q1
      have hb5 := hk5.heap (a := w4.drew) hb4 (fun h => by have := hbl _ h; omega)
      have hpb5 := lt_of_heap hb5
      have hk35 : Keeps (· = tb) w6 w5 := hk4.trans' ((Keeps.refl _ w4).drew.trans hk5) (fun j hj h => by have := hbl j h; omega)
      (repeat first | (apply wr_move; exact rfl; with_reducible (conv => enter [6, 3]; whnf)) | (apply wr_assign; exact rfl; with_reducible (conv => enter [6, 3]; whnf)) | apply wr_end | apply wc_region | (apply wr_add; (iterate 3 exact rfl); exact w_fit (by dsimp only [kIn]; first | done | omega)) | (apply wr_store; (iterate 3 exact rfl); (first | exact rfl | with_reducible assumption); (focus repeat first | with_reducible assumption | exact heap_alloc_same _ _ | exact World.putObj_heap_same (by first | omega | (simp only [World.size_alloc, World.putObj_size, ne_eq]; omega)) | ((first | refine hAl ?_ ?_ | refine hPu ?_ ?_); focus first | omega | (simp only [World.size_alloc, World.putObj_size, ne_eq]; omega))); exact rfl) | (apply wr_nil; try simp only [thenE, inBlockE, bodyQ]))
      refine ⟨(i + 1, x 22), by dsimp only; omega, ⟨by trivial, hlt, World.putObj_heap_same hpb5, ?_, hk35.put _ (fun _ => rfl)⟩, rfl, rfl, rfl, (by show Value.int .i64 _ = Value.int .i64 _; congr 1), trivial⟩
      dsimp only
      rw [hsx, List.flatMap_append]
      exact own_keep (D := (· = tb)) (by simpa using q1) ((Keeps.refl (· = tb) w5).put _ (fun _ => rfl)) (fun b hb e => by have := (q1.lt b hb).1; omega)
    · have he : i = p.addrs.length := by omega
      subst he
      rw [List.take_length] at ho4
      have hkw4b := hkw4
      have hR4 := hk4.heap hR6 (by omega)
      (repeat first | (apply wr_move; exact rfl; with_reducible (conv => enter [6, 3]; whnf)) | apply wr_end | apply wc_seq | apply wc_region | (apply wr_fieldAddr; iterate 2 exact rfl) | (apply wr_len_slice; iterate 2 exact rfl) | (apply wr_load; (iterate 3 exact rfl); (focus repeat first | with_reducible assumption | exact heap_alloc_same _ _ | exact World.putObj_heap_same (by first | omega | (simp only [World.size_alloc, World.putObj_size, ne_eq]; omega)) | ((first | refine hAl ?_ ?_ | refine hPu ?_ ?_); focus first | omega | (simp only [World.size_alloc, World.putObj_size, ne_eq]; omega))); exact rfl; conv => enter [6, 3]; whnf) | (apply wr_cmp; (iterate 3 exact rfl); exact cmpF (by dsimp only [cmpN]; first | done | omega)) | (apply wc_false; exact rfl) | (apply wc_exit; try simp only [thenE, inBlockE, bodyQ, ↓reduceIte, Nat.reduceEqDiff]))
      refine wr_loadAll (cs := PlC p rv' v) rfl rfl rfl hb4 rfl ?_
      refine wr_storeAll (cs := PlC p rv' v) rfl rfl rfl (PlC_one hv6 hv4) hR4 rfl rfl ?_
      (repeat first | apply wr_end | (apply wc_ret; try simp only [thenE, inBlockE, bodyQ]))
      have hkf : Keeps NoB w (w4.putObj rb (.cells (PlC p rv' v).toArray 37 (0, 0))) := hkw4.put _ (fun h => by omega)
      have hk46 : Keeps NoB w6 w6 := Keeps.refl _ _
      refine leaveN (vs := [PlV p rv' v]) (resv_cells (cs := PlC p rv' v) rfl rfl (World.putObj_heap_same (lt_of_heap hR4)) rfl resv_nil) ⟨rv', v, rfl, ⟨?_, ?_⟩, hkf⟩
      · exact (hsl6.keep hk4 (fun b hb e => by have := (ho6.lt b hb).1; omega)).keep ((Keeps.refl (· = rb) w4).put _ (fun _ => rfl)) (fun b hb e => by have := (ho6.lt b hb).1; omega)
      · exact (SlR.of_own ho4).keep ((Keeps.refl (· = rb) w4).put _ (fun _ => rfl)) (fun b hb e => by have := (ho4.lt b hb).1; omega)
end Go.Proofs.YthlbgeonobicbaaDoor

namespace Go.Proofs.YthlbgeonobicbaaDoor
open Go Go.V Go.RowKit
set_option linter.unusedVariables false
set_option linter.unusedSimpArgs false

theorem rrule_stood : Tryd.prog.stoodInHeld 71 = false := by kernel_rfl
theorem rrule_guard : Tryd.prog.eqGuardType Tryd.prog.depth 71 = false := by kernel_rfl
theorem raddr_stood : Tryd.prog.stoodInHeld 72 = false := by kernel_rfl
theorem raddr_guard : Tryd.prog.eqGuardType Tryd.prog.depth 72 = false := by kernel_rfl
theorem sameB_no {a b : PL} (h : a ≠ b) : sameB a b = false := Bool.eq_false_iff.2 fun hs => h ((sameB_iff a b).1 hs)
set_option maxRecDepth 100000 in
set_option maxHeartbeats 4000000 in
theorem refSame_ca (a b : PL) (ha : a.rules.length ≤ 1000000000000 ∧ a.addrs.length ≤ 1000000000000) (hb : b.rules.length ≤ 1000000000000 ∧ b.addrs.length ≤ 1000000000000) (rv av rv' av' : Value) (w : World) (hs : PlS w a rv av) (hs' : PlS w b rv' av') :
    Ca Tryd.prog 17 #[PlV a rv av, PlV b rv' av'] w fun v w' => v = .bool (sameB a b) ∧ Keeps NoB w w' := by
  obtain ⟨ar, cr, rfl, hcr, hatr⟩ := hs.r.shape
  obtain ⟨aa, ca, rfl, hca, hata⟩ := hs.a.shape
  obtain ⟨ar', cr', rfl, hcr', hatr'⟩ := hs'.r.shape
  obtain ⟨aa', ca', rfl, hca', hata'⟩ := hs'.a.shape
  refine ca_of_body (args := [PlV a (.slice ar a.rules.length cr) (.slice aa a.addrs.length ca), PlV b (.slice ar' b.rules.length cr') (.slice aa' b.addrs.length ca')]) Tryd.func17 rfl (by kernel_rfl) ?_
  apply wc_seq
  apply wc_region
  refine wr_box (v := PlV a (.slice ar a.rules.length cr) (.slice aa a.addrs.length ca)) rfl rfl ?_
  refine wr_box (v := PlV b (.slice ar' b.rules.length cr') (.slice aa' b.addrs.length ca')) rfl rfl ?_
  obtain ⟨w1, hw1⟩ : ∃ w1, w1 = (w.alloc (.cells (PlV a (.slice ar a.rules.length cr) (.slice aa a.addrs.length ca)).cells 37)).alloc (.cells (PlV b (.slice ar' b.rules.length cr') (.slice aa' b.addrs.length ca')).cells 37) := ⟨_, rfl⟩
  have hk1 : Keeps NoB w w1 := by rw [hw1]; exact ((Keeps.refl NoB w).alloc _).alloc _
  obtain ⟨pb, hpb⟩ : ∃ pb, pb = (w.alloc (.cells (PlV a (.slice ar a.rules.length cr) (.slice aa a.addrs.length ca)).cells 37)).heap.size := ⟨_, rfl⟩
  have hbB : w1.heap[pb]? = some (.cells (PlC b (.slice ar' b.rules.length cr') (.slice aa' b.addrs.length ca')).toArray 37 (0, 0)) := by rw [hw1, hpb]; exact heap_alloc_same _ _
  obtain ⟨pa, hpa⟩ : ∃ pa, pa = w.heap.size := ⟨_, rfl⟩
  have hbA : w1.heap[pa]? = some (.cells (PlC a (.slice ar a.rules.length cr) (.slice aa a.addrs.length ca)).toArray 37 (0, 0)) := by
    rw [hw1, hpa, heap_alloc_ne _ _ (by simp only [World.size_alloc]; omega)]; exact heap_alloc_same _ _
  rw [← hw1, ← hpb, ← hpa]
  clear hw1
  by_cases hl1 : a.rules.length = b.rules.length
  rotate_left
  · (repeat first | (apply wr_move; exact rfl; with_reducible (conv => enter [6, 3]; whnf)) | (apply wr_assign; exact rfl; with_reducible (conv => enter [6, 3]; whnf)) | apply wr_end | apply wc_seq | apply wc_region | (apply wr_fieldAddr; iterate 2 exact rfl) | (apply wr_len_slice; iterate 2 exact rfl) | (apply wr_load; (iterate 3 exact rfl); (focus repeat first | with_reducible assumption | exact heap_alloc_same _ _ | exact World.putObj_heap_same (by first | omega | (simp only [World.size_alloc, World.putObj_size, ne_eq]; omega)) | ((first | refine hAl ?_ ?_ | refine hPu ?_ ?_); focus first | omega | (simp only [World.size_alloc, World.putObj_size, ne_eq]; omega))); exact rfl; conv => enter [6, 3]; whnf) | (apply wr_cmp; (iterate 3 exact rfl); exact cmpT (by dsimp only [cmpP]; first | done | omega)) | (apply wr_pick (t := true); (iterate 2 exact rfl); with_reducible (conv => enter [6, 3]; whnf)) | (apply wc_true; exact rfl) | (apply wc_ret; try simp only [thenE, inBlockE, bodyQ]) | (apply wr_skip; exact rfl))
    exact leave1 (v := .bool false) rfl rfl ⟨by rw [sameB_no (fun e => hl1 (by rw [e]))], hk1⟩
  by_cases hl2 : a.addrs.length = b.addrs.length
  rotate_left
  · (repeat first | (apply wr_move; exact rfl; with_reducible (conv => enter [6, 3]; whnf)) | (apply wr_assign; exact rfl; with_reducible (conv => enter [6, 3]; whnf)) | apply wr_end | apply wc_seq | apply wc_region | (apply wr_fieldAddr; iterate 2 exact rfl) | (apply wr_len_slice; iterate 2 exact rfl) | (apply wr_load; (iterate 3 exact rfl); (focus repeat first | with_reducible assumption | exact heap_alloc_same _ _ | exact World.putObj_heap_same (by first | omega | (simp only [World.size_alloc, World.putObj_size, ne_eq]; omega)) | ((first | refine hAl ?_ ?_ | refine hPu ?_ ?_); focus first | omega | (simp only [World.size_alloc, World.putObj_size, ne_eq]; omega))); exact rfl; conv => enter [6, 3]; whnf) | (apply wr_cmp; (iterate 3 exact rfl); exact cmpT (by dsimp only [cmpP]; first | done | omega)) | (apply wr_cmp; (iterate 3 exact rfl); exact cmpF (by dsimp only [cmpN]; first | done | omega)) | (apply wr_pick (t := false); (iterate 2 exact rfl); with_reducible (conv => enter [6, 3]; whnf)) | (apply wc_true; exact rfl) | (apply wc_ret; try simp only [thenE, inBlockE, bodyQ]))
    exact leave1 (v := .bool false) rfl rfl ⟨by rw [sameB_no (fun e => hl2 (by rw [e]))], hk1⟩
  (repeat first | (apply wr_move; exact rfl; with_reducible (conv => enter [6, 3]; whnf)) | (apply wr_assign; exact rfl; with_reducible (conv => enter [6, 3]; whnf)) | apply wr_end | apply wc_seq | apply wc_region | apply wc_skip | apply wc_block | (apply wr_fieldAddr; iterate 2 exact rfl) | (apply wr_len_slice; iterate 2 exact rfl) | (apply wr_load; (iterate 3 exact rfl); (focus repeat first | with_reducible assumption | exact heap_alloc_same _ _ | exact World.putObj_heap_same (by first | omega | (simp only [World.size_alloc, World.putObj_size, ne_eq]; omega)) | ((first | refine hAl ?_ ?_ | refine hPu ?_ ?_); focus first | omega | (simp only [World.size_alloc, World.putObj_size, ne_eq]; omega))); exact rfl; conv => enter [6, 3]; whnf) | (apply wr_cmp; (iterate 3 exact rfl); exact cmpF (by dsimp only [cmpN]; first | done | omega)) | (apply wr_pick (t := false); (iterate 2 exact rfl); with_reducible (conv => enter [6, 3]; whnf)) | (apply wc_false; exact rfl))
  refine wc_loopL (α := Nat) (fun i => [(2, .pointer (some ⟨pa, 0, none⟩)), (3, .pointer (some ⟨pb, 0, none⟩)), (5, .int .i64 (i : Int))])
    (fun i ds w' => ds = [] ∧ i ≤ a.rules.length ∧ a.rules.take i = b.rules.take i ∧ Keeps NoB w1 w') (fun i => a.rules.length - i) 0 ⟨rfl, Nat.zero_le _, rfl, Keeps.refl _ _⟩ ⟨rfl, rfl, rfl, trivial⟩ ?_
  rintro i ds f0 w2 ⟨rfl, hi, hpre, hk2⟩
  have hA2 := hk2.heap hbA (fun h => h)
  have hB2 := hk2.heap hbB (fun h => h)
  by_cases hlt : i < a.rules.length
  · obtain ⟨b1, o, rfl, cur, e, fr, hb, hr⟩ := hatr (by omega)
    obtain ⟨b1', o', rfl, cur', e', fr', hb', hr'⟩ := hatr' (by omega)
    have hb2 := (hk1.trans hk2).heap hb (fun h => h)
    have hb2' := (hk1.trans hk2).heap hb' (fun h => h)
    obtain ⟨p, hp⟩ : ∃ p, a.rules[i]? = some p := ⟨a.rules[i], by simp [hlt]⟩
    obtain ⟨q, hq⟩ : ∃ q, b.rules[i]? = some q := ⟨b.rules[i]'(by omega), by simp [show i < b.rules.length by omega]⟩
    obtain ⟨cc, hcc⟩ : ∃ cc : Bool, cc = !decide (p = q) := ⟨_, rfl⟩
    (repeat first | (apply wr_move; exact rfl; with_reducible (conv => enter [6, 3]; whnf)) | apply wr_end | apply wc_seq | apply wc_region | apply wc_skip | apply wc_block | (apply wr_fieldAddr; iterate 2 exact rfl) | (apply wr_len_slice; iterate 2 exact rfl) | (apply wr_load; (iterate 3 exact rfl); (focus repeat first | with_reducible assumption | exact heap_alloc_same _ _ | exact World.putObj_heap_same (by first | omega | (simp only [World.size_alloc, World.putObj_size, ne_eq]; omega)) | ((first | refine hAl ?_ ?_ | refine hPu ?_ ?_); focus first | omega | (simp only [World.size_alloc, World.putObj_size, ne_eq]; omega))); exact rfl; conv => enter [6, 3]; whnf) | (apply wr_cmp; (iterate 3 exact rfl); exact cmpT (by dsimp only [cmpP]; first | done | omega)) | (apply wc_true; exact rfl))
    refine wc_drawS (l := _) (S := fun w' => w' = w2.drew) (by kernel_rfl) (by kernel_rfl) rfl ?_
    apply ch_step
    focus
      intro w' hS
      subst hS
      refine wr_fieldAddr rfl rfl ?_
      apply wr_nil
      exact ⟨rfl, rfl⟩
    apply ch_step
    focus
      intro w' hS
      subst hS
      refine wr_load (v := .slice (some ⟨b1, o, none⟩) a.rules.length cr) rfl rfl rfl hA2 rfl ?_
      apply wr_nil
      exact ⟨rfl, rfl⟩
    apply ch_step
    focus
      intro w' hS
      subst hS
      apply wr_move; exact rfl; with_reducible (conv => enter [6, 3]; whnf)
      apply wr_nil
      exact ⟨rfl, rfl⟩
    apply ch_step
    focus
      intro w' hS
      subst hS
      refine wr_indexAddr (i := i) rfl rfl rfl hlt ?_
      apply wr_nil
      exact ⟨rfl, rfl⟩
    apply ch_step
    focus
      intro w' hS
      subst hS
      refine wr_loadElem (G := GR) (n := a.rules.length) rfl rfl GR_len rfl hb2 hr hlt hp rfl ?_
      apply wr_nil
      exact ⟨rfl, rfl⟩
    apply ch_step
    focus
      intro w' hS
      subst hS
      refine wr_fieldAddr rfl rfl ?_
      apply wr_nil
      exact ⟨rfl, rfl⟩
    apply ch_step
    focus
      intro w' hS
      subst hS
      refine wr_load (v := .slice (some ⟨b1', o', none⟩) b.rules.length cr') rfl rfl rfl hB2 rfl ?_
      apply wr_nil
      exact ⟨rfl, rfl⟩
    apply ch_step
    focus
      intro w' hS
      subst hS
      apply wr_move; exact rfl; with_reducible (conv => enter [6, 3]; whnf)
      apply wr_nil
      exact ⟨rfl, rfl⟩
    apply ch_step
    focus
      intro w' hS
      subst hS
      refine wr_indexAddr (i := i) rfl rfl rfl (by omega) ?_
      apply wr_nil
      exact ⟨rfl, rfl⟩
    apply ch_step
    focus
      intro w' hS
      subst hS
      refine wr_loadElem (G := GR) (n := b.rules.length) rfl rfl GR_len rfl hb2' hr' (by omega) hq rfl ?_
      apply wr_nil
      exact ⟨rfl, rfl⟩
    apply ch_step
    focus
      intro w' hS
      subst hS
      refine wr_structNe (c := cc) rfl rfl rfl rrule_stood rrule_guard (rule_eqOk p q _) (by rw [hcc]; (obtain ⟨p1, p2⟩ := p; obtain ⟨q1, q2⟩ := q; simp [List.all_cons, Prod.mk.injEq, Bool.decide_and])) ?_
      apply wr_nil
      exact ⟨rfl, rfl⟩
    refine ch_nil ?_
    intro w' hS
    subst hS
    by_cases he : p = q
    · rw [decide_eq_true he] at hcc
      subst hcc
      (repeat first | (apply wr_move; exact rfl; with_reducible (conv => enter [6, 3]; whnf)) | (apply wr_assign; exact rfl; with_reducible (conv => enter [6, 3]; whnf)) | apply wr_end | apply wc_region | apply wc_skip | (apply wr_add; (iterate 3 exact rfl); exact w_fit (by dsimp only [kIn]; first | done | omega)) | (apply wc_false; exact rfl))
      refine ⟨i + 1, by omega, ⟨by trivial, hlt, ?_, hk2.drew⟩, rfl, rfl, by simp, trivial⟩
      rw [List.take_add_one, List.take_add_one, hp, hq, hpre, he]
    · rw [decide_eq_false he] at hcc
      subst hcc
      (repeat first | (apply wr_assign; exact rfl; with_reducible (conv => enter [6, 3]; whnf)) | apply wr_end | apply wc_seq | apply wc_region | (apply wc_true; exact rfl) | (apply wc_ret; try simp only [thenE, inBlockE, bodyQ]))
      exact leave1 (v := .bool false) rfl rfl ⟨by rw [sameB_no (fun e => by rw [e, hq] at hp; exact he (Option.some.inj hp).symm)], hk1.trans hk2.drew⟩
  · have he : i = a.rules.length := by omega
    subst he
    rw [List.take_length, List.take_of_length_le (by omega)] at hpre
    have hreq := hpre
    clear hpre
    (repeat first | (apply wr_move; exact rfl; with_reducible (conv => enter [6, 3]; whnf)) | (apply wr_assign; exact rfl; with_reducible (conv => enter [6, 3]; whnf)) | apply wr_end | apply wc_seq | apply wc_region | apply wc_block | (apply wr_fieldAddr; iterate 2 exact rfl) | (apply wr_len_slice; iterate 2 exact rfl) | (apply wr_load; (iterate 3 exact rfl); (focus repeat first | with_reducible assumption | exact heap_alloc_same _ _ | exact World.putObj_heap_same (by first | omega | (simp only [World.size_alloc, World.putObj_size, ne_eq]; omega)) | ((first | refine hAl ?_ ?_ | refine hPu ?_ ?_); focus first | omega | (simp only [World.size_alloc, World.putObj_size, ne_eq]; omega))); exact rfl; conv => enter [6, 3]; whnf) | (apply wr_cmp; (iterate 3 exact rfl); exact cmpF (by dsimp only [cmpN]; first | done | omega)) | (apply wc_false; exact rfl) | (apply wc_exit; try simp only [thenE, inBlockE, bodyQ, ↓reduceIte, Nat.reduceEqDiff]))
    refine wc_loopL (α := Nat) (fun i => [(2, .pointer (some ⟨pa, 0, none⟩)), (3, .pointer (some ⟨pb, 0, none⟩)), (6, .int .i64 (i : Int))])
      (fun i ds w' => ds = [] ∧ i ≤ a.addrs.length ∧ a.addrs.take i = b.addrs.take i ∧ Keeps NoB w1 w') (fun i => a.addrs.length - i) 0 ⟨rfl, Nat.zero_le _, rfl, hk2⟩ ⟨rfl, rfl, rfl, trivial⟩ ?_
    rintro i ds f0 w2 ⟨rfl, hi, hpre, hk2⟩
    have hA2 := hk2.heap hbA (fun h => h)
    have hB2 := hk2.heap hbB (fun h => h)
    by_cases hlt : i < a.addrs.length
    · obtain ⟨b1, o, rfl, cur, e, fr, hb, hr⟩ := hata (by omega)
      obtain ⟨b1', o', rfl, cur', e', fr', hb', hr'⟩ := hata' (by omega)
      have hb2 := (hk1.trans hk2).heap hb (fun h => h)
      have hb2' := (hk1.trans hk2).heap hb' (fun h => h)
      obtain ⟨p, hp⟩ : ∃ p, a.addrs[i]? = some p := ⟨a.addrs[i], by simp [hlt]⟩
      obtain ⟨q, hq⟩ : ∃ q, b.addrs[i]? = some q := ⟨b.addrs[i]'(by omega), by simp [show i < b.addrs.length by omega]⟩
      obtain ⟨cc, hcc⟩ : ∃ cc : Bool, cc = !decide (p = q) := ⟨_, rfl⟩
      (repeat first | (apply wr_move; exact rfl; with_reducible (conv => enter [6, 3]; whnf)) | apply wr_end | apply wc_seq | apply wc_region | apply wc_skip | apply wc_block | (apply wr_fieldAddr; iterate 2 exact rfl) | (apply wr_len_slice; iterate 2 exact rfl) | (apply wr_load; (iterate 3 exact rfl); (focus repeat first | with_reducible assumption | exact heap_alloc_same _ _ | exact World.putObj_heap_same (by first | omega | (simp only [World.size_alloc, World.putObj_size, ne_eq]; omega)) | ((first | refine hAl ?_ ?_ | refine hPu ?_ ?_); focus first | omega | (simp only [World.size_alloc, World.putObj_size, ne_eq]; omega))); exact rfl; conv => enter [6, 3]; whnf) | (apply wr_cmp; (iterate 3 exact rfl); exact cmpT (by dsimp only [cmpP]; first | done | omega)) | (apply wc_true; exact rfl))
      refine wc_drawS (l := _) (S := fun w' => w' = w2.drew) (by kernel_rfl) (by kernel_rfl) rfl ?_
      apply ch_step
      focus
        intro w' hS
        subst hS
        refine wr_fieldAddr rfl rfl ?_
        apply wr_nil
        exact ⟨rfl, rfl⟩
      apply ch_step
      focus
        intro w' hS
        subst hS
        refine wr_load (v := .slice (some ⟨b1, o, none⟩) a.addrs.length ca) rfl rfl rfl hA2 rfl ?_
        apply wr_nil
        exact ⟨rfl, rfl⟩
      apply ch_step
      focus
        intro w' hS
        subst hS
        apply wr_move; exact rfl; with_reducible (conv => enter [6, 3]; whnf)
        apply wr_nil
        exact ⟨rfl, rfl⟩
      apply ch_step
      focus
        intro w' hS
        subst hS
        refine wr_indexAddr (i := i) rfl rfl rfl hlt ?_
        apply wr_nil
        exact ⟨rfl, rfl⟩
      apply ch_step
      focus
        intro w' hS
        subst hS
        refine wr_loadElem (G := GA) (n := a.addrs.length) rfl rfl GA_len rfl hb2 hr hlt hp rfl ?_
        apply wr_nil
        exact ⟨rfl, rfl⟩
      apply ch_step
      focus
        intro w' hS
        subst hS
        refine wr_fieldAddr rfl rfl ?_
        apply wr_nil
        exact ⟨rfl, rfl⟩
      apply ch_step
      focus
        intro w' hS
        subst hS
        refine wr_load (v := .slice (some ⟨b1', o', none⟩) b.addrs.length ca') rfl rfl rfl hB2 rfl ?_
        apply wr_nil
        exact ⟨rfl, rfl⟩
      apply ch_step
      focus
        intro w' hS
        subst hS
        apply wr_move; exact rfl; with_reducible (conv => enter [6, 3]; whnf)
        apply wr_nil
        exact ⟨rfl, rfl⟩
      apply ch_step
      focus
        intro w' hS
        subst hS
        refine wr_indexAddr (i := i) rfl rfl rfl (by omega) ?_
        apply wr_nil
        exact ⟨rfl, rfl⟩
      apply ch_step
      focus
        intro w' hS
        subst hS
        refine wr_loadElem (G := GA) (n := b.addrs.length) rfl rfl GA_len rfl hb2' hr' (by omega) hq rfl ?_
        apply wr_nil
        exact ⟨rfl, rfl⟩
      apply ch_step
      focus
        intro w' hS
        subst hS
        refine wr_structNe (c := cc) rfl rfl rfl raddr_stood raddr_guard (addr_eqOk p q _) (by rw [hcc]; (obtain ⟨p1, p2, p3⟩ := p; obtain ⟨q1, q2, q3⟩ := q; simp [List.all_cons, Prod.mk.injEq, Bool.decide_and, Int.ofNat_inj])) ?_
        apply wr_nil
        exact ⟨rfl, rfl⟩
      refine ch_nil ?_
      intro w' hS
      subst hS
      by_cases he : p = q
      · rw [decide_eq_true he] at hcc
        subst hcc
        (repeat first | (apply wr_move; exact rfl; with_reducible (conv => enter [6, 3]; whnf)) | (apply wr_assign; exact rfl; with_reducible (conv => enter [6, 3]; whnf)) | apply wr_end | apply wc_region | apply wc_skip | (apply wr_add; (iterate 3 exact rfl); exact w_fit (by dsimp only [kIn]; first | done | omega)) | (apply wc_false; exact rfl))
        refine ⟨i + 1, by omega, ⟨by trivial, hlt, ?_, hk2.drew⟩, rfl, rfl, by simp, trivial⟩
        rw [List.take_add_one, List.take_add_one, hp, hq, hpre, he]
      · rw [decide_eq_false he] at hcc
        subst hcc
        (repeat first | (apply wr_assign; exact rfl; with_reducible (conv => enter [6, 3]; whnf)) | apply wr_end | apply wc_seq | apply wc_region | (apply wc_true; exact rfl) | (apply wc_ret; try simp only [thenE, inBlockE, bodyQ]))
        exact leave1 (v := .bool false) rfl rfl ⟨by rw [sameB_no (fun e => by rw [e, hq] at hp; exact he (Option.some.inj hp).symm)], hk1.trans hk2.drew⟩
    · have he : i = a.addrs.length := by omega
      subst he
      rw [List.take_length, List.take_of_length_le (by omega)] at hpre
      by_cases h1 : a.name = b.name
      rotate_left
      · (repeat first | (apply wr_move; exact rfl; with_reducible (conv => enter [6, 3]; whnf)) | (apply wr_assign; exact rfl; with_reducible (conv => enter [6, 3]; whnf)) | apply wr_end | apply wc_seq | apply wc_region | (apply wr_fieldAddr; iterate 2 exact rfl) | (apply wr_len_slice; iterate 2 exact rfl) | (apply wr_load; (iterate 3 exact rfl); (focus repeat first | with_reducible assumption | exact heap_alloc_same _ _ | exact World.putObj_heap_same (by first | omega | (simp only [World.size_alloc, World.putObj_size, ne_eq]; omega)) | ((first | refine hAl ?_ ?_ | refine hPu ?_ ?_); focus first | omega | (simp only [World.size_alloc, World.putObj_size, ne_eq]; omega))); exact rfl; conv => enter [6, 3]; whnf) | (apply wr_cmp; (iterate 3 exact rfl); exact cmpF (by dsimp only [cmpN]; first | done | omega)) | (apply wr_pick (t := false); (iterate 2 exact rfl); with_reducible (conv => enter [6, 3]; whnf)) | (apply wr_streqc; (iterate 3 exact rfl); (first | exact decide_eq_true (by with_reducible assumption) | exact decide_eq_false (by with_reducible assumption) | exact decide_eq_true rfl | exact rfl)) | (apply wc_false; exact rfl) | (apply wc_exit; try simp only [thenE, inBlockE, bodyQ, ↓reduceIte, Nat.reduceEqDiff]) | (apply wc_ret; try simp only [thenE, inBlockE, bodyQ]) | (apply wr_skip; exact rfl))
        exact leave1 (v := .bool false) rfl rfl ⟨by rw [sameB_no (fun e => h1 (by rw [e]))], hk1.trans hk2⟩
      by_cases h2 : a.port = b.port
      rotate_left
      · (repeat first | (apply wr_move; exact rfl; with_reducible (conv => enter [6, 3]; whnf)) | (apply wr_assign; exact rfl; with_reducible (conv => enter [6, 3]; whnf)) | apply wr_end | apply wc_seq | apply wc_region | (apply wr_fieldAddr; iterate 2 exact rfl) | (apply wr_len_slice; iterate 2 exact rfl) | (apply wr_load; (iterate 3 exact rfl); (focus repeat first | with_reducible assumption | exact heap_alloc_same _ _ | exact World.putObj_heap_same (by first | omega | (simp only [World.size_alloc, World.putObj_size, ne_eq]; omega)) | ((first | refine hAl ?_ ?_ | refine hPu ?_ ?_); focus first | omega | (simp only [World.size_alloc, World.putObj_size, ne_eq]; omega))); exact rfl; conv => enter [6, 3]; whnf) | (apply wr_cmp; (iterate 3 exact rfl); exact cmpF (by dsimp only [cmpN]; first | done | omega)) | (apply wr_pick (t := true); (iterate 2 exact rfl); with_reducible (conv => enter [6, 3]; whnf)) | (apply wr_pick (t := false); (iterate 2 exact rfl); with_reducible (conv => enter [6, 3]; whnf)) | (apply wr_streqc; (iterate 3 exact rfl); (first | exact decide_eq_true (by with_reducible assumption) | exact decide_eq_false (by with_reducible assumption) | exact decide_eq_true rfl | exact rfl)) | (apply wc_false; exact rfl) | (apply wc_exit; try simp only [thenE, inBlockE, bodyQ, ↓reduceIte, Nat.reduceEqDiff]) | (apply wc_ret; try simp only [thenE, inBlockE, bodyQ]) | (apply wr_skip; exact rfl))
        exact leave1 (v := .bool false) rfl rfl ⟨by rw [sameB_no (fun e => h2 (by rw [e]))], hk1.trans hk2⟩
      by_cases h3 : a.route = b.route
      rotate_left
      · (repeat first | (apply wr_move; exact rfl; with_reducible (conv => enter [6, 3]; whnf)) | (apply wr_assign; exact rfl; with_reducible (conv => enter [6, 3]; whnf)) | apply wr_end | apply wc_seq | apply wc_region | (apply wr_fieldAddr; iterate 2 exact rfl) | (apply wr_len_slice; iterate 2 exact rfl) | (apply wr_load; (iterate 3 exact rfl); (focus repeat first | with_reducible assumption | exact heap_alloc_same _ _ | exact World.putObj_heap_same (by first | omega | (simp only [World.size_alloc, World.putObj_size, ne_eq]; omega)) | ((first | refine hAl ?_ ?_ | refine hPu ?_ ?_); focus first | omega | (simp only [World.size_alloc, World.putObj_size, ne_eq]; omega))); exact rfl; conv => enter [6, 3]; whnf) | (apply wr_cmp; (iterate 3 exact rfl); exact cmpT (by dsimp only [cmpP]; first | done | omega)) | (apply wr_cmp; (iterate 3 exact rfl); exact cmpF (by dsimp only [cmpN]; first | done | omega)) | (apply wr_pick (t := true); (iterate 2 exact rfl); with_reducible (conv => enter [6, 3]; whnf)) | (apply wr_pick (t := false); (iterate 2 exact rfl); with_reducible (conv => enter [6, 3]; whnf)) | (apply wr_streqc; (iterate 3 exact rfl); (first | exact decide_eq_true (by with_reducible assumption) | exact decide_eq_false (by with_reducible assumption) | exact decide_eq_true rfl | exact rfl)) | (apply wc_false; exact rfl) | (apply wc_exit; try simp only [thenE, inBlockE, bodyQ, ↓reduceIte, Nat.reduceEqDiff]) | (apply wc_ret; try simp only [thenE, inBlockE, bodyQ]) | (apply wr_skip; exact rfl))
        exact leave1 (v := .bool false) rfl rfl ⟨by rw [sameB_no (fun e => h3 (by rw [e]))], hk1.trans hk2⟩
      by_cases h4 : a.policy = b.policy
      rotate_left
      · (repeat first | (apply wr_move; exact rfl; with_reducible (conv => enter [6, 3]; whnf)) | (apply wr_assign; exact rfl; with_reducible (conv => enter [6, 3]; whnf)) | apply wr_end | apply wc_seq | apply wc_region | (apply wr_fieldAddr; iterate 2 exact rfl) | (apply wr_len_slice; iterate 2 exact rfl) | (apply wr_load; (iterate 3 exact rfl); (focus repeat first | with_reducible assumption | exact heap_alloc_same _ _ | exact World.putObj_heap_same (by first | omega | (simp only [World.size_alloc, World.putObj_size, ne_eq]; omega)) | ((first | refine hAl ?_ ?_ | refine hPu ?_ ?_); focus first | omega | (simp only [World.size_alloc, World.putObj_size, ne_eq]; omega))); exact rfl; conv => enter [6, 3]; whnf) | (apply wr_cmp; (iterate 3 exact rfl); exact cmpT (by dsimp only [cmpP]; first | done | omega)) | (apply wr_cmp; (iterate 3 exact rfl); exact cmpF (by dsimp only [cmpN]; first | done | omega)) | (apply wr_pick (t := true); (iterate 2 exact rfl); with_reducible (conv => enter [6, 3]; whnf)) | (apply wr_pick (t := false); (iterate 2 exact rfl); with_reducible (conv => enter [6, 3]; whnf)) | (apply wr_streqc; (iterate 3 exact rfl); (first | exact decide_eq_true (by with_reducible assumption) | exact decide_eq_false (by with_reducible assumption) | exact decide_eq_true rfl | exact rfl)) | (apply wc_false; exact rfl) | (apply wc_exit; try simp only [thenE, inBlockE, bodyQ, ↓reduceIte, Nat.reduceEqDiff]) | (apply wc_ret; try simp only [thenE, inBlockE, bodyQ]) | (apply wr_skip; exact rfl))
        exact leave1 (v := .bool false) rfl rfl ⟨by rw [sameB_no (fun e => h4 (by rw [e]))], hk1.trans hk2⟩
      by_cases h5 : a.secret = b.secret
      rotate_left
      · (repeat first | (apply wr_move; exact rfl; with_reducible (conv => enter [6, 3]; whnf)) | (apply wr_assign; exact rfl; with_reducible (conv => enter [6, 3]; whnf)) | apply wr_end | apply wc_seq | apply wc_region | (apply wr_fieldAddr; iterate 2 exact rfl) | (apply wr_len_slice; iterate 2 exact rfl) | (apply wr_load; (iterate 3 exact rfl); (focus repeat first | with_reducible assumption | exact heap_alloc_same _ _ | exact World.putObj_heap_same (by first | omega | (simp only [World.size_alloc, World.putObj_size, ne_eq]; omega)) | ((first | refine hAl ?_ ?_ | refine hPu ?_ ?_); focus first | omega | (simp only [World.size_alloc, World.putObj_size, ne_eq]; omega))); exact rfl; conv => enter [6, 3]; whnf) | (apply wr_cmp; (iterate 3 exact rfl); exact cmpT (by dsimp only [cmpP]; first | done | omega)) | (apply wr_cmp; (iterate 3 exact rfl); exact cmpF (by dsimp only [cmpN]; first | done | omega)) | (apply wr_pick (t := true); (iterate 2 exact rfl); with_reducible (conv => enter [6, 3]; whnf)) | (apply wr_pick (t := false); (iterate 2 exact rfl); with_reducible (conv => enter [6, 3]; whnf)) | (apply wr_streqc; (iterate 3 exact rfl); (first | exact decide_eq_true (by with_reducible assumption) | exact decide_eq_false (by with_reducible assumption) | exact decide_eq_true rfl | exact rfl)) | (apply wc_false; exact rfl) | (apply wc_exit; try simp only [thenE, inBlockE, bodyQ, ↓reduceIte, Nat.reduceEqDiff]) | (apply wc_ret; try simp only [thenE, inBlockE, bodyQ]) | (apply wr_skip; exact rfl))
        exact leave1 (v := .bool false) rfl rfl ⟨by rw [sameB_no (fun e => h5 (by rw [e]))], hk1.trans hk2⟩
      by_cases h6 : a.key = b.key
      rotate_left
      · (repeat first | (apply wr_move; exact rfl; with_reducible (conv => enter [6, 3]; whnf)) | (apply wr_assign; exact rfl; with_reducible (conv => enter [6, 3]; whnf)) | apply wr_end | apply wc_seq | apply wc_region | (apply wr_fieldAddr; iterate 2 exact rfl) | (apply wr_len_slice; iterate 2 exact rfl) | (apply wr_load; (iterate 3 exact rfl); (focus repeat first | with_reducible assumption | exact heap_alloc_same _ _ | exact World.putObj_heap_same (by first | omega | (simp only [World.size_alloc, World.putObj_size, ne_eq]; omega)) | ((first | refine hAl ?_ ?_ | refine hPu ?_ ?_); focus first | omega | (simp only [World.size_alloc, World.putObj_size, ne_eq]; omega))); exact rfl; conv => enter [6, 3]; whnf) | (apply wr_cmp; (iterate 3 exact rfl); exact cmpT (by dsimp only [cmpP]; first | done | omega)) | (apply wr_cmp; (iterate 3 exact rfl); exact cmpF (by dsimp only [cmpN]; first | done | omega)) | (apply wr_pick (t := true); (iterate 2 exact rfl); with_reducible (conv => enter [6, 3]; whnf)) | (apply wr_streqc; (iterate 3 exact rfl); (first | exact decide_eq_true (by with_reducible assumption) | exact decide_eq_false (by with_reducible assumption) | exact decide_eq_true rfl | exact rfl)) | (apply wc_false; exact rfl) | (apply wc_exit; try simp only [thenE, inBlockE, bodyQ, ↓reduceIte, Nat.reduceEqDiff]) | (apply wc_ret; try simp only [thenE, inBlockE, bodyQ]))
        exact leave1 (v := .bool false) rfl rfl ⟨by rw [sameB_no (fun e => h6 (by rw [e]))], hk1.trans hk2⟩
      (repeat first | (apply wr_move; exact rfl; with_reducible (conv => enter [6, 3]; whnf)) | (apply wr_assign; exact rfl; with_reducible (conv => enter [6, 3]; whnf)) | apply wr_end | apply wc_seq | apply wc_region | (apply wr_fieldAddr; iterate 2 exact rfl) | (apply wr_len_slice; iterate 2 exact rfl) | (apply wr_load; (iterate 3 exact rfl); (focus repeat first | with_reducible assumption | exact heap_alloc_same _ _ | exact World.putObj_heap_same (by first | omega | (simp only [World.size_alloc, World.putObj_size, ne_eq]; omega)) | ((first | refine hAl ?_ ?_ | refine hPu ?_ ?_); focus first | omega | (simp only [World.size_alloc, World.putObj_size, ne_eq]; omega))); exact rfl; conv => enter [6, 3]; whnf) | (apply wr_cmp; (iterate 3 exact rfl); exact cmpT (by dsimp only [cmpP]; first | done | omega)) | (apply wr_cmp; (iterate 3 exact rfl); exact cmpF (by dsimp only [cmpN]; first | done | omega)) | (apply wr_pick (t := true); (iterate 2 exact rfl); with_reducible (conv => enter [6, 3]; whnf)) | (apply wr_streqc; (iterate 3 exact rfl); (first | exact decide_eq_true (by with_reducible assumption) | exact decide_eq_false (by with_reducible assumption) | exact decide_eq_true rfl | exact rfl)) | (apply wc_false; exact rfl) | (apply wc_exit; try simp only [thenE, inBlockE, bodyQ, ↓reduceIte, Nat.reduceEqDiff]) | (apply wc_ret; try simp only [thenE, inBlockE, bodyQ]))
      have heq : a = b := by
        obtain ⟨a1, a2, a3, a4, a5, a6, a7, a8⟩ := a
        obtain ⟨b1, b2, b3, b4, b5, b6, b7, b8⟩ := b
        simp only at h1 h2 h3 h4 h5 h6 hreq hpre
        rw [h1, h2, h3, h4, h5, h6, hreq, hpre]
      exact leave1 (v := .bool true) rfl rfl ⟨by rw [(sameB_iff a b).2 heq], hk1.trans hk2⟩
end Go.Proofs.YthlbgeonobicbaaDoor

namespace Go.Proofs.YthlbgeonobicbaaDoor
open Go Go.V Go.RowKit
set_option linter.unusedVariables false
set_option linter.unusedSimpArgs false

def refL (rs : List RuleD) : List KeyD := rs.foldl (fun l r => refsAdd l (3, r.2)) []
theorem refL_snoc (rs : List RuleD) (r : RuleD) : refL (rs ++ [r]) = refsAdd (refL rs) (3, r.2) := by
  unfold refL; rw [List.foldl_append]; rfl
theorem refL_three (rs : List RuleD) : ∀ x ∈ refL rs, x.1 = 3 := by
  intro x hx
  obtain ⟨_, _, h⟩ := rfold rs [] (by simp)
  rcases h x hx with h | ⟨h, _⟩
  · cases h
  · exact h
theorem refL_len (rs : List RuleD) : (refL rs).length ≤ rs.length := by
  have := refs_foldl_len rs []
  simpa [refL] using this
theorem three_mem {l : List KeyD} (h : ∀ x ∈ l, x.1 = 3) (c : List UInt8) : (3, c) ∈ l ↔ c ∈ l.map Prod.snd := by
  constructor
  · intro hm; exact List.mem_map.2 ⟨_, hm, rfl⟩
  · intro hm
    obtain ⟨⟨a, b⟩, hm', rfl⟩ := List.mem_map.1 hm
    have h3 := h (a, b) hm'
    simp only at h3
    subst h3; exact hm'
set_option maxRecDepth 100000 in
set_option maxHeartbeats 4000000 in
theorem refRefs_ca (kind : Int) (p : PL) (hp : p.rules.length ≤ 100000000) (rv av : Value) (w : World) (hs : PlS w p rv av) :
    Ca Tryd.prog 23 #[.int .i64 kind, PlV p rv av] w fun v w' => w'.ownsRow w.heap.size 49 2 v (refsP kind p).length ((refsP kind p).flatMap GK) ∧ Keeps NoB w w' := by
  obtain ⟨ar, cr, rfl, hcr, hatr⟩ := hs.r.shape
  refine ca_of_body (args := [.int .i64 kind, PlV p (.slice ar p.rules.length cr) av]) Tryd.func23 rfl (by kernel_rfl) ?_
  apply wc_seq
  apply wc_region
  refine wr_box (v := PlV p (.slice ar p.rules.length cr) av) rfl rfl ?_
  obtain ⟨w1, hw1⟩ : ∃ w1, w1 = w.alloc (.cells (PlV p (.slice ar p.rules.length cr) av).cells 37) := ⟨_, rfl⟩
  have hk1 : Keeps NoB w w1 := by rw [hw1]; exact (Keeps.refl NoB w).alloc _
  obtain ⟨pa, hpa⟩ : ∃ pa, pa = w.heap.size := ⟨_, rfl⟩
  have hA1 : w1.heap[pa]? = some (.cells (PlC p (.slice ar p.rules.length cr) av).toArray 37 (0, 0)) := by rw [hw1, hpa]; exact heap_alloc_same _ _
  have hsz1 : w1.heap.size = w.heap.size + 1 := by rw [hw1]; simp
  rw [← hw1, ← hpa]
  clear hw1
  by_cases k1 : kind = 1
  · subst k1
    by_cases h0 : p.route = []
    · have e : refsP 1 p = [] := by unfold refsP refsAdd; rw [if_pos rfl, if_neg (fun h => h.1 h0)]
      rw [e]
      (repeat first | (apply wr_move; exact rfl; with_reducible (conv => enter [6, 3]; whnf)) | (apply wr_assign; exact rfl; with_reducible (conv => enter [6, 3]; whnf)) | apply wr_end | apply wc_seq | apply wc_region | apply wc_skip | apply wc_block | (apply wr_fieldAddr; iterate 2 exact rfl) | (apply wr_load; (iterate 3 exact rfl); (focus repeat first | with_reducible assumption | exact heap_alloc_same _ _ | exact World.putObj_heap_same (by first | omega | (simp only [World.size_alloc, World.putObj_size, ne_eq]; omega)) | ((first | refine hAl ?_ ?_ | refine hPu ?_ ?_); focus first | omega | (simp only [World.size_alloc, World.putObj_size, ne_eq]; omega))); exact rfl; conv => enter [6, 3]; whnf) | (apply wr_cmp; (iterate 3 exact rfl); exact cmpT (by dsimp only [cmpP]; first | done | omega)) | (apply wr_strnec; (iterate 3 exact rfl); (first | exact decide_eq_true (by with_reducible assumption) | exact decide_eq_false (by with_reducible assumption) | exact decide_eq_true rfl | exact rfl); with_reducible (conv => enter [6, 3]; whnf)) | (apply wc_true; exact rfl) | (apply wc_false; exact rfl) | (apply wc_ret; try simp only [thenE, inBlockE, bodyQ]))
      exact leave1 (v := .slice none 0 0) rfl rfl ⟨own_nil _ _ _ _, hk1⟩
    · have e : refsP 1 p = [(2, p.route)] := by unfold refsP refsAdd; rw [if_pos rfl, if_pos ⟨h0, by simp⟩]; rfl
      rw [e]
      (repeat first | (apply wr_move; exact rfl; with_reducible (conv => enter [6, 3]; whnf)) | (apply wr_assign; exact rfl; with_reducible (conv => enter [6, 3]; whnf)) | apply wr_end | apply wc_seq | apply wc_region | apply wc_block | (apply wr_fieldAddr; iterate 2 exact rfl) | (apply wr_load; (iterate 3 exact rfl); (focus repeat first | with_reducible assumption | exact heap_alloc_same _ _ | exact World.putObj_heap_same (by first | omega | (simp only [World.size_alloc, World.putObj_size, ne_eq]; omega)) | ((first | refine hAl ?_ ?_ | refine hPu ?_ ?_); focus first | omega | (simp only [World.size_alloc, World.putObj_size, ne_eq]; omega))); exact rfl; conv => enter [6, 3]; whnf) | (apply wr_cmp; (iterate 3 exact rfl); exact cmpT (by dsimp only [cmpP]; first | done | omega)) | (apply wr_strnec; (iterate 3 exact rfl); (first | exact decide_eq_true (by with_reducible assumption) | exact decide_eq_false (by with_reducible assumption) | exact decide_eq_true rfl | exact rfl); with_reducible (conv => enter [6, 3]; whnf)) | (apply wc_true; exact rfl))
      refine wr_build (ps := [(0, .int .i64 2), (1, S p.route)]) (cs := GK (2, p.route)) rfl rfl rfl rfl ?_
      refine wr_buildSlice (vs := [.agg (GK (2, p.route)).toArray]) rfl rfl (by intro v hv; simp at hv; subst hv; rfl) rfl (by decide) (by decide) (by decide) ?_
      refine wr_append (v := .slice none 0 0) (n := 0) (m := 1) (news := GK (2, p.route)) rfl rfl (own_nil _ pa _ _) rfl (heap_alloc_same _ _) rfl (by intro u hu; simp [GK] at hu; rcases hu with rfl | rfl <;> rfl) rfl (by decide) (by omega) (by omega) (by simp only [World.size_alloc]; omega) ?_
      intro v2 w2 ho2 hk2 _
      have hkw2 : Keeps NoB w w2 := (hk1.alloc _).trans (hk2.mono (fun _ _ e => by cases e))
      (repeat first | (apply wr_move; exact rfl; with_reducible (conv => enter [6, 3]; whnf)) | (apply wr_assign; exact rfl; with_reducible (conv => enter [6, 3]; whnf)) | apply wr_end | apply wc_seq | apply wc_region | (apply wc_ret; try simp only [thenE, inBlockE, bodyQ]) | (apply wr_nil; try simp only [thenE, inBlockE, bodyQ]))
      exact leave1 (v := v2) rfl rfl ⟨ho2, hkw2⟩
  by_cases k3 : kind = 3
  · subst k3
    by_cases h0 : p.secret = []
    · have e : refsP 3 p = [(4, p.name)] := by unfold refsP refsAdd; rw [if_neg (by decide), if_neg (by decide), if_pos rfl, if_neg (fun h => h.1 h0)]
      rw [e]
      (repeat first | (apply wr_move; exact rfl; with_reducible (conv => enter [6, 3]; whnf)) | (apply wr_assign; exact rfl; with_reducible (conv => enter [6, 3]; whnf)) | apply wr_end | apply wc_seq | apply wc_region | apply wc_block | (apply wr_fieldAddr; iterate 2 exact rfl) | (apply wr_load; (iterate 3 exact rfl); (focus repeat first | with_reducible assumption | exact heap_alloc_same _ _ | exact World.putObj_heap_same (by first | omega | (simp only [World.size_alloc, World.putObj_size, ne_eq]; omega)) | ((first | refine hAl ?_ ?_ | refine hPu ?_ ?_); focus first | omega | (simp only [World.size_alloc, World.putObj_size, ne_eq]; omega))); exact rfl; conv => enter [6, 3]; whnf) | (apply wr_cmp; (iterate 3 exact rfl); exact cmpT (by dsimp only [cmpP]; first | done | omega)) | (apply wr_cmp; (iterate 3 exact rfl); exact cmpF (by dsimp only [cmpN]; first | done | omega)) | (apply wc_true; exact rfl) | (apply wc_false; exact rfl))
      refine wr_build (ps := [(0, .int .i64 4), (1, S p.name)]) (cs := GK (4, p.name)) rfl rfl rfl rfl ?_
      refine wr_buildSlice (vs := [.agg (GK (4, p.name)).toArray]) rfl rfl (by intro v hv; simp at hv; subst hv; rfl) rfl (by decide) (by decide) (by decide) ?_
      refine wr_append (v := .slice none 0 0) (n := 0) (m := 1) (news := GK (4, p.name)) rfl rfl (own_nil _ pa _ _) rfl (heap_alloc_same _ _) rfl (by intro u hu; simp [GK] at hu; rcases hu with rfl | rfl <;> rfl) rfl (by decide) (by omega) (by omega) (by simp only [World.size_alloc]; omega) ?_
      intro v2 w2 ho2 hk2 _
      have hkw2 : Keeps NoB w w2 := (hk1.alloc _).trans (hk2.mono (fun _ _ e => by cases e))
      have hA2 := ((Keeps.refl NoB w1).alloc (.cells (GK (4, p.name)).toArray 49)).trans (hk2.mono (fun _ _ e => by cases e)) |>.heap hA1 (fun h => h)
      (repeat first | (apply wr_move; exact rfl; with_reducible (conv => enter [6, 3]; whnf)) | (apply wr_assign; exact rfl; with_reducible (conv => enter [6, 3]; whnf)) | apply wr_end | apply wc_seq | apply wc_region | apply wc_skip | (apply wr_fieldAddr; iterate 2 exact rfl) | (apply wr_load; (iterate 3 exact rfl); (focus repeat first | with_reducible assumption | exact heap_alloc_same _ _ | exact World.putObj_heap_same (by first | omega | (simp only [World.size_alloc, World.putObj_size, ne_eq]; omega)) | ((first | refine hAl ?_ ?_ | refine hPu ?_ ?_); focus first | omega | (simp only [World.size_alloc, World.putObj_size, ne_eq]; omega))); exact rfl; conv => enter [6, 3]; whnf) | (apply wr_strnec; (iterate 3 exact rfl); (first | exact decide_eq_true (by with_reducible assumption) | exact decide_eq_false (by with_reducible assumption) | exact decide_eq_true rfl | exact rfl); with_reducible (conv => enter [6, 3]; whnf)) | (apply wc_false; exact rfl) | (apply wc_ret; try simp only [thenE, inBlockE, bodyQ]))
      exact leave1 (v := v2) rfl rfl ⟨ho2, hkw2⟩
    · have e : refsP 3 p = [(4, p.name), (5, p.secret)] := by unfold refsP refsAdd; rw [if_neg (by decide), if_neg (by decide), if_pos rfl, if_pos ⟨h0, by simp⟩]; rfl
      rw [e]
      (repeat first | (apply wr_move; exact rfl; with_reducible (conv => enter [6, 3]; whnf)) | (apply wr_assign; exact rfl; with_reducible (conv => enter [6, 3]; whnf)) | apply wr_end | apply wc_seq | apply wc_region | apply wc_block | (apply wr_fieldAddr; iterate 2 exact rfl) | (apply wr_load; (iterate 3 exact rfl); (focus repeat first | with_reducible assumption | exact heap_alloc_same _ _ | exact World.putObj_heap_same (by first | omega | (simp only [World.size_alloc, World.putObj_size, ne_eq]; omega)) | ((first | refine hAl ?_ ?_ | refine hPu ?_ ?_); focus first | omega | (simp only [World.size_alloc, World.putObj_size, ne_eq]; omega))); exact rfl; conv => enter [6, 3]; whnf) | (apply wr_cmp; (iterate 3 exact rfl); exact cmpT (by dsimp only [cmpP]; first | done | omega)) | (apply wr_cmp; (iterate 3 exact rfl); exact cmpF (by dsimp only [cmpN]; first | done | omega)) | (apply wc_true; exact rfl) | (apply wc_false; exact rfl))
      refine wr_build (ps := [(0, .int .i64 4), (1, S p.name)]) (cs := GK (4, p.name)) rfl rfl rfl rfl ?_
      refine wr_buildSlice (vs := [.agg (GK (4, p.name)).toArray]) rfl rfl (by intro v hv; simp at hv; subst hv; rfl) rfl (by decide) (by decide) (by decide) ?_
      refine wr_append (v := .slice none 0 0) (n := 0) (m := 1) (news := GK (4, p.name)) rfl rfl (own_nil _ pa _ _) rfl (heap_alloc_same _ _) rfl (by intro u hu; simp [GK] at hu; rcases hu with rfl | rfl <;> rfl) rfl (by decide) (by omega) (by omega) (by simp only [World.size_alloc]; omega) ?_
      intro v2 w2 ho2 hk2 _
      have hkw2 : Keeps NoB w w2 := (hk1.alloc _).trans (hk2.mono (fun _ _ e => by cases e))
      have hA2 := ((Keeps.refl NoB w1).alloc (.cells (GK (4, p.name)).toArray 49)).trans (hk2.mono (fun _ _ e => by cases e)) |>.heap hA1 (fun h => h)
      have hsz2 := hkw2.size
      (repeat first | (apply wr_move; exact rfl; with_reducible (conv => enter [6, 3]; whnf)) | (apply wr_assign; exact rfl; with_reducible (conv => enter [6, 3]; whnf)) | apply wr_end | apply wc_seq | apply wc_region | (apply wr_fieldAddr; iterate 2 exact rfl) | (apply wr_load; (iterate 3 exact rfl); (focus repeat first | with_reducible assumption | exact heap_alloc_same _ _ | exact World.putObj_heap_same (by first | omega | (simp only [World.size_alloc, World.putObj_size, ne_eq]; omega)) | ((first | refine hAl ?_ ?_ | refine hPu ?_ ?_); focus first | omega | (simp only [World.size_alloc, World.putObj_size, ne_eq]; omega))); exact rfl; conv => enter [6, 3]; whnf) | (apply wr_strnec; (iterate 3 exact rfl); (first | exact decide_eq_true (by with_reducible assumption) | exact decide_eq_false (by with_reducible assumption) | exact decide_eq_true rfl | exact rfl); with_reducible (conv => enter [6, 3]; whnf)) | (apply wc_true; exact rfl))
      refine wr_build (ps := [(0, .int .i64 5), (1, S p.secret)]) (cs := GK (5, p.secret)) rfl rfl rfl rfl ?_
      refine wr_buildSlice (vs := [.agg (GK (5, p.secret)).toArray]) rfl rfl (by intro v hv; simp at hv; subst hv; rfl) rfl (by decide) (by decide) (by decide) ?_
      refine wr_append (v := v2) (n := 1) (m := 1) (news := GK (5, p.secret)) rfl rfl (ho2.alloc _) rfl (heap_alloc_same _ _) rfl (by intro u hu; simp [GK] at hu; rcases hu with rfl | rfl <;> rfl) rfl (by decide) (by omega) (by omega) (by simp only [World.size_alloc]; omega) ?_
      intro v3 w3 ho3 hk3 _
      have hkw3 : Keeps NoB w w3 := Keeps.trans' (hkw2.alloc _) hk3 (fun b hb e => by have := own_ge ho2 e; omega)
      (repeat first | (apply wr_move; exact rfl; with_reducible (conv => enter [6, 3]; whnf)) | (apply wr_assign; exact rfl; with_reducible (conv => enter [6, 3]; whnf)) | apply wr_end | apply wc_seq | apply wc_region | (apply wc_ret; try simp only [thenE, inBlockE, bodyQ]) | (apply wr_nil; try simp only [thenE, inBlockE, bodyQ]))
      exact leave1 (v := v3) rfl rfl ⟨ho3, hkw3⟩
  by_cases k2 : kind = 2
  rotate_left
  · have e : refsP kind p = [] := by unfold refsP; rw [if_neg k1, if_neg k2, if_neg k3]
    rw [e]
    (repeat first | (apply wr_move; exact rfl; with_reducible (conv => enter [6, 3]; whnf)) | (apply wr_assign; exact rfl; with_reducible (conv => enter [6, 3]; whnf)) | apply wr_end | apply wc_seq | apply wc_region | apply wc_skip | apply wc_block | (apply wr_cmp; (iterate 3 exact rfl); exact cmpF (by dsimp only [cmpN]; first | done | omega)) | (apply wc_false; exact rfl) | (apply wc_ret; try simp only [thenE, inBlockE, bodyQ]))
    exact leave1 (v := .slice none 0 0) rfl rfl ⟨own_nil _ _ _ _, hk1⟩
  subst k2
  have e : refsP 2 p = refL p.rules := by unfold refsP; rw [if_neg (by decide), if_pos rfl]; rfl
  rw [e]
  (repeat first | (apply wr_move; exact rfl; with_reducible (conv => enter [6, 3]; whnf)) | (apply wr_assign; exact rfl; with_reducible (conv => enter [6, 3]; whnf)) | apply wr_end | apply wc_seq | apply wc_region | apply wc_block | (apply wr_cmp; (iterate 3 exact rfl); exact cmpT (by dsimp only [cmpP]; first | done | omega)) | (apply wr_cmp; (iterate 3 exact rfl); exact cmpF (by dsimp only [cmpN]; first | done | omega)) | (apply wc_true; exact rfl) | (apply wc_false; exact rfl))
  refine wc_loopL (α := Nat × Value) (fun x => [(3, .pointer (some ⟨pa, 0, none⟩)), (5, x.2), (6, .int .i64 (x.1 : Int))])
    (fun x ds w' => ds = [] ∧ x.1 ≤ p.rules.length ∧ w'.ownsRow (pa + 1) 49 2 x.2 (refL (p.rules.take x.1)).length ((refL (p.rules.take x.1)).flatMap GK) ∧ Keeps NoB w1 w' ∧ Keeps NoB w w') (fun x => p.rules.length - x.1) (0, .slice none 0 0) ⟨rfl, Nat.zero_le _, own_nil _ _ _ _, Keeps.refl _ _, hk1⟩ ⟨rfl, rfl, rfl, trivial⟩ ?_
  rintro ⟨i, v⟩ ds f0 w4 ⟨rfl, hi, ho4, hk4, hkw4⟩
  dsimp only at hi ho4 ⊢
  have hA4 := hk4.heap hA1 (fun h => h)
  by_cases hlt : i < p.rules.length
  · obtain ⟨b, o, rfl, cur, e, fr, hb, hr⟩ := hatr (by omega)
    have hbb4 := hkw4.heap hb (fun h => h)
    obtain ⟨⟨x1, x2⟩, hx⟩ : ∃ x, p.rules[i]? = some x := ⟨p.rules[i], by simp [hlt]⟩
    have hsx : p.rules.take (i + 1) = p.rules.take i ++ [(x1, x2)] := by rw [List.take_add_one, hx]; rfl
    have hx2 : cur[o + i * 2 + 1]? = some (S x2) := cell_elem (g := GR) (k := 2) (n := p.rules.length) (i := i) (j := 1) GR_len hr hlt hx rfl
    have hL3 := refL_three (p.rules.take i)
    have hLl := refL_len (p.rules.take i)
    rw [List.length_take] at hLl
    have hnext : refL (p.rules.take (i + 1)) = refsAdd (refL (p.rules.take i)) (3, x2) := by rw [hsx, refL_snoc]
    rw [show (i, v).1 + 1 = i + 1 from rfl] at *
    generalize hLe : refL (p.rules.take i) = L at ho4 hL3 hLl hnext
    obtain ⟨al, cl, rfl, hcl, hatl⟩ := (SlR.of_own ho4).shape
    (repeat first | (apply wr_move; exact rfl; with_reducible (conv => enter [6, 3]; whnf)) | apply wr_end | apply wc_seq | apply wc_region | apply wc_skip | apply wc_block | (apply wr_fieldAddr; iterate 2 exact rfl) | (apply wr_len_slice; iterate 2 exact rfl) | (apply wr_load; (iterate 3 exact rfl); (focus repeat first | with_reducible assumption | exact heap_alloc_same _ _ | exact World.putObj_heap_same (by first | omega | (simp only [World.size_alloc, World.putObj_size, ne_eq]; omega)) | ((first | refine hAl ?_ ?_ | refine hPu ?_ ?_); focus first | omega | (simp only [World.size_alloc, World.putObj_size, ne_eq]; omega))); exact rfl; conv => enter [6, 3]; whnf) | (apply wr_cmp; (iterate 3 exact rfl); exact cmpT (by dsimp only [cmpP]; first | done | omega)) | (apply wc_true; exact rfl))
    refine wr_indexAddr (i := i) rfl rfl rfl hlt ?_
    refine wr_fieldAddr rfl rfl ?_
    refine wr_load (v := S x2) rfl rfl rfl hbb4 hx2 ?_
    refine wr_streqc (c := decide (x2 = [])) rfl rfl rfl rfl ?_
    (repeat first | (apply wr_assign; exact rfl; with_reducible (conv => enter [6, 3]; whnf)) | apply wr_end | apply wc_seq | apply wc_region | apply wc_block)
    refine wc_loopL (α := Nat) (fun k => [(3, .pointer (some ⟨pa, 0, none⟩)), (5, .slice al L.length cl), (6, .int .i64 (i : Int)), (7, .bool (decide (x2 = [] ∨ x2 ∈ (L.take k).map Prod.snd))), (8, .int .i64 (k : Int))])
      (fun k ds w' => ds = [] ∧ k ≤ L.length ∧ Keeps NoB w4 w') (fun k => L.length - k) 0 ⟨rfl, Nat.zero_le _, Keeps.refl _ _⟩ ⟨rfl, rfl, rfl, (by show Value.bool _ = Value.bool _; simp), rfl, trivial⟩ ?_
    rintro k ds f1 w5 ⟨rfl, hk, hk5⟩
    have hA5 := hk5.heap hA4 (fun h => h)
    have hbb5 := hk5.heap hbb4 (fun h => h)
    by_cases hlk : k < L.length
    · obtain ⟨bl, ol, rfl, curl, el, frl, hbl, hrl⟩ := hatl (by omega)
      have hbl5 := hk5.heap hbl (fun h => h)
      obtain ⟨⟨y1, y2⟩, hy⟩ : ∃ y, L[k]? = some y := ⟨L[k], by simp [hlk]⟩
      have hy2 : curl[ol + k * 2 + 1]? = some (S y2) := cell_elem (g := GK) (k := 2) (n := L.length) (i := k) (j := 1) GK_len hrl hlk hy rfl
      have hnx : decide (x2 = [] ∨ x2 ∈ (L.take (k + 1)).map Prod.snd) = (decide (x2 = [] ∨ x2 ∈ (L.take k).map Prod.snd) || decide (y2 = x2)) := by
        rw [List.take_add_one, hy, Bool.eq_iff_iff]
        simp only [Option.toList_some, List.map_append, List.map_cons, List.map_nil, List.mem_append, List.mem_singleton, decide_eq_true_eq, Bool.or_eq_true]
        rw [or_assoc, eq_comm (a := y2)]
      obtain ⟨nb, hnb⟩ : ∃ nb, nb = decide (x2 = [] ∨ x2 ∈ (L.take k).map Prod.snd) := ⟨_, rfl⟩
      rw [← hnb] at hnx ⊢
      (repeat first | (apply wr_move; exact rfl; with_reducible (conv => enter [6, 3]; whnf)) | apply wr_end | apply wc_seq | apply wc_region | apply wc_skip | apply wc_block | (apply wr_len_slice; iterate 2 exact rfl) | (apply wr_cmp; (iterate 3 exact rfl); exact cmpT (by dsimp only [cmpP]; first | done | omega)) | (apply wc_true; exact rfl))
      refine wc_drawS (l := _) (S := fun w' => w' = w5.drew) (by kernel_rfl) (by kernel_rfl) rfl ?_
      cases nb with
      | true =>
        repeat
          apply ch_step
          focus
            intro w' hS
            subst hS
            (repeat first | (apply wr_move; exact rfl; with_reducible (conv => enter [6, 3]; whnf)) | (apply wr_assign; exact rfl; with_reducible (conv => enter [6, 3]; whnf)) | (apply wr_pick (t := true); (iterate 2 exact rfl); with_reducible (conv => enter [6, 3]; whnf)) | (apply wr_nil; try simp only [thenE, inBlockE, bodyQ]) | (apply wr_skip; exact rfl))
            exact ⟨rfl, by trivial⟩
        refine ch_nil ?_
        intro w' hS
        subst hS
        (repeat first | (apply wr_move; exact rfl; with_reducible (conv => enter [6, 3]; whnf)) | (apply wr_assign; exact rfl; with_reducible (conv => enter [6, 3]; whnf)) | apply wr_end | apply wc_region | (apply wr_add; (iterate 3 exact rfl); exact w_fit (by dsimp only [kIn]; first | done | omega)))
        exact ⟨k + 1, by omega, ⟨by trivial, hlk, hk5.drew⟩, rfl, rfl, rfl, by rw [hnx]; rfl, by simp, trivial⟩
      | false =>
        apply ch_step
        focus
          intro w' hS
          subst hS
          apply wr_move; exact rfl; with_reducible (conv => enter [6, 3]; whnf)
          apply wr_nil
          exact ⟨rfl, rfl⟩
        apply ch_step
        focus
          intro w' hS
          subst hS
          apply wr_move; exact rfl; with_reducible (conv => enter [6, 3]; whnf)
          apply wr_nil
          exact ⟨rfl, rfl⟩
        apply ch_step
        focus
          intro w' hS
          subst hS
          apply wr_move; exact rfl; with_reducible (conv => enter [6, 3]; whnf)
          apply wr_nil
          exact ⟨rfl, rfl⟩
        apply ch_step
        focus
          intro w' hS
          subst hS
          apply wr_move; exact rfl; with_reducible (conv => enter [6, 3]; whnf)
          apply wr_nil
          exact ⟨rfl, rfl⟩
        apply ch_step
        focus
          intro w' hS
          subst hS
          refine wr_indexAddr (i := k) rfl rfl rfl hlk ?_
          apply wr_nil
          exact ⟨rfl, rfl⟩
        apply ch_step
        focus
          intro w' hS
          subst hS
          refine wr_fieldAddr rfl rfl ?_
          apply wr_nil
          exact ⟨rfl, rfl⟩
        apply ch_step
        focus
          intro w' hS
          subst hS
          refine wr_load (v := S y2) rfl rfl rfl hbl5 hy2 ?_
          apply wr_nil
          exact ⟨rfl, rfl⟩
        apply ch_step
        focus
          intro w' hS
          subst hS
          refine wr_fieldAddr rfl rfl ?_
          apply wr_nil
          exact ⟨rfl, rfl⟩
        apply ch_step
        focus
          intro w' hS
          subst hS
          refine wr_load (v := .slice (some ⟨b, o, none⟩) p.rules.length cr) rfl rfl rfl hA5 rfl ?_
          apply wr_nil
          exact ⟨rfl, rfl⟩
        apply ch_step
        focus
          intro w' hS
          subst hS
          apply wr_move; exact rfl; with_reducible (conv => enter [6, 3]; whnf)
          apply wr_nil
          exact ⟨rfl, rfl⟩
        apply ch_step
        focus
          intro w' hS
          subst hS
          refine wr_indexAddr (i := i) rfl rfl rfl hlt ?_
          apply wr_nil
          exact ⟨rfl, rfl⟩
        apply ch_step
        focus
          intro w' hS
          subst hS
          refine wr_fieldAddr rfl rfl ?_
          apply wr_nil
          exact ⟨rfl, rfl⟩
        apply ch_step
        focus
          intro w' hS
          subst hS
          refine wr_load (v := S x2) rfl rfl rfl hbb5 hx2 ?_
          apply wr_nil
          exact ⟨rfl, rfl⟩
        apply ch_step
        focus
          intro w' hS
          subst hS
          refine wr_streqc (c := decide (y2 = x2)) rfl rfl rfl rfl ?_
          apply wr_nil
          exact ⟨rfl, rfl⟩
        apply ch_step
        focus
          intro w' hS
          subst hS
          (repeat first | (apply wr_pick (t := false); (iterate 2 exact rfl); with_reducible (conv => enter [6, 3]; whnf)) | (apply wr_nil; try simp only [thenE, inBlockE, bodyQ]))
          exact ⟨rfl, by trivial⟩
        apply ch_step
        focus
          intro w' hS
          subst hS
          apply wr_assign; exact rfl; with_reducible (conv => enter [6, 3]; whnf)
          apply wr_nil
          exact ⟨rfl, rfl⟩
        refine ch_nil ?_
        intro w' hS
        subst hS
        (repeat first | (apply wr_move; exact rfl; with_reducible (conv => enter [6, 3]; whnf)) | (apply wr_assign; exact rfl; with_reducible (conv => enter [6, 3]; whnf)) | apply wr_end | apply wc_region | (apply wr_add; (iterate 3 exact rfl); exact w_fit (by dsimp only [kIn]; first | done | omega)))
        exact ⟨k + 1, by omega, ⟨by trivial, hlk, hk5.drew⟩, rfl, rfl, rfl, by rw [hnx]; rfl, by simp, trivial⟩
    · have he : k = L.length := by omega
      subst he
      rw [List.take_length]
      have ho5 := own_keep ho4 hk5 (fun _ _ h => h)
      have hsz5 := (hkw4.trans hk5).size
      by_cases hmet : x2 = [] ∨ x2 ∈ L.map Prod.snd
      · rw [decide_eq_true hmet]
        have hadd : refsAdd L (3, x2) = L := by
          unfold refsAdd
          rw [if_neg]
          rintro ⟨h1, h2⟩
          rcases hmet with h | h
          · exact h1 h
          · exact h2 ((three_mem hL3 x2).2 h)
        (repeat first | (apply wr_move; exact rfl; with_reducible (conv => enter [6, 3]; whnf)) | (apply wr_assign; exact rfl; with_reducible (conv => enter [6, 3]; whnf)) | apply wr_end | apply wc_seq | apply wc_region | apply wc_skip | (apply wr_not; iterate 2 exact rfl) | (apply wr_len_slice; iterate 2 exact rfl) | (apply wr_cmp; (iterate 3 exact rfl); exact cmpF (by dsimp only [cmpN]; first | done | omega)) | (apply wr_add; (iterate 3 exact rfl); exact w_fit (by dsimp only [kIn]; first | done | omega)) | (apply wc_false; exact rfl) | (apply wc_exit; try simp only [thenE, inBlockE, bodyQ, ↓reduceIte, Nat.reduceEqDiff]))
        exact ⟨(i + 1, .slice al L.length cl), by dsimp only; omega, ⟨by trivial, hlt, (by dsimp only; rw [hnext, hadd]; exact ho5), hk4.trans hk5, hkw4.trans hk5⟩, rfl, rfl, (by show Value.int .i64 _ = Value.int .i64 _; congr 1), trivial⟩
      · rw [decide_eq_false hmet]
        have hadd : refsAdd L (3, x2) = L ++ [(3, x2)] := by
          unfold refsAdd
          rw [if_pos ⟨fun h => hmet (.inl h), fun h => hmet (.inr ((three_mem hL3 x2).1 h))⟩]
        (repeat first | (apply wr_move; exact rfl; with_reducible (conv => enter [6, 3]; whnf)) | apply wr_end | apply wc_seq | apply wc_region | (apply wr_fieldAddr; iterate 2 exact rfl) | (apply wr_not; iterate 2 exact rfl) | (apply wr_len_slice; iterate 2 exact rfl) | (apply wr_load; (iterate 3 exact rfl); (focus repeat first | with_reducible assumption | exact heap_alloc_same _ _ | exact World.putObj_heap_same (by first | omega | (simp only [World.size_alloc, World.putObj_size, ne_eq]; omega)) | ((first | refine hAl ?_ ?_ | refine hPu ?_ ?_); focus first | omega | (simp only [World.size_alloc, World.putObj_size, ne_eq]; omega))); exact rfl; conv => enter [6, 3]; whnf) | (apply wr_cmp; (iterate 3 exact rfl); exact cmpF (by dsimp only [cmpN]; first | done | omega)) | (apply wc_true; exact rfl) | (apply wc_false; exact rfl) | (apply wc_exit; try simp only [thenE, inBlockE, bodyQ, ↓reduceIte, Nat.reduceEqDiff]))
        refine wr_indexAddr (i := i) rfl rfl rfl hlt ?_
        refine wr_fieldAddr rfl rfl ?_
        refine wr_load (v := S x2) rfl rfl rfl hbb5 hx2 ?_
        refine wr_build (ps := [(0, .int .i64 3), (1, S x2)]) (cs := GK (3, x2)) rfl rfl rfl rfl ?_
        refine wr_buildSlice (vs := [.agg (GK (3, x2)).toArray]) rfl rfl (by intro v hv; simp at hv; subst hv; rfl) rfl (by decide) (by decide) (by decide) ?_
        refine wr_append (v := .slice al L.length cl) (n := L.length) (m := 1) (news := GK (3, x2)) rfl rfl (ho5.alloc _) rfl (heap_alloc_same _ _) rfl (by intro u hu; simp [GK] at hu; rcases hu with rfl | rfl <;> rfl) rfl (by decide) (by omega) (by omega) (by simp only [World.size_alloc]; omega) ?_
        intro v6 w6 ho6 hk6 _
        have hk56 : Keeps NoB w w6 := Keeps.trans' ((hkw4.trans hk5).alloc _) hk6 (fun b hb e => by have := own_ge ho5 e; omega)
        have hk16 : Keeps NoB w1 w6 := Keeps.trans' ((hk4.trans hk5).alloc _) hk6 (fun b hb e => by have := own_ge ho5 e; omega)
        (repeat first | (apply wr_move; exact rfl; with_reducible (conv => enter [6, 3]; whnf)) | (apply wr_assign; exact rfl; with_reducible (conv => enter [6, 3]; whnf)) | apply wr_end | apply wc_region | (apply wr_add; (iterate 3 exact rfl); exact w_fit (by dsimp only [kIn]; first | done | omega)) | (apply wr_nil; try simp only [thenE, inBlockE, bodyQ]))
        exact ⟨(i + 1, v6), by dsimp only; omega, ⟨by trivial, hlt, (by dsimp only; rw [hnext, hadd, List.length_append, List.flatMap_append]; simpa using ho6), hk16, hk56⟩, rfl, rfl, (by show Value.int .i64 _ = Value.int .i64 _; congr 1), trivial⟩
  · have he : i = p.rules.length := by omega
    subst he
    rw [List.take_length] at ho4
    (repeat first | (apply wr_move; exact rfl; with_reducible (conv => enter [6, 3]; whnf)) | (apply wr_assign; exact rfl; with_reducible (conv => enter [6, 3]; whnf)) | apply wr_end | apply wc_seq | apply wc_region | (apply wr_fieldAddr; iterate 2 exact rfl) | (apply wr_len_slice; iterate 2 exact rfl) | (apply wr_load; (iterate 3 exact rfl); (focus repeat first | with_reducible assumption | exact heap_alloc_same _ _ | exact World.putObj_heap_same (by first | omega | (simp only [World.size_alloc, World.putObj_size, ne_eq]; omega)) | ((first | refine hAl ?_ ?_ | refine hPu ?_ ?_); focus first | omega | (simp only [World.size_alloc, World.putObj_size, ne_eq]; omega))); exact rfl; conv => enter [6, 3]; whnf) | (apply wr_cmp; (iterate 3 exact rfl); exact cmpF (by dsimp only [cmpN]; first | done | omega)) | (apply wc_false; exact rfl) | (apply wc_exit; try simp only [thenE, inBlockE, bodyQ, ↓reduceIte, Nat.reduceEqDiff]) | (apply wc_ret; try simp only [thenE, inBlockE, bodyQ]))
    exact leave1 (v := v) rfl rfl ⟨own_down ho4 (by omega), hkw4⟩
end Go.Proofs.YthlbgeonobicbaaDoor
