/- names.sorted. -/
import Derived.Test.YtajajahofkialaaGreatDoorNb
namespace Go.Proofs.YtajajahofkialaaGreatDoor
open Go Go.V Go.RowKit
set_option linter.unusedVariables false
set_option linter.unusedSimpArgs false

set_option maxRecDepth 100000 in
set_option maxHeartbeats 1000000 in
theorem cloneO_ca (l : TX) (sl : Value) (w : World) (hsl : SlR w 1 sl l.length (SL l)) (hlen : l.length ≤ 8796093022000) :
    Ca Tryz.prog 58 #[sl] w fun v w' => w'.ownsRow w.heap.size 9 1 v l.length (SL l) ∧ Keeps NoB w w' := by
  obtain ⟨a, c, rfl, hc, hat⟩ := slr_strs hsl
  refine ca_of_body (args := [.slice a l.length c]) Tryz.func58 rfl (by kernel_rfl) ?_
  (repeat first | (apply wr_move; exact rfl; with_reducible (conv => enter [6, 3]; whnf)) | (apply wr_assign; exact rfl; with_reducible (conv => enter [6, 3]; whnf)) | apply wr_end | apply wc_seq | apply wc_region)
  refine wr_slNil rfl rfl ?_
  cases a with
  | none =>
    have h0 : l = [] := by
      cases l with
      | nil => rfl
      | cons x l => obtain ⟨b, o, h, _⟩ := hat (by simp); cases h
    subst h0
    (repeat first | (apply wr_assign; exact rfl; with_reducible (conv => enter [6, 3]; whnf)) | apply wr_end | apply wc_seq | apply wc_region | (apply wc_true; exact rfl) | (apply wc_ret; try simp only [thenE, inBlockE, bodyQ]))
    exact leave1 (v := .slice none 0 0) rfl rfl ⟨own_nil _ _ _ _, Keeps.refl _ _⟩
  | some ad =>
    (repeat first | apply wr_end | apply wc_seq | apply wc_region | apply wc_skip | (apply wc_false; exact rfl))
    refine wr_buildSlice0 rfl ?_
    have ho : (w.alloc (.cells #[] 9)).ownsRow w.heap.size 9 1 (.slice (some ⟨w.heap.size, 0, none⟩) 0 0) 0 [] := ⟨rfl, .inr ⟨w.heap.size, 0, #[], rfl, Nat.le_refl _, heap_alloc_same _ _, Nat.le_refl _, by decide, rfl, rfl⟩⟩
    have hk1 : Keeps NoB w (w.alloc (.cells #[] 9)) := (Keeps.refl NoB w).alloc _
    refine wr_move rfl ?_
    refine wr_appendR (v := .slice (some ⟨w.heap.size, 0, none⟩) 0 0) (base := w.heap.size) (n := 0) (m := l.length) (xs := []) (news := SL l) rfl rfl ho rfl (hsl.keep hk1 (fun _ _ h => h)) (by intro u hu; simp [SL] at hu; obtain ⟨x, _, rfl⟩ := hu; rfl) rfl (by decide) (by omega) (by omega) (by simp) ?_
    intro v2 w2 ho2 hk2 _
    rw [Nat.zero_add, List.nil_append] at ho2
    (repeat first | (apply wr_assign; exact rfl; with_reducible (conv => enter [6, 3]; whnf)) | apply wr_end | (apply wc_ret; try simp only [thenE, inBlockE, bodyQ]))
    exact leave1 (v := v2) rfl rfl ⟨ho2, Keeps.trans' hk1 hk2 (fun i hi e => by cases e; exact absurd hi (Nat.lt_irrefl _))⟩
theorem own_less {w : World} {base n cap g m : Nat} {T : TypeId} {a b : TX} (h : w.ownsRow base T 1 (.slice (some ⟨g, 0, none⟩) n cap) n (SL (a ++ b))) (hm : a.length = m) : w.ownsRow base T 1 (.slice (some ⟨g, 0, none⟩) m cap) m (SL a) := by
  rcases h with ⟨hxl, ⟨h0, _⟩ | ⟨g', cap', cur, he, hg, hb, hn, hc, hcs, htk⟩⟩
  · cases h0
  cases he
  have hab : (a ++ b).length = n := by rw [SL_len] at hxl; omega
  rw [List.length_append] at hab
  refine ⟨by rw [SL_len]; omega, .inr ⟨g, cap, cur, rfl, hg, hb, by omega, hc, hcs, ?_⟩⟩
  have : SL a = (SL (a ++ b)).take m := by unfold SL; rw [List.map_append, List.take_left' (by simp [hm])]
  rw [this, ← htk, List.take_take, Nat.mul_one, Nat.mul_one, Nat.min_eq_left (by omega)]
theorem grow_nil (w : World) : Sort.grow w #[] = w := by
  unfold Sort.grow
  rw [Array.append_empty]
theorem sortNil_ca (w : World) : Ca Tryz.prog 76 #[.slice none 0 0] w fun r w' => r = .tuple #[] ∧ w' = w :=
  Ca.of_calls (Tryz.slices_Sort_string_none none 0 w) (fun e w' ⟨h1, h2⟩ => ⟨_, h1, rfl, h2⟩)
theorem compactNil_ca (w : World) : Ca Tryz.prog 77 #[.slice none 0 0] w fun r w' => r = .slice none 0 0 ∧ w' = w :=
  Ca.of_calls (Tryz.slices_Compact_string_empty none 0 w) (fun e w' ⟨h1, h2⟩ => ⟨_, h1, rfl, h2⟩)
theorem compact_ca {base n cap g : Nat} {l : TX} (w : World) (h : w.ownsRow base 9 1 (.slice (some ⟨g, 0, none⟩) n cap) n (SL l)) (hn : n < 4611686018427387904) :
    Ca Tryz.prog 77 #[.slice (some ⟨g, 0, none⟩) n cap] w fun r w' => r = .slice (some ⟨g, 0, none⟩) (Lib.compact l).length cap ∧ w'.ownsRow base 9 1 r (Lib.compact l).length (SL (Lib.compact l)) ∧ Keeps (fun k => (Value.slice (some ⟨g, 0, none⟩) n cap).ownBlock = some k) w w' := by
  have hll : l.length = n := by have := h.1; rw [SL_len] at this; omega
  have hcap : n ≤ cap := by
    rcases h with ⟨_, ⟨h0, _⟩ | ⟨g', cap', cur, he, _, _, hn, _⟩⟩
    · cases h0
    · cases he; exact hn
  have hc := Tryz.slices_Compact_string g 0 cap l w (own_holds h) (by omega) (by omega)
  rw [hll] at hc
  have hle := Lib.compact_length_le l
  refine Ca.of_calls hc (fun e w' ⟨h1, N, h2⟩ => ?_)
  obtain ⟨h3, h4⟩ := put_own (N := N) (os := #[]) (d := Lib.compact l ++ List.replicate (n - (Lib.compact l).length) []) h (by simp; omega)
  have e : Sort.grow (Sort.putRow encStr (Sort.ahead w N) g 0 (Lib.compact l ++ List.replicate (n - (Lib.compact l).length) []).toArray) #[] = w' := by rw [h2, grow_nil]
  rw [e] at h3 h4
  exact ⟨_, h1, rfl, own_less h3 rfl, h4⟩
def srtd (l : TX) : TX := Lib.compact (srt l)
theorem srtd_le (l : TX) : (srtd l).length ≤ l.length := by
  have h := Lib.compact_length_le (srt l)
  rw [srt_len] at h
  exact h
theorem srtd_nil : srtd [] = [] := List.eq_nil_of_length_eq_zero (Nat.le_zero.1 (srtd_le []))
set_option maxRecDepth 100000 in
set_option maxHeartbeats 1000000 in
theorem sorted_ca (l : TX) (sl : Value) (w : World) (hsl : SlR w 1 sl l.length (SL l)) (hlen : l.length ≤ 8796093022000) :
    Ca Tryz.prog 56 #[sl] w fun v w' => w'.ownsRow w.heap.size 9 1 v (srtd l).length (SL (srtd l)) ∧ Keeps NoB w w' := by
  refine ca_of_body (args := [sl]) Tryz.func56 rfl (by kernel_rfl) ?_
  (repeat first | (apply wr_move; exact rfl; with_reducible (conv => enter [6, 3]; whnf)) | (apply wr_assign; exact rfl; with_reducible (conv => enter [6, 3]; whnf)) | apply wr_end | apply wc_seq | apply wc_region)
  refine wr_call (vs := [sl]) rfl (cloneO_ca l sl w hsl hlen) rfl ?_
  rintro v w1 ⟨ho, hk⟩
  have hs1 := hk.size
  rcases ho with ⟨hxl, ⟨rfl, h0⟩ | ⟨g, cap, cur, rfl, hg, hb, hn, hc, hcs, htk⟩⟩
  · have hl : l = [] := List.length_eq_zero_iff.1 h0
    subst hl
    (repeat first | (apply wr_move; exact rfl; with_reducible (conv => enter [6, 3]; whnf)) | (apply wr_assign; exact rfl; with_reducible (conv => enter [6, 3]; whnf)) | apply wr_end | apply wc_seq | apply wc_region)
    refine wr_call (vs := [.slice none 0 0]) rfl (sortNil_ca w1) rfl ?_
    rintro r w2 ⟨rfl, rfl⟩
    (repeat first | (apply wr_move; exact rfl; with_reducible (conv => enter [6, 3]; whnf)) | apply wr_end | apply wc_seq | apply wc_region)
    refine wr_call (vs := [.slice none 0 0]) rfl (compactNil_ca w2) rfl ?_
    rintro r w3 ⟨rfl, rfl⟩
    (repeat first | (apply wr_assign; exact rfl; with_reducible (conv => enter [6, 3]; whnf)) | apply wr_end | (apply wc_ret; try simp only [thenE, inBlockE, bodyQ]))
    exact leave1 (v := .slice none 0 0) rfl rfl ⟨by rw [srtd_nil]; exact own_nil _ _ _ _, hk⟩
  · have ho1 : w1.ownsRow w.heap.size 9 1 (.slice (some ⟨g, 0, none⟩) l.length cap) l.length (SL l) := ⟨hxl, .inr ⟨g, cap, cur, rfl, hg, hb, hn, hc, hcs, htk⟩⟩
    (repeat first | (apply wr_move; exact rfl; with_reducible (conv => enter [6, 3]; whnf)) | (apply wr_assign; exact rfl; with_reducible (conv => enter [6, 3]; whnf)) | apply wr_end | apply wc_seq | apply wc_region)
    refine wr_call (vs := [.slice (some ⟨g, 0, none⟩) l.length cap]) rfl (sort_ca w1 ho1 (by omega)) rfl ?_
    rintro r w2 ⟨rfl, ho2, hk2⟩
    (repeat first | (apply wr_move; exact rfl; with_reducible (conv => enter [6, 3]; whnf)) | apply wr_end | apply wc_seq | apply wc_region)
    refine wr_call (vs := [.slice (some ⟨g, 0, none⟩) l.length cap]) rfl (compact_ca w2 ho2 (by omega)) rfl ?_
    rintro r w3 ⟨rfl, ho3, hk3⟩
    (repeat first | (apply wr_assign; exact rfl; with_reducible (conv => enter [6, 3]; whnf)) | apply wr_end | (apply wc_ret; try simp only [thenE, inBlockE, bodyQ]))
    refine leave1 (v := .slice (some ⟨g, 0, none⟩) (srtd l).length cap) rfl rfl ⟨ho3, Keeps.trans' hk (hk2.trans hk3) (fun i hi e => ?_)⟩
    have e' : g = i := by simpa [Value.ownBlock] using e
    omega
end Go.Proofs.YtajajahofkialaaGreatDoor
