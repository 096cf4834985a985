/- names.sorted: Sort and Compact of an own row of texts. -/
import Derived.Test.YtajajahofkialaaGreatDoorNa
import Derived.Test.YtajajahofkialaaGreatDoorShelf
import Derived.Lib.SliceRun
namespace Go.Proofs.YtajajahofkialaaGreatDoor
open Go Go.V Go.RowKit
set_option linter.unusedVariables false
set_option linter.unusedSimpArgs false

theorem put_cells {cur : Array Value} {d : TX} (h : d.length ≤ cur.size) : (Sort.putCells encStr 0 d.toArray cur).size = cur.size ∧ (Sort.putCells encStr 0 d.toArray cur).toList.take d.length = SL d := by
  have hs : (Sort.putCells encStr 0 d.toArray cur).size = cur.size := by simp [Sort.putCells]
  refine ⟨hs, ?_⟩
  apply List.ext_getElem?
  intro i
  by_cases hi : i < d.length
  · rw [List.getElem?_take_of_lt hi]
    have h1 : i < cur.size := by omega
    have h2 : (SL d)[i]? = some (S d[i]) := SL_get (by simp [hi])
    rw [h2]
    simp [Sort.putCells, h1, hi, encStr, getElem!_pos]
  · rw [List.getElem?_eq_none (by simp; omega), List.getElem?_eq_none (by rw [SL_len]; omega)]
theorem put_own {w : World} {base n cap g N : Nat} {os : Array Obj} {T : TypeId} {l d : TX} (h : w.ownsRow base T 1 (.slice (some ⟨g, 0, none⟩) n cap) n (SL l)) (hd : d.length = n) :
    (Sort.grow (Sort.putRow encStr (Sort.ahead w N) g 0 d.toArray) os).ownsRow base T 1 (.slice (some ⟨g, 0, none⟩) n cap) n (SL d) ∧ Keeps (fun k => (Value.slice (some ⟨g, 0, none⟩) n cap).ownBlock = some k) w (Sort.grow (Sort.putRow encStr (Sort.ahead w N) g 0 d.toArray) os) := by
  rcases h with ⟨hxl, ⟨h0, _⟩ | ⟨g', cap', cur, he, hg, hb, hn, hc, hcs, htk⟩⟩
  · cases h0
  cases he
  have hlt := lt_of_heap hb
  have hsz : (Sort.putRow encStr (Sort.ahead w N) g 0 d.toArray).heap.size = w.heap.size := by rw [Sort.size_putRow]; rfl
  have hp := put_cells (cur := cur) (d := d) (by omega)
  have hb' : (Sort.putRow encStr (Sort.ahead w N) g 0 d.toArray).heap[g]? = some (.cells (Sort.putCells encStr 0 d.toArray cur) T (0, 0)) := by
    show (w.heap.modify g (Sort.onCells _))[g]? = _
    rw [Array.getElem?_modify, if_pos rfl, hb]; rfl
  have hgr : ∀ k, k < w.heap.size → (Sort.grow (Sort.putRow encStr (Sort.ahead w N) g 0 d.toArray) os).heap[k]? = (Sort.putRow encStr (Sort.ahead w N) g 0 d.toArray).heap[k]? := fun k hk => Array.getElem?_append_left (by rw [hsz]; exact hk)
  refine ⟨⟨by rw [SL_len]; omega, .inr ⟨g, cap, _, rfl, hg, (hgr g hlt).trans hb', hn, hc, by rw [hp.1]; exact hcs, by rw [Nat.mul_one, ← hd]; exact hp.2⟩⟩, rfl, rfl, rfl, ?_, fun k hk hne => ?_⟩
  · show w.heap.size ≤ (_ ++ os).size
    rw [Array.size_append, hsz]; omega
  · rw [hgr k hk]
    show (w.heap.modify g (Sort.onCells _))[k]? = _
    rw [Array.getElem?_modify, if_neg (fun e => hne (by rw [← e]; rfl))]
theorem own_holds {w : World} {base n cap g : Nat} {T : TypeId} {l : TX} (h : w.ownsRow base T 1 (.slice (some ⟨g, 0, none⟩) n cap) n (SL l)) : Sort.Holds encStr w g 0 l.toArray := by
  intro j hj
  have hj' : j < l.length := by simpa using hj
  refine ⟨?_, ?_⟩
  · rcases h with ⟨hxl, ⟨h0, _⟩ | ⟨g', cap', cur, he, hg, hb, hn, hc, hcs, htk⟩⟩
    · cases h0
    cases he
    have hll : l.length = n := by rw [SL_len] at hxl; omega
    have h1 : (SL l)[j]? = some (S l[j]) := SL_get (by simp [hj'])
    rw [← htk, List.getElem?_take_of_lt (by omega)] at h1
    have h2 : cur[0 + j]? = some (S l[j]) := by rw [Nat.zero_add]; simpa using h1
    have h3 := cell_of_heap hb h2
    rw [h3]
    simp [hj', encStr, getElem!_pos]
  · rw [Nat.zero_add]; exact World.ownsRow.frozenAt h j
def srt (l : TX) : TX := l.mergeSort fun x y => decide (x ≤ y)
theorem srt_len (l : TX) : (srt l).length = l.length := List.length_mergeSort l
theorem sort_ca {base n cap g : Nat} {l : TX} (w : World) (h : w.ownsRow base 9 1 (.slice (some ⟨g, 0, none⟩) n cap) n (SL l)) (hn : n < 4611686018427387904) :
    Ca Tryz.prog 76 #[.slice (some ⟨g, 0, none⟩) n cap] w fun r w' => r = .tuple #[] ∧ w'.ownsRow base 9 1 (.slice (some ⟨g, 0, none⟩) n cap) n (SL (srt l)) ∧ Keeps (fun k => (Value.slice (some ⟨g, 0, none⟩) n cap).ownBlock = some k) w w' := by
  have hll : l.length = n := by have := h.1; rw [SL_len] at this; omega
  have hlt : g < w.heap.size := (h.lt g rfl).2
  have hc := Tryz.slices_Sort_string g 0 cap l w (own_holds h) hlt (by omega)
  rw [hll] at hc
  refine Ca.of_calls hc (fun e w' ⟨h1, N, os, h2⟩ => ?_)
  obtain ⟨h3, h4⟩ := put_own (N := N) (os := os) (d := srt l) h (by rw [srt_len]; exact hll)
  exact ⟨_, h1, rfl, by rw [h2]; exact h3, by rw [h2]; exact h4⟩
end Go.Proofs.YtajajahofkialaaGreatDoor

namespace Go.Proofs.YtajajahofkialaaGreatDoor
open Go Go.V Go.RowKit
set_option linter.unusedVariables false
set_option linter.unusedSimpArgs false

set_option maxRecDepth 100000 in
set_option maxHeartbeats 1000000 in
theorem cloneO_ca (l : TX) (sl : Value) (w : World) (hsl : SlR w 1 sl l.length (SL l)) (hlen : l.length ≤ 8796093022000) :
    Ca Tryz.prog 58 #[sl] w fun v w' => w'.ownsRow w.heap.size 9 1 v l.length (SL l) ∧ Keeps NoB w w' := by
  obtain ⟨a, c, rfl, hc, hat⟩ := slr_strs hsl
  refine ca_of_body (args := [.slice a l.length c]) Tryz.func58 rfl (by kernel_rfl) ?_
  (repeat first | (apply wr_move; exact rfl; with_reducible (conv => enter [6, 3]; whnf)) | (apply wr_assign; exact rfl; with_reducible (conv => enter [6, 3]; whnf)) | apply wr_end | apply wc_seq | apply wc_region)
  refine wr_slNil rfl rfl ?_
  cases a with
  | none =>
    have h0 : l = [] := by
      cases l with
      | nil => rfl
      | cons x l => obtain ⟨b, o, h, _⟩ := hat (by simp); cases h
    subst h0
    (repeat first | (apply wr_assign; exact rfl; with_reducible (conv => enter [6, 3]; whnf)) | apply wr_end | apply wc_seq | apply wc_region | (apply wc_true; exact rfl) | (apply wc_ret; try simp only [thenE, inBlockE, bodyQ]))
    exact leave1 (v := .slice none 0 0) rfl rfl ⟨own_nil _ _ _ _, Keeps.refl _ _⟩
  | some ad =>
    (repeat first | apply wr_end | apply wc_seq | apply wc_region | apply wc_skip | (apply wc_false; exact rfl))
    refine wr_buildSlice0 rfl ?_
    have ho : (w.alloc (.cells #[] 9)).ownsRow w.heap.size 9 1 (.slice (some ⟨w.heap.size, 0, none⟩) 0 0) 0 [] := ⟨rfl, .inr ⟨w.heap.size, 0, #[], rfl, Nat.le_refl _, heap_alloc_same _ _, Nat.le_refl _, by decide, rfl, rfl⟩⟩
    have hk1 : Keeps NoB w (w.alloc (.cells #[] 9)) := (Keeps.refl NoB w).alloc _
    refine wr_move rfl ?_
    refine wr_appendR (v := .slice (some ⟨w.heap.size, 0, none⟩) 0 0) (base := w.heap.size) (n := 0) (m := l.length) (xs := []) (news := SL l) rfl rfl ho rfl (hsl.keep hk1 (fun _ _ h => h)) (by intro u hu; simp [SL] at hu; obtain ⟨x, _, rfl⟩ := hu; rfl) rfl (by decide) (by omega) (by omega) (by simp) ?_
    intro v2 w2 ho2 hk2 _
    rw [Nat.zero_add, List.nil_append] at ho2
    (repeat first | (apply wr_assign; exact rfl; with_reducible (conv => enter [6, 3]; whnf)) | apply wr_end | (apply wc_ret; try simp only [thenE, inBlockE, bodyQ]))
    exact leave1 (v := v2) rfl rfl ⟨ho2, Keeps.trans' hk1 hk2 (fun i hi e => by cases e; exact absurd hi (Nat.lt_irrefl _))⟩
theorem own_less {w : World} {base n cap g m : Nat} {T : TypeId} {a b : TX} (h : w.ownsRow base T 1 (.slice (some ⟨g, 0, none⟩) n cap) n (SL (a ++ b))) (hm : a.length = m) : w.ownsRow base T 1 (.slice (some ⟨g, 0, none⟩) m cap) m (SL a) := by
  rcases h with ⟨hxl, ⟨h0, _⟩ | ⟨g', cap', cur, he, hg, hb, hn, hc, hcs, htk⟩⟩
  · cases h0
  cases he
  have hab : (a ++ b).length = n := by rw [SL_len] at hxl; omega
  rw [List.length_append] at hab
  refine ⟨by rw [SL_len]; omega, .inr ⟨g, cap, cur, rfl, hg, hb, by omega, hc, hcs, ?_⟩⟩
  have : SL a = (SL (a ++ b)).take m := by unfold SL; rw [List.map_append, List.take_left' (by simp [hm])]
  rw [this, ← htk, List.take_take, Nat.mul_one, Nat.mul_one, Nat.min_eq_left (by omega)]
theorem grow_nil (w : World) : Sort.grow w #[] = w := by
  unfold Sort.grow
  rw [Array.append_empty]
theorem sortNil_ca (w : World) : Ca Tryz.prog 76 #[.slice none 0 0] w fun r w' => r = .tuple #[] ∧ w' = w :=
  Ca.of_calls (Tryz.slices_Sort_string_none none 0 w) (fun e w' ⟨h1, h2⟩ => ⟨_, h1, rfl, h2⟩)
theorem compactNil_ca (w : World) : Ca Tryz.prog 77 #[.slice none 0 0] w fun r w' => r = .slice none 0 0 ∧ w' = w :=
  Ca.of_calls (Tryz.slices_Compact_string_empty none 0 w) (fun e w' ⟨h1, h2⟩ => ⟨_, h1, rfl, h2⟩)
theorem compact_ca {base n cap g : Nat} {l : TX} (w : World) (h : w.ownsRow base 9 1 (.slice (some ⟨g, 0, none⟩) n cap) n (SL l)) (hn : n < 4611686018427387904) :
    Ca Tryz.prog 77 #[.slice (some ⟨g, 0, none⟩) n cap] w fun r w' => r = .slice (some ⟨g, 0, none⟩) (Lib.compact l).length cap ∧ w'.ownsRow base 9 1 r (Lib.compact l).length (SL (Lib.compact l)) ∧ Keeps (fun k => (Value.slice (some ⟨g, 0, none⟩) n cap).ownBlock = some k) w w' := by
  have hll : l.length = n := by have := h.1; rw [SL_len] at this; omega
  have hcap : n ≤ cap := by
    rcases h with ⟨_, ⟨h0, _⟩ | ⟨g', cap', cur, he, _, _, hn, _⟩⟩
    · cases h0
    · cases he; exact hn
  have hc := Tryz.slices_Compact_string g 0 cap l w (own_holds h) (by omega) (by omega)
  rw [hll] at hc
  have hle := Lib.compact_length_le l
  refine Ca.of_calls hc (fun e w' ⟨h1, N, h2⟩ => ?_)
  obtain ⟨h3, h4⟩ := put_own (N := N) (os := #[]) (d := Lib.compact l ++ List.replicate (n - (Lib.compact l).length) []) h (by simp; omega)
  have e : Sort.grow (Sort.putRow encStr (Sort.ahead w N) g 0 (Lib.compact l ++ List.replicate (n - (Lib.compact l).length) []).toArray) #[] = w' := by rw [h2, grow_nil]
  rw [e] at h3 h4
  exact ⟨_, h1, rfl, own_less h3 rfl, h4⟩
def srtd (l : TX) : TX := Lib.compact (srt l)
theorem srtd_le (l : TX) : (srtd l).length ≤ l.length := by
  have h := Lib.compact_length_le (srt l)
  rw [srt_len] at h
  exact h
theorem srtd_nil : srtd [] = [] := List.eq_nil_of_length_eq_zero (Nat.le_zero.1 (srtd_le []))
set_option maxRecDepth 100000 in
set_option maxHeartbeats 1000000 in
theorem sorted_ca (l : TX) (sl : Value) (w : World) (hsl : SlR w 1 sl l.length (SL l)) (hlen : l.length ≤ 8796093022000) :
    Ca Tryz.prog 56 #[sl] w fun v w' => w'.ownsRow w.heap.size 9 1 v (srtd l).length (SL (srtd l)) ∧ Keeps NoB w w' := by
  refine ca_of_body (args := [sl]) Tryz.func56 rfl (by kernel_rfl) ?_
  (repeat first | (apply wr_move; exact rfl; with_reducible (conv => enter [6, 3]; whnf)) | (apply wr_assign; exact rfl; with_reducible (conv => enter [6, 3]; whnf)) | apply wr_end | apply wc_seq | apply wc_region)
  refine wr_call (vs := [sl]) rfl (cloneO_ca l sl w hsl hlen) rfl ?_
  rintro v w1 ⟨ho, hk⟩
  have hs1 := hk.size
  rcases ho with ⟨hxl, ⟨rfl, h0⟩ | ⟨g, cap, cur, rfl, hg, hb, hn, hc, hcs, htk⟩⟩
  · have hl : l = [] := List.length_eq_zero_iff.1 h0
    subst hl
    (repeat first | (apply wr_move; exact rfl; with_reducible (conv => enter [6, 3]; whnf)) | (apply wr_assign; exact rfl; with_reducible (conv => enter [6, 3]; whnf)) | apply wr_end | apply wc_seq | apply wc_region)
    refine wr_call (vs := [.slice none 0 0]) rfl (sortNil_ca w1) rfl ?_
    rintro r w2 ⟨rfl, rfl⟩
    (repeat first | (apply wr_move; exact rfl; with_reducible (conv => enter [6, 3]; whnf)) | apply wr_end | apply wc_seq | apply wc_region)
    refine wr_call (vs := [.slice none 0 0]) rfl (compactNil_ca w2) rfl ?_
    rintro r w3 ⟨rfl, rfl⟩
    (repeat first | (apply wr_assign; exact rfl; with_reducible (conv => enter [6, 3]; whnf)) | apply wr_end | (apply wc_ret; try simp only [thenE, inBlockE, bodyQ]))
    exact leave1 (v := .slice none 0 0) rfl rfl ⟨by rw [srtd_nil]; exact own_nil _ _ _ _, hk⟩
  · have ho1 : w1.ownsRow w.heap.size 9 1 (.slice (some ⟨g, 0, none⟩) l.length cap) l.length (SL l) := ⟨hxl, .inr ⟨g, cap, cur, rfl, hg, hb, hn, hc, hcs, htk⟩⟩
    (repeat first | (apply wr_move; exact rfl; with_reducible (conv => enter [6, 3]; whnf)) | (apply wr_assign; exact rfl; with_reducible (conv => enter [6, 3]; whnf)) | apply wr_end | apply wc_seq | apply wc_region)
    refine wr_call (vs := [.slice (some ⟨g, 0, none⟩) l.length cap]) rfl (sort_ca w1 ho1 (by omega)) rfl ?_
    rintro r w2 ⟨rfl, ho2, hk2⟩
    (repeat first | (apply wr_move; exact rfl; with_reducible (conv => enter [6, 3]; whnf)) | apply wr_end | apply wc_seq | apply wc_region)
    refine wr_call (vs := [.slice (some ⟨g, 0, none⟩) l.length cap]) rfl (compact_ca w2 ho2 (by omega)) rfl ?_
    rintro r w3 ⟨rfl, ho3, hk3⟩
    (repeat first | (apply wr_assign; exact rfl; with_reducible (conv => enter [6, 3]; whnf)) | apply wr_end | (apply wc_ret; try simp only [thenE, inBlockE, bodyQ]))
    refine leave1 (v := .slice (some ⟨g, 0, none⟩) (srtd l).length cap) rfl rfl ⟨ho3, Keeps.trans' hk (hk2.trans hk3) (fun i hi e => ?_)⟩
    have e' : g = i := by simpa [Value.ownBlock] using e
    omega
end Go.Proofs.YtajajahofkialaaGreatDoor

namespace Go.V
open Go Go.RowKit
section ops
variable {P : Program} {ops : Array Oper} {Q : Post} {ds : List Deferred} {f : Env} {w w' : World} {rest : List Oper}
variable {d : Option Nat} {ty : TypeId} {pos : String} {af : Array Edge} {g : Option (Nat × Bool)}
theorem wr_clearS0 {t e : TypeId} {x : Operand} {a : Option Addr} {c : Nat} [U : Und P t (.slice e)] (hw : wantedE ops f ⟨d, .call { callee := .builtin .clear, args := #[x], argTypes := #[t] }, ty, pos, af, g⟩ = true) (hx : ev f x = .slice a 0 c)
    (kk : Wr P ops Q ds rest (setO f d (.tuple #[])) w) : Wr P ops Q ds (⟨d, .call { callee := .builtin .clear, args := #[x], argTypes := #[t] }, ty, pos, af, g⟩ :: rest) f w := by
  refine wr_val (v := .tuple #[]) (w' := w) hw ?_ kk
  simp only [execOp, resolve, invoke, builtin, Builtin.clear_, Sem.run_bind, Sem.run_pure, Result.andThen_ok, List.map_toArray, List.map_cons, List.map_nil, hx, List.getElem?_toArray, List.getElem?_cons_zero, run_und U]
  cases a <;> rfl
theorem setRow_put {w : World} {b : Nat} {cur cur' : Array Value} {e : TypeId} (hb : w.heap[b]? = some (.cells cur e (0, 0))) : w.setRow b cur' = w.putObj b (.cells cur' e (0, 0)) := by
  obtain ⟨hlt, hwb⟩ := Array.getElem?_eq_some_iff.1 hb
  unfold World.setRow World.putObj
  congr 1
  apply Array.ext_getElem?
  intro i
  rw [Array.getElem?_modify, Array.getElem?_setIfInBounds]
  by_cases e : b = i
  · subst e; simp [hlt, hwb]
  · simp [e]
/-- clear of a slice of one-cell elements: what lies ahead of it stays. -/
theorem wr_clearS {t e e' : TypeId} {z : Value} {by' : Nat} {x : Operand} {b o n c : Nat} {cur : Array Value} [U : Und P t (.slice e)] [I : Info P e z 1 by'] (hw : wantedE ops f ⟨d, .call { callee := .builtin .clear, args := #[x], argTypes := #[t] }, ty, pos, af, g⟩ = true) (hx : ev f x = .slice (some ⟨b, o, none⟩) n c)
    (hb : w.heap[b]? = some (.cells cur e' (0, 0))) (hz : z.cells = #[z]) (h1 : z.oneCell' = true) (hn : 0 < n) (hl : o + n ≤ cur.size)
    (kk : ∀ cur' : Array Value, cur'.size = cur.size → (∀ j, j < o → cur'[j]? = cur[j]?) → Wr P ops Q ds rest (setO f d (.tuple #[])) (w.putObj b (.cells cur' e' (0, 0)))) : Wr P ops Q ds (⟨d, .call { callee := .builtin .clear, args := #[x], argTypes := #[t] }, ty, pos, af, g⟩ :: rest) f w := by
  have hzc : (Builtin.zeroCells z.cells n).toList = List.replicate n z := by
    rw [hz]
    simp [Builtin.zeroCells]
    apply List.ext_getElem
    · simp
    · intro i h1 h2
      simp [Nat.mod_one]
  have hst := run_storeCells_at P b o e' (List.replicate n z) 0 cur w hb (by simp; omega) (by intro v hv; rw [List.eq_of_mem_replicate hv]; exact h1)
  rw [setRow_put hb] at hst
  refine wr_val (v := .tuple #[]) hw ?_ (kk (cur.toList.take (o + 0) ++ List.replicate n z ++ cur.toList.drop (o + 0 + (List.replicate n z).length)).toArray ?_ ?_)
  · obtain ⟨m, rfl⟩ : ∃ m, n = m + 1 := ⟨n - 1, by omega⟩
    simp only [execOp, resolve, invoke, builtin, Builtin.clear_, Sem.run_bind, Sem.run_pure, Result.andThen_ok, List.map_toArray, List.map_cons, List.map_nil, hx, List.getElem?_toArray, List.getElem?_cons_zero, run_und U, run_zero I, hzc, hst]
  · simp; omega
  · intro j hj
    rw [List.getElem?_toArray, List.append_assoc, List.getElem?_append_left (by rw [List.length_take, Array.length_toList]; omega), List.getElem?_take_of_lt (by omega)]
    simp
end ops
end Go.V

namespace Go.Proofs.YtajajahofkialaaGreatDoor
open Go Go.V Go.RowKit
set_option linter.unusedVariables false
set_option linter.unusedSimpArgs false

def keepF (p : List UInt8 → Bool) (l : TX) : TX := l.filter fun x => !p x
theorem keepF_snoc (p : List UInt8 → Bool) (l : TX) {j : Nat} {x : List UInt8} (h : l[j]? = some x) : keepF p (l.take (j + 1)) = keepF p (l.take j) ++ if p x = true then [] else [x] := by
  unfold keepF
  rw [List.take_add_one, h, List.filter_append]
  cases hp : p x <;> simp [hp]
theorem keepF_le (p : List UInt8 → Bool) (l : TX) (j : Nat) : (keepF p (l.take j)).length ≤ j := by
  have h1 := List.length_filter_le (fun x => !p x) (l.take j)
  unfold keepF
  rw [List.length_take] at h1
  omega
set_option maxRecDepth 100000 in
set_option maxHeartbeats 2000000 in
theorem deleteFunc_ca (p : List UInt8 → Bool) (dv : Value) {base n cap g : Nat} {l : TX} (w : World) (h : w.ownsRow base 9 1 (.slice (some ⟨g, 0, none⟩) n cap) n (SL l)) (hn : n ≤ 8796093022000)
    (hf : ∀ x ∈ l, ∀ w', Keeps (· = g) w w' → CallV Tryz.prog dv #[S x] w' fun v w'' => v = .bool (p x) ∧ Keeps NoB w' w'') :
    Ca Tryz.prog 57 #[.slice (some ⟨g, 0, none⟩) n cap, dv] w fun r w' => r = .slice (some ⟨g, 0, none⟩) (keepF p l).length cap ∧ w'.ownsRow base 9 1 r (keepF p l).length (SL (keepF p l)) ∧ Keeps (· = g) w w' := by
  have hll : l.length = n := by have := h.1; rw [SL_len] at this; omega
  subst hll
  have hsl : SlR w 1 (.slice (some ⟨g, 0, none⟩) l.length cap) l.length (SL l) := SlR.of_own h
  refine ca_of_body (args := [.slice (some ⟨g, 0, none⟩) l.length cap, dv]) Tryz.func57 rfl (by kernel_rfl) ?_
  (repeat first | (apply wr_move; exact rfl; with_reducible (conv => enter [6, 3]; whnf)) | (apply wr_assign; exact rfl; with_reducible (conv => enter [6, 3]; whnf)) | apply wr_end | apply wc_seq | apply wc_region)
  refine wr_call (vs := [.slice (some ⟨g, 0, none⟩) l.length cap, dv]) rfl
    (indexFuncS_ca l dv _ (fun i w' => keepF p (l.take i) = l.take i ∧ Keeps NoB w w') (fun i w' => keepF p (l.take i) = l.take i ∧ (∃ x, l[i]? = some x ∧ p x = true) ∧ Keeps NoB w w') w (by omega) ⟨rfl, Keeps.refl _ _⟩ (fun i w' hI => hsl.keep hI.2 (fun _ _ h => h)) ?_) rfl ?_
  · rintro i x w' hx ⟨hI, hk⟩
    refine (hf x (List.mem_of_getElem? hx) w' hk.upD).mono ?_
    rintro v w'' ⟨rfl, hk'⟩
    refine ⟨p x, rfl, ?_⟩
    cases hp : p x with
    | true => exact .inl ⟨rfl, hI, ⟨x, hx, hp⟩, hk.trans hk'⟩
    | false =>
      refine .inr ⟨rfl, ?_, hk.trans hk'⟩
      rw [keepF_snoc p l hx, hp, if_neg (by decide), hI, List.take_add_one, hx]; rfl
  rintro v w2 (⟨i, rfl, hi, hI, ⟨x0, hx0, hp0⟩, hk2⟩ | ⟨rfl, hI, hk2⟩)
  rotate_left
  · rw [List.take_length] at hI
    rw [hI]
    (repeat first | (apply wr_move; exact rfl; with_reducible (conv => enter [6, 3]; whnf)) | (apply wr_assign; exact rfl; with_reducible (conv => enter [6, 3]; whnf)) | apply wr_end | apply wc_seq | apply wc_region | (apply wr_cmp; (iterate 3 exact rfl); exact cmpT (by dsimp only [cmpP]; first | done | omega)) | (apply wc_true; exact rfl) | (apply wc_ret; try simp only [thenE, inBlockE, bodyQ]))
    exact leave1 (v := .slice (some ⟨g, 0, none⟩) l.length cap) rfl rfl ⟨rfl, own_keep h hk2 (fun _ _ h => h), hk2.upD⟩
  obtain ⟨cur, hb, hcap, hcs, hat⟩ : ∃ cur, w.heap[g]? = some (.cells cur 9 (0, 0)) ∧ l.length ≤ cap ∧ cap ≤ cur.size ∧ ∀ q x, l[q]? = some x → cur[q]? = some (S x) := by
    rcases h with ⟨hxl, ⟨h0, _⟩ | ⟨g', cap', cur, he, hg, hb, hn', hc, hcs, htk⟩⟩
    · cases h0
    cases he
    refine ⟨cur, hb, hn', by omega, fun q x hq => ?_⟩
    have h1 := SL_get hq
    have hql := (List.getElem?_eq_some_iff.1 hq).1
    rw [← htk, List.getElem?_take_of_lt (by omega)] at h1
    simpa using h1
  have hK0 : keepF p (l.take (i + 1)) = l.take i := by rw [keepF_snoc p l hx0, if_pos hp0, List.append_nil, hI]
  have hKl : (keepF p (l.take (i + 1))).length = i := by rw [hK0, List.length_take]; omega
  (repeat first | (apply wr_move; exact rfl; with_reducible (conv => enter [6, 3]; whnf)) | (apply wr_assign; exact rfl; with_reducible (conv => enter [6, 3]; whnf)) | apply wr_end | apply wc_seq | apply wc_region | apply wc_skip | apply wc_block | (apply wr_cmp; (iterate 3 exact rfl); exact cmpF (by dsimp only [cmpN]; first | done | omega)) | (apply wr_add; (iterate 3 exact rfl); exact w_fit (by dsimp only [kIn]; first | done | omega)) | (apply wc_false; exact rfl))
  refine wc_loopL (α := Nat) (fun j => [(0, .slice (some ⟨g, 0, none⟩) l.length cap), (1, dv), (5, .int .i64 ((keepF p (l.take j)).length : Int)), (6, .int .i64 (j : Int))])
    (fun j ds w' => ds = [] ∧ j ≤ l.length ∧ (keepF p (l.take j)).length < j ∧ (∃ cur', w'.heap[g]? = some (.cells cur' 9 (0, 0)) ∧ cur'.size = cur.size ∧ (∀ q x, (keepF p (l.take j))[q]? = some x → cur'[q]? = some (S x)) ∧ (∀ q x, j ≤ q → l[q]? = some x → cur'[q]? = some (S x))) ∧ Keeps (· = g) w w') (fun j => l.length - j) (i + 1)
    ⟨rfl, hi, by omega, ⟨cur, hk2.heap hb (fun h => h), rfl, fun q x hq => by
      rw [hK0] at hq
      have hql := (List.getElem?_eq_some_iff.1 hq).1
      rw [List.length_take] at hql
      rw [List.getElem?_take_of_lt (by omega)] at hq
      exact hat q x hq, fun q x _ hq => hat q x hq⟩, hk2.upD⟩ ⟨rfl, rfl, by rw [hKl], by simp, trivial⟩ ?_
  rintro j ds f0 w3 ⟨rfl, hj, hKj, ⟨cur', hb3, hs3, hka, hkb⟩, hk3⟩
  by_cases hjl : j < l.length
  · obtain ⟨x, hx⟩ : ∃ x, l[j]? = some x := ⟨l[j], by simp [hjl]⟩
    have hsn := keepF_snoc p l hx
    (repeat first | (apply wr_move; exact rfl; with_reducible (conv => enter [6, 3]; whnf)) | apply wr_end | apply wc_seq | apply wc_region | apply wc_skip | apply wc_block | (apply wr_len_slice; iterate 2 exact rfl) | (apply wr_cmp; (iterate 3 exact rfl); exact cmpT (by dsimp only [cmpP]; first | done | omega)) | (apply wc_true; exact rfl))
    refine wr_indexAddr (i := j) rfl rfl rfl hjl ?_
    refine wr_load (v := S x) rfl rfl rfl hb3 (by rw [Nat.zero_add, Nat.mul_one]; exact hkb j x (Nat.le_refl _) hx) ?_
    (repeat first | (apply wr_move; exact rfl; with_reducible (conv => enter [6, 3]; whnf)) | (apply wr_assign; exact rfl; with_reducible (conv => enter [6, 3]; whnf)) | apply wr_end | apply wc_seq | apply wc_region)
    refine wr_callv (vs := [S x]) rfl (hf x (List.mem_of_getElem? hx) w3 hk3) rfl rfl ?_
    rintro v w4 ⟨rfl, hk4⟩
    have hb4 := hk4.heap hb3 (fun h => h)
    cases hp : p x with
    | true =>
      rw [hp, if_pos rfl, List.append_nil] at hsn
      (repeat first | (apply wr_move; exact rfl; with_reducible (conv => enter [6, 3]; whnf)) | (apply wr_assign; exact rfl; with_reducible (conv => enter [6, 3]; whnf)) | apply wr_end | apply wc_region | apply wc_skip | (apply wr_not; iterate 2 exact rfl) | (apply wr_add; (iterate 3 exact rfl); exact w_fit (by dsimp only [kIn]; first | done | omega)) | (apply wc_false; exact rfl))
      exact ⟨j + 1, by omega, ⟨by trivial, hjl, by rw [hsn]; omega, ⟨cur', hb4, hs3, (fun q y hq => hka q y (by rw [← hsn]; exact hq)), fun q y hq hy => hkb q y (by omega) hy⟩, hk3.trans hk4.upD⟩, rfl, rfl, by rw [hsn], by simp, trivial⟩
    | false =>
      rw [hp, if_neg (by decide)] at hsn
      obtain ⟨u, hu⟩ : ∃ u, cur'[(keepF p (l.take j)).length]? = some u := ⟨cur'[(keepF p (l.take j)).length]'(by omega), by simp [show (keepF p (l.take j)).length < cur'.size by omega]⟩
      (repeat first | (apply wr_move; exact rfl; with_reducible (conv => enter [6, 3]; whnf)) | apply wr_end | apply wc_seq | apply wc_region | (apply wr_not; iterate 2 exact rfl) | (apply wc_true; exact rfl))
      refine wr_indexAddr (i := (keepF p (l.take j)).length) rfl rfl rfl (by omega) ?_
      refine wr_store (v := S x) rfl rfl rfl rfl hb4 (by rw [Nat.zero_add, Nat.mul_one]; exact hu) ?_
      obtain ⟨w5, hw5⟩ : ∃ w5, w5 = w4.putObj g (.cells (cur'.setIfInBounds (0 + (keepF p (l.take j)).length * 1) (S x)) 9 (0, 0)) := ⟨_, rfl⟩
      have hk5 : Keeps (· = g) w4 w5 := by rw [hw5]; exact (Keeps.refl _ _).put _ (fun _ => rfl)
      have hb5 : w5.heap[g]? = some (.cells (cur'.setIfInBounds (keepF p (l.take j)).length (S x)) 9 (0, 0)) := by rw [hw5, World.putObj_heap_same (lt_of_heap hb4)]; simp
      rw [← hw5]
      clear hw5
      (repeat first | (apply wr_move; exact rfl; with_reducible (conv => enter [6, 3]; whnf)) | (apply wr_assign; exact rfl; with_reducible (conv => enter [6, 3]; whnf)) | apply wr_end | apply wc_region | (apply wr_add; (iterate 3 exact rfl); exact w_fit (by dsimp only [kIn]; first | done | omega)) | (apply wr_nil; try simp only [thenE, inBlockE, bodyQ]))
      exact ⟨j + 1, by omega, ⟨by trivial, hjl, (by rw [hsn, List.length_append]; show _ + 1 < _; omega), ⟨_, hb5, by simpa using hs3, (fun q y hq => by
        rw [hsn] at hq
        by_cases hql : q < (keepF p (l.take j)).length
        · rw [List.getElem?_append_left hql] at hq
          rw [Array.getElem?_setIfInBounds_ne (by omega)]
          exact hka q y hq
        · have hqe : q = (keepF p (l.take j)).length := by
            have := (List.getElem?_eq_some_iff.1 hq).1
            simp at this; omega
          subst hqe
          simp at hq
          subst hq
          rw [Array.getElem?_setIfInBounds_self_of_lt (by omega)]), fun q y hq hy => by
        rw [Array.getElem?_setIfInBounds_ne (by omega)]
        exact hkb q y (by omega) hy⟩, (hk3.trans hk4.upD).trans hk5⟩, rfl, rfl, by rw [hsn]; simp, by simp, trivial⟩
  have hje : j = l.length := by omega
  subst hje
  rw [List.take_length] at *
  (repeat first | (apply wr_move; exact rfl; with_reducible (conv => enter [6, 3]; whnf)) | apply wr_end | apply wc_seq | apply wc_region | (apply wr_len_slice; iterate 2 exact rfl) | (apply wr_cmp; (iterate 3 exact rfl); exact cmpF (by dsimp only [cmpN]; first | done | omega)) | (apply wc_false; exact rfl) | (apply wc_exit; try simp only [thenE, inBlockE, bodyQ, ↓reduceIte, Nat.reduceEqDiff]))
  have hKk : (keepF p l).length < l.length := hKj
  obtain ⟨m, hm⟩ : ∃ m, m = (keepF p l).length := ⟨_, rfl⟩
  rw [← hm] at hKk
  rw [← hm]
  have hadd : Option.map (fun x : Addr => x.add (m * 1)) (some (⟨g, 0, none⟩ : Addr)) = some ⟨g, m, none⟩ := by simp [addr_add]
  refine wr_sl_slice (i := m) (j := l.length) rfl rfl (.inl ⟨rfl, rfl⟩) (.inr ⟨_, rfl, by omega⟩) ?_
  rw [if_neg (by omega), hadd]
  refine wr_clearS rfl rfl hb3 rfl rfl (by omega) (by omega) ?_
  intro cur2 hs2 hpre
  obtain ⟨w5, hw5⟩ : ∃ w5, w5 = w3.putObj g (.cells cur2 9 (0, 0)) := ⟨_, rfl⟩
  have hk5 : Keeps (· = g) w3 w5 := by rw [hw5]; exact (Keeps.refl _ _).put _ (fun _ => rfl)
  have hb5 : w5.heap[g]? = some (.cells cur2 9 (0, 0)) := by rw [hw5]; exact World.putObj_heap_same (lt_of_heap hb3)
  rw [← hw5]
  clear hw5
  (repeat first | (apply wr_move; exact rfl; with_reducible (conv => enter [6, 3]; whnf)) | apply wr_end | apply wc_seq | apply wc_region)
  refine wr_sl_slice (i := 0) (j := m) rfl rfl (.inr ⟨_, rfl, by omega⟩) (.inl ⟨rfl, rfl⟩) ?_
  have hadd0 : Option.map (fun x : Addr => x.add (0 * 1)) (some (⟨g, 0, none⟩ : Addr)) = some ⟨g, 0, none⟩ := by simp [addr_add]
  rw [if_neg (by omega), hadd0, Nat.sub_zero, Nat.sub_zero]
  have hown : w5.ownsRow base 9 1 (.slice (some ⟨g, 0, none⟩) m cap) m (SL (keepF p l)) := by
    rcases h with ⟨hxl, ⟨h0, _⟩ | ⟨g', cap', cu, he, hg, hbb, hn', hc, hcs', htk⟩⟩
    · cases h0
    cases he
    rw [hb] at hbb
    cases hbb
    refine ⟨by rw [SL_len, hm, Nat.mul_one], .inr ⟨g, cap, cur2, rfl, hg, hb5, by omega, hc, by omega, ?_⟩⟩
    apply List.ext_getElem?
    intro q
    by_cases hq : q < m
    · obtain ⟨y, hy⟩ : ∃ y, (keepF p l)[q]? = some y := ⟨(keepF p l)[q]'(by omega), by simp [show q < (keepF p l).length by omega]⟩
      have h1 := hka q y hy
      rw [← hpre q hq] at h1
      rw [List.getElem?_take_of_lt (by omega), SL_get hy]
      simpa using h1
    · rw [List.getElem?_eq_none (by rw [List.length_take]; omega), List.getElem?_eq_none (by rw [SL_len]; omega)]
  (repeat first | (apply wr_assign; exact rfl; with_reducible (conv => enter [6, 3]; whnf)) | apply wr_end | (apply wc_ret; try simp only [thenE, inBlockE, bodyQ]))
  exact leave1 (v := .slice (some ⟨g, 0, none⟩) m cap) rfl rfl ⟨rfl, hown, hk3.trans hk5⟩
end Go.Proofs.YtajajahofkialaaGreatDoor
