/- wire.Number, Text, All: what they do. -/
import Derived.Test.YthlbgeonobicbaaDoorWc
import Derived.Test.YthlbgeonobicbaaDoorV9
namespace Go.Proofs.YthlbgeonobicbaaDoor
open Go Go.V Go.RowKit
set_option linter.unusedVariables false
set_option linter.unusedSimpArgs false

def numberF (num : Int) (n : Nat) : List UInt8 := (putF ⟨num, 0, n, []⟩).getD []
def textF (num : Int) (s : List UInt8) : List UInt8 := (putF ⟨num, 2, 0, s⟩).getD []
theorem putV_get0 (o : Option (List UInt8)) : ∃ b, putV o = .tuple #[S (o.getD []), .bool b] := by
  cases o with
  | none => exact ⟨false, rfl⟩
  | some s => exact ⟨true, rfl⟩
set_option maxRecDepth 100000 in
set_option maxHeartbeats 1000000 in
theorem number_ca (num : Int) (n : Nat) (h1 : -9223372036854775808 ≤ num ∧ num ≤ 9223372036854775807) (h2 : n < 18446744073709551616) (w : World) :
    Ca Tryd.prog 25 #[.int .i64 num, .int .u64 (n : Int)] w fun v w' => v = S (numberF num n) ∧ Keeps NoB w w' := by
  refine ca_of_body (args := [.int .i64 num, .int .u64 (n : Int)]) Tryd.func25 rfl (by kernel_rfl) ?_
  (repeat first | (apply wr_move; exact rfl; with_reducible (conv => enter [6, 3]; whnf)) | (apply wr_assign; exact rfl; with_reducible (conv => enter [6, 3]; whnf)) | apply wr_end | apply wc_seq | apply wc_region)
  refine wr_build (ps := [(0, .int .i64 num), (2, .int .u64 (n : Int))]) (cs := [.int .i64 num, .int .i64 0, .int .u64 (n : Int), S []]) rfl rfl rfl rfl ?_
  refine wr_call (vs := [(⟨num, 0, n, []⟩ : WF).v]) rfl (put_ca ⟨num, 0, n, []⟩ ⟨h1, by simp, h2, by simp⟩ _) rfl ?_
  rintro v w1 ⟨rfl, hk1⟩
  obtain ⟨b, hb⟩ := putV_get0 (putF ⟨num, 0, n, []⟩)
  rw [hb]
  (repeat first | (apply wr_move; exact rfl; with_reducible (conv => enter [6, 3]; whnf)) | (apply wr_assign; exact rfl; with_reducible (conv => enter [6, 3]; whnf)) | apply wr_end | apply wc_seq | apply wc_region | (apply wr_extract; (iterate 3 exact rfl); with_reducible (conv => enter [6, 3]; whnf)) | (apply wc_ret; try simp only [thenE, inBlockE, bodyQ]))
  exact leave1 (v := S (numberF num n)) rfl rfl ⟨rfl, hk1⟩
set_option maxRecDepth 100000 in
set_option maxHeartbeats 1000000 in
theorem text_ca (num : Int) (s : List UInt8) (h1 : -9223372036854775808 ≤ num ∧ num ≤ 9223372036854775807) (h2 : s.length ≤ 4611686018427387904) (w : World) :
    Ca Tryd.prog 26 #[.int .i64 num, S s] w fun v w' => v = S (textF num s) ∧ Keeps NoB w w' := by
  refine ca_of_body (args := [.int .i64 num, S s]) Tryd.func26 rfl (by kernel_rfl) ?_
  (repeat first | (apply wr_move; exact rfl; with_reducible (conv => enter [6, 3]; whnf)) | (apply wr_assign; exact rfl; with_reducible (conv => enter [6, 3]; whnf)) | apply wr_end | apply wc_seq | apply wc_region)
  refine wr_build (ps := [(0, .int .i64 num), (1, .int .i64 2), (3, S s)]) (cs := [.int .i64 num, .int .i64 2, .int .u64 0, S s]) rfl rfl rfl rfl ?_
  refine wr_call (vs := [(⟨num, 2, 0, s⟩ : WF).v]) rfl (put_ca ⟨num, 2, 0, s⟩ ⟨h1, by simp, by simp, h2⟩ _) rfl ?_
  rintro v w1 ⟨rfl, hk1⟩
  obtain ⟨b, hb⟩ := putV_get0 (putF ⟨num, 2, 0, s⟩)
  rw [hb]
  (repeat first | (apply wr_move; exact rfl; with_reducible (conv => enter [6, 3]; whnf)) | (apply wr_assign; exact rfl; with_reducible (conv => enter [6, 3]; whnf)) | apply wr_end | apply wc_seq | apply wc_region | (apply wr_extract; (iterate 3 exact rfl); with_reducible (conv => enter [6, 3]; whnf)) | (apply wc_ret; try simp only [thenE, inBlockE, bodyQ]))
  exact leave1 (v := S (textF num s)) rfl rfl ⟨rfl, hk1⟩

theorem WF.cs_len (x : WF) : x.cs.length = 4 := rfl
/-- The cells of fields. -/
abbrev FL (l : List WF) : List Value := l.flatMap WF.cs
theorem FL_snoc (l : List WF) (x : WF) : FL (l ++ [x]) = FL l ++ x.cs := by simp [FL]
def allF (l : List WF) (num : Int) : List WF := l.filter fun x => x.num == num
theorem filter_take {α : Type} (p : α → Bool) (l : List α) (i : Nat) (x : α) (h : l[i]? = some x) : (l.take (i + 1)).filter p = if p x then (l.take i).filter p ++ [x] else (l.take i).filter p := by
  rw [List.take_add_one, h]
  simp only [Option.toList_some, List.filter_append, List.filter_cons, List.filter_nil]
  split <;> simp
set_option maxRecDepth 100000 in
set_option maxHeartbeats 2000000 in
theorem all_ca (l : List WF) (num : Int) (sl : Value) (w : World) (hsl : SlR w 4 sl l.length (FL l)) (hlen : l.length ≤ 1000000000000) :
    Ca Tryd.prog 57 #[sl, .int .i64 num] w fun v w' => w'.ownsRow w.heap.size 101 4 v (allF l num).length (FL (allF l num)) ∧ Keeps NoB w w' := by
  obtain ⟨a, c, rfl, hc, hat⟩ := hsl.shape
  refine ca_of_body (args := [.slice a l.length c, .int .i64 num]) Tryd.func57 rfl (by kernel_rfl) ?_
  (repeat first | (apply wr_move; exact rfl; with_reducible (conv => enter [6, 3]; whnf)) | (apply wr_assign; exact rfl; with_reducible (conv => enter [6, 3]; whnf)) | apply wr_end | apply wc_seq | apply wc_region | apply wc_block | (apply wr_len_slice; iterate 2 exact rfl))
  refine wc_loopL (α := Nat × Value) (fun x => [(1, .int .i64 num), (5, x.2), (8, .slice a l.length c), (9, .int .i64 (l.length : Int)), (10, .int .i64 (x.1 : Int))])
    (fun x ds w' => ds = [] ∧ x.1 ≤ l.length ∧ w'.ownsRow w.heap.size 101 4 x.2 (allF (l.take x.1) num).length (FL (allF (l.take x.1) num)) ∧ Keeps NoB w w') (fun x => l.length - x.1) (0, .slice none 0 0) ⟨rfl, Nat.zero_le _, ⟨rfl, .inl ⟨rfl, rfl⟩⟩, Keeps.refl _ _⟩ ⟨rfl, rfl, rfl, rfl, rfl, trivial⟩ ?_
  rintro ⟨i, r⟩ ds f0 w2 ⟨rfl, hi, ho, hk2⟩
  dsimp only at hi ho ⊢
  by_cases hlt : i < l.length
  · obtain ⟨b, o, rfl, cur, e, fr, hb, hr⟩ := hat (by omega)
    have hb2 := hk2.heap hb (fun h => h)
    have hbs := lt_of_heap hb
    have hsz := hk2.size
    obtain ⟨x, hx⟩ : ∃ x, l[i]? = some x := ⟨l[i], by simp [hlt]⟩
    have hft := filter_take (fun y : WF => y.num == num) l i x hx
    have hfl : (allF (l.take i) num).length ≤ i := Nat.le_trans (List.length_filter_le _ _) (by simp; omega)
    obtain ⟨xn, xk, xv, xs⟩ := x
    (repeat first | apply wr_end | apply wc_seq | apply wc_region | apply wc_skip | apply wc_block | (apply wr_cmp; (iterate 3 exact rfl); exact cmpT (by dsimp only [cmpP]; first | done | omega)) | (apply wc_true; exact rfl))
    refine wr_indexAddr rfl rfl rfl hlt ?_
    refine wr_loadElem (G := WF.cs) rfl rfl WF.cs_len rfl hb2 hr hlt hx rfl ?_
    (repeat first | (apply wr_alloc; exact rfl))
    refine wr_storeAll (cs := [.int .i64 xn, .int .i64 xk, .int .u64 (xv : Int), S xs]) rfl rfl rfl (by intro u hu; simp [WF.cs] at hu; rcases hu with rfl | rfl | rfl | rfl <;> rfl) (heap_alloc_same _ _) rfl rfl ?_
    have hks := (hk2.alloc (.cells (Value.agg #[.int .i64 0, .int .i64 0, .int .u64 0, S []]).cells 101)).put (b := w2.heap.size) (.cells #[.int .i64 xn, .int .i64 xk, .int .u64 (xv : Int), S xs] 101 (0, 0)) (by intro h; omega)
    have hkf : Keeps (fun k => k = w2.heap.size) w2 ((w2.alloc (.cells (Value.agg #[.int .i64 0, .int .i64 0, .int .u64 0, S []]).cells 101)).putObj w2.heap.size (.cells #[.int .i64 xn, .int .i64 xk, .int .u64 (xv : Int), S xs] 101 (0, 0))) := ((Keeps.refl _ w2).alloc _).put _ (fun h => rfl)
    have hos := own_keep ho hkf (fun b hb' => by have := (ho.lt b hb').2; omega)
    by_cases he : xn = num
    · (repeat first | (apply wr_move; exact rfl; with_reducible (conv => enter [6, 3]; whnf)) | apply wr_end | apply wc_seq | apply wc_region | (apply wr_fieldAddr; iterate 2 exact rfl) | (apply wr_load; (iterate 3 exact rfl); (focus repeat first | with_reducible assumption | exact heap_alloc_same _ _ | exact World.putObj_heap_same (by first | omega | (simp only [World.size_alloc, World.putObj_size, ne_eq]; omega)) | ((first | refine hAl ?_ ?_ | refine hPu ?_ ?_); focus first | omega | (simp only [World.size_alloc, World.putObj_size, ne_eq]; omega))); exact rfl; conv => enter [6, 3]; whnf) | (apply wr_cmp; (iterate 3 exact rfl); exact cmpT (by dsimp only [cmpP]; first | done | omega)) | (apply wc_true; exact rfl))
      refine wr_loadAll (cs := [.int .i64 xn, .int .i64 xk, .int .u64 (xv : Int), S xs]) rfl rfl rfl (World.putObj_heap_same (by simp)) rfl ?_
      refine wr_buildSlice (vs := [.agg #[.int .i64 xn, .int .i64 xk, .int .u64 (xv : Int), S xs]]) rfl rfl (by intro v hv; simp at hv; subst hv; rfl) rfl (by decide) (by decide) (by decide) ?_
      refine wr_append (v := r) (n := (allF (l.take i) num).length) (m := 1) (news := [.int .i64 xn, .int .i64 xk, .int .u64 (xv : Int), S xs]) rfl rfl (hos.alloc _) rfl (heap_alloc_same _ _) rfl (by intro u hu; simp at hu; rcases hu with rfl | rfl | rfl | rfl <;> rfl) rfl (by decide) (by omega) (by omega) (by simp; omega) ?_
      intro r' w3 ho3 hk3 _
      (repeat first | (apply wr_move; exact rfl; with_reducible (conv => enter [6, 3]; whnf)) | (apply wr_assign; exact rfl; with_reducible (conv => enter [6, 3]; whnf)) | apply wr_end | apply wc_region | (apply wr_add; (iterate 3 exact rfl); exact w_fit (by dsimp only [kIn]; first | done | omega)) | (apply wr_nil; try simp only [thenE, inBlockE, bodyQ]))
      refine ⟨(i + 1, r'), by dsimp only; omega, ⟨rfl, hlt, ?_, ?_⟩, rfl, rfl, rfl, rfl, by simp, trivial⟩
      · show w3.ownsRow _ _ _ _ (allF (l.take (i + 1)) num).length (FL (allF (l.take (i + 1)) num))
        unfold allF at ho3 ⊢
        rw [hft, if_pos (by simpa using he), FL_snoc, List.length_append]
        exact ho3
      · exact (hks.alloc _).trans' hk3 fun j hj h => absurd (ho.lt j h).1 (by omega)
    · (repeat first | (apply wr_move; exact rfl; with_reducible (conv => enter [6, 3]; whnf)) | apply wr_end | apply wc_seq | apply wc_region | apply wc_skip | (apply wr_fieldAddr; iterate 2 exact rfl) | (apply wr_load; (iterate 3 exact rfl); (focus repeat first | with_reducible assumption | exact heap_alloc_same _ _ | exact World.putObj_heap_same (by first | omega | (simp only [World.size_alloc, World.putObj_size, ne_eq]; omega)) | ((first | refine hAl ?_ ?_ | refine hPu ?_ ?_); focus first | omega | (simp only [World.size_alloc, World.putObj_size, ne_eq]; omega))); exact rfl; conv => enter [6, 3]; whnf) | (apply wr_cmp; (iterate 3 exact rfl); exact cmpF (by dsimp only [cmpN]; first | done | omega)) | (apply wr_add; (iterate 3 exact rfl); exact w_fit (by dsimp only [kIn]; first | done | omega)) | (apply wc_false; exact rfl))
      refine ⟨(i + 1, r), by dsimp only; omega, ⟨rfl, hlt, ?_, hks⟩, rfl, rfl, rfl, rfl, by simp, trivial⟩
      show World.ownsRow _ _ _ _ _ (allF (l.take (i + 1)) num).length (FL (allF (l.take (i + 1)) num))
      unfold allF at hos ⊢
      rw [hft, if_neg (by simpa using he)]
      exact hos
  · have he : i = l.length := by omega
    subst he
    rw [List.take_length] at ho
    (repeat first | (apply wr_move; exact rfl; with_reducible (conv => enter [6, 3]; whnf)) | (apply wr_assign; exact rfl; with_reducible (conv => enter [6, 3]; whnf)) | apply wr_end | apply wc_seq | apply wc_region | (apply wr_cmp; (iterate 3 exact rfl); exact cmpF (by dsimp only [cmpN]; first | done | omega)) | (apply wc_false; exact rfl) | (apply wc_exit; try simp only [thenE, inBlockE, bodyQ, ↓reduceIte, Nat.reduceEqDiff]) | (apply wc_ret; try simp only [thenE, inBlockE, bodyQ]))
    exact leave1 (v := r) rfl rfl ⟨ho, hk2⟩
def lastF (l : List WF) (num : Int) : Option WF := (allF l num).getLast?
def lastV : Option WF → Value
  | some x => .tuple #[x.v, .bool true]
  | none => .tuple #[.agg #[.int .i64 0, .int .i64 0, .int .u64 0, S []], .bool false]
end Go.Proofs.YthlbgeonobicbaaDoor
