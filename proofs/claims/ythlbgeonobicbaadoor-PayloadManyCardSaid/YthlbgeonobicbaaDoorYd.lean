/- payload's fields put: the closures, put, list's: what they do. -/
import Derived.Test.YthlbgeonobicbaaDoorYc
import Derived.Test.YthlbgeonobicbaaDoorPb
namespace Go.Proofs.YthlbgeonobicbaaDoor
open Go Go.V Go.RowKit
set_option linter.unusedVariables false
set_option linter.unusedSimpArgs false

def txt (k : Int) (s : List UInt8) : List UInt8 := if s = [] then [] else textF k s
def nmb (k : Int) (n : Nat) : List UInt8 := if n = 0 then [] else numberF k n
theorem txt_len {k : Int} {s : List UInt8} (h : s.length < 18446744073709551616) : (txt k s).length ≤ 20 + s.length := by
  unfold txt
  split
  · simp
  · exact textF_len h
theorem numberF_len' (num : Int) {n : Nat} (hn : n < 18446744073709551616) : (numberF num n).length ≤ 20 := by
  by_cases h : 1 ≤ num ∧ num < 536870912
  · rw [numberF_eq h, List.length_append]
    have h1 := varint_len (num * 8).toNat (by omega)
    have h2 := varint_len n hn
    omega
  · rw [numberF_no h]; simp
theorem nmb_len {k : Int} {n : Nat} (h : n < 18446744073709551616) : (nmb k n).length ≤ 20 := by
  unfold nmb
  split
  · simp
  · exact numberF_len' k h
set_option maxRecDepth 100000 in
theorem textP_ca (num : Int) (hn : -9223372036854775808 ≤ num ∧ num ≤ 9223372036854775807) {bx b o : Nat} {cur : Array Value} {e : TypeId} {fr : Nat × Nat} (s : List UInt8) (hs : s.length ≤ 4611686018427387904) {w : World} (hx : w.heap[bx]? = some (.cells #[.pointer (some ⟨b, o, none⟩)] 104 (0, 0))) (hb : w.heap[b]? = some (.cells cur e fr)) (hv : cur[o]? = some (S s)) :
    Ca Tryd.prog 66 #[.int .i64 num, .pointer (some ⟨bx, 0, none⟩)] w fun v w' => v = S (txt num s) ∧ Keeps NoB w w' := by
  refine ca_of_body (args := [.int .i64 num, .pointer (some ⟨bx, 0, none⟩)]) Tryd.func66 rfl (by kernel_rfl) ?_
  (repeat first | (apply wr_assign; exact rfl; with_reducible (conv => enter [6, 3]; whnf)) | apply wr_end | apply wc_seq | apply wc_region | (apply wr_nilCheck; iterate 2 exact rfl) | (apply wr_load; (iterate 3 exact rfl); (focus repeat first | with_reducible assumption | exact heap_alloc_same _ _ | exact World.putObj_heap_same (by first | omega | (simp only [World.size_alloc, World.putObj_size, ne_eq]; omega)) | ((first | refine hAl ?_ ?_ | refine hPu ?_ ?_); focus first | omega | (simp only [World.size_alloc, World.putObj_size, ne_eq]; omega))); exact rfl; conv => enter [6, 3]; whnf))
  refine wr_load rfl rfl rfl hb hv ?_
  by_cases h0 : s = []
  · subst h0
    (repeat first | (apply wr_assign; exact rfl; with_reducible (conv => enter [6, 3]; whnf)) | apply wr_end | apply wc_seq | apply wc_region | (apply wr_streqc; (iterate 3 exact rfl); (first | exact decide_eq_true (by with_reducible assumption) | exact decide_eq_false (by with_reducible assumption) | exact decide_eq_true rfl | exact rfl)) | (apply wc_true; exact rfl) | (apply wc_ret; try simp only [thenE, inBlockE, bodyQ]))
    exact leave1 (v := S []) rfl rfl ⟨rfl, Keeps.refl _ _⟩
  · (repeat first | (apply wr_move; exact rfl; with_reducible (conv => enter [6, 3]; whnf)) | apply wr_end | apply wc_seq | apply wc_region | apply wc_skip | (apply wr_nilCheck; iterate 2 exact rfl) | (apply wr_load; (iterate 3 exact rfl); (focus repeat first | with_reducible assumption | exact heap_alloc_same _ _ | exact World.putObj_heap_same (by first | omega | (simp only [World.size_alloc, World.putObj_size, ne_eq]; omega)) | ((first | refine hAl ?_ ?_ | refine hPu ?_ ?_); focus first | omega | (simp only [World.size_alloc, World.putObj_size, ne_eq]; omega))); exact rfl; conv => enter [6, 3]; whnf) | (apply wr_streqc; (iterate 3 exact rfl); (first | exact decide_eq_true (by with_reducible assumption) | exact decide_eq_false (by with_reducible assumption) | exact decide_eq_true rfl | exact rfl)) | (apply wc_false; exact rfl))
    refine wr_load rfl rfl rfl hb hv ?_
    refine wr_call (vs := [.int .i64 num, S s]) rfl (text_ca num s hn hs _) rfl ?_
    rintro v w1 ⟨rfl, hk⟩
    (repeat first | (apply wr_assign; exact rfl; with_reducible (conv => enter [6, 3]; whnf)) | apply wr_end | (apply wc_ret; try simp only [thenE, inBlockE, bodyQ]))
    exact leave1 (v := S (textF num s)) rfl rfl ⟨by unfold txt; rw [if_neg h0], hk⟩
set_option maxRecDepth 100000 in
theorem numP_ca (num : Int) (hn : -9223372036854775808 ≤ num ∧ num ≤ 9223372036854775807) {bx b o : Nat} {cur : Array Value} {e : TypeId} {fr : Nat × Nat} (n : Nat) (hs : n < 18446744073709551616) {w : World} (hx : w.heap[bx]? = some (.cells #[.pointer (some ⟨b, o, none⟩)] 106 (0, 0))) (hb : w.heap[b]? = some (.cells cur e fr)) (hv : cur[o]? = some (.int .u64 (n : Int))) :
    Ca Tryd.prog 70 #[.int .i64 num, .pointer (some ⟨bx, 0, none⟩)] w fun v w' => v = S (nmb num n) ∧ Keeps NoB w w' := by
  refine ca_of_body (args := [.int .i64 num, .pointer (some ⟨bx, 0, none⟩)]) Tryd.func70 rfl (by kernel_rfl) ?_
  (repeat first | (apply wr_assign; exact rfl; with_reducible (conv => enter [6, 3]; whnf)) | apply wr_end | apply wc_seq | apply wc_region | (apply wr_nilCheck; iterate 2 exact rfl) | (apply wr_load; (iterate 3 exact rfl); (focus repeat first | with_reducible assumption | exact heap_alloc_same _ _ | exact World.putObj_heap_same (by first | omega | (simp only [World.size_alloc, World.putObj_size, ne_eq]; omega)) | ((first | refine hAl ?_ ?_ | refine hPu ?_ ?_); focus first | omega | (simp only [World.size_alloc, World.putObj_size, ne_eq]; omega))); exact rfl; conv => enter [6, 3]; whnf))
  refine wr_load rfl rfl rfl hb hv ?_
  by_cases h0 : n = 0
  · subst h0
    (repeat first | (apply wr_assign; exact rfl; with_reducible (conv => enter [6, 3]; whnf)) | apply wr_end | apply wc_seq | apply wc_region | (apply wr_cmp; (iterate 3 exact rfl); exact cmpT (by dsimp only [cmpP]; first | done | omega)) | (apply wc_true; exact rfl) | (apply wc_ret; try simp only [thenE, inBlockE, bodyQ]))
    exact leave1 (v := S []) rfl rfl ⟨rfl, Keeps.refl _ _⟩
  · (repeat first | (apply wr_move; exact rfl; with_reducible (conv => enter [6, 3]; whnf)) | apply wr_end | apply wc_seq | apply wc_region | apply wc_skip | (apply wr_nilCheck; iterate 2 exact rfl) | (apply wr_load; (iterate 3 exact rfl); (focus repeat first | with_reducible assumption | exact heap_alloc_same _ _ | exact World.putObj_heap_same (by first | omega | (simp only [World.size_alloc, World.putObj_size, ne_eq]; omega)) | ((first | refine hAl ?_ ?_ | refine hPu ?_ ?_); focus first | omega | (simp only [World.size_alloc, World.putObj_size, ne_eq]; omega))); exact rfl; conv => enter [6, 3]; whnf) | (apply wr_cmp; (iterate 3 exact rfl); exact cmpF (by dsimp only [cmpN]; first | done | omega)) | (apply wc_false; exact rfl))
    refine wr_load rfl rfl rfl hb hv ?_
    refine wr_call (vs := [.int .i64 num, .int .u64 (n : Int)]) rfl (number_ca num n hn hs _) rfl ?_
    rintro v w1 ⟨rfl, hk⟩
    (repeat first | (apply wr_assign; exact rfl; with_reducible (conv => enter [6, 3]; whnf)) | apply wr_end | (apply wc_ret; try simp only [thenE, inBlockE, bodyQ]))
    exact leave1 (v := S (numberF num n)) rfl rfl ⟨by unfold nmb; rw [if_neg h0], hk⟩
/-- A field: its letter, how it is put, how it is taken. -/
abbrev Fd := Value × Value × Value
def G3 (x : Fd) : List Value := [x.1, x.2.1, x.2.2]
theorem G3_len (x : Fd) : (G3 x).length = 3 := rfl
def textT (letter : List UInt8) (bx : Nat) : Fd := (S letter, .func (.func 66) #[] #[.pointer (some ⟨bx, 0, none⟩)], .func (.func 67) #[] #[.pointer (some ⟨bx, 0, none⟩)])
def numT (letter : List UInt8) (bx : Nat) : Fd := (S letter, .func (.func 70) #[] #[.pointer (some ⟨bx, 0, none⟩)], .func (.func 71) #[] #[.pointer (some ⟨bx, 0, none⟩)])
def rulesT (letter : List UInt8) (bx bf : Nat) : Fd := (S letter, .func (.func 73) #[] #[.pointer (some ⟨bx, 0, none⟩), .pointer (some ⟨bf, 0, none⟩)], .func (.func 74) #[] #[.pointer (some ⟨bf, 0, none⟩), .pointer (some ⟨bx, 0, none⟩)])
def addrsT (letter : List UInt8) (bx bf : Nat) : Fd := (S letter, .func (.func 76) #[] #[.pointer (some ⟨bx, 0, none⟩), .pointer (some ⟨bf, 0, none⟩)], .func (.func 77) #[] #[.pointer (some ⟨bf, 0, none⟩), .pointer (some ⟨bx, 0, none⟩)])
def Fd.one (x : Fd) : Prop := x.1.oneCell' = true ∧ x.2.1.oneCell' = true ∧ x.2.2.oneCell' = true
/-- What field k is put as, from world w on. -/
def PutAs (w : World) (k : Nat) (x : Fd) (bk : List UInt8) : Prop := ∀ w', Keeps NoB w w' → CallV Tryd.prog x.2.1 #[.int .i64 ((k + 1 : Nat) : Int)] w' fun v w'' => v = S bk ∧ Keeps NoB w' w''
theorem flatten_take_len : ∀ (l : List (List UInt8)) (k : Nat), (l.take k).flatten.length ≤ l.flatten.length
  | [], k => by simp
  | a :: l, 0 => by simp
  | a :: l, k + 1 => by have := flatten_take_len l k; simp only [List.take_succ_cons, List.flatten_cons, List.length_append]; omega
theorem flatten_take_succ {l : List (List UInt8)} {k : Nat} {b : List UInt8} (h : l[k]? = some b) : (l.take (k + 1)).flatten = (l.take k).flatten ++ b := by
  rw [List.take_add_one, h]; simp
set_option maxRecDepth 100000 in
set_option maxHeartbeats 1000000 in
theorem pput_ca (L : List Fd) (bs : List (List UInt8)) (sl : Value) (w : World) (hsl : SlR w 3 sl L.length (L.flatMap G3)) (hone : ∀ x ∈ L, x.one) (hlb : bs.length = L.length) (hl : L.length ≤ 1000) (hput : ∀ (k : Nat) x bk, L[k]? = some x → bs[k]? = some bk → PutAs w k x bk) (hlen : bs.flatten.length ≤ 140737488355328) :
    Ca Tryd.prog 42 #[sl] w fun v w' => v = S bs.flatten ∧ Keeps NoB w w' := by
  obtain ⟨a, c, rfl, hc, hat⟩ := hsl.shape
  refine ca_of_body (args := [.slice a L.length c]) Tryd.func42 rfl (by kernel_rfl) ?_
  (repeat first | (apply wr_move; exact rfl; with_reducible (conv => enter [6, 3]; whnf)) | (apply wr_assign; exact rfl; with_reducible (conv => enter [6, 3]; whnf)) | apply wr_end | apply wc_seq | apply wc_region | apply wc_block | (apply wr_len_slice; iterate 2 exact rfl) | (apply wr_alloc; exact rfl))
  refine wc_loopL (α := Nat) (fun k => [(3, .pointer (some ⟨w.heap.size, 0, none⟩)), (6, .slice a L.length c), (7, .int .i64 (L.length : Int)), (8, .int .i64 (k : Int))])
    (fun k ds w' => ds = [] ∧ k ≤ L.length ∧ Bd w.heap.size w.heap.size (bs.take k).flatten w' ∧ Keeps NoB w w') (fun k => L.length - k) 0 ⟨rfl, Nat.zero_le _, Bd.new w, (Keeps.refl NoB w).alloc _⟩ ⟨rfl, rfl, rfl, rfl, trivial⟩ ?_
  rintro k ds f0 w2 ⟨rfl, hk, hBd, hk2⟩
  have hsz2 := hk2.size
  by_cases hlt : k < L.length
  · obtain ⟨b, o, rfl, cur, e, fr, hb, hr⟩ := hat (by omega)
    have hb2 := hk2.heap hb (fun h => h)
    obtain ⟨x, hx⟩ : ∃ x, L[k]? = some x := ⟨L[k], by simp [hlt]⟩
    obtain ⟨bk, hbk⟩ : ∃ bk, bs[k]? = some bk := ⟨bs[k]'(by omega), by simp [show k < bs.length by omega]⟩
    have hP := hput k x bk hx hbk
    obtain ⟨o1, o2, o3⟩ := hone x (List.mem_of_getElem? hx)
    obtain ⟨x1, x2, x3⟩ := x
    have hcast : (k : Int) + 1 = ((k + 1 : Nat) : Int) := by omega
    have hfl := flatten_take_len bs (k + 1)
    rw [flatten_take_succ hbk, List.length_append] at hfl
    (repeat first | (apply wr_move; exact rfl; with_reducible (conv => enter [6, 3]; whnf)) | apply wr_end | apply wc_seq | apply wc_region | apply wc_skip | apply wc_block | (apply wr_cmp; (iterate 3 exact rfl); exact cmpT (by dsimp only [cmpP]; first | done | omega)) | (apply wc_true; exact rfl))
    refine wr_indexAddr (i := k) rfl rfl rfl hlt ?_
    refine wr_loadElem (G := G3) (n := L.length) rfl rfl G3_len rfl hb2 hr hlt hx rfl ?_
    (repeat first | (apply wr_assign; exact rfl; with_reducible (conv => enter [6, 3]; whnf)) | (apply wr_alloc; exact rfl))
    refine wr_storeAll (cs := [x1, x2, x3]) rfl rfl rfl (by intro u hu; simp at hu; rcases hu with rfl | rfl | rfl; exact o1; exact o2; exact o3) (heap_alloc_same _ _) rfl rfl ?_
    obtain ⟨w3, hw3⟩ : ∃ w3, w3 = (w2.alloc (.cells (Value.agg #[S [], .nilFunc, .nilFunc]).cells 79)).putObj w2.heap.size (.cells #[x1, x2, x3] 79 (0, 0)) := ⟨_, rfl⟩
    have hk3 : Keeps NoB w2 w3 := by rw [hw3]; exact ((Keeps.refl NoB w2).alloc _).put _ (fun h => by omega)
    have hf3 : w3.heap[w2.heap.size]? = some (.cells #[x1, x2, x3] 79 (0, 0)) := by rw [hw3]; exact World.putObj_heap_same (by simp)
    rw [← hw3]
    clear hw3
    (repeat first | (apply wr_move; exact rfl; with_reducible (conv => enter [6, 3]; whnf)) | apply wr_end | apply wc_region | (apply wr_fieldAddr; iterate 2 exact rfl) | (apply wr_load; (iterate 3 exact rfl); (focus repeat first | with_reducible assumption | exact heap_alloc_same _ _ | exact World.putObj_heap_same (by first | omega | (simp only [World.size_alloc, World.putObj_size, ne_eq]; omega)) | ((first | refine hAl ?_ ?_ | refine hPu ?_ ?_); focus first | omega | (simp only [World.size_alloc, World.putObj_size, ne_eq]; omega))); exact rfl; conv => enter [6, 3]; whnf) | (apply wr_add; (iterate 3 exact rfl); exact w_fit (by dsimp only [kIn]; first | done | omega)))
    rw [hcast]
    refine wr_callv rfl (hP w3 (hk2.trans hk3)) rfl rfl ?_
    rintro v w4 ⟨rfl, hk4⟩
    have hBd4 := (hBd.kin hk3).kin hk4
    have hs4 := (hk2.trans (hk3.trans hk4)).size
    refine wr_call (vs := [.pointer (some ⟨w.heap.size, 0, none⟩), S bk]) rfl (writeS_ca w.heap.size w.heap.size _ bk w4 hBd4 (by omega) hs4) rfl ?_
    rintro v w5 ⟨hBd5, hk5⟩
    rw [← flatten_take_succ hbk] at hBd5
    (repeat first | (apply wr_move; exact rfl; with_reducible (conv => enter [6, 3]; whnf)) | apply wr_end | apply wc_region | (apply wr_add; (iterate 3 exact rfl); exact w_fit (by dsimp only [kIn]; first | done | omega)) | (apply wr_nil; try simp only [thenE, inBlockE, bodyQ]))
    exact ⟨k + 1, by omega, ⟨by trivial, hlt, hBd5, (hk2.trans (hk3.trans hk4)).trans' hk5 (fun i hi h => by omega)⟩, rfl, rfl, rfl, by simp, trivial⟩
  · have he : k = bs.length := by omega
    subst he
    rw [List.take_length] at hBd
    (repeat first | apply wr_end | apply wc_seq | apply wc_region | (apply wr_cmp; (iterate 3 exact rfl); exact cmpF (by dsimp only [cmpN]; first | done | omega)) | (apply wc_false; exact rfl) | (apply wc_exit; try simp only [thenE, inBlockE, bodyQ, ↓reduceIte, Nat.reduceEqDiff]))
    refine wr_call (vs := [.pointer (some ⟨w.heap.size, 0, none⟩)]) rfl (bstring_ca w.heap.size w.heap.size _ w2 hBd hsz2) rfl ?_
    rintro v w3 ⟨rfl, hk3⟩
    (repeat first | (apply wr_assign; exact rfl; with_reducible (conv => enter [6, 3]; whnf)) | apply wr_end | (apply wc_ret; try simp only [thenE, inBlockE, bodyQ]))
    exact leave1 (v := S bs.flatten) rfl rfl ⟨rfl, hk2.trans' hk3 (fun i hi h => by omega)⟩
end Go.Proofs.YthlbgeonobicbaaDoor
