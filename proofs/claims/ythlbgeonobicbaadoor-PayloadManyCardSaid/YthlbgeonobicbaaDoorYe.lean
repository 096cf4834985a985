/- payload's lists put: the closures: what they do. -/
import Derived.Test.YthlbgeonobicbaaDoorYd
namespace Go.Proofs.YthlbgeonobicbaaDoor
open Go Go.V Go.RowKit
set_option linter.unusedVariables false
set_option linter.unusedSimpArgs false

abbrev RuleD := List UInt8 × List UInt8
abbrev AddrD := List UInt8 × Nat × Nat
def GR (r : RuleD) : List Value := [S r.1, S r.2]
def GA (a : AddrD) : List Value := [S a.1, .int .u64 (a.2.1 : Int), .int .u64 (a.2.2 : Int)]
theorem GR_len (r : RuleD) : (GR r).length = 2 := rfl
theorem GA_len (r : AddrD) : (GA r).length = 3 := rfl
def ruleB (r : RuleD) : List UInt8 := txt 1 r.1 ++ txt 2 r.2
def addrB (a : AddrD) : List UInt8 := txt 1 a.1 ++ (nmb 2 a.2.1 ++ nmb 3 a.2.2)
def RuleD.ok (r : RuleD) : Prop := r.1.length ≤ 3000000 ∧ r.2.length ≤ 3000000
def AddrD.ok (a : AddrD) : Prop := a.1.length ≤ 3000000 ∧ a.2.1 < 18446744073709551616 ∧ a.2.2 < 18446744073709551616
theorem ruleB_len {r : RuleD} (h : r.ok) : (ruleB r).length ≤ 6000040 := by
  unfold ruleB
  have h1 := txt_len (k := 1) (s := r.1) (by have := h.1; omega)
  have h2 := txt_len (k := 2) (s := r.2) (by have := h.2; omega)
  have := h.1
  have := h.2
  rw [List.length_append]; omega
theorem addrB_len {r : AddrD} (h : r.ok) : (addrB r).length ≤ 6000060 := by
  unfold addrB
  have h1 := txt_len (k := 1) (s := r.1) (by have := h.1; omega)
  have h2 := nmb_len (k := 2) h.2.1
  have h3 := nmb_len (k := 3) h.2.2
  have := h.1
  rw [List.length_append, List.length_append]; omega
theorem FS_slR {w : World} {g n : Nat} {L : List Fd} (h : w.heap[g]? = some (.cells (L.flatMap G3).toArray 79 (0, 0))) (hn : L.length = n) : SlR w 3 (.slice (some ⟨g, 0, none⟩) n n) L.length (L.flatMap G3) := by
  subst hn
  exact ⟨flat_len G3_len L, _, _, rfl, Nat.le_refl _, .inr ⟨g, 0, _, _, _, rfl, h, fun j hj => by rw [Nat.zero_add, List.getElem?_toArray]⟩⟩
theorem callV_of {g : FuncId} {cap : Array Value} {args : List Value} {w : World} {R : Value → World → Prop} (he : enterable Tryd.prog g = true) (h : Ca Tryd.prog g (args ++ cap.toList).toArray w R) : CallV Tryd.prog (.func (.func g) #[] cap) args.toArray w R :=
  callV_func he (by
    have e : (#[] : Array Value) ++ args.toArray ++ cap = (args ++ cap.toList).toArray := by apply Array.toList_inj.1; simp
    rw [e]; exact h)
theorem textT_put {w : World} {k bx b o : Nat} (letter : List UInt8) {cur : Array Value} {e : TypeId} {fr : Nat × Nat} {s : List UInt8} (hk : k < 1000) (hs : s.length ≤ 4611686018427387904) (hx : w.heap[bx]? = some (.cells #[.pointer (some ⟨b, o, none⟩)] 104 (0, 0))) (hb : w.heap[b]? = some (.cells cur e fr)) (hv : cur[o]? = some (S s)) :
    PutAs w k (textT letter bx) (txt ((k + 1 : Nat) : Int) s) := fun w' hk' =>
  callV_of (by kernel_rfl) (textP_ca ((k + 1 : Nat) : Int) (by omega) s hs (hk'.heap hx (fun h => h)) (hk'.heap hb (fun h => h)) hv)
theorem numT_put {w : World} {k bx b o : Nat} (letter : List UInt8) {cur : Array Value} {e : TypeId} {fr : Nat × Nat} {n : Nat} (hk : k < 1000) (hn : n < 18446744073709551616) (hx : w.heap[bx]? = some (.cells #[.pointer (some ⟨b, o, none⟩)] 106 (0, 0))) (hb : w.heap[b]? = some (.cells cur e fr)) (hv : cur[o]? = some (.int .u64 (n : Int))) :
    PutAs w k (numT letter bx) (nmb ((k + 1 : Nat) : Int) n) := fun w' hk' =>
  callV_of (by kernel_rfl) (numP_ca ((k + 1 : Nat) : Int) (by omega) n hn (hk'.heap hx (fun h => h)) (hk'.heap hb (fun h => h)) hv)
/-- What a rule's fields, and an address's, are put as. -/
theorem ruleFields_put {w w' : World} {g b0 b1 b : Nat} {e : TypeId} {fr : Nat × Nat} (r : RuleD) (hr : r.ok) (hFS : FS w g (textC [] b0 ++ textC [] b1)) (h0 : w.heap[b0]? = some (.cells #[.pointer (some ⟨b, 0, none⟩)] 104 (0, 0))) (h1 : w.heap[b1]? = some (.cells #[.pointer (some ⟨b, 1, none⟩)] 104 (0, 0))) (hb : w.heap[b]? = some (.cells (GR r).toArray e fr)) :
    Ca Tryd.prog 42 #[.slice (some ⟨g, 0, none⟩) 2 2] w fun v w' => v = S (ruleB r) ∧ Keeps NoB w w' := by
  have hl := ruleB_len hr
  have := hr.1
  have := hr.2
  have e : [txt 1 r.1, txt 2 r.2].flatten = ruleB r := by simp [ruleB]
  rw [← e]
  refine pput_ca [textT [] b0, textT [] b1] [txt 1 r.1, txt 2 r.2] _ w (FS_slR hFS rfl) ?_ rfl (by simp) ?_ (by rw [e]; omega)
  · intro x hx; simp at hx; rcases hx with rfl | rfl <;> exact ⟨rfl, rfl, rfl⟩
  · intro k x bk hx hbk
    match k with
    | 0 => simp at hx hbk; subst hx hbk; exact textT_put (k := 0) [] (by decide) (by omega) h0 hb rfl
    | 1 => simp at hx hbk; subst hx hbk; exact textT_put (k := 1) [] (by decide) (by omega) h1 hb rfl
    | k + 2 => simp at hx
theorem addrFields_put {w w' : World} {g b0 b1 b2 b : Nat} {e : TypeId} {fr : Nat × Nat} (r : AddrD) (hr : r.ok) (hFS : FS w g (textC [] b0 ++ numC [] b1 ++ numC [] b2)) (h0 : w.heap[b0]? = some (.cells #[.pointer (some ⟨b, 0, none⟩)] 104 (0, 0))) (h1 : w.heap[b1]? = some (.cells #[.pointer (some ⟨b, 1, none⟩)] 106 (0, 0))) (h2 : w.heap[b2]? = some (.cells #[.pointer (some ⟨b, 2, none⟩)] 106 (0, 0))) (hb : w.heap[b]? = some (.cells (GA r).toArray e fr)) :
    Ca Tryd.prog 42 #[.slice (some ⟨g, 0, none⟩) 3 3] w fun v w' => v = S (addrB r) ∧ Keeps NoB w w' := by
  have hl := addrB_len hr
  have := hr.1
  have e : [txt 1 r.1, nmb 2 r.2.1, nmb 3 r.2.2].flatten = addrB r := by simp [addrB]
  rw [← e]
  refine pput_ca [textT [] b0, numT [] b1, numT [] b2] [txt 1 r.1, nmb 2 r.2.1, nmb 3 r.2.2] _ w (FS_slR hFS rfl) ?_ rfl (by simp) ?_ (by rw [e]; omega)
  · intro x hx; simp at hx; rcases hx with rfl | rfl | rfl <;> exact ⟨rfl, rfl, rfl⟩
  · intro k x bk hx hbk
    match k with
    | 0 => simp at hx hbk; subst hx hbk; exact textT_put (k := 0) [] (by decide) (by omega) h0 hb rfl
    | 1 => simp at hx hbk; subst hx hbk; exact numT_put (k := 1) [] (by decide) hr.2.1 h1 hb rfl
    | 2 => simp at hx hbk; subst hx hbk; exact numT_put (k := 2) [] (by decide) hr.2.2 h2 hb rfl
    | k + 3 => simp at hx
def listB {α : Type} (num : Int) (f : α → List UInt8) (l : List α) : List UInt8 := (l.map fun r => textF num (f r)).flatten
theorem listB_take {α : Type} (num : Int) (f : α → List UInt8) {l : List α} {i : Nat} {x : α} (h : l[i]? = some x) : listB num f (l.take (i + 1)) = listB num f (l.take i) ++ textF num (f x) := by
  unfold listB
  rw [List.take_add_one, h]; simp
theorem listB_len {α : Type} (num : Int) (f : α → List UInt8) {m : Nat} : ∀ l : List α, (∀ x ∈ l, (f x).length ≤ m) → m < 18446744073709551616 → (listB num f l).length ≤ l.length * (m + 20)
  | [], _, _ => by simp [listB]
  | x :: l, h, hm => by
    have h1 := listB_len num f l (fun y hy => h y (by simp [hy])) hm
    have h2 := h x (by simp)
    have h3 := textF_len (num := num) (s := f x) (by omega)
    have e : listB num f (x :: l) = textF num (f x) ++ listB num f l := by simp [listB]
    rw [e, List.length_append, List.length_cons, Nat.add_mul, Nat.one_mul]; omega
set_option maxRecDepth 100000 in
set_option maxHeartbeats 2000000 in
theorem rulesP_ca (num : Int) (hnum : -9223372036854775808 ≤ num ∧ num ≤ 9223372036854775807) {bx bf b o : Nat} {cur : Array Value} {e : TypeId} {fr : Nat × Nat} (l : List RuleD) (hl : ∀ r ∈ l, r.ok) (hll : l.length ≤ 3000000) (rv : Value) {w : World} (hx : w.heap[bx]? = some (.cells #[.pointer (some ⟨b, o, none⟩)] 108 (0, 0))) (hf : w.heap[bf]? = some (.cells #[.func (.func 52) #[] #[]] 109 (0, 0)))
    (hb : w.heap[b]? = some (.cells cur e fr)) (hv : cur[o]? = some rv) (hsl : SlR w 2 rv l.length (l.flatMap GR)) :
    Ca Tryd.prog 73 #[.int .i64 num, .pointer (some ⟨bx, 0, none⟩), .pointer (some ⟨bf, 0, none⟩)] w fun v w' => v = S (listB num ruleB l) ∧ Keeps NoB w w' := by
  obtain ⟨a, c, rfl, hc, hat⟩ := hsl.shape
  refine ca_of_body (args := [.int .i64 num, .pointer (some ⟨bx, 0, none⟩), .pointer (some ⟨bf, 0, none⟩)]) Tryd.func73 rfl (by kernel_rfl) ?_
  have hbx := lt_of_heap hx
  have hbb := lt_of_heap hb
  (repeat first | (apply wr_assign; exact rfl; with_reducible (conv => enter [6, 3]; whnf)) | apply wr_end | apply wc_seq | apply wc_region | (apply wr_nilCheck; iterate 2 exact rfl) | (apply wr_load; (iterate 3 exact rfl); (focus repeat first | with_reducible assumption | exact heap_alloc_same _ _ | exact World.putObj_heap_same (by first | omega | (simp only [World.size_alloc, World.putObj_size, ne_eq]; omega)) | ((first | refine hAl ?_ ?_ | refine hPu ?_ ?_); focus first | omega | (simp only [World.size_alloc, World.putObj_size, ne_eq]; omega))); exact rfl; conv => enter [6, 3]; whnf) | (apply wr_alloc; exact rfl))
  refine wr_load rfl rfl rfl (hAl (by omega) hb) hv ?_
  (repeat first | (apply wr_move; exact rfl; with_reducible (conv => enter [6, 3]; whnf)) | apply wr_end | apply wc_block | (apply wr_len_slice; iterate 2 exact rfl))
  refine wc_loopL (α := Nat) (fun k => [(0, .int .i64 num), (2, .pointer (some ⟨bf, 0, none⟩)), (5, .pointer (some ⟨w.heap.size, 0, none⟩)), (10, .slice a l.length c), (11, .int .i64 (l.length : Int)), (12, .int .i64 (k : Int))])
    (fun k ds w' => ds = [] ∧ k ≤ l.length ∧ Bd w.heap.size w.heap.size (listB num ruleB (l.take k)) w' ∧ Keeps NoB w w') (fun k => l.length - k) 0 ⟨rfl, Nat.zero_le _, Bd.new w, (Keeps.refl NoB w).alloc _⟩ ⟨rfl, rfl, rfl, rfl, rfl, rfl, trivial⟩ ?_
  rintro k ds f0 w2 ⟨rfl, hk, hBd, hk2⟩
  have hsz2 := hk2.size
  by_cases hlt : k < l.length
  · obtain ⟨ba, oa, rfl, cura, ea, fra, hba, hra⟩ := hat (by omega)
    have hba2 := hk2.heap hba (fun h => h)
    have hf2 := hk2.heap hf (fun h => h)
    obtain ⟨x, hx0⟩ : ∃ x, l[k]? = some x := ⟨l[k], by simp [hlt]⟩
    have hxo := hl x (List.mem_of_getElem? hx0)
    have hxl := ruleB_len hxo
    have htl := listB_len num ruleB (m := 6000060) (l.take k) (fun y hy => Nat.le_trans (ruleB_len (hl y (List.mem_of_mem_take hy))) (by decide)) (by decide)
    have htk : (l.take k).length = k := by rw [List.length_take]; omega
    rw [htk] at htl
    have hmul : k * (6000060 + 20) ≤ 3000000 * (6000060 + 20) := Nat.mul_le_mul_right _ (by omega)
    have hone := textF_len (num := num) (s := ruleB x) (by omega)
    (repeat first | apply wr_end | apply wc_seq | apply wc_region | apply wc_skip | apply wc_block | (apply wr_cmp; (iterate 3 exact rfl); exact cmpT (by dsimp only [cmpP]; first | done | omega)) | (apply wc_true; exact rfl))
    refine wr_indexAddr (i := k) rfl rfl rfl hlt ?_
    refine wr_loadElem (G := GR) (n := l.length) rfl rfl GR_len rfl hba2 hra hlt hx0 rfl ?_
    apply wr_alloc
    exact rfl
    refine wr_storeAll (cs := GR x) rfl rfl rfl (by intro u hu; simp [GR] at hu; rcases hu with rfl | rfl <;> rfl) (heap_alloc_same _ _) rfl rfl ?_
    obtain ⟨w3, hw3⟩ : ∃ w3, w3 = (w2.alloc (.cells (Value.agg #[S [], S []]).cells 51)).putObj w2.heap.size (.cells (GR x).toArray 51 (0, 0)) := ⟨_, rfl⟩
    have hk3 : Keeps NoB w2 w3 := by rw [hw3]; exact ((Keeps.refl NoB w2).alloc _).put _ (fun h => by omega)
    have hf3 : w3.heap[w2.heap.size]? = some (.cells (GR x).toArray 51 (0, 0)) := by rw [hw3]; exact World.putObj_heap_same (by simp)
    have hff3 := hk3.heap hf2 (fun h => h)
    rw [← hw3]
    clear hw3
    (repeat first | (apply wr_move; exact rfl; with_reducible (conv => enter [6, 3]; whnf)) | apply wr_end | apply wc_region | (apply wr_load; (iterate 3 exact rfl); (focus repeat first | with_reducible assumption | exact heap_alloc_same _ _ | exact World.putObj_heap_same (by first | omega | (simp only [World.size_alloc, World.putObj_size, ne_eq]; omega)) | ((first | refine hAl ?_ ?_ | refine hPu ?_ ?_); focus first | omega | (simp only [World.size_alloc, World.putObj_size, ne_eq]; omega))); exact rfl; conv => enter [6, 3]; whnf))
    refine wr_callv rfl (callV_of (args := [.pointer (some ⟨w2.heap.size, 0, none⟩)]) (by kernel_rfl) (rule_ca w2.heap.size w3)) rfl rfl ?_
    rintro v w4 ⟨g, b0, b1, rfl, hFS, hb0, hb1, hgg, hk4⟩
    have hf4 := hk4.heap hf3 (fun h => h)
    refine wr_call (vs := [.slice (some ⟨g, 0, none⟩) 2 2]) rfl (ruleFields_put (w' := w4) x hxo hFS hb0.1 hb1.1 hf4) rfl ?_
    rintro v w5 ⟨rfl, hk5⟩
    refine wr_call (vs := [.int .i64 num, S (ruleB x)]) rfl (text_ca num (ruleB x) hnum (by omega) _) rfl ?_
    rintro v w6 ⟨rfl, hk6⟩
    have hkk := hk3.trans (hk4.trans (hk5.trans hk6))
    refine wr_call (vs := [.pointer (some ⟨w.heap.size, 0, none⟩), S (textF num (ruleB x))]) rfl (writeS_ca w.heap.size w.heap.size _ _ w6 (hBd.kin hkk) (by omega) (hk2.trans hkk).size) rfl ?_
    rintro v w7 ⟨hBd7, hk7⟩
    rw [← listB_take num ruleB hx0] at hBd7
    (repeat first | (apply wr_move; exact rfl; with_reducible (conv => enter [6, 3]; whnf)) | apply wr_end | apply wc_region | (apply wr_add; (iterate 3 exact rfl); exact w_fit (by dsimp only [kIn]; first | done | omega)) | (apply wr_nil; try simp only [thenE, inBlockE, bodyQ]))
    exact ⟨k + 1, by omega, ⟨by trivial, hlt, hBd7, (hk2.trans hkk).trans' hk7 (fun i hi h => by omega)⟩, rfl, rfl, rfl, rfl, rfl, by simp, trivial⟩
  · have he : k = l.length := by omega
    subst he
    rw [List.take_length] at hBd
    (repeat first | apply wr_end | apply wc_seq | apply wc_region | (apply wr_cmp; (iterate 3 exact rfl); exact cmpF (by dsimp only [cmpN]; first | done | omega)) | (apply wc_false; exact rfl) | (apply wc_exit; try simp only [thenE, inBlockE, bodyQ, ↓reduceIte, Nat.reduceEqDiff]))
    refine wr_call (vs := [.pointer (some ⟨w.heap.size, 0, none⟩)]) rfl (bstring_ca w.heap.size w.heap.size _ w2 hBd hsz2) rfl ?_
    rintro v w3 ⟨rfl, hk3⟩
    (repeat first | (apply wr_assign; exact rfl; with_reducible (conv => enter [6, 3]; whnf)) | apply wr_end | (apply wc_ret; try simp only [thenE, inBlockE, bodyQ]))
    exact leave1 (v := S (listB num ruleB l)) rfl rfl ⟨rfl, hk2.trans' hk3 (fun i hi h => by omega)⟩
set_option maxRecDepth 100000 in
set_option maxHeartbeats 2000000 in
theorem addrsP_ca (num : Int) (hnum : -9223372036854775808 ≤ num ∧ num ≤ 9223372036854775807) {bx bf b o : Nat} {cur : Array Value} {e : TypeId} {fr : Nat × Nat} (l : List AddrD) (hl : ∀ r ∈ l, r.ok) (hll : l.length ≤ 3000000) (rv : Value) {w : World} (hx : w.heap[bx]? = some (.cells #[.pointer (some ⟨b, o, none⟩)] 111 (0, 0))) (hf : w.heap[bf]? = some (.cells #[.func (.func 54) #[] #[]] 112 (0, 0)))
    (hb : w.heap[b]? = some (.cells cur e fr)) (hv : cur[o]? = some rv) (hsl : SlR w 3 rv l.length (l.flatMap GA)) :
    Ca Tryd.prog 76 #[.int .i64 num, .pointer (some ⟨bx, 0, none⟩), .pointer (some ⟨bf, 0, none⟩)] w fun v w' => v = S (listB num addrB l) ∧ Keeps NoB w w' := by
  obtain ⟨a, c, rfl, hc, hat⟩ := hsl.shape
  refine ca_of_body (args := [.int .i64 num, .pointer (some ⟨bx, 0, none⟩), .pointer (some ⟨bf, 0, none⟩)]) Tryd.func76 rfl (by kernel_rfl) ?_
  have hbx := lt_of_heap hx
  have hbb := lt_of_heap hb
  (repeat first | (apply wr_assign; exact rfl; with_reducible (conv => enter [6, 3]; whnf)) | apply wr_end | apply wc_seq | apply wc_region | (apply wr_nilCheck; iterate 2 exact rfl) | (apply wr_load; (iterate 3 exact rfl); (focus repeat first | with_reducible assumption | exact heap_alloc_same _ _ | exact World.putObj_heap_same (by first | omega | (simp only [World.size_alloc, World.putObj_size, ne_eq]; omega)) | ((first | refine hAl ?_ ?_ | refine hPu ?_ ?_); focus first | omega | (simp only [World.size_alloc, World.putObj_size, ne_eq]; omega))); exact rfl; conv => enter [6, 3]; whnf) | (apply wr_alloc; exact rfl))
  refine wr_load rfl rfl rfl (hAl (by omega) hb) hv ?_
  (repeat first | (apply wr_move; exact rfl; with_reducible (conv => enter [6, 3]; whnf)) | apply wr_end | apply wc_block | (apply wr_len_slice; iterate 2 exact rfl))
  refine wc_loopL (α := Nat) (fun k => [(0, .int .i64 num), (2, .pointer (some ⟨bf, 0, none⟩)), (5, .pointer (some ⟨w.heap.size, 0, none⟩)), (10, .slice a l.length c), (11, .int .i64 (l.length : Int)), (12, .int .i64 (k : Int))])
    (fun k ds w' => ds = [] ∧ k ≤ l.length ∧ Bd w.heap.size w.heap.size (listB num addrB (l.take k)) w' ∧ Keeps NoB w w') (fun k => l.length - k) 0 ⟨rfl, Nat.zero_le _, Bd.new w, (Keeps.refl NoB w).alloc _⟩ ⟨rfl, rfl, rfl, rfl, rfl, rfl, trivial⟩ ?_
  rintro k ds f0 w2 ⟨rfl, hk, hBd, hk2⟩
  have hsz2 := hk2.size
  by_cases hlt : k < l.length
  · obtain ⟨ba, oa, rfl, cura, ea, fra, hba, hra⟩ := hat (by omega)
    have hba2 := hk2.heap hba (fun h => h)
    have hf2 := hk2.heap hf (fun h => h)
    obtain ⟨x, hx0⟩ : ∃ x, l[k]? = some x := ⟨l[k], by simp [hlt]⟩
    have hxo := hl x (List.mem_of_getElem? hx0)
    have hxl := addrB_len hxo
    have htl := listB_len num addrB (m := 6000060) (l.take k) (fun y hy => Nat.le_trans (addrB_len (hl y (List.mem_of_mem_take hy))) (by decide)) (by decide)
    have htk : (l.take k).length = k := by rw [List.length_take]; omega
    rw [htk] at htl
    have hmul : k * (6000060 + 20) ≤ 3000000 * (6000060 + 20) := Nat.mul_le_mul_right _ (by omega)
    have hone := textF_len (num := num) (s := addrB x) (by omega)
    (repeat first | apply wr_end | apply wc_seq | apply wc_region | apply wc_skip | apply wc_block | (apply wr_cmp; (iterate 3 exact rfl); exact cmpT (by dsimp only [cmpP]; first | done | omega)) | (apply wc_true; exact rfl))
    refine wr_indexAddr (i := k) rfl rfl rfl hlt ?_
    refine wr_loadElem (G := GA) (n := l.length) rfl rfl GA_len rfl hba2 hra hlt hx0 rfl ?_
    apply wr_alloc
    exact rfl
    refine wr_storeAll (cs := GA x) rfl rfl rfl (by intro u hu; simp [GA] at hu; rcases hu with rfl | rfl | rfl <;> rfl) (heap_alloc_same _ _) rfl rfl ?_
    obtain ⟨w3, hw3⟩ : ∃ w3, w3 = (w2.alloc (.cells (Value.agg #[S [], .int .u64 0, .int .u64 0]).cells 65)).putObj w2.heap.size (.cells (GA x).toArray 65 (0, 0)) := ⟨_, rfl⟩
    have hk3 : Keeps NoB w2 w3 := by rw [hw3]; exact ((Keeps.refl NoB w2).alloc _).put _ (fun h => by omega)
    have hf3 : w3.heap[w2.heap.size]? = some (.cells (GA x).toArray 65 (0, 0)) := by rw [hw3]; exact World.putObj_heap_same (by simp)
    have hff3 := hk3.heap hf2 (fun h => h)
    rw [← hw3]
    clear hw3
    (repeat first | (apply wr_move; exact rfl; with_reducible (conv => enter [6, 3]; whnf)) | apply wr_end | apply wc_region | (apply wr_load; (iterate 3 exact rfl); (focus repeat first | with_reducible assumption | exact heap_alloc_same _ _ | exact World.putObj_heap_same (by first | omega | (simp only [World.size_alloc, World.putObj_size, ne_eq]; omega)) | ((first | refine hAl ?_ ?_ | refine hPu ?_ ?_); focus first | omega | (simp only [World.size_alloc, World.putObj_size, ne_eq]; omega))); exact rfl; conv => enter [6, 3]; whnf))
    refine wr_callv rfl (callV_of (args := [.pointer (some ⟨w2.heap.size, 0, none⟩)]) (by kernel_rfl) (addr_ca w2.heap.size w3)) rfl rfl ?_
    rintro v w4 ⟨g, b0, b1, b2, rfl, hFS, hb0, hb1, hb2, hgg, hk4⟩
    have hf4 := hk4.heap hf3 (fun h => h)
    refine wr_call (vs := [.slice (some ⟨g, 0, none⟩) 3 3]) rfl (addrFields_put (w' := w4) x hxo hFS hb0.1 hb1.1 hb2.1 hf4) rfl ?_
    rintro v w5 ⟨rfl, hk5⟩
    refine wr_call (vs := [.int .i64 num, S (addrB x)]) rfl (text_ca num (addrB x) hnum (by omega) _) rfl ?_
    rintro v w6 ⟨rfl, hk6⟩
    have hkk := hk3.trans (hk4.trans (hk5.trans hk6))
    refine wr_call (vs := [.pointer (some ⟨w.heap.size, 0, none⟩), S (textF num (addrB x))]) rfl (writeS_ca w.heap.size w.heap.size _ _ w6 (hBd.kin hkk) (by omega) (hk2.trans hkk).size) rfl ?_
    rintro v w7 ⟨hBd7, hk7⟩
    rw [← listB_take num addrB hx0] at hBd7
    (repeat first | (apply wr_move; exact rfl; with_reducible (conv => enter [6, 3]; whnf)) | apply wr_end | apply wc_region | (apply wr_add; (iterate 3 exact rfl); exact w_fit (by dsimp only [kIn]; first | done | omega)) | (apply wr_nil; try simp only [thenE, inBlockE, bodyQ]))
    exact ⟨k + 1, by omega, ⟨by trivial, hlt, hBd7, (hk2.trans hkk).trans' hk7 (fun i hi h => by omega)⟩, rfl, rfl, rfl, rfl, rfl, by simp, trivial⟩
  · have he : k = l.length := by omega
    subst he
    rw [List.take_length] at hBd
    (repeat first | apply wr_end | apply wc_seq | apply wc_region | (apply wr_cmp; (iterate 3 exact rfl); exact cmpF (by dsimp only [cmpN]; first | done | omega)) | (apply wc_false; exact rfl) | (apply wc_exit; try simp only [thenE, inBlockE, bodyQ, ↓reduceIte, Nat.reduceEqDiff]))
    refine wr_call (vs := [.pointer (some ⟨w.heap.size, 0, none⟩)]) rfl (bstring_ca w.heap.size w.heap.size _ w2 hBd hsz2) rfl ?_
    rintro v w3 ⟨rfl, hk3⟩
    (repeat first | (apply wr_assign; exact rfl; with_reducible (conv => enter [6, 3]; whnf)) | apply wr_end | (apply wc_ret; try simp only [thenE, inBlockE, bodyQ]))
    exact leave1 (v := S (listB num addrB l)) rfl rfl ⟨rfl, hk2.trans' hk3 (fun i hi h => by omega)⟩
end Go.Proofs.YthlbgeonobicbaaDoor
