/- payload.plain; how a text and a number are taken: what they do. -/
import Derived.Test.YthlbgeonobicbaaDoorYf
namespace Go.Proofs.YthlbgeonobicbaaDoor
open Go Go.V Go.RowKit
set_option linter.unusedVariables false
set_option linter.unusedSimpArgs false

def kindsB (l : List WF) (kind : Int) : Bool := l.all fun x => x.kind == kind
theorem kindsB_take {l : List WF} {kind : Int} {i : Nat} {x : WF} (h : kindsB (l.take i) kind = true) (hx : l[i]? = some x) (hk : x.kind = kind) : kindsB (l.take (i + 1)) kind = true := by
  unfold kindsB at *
  rw [List.take_add_one, hx]
  simp only [Option.toList_some, List.all_append, h, List.all_cons, List.all_nil, hk]; simp
theorem kindsB_no {l : List WF} {kind : Int} {i : Nat} {x : WF} (hx : l[i]? = some x) (hk : x.kind ≠ kind) : kindsB l kind = false := by
  unfold kindsB
  rw [List.all_eq_false]
  exact ⟨x, List.mem_of_getElem? hx, by simpa using hk⟩
set_option maxRecDepth 100000 in
set_option maxHeartbeats 1000000 in
theorem plain_ca (l : List WF) (kind : Int) (dov sl : Value) (I : Nat → World → Prop) (w : World) (hlen : l.length ≤ 1000000000000) (h0 : I 0 w) (hI : ∀ i w' w'', I i w' → Keeps NoB w' w'' → I i w'') (hsl : ∀ i w', I i w' → SlR w' 4 sl l.length (FL l))
    (hdo : ∀ i x w', l[i]? = some x → I i w' → CallV Tryd.prog dov #[x.v] w' fun _ w'' => I (i + 1) w'') :
    Ca Tryd.prog 68 #[sl, .int .i64 kind, dov] w fun v w' => (v = .bool true ∧ kindsB l kind = true ∧ I l.length w') ∨ (v = .bool false ∧ kindsB l kind = false ∧ ∃ i, I i w') := by
  obtain ⟨a, c, rfl, hc, _⟩ := (hsl 0 w h0).shape
  refine ca_of_body (args := [.slice a l.length c, .int .i64 kind, dov]) Tryd.func68 rfl (by kernel_rfl) ?_
  (repeat first | (apply wr_move; exact rfl; with_reducible (conv => enter [6, 3]; whnf)) | (apply wr_assign; exact rfl; with_reducible (conv => enter [6, 3]; whnf)) | apply wr_end | apply wc_seq | apply wc_region | apply wc_block | (apply wr_len_slice; iterate 2 exact rfl))
  refine wc_loopL (α := Nat) (fun i => [(1, .int .i64 kind), (2, dov), (9, .slice a l.length c), (10, .int .i64 (l.length : Int)), (11, .int .i64 (i : Int))])
    (fun i ds w' => ds = [] ∧ i ≤ l.length ∧ kindsB (l.take i) kind = true ∧ I i w') (fun i => l.length - i) 0 ⟨rfl, Nat.zero_le _, rfl, h0⟩ ⟨rfl, rfl, rfl, rfl, rfl, trivial⟩ ?_
  rintro i ds f0 w2 ⟨rfl, hi, hkb, hIi⟩
  by_cases hlt : i < l.length
  · obtain ⟨a', c', hs', _, hat⟩ := (hsl i w2 hIi).shape
    simp only [Value.slice.injEq, true_and] at hs'
    obtain ⟨rfl, rfl⟩ := hs'
    obtain ⟨b, o, rfl, cur, e, fr, hb, hr⟩ := hat (by omega)
    obtain ⟨x, hx⟩ : ∃ x, l[i]? = some x := ⟨l[i], by simp [hlt]⟩
    obtain ⟨xn, xk, xv, xs⟩ := x
    (repeat first | apply wr_end | apply wc_seq | apply wc_region | apply wc_skip | apply wc_block | (apply wr_cmp; (iterate 3 exact rfl); exact cmpT (by dsimp only [cmpP]; first | done | omega)) | (apply wc_true; exact rfl))
    refine wr_indexAddr (i := i) rfl rfl rfl hlt ?_
    refine wr_loadElem (G := WF.cs) rfl rfl WF.cs_len rfl hb hr hlt hx rfl ?_
    (repeat first | (apply wr_alloc; exact rfl))
    refine wr_storeAll (cs := [.int .i64 xn, .int .i64 xk, .int .u64 (xv : Int), S xs]) rfl rfl rfl (by intro u hu; simp at hu; rcases hu with rfl | rfl | rfl | rfl <;> rfl) (heap_alloc_same _ _) rfl rfl ?_
    obtain ⟨w3, hw3⟩ : ∃ w3, w3 = (w2.alloc (.cells (Value.agg #[.int .i64 0, .int .i64 0, .int .u64 0, S []]).cells 101)).putObj w2.heap.size (.cells #[.int .i64 xn, .int .i64 xk, .int .u64 (xv : Int), S xs] 101 (0, 0)) := ⟨_, rfl⟩
    have hk3 : Keeps NoB w2 w3 := by rw [hw3]; exact ((Keeps.refl NoB w2).alloc _).put _ (fun h => by omega)
    have hf3 : w3.heap[w2.heap.size]? = some (.cells #[.int .i64 xn, .int .i64 xk, .int .u64 (xv : Int), S xs] 101 (0, 0)) := by rw [hw3]; exact World.putObj_heap_same (by simp)
    rw [← hw3]
    clear hw3
    have hI3 := hI i w2 w3 hIi hk3
    by_cases he : xk = kind
    · (repeat first | (apply wr_move; exact rfl; with_reducible (conv => enter [6, 3]; whnf)) | apply wr_end | apply wc_seq | apply wc_region | apply wc_skip | (apply wr_fieldAddr; iterate 2 exact rfl) | (apply wr_load; (iterate 3 exact rfl); (focus repeat first | with_reducible assumption | exact heap_alloc_same _ _ | exact World.putObj_heap_same (by first | omega | (simp only [World.size_alloc, World.putObj_size, ne_eq]; omega)) | ((first | refine hAl ?_ ?_ | refine hPu ?_ ?_); focus first | omega | (simp only [World.size_alloc, World.putObj_size, ne_eq]; omega))); exact rfl; conv => enter [6, 3]; whnf) | (apply wr_cmp; (iterate 3 exact rfl); exact cmpF (by dsimp only [cmpN]; first | done | omega)) | (apply wc_false; exact rfl))
      refine wr_loadAll (cs := [.int .i64 xn, .int .i64 xk, .int .u64 (xv : Int), S xs]) rfl rfl rfl hf3 rfl ?_
      refine wr_callv rfl (hdo i ⟨xn, xk, xv, xs⟩ w3 hx hI3) rfl rfl ?_
      intro v w4 hI4
      (repeat first | (apply wr_move; exact rfl; with_reducible (conv => enter [6, 3]; whnf)) | apply wr_end | apply wc_region | (apply wr_add; (iterate 3 exact rfl); exact w_fit (by dsimp only [kIn]; first | done | omega)) | (apply wr_nil; try simp only [thenE, inBlockE, bodyQ]))
      exact ⟨i + 1, by omega, ⟨by trivial, hlt, kindsB_take hkb hx he, hI4⟩, rfl, rfl, rfl, rfl, by simp, trivial⟩
    · (repeat first | (apply wr_move; exact rfl; with_reducible (conv => enter [6, 3]; whnf)) | (apply wr_assign; exact rfl; with_reducible (conv => enter [6, 3]; whnf)) | apply wr_end | apply wc_seq | apply wc_region | (apply wr_fieldAddr; iterate 2 exact rfl) | (apply wr_load; (iterate 3 exact rfl); (focus repeat first | with_reducible assumption | exact heap_alloc_same _ _ | exact World.putObj_heap_same (by first | omega | (simp only [World.size_alloc, World.putObj_size, ne_eq]; omega)) | ((first | refine hAl ?_ ?_ | refine hPu ?_ ?_); focus first | omega | (simp only [World.size_alloc, World.putObj_size, ne_eq]; omega))); exact rfl; conv => enter [6, 3]; whnf) | (apply wr_cmp; (iterate 3 exact rfl); exact cmpT (by dsimp only [cmpP]; first | done | omega)) | (apply wc_true; exact rfl) | (apply wc_ret; try simp only [thenE, inBlockE, bodyQ]))
      exact leave1 (v := .bool false) rfl rfl (.inr ⟨rfl, kindsB_no hx he, i, hI3⟩)
  · have he : i = l.length := by omega
    subst he
    rw [List.take_length] at hkb
    (repeat first | (apply wr_assign; exact rfl; with_reducible (conv => enter [6, 3]; whnf)) | apply wr_end | apply wc_seq | apply wc_region | (apply wr_cmp; (iterate 3 exact rfl); exact cmpF (by dsimp only [cmpN]; first | done | omega)) | (apply wc_false; exact rfl) | (apply wc_exit; try simp only [thenE, inBlockE, bodyQ, ↓reduceIte, Nat.reduceEqDiff]) | (apply wc_ret; try simp only [thenE, inBlockE, bodyQ]))
    exact leave1 (v := .bool true) rfl rfl (.inl ⟨rfl, hkb, hIi⟩)
def lastS (s0 : List UInt8) (l : List WF) : List UInt8 := (l.getLast?.map (·.s)).getD s0
def lastN (n0 : Nat) (l : List WF) : Nat := (l.getLast?.map (·.n)).getD n0
theorem lastS_take {l : List WF} {s0 : List UInt8} {i : Nat} {x : WF} (hx : l[i]? = some x) : lastS s0 (l.take (i + 1)) = x.s := by
  unfold lastS
  rw [List.take_add_one, hx]; simp
theorem lastN_take {l : List WF} {n0 : Nat} {i : Nat} {x : WF} (hx : l[i]? = some x) : lastN n0 (l.take (i + 1)) = x.n := by
  unfold lastN
  rw [List.take_add_one, hx]; simp
set_option maxRecDepth 100000 in
theorem textDo_ca {bx b o : Nat} {cur : Array Value} {e : TypeId} (x : WF) {w : World} (hx : w.heap[bx]? = some (.cells #[.pointer (some ⟨b, o, none⟩)] 104 (0, 0))) (hb : w.heap[b]? = some (.cells cur e (0, 0))) (ho : o < cur.size) :
    Ca Tryd.prog 69 #[x.v, .pointer (some ⟨bx, 0, none⟩)] w fun v w' => w'.heap[b]? = some (.cells (cur.setIfInBounds o (S x.s)) e (0, 0)) ∧ Keeps (· = b) w w' := by
  obtain ⟨xn, xk, xv, xs⟩ := x
  refine ca_of_body (args := [.agg #[.int .i64 xn, .int .i64 xk, .int .u64 (xv : Int), S xs], .pointer (some ⟨bx, 0, none⟩)]) Tryd.func69 rfl (by kernel_rfl) ?_
  have hbx := lt_of_heap hx
  have hbb := lt_of_heap hb
  have hc : (Value.agg #[.int .i64 xn, .int .i64 xk, .int .u64 (xv : Int), S xs]).cells = #[.int .i64 xn, .int .i64 xk, .int .u64 (xv : Int), S xs] := rfl
  obtain ⟨u, hu⟩ : ∃ u, cur[o]? = some u := ⟨cur[o], by simp [ho]⟩
  (repeat first | apply wr_end | apply wc_seq | apply wc_region | (apply wr_fieldAddr; iterate 2 exact rfl) | (apply wr_box; iterate 2 exact rfl) | (apply wr_nilCheck; iterate 2 exact rfl) | (apply wr_load; (iterate 3 exact rfl); (focus repeat first | with_reducible assumption | exact heap_alloc_same _ _ | exact World.putObj_heap_same (by first | omega | (simp only [World.size_alloc, World.putObj_size, ne_eq]; omega)) | ((first | refine hAl ?_ ?_ | refine hPu ?_ ?_); focus first | omega | (simp only [World.size_alloc, World.putObj_size, ne_eq]; omega))); exact rfl; conv => enter [6, 3]; whnf))
  refine wr_store rfl rfl rfl rfl (hAl (by omega) hb) hu ?_
  (repeat first | (apply wr_nil; try simp only [thenE, inBlockE, bodyQ]))
  try simp only [bodyQ]
  exact leave0 rfl ⟨World.putObj_heap_same (by simp only [World.size_alloc]; omega), ((Keeps.refl _ w).alloc _).put _ (fun _ => rfl)⟩
set_option maxRecDepth 100000 in
/-- The last one counts. -/
theorem textTk_ca (l : List WF) (hlen : l.length ≤ 1000000000000) {bx b o : Nat} {cur : Array Value} {e : TypeId} (s0 : List UInt8) (sl : Value) {w : World} (hbx : w.heap[bx]? = some (.cells #[.pointer (some ⟨b, o, none⟩)] 104 (0, 0))) (hb : w.heap[b]? = some (.cells cur e (0, 0))) (ho : cur[o]? = some (S s0)) (hne : bx ≠ b) (hsl : SlR w 4 sl l.length (FL l)) (hsb : sl.ownBlock ≠ some b) :
    Ca Tryd.prog 67 #[sl, .pointer (some ⟨bx, 0, none⟩)] w fun v w' => ∃ y0 : List UInt8, w'.heap[b]? = some (.cells (cur.setIfInBounds o (S y0)) e (0, 0)) ∧ Keeps (· = b) w w' ∧ ((v = .bool true ∧ kindsB l 2 = true ∧ y0 = lastS s0 l) ∨ (v = .bool false ∧ kindsB l 2 = false)) ∧ (y0 = s0 ∨ ∃ x ∈ l, y0 = x.s) := by
  refine ca_of_body (args := [sl, .pointer (some ⟨bx, 0, none⟩)]) Tryd.func67 rfl (by kernel_rfl) ?_
  have hosz : o < cur.size := (Array.getElem?_eq_some_iff.1 ho).1
  have hset : cur.setIfInBounds o (S s0) = cur := by
    apply Array.ext_getElem?
    intro j
    rw [Array.getElem?_setIfInBounds]
    split
    · rename_i h; subst h; first | (rw [ho]; done) | (rw [ho]; simp [hosz])
    · rfl
  (repeat first | (apply wr_move; exact rfl; with_reducible (conv => enter [6, 3]; whnf)) | (apply wr_assign; exact rfl; with_reducible (conv => enter [6, 3]; whnf)) | apply wr_end | apply wc_seq | apply wc_region)
  refine wr_makeFunc rfl rfl rfl ?_
  refine wr_call (vs := [sl, .int .i64 2, .func (.func 69) #[] #[.pointer (some ⟨bx, 0, none⟩)]]) rfl (plain_ca l 2 _ sl (fun i w' => ∃ y0 : List UInt8, w'.heap[b]? = some (.cells (cur.setIfInBounds o (S y0)) e (0, 0)) ∧ Keeps (· = b) w w' ∧ y0 = lastS s0 (l.take i) ∧ (y0 = s0 ∨ ∃ x ∈ l, y0 = x.s)) w hlen ⟨s0, by rw [hset]; exact hb, Keeps.refl _ w, rfl, .inl rfl⟩ ?_ ?_ ?_) rfl ?_
  · rintro i w' w'' ⟨y0, h1, h2, h3, h4⟩ k
    exact ⟨y0, k.heap h1 (fun h => h), h2.trans' k (fun i hi h => h.elim), h3, h4⟩
  · rintro i w' ⟨y0, h1, h2, h3, h4⟩
    exact hsl.keep h2 (fun b' hb' e => hsb (by rw [hb', e]))
  · rintro i x w' hx ⟨y0, h1, h2, h3, h4⟩
    refine callV_of (args := [x.v]) (by kernel_rfl) (Ca.mono (textDo_ca x (h2.heap hbx hne) h1 (by simpa using hosz)) ?_)
    rintro v w'' ⟨h5, h6⟩
    refine ⟨x.s, ?_, h2.trans h6, (lastS_take hx).symm, .inr ⟨x, List.mem_of_getElem? hx, rfl⟩⟩
    rw [h5]
    congr 2
    simp
  · rintro v w1 (⟨rfl, hk, y0, h1, h2, h3, h4⟩ | ⟨rfl, hk, i, y0, h1, h2, h3, h4⟩)
    · rw [List.take_length] at h3
      (repeat first | (apply wr_assign; exact rfl; with_reducible (conv => enter [6, 3]; whnf)) | apply wr_end | (apply wc_ret; try simp only [thenE, inBlockE, bodyQ]))
      exact leave1 (v := .bool true) rfl rfl ⟨y0, h1, h2, .inl ⟨rfl, hk, h3⟩, h4⟩
    · (repeat first | (apply wr_assign; exact rfl; with_reducible (conv => enter [6, 3]; whnf)) | apply wr_end | (apply wc_ret; try simp only [thenE, inBlockE, bodyQ]))
      exact leave1 (v := .bool false) rfl rfl ⟨y0, h1, h2, .inr ⟨rfl, hk⟩, h4⟩
set_option maxRecDepth 100000 in
theorem numDo_ca {bx b o : Nat} {cur : Array Value} {e : TypeId} (x : WF) {w : World} (hx : w.heap[bx]? = some (.cells #[.pointer (some ⟨b, o, none⟩)] 106 (0, 0))) (hb : w.heap[b]? = some (.cells cur e (0, 0))) (ho : o < cur.size) :
    Ca Tryd.prog 72 #[x.v, .pointer (some ⟨bx, 0, none⟩)] w fun v w' => w'.heap[b]? = some (.cells (cur.setIfInBounds o (.int .u64 (x.n : Int))) e (0, 0)) ∧ Keeps (· = b) w w' := by
  obtain ⟨xn, xk, xv, xs⟩ := x
  refine ca_of_body (args := [.agg #[.int .i64 xn, .int .i64 xk, .int .u64 (xv : Int), S xs], .pointer (some ⟨bx, 0, none⟩)]) Tryd.func72 rfl (by kernel_rfl) ?_
  have hbx := lt_of_heap hx
  have hbb := lt_of_heap hb
  have hc : (Value.agg #[.int .i64 xn, .int .i64 xk, .int .u64 (xv : Int), S xs]).cells = #[.int .i64 xn, .int .i64 xk, .int .u64 (xv : Int), S xs] := rfl
  obtain ⟨u, hu⟩ : ∃ u, cur[o]? = some u := ⟨cur[o], by simp [ho]⟩
  (repeat first | apply wr_end | apply wc_seq | apply wc_region | (apply wr_fieldAddr; iterate 2 exact rfl) | (apply wr_box; iterate 2 exact rfl) | (apply wr_nilCheck; iterate 2 exact rfl) | (apply wr_load; (iterate 3 exact rfl); (focus repeat first | with_reducible assumption | exact heap_alloc_same _ _ | exact World.putObj_heap_same (by first | omega | (simp only [World.size_alloc, World.putObj_size, ne_eq]; omega)) | ((first | refine hAl ?_ ?_ | refine hPu ?_ ?_); focus first | omega | (simp only [World.size_alloc, World.putObj_size, ne_eq]; omega))); exact rfl; conv => enter [6, 3]; whnf))
  refine wr_store rfl rfl rfl rfl (hAl (by omega) hb) hu ?_
  (repeat first | (apply wr_nil; try simp only [thenE, inBlockE, bodyQ]))
  try simp only [bodyQ]
  exact leave0 rfl ⟨World.putObj_heap_same (by simp only [World.size_alloc]; omega), ((Keeps.refl _ w).alloc _).put _ (fun _ => rfl)⟩
set_option maxRecDepth 100000 in
/-- The last one counts. -/
theorem numTk_ca (l : List WF) (hlen : l.length ≤ 1000000000000) {bx b o : Nat} {cur : Array Value} {e : TypeId} (s0 : Nat) (sl : Value) {w : World} (hbx : w.heap[bx]? = some (.cells #[.pointer (some ⟨b, o, none⟩)] 106 (0, 0))) (hb : w.heap[b]? = some (.cells cur e (0, 0))) (ho : cur[o]? = some (.int .u64 (s0 : Int))) (hne : bx ≠ b) (hsl : SlR w 4 sl l.length (FL l)) (hsb : sl.ownBlock ≠ some b) :
    Ca Tryd.prog 71 #[sl, .pointer (some ⟨bx, 0, none⟩)] w fun v w' => ∃ y0 : Nat, w'.heap[b]? = some (.cells (cur.setIfInBounds o (.int .u64 (y0 : Int))) e (0, 0)) ∧ Keeps (· = b) w w' ∧ ((v = .bool true ∧ kindsB l 0 = true ∧ y0 = lastN s0 l) ∨ (v = .bool false ∧ kindsB l 0 = false)) ∧ (y0 = s0 ∨ ∃ x ∈ l, y0 = x.n) := by
  refine ca_of_body (args := [sl, .pointer (some ⟨bx, 0, none⟩)]) Tryd.func71 rfl (by kernel_rfl) ?_
  have hosz : o < cur.size := (Array.getElem?_eq_some_iff.1 ho).1
  have hset : cur.setIfInBounds o (.int .u64 (s0 : Int)) = cur := by
    apply Array.ext_getElem?
    intro j
    rw [Array.getElem?_setIfInBounds]
    split
    · rename_i h; subst h; first | (rw [ho]; done) | (rw [ho]; simp [hosz])
    · rfl
  (repeat first | (apply wr_move; exact rfl; with_reducible (conv => enter [6, 3]; whnf)) | (apply wr_assign; exact rfl; with_reducible (conv => enter [6, 3]; whnf)) | apply wr_end | apply wc_seq | apply wc_region)
  refine wr_makeFunc rfl rfl rfl ?_
  refine wr_call (vs := [sl, .int .i64 0, .func (.func 72) #[] #[.pointer (some ⟨bx, 0, none⟩)]]) rfl (plain_ca l 0 _ sl (fun i w' => ∃ y0 : Nat, w'.heap[b]? = some (.cells (cur.setIfInBounds o (.int .u64 (y0 : Int))) e (0, 0)) ∧ Keeps (· = b) w w' ∧ y0 = lastN s0 (l.take i) ∧ (y0 = s0 ∨ ∃ x ∈ l, y0 = x.n)) w hlen ⟨s0, by rw [hset]; exact hb, Keeps.refl _ w, rfl, .inl rfl⟩ ?_ ?_ ?_) rfl ?_
  · rintro i w' w'' ⟨y0, h1, h2, h3, h4⟩ k
    exact ⟨y0, k.heap h1 (fun h => h), h2.trans' k (fun i hi h => h.elim), h3, h4⟩
  · rintro i w' ⟨y0, h1, h2, h3, h4⟩
    exact hsl.keep h2 (fun b' hb' e => hsb (by rw [hb', e]))
  · rintro i x w' hx ⟨y0, h1, h2, h3, h4⟩
    refine callV_of (args := [x.v]) (by kernel_rfl) (Ca.mono (numDo_ca x (h2.heap hbx hne) h1 (by simpa using hosz)) ?_)
    rintro v w'' ⟨h5, h6⟩
    refine ⟨x.n, ?_, h2.trans h6, (lastN_take hx).symm, .inr ⟨x, List.mem_of_getElem? hx, rfl⟩⟩
    rw [h5]
    congr 2
    simp
  · rintro v w1 (⟨rfl, hk, y0, h1, h2, h3, h4⟩ | ⟨rfl, hk, i, y0, h1, h2, h3, h4⟩)
    · rw [List.take_length] at h3
      (repeat first | (apply wr_assign; exact rfl; with_reducible (conv => enter [6, 3]; whnf)) | apply wr_end | (apply wc_ret; try simp only [thenE, inBlockE, bodyQ]))
      exact leave1 (v := .bool true) rfl rfl ⟨y0, h1, h2, .inl ⟨rfl, hk, h3⟩, h4⟩
    · (repeat first | (apply wr_assign; exact rfl; with_reducible (conv => enter [6, 3]; whnf)) | apply wr_end | (apply wc_ret; try simp only [thenE, inBlockE, bodyQ]))
      exact leave1 (v := .bool false) rfl rfl ⟨y0, h1, h2, .inr ⟨rfl, hk⟩, h4⟩
end Go.Proofs.YthlbgeonobicbaaDoor
