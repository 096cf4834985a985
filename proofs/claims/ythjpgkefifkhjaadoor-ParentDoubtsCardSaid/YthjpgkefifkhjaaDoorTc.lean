/- A tree in memory; find, Parent, Up, choose. -/
import Derived.Test.YthjpgkefifkhjaaDoorTb
namespace Go.Proofs.YthjpgkefifkhjaaDoor
open Go Go.V Go.RowKit
set_option linter.unusedVariables false
set_option linter.unusedSimpArgs false

/-- A node of a tree. -/
structure ND where
  depth : Int
  cands : List Int
  up : Bool
  par : Int
  doubt : List Int
def ndZ : ND := ⟨0, [], false, 0, []⟩
/-- Where a node lies. -/
structure NL where
  blk : Nat
  cv : Value
  db : Option Nat
abbrev ndC (n : ND) (x : NL) : List Value := [.int .i64 n.depth, x.cv, .bool n.up, .int .i64 n.par, .map x.db]
structure NodeAt (w : World) (n : ND) (x : NL) : Prop where
  cells : w.heap[x.blk]? = some (.cells (ndC n x).toArray 56 (0, 0))
  cands : SlR w 1 x.cv n.cands.length (IL n.cands)
  doubt : match x.db with
    | none => n.doubt = []
    | some b => MetAt w b n.doubt
/-- What lies apart. -/
structure TL (tb lb : Nat) (X : List NL) : Prop where
  nb : ∀ (i j : Nat) (x y : NL), X[i]? = some x → X[j]? = some y → x.blk = y.blk → i = j
  nd : ∀ (i j : Nat) (x y : NL) (b : Nat), X[i]? = some x → X[j]? = some y → x.db = some b → y.db = some b → i = j
  cv : ∀ x ∈ X, ∀ y ∈ X, ∀ b, x.cv.ownBlock = some b → b ≠ y.blk ∧ y.db ≠ some b
  tb : ∀ y ∈ X, tb ≠ y.blk ∧ y.db ≠ some tb
  lb : ∀ y ∈ X, lb ≠ y.blk ∧ y.db ≠ some lb
  bd : ∀ x ∈ X, ∀ y ∈ X, y.db ≠ some x.blk
structure TreeAt (w : World) (tb lb cap : Nat) (T : List ND) (X : List NL) : Prop where
  apart : TL tb lb X
  tr : w.heap[tb]? = some (.cells #[.slice (some ⟨lb, 0, none⟩) X.length cap] 59 (0, 0))
  row : ∃ cur e fr, w.heap[lb]? = some (.cells cur e fr) ∧ ∀ (i : Nat) (x : NL), X[i]? = some x → cur[0 + i * 1]? = some (.pointer (some ⟨x.blk, 0, none⟩))
  cap : X.length ≤ cap
  len : T.length = X.length
  node : ∀ (i : Nat) (n : ND) (x : NL), T[i]? = some n → X[i]? = some x → NodeAt w n x
  small : X.length ≤ 1000
/-- The blocks that a tree's own calls write. -/
def TD (X : List NL) (b : Nat) : Prop := ∃ x ∈ X, x.blk = b ∨ x.db = some b
def ND1 (x : NL) (b : Nat) : Prop := x.blk = b ∨ x.db = some b
theorem NodeAt.keep {D : Nat → Prop} {w w' : World} {n : ND} {x : NL} (h : NodeAt w n x) (k : Keeps D w w') (hb : ¬ D x.blk) (hc : ∀ b, x.cv.ownBlock = some b → ¬ D b) (hd : ∀ b, x.db = some b → ¬ D b) : NodeAt w' n x := by
  refine ⟨k.heap h.cells hb, h.cands.keep k hc, ?_⟩
  have hh := h.doubt
  cases hx : x.db with
  | none => rw [hx] at hh; exact hh
  | some b => rw [hx] at hh; exact MetAt.keep hh k (hd b hx)
theorem TreeAt.kin {w w' : World} {tb lb cap : Nat} {T : List ND} {X : List NL} (h : TreeAt w tb lb cap T X) (k : Keeps NoB w w') : TreeAt w' tb lb cap T X := by
  obtain ⟨cur, e, fr, hb, hr⟩ := h.row
  exact ⟨h.apart, k.heap h.tr (fun h => h), ⟨cur, e, fr, k.heap hb (fun h => h), hr⟩, h.cap, h.len, fun i n x hn hx => (h.node i n x hn hx).keep k (fun h => h) (fun _ _ h => h) (fun _ _ h => h), h.small⟩
/-- One node is turned. -/
theorem TreeAt.upd {w w' : World} {tb lb cap : Nat} {T : List ND} {X : List NL} {i : Nat} {x : NL} {n' : ND} (h : TreeAt w tb lb cap T X) (hx : X[i]? = some x) (k : Keeps (ND1 x) w w') (hn : NodeAt w' n' x) : TreeAt w' tb lb cap (T.set i n') X := by
  have A := h.apart
  have hm := List.mem_of_getElem? hx
  obtain ⟨cur, e, fr, hb, hr⟩ := h.row
  refine ⟨A, k.heap h.tr (fun hd => ?_), ⟨cur, e, fr, k.heap hb (fun hd => ?_), hr⟩, h.cap, by rw [List.length_set]; exact h.len, fun j n y hj hy => ?_, h.small⟩
  · rcases hd with e | e
    · exact (A.tb x hm).1 e.symm
    · exact (A.tb x hm).2 e
  · rcases hd with e | e
    · exact (A.lb x hm).1 e.symm
    · exact (A.lb x hm).2 e
  · by_cases hij : i = j
    · subst hij
      rw [hx] at hy
      cases hy
      have hlt := (List.getElem?_eq_some_iff.1 hx).1
      rw [List.getElem?_set_self (by rw [h.len]; exact hlt)] at hj
      cases hj
      exact hn
    · rw [List.getElem?_set_ne hij] at hj
      have hym := List.mem_of_getElem? hy
      refine (h.node j n y hj hy).keep k (fun hd => ?_) (fun b hb hd => ?_) (fun b hb hd => ?_)
      · rcases hd with e | e
        · exact hij (A.nb i j x y hx hy e)
        · exact A.bd y hym x hm e
      · rcases hd with e | e
        · exact (A.cv y hym x hm b hb).1 e.symm
        · exact (A.cv y hym x hm b hb).2 e
      · rcases hd with e | e
        · exact A.bd x hm y hym (by rw [hb, e])
        · exact hij (A.nd i j x y b hx hy e hb)
def inT (T : List ND) (id : Int) : Prop := 1 ≤ id ∧ id ≤ (T.length : Int) - 1
instance (T : List ND) (id : Int) : Decidable (inT T id) := by unfold inT; infer_instance
def ndAt (T : List ND) (id : Int) : ND := T.getD id.toNat ndZ
def parT (T : List ND) (id : Int) : Int := if inT T id then (ndAt T id).par else 0
def upT (T : List ND) (id : Int) : Bool := if inT T id then (ndAt T id).up else false
set_option maxRecDepth 100000 in
set_option maxHeartbeats 1000000 in
theorem find_ca {tb lb cap : Nat} {T : List ND} {X : List NL} (id : Int) (w : World) (h : TreeAt w tb lb cap T X) :
    Ca Tryd.prog 25 #[.pointer (some ⟨tb, 0, none⟩), .int .i64 id] w fun v w' => w' = w ∧ ((inT T id ∧ ∃ x, X[id.toNat]? = some x ∧ v = .tuple #[.pointer (some ⟨x.blk, 0, none⟩), .bool true]) ∨ (¬ inT T id ∧ v = .tuple #[.pointer none, .bool false])) := by
  refine ca_of_body (args := [.pointer (some ⟨tb, 0, none⟩), .int .i64 id]) Tryd.func25 rfl (by kernel_rfl) ?_
  have htr := h.tr
  have hlen := h.len
  have hsm := h.small
  obtain ⟨cur, e, fr, hb, hr⟩ := h.row
  (repeat first | (apply wr_move; exact rfl; with_reducible (conv => enter [6, 3]; whnf)) | (apply wr_assign; exact rfl; with_reducible (conv => enter [6, 3]; whnf)) | apply wr_end | apply wc_seq | apply wc_region | (apply wr_fieldAddr; iterate 2 exact rfl) | (apply wr_len_slice; iterate 2 exact rfl) | (apply wr_nilCheck; iterate 2 exact rfl) | (apply wr_load; (iterate 3 exact rfl); (focus repeat first | with_reducible assumption | exact heap_alloc_same _ _ | exact World.putObj_heap_same (by first | omega | (simp only [World.size_alloc, World.putObj_size, ne_eq]; omega)) | ((first | refine hAl ?_ ?_ | refine hPu ?_ ?_); focus first | omega | (simp only [World.size_alloc, World.putObj_size, ne_eq]; omega))); exact rfl; conv => enter [6, 3]; whnf) | (apply wr_sub; (iterate 3 exact rfl); exact w_fit (by dsimp only [kIn]; first | done | omega)))
  refine wr_call (vs := [.int .i64 id, .int .i64 1, .int .i64 ((X.length : Int) - 1)]) rfl (in_ca id 1 _ w) rfl ?_
  rintro v w2 ⟨rfl, rfl⟩
  by_cases hin : inT T id
  · have h' : 1 ≤ id ∧ id ≤ (X.length : Int) - 1 := by unfold inT at hin; omega
    rw [decide_eq_true h']
    obtain ⟨x, hx⟩ : ∃ x, X[id.toNat]? = some x := ⟨X[id.toNat]'(by omega), by simp [show id.toNat < X.length by omega]⟩
    obtain ⟨k, rfl⟩ := Int.eq_ofNat_of_zero_le (show 0 ≤ id by omega)
    have hv := hr _ x hx
    (repeat first | (apply wr_move; exact rfl; with_reducible (conv => enter [6, 3]; whnf)) | apply wr_end | apply wc_seq | apply wc_region | apply wc_skip | (apply wr_fieldAddr; iterate 2 exact rfl) | (apply wr_not; iterate 2 exact rfl) | (apply wr_nilCheck; iterate 2 exact rfl) | (apply wr_load; (iterate 3 exact rfl); (focus repeat first | with_reducible assumption | exact heap_alloc_same _ _ | exact World.putObj_heap_same (by first | omega | (simp only [World.size_alloc, World.putObj_size, ne_eq]; omega)) | ((first | refine hAl ?_ ?_ | refine hPu ?_ ?_); focus first | omega | (simp only [World.size_alloc, World.putObj_size, ne_eq]; omega))); exact rfl; conv => enter [6, 3]; whnf) | (apply wc_false; exact rfl))
    refine wr_indexAddr (i := k) rfl rfl rfl (by omega) ?_
    refine wr_load (v := .pointer (some ⟨x.blk, 0, none⟩)) rfl rfl rfl hb hv ?_
    (repeat first | (apply wr_assign; exact rfl; with_reducible (conv => enter [6, 3]; whnf)) | apply wr_end | (apply wc_ret; try simp only [thenE, inBlockE, bodyQ]))
    exact leave2 (v1 := .pointer (some ⟨x.blk, 0, none⟩)) (v2 := .bool true) rfl rfl rfl ⟨rfl, .inl ⟨hin, x, hx, rfl⟩⟩
  · have h' : ¬ (1 ≤ id ∧ id ≤ (X.length : Int) - 1) := by unfold inT at hin; omega
    rw [decide_eq_false h']
    (repeat first | (apply wr_assign; exact rfl; with_reducible (conv => enter [6, 3]; whnf)) | apply wr_end | apply wc_seq | apply wc_region | (apply wr_not; iterate 2 exact rfl) | (apply wc_true; exact rfl) | (apply wc_ret; try simp only [thenE, inBlockE, bodyQ]))
    exact leave2 (v1 := .pointer none) (v2 := .bool false) rfl rfl rfl ⟨rfl, .inr ⟨hin, rfl⟩⟩
theorem TreeAt.at {w : World} {tb lb cap : Nat} {T : List ND} {X : List NL} (h : TreeAt w tb lb cap T X) {k : Nat} {x : NL} (hx : X[k]? = some x) : ∃ n, T[k]? = some n ∧ NodeAt w n x := by
  have hlt := (List.getElem?_eq_some_iff.1 hx).1
  have hl := h.len
  exact ⟨T[k]'(by omega), by simp [show k < T.length by omega], h.node k _ x (by simp [show k < T.length by omega]) hx⟩
theorem ndAt_of {T : List ND} {id : Int} {n : ND} (h : T[id.toNat]? = some n) : ndAt T id = n := by unfold ndAt; simp [h]
set_option maxRecDepth 100000 in
set_option maxHeartbeats 1000000 in
theorem parent_ca {tb lb cap : Nat} {T : List ND} {X : List NL} (id : Int) (w : World) (h : TreeAt w tb lb cap T X) :
    Ca Tryd.prog 15 #[.pointer (some ⟨tb, 0, none⟩), .int .i64 id] w fun v w' => w' = w ∧ v = .int .i64 (parT T id) := by
  refine ca_of_body (args := [.pointer (some ⟨tb, 0, none⟩), .int .i64 id]) Tryd.func15 rfl (by kernel_rfl) ?_
  (repeat first | (apply wr_move; exact rfl; with_reducible (conv => enter [6, 3]; whnf)) | (apply wr_assign; exact rfl; with_reducible (conv => enter [6, 3]; whnf)) | apply wr_end | apply wc_seq | apply wc_region)
  refine wr_call (vs := [.pointer (some ⟨tb, 0, none⟩), .int .i64 id]) rfl (find_ca id w h) rfl ?_
  rintro v w2 ⟨rfl, ⟨hin, x, hx, rfl⟩ | ⟨hin, rfl⟩⟩
  · obtain ⟨n, hn, hN⟩ := h.at hx
    have hc := hN.cells
    have e : parT T id = n.par := by unfold parT; rw [if_pos hin, ndAt_of hn]
    rw [e]
    (repeat first | (apply wr_move; exact rfl; with_reducible (conv => enter [6, 3]; whnf)) | (apply wr_assign; exact rfl; with_reducible (conv => enter [6, 3]; whnf)) | apply wr_end | apply wc_seq | apply wc_region | (apply wr_fieldAddr; iterate 2 exact rfl) | (apply wr_nilCheck; iterate 2 exact rfl) | (apply wr_load; (iterate 3 exact rfl); (focus repeat first | with_reducible assumption | exact heap_alloc_same _ _ | exact World.putObj_heap_same (by first | omega | (simp only [World.size_alloc, World.putObj_size, ne_eq]; omega)) | ((first | refine hAl ?_ ?_ | refine hPu ?_ ?_); focus first | omega | (simp only [World.size_alloc, World.putObj_size, ne_eq]; omega))); exact rfl; conv => enter [6, 3]; whnf) | (apply wr_extract; (iterate 3 exact rfl); with_reducible (conv => enter [6, 3]; whnf)) | (apply wc_true; exact rfl) | (apply wc_ret; try simp only [thenE, inBlockE, bodyQ]))
    exact leave1 (v := .int .i64 n.par) rfl rfl ⟨rfl, rfl⟩
  · have e : parT T id = 0 := if_neg hin
    rw [e]
    (repeat first | (apply wr_move; exact rfl; with_reducible (conv => enter [6, 3]; whnf)) | (apply wr_assign; exact rfl; with_reducible (conv => enter [6, 3]; whnf)) | apply wr_end | apply wc_seq | apply wc_region | apply wc_skip | (apply wr_extract; (iterate 3 exact rfl); with_reducible (conv => enter [6, 3]; whnf)) | (apply wc_false; exact rfl) | (apply wc_ret; try simp only [thenE, inBlockE, bodyQ]))
    exact leave1 (v := .int .i64 0) rfl rfl ⟨rfl, rfl⟩
set_option maxRecDepth 100000 in
set_option maxHeartbeats 1000000 in
theorem up_ca {tb lb cap : Nat} {T : List ND} {X : List NL} (id : Int) (w : World) (h : TreeAt w tb lb cap T X) :
    Ca Tryd.prog 14 #[.pointer (some ⟨tb, 0, none⟩), .int .i64 id] w fun v w' => w' = w ∧ v = .bool (upT T id) := by
  refine ca_of_body (args := [.pointer (some ⟨tb, 0, none⟩), .int .i64 id]) Tryd.func14 rfl (by kernel_rfl) ?_
  (repeat first | (apply wr_move; exact rfl; with_reducible (conv => enter [6, 3]; whnf)) | (apply wr_assign; exact rfl; with_reducible (conv => enter [6, 3]; whnf)) | apply wr_end | apply wc_seq | apply wc_region)
  refine wr_call (vs := [.pointer (some ⟨tb, 0, none⟩), .int .i64 id]) rfl (find_ca id w h) rfl ?_
  rintro v w2 ⟨rfl, ⟨hin, x, hx, rfl⟩ | ⟨hin, rfl⟩⟩
  · obtain ⟨n, hn, hN⟩ := h.at hx
    have hc := hN.cells
    have e : upT T id = n.up := by unfold upT; rw [if_pos hin, ndAt_of hn]
    rw [e]
    (repeat first | (apply wr_move; exact rfl; with_reducible (conv => enter [6, 3]; whnf)) | (apply wr_assign; exact rfl; with_reducible (conv => enter [6, 3]; whnf)) | apply wr_end | apply wc_seq | apply wc_region | (apply wr_fieldAddr; iterate 2 exact rfl) | (apply wr_nilCheck; iterate 2 exact rfl) | (apply wr_load; (iterate 3 exact rfl); (focus repeat first | with_reducible assumption | exact heap_alloc_same _ _ | exact World.putObj_heap_same (by first | omega | (simp only [World.size_alloc, World.putObj_size, ne_eq]; omega)) | ((first | refine hAl ?_ ?_ | refine hPu ?_ ?_); focus first | omega | (simp only [World.size_alloc, World.putObj_size, ne_eq]; omega))); exact rfl; conv => enter [6, 3]; whnf) | (apply wr_pick (t := true); (iterate 2 exact rfl); with_reducible (conv => enter [6, 3]; whnf)) | (apply wr_extract; (iterate 3 exact rfl); with_reducible (conv => enter [6, 3]; whnf)) | (apply wc_ret; try simp only [thenE, inBlockE, bodyQ]))
    exact leave1 (v := .bool n.up) rfl rfl ⟨rfl, rfl⟩
  · have e : upT T id = false := if_neg hin
    rw [e]
    (repeat first | (apply wr_move; exact rfl; with_reducible (conv => enter [6, 3]; whnf)) | (apply wr_assign; exact rfl; with_reducible (conv => enter [6, 3]; whnf)) | apply wr_end | apply wc_seq | apply wc_region | (apply wr_pick (t := false); (iterate 2 exact rfl); with_reducible (conv => enter [6, 3]; whnf)) | (apply wr_extract; (iterate 3 exact rfl); with_reducible (conv => enter [6, 3]; whnf)) | (apply wc_ret; try simp only [thenE, inBlockE, bodyQ]) | (apply wr_skip; exact rfl))
    exact leave1 (v := .bool false) rfl rfl ⟨rfl, rfl⟩
set_option maxRecDepth 100000 in
set_option maxHeartbeats 1000000 in
theorem chooseIn_ca {tb lb cap : Nat} {T : List ND} {X : List NL} {i : Nat} {n : ND} {x : NL} {b : Nat} (c : Int) (hc : inT T c) (xt xn : Nat) {et en : TypeId} (w : World) (h : TreeAt w tb lb cap T X) (hn : T[i]? = some n) (hx : X[i]? = some x) (hdb : x.db = some b)
    (ht : w.heap[xt]? = some (.cells #[.pointer (some ⟨tb, 0, none⟩)] et (0, 0))) (hp : w.heap[xn]? = some (.cells #[.pointer (some ⟨x.blk, 0, none⟩)] en (0, 0))) :
    Ca Tryd.prog 36 #[.int .i64 c, .pointer (some ⟨xt, 0, none⟩), .pointer (some ⟨xn, 0, none⟩)] w fun v w' => w' = w ∧ v = .bool (upT T c && !decide (c ∈ n.doubt)) := by
  refine ca_of_body (args := [.int .i64 c, .pointer (some ⟨xt, 0, none⟩), .pointer (some ⟨xn, 0, none⟩)]) Tryd.func36 rfl (by kernel_rfl) ?_
  have htr := h.tr
  have hlen := h.len
  obtain ⟨cur, e, fr, hb, hr⟩ := h.row
  have hcc : 1 ≤ c ∧ c ≤ (X.length : Int) - 1 := by unfold inT at hc; omega
  obtain ⟨k, rfl⟩ := Int.eq_ofNat_of_zero_le (show 0 ≤ c by omega)
  obtain ⟨y, hy⟩ : ∃ y, X[k]? = some y := ⟨X[k]'(by omega), by simp [show k < X.length by omega]⟩
  obtain ⟨m, hm, hM⟩ := h.at hy
  have hmc := hM.cells
  have hN := h.node i n x hn hx
  have hnc := hN.cells
  have hd := hN.doubt
  rw [hdb] at hd
  obtain ⟨M, hMap, hget⟩ := hd
  have hcells : ndC n x = [.int .i64 n.depth, x.cv, .bool n.up, .int .i64 n.par, .map (some b)] := by rw [ndC, hdb]
  rw [hcells] at hnc
  have eu : upT T (k : Int) = m.up := by unfold upT; rw [if_pos hc, ndAt_of (by simpa using hm)]
  rw [eu]
  (repeat first | (apply wr_move; exact rfl; with_reducible (conv => enter [6, 3]; whnf)) | (apply wr_assign; exact rfl; with_reducible (conv => enter [6, 3]; whnf)) | apply wr_end | apply wc_seq | apply wc_region | (apply wr_fieldAddr; iterate 2 exact rfl) | (apply wr_nilCheck; iterate 2 exact rfl) | (apply wr_load; (iterate 3 exact rfl); (focus repeat first | with_reducible assumption | exact heap_alloc_same _ _ | exact World.putObj_heap_same (by first | omega | (simp only [World.size_alloc, World.putObj_size, ne_eq]; omega)) | ((first | refine hAl ?_ ?_ | refine hPu ?_ ?_); focus first | omega | (simp only [World.size_alloc, World.putObj_size, ne_eq]; omega))); exact rfl; conv => enter [6, 3]; whnf))
  refine wr_indexAddr (i := k) rfl rfl rfl (by omega) ?_
  refine wr_load (v := .pointer (some ⟨y.blk, 0, none⟩)) rfl rfl rfl hb (hr k y hy) ?_
  (repeat first | (apply wr_move; exact rfl; with_reducible (conv => enter [6, 3]; whnf)) | (apply wr_fieldAddr; iterate 2 exact rfl) | (apply wr_nilCheck; iterate 2 exact rfl) | (apply wr_load; (iterate 3 exact rfl); (focus repeat first | with_reducible assumption | exact heap_alloc_same _ _ | exact World.putObj_heap_same (by first | omega | (simp only [World.size_alloc, World.putObj_size, ne_eq]; omega)) | ((first | refine hAl ?_ ?_ | refine hPu ?_ ?_); focus first | omega | (simp only [World.size_alloc, World.putObj_size, ne_eq]; omega))); exact rfl; conv => enter [6, 3]; whnf))
  cases hmu : m.up with
  | false =>
    (repeat first | (apply wr_assign; exact rfl; with_reducible (conv => enter [6, 3]; whnf)) | apply wr_end | (apply wr_pick (t := false); (iterate 2 exact rfl); with_reducible (conv => enter [6, 3]; whnf)) | (apply wc_ret; try simp only [thenE, inBlockE, bodyQ]) | (apply wr_skip; exact rfl))
    exact leave1 (v := .bool false) rfl rfl ⟨rfl, rfl⟩
  | true =>
    (repeat first | (apply wr_move; exact rfl; with_reducible (conv => enter [6, 3]; whnf)) | (apply wr_fieldAddr; iterate 2 exact rfl) | (apply wr_nilCheck; iterate 2 exact rfl) | (apply wr_load; (iterate 3 exact rfl); (focus repeat first | with_reducible assumption | exact heap_alloc_same _ _ | exact World.putObj_heap_same (by first | omega | (simp only [World.size_alloc, World.putObj_size, ne_eq]; omega)) | ((first | refine hAl ?_ ?_ | refine hPu ?_ ?_); focus first | omega | (simp only [World.size_alloc, World.putObj_size, ne_eq]; omega))); exact rfl; conv => enter [6, 3]; whnf))
    refine wr_lookupV (enc := encI .i64) (l := M) (a := (k : Int)) (u := .bool (decide ((k : Int) ∈ n.doubt))) rfl rfl hMap rfl (by rw [hget]; by_cases h : (k : Int) ∈ n.doubt <;> simp [h]) ?_
    (repeat first | (apply wr_assign; exact rfl; with_reducible (conv => enter [6, 3]; whnf)) | apply wr_end | (apply wr_not; iterate 2 exact rfl) | (apply wr_pick (t := true); (iterate 2 exact rfl); with_reducible (conv => enter [6, 3]; whnf)) | (apply wc_ret; try simp only [thenE, inBlockE, bodyQ]))
    exact leave1 rfl rfl ⟨rfl, rfl⟩
end Go.Proofs.YthjpgkefifkhjaaDoor
