/- Text. -/
import Derived.Test.YthjpgkefifkhjaaDoorTk
import Derived.Test.YthjpgkefifkhjaaDoorShelf
import Derived.Lib.Join
namespace Go.Proofs.YthjpgkefifkhjaaDoor
open Go Go.V Go.RowKit
set_option linter.unusedVariables false
set_option linter.unusedSimpArgs false

theorem itoa_ca (i : Nat) (hi : i < 100) (w : World) : Ca Tryd.prog 23 #[.int .i64 (i : Int)] w fun v w' => v = S (Lib.decDigits i) ∧ w' = w :=
  Ca.of_calls (Tryd.strconv_Itoa_small i hi w) (fun e w' ⟨h1, h2⟩ => ⟨_, h1, rfl, h2⟩)
theorem dec_len {i : Nat} (hi : i < 100) : (Lib.decDigits i).length ≤ 2 := by
  by_cases h : i < 10
  · rw [Lib.decDigits_one h]; simp
  · rw [Lib.decDigits_two h hi]; simp
theorem join_len (l : List (List UInt8)) (sep : List UInt8) (m : Nat) (h : ∀ x ∈ l, x.length ≤ m) : (Lib.join l sep).length ≤ l.length * (m + sep.length) := by
  unfold Lib.join
  induction l with
  | nil => simp [List.intercalate]
  | cons x l ih =>
    have hx := h x (by simp)
    have ih' := ih (fun y hy => h y (by simp [hy]))
    cases l with
    | nil => simp [List.intercalate]; omega
    | cons y l =>
      have e : sep.intercalate (x :: y :: l) = x ++ (sep ++ sep.intercalate (y :: l)) := by simp [List.intercalate, List.intersperse]
      rw [e, List.length_append, List.length_append, List.length_cons, Nat.succ_mul]
      omega
theorem join_ca (l : List (List UInt8)) (sep : List UInt8) (sl : Value) (w : World) (hsl : SlR w 1 sl l.length (l.map S)) (hn : l.length ≤ 1000000) (hlen : (Lib.join l sep).length ≤ 140737488355328) :
    Ca Tryd.prog 24 #[sl, S sep] w fun v w' => v = S (Lib.join l sep) ∧ Keeps NoB w w' := by
  obtain ⟨_, a, c, rfl, hc, hat⟩ := hsl
  by_cases h0 : l.length = 0
  · have hl := List.length_eq_zero_iff.1 h0
    subst hl
    exact Ca.of_calls (Tryd.strings_Join_none a c ⟨sep.toArray⟩ w) (fun e w' ⟨h1, h2⟩ => ⟨_, h1, rfl, by rw [h2]; exact Keeps.refl _ _⟩)
  · rcases hat with ⟨h, _⟩ | ⟨b, o, cur, e, fr, rfl, hb, hr⟩
    · omega
    · have hm : (l.map (fun x => (⟨x.toArray⟩ : ByteArray))).map (·.data.toList) = l := by rw [List.map_map]; simp [Function.comp_def]
      have hcl := Tryd.strings_Join b o c (l.map (fun x => (⟨x.toArray⟩ : ByteArray))) ⟨sep.toArray⟩ w (fun j x hx => by
          rw [List.getElem?_map] at hx
          obtain ⟨y, hy, rfl⟩ := Option.map_eq_some_iff.1 hx
          have hlt := (List.getElem?_eq_some_iff.1 hy).1
          exact cell_of_heap hb (by rw [hr j (by omega)]; simp [hy])) (lt_of_heap hb) (by rw [List.length_map]; omega) (by rw [List.length_map]; exact hc) (by rw [hm]; simpa using hlen)
      rw [List.length_map, hm] at hcl
      exact Ca.of_calls hcl (fun e w' ⟨h1, h2⟩ => ⟨_, h1, rfl, Keeps.of_below h2⟩)
/-- A node as it is read. -/
def textN (k : Nat) (n : ND) : List UInt8 := if n.up = true then Lib.decDigits k ++ [62] ++ Lib.decDigits n.par.toNat else Lib.decDigits k ++ [45]
def textL (T : List ND) (m : Nat) : List (List UInt8) := (List.range m).map fun k => textN (k + 1) (T.getD (k + 1) ndZ)
def textT (T : List ND) : List UInt8 := Lib.join (textL T (T.length - 1)) [32]
def ParB (T : List ND) : Prop := ∀ n ∈ T, 0 ≤ n.par ∧ n.par < 100
theorem textN_len {k : Nat} {n : ND} (hk : k < 100) (hp : 0 ≤ n.par ∧ n.par < 100) : (textN k n).length ≤ 5 := by
  unfold textN
  have h1 := dec_len hk
  have h2 := dec_len (show n.par.toNat < 100 by omega)
  split <;> simp <;> omega
theorem textL_snoc (T : List ND) (m : Nat) : textL T (m + 1) = textL T m ++ [textN (m + 1) (T.getD (m + 1) ndZ)] := by unfold textL; rw [List.range_succ]; simp
set_option maxRecDepth 100000 in
set_option maxHeartbeats 4000000 in
theorem text_ca {tb lb cap : Nat} {T : List ND} {X : List NL} (w : World) (h : TreeAt w tb lb cap T X) (hT : 1 ≤ T.length ∧ T.length ≤ 90) (hpar : ParB T) :
    Ca Tryd.prog 12 #[.pointer (some ⟨tb, 0, none⟩)] w fun v w' => v = S (textT T) ∧ Keeps NoB w w' := by
  refine ca_of_body (args := [.pointer (some ⟨tb, 0, none⟩)]) Tryd.func12 rfl (by kernel_rfl) ?_
  have htr := h.tr
  have hlen := h.len
  have hcap := h.cap
  obtain ⟨cur, e, fr, hb, hr⟩ := h.row
  (repeat first | (apply wr_move; exact rfl; with_reducible (conv => enter [6, 3]; whnf)) | (apply wr_assign; exact rfl; with_reducible (conv => enter [6, 3]; whnf)) | apply wr_end | apply wc_seq | apply wc_region | (apply wr_fieldAddr; iterate 2 exact rfl) | (apply wr_nilCheck; iterate 2 exact rfl) | (apply wr_load; (iterate 3 exact rfl); (focus repeat first | with_reducible assumption | exact heap_alloc_same _ _ | exact World.putObj_heap_same (by first | omega | (simp only [World.size_alloc, World.putObj_size, ne_eq]; omega)) | ((first | refine hAl ?_ ?_ | refine hPu ?_ ?_); focus first | omega | (simp only [World.size_alloc, World.putObj_size, ne_eq]; omega))); exact rfl; conv => enter [6, 3]; whnf))
  refine wr_sl_slice (i := 1) (j := X.length) rfl rfl (.inl ⟨rfl, rfl⟩) (.inr ⟨_, rfl, by omega⟩) ?_
  obtain ⟨av, hav⟩ : ∃ av, av = (if cap = 1 then some (⟨lb, 0, none⟩ : Addr) else Option.map (fun x : Addr => x.add (1 * 1)) (some ⟨lb, 0, none⟩)) := ⟨_, rfl⟩
  rw [← hav]
  obtain ⟨m, hm⟩ : ∃ m, m = X.length - 1 := ⟨_, rfl⟩
  rw [← hm]
  have hav2 : 0 < m → av = some ⟨lb, 1, none⟩ := fun hp => by
    rw [hav, if_neg (by omega)]; simp [addr_add]
  (repeat first | (apply wr_move; exact rfl; with_reducible (conv => enter [6, 3]; whnf)) | apply wr_end | apply wc_block | (apply wr_len_slice; iterate 2 exact rfl))
  refine wc_loopL (α := Nat × Value) (fun x => [(3, x.2), (11, .slice av m (cap - 1)), (12, .int .i64 (m : Int)), (13, .int .i64 (x.1 : Int))])
    (fun x ds w' => ds = [] ∧ x.1 ≤ m ∧ w'.ownsRow w.heap.size 9 1 x.2 x.1 ((textL T x.1).map S) ∧ Keeps NoB w w') (fun x => m - x.1) (0, .slice none 0 0) ⟨rfl, Nat.zero_le _, own_nil _ _ _ _, Keeps.refl _ _⟩ ⟨rfl, rfl, rfl, rfl, trivial⟩ ?_
  rintro ⟨i, v⟩ ds f0 w2 ⟨rfl, hi, ho2, hk2⟩
  dsimp only at hi ho2 ⊢
  have h2 := h.kin hk2
  have hll : (textL T i).length = i := by simp [textL]
  by_cases hlt : i < m
  · obtain ⟨x, hx⟩ : ∃ x, X[i + 1]? = some x := ⟨X[i + 1]'(by omega), by simp [show i + 1 < X.length by omega]⟩
    obtain ⟨n, hn, hN⟩ := h2.at hx
    have hb2 := hk2.heap hb (fun h => h)
    have hgn : T.getD (i + 1) ndZ = n := by simp [hn]
    obtain ⟨hp0, hp1⟩ := hpar n (List.mem_of_getElem? hn)
    obtain ⟨pp, hpp⟩ := Int.eq_ofNat_of_zero_le hp0
    have hd1 := dec_len (show i + 1 < 100 by omega)
    have hd2 := dec_len (show pp < 100 by omega)
    have hav3 := hav2 (by omega)
    have hc' : w2.heap[x.blk]? = some (.cells #[.int .i64 n.depth, x.cv, .bool n.up, .int .i64 (pp : Int), .map x.db] 56 (0, 0)) := by rw [← hpp]; exact hN.cells
    have hv : cur[1 + i * 1]? = some (.pointer (some ⟨x.blk, 0, none⟩)) := by have := hr (i + 1) x hx; rw [← this]; congr 1; omega
    subst hav3
    (repeat first | (apply wr_move; exact rfl; with_reducible (conv => enter [6, 3]; whnf)) | apply wr_end | apply wc_seq | apply wc_region | apply wc_skip | apply wc_block | (apply wr_cmp; (iterate 3 exact rfl); exact cmpT (by dsimp only [cmpP]; first | done | omega)) | (apply wc_true; exact rfl))
    refine wr_indexAddr (i := i) rfl rfl rfl hlt ?_
    refine wr_load (v := .pointer (some ⟨x.blk, 0, none⟩)) rfl rfl rfl hb2 hv ?_
    (repeat first | (apply wr_move; exact rfl; with_reducible (conv => enter [6, 3]; whnf)) | (apply wr_assign; exact rfl; with_reducible (conv => enter [6, 3]; whnf)) | apply wr_end | apply wc_seq | apply wc_region | (apply wr_add; (iterate 3 exact rfl); exact w_fit (by dsimp only [kIn]; first | done | omega)))
    refine wr_call (vs := [.int .i64 ((i + 1 : Nat) : Int)]) rfl (itoa_ca (i + 1) (by omega) w2) rfl ?_
    rintro vv w3 ⟨rfl, rfl⟩
    refine wr_cat (b := [45]) rfl rfl rfl (by simp only [List.length_cons, List.length_nil]; omega) ?_
    have htx : textN (i + 1) n = if n.up = true then Lib.decDigits (i + 1) ++ [62] ++ Lib.decDigits pp else Lib.decDigits (i + 1) ++ [45] := by unfold textN; rw [hpp]; rfl
    have hsn := textL_snoc T i
    rw [hgn] at hsn
    cases hu : n.up with
    | false =>
      rw [hu] at hc' htx
      rw [if_neg (by simp)] at htx
      (repeat first | (apply wr_move; exact rfl; with_reducible (conv => enter [6, 3]; whnf)) | (apply wr_assign; exact rfl; with_reducible (conv => enter [6, 3]; whnf)) | apply wr_end | apply wc_seq | apply wc_region | apply wc_skip | (apply wr_fieldAddr; iterate 2 exact rfl) | (apply wr_nilCheck; iterate 2 exact rfl) | (apply wr_load; (iterate 3 exact rfl); (focus repeat first | with_reducible assumption | exact heap_alloc_same _ _ | exact World.putObj_heap_same (by first | omega | (simp only [World.size_alloc, World.putObj_size, ne_eq]; omega)) | ((first | refine hAl ?_ ?_ | refine hPu ?_ ?_); focus first | omega | (simp only [World.size_alloc, World.putObj_size, ne_eq]; omega))); exact rfl; conv => enter [6, 3]; whnf) | (apply wc_false; exact rfl))
      refine wr_buildSlice (vs := [S (textN (i + 1) n)]) rfl (by rw [htx]; rfl) (by intro v hv; simp at hv; subst hv; rfl) rfl (by decide) (by decide) (by decide) ?_
      refine wr_append (v := v) (n := i) (m := 1) (news := [S (textN (i + 1) n)]) rfl rfl (ho2.alloc _) rfl (heap_alloc_same _ _) rfl (by intro u hu; simp at hu; subst hu; rfl) rfl (by decide) (by omega) (by omega) (by have := hk2.size; simp only [World.size_alloc]; omega) ?_
      intro v2 w4 ho4 hk4 _
      have hkw4 : Keeps NoB w w4 := Keeps.trans' (hk2.alloc _) hk4 (fun b hb e => by have := own_ge ho2 e; omega)
      (repeat first | (apply wr_move; exact rfl; with_reducible (conv => enter [6, 3]; whnf)) | (apply wr_assign; exact rfl; with_reducible (conv => enter [6, 3]; whnf)) | apply wr_end | apply wc_region | (apply wr_add; (iterate 3 exact rfl); exact w_fit (by dsimp only [kIn]; first | done | omega)) | (apply wr_nil; try simp only [thenE, inBlockE, bodyQ]))
      exact ⟨(i + 1, v2), by dsimp only; omega, ⟨by trivial, hlt, (by dsimp only; rw [hsn, List.map_append]; exact ho4), hkw4⟩, rfl, rfl, rfl, by simp, trivial⟩
    | true =>
      rw [hu] at hc' htx
      rw [if_pos rfl] at htx
      (repeat first | (apply wr_move; exact rfl; with_reducible (conv => enter [6, 3]; whnf)) | (apply wr_assign; exact rfl; with_reducible (conv => enter [6, 3]; whnf)) | apply wr_end | apply wc_seq | apply wc_region | (apply wr_fieldAddr; iterate 2 exact rfl) | (apply wr_nilCheck; iterate 2 exact rfl) | (apply wr_load; (iterate 3 exact rfl); (focus repeat first | with_reducible assumption | exact heap_alloc_same _ _ | exact World.putObj_heap_same (by first | omega | (simp only [World.size_alloc, World.putObj_size, ne_eq]; omega)) | ((first | refine hAl ?_ ?_ | refine hPu ?_ ?_); focus first | omega | (simp only [World.size_alloc, World.putObj_size, ne_eq]; omega))); exact rfl; conv => enter [6, 3]; whnf) | (apply wc_true; exact rfl))
      refine wc_drawS (l := _) (S := fun w' => w' = w3.drew) (by kernel_rfl) (by kernel_rfl) rfl ?_
      apply ch_step
      focus
        intro w' hS
        subst hS
        (repeat first | (apply wr_move; exact rfl; with_reducible (conv => enter [6, 3]; whnf)) | (apply wr_nil; try simp only [thenE, inBlockE, bodyQ]))
        exact ⟨rfl, by trivial⟩
      apply ch_step
      focus
        intro w' hS
        subst hS
        (repeat first | (apply wr_add; (iterate 3 exact rfl); exact w_fit (by dsimp only [kIn]; first | done | omega)) | (apply wr_nil; try simp only [thenE, inBlockE, bodyQ]))
        exact ⟨rfl, by trivial⟩
      apply ch_step
      focus
        intro w' hS
        subst hS
        refine wr_call (vs := [.int .i64 ((i + 1 : Nat) : Int)]) rfl (itoa_ca (i + 1) (by omega) _) rfl ?_
        rintro v w4 ⟨rfl, rfl⟩
        apply wr_nil
        exact ⟨rfl, rfl⟩
      apply ch_step
      focus
        intro w' hS
        subst hS
        refine wr_cat (b := [62]) rfl rfl rfl (by simp only [List.length_cons, List.length_nil]; omega) ?_
        apply wr_nil
        exact ⟨rfl, rfl⟩
      apply ch_step
      focus
        intro w' hS
        subst hS
        (repeat first | (apply wr_move; exact rfl; with_reducible (conv => enter [6, 3]; whnf)) | (apply wr_nil; try simp only [thenE, inBlockE, bodyQ]))
        exact ⟨rfl, by trivial⟩
      apply ch_step
      focus
        intro w' hS
        subst hS
        (repeat first | (apply wr_nilCheck; iterate 2 exact rfl) | (apply wr_nil; try simp only [thenE, inBlockE, bodyQ]))
        exact ⟨rfl, by trivial⟩
      apply ch_step
      focus
        intro w' hS
        subst hS
        (repeat first | (apply wr_fieldAddr; iterate 2 exact rfl) | (apply wr_nil; try simp only [thenE, inBlockE, bodyQ]))
        exact ⟨rfl, by trivial⟩
      apply ch_step
      focus
        intro w' hS
        subst hS
        refine wr_load (v := .int .i64 (pp : Int)) rfl rfl rfl hc' rfl ?_
        apply wr_nil
        exact ⟨rfl, rfl⟩
      apply ch_step
      focus
        intro w' hS
        subst hS
        refine wr_call (vs := [.int .i64 (pp : Int)]) rfl (itoa_ca pp (by omega) _) rfl ?_
        rintro v w4 ⟨rfl, rfl⟩
        apply wr_nil
        exact ⟨rfl, rfl⟩
      apply ch_step
      focus
        intro w' hS
        subst hS
        refine wr_cat rfl rfl rfl (by simp only [List.length_append, List.length_cons, List.length_nil]; omega) ?_
        apply wr_nil
        exact ⟨rfl, rfl⟩
      apply ch_step
      focus
        intro w' hS
        subst hS
        (repeat first | (apply wr_assign; exact rfl; with_reducible (conv => enter [6, 3]; whnf)) | (apply wr_nil; try simp only [thenE, inBlockE, bodyQ]))
        exact ⟨rfl, by trivial⟩
      refine ch_nil ?_
      intro w' hS
      subst hS
      rw [← htx]
      have ho2' := own_keep ho2 (Keeps.refl NoB w3).drew (fun _ _ h => h)
      (repeat first | (apply wr_move; exact rfl; with_reducible (conv => enter [6, 3]; whnf)) | apply wc_region)
      refine wr_buildSlice (vs := [S (textN (i + 1) n)]) rfl rfl (by intro v hv; simp at hv; subst hv; rfl) rfl (by decide) (by decide) (by decide) ?_
      refine wr_append (v := v) (n := i) (m := 1) (news := [S (textN (i + 1) n)]) rfl rfl (ho2'.alloc _) rfl (heap_alloc_same _ _) rfl (by intro u hu; simp at hu; subst hu; rfl) rfl (by decide) (by omega) (by omega) (by have := hk2.drew.size; simp only [World.size_alloc]; omega) ?_
      intro v2 w4 ho4 hk4 _
      have hkw4 : Keeps NoB w w4 := Keeps.trans' (hk2.drew.alloc _) hk4 (fun b hb e => by have := own_ge ho2 e; omega)
      (repeat first | (apply wr_move; exact rfl; with_reducible (conv => enter [6, 3]; whnf)) | (apply wr_assign; exact rfl; with_reducible (conv => enter [6, 3]; whnf)) | apply wr_end | apply wc_region | (apply wr_add; (iterate 3 exact rfl); exact w_fit (by dsimp only [kIn]; first | done | omega)) | (apply wr_nil; try simp only [thenE, inBlockE, bodyQ]))
      exact ⟨(i + 1, v2), by dsimp only; omega, ⟨by trivial, hlt, (by dsimp only; rw [hsn, List.map_append]; exact ho4), hkw4⟩, rfl, rfl, rfl, by simp, trivial⟩
  · have he : i = m := by omega
    subst he
    have hjl : (Lib.join (textL T i) [32]).length ≤ (textL T i).length * (5 + 1) := join_len _ _ 5 (fun x hx => by
      unfold textL at hx
      obtain ⟨k, hk, rfl⟩ := List.mem_map.1 hx
      have hk' := List.mem_range.1 hk
      refine textN_len (by omega) ?_
      have : T[k + 1]? = some (T[k + 1]'(by omega)) := by simp [show k + 1 < T.length by omega]
      have hg : T.getD (k + 1) ndZ = T[k + 1]'(by omega) := by simp [show k + 1 < T.length by omega]
      rw [hg]
      exact hpar _ (List.mem_of_getElem? this))
    have hTt : textT T = Lib.join (textL T i) [32] := by unfold textT; congr 2; omega
    rw [hTt]
    (repeat first | (apply wr_move; exact rfl; with_reducible (conv => enter [6, 3]; whnf)) | apply wr_end | apply wc_seq | apply wc_region | (apply wr_cmp; (iterate 3 exact rfl); exact cmpF (by dsimp only [cmpN]; first | done | omega)) | (apply wc_false; exact rfl) | (apply wc_exit; try simp only [thenE, inBlockE, bodyQ, ↓reduceIte, Nat.reduceEqDiff]))
    refine wr_call (vs := [v, S [32]]) rfl (join_ca (textL T i) [32] v w2 (by rw [hll]; exact SlR.of_own ho2) (by omega) (by omega)) rfl ?_
    rintro vv w3 ⟨rfl, hk3⟩
    (repeat first | (apply wr_assign; exact rfl; with_reducible (conv => enter [6, 3]; whnf)) | apply wr_end | (apply wc_ret; try simp only [thenE, inBlockE, bodyQ]))
    exact leave1 (v := S (Lib.join (textL T i) [32])) rfl rfl ⟨rfl, hk2.trans hk3⟩
end Go.Proofs.YthjpgkefifkhjaaDoor
