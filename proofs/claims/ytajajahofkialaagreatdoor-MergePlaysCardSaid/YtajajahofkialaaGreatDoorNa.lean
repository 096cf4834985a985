/- slices of texts: Index, Contains, IndexFunc, ContainsFunc, Clone. -/
import Derived.Test.YtajajahofkialaaGreatDoorMf
import Derived.Test.YtajajahofkialaaGreatDoorTab
namespace Go.Proofs.YtajajahofkialaaGreatDoor
open Go Go.V Go.RowKit
set_option linter.unusedVariables false
set_option linter.unusedSimpArgs false

theorem run_slNil {P : Program} {w : World} {t e : TypeId} (U : Und P t (.slice e)) (a : Option Addr) (n c : Nat) : (binOp .eql t (.slice a n c) (.slice none 0 0)).run P w = .ok (.bool a.isNone) w := by
  have : (Op.equal t (.slice a n c) (.slice none 0 0)).run P w = .ok a.isNone w := by
    show (Op.equalIn (9999 + 1) t _ _).run P w = _
    unfold Op.equalIn
    simp only [underlying, Sem.run_bind, run_program, Result.andThen_ok, U.h, Sem.run_pure]
    cases a <;> rfl
  show ((do pure (Value.bool (← Op.equal t (.slice a n c) (.slice none 0 0))) : Sem Value)).run P w = _
  simp only [Sem.run_bind, this, Result.andThen_ok]; rfl
section ops
variable {P : Program} {ops : Array Oper} {Q : Post} {ds : List Deferred} {f : Env} {w w' : World} {rest : List Oper}
variable {d : Option Nat} {ty : TypeId} {pos : String} {af : Array Edge} {g : Option (Nat × Bool)}
theorem wr_slNil {t t' e : TypeId} {x : Operand} {a : Option Addr} {n c : Nat} [U : Und P t (.slice e)] (hw : wantedE ops f ⟨d, .binOp .eql t x (.const (.slice none 0 0)) t', ty, pos, af, g⟩ = true) (hx : ev f x = .slice a n c)
    (kk : Wr P ops Q ds rest (setO f d (.bool a.isNone)) w) : Wr P ops Q ds (⟨d, .binOp .eql t x (.const (.slice none 0 0)) t', ty, pos, af, g⟩ :: rest) f w :=
  wr_bin hw hx rfl (by simp [eqGuard]) (run_slNil U a n c) kk
theorem wr_buildSlice0 {t e : TypeId} {z : Value} {size by' : Nat} [U : Und P t (.slice e)] [I : Info P e z size by'] (hw : wantedE ops f ⟨d, .buildSlice t 0 #[], ty, pos, af, g⟩ = true)
    (kk : Wr P ops Q ds rest (setO f d (.slice (some ⟨w.heap.size, 0, none⟩) 0 0)) (w.alloc (.cells #[] e))) : Wr P ops Q ds (⟨d, .buildSlice t 0 #[], ty, pos, af, g⟩ :: rest) f w := by
  refine wr_val (v := .slice (some ⟨w.heap.size, 0, none⟩) 0 0) (w' := w.alloc (.cells #[] e)) hw ?_ kk
  simp only [execOp, Instr.buildSlice, Sem.run_bind, run_und U, Result.andThen_ok, run_sizeOf' I]
  rw [if_neg (by omega)]
  simp only [Sem.run_pure, Result.andThen_ok]
  rw [if_pos (by omega)]
  simp only [Sem.run_bind, Sem.run_pure, Result.andThen_ok, Instr.fill, newRow, run_newObj]
  simp [Instr.fill, newRow]
  rw [show Array.map (fun x => (default : Value)) (Array.range 0) = #[] from by apply Array.toList_inj.1; simp]
end ops
abbrev TX := List (List UInt8)
def SL (l : TX) : List Value := l.map S
theorem SL_len (l : TX) : (SL l).length = l.length := by simp [SL]
theorem SL_get {l : TX} {i : Nat} {c : List UInt8} (h : l[i]? = some c) : (SL l)[i]? = some (S c) := by simp [SL, h]
theorem slr_strs {w : World} {v : Value} {l : TX} (h : SlR w 1 v l.length (SL l)) : ∃ a c, v = .slice a l.length c ∧ l.length ≤ c ∧ (0 < l.length → ∃ b o, a = some ⟨b, o, none⟩ ∧ ∃ cur e fr, w.heap[b]? = some (.cells cur e fr) ∧ ∀ i c, l[i]? = some c → cur[o + i * 1]? = some (S c)) := by
  obtain ⟨a, c, rfl, hc, hat⟩ := h.shape
  refine ⟨a, c, rfl, hc, fun hp => ?_⟩
  obtain ⟨b, o, rfl, cur, e, fr, hb, hr⟩ := hat hp
  refine ⟨b, o, rfl, cur, e, fr, hb, fun i c hi => ?_⟩
  have hlt := (List.getElem?_eq_some_iff.1 hi).1
  rw [Nat.mul_one, hr i (by omega)]
  exact SL_get hi
theorem own_nil (w : World) (base : Nat) (e : TypeId) (sz : Nat) : w.ownsRow base e sz (.slice none 0 0) 0 [] := ⟨by simp, .inl ⟨rfl, rfl⟩⟩
theorem own_ge {w : World} {base : Nat} {e : TypeId} {sz n b : Nat} {v : Value} {xs : List Value} (h : w.ownsRow base e sz v n xs) (hb : v.ownBlock = some b) : base ≤ b := by
  rcases h.2 with ⟨rfl, _⟩ | ⟨g, cap, cur, rfl, hg, _⟩
  · cases hb
  · cases hb; exact hg
theorem own_ty {w : World} {base : Nat} {e : TypeId} {sz n b : Nat} {v : Value} {xs : List Value} (h : w.ownsRow base e sz v n xs) (hb : v.ownBlock = some b) : ∃ cur fr, w.heap[b]? = some (.cells cur e fr) := by
  rcases h.2 with ⟨rfl, _⟩ | ⟨g, cap, cur, rfl, hg, hh, _⟩
  · cases hb
  · cases hb; exact ⟨cur, (0, 0), hh⟩
theorem callV_of {g : FuncId} {cap : Array Value} {args : List Value} {w : World} {R : Value → World → Prop} (he : enterable Tryz.prog g = true) (h : Ca Tryz.prog g (args ++ cap.toList).toArray w R) : CallV Tryz.prog (.func (.func g) #[] cap) args.toArray w R :=
  callV_func he (by
    have : (#[] ++ args.toArray ++ cap : Array Value) = (args ++ cap.toList).toArray := by apply Array.toList_inj.1; simp
    rw [this]; exact h)
def idxS (l : TX) (x : List UInt8) : Int := match l.findIdx? (· == x) with
  | some i => (i : Int)
  | none => -1
set_option maxRecDepth 100000 in
set_option maxHeartbeats 1000000 in
/-- slices.Index: where a text stands first. -/
theorem indexS_ca (l : TX) (x : List UInt8) (sl : Value) (w : World) (hsl : SlR w 1 sl l.length (SL l)) (hlen : l.length ≤ 1000000000000000000) :
    Ca Tryz.prog 75 #[sl, S x] w fun v w' => v = .int .i64 (idxS l x) ∧ Keeps NoB w w' := by
  obtain ⟨a, c, rfl, hc, hat⟩ := slr_strs hsl
  refine ca_of_body (args := [.slice a l.length c, S x]) Tryz.func75 rfl (by kernel_rfl) ?_
  (repeat first | (apply wr_move; exact rfl; with_reducible (conv => enter [6, 3]; whnf)) | (apply wr_assign; exact rfl; with_reducible (conv => enter [6, 3]; whnf)) | apply wr_end | apply wc_seq | apply wc_region | apply wc_block | (apply wr_len_slice; iterate 2 exact rfl))
  refine wc_loopL (α := Nat) (fun i => [(0, .slice a l.length c), (1, S x), (7, .int .i64 (l.length : Int)), (8, .int .i64 (i : Int))])
    (fun i ds w' => ds = [] ∧ i ≤ l.length ∧ (∀ j c, j < i → l[j]? = some c → c ≠ x) ∧ Keeps NoB w w') (fun i => l.length - i) 0 ⟨rfl, Nat.zero_le _, (fun j c h => by omega), Keeps.refl _ _⟩ ⟨rfl, rfl, rfl, rfl, trivial⟩ ?_
  rintro i ds f0 w2 ⟨rfl, hi, hno, hk2⟩
  by_cases hlt : i < l.length
  · obtain ⟨b, o, rfl, cur, e, fr, hb, hr⟩ := hat (by omega)
    have hb2 := hk2.heap hb (fun h => h)
    obtain ⟨y, hy⟩ : ∃ y, l[i]? = some y := ⟨l[i], by simp [hlt]⟩
    have hy2 := hr i y hy
    (repeat first | (apply wr_move; exact rfl; with_reducible (conv => enter [6, 3]; whnf)) | (apply wr_assign; exact rfl; with_reducible (conv => enter [6, 3]; whnf)) | apply wr_end | apply wc_seq | apply wc_region | apply wc_skip | apply wc_block | (apply wr_cmp; (iterate 3 exact rfl); exact cmpT (by dsimp only [cmpP]; first | done | omega)) | (apply wc_true; exact rfl))
    refine wr_indexAddr (i := i) rfl rfl rfl hlt ?_
    refine wr_load (v := S y) rfl rfl rfl hb2 hy2 ?_
    by_cases he : x = y
    · (repeat first | (apply wr_move; exact rfl; with_reducible (conv => enter [6, 3]; whnf)) | (apply wr_assign; exact rfl; with_reducible (conv => enter [6, 3]; whnf)) | apply wr_end | apply wc_seq | apply wc_region | (apply wr_streqc; (iterate 3 exact rfl); (first | exact decide_eq_true (by with_reducible assumption) | exact decide_eq_false (by with_reducible assumption) | exact decide_eq_true rfl | exact rfl)) | (apply wc_true; exact rfl) | (apply wc_ret; try simp only [thenE, inBlockE, bodyQ]))
      refine leave1 (v := .int .i64 (i : Int)) rfl rfl ⟨?_, hk2⟩
      have : l.findIdx? (· == x) = some i := by
        rw [List.findIdx?_eq_some_iff_getElem]
        have hyy := (List.getElem?_eq_some_iff.1 hy).2
        refine ⟨hlt, by simp [hyy, he], fun j hj => ?_⟩
        have := hno j (l[j]'(by omega)) hj (by simp)
        simpa using this
      unfold idxS; rw [this]
    · (repeat first | (apply wr_move; exact rfl; with_reducible (conv => enter [6, 3]; whnf)) | apply wr_end | apply wc_region | apply wc_skip | (apply wr_add; (iterate 3 exact rfl); exact w_fit (by dsimp only [kIn]; first | done | omega)) | (apply wr_streqc; (iterate 3 exact rfl); (first | exact decide_eq_true (by with_reducible assumption) | exact decide_eq_false (by with_reducible assumption) | exact decide_eq_true rfl | exact rfl)) | (apply wc_false; exact rfl))
      refine ⟨i + 1, by omega, ⟨by trivial, hlt, fun j c hj hc => ?_, hk2⟩, rfl, rfl, rfl, by simp, trivial⟩
      by_cases hji : j = i
      · subst hji; rw [hy] at hc; cases hc; exact fun h => he h.symm
      · exact hno j c (by omega) hc
  · have he : i = l.length := by omega
    subst he
    (repeat first | (apply wr_assign; exact rfl; with_reducible (conv => enter [6, 3]; whnf)) | apply wr_end | apply wc_seq | apply wc_region | (apply wr_cmp; (iterate 3 exact rfl); exact cmpF (by dsimp only [cmpN]; first | done | omega)) | (apply wc_false; exact rfl) | (apply wc_exit; try simp only [thenE, inBlockE, bodyQ, ↓reduceIte, Nat.reduceEqDiff]) | (apply wc_ret; try simp only [thenE, inBlockE, bodyQ]))
    refine leave1 (v := .int .i64 (-1)) rfl rfl ⟨?_, hk2⟩
    have : l.findIdx? (· == x) = none := by
      rw [List.findIdx?_eq_none_iff]
      intro y hy
      obtain ⟨j, hj⟩ := List.getElem?_of_mem hy
      have := hno j y (List.getElem?_eq_some_iff.1 hj).1 hj
      simpa using this
    unfold idxS; rw [this]
set_option maxRecDepth 100000 in
set_option maxHeartbeats 1000000 in
theorem indexFuncS_ca (l : List (List UInt8)) (fv sl : Value) (I J : Nat → World → Prop) (w : World) (hlen : l.length ≤ 1000000000000000000) (h0 : I 0 w) (hsl : ∀ i w', I i w' → SlR w' 1 sl l.length (SL l))
    (hf : ∀ i x w', l[i]? = some x → I i w' → CallV Tryz.prog fv #[S x] w' fun v w'' => ∃ b, v = .bool b ∧ ((b = true ∧ J i w'') ∨ (b = false ∧ I (i + 1) w''))) :
    Ca Tryz.prog 78 #[sl, fv] w fun v w' => (∃ i, v = .int .i64 ((i : Nat) : Int) ∧ i < l.length ∧ J i w') ∨ (v = .int .i64 (-1) ∧ I l.length w') := by
  obtain ⟨a, c, rfl, hc, _⟩ := (hsl 0 w h0).shape
  refine ca_of_body (args := [.slice a l.length c, fv]) Tryz.func78 rfl (by kernel_rfl) ?_
  (repeat first | (apply wr_move; exact rfl; with_reducible (conv => enter [6, 3]; whnf)) | (apply wr_assign; exact rfl; with_reducible (conv => enter [6, 3]; whnf)) | apply wr_end | apply wc_seq | apply wc_region | apply wc_block | (apply wr_len_slice; iterate 2 exact rfl))
  refine wc_loopL (α := Nat) (fun i => [(0, .slice a l.length c), (1, fv), (7, .int .i64 (l.length : Int)), (8, .int .i64 (i : Int))])
    (fun i ds w' => ds = [] ∧ i ≤ l.length ∧ I i w') (fun i => l.length - i) 0 ⟨rfl, Nat.zero_le _, h0⟩ ⟨rfl, rfl, rfl, rfl, trivial⟩ ?_
  rintro i ds f0 w2 ⟨rfl, hi, hI⟩
  by_cases hlt : i < l.length
  · obtain ⟨x, hx⟩ : ∃ x, l[i]? = some x := ⟨l[i], by simp [hlt]⟩
    obtain ⟨a', c', hs', _, hat⟩ := slr_strs (hsl i w2 hI); cases hs'; obtain ⟨b, o, rfl, cur, e, fr, hb, hr⟩ := hat (by omega)
    (repeat first | (apply wr_move; exact rfl; with_reducible (conv => enter [6, 3]; whnf)) | (apply wr_assign; exact rfl; with_reducible (conv => enter [6, 3]; whnf)) | apply wr_end | apply wc_seq | apply wc_region | apply wc_skip | apply wc_block | (apply wr_cmp; (iterate 3 exact rfl); exact cmpT (by dsimp only [cmpP]; first | done | omega)) | (apply wc_true; exact rfl))
    refine wr_indexAddr (i := i) rfl rfl rfl hlt ?_
    refine wr_load (v := S x) rfl rfl rfl hb (hr i x hx) ?_
    refine wr_callv (vs := [S x]) rfl (hf i x w2 hx hI) rfl rfl ?_
    rintro v w3 ⟨bb, rfl, ⟨rfl, hJ⟩ | ⟨rfl, hI'⟩⟩
    · (repeat first | (apply wr_move; exact rfl; with_reducible (conv => enter [6, 3]; whnf)) | (apply wr_assign; exact rfl; with_reducible (conv => enter [6, 3]; whnf)) | apply wr_end | apply wc_seq | apply wc_region | (apply wc_true; exact rfl) | (apply wc_ret; try simp only [thenE, inBlockE, bodyQ]))
      exact leave1 (v := .int .i64 (i : Int)) rfl rfl (.inl ⟨i, rfl, hlt, hJ⟩)
    · (repeat first | (apply wr_move; exact rfl; with_reducible (conv => enter [6, 3]; whnf)) | apply wr_end | apply wc_region | apply wc_skip | (apply wr_add; (iterate 3 exact rfl); exact w_fit (by dsimp only [kIn]; first | done | omega)) | (apply wc_false; exact rfl))
      exact ⟨i + 1, by omega, ⟨by trivial, hlt, hI'⟩, rfl, rfl, rfl, by simp, trivial⟩
  · have he : i = l.length := by omega
    subst he
    (repeat first | (apply wr_assign; exact rfl; with_reducible (conv => enter [6, 3]; whnf)) | apply wr_end | apply wc_seq | apply wc_region | (apply wr_cmp; (iterate 3 exact rfl); exact cmpF (by dsimp only [cmpN]; first | done | omega)) | (apply wc_false; exact rfl) | (apply wc_exit; try simp only [thenE, inBlockE, bodyQ, ↓reduceIte, Nat.reduceEqDiff]) | (apply wc_ret; try simp only [thenE, inBlockE, bodyQ]))
    exact leave1 (v := .int .i64 (-1)) rfl rfl (.inr ⟨rfl, hI⟩)
set_option maxRecDepth 100000 in
set_option maxHeartbeats 1000000 in
theorem cloneS_ca (l : TX) (sl : Value) (w : World) (hsl : SlR w 1 sl l.length (SL l)) (hlen : l.length ≤ 8796093022000) :
    Ca Tryz.prog 58 #[sl] w fun v w' => SlR w' 1 v l.length (SL l) ∧ (∀ b, v.ownBlock = some b → w.heap.size ≤ b ∧ ∃ cur fr, w'.heap[b]? = some (.cells cur 9 fr)) ∧ Keeps NoB w w' := by
  obtain ⟨a, c, rfl, hc, hat⟩ := slr_strs hsl
  refine ca_of_body (args := [.slice a l.length c]) Tryz.func58 rfl (by kernel_rfl) ?_
  (repeat first | (apply wr_move; exact rfl; with_reducible (conv => enter [6, 3]; whnf)) | (apply wr_assign; exact rfl; with_reducible (conv => enter [6, 3]; whnf)) | apply wr_end | apply wc_seq | apply wc_region)
  refine wr_slNil rfl rfl ?_
  cases a with
  | none =>
    have h0 : l = [] := by
      cases l with
      | nil => rfl
      | cons x l => obtain ⟨b, o, h, _⟩ := hat (by simp); cases h
    subst h0
    (repeat first | (apply wr_assign; exact rfl; with_reducible (conv => enter [6, 3]; whnf)) | apply wr_end | apply wc_seq | apply wc_region | (apply wc_true; exact rfl) | (apply wc_ret; try simp only [thenE, inBlockE, bodyQ]))
    exact leave1 (v := .slice none 0 0) rfl rfl ⟨⟨rfl, none, 0, rfl, Nat.le_refl _, .inl ⟨rfl, fun _ => rfl⟩⟩, (fun b hb => by cases hb), Keeps.refl _ _⟩
  | some ad =>
    (repeat first | apply wr_end | apply wc_seq | apply wc_region | apply wc_skip | (apply wc_false; exact rfl))
    refine wr_buildSlice0 rfl ?_
    have ho : (w.alloc (.cells #[] 9)).ownsRow w.heap.size 9 1 (.slice (some ⟨w.heap.size, 0, none⟩) 0 0) 0 [] := ⟨rfl, .inr ⟨w.heap.size, 0, #[], rfl, Nat.le_refl _, heap_alloc_same _ _, Nat.le_refl _, by decide, rfl, rfl⟩⟩
    have hk1 : Keeps NoB w (w.alloc (.cells #[] 9)) := (Keeps.refl NoB w).alloc _
    refine wr_move rfl ?_
    refine wr_appendR (v := .slice (some ⟨w.heap.size, 0, none⟩) 0 0) (base := w.heap.size) (n := 0) (m := l.length) (xs := []) (news := SL l) rfl rfl ho rfl (hsl.keep hk1 (fun _ _ h => h)) (by intro u hu; simp [SL] at hu; obtain ⟨x, _, rfl⟩ := hu; rfl) rfl (by decide) (by omega) (by omega) (by simp) ?_
    intro v2 w2 ho2 hk2 _
    rw [Nat.zero_add, List.nil_append] at ho2
    (repeat first | (apply wr_assign; exact rfl; with_reducible (conv => enter [6, 3]; whnf)) | apply wr_end | (apply wc_ret; try simp only [thenE, inBlockE, bodyQ]))
    exact leave1 (v := v2) rfl rfl ⟨SlR.of_own ho2, fun b hb => ⟨(ho2.lt b hb).1, own_ty ho2 hb⟩, Keeps.trans' hk1 hk2 (fun i hi e => by cases e; exact absurd hi (Nat.lt_irrefl _))⟩
end Go.Proofs.YtajajahofkialaaGreatDoor
