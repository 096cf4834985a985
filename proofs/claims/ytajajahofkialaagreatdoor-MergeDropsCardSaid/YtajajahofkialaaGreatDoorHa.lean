/- package 14: topics as a map's keys; names of a few; what rows and sets share. -/
import Derived.Test.YtajajahofkialaaGreatDoorNm
import Derived.Test.YtajajahofkialaaGreatDoorNp
import Derived.Test.YtajajahofkialaaGreatDoorVQ
import Derived.Test.YtajajahofkialaaGreatDoorVI
namespace Go.Proofs.YtajajahofkialaaGreatDoor
open Go Go.V Go.RowKit
set_option linter.unusedVariables false
set_option linter.unusedSimpArgs false

abbrev TY := Int × Int
def encT (k : TY) : Value := .agg #[.int .i64 k.1, .int .i64 k.2]
theorem ty_stood : Tryz.prog.stoodInHeld 78 = false := by kernel_rfl
theorem ty_eqIn (n : Nat) (x y : TY) (w : World) : (Op.equalIn (n + 2) 78 (encT x) (encT y)).run Tryz.prog w = .ok (decide (x = y)) w := by
  have h := run_structEq (n := n + 1) (w := w) (xs := #[.int .i64 x.1, .int .i64 x.2]) (ys := #[.int .i64 y.1, .int .i64 y.2]) Tryz.underlying78 ty_stood
    (rs := [decide (x.1 = y.1), decide (x.2 = y.2)])
    ⟨⟨by decide, _, _, run_part1 Tryz.underlying3 rfl rfl, run_part1 Tryz.underlying3 rfl rfl, equalIn_int n inferInstance _ _ _⟩,
     ⟨by decide, _, _, run_part1 Tryz.underlying3 rfl rfl, run_part1 Tryz.underlying3 rfl rfl, equalIn_int n inferInstance _ _ _⟩, trivial⟩
  have e : ([decide (x.1 = y.1), decide (x.2 = y.2)].all id) = decide (x = y) := by
    obtain ⟨a, b⟩ := x
    obtain ⟨c, d⟩ := y
    simp [Prod.mk.injEq, Bool.decide_and]
  rw [e] at h
  exact h
instance keyTy : MKey Tryz.prog 78 encT where
  chk := fun e a w => by
    show (Instr.checkKey e (9999 + 1) 78 (.agg #[.int .i64 a.1, .int .i64 a.2])).run Tryz.prog w = .ok () w
    unfold Instr.checkKey
    simp only [underlying, Sem.run_bind, run_program, Result.andThen_ok, Tryz.underlying78, Sem.run_pure]
    have h1 : (part 3 #[.int .i64 a.1, .int .i64 a.2] 0).run Tryz.prog w = .ok (.int .i64 a.1) w := run_part1 Tryz.underlying3 rfl rfl
    have h2 : (part 3 #[.int .i64 a.1, .int .i64 a.2] 1).run Tryz.prog w = .ok (.int .i64 a.2) w := run_part1 Tryz.underlying3 rfl rfl
    have h3 := chk_int 9998 (P := Tryz.prog) (K := 3) (k := .i64) inferInstance e a.1 w
    have h4 := chk_int 9998 (P := Tryz.prog) (K := 3) (k := .i64) inferInstance e a.2 w
    simp [h1, h2, h3, h4]
  eq := fun a b w => ty_eqIn 9998 a b w
  now := ⟨_, Tryz.underlying78, .inr fun a b => rfl⟩
  bits := fun a => by simp [encT, Instr.sameBits]
abbrev nilV : Value := .slice none 0 0
theorem own_nilV (w : World) (n0 : Nat) (T : TypeId) (sz : Nat) : w.ownsRow n0 T sz nilV 0 [] := ⟨by simp, .inl ⟨rfl, rfl⟩⟩
theorem slr_none (w : World) : SlR w 1 (.slice none 0 0) ([] : TX).length (SL []) := ⟨rfl, none, 0, rfl, Nat.le_refl _, .inl ⟨rfl, fun _ => rfl⟩⟩
/-- Rows of two types. -/
theorem own_own {w : World} {b1 b2 z1 z2 n1 n2 : Nat} {T1 T2 : TypeId} {v1 v2 : Value} {x1 x2 : List Value} (h1 : w.ownsRow b1 T1 z1 v1 n1 x1) (h2 : w.ownsRow b2 T2 z2 v2 n2 x2) (hT : T1 ≠ T2) : ∀ b, v1.ownBlock = some b → ¬ v2.ownBlock = some b := by
  intro b hb hb2
  rcases h2.2 with ⟨rfl, _⟩ | ⟨g, cap, cur, rfl, _, hg, _⟩
  · cases hb2
  · simp [Value.ownBlock] at hb2
    subst hb2
    exact V.F.own_neT h1 hg hT _ hb rfl
/-- A set's names do not stand in a block that holds no texts. -/
theorem SetR.put {w w' : World} {s : PS} {v : Value} {q : Nat} {c : Array Value} {T : TypeId} {fr : Nat × Nat} (h : SetR w s v) (k : Keeps (· = q) w w') (hq : w.heap[q]? = some (.cells c T fr)) (hc : ∀ (j : Nat) (t : TT), c[j]? ≠ some (S t)) : SetR w' s v := by
  obtain ⟨nv, rfl, hl, a, cp, rfl, hcp, h⟩ := h
  refine ⟨_, rfl, hl, a, cp, rfl, hcp, ?_⟩
  rcases h with h | ⟨b, o, cur, e, fr', rfl, hb, hr⟩
  · exact .inl h
  · cases hs : s.2 with
    | nil => exact .inl ⟨rfl, fun h => by cases h⟩
    | cons x l =>
      refine .inr ⟨b, o, cur, e, fr', rfl, k.heap hb fun e => ?_, by rw [hs] at hr; exact hr⟩
      have e : b = q := e
      subst e
      rw [hq] at hb
      injection hb with hb
      injection hb with hb
      subst hb
      have := hr 0 (by rw [hs]; simp)
      rw [hs] at this
      exact hc (o + 0) x this
theorem setCells_ne (a : Bool) (nv : Value) (hn : ∀ t : TT, nv ≠ S t) : ∀ (j : Nat) (t : TT), (#[.bool a, nv] : Array Value)[j]? ≠ some (S t) := by
  intro j t h
  match j with
  | 0 => simp at h
  | 1 => simp at h; exact hn t h
  | j + 2 => simp at h
theorem has_cb {s : PS} {x : TT} {sv : Value} {w : World} (B : Bool) (hB : hasP s x = B) (hx : x.length ≤ 9223372036854775807) (hs : SetR w s sv) (hlen : s.2.length ≤ 8796093022000) :
    Ca Tryz.prog 38 #[sv, S x] w fun v w' => v = .bool B ∧ Keeps NoB w w' := by
  obtain ⟨nv, rfl, h⟩ := hs
  subst hB
  exact has_ca s.1 s.2 x nv w hx h hlen
theorem same_cb {s t : PS} {sv tv : Value} {w : World} (B : Bool) (hB : sameP s t = B) (hs : SetR w s sv) (ht : SetR w t tv) (hsn : s.2.length ≤ 8796093022000) (htn : t.2.length ≤ 8796093022000) :
    Ca Tryz.prog 35 #[sv, tv] w fun v w' => v = .bool B ∧ Keeps NoB w w' := by
  subst hB
  exact same_ca s t sv tv w hs ht hsn htn
theorem own_sl {w : World} {n m sz : Nat} {T : TypeId} {v : Value} {xs : List Value} (h : w.ownsRow n T sz v m xs) : ∃ a c, v = .slice a m c := by
  rcases h.2 with ⟨rfl, rfl⟩ | ⟨g, cap, cur, rfl, _⟩
  · exact ⟨_, _, rfl⟩
  · exact ⟨_, _, rfl⟩
theorem slR_blk {w : World} {b n sz : Nat} {cs : List Value} {T : TypeId} {fr : Nat × Nat} (hb : w.heap[b]? = some (.cells cs.toArray T fr)) (hl : cs.length = n * sz) : SlR w sz (.slice (some ⟨b, 0, none⟩) n n) n cs :=
  ⟨hl, _, n, rfl, Nat.le_refl _, .inr ⟨b, 0, _, _, _, rfl, hb, fun j hj => by simp⟩⟩
theorem SetO.down {w : World} {n n' : Nat} {s : PS} {v : Value} (h : SetO w n s v) (hn : n' ≤ n) : SetO w n' s v := by
  obtain ⟨nv, e, h⟩ := h
  exact ⟨nv, e, own_down h hn⟩
theorem SetO.keepT {D : Nat → Prop} {w w' : World} {n : Nat} {s : PS} {v : Value} (h : SetO w n s v) (kk : Keeps D w w') (hD : ∀ q, D q → q < n ∨ ∃ cs T fr, w.heap[q]? = some (.cells cs T fr) ∧ 9 ≠ T) : SetO w' n s v := by
  obtain ⟨nv, e, h⟩ := h
  refine ⟨nv, e, own_keep h kk fun q hq e => ?_⟩
  rcases hD q e with h1 | ⟨cs, T', fr, hg, h1⟩
  · have := V.F.own_geF h hq; omega
  · exact V.F.own_neT h hg h1 q hq rfl
theorem ofR_ca {W : PS} (hW : Fine W) (hl : (listP W).length ≤ 8796093022000) {sl : Value} {w : World} (hsl : SlR w 1 sl (listP W).length (SL (listP W))) :
    Ca Tryz.prog 30 #[sl] w fun v w' => SetR w' W v ∧ Keeps NoB w w' :=
  (ofO_ca (listP W) sl w hsl hl (listP_ok hW)).mono fun v w' h => by
    have h1 := h.1.toR
    rw [ofP_listP hW] at h1
    exact ⟨h1, h.2⟩
theorem SetR.one {w : World} {s : PS} {a : Bool} {v : Value} (h : SetR w s (SetV a v)) : v.oneCell' = true ∧ ∀ t : TT, v ≠ S t := by
  obtain ⟨nv, e, hs⟩ := h
  obtain ⟨an, cn, e2, _⟩ := slr_strs hs
  have : v = nv := by
    injection e with e
    injection e with e
    simp at e
    exact e.2
  subst this
  rw [e2]
  exact ⟨rfl, fun t h => by cases h⟩
theorem delta_step {a W : PS} (ha : Fine a) (hW : Fine W) : lessP (unionP [a, ofP (listP (lessP W a))]) (ofP (listP (lessP a W))) = W := by
  rw [ofP_listP (lessP_fine hW), ofP_listP (lessP_fine ha)]
  refine fine_ext (lessP_fine (union_fine2 ha (lessP_fine hW))) hW ?_ fun x => ?_
  · show ((unionP [a, lessP W a]).1 && !(a.1 && !W.1)) = W.1
    rw [union_all2]
    show ((a.1 || (W.1 && !a.1)) && !(a.1 && !W.1)) = W.1
    cases a.1 <;> cases W.1 <;> rfl
  · rw [mem_lessP, mem_union2, mem_lessP, mem_lessP]
    by_cases h1 : x ∈ a.2 <;> by_cases h2 : x ∈ W.2 <;> simp [h1, h2]
theorem empty_cb {s : PS} {sv : Value} {w : World} (B : Bool) (hB : (!s.1 && decide (s.2.length = 0)) = B) (hs : SetR w s sv) :
    Ca Tryz.prog 34 #[sv] w fun v w' => v = .bool B ∧ Keeps NoB w w' := by
  obtain ⟨nv, rfl, h⟩ := hs
  subst hB
  exact empty_ca s.1 s.2 nv w h
def IB (l : List Nat) : List Value := l.map fun x => .int .u8 ((x : Nat) : Int)
def nmTab : TX := [[], [49], [47, 120]]
def nameT (n : Nat) : TT := if n % 16 = 15 then [42] else UInt8.ofNat (97 + n % 12) :: nmTab.getD (n / 16 % 3) []
def namesF (l : List Nat) (m : Nat) : TX := (l.take m).map nameT
theorem nmTab_len : ∀ i, i < 3 → (nmTab.getD i []).length ≤ 2 := by decide
theorem nameT_len (n : Nat) : (nameT n).length ≤ 3 := by
  unfold nameT
  split
  · decide
  · have := nmTab_len (n / 16 % 3) (Nat.mod_lt _ (by decide))
    rw [List.length_cons]; omega
theorem namesF_ok (l : List Nat) (m : Nat) : ∀ x ∈ namesF l m, x.length ≤ 9223372036854775807 := by
  intro x hx
  simp only [namesF, List.mem_map] at hx
  obtain ⟨k, _, rfl⟩ := hx
  have := nameT_len k
  omega
theorem namesF_le (l : List Nat) (m : Nat) : (namesF l m).length ≤ m := by simp [namesF]; omega
theorem chr_bytes (n : Nat) : bytesV [UInt8.ofNat (97 + n % 12)] = [.int .u8 (97 + ((n % 12 : Nat) : Int))] := by
  have : ((UInt8.ofNat (97 + n % 12)).toNat : Int) = 97 + ((n % 12 : Nat) : Int) := by
    rw [UInt8.toNat_ofNat']
    omega
  show [Value.int .u8 ((UInt8.ofNat (97 + n % 12)).toNat : Int)] = _
  rw [this]
set_option maxRecDepth 100000 in
set_option maxHeartbeats 4000000 in
theorem nameX_ca (n : Nat) (hn : n < 256) (w : World) : Ca Tryz.prog 24 #[.int .u8 (n : Int)] w fun v w' => v = S (nameT n) ∧ Keeps NoB w w' := by
  refine ca_of_body (args := [.int .u8 (n : Int)]) Tryz.func24 rfl (by kernel_rfl) ?_
  (repeat first | (apply wr_move; exact rfl; with_reducible (conv => enter [6, 3]; whnf)) | (apply wr_assign; exact rfl; with_reducible (conv => enter [6, 3]; whnf)) | apply wr_end | apply wc_seq | apply wc_region)
  refine wr_remN (n := n) (m := 16) rfl rfl rfl (by decide) ?_
  by_cases h15 : n % 16 = 15
  · rw [show nameT n = [42] by unfold nameT; rw [if_pos h15]]
    (repeat first | (apply wr_assign; exact rfl; with_reducible (conv => enter [6, 3]; whnf)) | apply wr_end | apply wc_seq | apply wc_region | (apply wr_cmp; (iterate 3 exact rfl); exact cmpT (by dsimp only [cmpP]; first | done | omega)) | (apply wc_true; exact rfl) | (apply wc_ret; try simp only [thenE, inBlockE, bodyQ]))
    exact leave1 (v := S [42]) rfl rfl ⟨rfl, Keeps.refl _ _⟩
  · rw [show nameT n = UInt8.ofNat (97 + n % 12) :: nmTab.getD (n / 16 % 3) [] by unfold nameT; rw [if_neg h15]]
    have hm3 : n / 16 % 3 < 3 := Nat.mod_lt _ (by decide)
    have hm12 : n % 12 < 12 := Nat.mod_lt _ (by decide)
    have htl := nmTab_len _ hm3
    (repeat first | apply wr_end | apply wc_seq | apply wc_skip | (apply wr_cmp; (iterate 3 exact rfl); exact cmpF (by dsimp only [cmpN]; first | done | omega)) | (apply wc_false; exact rfl))
    refine wc_drawP (l := _) 13 _ (by kernel_rfl) (by kernel_rfl) rfl (by kernel_rfl) (by kernel_rfl) (by decide) ?_
    apply chP_pure
    focus
      intro xx w' hk hF
      apply wr_move; exact rfl; with_reducible (conv => enter [6, 3]; whnf)
      apply wr_nil
      exact ⟨rfl, Keeps.refl _ _⟩
    focus (intro xx yy h; rfl)
    focus kernel_rfl
    apply chP_pure
    focus
      intro xx w' hk hF
      refine wr_remN (n := n) (m := 12) rfl rfl rfl (by decide) ?_
      apply wr_nil
      exact ⟨rfl, Keeps.refl _ _⟩
    focus (intro xx yy h; rfl)
    focus kernel_rfl
    apply chP_pure
    focus
      intro xx w' hk hF
      apply wr_add; (iterate 3 exact rfl); exact w_fit (by dsimp only [kIn]; omega)
      apply wr_nil
      exact ⟨rfl, Keeps.refl _ _⟩
    focus (intro xx yy h; rfl)
    focus kernel_rfl
    refine chP_fact (fun y => .slice (some ⟨blkOf y, 0, none⟩) 1 1) (fun y w' => w'.heap[blkOf y]? = some (.cells #[.int .u8 (97 + ((n % 12 : Nat) : Int))] 5 (0, 0))) (fun y w' w'' h k => k.heap h (fun h => h)) ?_ ?_
    focus
      intro xx w' hk hF
      refine wr_buildSlice (vs := [.int .u8 (97 + ((n % 12 : Nat) : Int))]) rfl rfl (by intro v hv; simp at hv; subst hv; rfl) rfl (by decide) (by decide) (by decide) ?_
      apply wr_nil
      exact ⟨.pointer (some ⟨w'.heap.size, 0, none⟩), rfl, heap_alloc_same _ _, (Keeps.refl _ _).alloc _⟩
    apply chP_pure
    focus
      intro xx w' hk hF
      have h3 : w'.heap[blkOf (xx 3)]? = some (.cells #[.int .u8 (97 + ((n % 12 : Nat) : Int))] 5 (0, 0)) := hF 3 (by kernel_rfl)
      refine wr_bytes2str (n := 1) (l := [UInt8.ofNat (97 + n % 12)]) rfl rfl (slR_blk (cs := bytesV [UInt8.ofNat (97 + n % 12)]) (by rw [chr_bytes]; exact h3) rfl) ?_
      apply wr_nil
      exact ⟨rfl, Keeps.refl _ _⟩
    focus (intro xx yy h; rfl)
    focus kernel_rfl
    refine chP_fact (fun y => .slice (some ⟨blkOf y, 0, none⟩) 3 3) (fun y w' => w'.heap[blkOf y]? = some (.cells (SL nmTab).toArray 9 (0, 0))) (fun y w' w'' h k => k.heap h (fun h => h)) ?_ ?_
    focus
      intro xx w' hk hF
      refine wr_buildSlice (vs := SL nmTab) rfl rfl (by intro v hv; simp [SL, nmTab] at hv; rcases hv with rfl | rfl | rfl <;> rfl) rfl (by decide) (by decide) (by decide) ?_
      apply wr_nil
      exact ⟨.pointer (some ⟨w'.heap.size, 0, none⟩), rfl, heap_alloc_same _ _, (Keeps.refl _ _).alloc _⟩
    apply chP_pure
    focus
      intro xx w' hk hF
      apply wr_move; exact rfl; with_reducible (conv => enter [6, 3]; whnf)
      apply wr_nil
      exact ⟨rfl, Keeps.refl _ _⟩
    focus (intro xx yy h; rfl)
    focus kernel_rfl
    apply chP_pure
    focus
      intro xx w' hk hF
      refine wr_quoN (n := n) (m := 16) rfl rfl rfl (by decide) (w_fit (by dsimp only [kIn]; omega)) ?_
      apply wr_nil
      exact ⟨rfl, Keeps.refl _ _⟩
    focus (intro xx yy h; rfl)
    focus kernel_rfl
    apply chP_pure
    focus
      intro xx w' hk hF
      refine wr_remN (n := n / 16) (m := 3) rfl rfl rfl (by decide) ?_
      apply wr_nil
      exact ⟨rfl, Keeps.refl _ _⟩
    focus (intro xx yy h; rfl)
    focus kernel_rfl
    apply chP_pure
    focus
      intro xx w' hk hF
      refine wr_indexAddr (i := n / 16 % 3) rfl rfl rfl hm3 ?_
      apply wr_nil
      exact ⟨rfl, Keeps.refl _ _⟩
    focus (intro xx yy h; exact congrArg (fun y => Value.pointer (some ⟨blkOf y, 0 + n / 16 % 3 * 1, none⟩)) (h 5 (by kernel_rfl)))
    focus kernel_rfl
    apply chP_pure
    focus
      intro xx w' hk hF
      have h5 : w'.heap[blkOf (xx 5)]? = some (.cells (SL nmTab).toArray 9 (0, 0)) := hF 5 (by kernel_rfl)
      refine wr_load (v := S (nmTab.getD (n / 16 % 3) [])) rfl rfl rfl h5 ?_ ?_
      focus
        have h : ∀ j, j < 3 → (SL nmTab).toArray[0 + j * 1]? = some (S (nmTab.getD j [])) := by
          intro j hj
          match j, hj with
          | 0, _ => rfl
          | 1, _ => rfl
          | 2, _ => rfl
        exact h _ hm3
      apply wr_nil
      exact ⟨rfl, Keeps.refl _ _⟩
    focus (intro xx yy h; rfl)
    focus kernel_rfl
    apply chP_pure
    focus
      intro xx w' hk hF
      refine wr_cat (a := [UInt8.ofNat (97 + n % 12)]) (b := nmTab.getD (n / 16 % 3) []) rfl rfl rfl (by simp only [List.length_cons, List.length_nil]; omega) ?_
      apply wr_nil
      exact ⟨rfl, Keeps.refl _ _⟩
    focus (intro xx yy h; rfl)
    focus kernel_rfl
    apply chP_pure
    focus
      intro xx w' hk hF
      apply wr_assign; exact rfl; with_reducible (conv => enter [6, 3]; whnf)
      apply wr_nil
      exact ⟨rfl, Keeps.refl _ _⟩
    focus (intro xx yy h; rfl)
    focus kernel_rfl
    refine chP_nil ?_
    intro xx w1 hk1' hF
    have hk1 : Keeps NoB w w1 := (Keeps.refl NoB w).drew.trans hk1'
    clear hF
    (repeat first | apply wr_end | (apply wc_ret; try simp only [thenE, inBlockE, bodyQ]))
    exact leave1 (v := S (UInt8.ofNat (97 + n % 12) :: nmTab.getD (n / 16 % 3) [])) rfl rfl ⟨rfl, hk1⟩
set_option maxRecDepth 100000 in
set_option maxHeartbeats 2000000 in
theorem nameList_ca (l : List Nat) (sl : Value) (m : Nat) (hm : m ≤ 1000) (w : World) (hsl : SlR w 1 sl l.length (IB l)) (hb8 : ∀ x ∈ l, x < 256) :
    Ca Tryz.prog 59 #[sl, .int .i64 (m : Int)] w fun v w' => w'.ownsRow w.heap.size 9 1 v (namesF l m).length (SL (namesF l m)) ∧ Keeps NoB w w' := by
  obtain ⟨a, c, rfl, hc, hat⟩ := hsl.shape
  refine ca_of_body (args := [.slice a l.length c, .int .i64 (m : Int)]) Tryz.func59 rfl (by kernel_rfl) ?_
  (repeat first | (apply wr_assign; exact rfl; with_reducible (conv => enter [6, 3]; whnf)) | apply wr_end | apply wc_seq | apply wc_region | apply wc_block)
  refine wc_loopL (α := Nat × Value) (fun p => [(0, .slice a l.length c), (1, .int .i64 (m : Int)), (5, p.2), (6, .int .i64 (p.1 : Int))])
    (fun p ds w' => ds = [] ∧ p.1 ≤ l.length ∧ p.1 ≤ m ∧ w'.ownsRow w.heap.size 9 1 p.2 p.1 (SL ((l.take p.1).map nameT)) ∧ Keeps NoB w w') (fun p => l.length - p.1) (0, .slice none 0 0)
    ⟨rfl, Nat.zero_le _, Nat.zero_le _, own_nil _ _ _ _, Keeps.refl _ _⟩ ⟨rfl, rfl, rfl, rfl, trivial⟩ ?_
  rintro ⟨i, v⟩ ds f0 w1 ⟨rfl, hi, him, ho, hk⟩
  dsimp only at hi him ho ⊢
  have hend : ∀ {j}, (j = l.length ∨ j = m) → j ≤ m → (l.take j).map nameT = namesF l m := by
    intro j h hj
    unfold namesF
    rcases h with h | h
    · rw [h, List.take_length, List.take_of_length_le (by omega)]
    · rw [h]
  by_cases hlt : i < l.length
  rotate_left
  · have h1 := hend (j := i) (.inl (by omega)) him
    rw [h1] at ho
    have h2 : i = (namesF l m).length := by have := ho.1; rw [SL_len] at this; omega
    subst h2
    (repeat first | (apply wr_move; exact rfl; with_reducible (conv => enter [6, 3]; whnf)) | (apply wr_assign; exact rfl; with_reducible (conv => enter [6, 3]; whnf)) | apply wr_end | apply wc_seq | apply wc_region | (apply wr_len_slice; iterate 2 exact rfl) | (apply wr_cmp; (iterate 3 exact rfl); exact cmpF (by dsimp only [cmpN]; first | done | omega)) | (apply wr_pick (t := false); (iterate 2 exact rfl); with_reducible (conv => enter [6, 3]; whnf)) | (apply wc_false; exact rfl) | (apply wc_exit; try simp only [thenE, inBlockE, bodyQ, ↓reduceIte, Nat.reduceEqDiff]) | (apply wc_ret; try simp only [thenE, inBlockE, bodyQ]) | (apply wr_skip; exact rfl))
    exact leave1 (v := v) rfl rfl ⟨ho, hk⟩
  by_cases hlt2 : i < m
  rotate_left
  · have h1 := hend (j := i) (.inr (by omega)) him
    rw [h1] at ho
    have h2 : i = (namesF l m).length := by have := ho.1; rw [SL_len] at this; omega
    subst h2
    (repeat first | (apply wr_move; exact rfl; with_reducible (conv => enter [6, 3]; whnf)) | (apply wr_assign; exact rfl; with_reducible (conv => enter [6, 3]; whnf)) | apply wr_end | apply wc_seq | apply wc_region | (apply wr_len_slice; iterate 2 exact rfl) | (apply wr_cmp; (iterate 3 exact rfl); exact cmpT (by dsimp only [cmpP]; first | done | omega)) | (apply wr_cmp; (iterate 3 exact rfl); exact cmpF (by dsimp only [cmpN]; first | done | omega)) | (apply wr_pick (t := true); (iterate 2 exact rfl); with_reducible (conv => enter [6, 3]; whnf)) | (apply wc_false; exact rfl) | (apply wc_exit; try simp only [thenE, inBlockE, bodyQ, ↓reduceIte, Nat.reduceEqDiff]) | (apply wc_ret; try simp only [thenE, inBlockE, bodyQ]))
    exact leave1 (v := v) rfl rfl ⟨ho, hk⟩
  obtain ⟨b, o, rfl, cur, e, fr, hb, hr⟩ := hat (by omega)
  obtain ⟨x, hx⟩ : ∃ x, l[i]? = some x := ⟨l[i], by simp [hlt]⟩
  have hx8 := hb8 x (List.mem_of_getElem? hx)
  have hcell : cur[o + i * 1]? = some (.int .u8 (x : Int)) := by rw [Nat.mul_one, hr i (by omega)]; simp [IB, hx]
  have hb1 := hk.heap hb (fun h => h)
  (repeat first | (apply wr_move; exact rfl; with_reducible (conv => enter [6, 3]; whnf)) | apply wr_end | apply wc_seq | apply wc_region | apply wc_skip | apply wc_block | (apply wr_len_slice; iterate 2 exact rfl) | (apply wr_cmp; (iterate 3 exact rfl); exact cmpT (by dsimp only [cmpP]; first | done | omega)) | (apply wr_pick (t := true); (iterate 2 exact rfl); with_reducible (conv => enter [6, 3]; whnf)) | (apply wc_true; exact rfl))
  refine wr_indexAddr (i := i) rfl rfl rfl hlt ?_
  refine wr_load (v := .int .u8 (x : Int)) rfl rfl rfl hb1 hcell ?_
  refine wr_call (vs := [.int .u8 (x : Int)]) rfl (nameX_ca x hx8 w1) rfl ?_
  rintro u w2 ⟨rfl, hk2⟩
  have ho2 := own_keep ho hk2 (fun _ _ h => h)
  refine wr_buildSlice (vs := [S (nameT x)]) rfl rfl (by intro v hv; simp at hv; subst hv; rfl) rfl (by decide) (by decide) (by decide) ?_
  refine wr_name ?_
  intro w3 hw3
  have hk3 : Keeps NoB w2 w3 := by rw [hw3]; exact (Keeps.refl NoB w2).alloc _
  have hc3 : w3.heap[w2.heap.size]? = some (.cells [S (nameT x)].toArray 9 (0, 0)) := by rw [hw3]; exact heap_alloc_same _ _
  have ho3 := own_keep ho2 hk3 (fun _ _ h => h)
  clear hw3
  skip
  refine wr_append (v := v) (base := w.heap.size) (n := i) (m := 1) (xs := SL ((l.take i).map nameT)) (news := [S (nameT x)]) rfl rfl ho3 rfl hc3 rfl (by intro u hu; simp at hu; subst hu; rfl) rfl (by decide) (by omega) (by omega) (by have := hk.size; have := hk2.size; have := hk3.size; omega) ?_
  intro v4 w4 ho4 hk4 _
  (repeat first | (apply wr_move; exact rfl; with_reducible (conv => enter [6, 3]; whnf)) | (apply wr_assign; exact rfl; with_reducible (conv => enter [6, 3]; whnf)) | apply wr_end | apply wc_region | (apply wr_add; (iterate 3 exact rfl); exact w_fit (by dsimp only [kIn]; first | done | omega)) | (apply wr_nil; try simp only [thenE, inBlockE, bodyQ]))
  refine ⟨(i + 1, v4), by dsimp only; omega, ⟨by trivial, hlt, hlt2, ?_, ?_⟩, rfl, rfl, rfl, by simp, trivial⟩
  · have e : SL ((l.take (i + 1)).map nameT) = SL ((l.take i).map nameT) ++ [S (nameT x)] := by
      rw [List.take_add_one, hx]
      simp [SL]
    dsimp only
    rw [e]
    exact ho4
  · exact ((hk.trans hk2).trans hk3).trans' hk4 (fun j hj e => by have := own_ge ho3 e; omega)
set_option maxRecDepth 100000 in
set_option maxHeartbeats 2000000 in
theorem few_ca (l : List Nat) (sl : Value) (m : Nat) (hm : m ≤ 1000) (w : World) (hsl : SlR w 1 sl l.length (IB l)) (hb8 : ∀ x ∈ l, x < 256) :
    Ca Tryz.prog 31 #[sl, .int .i64 (m : Int)] w fun v w' => w'.ownsRow w.heap.size 9 1 v (namesF l m).length (SL (namesF l m)) ∧ Keeps NoB w w' := by
  obtain ⟨a, c, rfl, hc, hat⟩ := hsl.shape
  refine ca_of_body (args := [.slice a l.length c, .int .i64 (m : Int)]) Tryz.func31 rfl (by kernel_rfl) ?_
  (repeat first | (apply wr_move; exact rfl; with_reducible (conv => enter [6, 3]; whnf)) | (apply wr_assign; exact rfl; with_reducible (conv => enter [6, 3]; whnf)) | apply wr_end | apply wc_seq | apply wc_region)
  refine wr_call (vs := [.slice a l.length c, .int .i64 (m : Int)]) rfl (nameList_ca l _ m hm w hsl hb8) rfl ?_
  rintro v w1 ⟨ho, hk⟩
  (repeat first | (apply wr_assign; exact rfl; with_reducible (conv => enter [6, 3]; whnf)) | apply wr_end | (apply wc_ret; try simp only [thenE, inBlockE, bodyQ]))
  exact leave1 (v := v) rfl rfl ⟨ho, hk⟩
end Go.Proofs.YtajajahofkialaaGreatDoor
