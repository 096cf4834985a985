/- package 14: topics as a map's keys; names of a few; what rows and sets share. -/
import Derived.Test.YtajajahofkialaaGreatDoorNl2
import Derived.Test.YtajajahofkialaaGreatDoorNh2
import Derived.Test.YtajajahofkialaaGreatDoorMg
import Derived.Test.YtajajahofkialaaGreatDoorMf
namespace Go.Proofs.YtajajahofkialaaGreatDoor
open Go Go.V Go.RowKit
set_option linter.unusedVariables false
set_option linter.unusedSimpArgs false

abbrev TY := Int × Int
def encT (k : TY) : Value := .agg #[.int .i64 k.1, .int .i64 k.2]
theorem ty_stood : Tryz.prog.stoodInHeld 78 = false := by kernel_rfl
theorem ty_eqIn (n : Nat) (x y : TY) (w : World) : (Op.equalIn (n + 2) 78 (encT x) (encT y)).run Tryz.prog w = .ok (decide (x = y)) w := by
  have h := run_structEq (n := n + 1) (w := w) (xs := #[.int .i64 x.1, .int .i64 x.2]) (ys := #[.int .i64 y.1, .int .i64 y.2]) Tryz.underlying78 ty_stood
    (rs := [decide (x.1 = y.1), decide (x.2 = y.2)])
    ⟨⟨by decide, _, _, run_part1 Tryz.underlying3 rfl rfl, run_part1 Tryz.underlying3 rfl rfl, equalIn_int n inferInstance _ _ _⟩,
     ⟨by decide, _, _, run_part1 Tryz.underlying3 rfl rfl, run_part1 Tryz.underlying3 rfl rfl, equalIn_int n inferInstance _ _ _⟩, trivial⟩
  have e : ([decide (x.1 = y.1), decide (x.2 = y.2)].all id) = decide (x = y) := by
    obtain ⟨a, b⟩ := x
    obtain ⟨c, d⟩ := y
    simp [Prod.mk.injEq, Bool.decide_and]
  rw [e] at h
  exact h
instance keyTy : MKey Tryz.prog 78 encT where
  chk := fun e a w => by
    show (Instr.checkKey e (9999 + 1) 78 (.agg #[.int .i64 a.1, .int .i64 a.2])).run Tryz.prog w = .ok () w
    unfold Instr.checkKey
    simp only [underlying, Sem.run_bind, run_program, Result.andThen_ok, Tryz.underlying78, Sem.run_pure]
    have h1 : (part 3 #[.int .i64 a.1, .int .i64 a.2] 0).run Tryz.prog w = .ok (.int .i64 a.1) w := run_part1 Tryz.underlying3 rfl rfl
    have h2 : (part 3 #[.int .i64 a.1, .int .i64 a.2] 1).run Tryz.prog w = .ok (.int .i64 a.2) w := run_part1 Tryz.underlying3 rfl rfl
    have h3 := chk_int 9998 (P := Tryz.prog) (K := 3) (k := .i64) inferInstance e a.1 w
    have h4 := chk_int 9998 (P := Tryz.prog) (K := 3) (k := .i64) inferInstance e a.2 w
    simp [h1, h2, h3, h4]
  eq := fun a b w => ty_eqIn 9998 a b w
  now := ⟨_, Tryz.underlying78, .inr fun a b => rfl⟩
  bits := fun a => by simp [encT, Instr.sameBits]
abbrev nilV : Value := .slice none 0 0
theorem own_nilV (w : World) (n0 : Nat) (T : TypeId) (sz : Nat) : w.ownsRow n0 T sz nilV 0 [] := ⟨by simp, .inl ⟨rfl, rfl⟩⟩
theorem slr_none (w : World) : SlR w 1 (.slice none 0 0) ([] : TX).length (SL []) := ⟨rfl, none, 0, rfl, Nat.le_refl _, .inl ⟨rfl, fun _ => rfl⟩⟩
/-- Rows of two types. -/
theorem own_own {w : World} {b1 b2 z1 z2 n1 n2 : Nat} {T1 T2 : TypeId} {v1 v2 : Value} {x1 x2 : List Value} (h1 : w.ownsRow b1 T1 z1 v1 n1 x1) (h2 : w.ownsRow b2 T2 z2 v2 n2 x2) (hT : T1 ≠ T2) : ∀ b, v1.ownBlock = some b → ¬ v2.ownBlock = some b := by
  intro b hb hb2
  rcases h2.2 with ⟨rfl, _⟩ | ⟨g, cap, cur, rfl, _, hg, _⟩
  · cases hb2
  · simp [Value.ownBlock] at hb2
    subst hb2
    exact V.F.own_neT h1 hg hT _ hb rfl
/-- A set's names do not stand in a block that holds no texts. -/
theorem SetR.put {w w' : World} {s : PS} {v : Value} {q : Nat} {c : Array Value} {T : TypeId} {fr : Nat × Nat} (h : SetR w s v) (k : Keeps (· = q) w w') (hq : w.heap[q]? = some (.cells c T fr)) (hc : ∀ (j : Nat) (t : TT), c[j]? ≠ some (S t)) : SetR w' s v := by
  obtain ⟨nv, rfl, hl, a, cp, rfl, hcp, h⟩ := h
  refine ⟨_, rfl, hl, a, cp, rfl, hcp, ?_⟩
  rcases h with h | ⟨b, o, cur, e, fr', rfl, hb, hr⟩
  · exact .inl h
  · cases hs : s.2 with
    | nil => exact .inl ⟨rfl, fun h => by cases h⟩
    | cons x l =>
      refine .inr ⟨b, o, cur, e, fr', rfl, k.heap hb fun e => ?_, by rw [hs] at hr; exact hr⟩
      have e : b = q := e
      subst e
      rw [hq] at hb
      injection hb with hb
      injection hb with hb
      subst hb
      have := hr 0 (by rw [hs]; simp)
      rw [hs] at this
      exact hc (o + 0) x this
theorem setCells_ne (a : Bool) (nv : Value) (hn : ∀ t : TT, nv ≠ S t) : ∀ (j : Nat) (t : TT), (#[.bool a, nv] : Array Value)[j]? ≠ some (S t) := by
  intro j t h
  match j with
  | 0 => simp at h
  | 1 => simp at h; exact hn t h
  | j + 2 => simp at h
theorem has_cb {s : PS} {x : TT} {sv : Value} {w : World} (B : Bool) (hB : hasP s x = B) (hx : x.length ≤ 9223372036854775807) (hs : SetR w s sv) (hlen : s.2.length ≤ 8796093022000) :
    Ca Tryz.prog 38 #[sv, S x] w fun v w' => v = .bool B ∧ Keeps NoB w w' := by
  obtain ⟨nv, rfl, h⟩ := hs
  subst hB
  exact has_ca s.1 s.2 x nv w hx h hlen
theorem same_cb {s t : PS} {sv tv : Value} {w : World} (B : Bool) (hB : sameP s t = B) (hs : SetR w s sv) (ht : SetR w t tv) (hsn : s.2.length ≤ 8796093022000) (htn : t.2.length ≤ 8796093022000) :
    Ca Tryz.prog 35 #[sv, tv] w fun v w' => v = .bool B ∧ Keeps NoB w w' := by
  subst hB
  exact same_ca s t sv tv w hs ht hsn htn
theorem own_sl {w : World} {n m sz : Nat} {T : TypeId} {v : Value} {xs : List Value} (h : w.ownsRow n T sz v m xs) : ∃ a c, v = .slice a m c := by
  rcases h.2 with ⟨rfl, rfl⟩ | ⟨g, cap, cur, rfl, _⟩
  · exact ⟨_, _, rfl⟩
  · exact ⟨_, _, rfl⟩
theorem slR_blk {w : World} {b n sz : Nat} {cs : List Value} {T : TypeId} {fr : Nat × Nat} (hb : w.heap[b]? = some (.cells cs.toArray T fr)) (hl : cs.length = n * sz) : SlR w sz (.slice (some ⟨b, 0, none⟩) n n) n cs :=
  ⟨hl, _, n, rfl, Nat.le_refl _, .inr ⟨b, 0, _, _, _, rfl, hb, fun j hj => by simp⟩⟩
theorem SetO.down {w : World} {n n' : Nat} {s : PS} {v : Value} (h : SetO w n s v) (hn : n' ≤ n) : SetO w n' s v := by
  obtain ⟨nv, e, h⟩ := h
  exact ⟨nv, e, own_down h hn⟩
theorem SetO.keepT {D : Nat → Prop} {w w' : World} {n : Nat} {s : PS} {v : Value} (h : SetO w n s v) (kk : Keeps D w w') (hD : ∀ q, D q → q < n ∨ ∃ cs T fr, w.heap[q]? = some (.cells cs T fr) ∧ 9 ≠ T) : SetO w' n s v := by
  obtain ⟨nv, e, h⟩ := h
  refine ⟨nv, e, own_keep h kk fun q hq e => ?_⟩
  rcases hD q e with h1 | ⟨cs, T', fr, hg, h1⟩
  · have := V.F.own_geF h hq; omega
  · exact V.F.own_neT h hg h1 q hq rfl
theorem ofR_ca {W : PS} (hW : Fine W) (hl : (listP W).length ≤ 8796093022000) {sl : Value} {w : World} (hsl : SlR w 1 sl (listP W).length (SL (listP W))) :
    Ca Tryz.prog 30 #[sl] w fun v w' => SetR w' W v ∧ Keeps NoB w w' :=
  (ofO_ca (listP W) sl w hsl hl (listP_ok hW)).mono fun v w' h => by
    have h1 := h.1.toR
    rw [ofP_listP hW] at h1
    exact ⟨h1, h.2⟩
theorem SetR.one {w : World} {s : PS} {a : Bool} {v : Value} (h : SetR w s (SetV a v)) : v.oneCell' = true ∧ ∀ t : TT, v ≠ S t := by
  obtain ⟨nv, e, hs⟩ := h
  obtain ⟨an, cn, e2, _⟩ := slr_strs hs
  have : v = nv := by
    injection e with e
    injection e with e
    simp at e
    exact e.2
  subst this
  rw [e2]
  exact ⟨rfl, fun t h => by cases h⟩
theorem delta_step {a W : PS} (ha : Fine a) (hW : Fine W) : lessP (unionP [a, ofP (listP (lessP W a))]) (ofP (listP (lessP a W))) = W := by
  rw [ofP_listP (lessP_fine hW), ofP_listP (lessP_fine ha)]
  refine fine_ext (lessP_fine (union_fine2 ha (lessP_fine hW))) hW ?_ fun x => ?_
  · show ((unionP [a, lessP W a]).1 && !(a.1 && !W.1)) = W.1
    rw [union_all2]
    show ((a.1 || (W.1 && !a.1)) && !(a.1 && !W.1)) = W.1
    cases a.1 <;> cases W.1 <;> rfl
  · rw [mem_lessP, mem_union2, mem_lessP, mem_lessP]
    by_cases h1 : x ∈ a.2 <;> by_cases h2 : x ∈ W.2 <;> simp [h1, h2]
theorem empty_cb {s : PS} {sv : Value} {w : World} (B : Bool) (hB : (!s.1 && decide (s.2.length = 0)) = B) (hs : SetR w s sv) :
    Ca Tryz.prog 34 #[sv] w fun v w' => v = .bool B ∧ Keeps NoB w w' := by
  obtain ⟨nv, rfl, h⟩ := hs
  subst hB
  exact empty_ca s.1 s.2 nv w h
def IB (l : List Nat) : List Value := l.map fun x => .int .u8 ((x : Nat) : Int)
def nmTab : TX := [[], [49], [47, 120]]
def nameT (n : Nat) : TT := if n % 16 = 15 then [42] else UInt8.ofNat (97 + n % 12) :: nmTab.getD (n / 16 % 3) []
def namesF (l : List Nat) (m : Nat) : TX := (l.take m).map nameT
theorem nmTab_len : ∀ i, i < 3 → (nmTab.getD i []).length ≤ 2 := by decide
theorem nameT_len (n : Nat) : (nameT n).length ≤ 3 := by
  unfold nameT
  split
  · decide
  · have := nmTab_len (n / 16 % 3) (Nat.mod_lt _ (by decide))
    rw [List.length_cons]; omega
theorem namesF_ok (l : List Nat) (m : Nat) : ∀ x ∈ namesF l m, x.length ≤ 9223372036854775807 := by
  intro x hx
  simp only [namesF, List.mem_map] at hx
  obtain ⟨k, _, rfl⟩ := hx
  have := nameT_len k
  omega
theorem namesF_le (l : List Nat) (m : Nat) : (namesF l m).length ≤ m := by simp [namesF]; omega
theorem chr_bytes (n : Nat) : bytesV [UInt8.ofNat (97 + n % 12)] = [.int .u8 (97 + ((n % 12 : Nat) : Int))] := by
  have : ((UInt8.ofNat (97 + n % 12)).toNat : Int) = 97 + ((n % 12 : Nat) : Int) := by
    rw [UInt8.toNat_ofNat']
    omega
  show [Value.int .u8 ((UInt8.ofNat (97 + n % 12)).toNat : Int)] = _
  rw [this]
set_option maxRecDepth 100000 in
set_option maxHeartbeats 4000000 in
theorem nameX_ca (n : Nat) (hn : n < 256) (w : World) : Ca Tryz.prog 24 #[.int .u8 (n : Int)] w fun v w' => v = S (nameT n) ∧ Keeps NoB w w' := by
  refine ca_of_body (args := [.int .u8 (n : Int)]) Tryz.func24 rfl (by kernel_rfl) ?_
  (repeat first | (apply wr_move; exact rfl; with_reducible (conv => enter [6, 3]; whnf)) | (apply wr_assign; exact rfl; with_reducible (conv => enter [6, 3]; whnf)) | apply wr_end | apply wc_seq | apply wc_region)
  refine wr_remN (n := n) (m := 16) rfl rfl rfl (by decide) ?_
  by_cases h15 : n % 16 = 15
  · rw [show nameT n = [42] by unfold nameT; rw [if_pos h15]]
    (repeat first | (apply wr_assign; exact rfl; with_reducible (conv => enter [6, 3]; whnf)) | apply wr_end | apply wc_seq | apply wc_region | (apply wr_cmp; (iterate 3 exact rfl); exact cmpT (by dsimp only [cmpP]; first | done | omega)) | (apply wc_true; exact rfl) | (apply wc_ret; try simp only [thenE, inBlockE, bodyQ]))
    exact leave1 (v := S [42]) rfl rfl ⟨rfl, Keeps.refl _ _⟩
  · rw [show nameT n = UInt8.ofNat (97 + n % 12) :: nmTab.getD (n / 16 % 3) [] by unfold nameT; rw [if_neg h15]]
    have hm3 : n / 16 % 3 < 3 := Nat.mod_lt _ (by decide)
    have hm12 : n % 12 < 12 := Nat.mod_lt _ (by decide)
    have htl := nmTab_len _ hm3
    (repeat first | apply wr_end | apply wc_seq | apply wc_skip | (apply wr_cmp; (iterate 3 exact rfl); exact cmpF (by dsimp only [cmpN]; first | done | omega)) | (apply wc_false; exact rfl))
    refine wc_drawP (l := _) 13 _ (by kernel_rfl) (by kernel_rfl) rfl (by kernel_rfl) (by kernel_rfl) (by decide) ?_
    apply chP_pure
    focus
      intro xx w' hk hF
      apply wr_move; exact rfl; with_reducible (conv => enter [6, 3]; whnf)
      apply wr_nil
      exact ⟨rfl, Keeps.refl _ _⟩
    focus (intro xx yy h; rfl)
    focus kernel_rfl
    apply chP_pure
    focus
      intro xx w' hk hF
      refine wr_remN (n := n) (m := 12) rfl rfl rfl (by decide) ?_
      apply wr_nil
      exact ⟨rfl, Keeps.refl _ _⟩
    focus (intro xx yy h; rfl)
    focus kernel_rfl
    apply chP_pure
    focus
      intro xx w' hk hF
      apply wr_add; (iterate 3 exact rfl); exact w_fit (by dsimp only [kIn]; omega)
      apply wr_nil
      exact ⟨rfl, Keeps.refl _ _⟩
    focus (intro xx yy h; rfl)
    focus kernel_rfl
    refine chP_fact (fun y => .slice (some ⟨blkOf y, 0, none⟩) 1 1) (fun y w' => w'.heap[blkOf y]? = some (.cells #[.int .u8 (97 + ((n % 12 : Nat) : Int))] 5 (0, 0))) (fun y w' w'' h k => k.heap h (fun h => h)) ?_ ?_
    focus
      intro xx w' hk hF
      refine wr_buildSlice (vs := [.int .u8 (97 + ((n % 12 : Nat) : Int))]) rfl rfl (by intro v hv; simp at hv; subst hv; rfl) rfl (by decide) (by decide) (by decide) ?_
      apply wr_nil
      exact ⟨.pointer (some ⟨w'.heap.size, 0, none⟩), rfl, heap_alloc_same _ _, (Keeps.refl _ _).alloc _⟩
    apply chP_pure
    focus
      intro xx w' hk hF
      have h3 : w'.heap[blkOf (xx 3)]? = some (.cells #[.int .u8 (97 + ((n % 12 : Nat) : Int))] 5 (0, 0)) := hF 3 (by kernel_rfl)
      refine wr_bytes2str (n := 1) (l := [UInt8.ofNat (97 + n % 12)]) rfl rfl (slR_blk (cs := bytesV [UInt8.ofNat (97 + n % 12)]) (by rw [chr_bytes]; exact h3) rfl) ?_
      apply wr_nil
      exact ⟨rfl, Keeps.refl _ _⟩
    focus (intro xx yy h; rfl)
    focus kernel_rfl
    refine chP_fact (fun y => .slice (some ⟨blkOf y, 0, none⟩) 3 3) (fun y w' => w'.heap[blkOf y]? = some (.cells (SL nmTab).toArray 9 (0, 0))) (fun y w' w'' h k => k.heap h (fun h => h)) ?_ ?_
    focus
      intro xx w' hk hF
      refine wr_buildSlice (vs := SL nmTab) rfl rfl (by intro v hv; simp [SL, nmTab] at hv; rcases hv with rfl | rfl | rfl <;> rfl) rfl (by decide) (by decide) (by decide) ?_
      apply wr_nil
      exact ⟨.pointer (some ⟨w'.heap.size, 0, none⟩), rfl, heap_alloc_same _ _, (Keeps.refl _ _).alloc _⟩
    apply chP_pure
    focus
      intro xx w' hk hF
      apply wr_move; exact rfl; with_reducible (conv => enter [6, 3]; whnf)
      apply wr_nil
      exact ⟨rfl, Keeps.refl _ _⟩
    focus (intro xx yy h; rfl)
    focus kernel_rfl
    apply chP_pure
    focus
      intro xx w' hk hF
      refine wr_quoN (n := n) (m := 16) rfl rfl rfl (by decide) (w_fit (by dsimp only [kIn]; omega)) ?_
      apply wr_nil
      exact ⟨rfl, Keeps.refl _ _⟩
    focus (intro xx yy h; rfl)
    focus kernel_rfl
    apply chP_pure
    focus
      intro xx w' hk hF
      refine wr_remN (n := n / 16) (m := 3) rfl rfl rfl (by decide) ?_
      apply wr_nil
      exact ⟨rfl, Keeps.refl _ _⟩
    focus (intro xx yy h; rfl)
    focus kernel_rfl
    apply chP_pure
    focus
      intro xx w' hk hF
      refine wr_indexAddr (i := n / 16 % 3) rfl rfl rfl hm3 ?_
      apply wr_nil
      exact ⟨rfl, Keeps.refl _ _⟩
    focus (intro xx yy h; exact congrArg (fun y => Value.pointer (some ⟨blkOf y, 0 + n / 16 % 3 * 1, none⟩)) (h 5 (by kernel_rfl)))
    focus kernel_rfl
    apply chP_pure
    focus
      intro xx w' hk hF
      have h5 : w'.heap[blkOf (xx 5)]? = some (.cells (SL nmTab).toArray 9 (0, 0)) := hF 5 (by kernel_rfl)
      refine wr_load (v := S (nmTab.getD (n / 16 % 3) [])) rfl rfl rfl h5 ?_ ?_
      focus
        have h : ∀ j, j < 3 → (SL nmTab).toArray[0 + j * 1]? = some (S (nmTab.getD j [])) := by
          intro j hj
          match j, hj with
          | 0, _ => rfl
          | 1, _ => rfl
          | 2, _ => rfl
        exact h _ hm3
      apply wr_nil
      exact ⟨rfl, Keeps.refl _ _⟩
    focus (intro xx yy h; rfl)
    focus kernel_rfl
    apply chP_pure
    focus
      intro xx w' hk hF
      refine wr_cat (a := [UInt8.ofNat (97 + n % 12)]) (b := nmTab.getD (n / 16 % 3) []) rfl rfl rfl (by simp only [List.length_cons, List.length_nil]; omega) ?_
      apply wr_nil
      exact ⟨rfl, Keeps.refl _ _⟩
    focus (intro xx yy h; rfl)
    focus kernel_rfl
    apply chP_pure
    focus
      intro xx w' hk hF
      apply wr_assign; exact rfl; with_reducible (conv => enter [6, 3]; whnf)
      apply wr_nil
      exact ⟨rfl, Keeps.refl _ _⟩
    focus (intro xx yy h; rfl)
    focus kernel_rfl
    refine chP_nil ?_
    intro xx w1 hk1' hF
    have hk1 : Keeps NoB w w1 := (Keeps.refl NoB w).drew.trans hk1'
    clear hF
    (repeat first | apply wr_end | (apply wc_ret; try simp only [thenE, inBlockE, bodyQ]))
    exact leave1 (v := S (UInt8.ofNat (97 + n % 12) :: nmTab.getD (n / 16 % 3) [])) rfl rfl ⟨rfl, hk1⟩
set_option maxRecDepth 100000 in
set_option maxHeartbeats 2000000 in
theorem nameList_ca (l : List Nat) (sl : Value) (m : Nat) (hm : m ≤ 1000) (w : World) (hsl : SlR w 1 sl l.length (IB l)) (hb8 : ∀ x ∈ l, x < 256) :
    Ca Tryz.prog 59 #[sl, .int .i64 (m : Int)] w fun v w' => w'.ownsRow w.heap.size 9 1 v (namesF l m).length (SL (namesF l m)) ∧ Keeps NoB w w' := by
  obtain ⟨a, c, rfl, hc, hat⟩ := hsl.shape
  refine ca_of_body (args := [.slice a l.length c, .int .i64 (m : Int)]) Tryz.func59 rfl (by kernel_rfl) ?_
  (repeat first | (apply wr_assign; exact rfl; with_reducible (conv => enter [6, 3]; whnf)) | apply wr_end | apply wc_seq | apply wc_region | apply wc_block)
  refine wc_loopL (α := Nat × Value) (fun p => [(0, .slice a l.length c), (1, .int .i64 (m : Int)), (5, p.2), (6, .int .i64 (p.1 : Int))])
    (fun p ds w' => ds = [] ∧ p.1 ≤ l.length ∧ p.1 ≤ m ∧ w'.ownsRow w.heap.size 9 1 p.2 p.1 (SL ((l.take p.1).map nameT)) ∧ Keeps NoB w w') (fun p => l.length - p.1) (0, .slice none 0 0)
    ⟨rfl, Nat.zero_le _, Nat.zero_le _, own_nil _ _ _ _, Keeps.refl _ _⟩ ⟨rfl, rfl, rfl, rfl, trivial⟩ ?_
  rintro ⟨i, v⟩ ds f0 w1 ⟨rfl, hi, him, ho, hk⟩
  dsimp only at hi him ho ⊢
  have hend : ∀ {j}, (j = l.length ∨ j = m) → j ≤ m → (l.take j).map nameT = namesF l m := by
    intro j h hj
    unfold namesF
    rcases h with h | h
    · rw [h, List.take_length, List.take_of_length_le (by omega)]
    · rw [h]
  by_cases hlt : i < l.length
  rotate_left
  · have h1 := hend (j := i) (.inl (by omega)) him
    rw [h1] at ho
    have h2 : i = (namesF l m).length := by have := ho.1; rw [SL_len] at this; omega
    subst h2
    (repeat first | (apply wr_move; exact rfl; with_reducible (conv => enter [6, 3]; whnf)) | (apply wr_assign; exact rfl; with_reducible (conv => enter [6, 3]; whnf)) | apply wr_end | apply wc_seq | apply wc_region | (apply wr_len_slice; iterate 2 exact rfl) | (apply wr_cmp; (iterate 3 exact rfl); exact cmpF (by dsimp only [cmpN]; first | done | omega)) | (apply wr_pick (t := false); (iterate 2 exact rfl); with_reducible (conv => enter [6, 3]; whnf)) | (apply wc_false; exact rfl) | (apply wc_exit; try simp only [thenE, inBlockE, bodyQ, ↓reduceIte, Nat.reduceEqDiff]) | (apply wc_ret; try simp only [thenE, inBlockE, bodyQ]) | (apply wr_skip; exact rfl))
    exact leave1 (v := v) rfl rfl ⟨ho, hk⟩
  by_cases hlt2 : i < m
  rotate_left
  · have h1 := hend (j := i) (.inr (by omega)) him
    rw [h1] at ho
    have h2 : i = (namesF l m).length := by have := ho.1; rw [SL_len] at this; omega
    subst h2
    (repeat first | (apply wr_move; exact rfl; with_reducible (conv => enter [6, 3]; whnf)) | (apply wr_assign; exact rfl; with_reducible (conv => enter [6, 3]; whnf)) | apply wr_end | apply wc_seq | apply wc_region | (apply wr_len_slice; iterate 2 exact rfl) | (apply wr_cmp; (iterate 3 exact rfl); exact cmpT (by dsimp only [cmpP]; first | done | omega)) | (apply wr_cmp; (iterate 3 exact rfl); exact cmpF (by dsimp only [cmpN]; first | done | omega)) | (apply wr_pick (t := true); (iterate 2 exact rfl); with_reducible (conv => enter [6, 3]; whnf)) | (apply wc_false; exact rfl) | (apply wc_exit; try simp only [thenE, inBlockE, bodyQ, ↓reduceIte, Nat.reduceEqDiff]) | (apply wc_ret; try simp only [thenE, inBlockE, bodyQ]))
    exact leave1 (v := v) rfl rfl ⟨ho, hk⟩
  obtain ⟨b, o, rfl, cur, e, fr, hb, hr⟩ := hat (by omega)
  obtain ⟨x, hx⟩ : ∃ x, l[i]? = some x := ⟨l[i], by simp [hlt]⟩
  have hx8 := hb8 x (List.mem_of_getElem? hx)
  have hcell : cur[o + i * 1]? = some (.int .u8 (x : Int)) := by rw [Nat.mul_one, hr i (by omega)]; simp [IB, hx]
  have hb1 := hk.heap hb (fun h => h)
  (repeat first | (apply wr_move; exact rfl; with_reducible (conv => enter [6, 3]; whnf)) | apply wr_end | apply wc_seq | apply wc_region | apply wc_skip | apply wc_block | (apply wr_len_slice; iterate 2 exact rfl) | (apply wr_cmp; (iterate 3 exact rfl); exact cmpT (by dsimp only [cmpP]; first | done | omega)) | (apply wr_pick (t := true); (iterate 2 exact rfl); with_reducible (conv => enter [6, 3]; whnf)) | (apply wc_true; exact rfl))
  refine wr_indexAddr (i := i) rfl rfl rfl hlt ?_
  refine wr_load (v := .int .u8 (x : Int)) rfl rfl rfl hb1 hcell ?_
  refine wr_call (vs := [.int .u8 (x : Int)]) rfl (nameX_ca x hx8 w1) rfl ?_
  rintro u w2 ⟨rfl, hk2⟩
  have ho2 := own_keep ho hk2 (fun _ _ h => h)
  refine wr_buildSlice (vs := [S (nameT x)]) rfl rfl (by intro v hv; simp at hv; subst hv; rfl) rfl (by decide) (by decide) (by decide) ?_
  refine wr_name ?_
  intro w3 hw3
  have hk3 : Keeps NoB w2 w3 := by rw [hw3]; exact (Keeps.refl NoB w2).alloc _
  have hc3 : w3.heap[w2.heap.size]? = some (.cells [S (nameT x)].toArray 9 (0, 0)) := by rw [hw3]; exact heap_alloc_same _ _
  have ho3 := own_keep ho2 hk3 (fun _ _ h => h)
  clear hw3
  skip
  refine wr_append (v := v) (base := w.heap.size) (n := i) (m := 1) (xs := SL ((l.take i).map nameT)) (news := [S (nameT x)]) rfl rfl ho3 rfl hc3 rfl (by intro u hu; simp at hu; subst hu; rfl) rfl (by decide) (by omega) (by omega) (by have := hk.size; have := hk2.size; have := hk3.size; omega) ?_
  intro v4 w4 ho4 hk4 _
  (repeat first | (apply wr_move; exact rfl; with_reducible (conv => enter [6, 3]; whnf)) | (apply wr_assign; exact rfl; with_reducible (conv => enter [6, 3]; whnf)) | apply wr_end | apply wc_region | (apply wr_add; (iterate 3 exact rfl); exact w_fit (by dsimp only [kIn]; first | done | omega)) | (apply wr_nil; try simp only [thenE, inBlockE, bodyQ]))
  refine ⟨(i + 1, v4), by dsimp only; omega, ⟨by trivial, hlt, hlt2, ?_, ?_⟩, rfl, rfl, rfl, by simp, trivial⟩
  · have e : SL ((l.take (i + 1)).map nameT) = SL ((l.take i).map nameT) ++ [S (nameT x)] := by
      rw [List.take_add_one, hx]
      simp [SL]
    dsimp only
    rw [e]
    exact ho4
  · exact ((hk.trans hk2).trans hk3).trans' hk4 (fun j hj e => by have := own_ge ho3 e; omega)
set_option maxRecDepth 100000 in
set_option maxHeartbeats 2000000 in
theorem few_ca (l : List Nat) (sl : Value) (m : Nat) (hm : m ≤ 1000) (w : World) (hsl : SlR w 1 sl l.length (IB l)) (hb8 : ∀ x ∈ l, x < 256) :
    Ca Tryz.prog 31 #[sl, .int .i64 (m : Int)] w fun v w' => w'.ownsRow w.heap.size 9 1 v (namesF l m).length (SL (namesF l m)) ∧ Keeps NoB w w' := by
  obtain ⟨a, c, rfl, hc, hat⟩ := hsl.shape
  refine ca_of_body (args := [.slice a l.length c, .int .i64 (m : Int)]) Tryz.func31 rfl (by kernel_rfl) ?_
  (repeat first | (apply wr_move; exact rfl; with_reducible (conv => enter [6, 3]; whnf)) | (apply wr_assign; exact rfl; with_reducible (conv => enter [6, 3]; whnf)) | apply wr_end | apply wc_seq | apply wc_region)
  refine wr_call (vs := [.slice a l.length c, .int .i64 (m : Int)]) rfl (nameList_ca l _ m hm w hsl hb8) rfl ?_
  rintro v w1 ⟨ho, hk⟩
  (repeat first | (apply wr_assign; exact rfl; with_reducible (conv => enter [6, 3]; whnf)) | apply wr_end | (apply wc_ret; try simp only [thenE, inBlockE, bodyQ]))
  exact leave1 (v := v) rfl rfl ⟨ho, hk⟩
end Go.Proofs.YtajajahofkialaaGreatDoor

namespace Go.Proofs.YtajajahofkialaaGreatDoor
open Go Go.V Go.RowKit
set_option linter.unusedVariables false
set_option linter.unusedSimpArgs false

theorem getM_putM {α : Type} [DecidableEq α] (M : List (α × Value)) (c x : α) (v : Value) : getM (putM M c v) x = if x = c then some v else getM M x := by
  unfold putM
  by_cases hn : c ∈ M.map (·.1)
  · rw [if_pos hn]
    induction M with
    | nil => simp at hn
    | cons p M ih =>
      obtain ⟨q, u⟩ := p
      by_cases hk : q = c
      · subst hk
        by_cases hx : x = q
        · subst hx; simp [getM]
        · by_cases hm : q ∈ M.map (·.1)
          · have := ih hm
            simp only [getM] at this ⊢
            rw [List.map_cons, List.find?_cons, List.find?_cons]
            simp only [if_true]
            rw [decide_eq_false (Ne.symm hx)]
            simpa [hx] using this
          · have hmap : M.map (fun p => if p.1 = q then (q, v) else p) = M := by
              conv => rhs; rw [← List.map_id M]
              apply List.map_congr_left
              intro p hp
              rw [if_neg]; rfl
              intro e
              exact hm (List.mem_map.2 ⟨p, hp, e⟩)
            rw [List.map_cons, hmap]
            simp [getM, Ne.symm hx, hx]
      · have hm : c ∈ M.map (·.1) := by
          simp only [List.map_cons, List.mem_cons] at hn
          exact hn.resolve_left (Ne.symm hk)
        have := ih hm
        by_cases hx : x = q
        · subst hx; simp [getM, hk]
        · simp only [getM] at this ⊢
          rw [List.map_cons, List.find?_cons, List.find?_cons]
          simp only [hk, if_false]
          rw [decide_eq_false (Ne.symm hx)]
          exact this
  · rw [if_neg hn]
    simp only [getM, List.find?_append]
    by_cases hx : x = c
    · subst hx
      have : M.find? (fun p => decide (p.1 = x)) = none := by
        rw [List.find?_eq_none]
        intro p hp
        simp
        intro e
        exact hn (List.mem_map.2 ⟨p, hp, e⟩)
      rw [this]; simp
    · simp [hx, Ne.symm hx]
theorem getM_delM {α : Type} [DecidableEq α] (M : List (α × Value)) (c x : α) : getM (delM M c) x = if x = c then none else getM M x := by
  unfold delM getM
  induction M with
  | nil => simp
  | cons p M ih =>
    by_cases hp : p.1 = c
    · rw [List.filter_cons_of_neg (by simp [hp]), ih, List.find?_cons]
      by_cases hx : x = c
      · simp [hx]
      · have : ¬ p.1 = x := fun e => hx (by rw [← e, hp])
        simp [hx, this]
    · rw [List.filter_cons_of_pos (by simp [hp]), List.find?_cons, List.find?_cons]
      by_cases hpx : p.1 = x
      · have : ¬ x = c := fun e => hp (by rw [hpx, e])
        simp [hpx, this]
      · simp only [hpx, decide_false]
        exact ih
/-- Block b counts f: who is counted 0 times is not there. -/
def CntAt (w : World) (b : Nat) (f : TT → Int) : Prop := ∃ C : List (TT × Value), MapAt w Go.V.encS b C ∧ ∀ x, getM C x = if f x = 0 then none else some (.int .i64 (f x))
theorem CntAt.keep {D : Nat → Prop} {w w' : World} {b : Nat} {f : TT → Int} (h : CntAt w b f) (k : Keeps D w w') (hd : ¬ D b) : CntAt w' b f := by
  obtain ⟨C, h1, h2⟩ := h
  exact ⟨C, h1.keep k hd, h2⟩
theorem CntAt.get {w : World} {b : Nat} {f : TT → Int} {C : List (TT × Value)} (h2 : ∀ x, getM C x = if f x = 0 then none else some (.int .i64 (f x))) (x : TT) : (getM C x).getD (.int .i64 0) = .int .i64 (f x) := by
  rw [h2]
  split
  · rename_i h; rw [h]; rfl
  · rfl
/-- The cells of a merge. -/
def GMg (wb : Nat) (cb : List Nat) : List Value := .map (some wb) :: cb.map fun b => .map (some b)
theorem GMg_get {wb : Nat} {cb : List Nat} {k b : Nat} (h : cb[k]? = some b) : (GMg wb cb).toArray[1 + k]? = some (.map (some b)) := by
  rw [List.getElem?_toArray]
  unfold GMg
  rw [Nat.add_comm, List.getElem?_cons_succ, List.getElem?_map, h]
  rfl
theorem map_ne {α : Type} [DecidableEq α] {w : World} {enc : α → Value} {b : Nat} {M : List (α × Value)} {c : Array Value} {T : TypeId} {fr : Nat × Nat} {g : Nat} (h : MapAt w enc b M) (hg : w.heap[g]? = some (.cells c T fr)) : g ≠ b := by
  rintro rfl
  obtain ⟨es, n, hb, _⟩ := h
  rw [hg] at hb
  cases hb
def addC (f : TT → Int) (l : TX) (by' : Int) : TT → Int := fun x => f x + if x ∈ l then by' else 0
section
variable {P : Program} {ops : Array Oper} {Q : Post} {ds : List Deferred} {f : Env} {w w' : World} {rest : List Oper}
variable {d : Option Nat} {ty : TypeId} {pos : String} {af : Array Edge} {g : Option (Nat × Bool)}
theorem wr_indexArr {t e : TypeId} {z : Value} {size by' len : Nat} {x y : Operand} {b o : Nat} {k : IntKind} {i : Nat} [U : Und P t (.array len e)] [I : Info P e z size by'] (hw : wantedE ops f ⟨d, .indexAddr t x y, ty, pos, af, g⟩ = true) (hx : ev f x = .pointer (some ⟨b, o, none⟩)) (hy : ev f y = .int k (i : Int))
    (hi : i < len) (kk : Wr P ops Q ds rest (setO f d (.pointer (some ⟨b, o + i * size, none⟩))) w) : Wr P ops Q ds (⟨d, .indexAddr t x y, ty, pos, af, g⟩ :: rest) f w := by
  refine wr_v (s := Instr.indexAt t (ev f x) (ev f y)) (v := .pointer (some ⟨b, o + i * size, none⟩)) hw rfl ?_ kk
  rw [hx, hy]
  simp only [Instr.indexAt, asIntOf, Sem.run_bind, Sem.run_pure, Result.andThen_ok, run_und U, Instr.sureAddr]
  rw [if_pos ⟨by omega, by omega⟩]
  simp only [Sem.run_bind, run_sizeOf' I, Result.andThen_ok, Sem.run_pure, Int.toNat_natCast, addr_add]
end
set_option maxRecDepth 100000 in
set_option maxHeartbeats 4000000 in
theorem count_ca {w : World} {ab wb : Nat} {cb : List Nat} (hc : w.heap[ab]? = some (.cells (GMg wb cb).toArray 76 (0, 0))) {k b : Nat} (hk : k < 6) (hb : cb[k]? = some b) {f : TT → Int} (h : CntAt w b f) (by' : Int) (hby : by' = 1 ∨ by' = -1)
    {l : TX} {sl : Value} (hsl : SlR w 1 sl l.length (SL l)) (hnd : l.Nodup) (hlen : l.length ≤ 100000000000) (hf : ∀ x, -1000000 ≤ f x ∧ f x ≤ 1000000) :
    Ca Tryz.prog 62 #[.pointer (some ⟨ab, 0, none⟩), .int .i64 (k : Int), .int .i64 by', sl] w fun v w' => v = .tuple #[] ∧ CntAt w' b (addC f l by') ∧ Keeps (· = b) w w' := by
  obtain ⟨a, c, rfl, hcap, hat⟩ := slr_strs hsl
  refine ca_of_body (args := [.pointer (some ⟨ab, 0, none⟩), .int .i64 (k : Int), .int .i64 by', .slice a l.length c]) Tryz.func62 rfl (by kernel_rfl) ?_
  (repeat first | (apply wr_move; exact rfl; with_reducible (conv => enter [6, 3]; whnf)) | apply wr_end | apply wc_seq | apply wc_region | apply wc_block | (apply wr_len_slice; iterate 2 exact rfl))
  refine wc_loopL (α := Nat) (fun i => [(0, .pointer (some ⟨ab, 0, none⟩)), (1, .int .i64 (k : Int)), (2, .int .i64 by'), (10, .slice a l.length c), (11, .int .i64 (l.length : Int)), (12, .int .i64 (i : Int))])
    (fun i ds w' => ds = [] ∧ i ≤ l.length ∧ CntAt w' b (addC f (l.take i) by') ∧ Keeps (· = b) w w') (fun i => l.length - i) 0
    ⟨rfl, Nat.zero_le _, by
      have : addC f (l.take 0) by' = f := by funext x; simp [addC]
      rw [this]; exact h, Keeps.refl _ _⟩ ⟨rfl, rfl, rfl, rfl, rfl, rfl, trivial⟩ ?_
  rintro i ds f0 w1 ⟨rfl, hi, h1, hk1⟩
  skip
  by_cases hlt : i < l.length
  rotate_left
  · have hie : i = l.length := by omega
    subst hie
    rw [List.take_length] at h1
    (repeat first | apply wr_end | apply wc_seq | apply wc_region | (apply wr_cmp; (iterate 3 exact rfl); exact cmpF (by dsimp only [cmpN]; first | done | omega)) | (apply wc_false; exact rfl) | (apply wc_exit; try simp only [thenE, inBlockE, bodyQ, ↓reduceIte, Nat.reduceEqDiff]))
    exact leave0 rfl ⟨rfl, h1, hk1⟩
  obtain ⟨b0, o0, rfl, cur, ee, fr, hb0, hr⟩ := hat (by omega)
  obtain ⟨x, hx⟩ : ∃ x, l[i]? = some x := ⟨l[i], by simp [hlt]⟩
  obtain ⟨C, hC, hCg⟩ := h1
  obtain ⟨C0, hC0, _⟩ := h
  have hb1 := hk1.heap hb0 (fun e => map_ne hC0 hb0 e)
  have hc1 := hk1.heap hc (fun e => map_ne hC0 hc e)
  have hcellb : (GMg wb cb).toArray[0 + 1 + k * 1]? = some (.map (some b)) := by rw [Nat.zero_add, Nat.mul_one]; exact GMg_get hb
  have hxn : x ∉ l.take i := by
    intro hm
    obtain ⟨j, hj⟩ := List.getElem?_of_mem hm
    rw [List.getElem?_take] at hj
    split at hj
    · rename_i hji
      have h1 := (List.getElem?_eq_some_iff.1 hj).2
      have h2 := (List.getElem?_eq_some_iff.1 hx).2
      exact List.pairwise_iff_getElem.1 hnd j i (by omega) hlt hji (h1.trans h2.symm)
    · cases hj
  have hfx : addC f (l.take i) by' x = f x := by unfold addC; rw [if_neg hxn, Int.add_zero]
  have hfr := hf x
  have hbb : -1 ≤ by' ∧ by' ≤ 1 := by omega
  have hnext : addC f (l.take (i + 1)) by' = fun y => if y = x then f x + by' else addC f (l.take i) by' y := by
    funext y
    unfold addC
    rw [List.take_add_one, hx]
    by_cases hyx : y = x
    · subst hyx; simp
    · simp [hyx]
  (repeat first | apply wr_end | apply wc_seq | apply wc_region | apply wc_skip | apply wc_block | (apply wr_cmp; (iterate 3 exact rfl); exact cmpT (by dsimp only [cmpP]; first | done | omega)) | (apply wc_true; exact rfl))
  refine wr_indexAddr (i := i) rfl rfl rfl hlt ?_
  refine wr_load (v := S x) rfl rfl rfl hb1 (hr i x hx) ?_
  (repeat first | (apply wr_move; exact rfl; with_reducible (conv => enter [6, 3]; whnf)) | (apply wr_assign; exact rfl; with_reducible (conv => enter [6, 3]; whnf)) | apply wr_end | apply wc_seq | apply wc_region | (apply wr_fieldAddr; iterate 2 exact rfl) | (apply wr_nilCheck; iterate 2 exact rfl))
  refine wr_indexArr (i := k) rfl rfl rfl hk ?_
  refine wr_load (v := .map (some b)) rfl rfl rfl hc1 hcellb ?_
  (repeat first | (apply wr_move; exact rfl; with_reducible (conv => enter [6, 3]; whnf)))
  refine wr_lookup (l := C) (a := x) rfl rfl hC rfl ?_
  rw [CntAt.get (w := w1) (b := b) hCg x, hfx]
  (repeat first | (apply wr_move; exact rfl; with_reducible (conv => enter [6, 3]; whnf)) | (apply wr_add; (iterate 3 exact rfl); exact w_fit (by dsimp only [kIn]; first | done | omega)))
  refine wr_update (l := C) (a := x) rfl rfl hC rfl rfl ?_
  intro w2 hC2 hk2
  have hk12 := hk1.trans hk2
  have hc2 := hk2.heap hc1 (fun e => map_ne hC hc1 e)
  have hg2 : ∀ y, getM (putM C x (.int .i64 (f x + by'))) y = if y = x then some (.int .i64 (f x + by')) else getM C y := fun y => getM_putM C x y _
  (repeat first | (apply wr_move; exact rfl; with_reducible (conv => enter [6, 3]; whnf)) | apply wr_end | apply wc_seq | apply wc_region | (apply wr_fieldAddr; iterate 2 exact rfl) | (apply wr_nilCheck; iterate 2 exact rfl))
  refine wr_indexArr (i := k) rfl rfl rfl hk ?_
  refine wr_load (v := .map (some b)) rfl rfl rfl hc2 hcellb ?_
  (repeat first | (apply wr_move; exact rfl; with_reducible (conv => enter [6, 3]; whnf)))
  refine wr_lookup (l := putM C x (.int .i64 (f x + by'))) (a := x) rfl rfl hC2 rfl ?_
  rw [hg2, if_pos rfl]
  dsimp only [Option.getD_some]
  by_cases hz : f x + by' = 0
  · (repeat first | (apply wr_move; exact rfl; with_reducible (conv => enter [6, 3]; whnf)) | apply wr_end | apply wc_region | (apply wr_fieldAddr; iterate 2 exact rfl) | (apply wr_nilCheck; iterate 2 exact rfl) | (apply wr_cmp; (iterate 3 exact rfl); exact cmpT (by dsimp only [cmpP]; first | done | omega)) | (apply wc_true; exact rfl))
    refine wr_indexArr (i := k) rfl rfl rfl hk ?_
    refine wr_load (v := .map (some b)) rfl rfl rfl hc2 hcellb ?_
    (repeat first | (apply wr_move; exact rfl; with_reducible (conv => enter [6, 3]; whnf)))
    refine wr_delete (l := putM C x (.int .i64 (f x + by'))) (a := x) rfl rfl hC2 rfl ?_
    intro w3 hC3 hk3
    (repeat first | (apply wr_move; exact rfl; with_reducible (conv => enter [6, 3]; whnf)) | apply wr_end | apply wc_region | (apply wr_add; (iterate 3 exact rfl); exact w_fit (by dsimp only [kIn]; first | done | omega)) | (apply wr_nil; try simp only [thenE, inBlockE, bodyQ]))
    refine ⟨i + 1, by omega, ⟨by trivial, hlt, ?_, hk12.trans hk3⟩, rfl, rfl, rfl, rfl, rfl, rfl, trivial⟩
    rw [hnext]
    refine ⟨_, hC3, fun y => ?_⟩
    rw [getM_delM, hg2]
    by_cases hyx : y = x
    · simp only [if_pos hyx, if_pos hz]
    · rw [if_neg hyx, if_neg hyx, hCg]
      simp only [if_neg hyx]
  · (repeat first | (apply wr_move; exact rfl; with_reducible (conv => enter [6, 3]; whnf)) | apply wr_end | apply wc_region | apply wc_skip | (apply wr_cmp; (iterate 3 exact rfl); exact cmpF (by dsimp only [cmpN]; first | done | omega)) | (apply wr_add; (iterate 3 exact rfl); exact w_fit (by dsimp only [kIn]; first | done | omega)) | (apply wc_false; exact rfl))
    refine ⟨i + 1, by omega, ⟨by trivial, hlt, ?_, hk12⟩, rfl, rfl, rfl, rfl, rfl, rfl, trivial⟩
    rw [hnext]
    refine ⟨_, hC2, fun y => ?_⟩
    rw [hg2]
    by_cases hyx : y = x
    · simp only [if_pos hyx]
      rw [if_neg hz]
    · rw [if_neg hyx, hCg]
      simp only [if_neg hyx]
end Go.Proofs.YtajajahofkialaaGreatDoor
