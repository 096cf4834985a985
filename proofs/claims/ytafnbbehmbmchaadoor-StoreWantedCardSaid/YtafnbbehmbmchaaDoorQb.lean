/- Those that nobody wants, as a heap in memory: Less, Swap, Pop. -/
import Derived.Test.YtafnbbehmbmchaaDoorSp
import Derived.Test.YtafnbbehmbmchaaDoorQa
namespace Go.Proofs.YtafnbbehmbmchaaDoor
open Go Go.V Go.RowKit
set_option linter.unusedVariables false
set_option linter.unusedSimpArgs false

section ops
variable {P : Program} {ops : Array Oper} {Q : Post} {ds : List Deferred} {f : Env} {w w' : World} {rest : List Oper}
variable {d : Option Nat} {ty : TypeId} {pos : String} {af : Array Edge} {g : Option (Nat × Bool)}
theorem wr_slTo {t e : TypeId} {z : Value} {size by' : Nat} {x hi : Operand} {gb o n c j : Nat} {k : IntKind} [U : Und P t (.slice e)] [I : Info P e z size by'] (hw : wantedE ops f ⟨d, .slice t x none (some hi) none, ty, pos, af, g⟩ = true) (hx : ev f x = .slice (some ⟨gb, o, none⟩) n c) (hy : ev f hi = .int k (j : Int))
    (hj : j ≤ c) (kk : Wr P ops Q ds rest (setO f d (.slice (some ⟨gb, o, none⟩) j c)) w) : Wr P ops Q ds (⟨d, .slice t x none (some hi) none, ty, pos, af, g⟩ :: rest) f w := by
  refine wr_sl_slice (i := 0) (j := j) hw hx (.inr ⟨k, congrArg some hy, hj⟩) (.inl ⟨rfl, rfl⟩) ?_
  rw [Option.map_some, addr_add, Nat.zero_mul, Nat.add_zero, ite_self, Nat.sub_zero, Nat.sub_zero]
  exact kk
end ops
theorem nanU_ca (x : Nat) (w : World) : Ca Tryd.prog 115 #[.int .u64 (x : Int)] w fun v w' => v = .bool false ∧ w' = w := by
  refine ca_of_body (args := [.int .u64 (x : Int)]) Tryd.func115 rfl (by kernel_rfl) ?_
  (repeat first | (apply wr_move; exact rfl; with_reducible (conv => enter [6, 3]; whnf)) | (apply wr_assign; exact rfl; with_reducible (conv => enter [6, 3]; whnf)) | apply wr_end | apply wc_seq | apply wc_region | (apply wr_cmp; (iterate 3 exact rfl); exact cmpF (by dsimp only [cmpN]; first | done | omega)) | (apply wc_ret; try simp only [thenE, inBlockE, bodyQ]))
  exact leave1 (v := .bool false) rfl rfl ⟨rfl, by trivial⟩
set_option maxRecDepth 100000 in
theorem cmpU_ca (x y : Nat) (w : World) : Ca Tryd.prog 114 #[.int .u64 (x : Int), .int .u64 (y : Int)] w fun v w' => v = .int .i64 (cmpI (x : Int) (y : Int)) ∧ w' = w := by
  refine ca_of_body (args := [.int .u64 (x : Int), .int .u64 (y : Int)]) Tryd.func114 rfl (by kernel_rfl) ?_
  (repeat first | (apply wr_move; exact rfl; with_reducible (conv => enter [6, 3]; whnf)) | (apply wr_assign; exact rfl; with_reducible (conv => enter [6, 3]; whnf)) | apply wr_end | apply wc_seq | apply wc_region)
  refine wr_call (vs := [.int .u64 (x : Int)]) rfl (nanU_ca x w) rfl ?_
  rintro v w1 ⟨rfl, rfl⟩
  (repeat first | (apply wr_move; exact rfl; with_reducible (conv => enter [6, 3]; whnf)) | (apply wr_assign; exact rfl; with_reducible (conv => enter [6, 3]; whnf)) | apply wr_end | apply wc_seq | apply wc_region)
  refine wr_call (vs := [.int .u64 (y : Int)]) rfl (nanU_ca y w1) rfl ?_
  rintro v w2 ⟨rfl, rfl⟩
  by_cases h1 : (x : Int) < (y : Int)
  · (repeat first | (apply wr_move; exact rfl; with_reducible (conv => enter [6, 3]; whnf)) | (apply wr_assign; exact rfl; with_reducible (conv => enter [6, 3]; whnf)) | apply wr_end | apply wc_seq | apply wc_region | apply wc_skip | (apply wr_cmp; (iterate 3 exact rfl); exact cmpT (by dsimp only [cmpP]; first | done | omega)) | (apply wc_true; exact rfl) | (apply wc_false; exact rfl) | (apply wc_ret; try simp only [thenE, inBlockE, bodyQ]))
    exact leave1 (v := .int .i64 (-1)) rfl rfl ⟨by unfold cmpI; rw [if_pos h1], by trivial⟩
  · by_cases h2 : (y : Int) < (x : Int)
    · (repeat first | (apply wr_move; exact rfl; with_reducible (conv => enter [6, 3]; whnf)) | (apply wr_assign; exact rfl; with_reducible (conv => enter [6, 3]; whnf)) | apply wr_end | apply wc_seq | apply wc_region | apply wc_skip | (apply wr_cmp; (iterate 3 exact rfl); exact cmpT (by dsimp only [cmpP]; first | done | omega)) | (apply wr_cmp; (iterate 3 exact rfl); exact cmpF (by dsimp only [cmpN]; first | done | omega)) | (apply wc_true; exact rfl) | (apply wc_false; exact rfl) | (apply wc_ret; try simp only [thenE, inBlockE, bodyQ]))
      exact leave1 (v := .int .i64 1) rfl rfl ⟨by unfold cmpI; rw [if_neg h1, if_pos h2], by trivial⟩
    · (repeat first | (apply wr_move; exact rfl; with_reducible (conv => enter [6, 3]; whnf)) | (apply wr_assign; exact rfl; with_reducible (conv => enter [6, 3]; whnf)) | apply wr_end | apply wc_seq | apply wc_region | apply wc_skip | (apply wr_cmp; (iterate 3 exact rfl); exact cmpF (by dsimp only [cmpN]; first | done | omega)) | (apply wc_false; exact rfl) | (apply wc_ret; try simp only [thenE, inBlockE, bodyQ]))
      exact leave1 (v := .int .i64 0) rfl rfl ⟨by unfold cmpI; rw [if_neg h1, if_neg h2], by trivial⟩
abbrev PE := Nat × EN
def GP (x : PE) : List Value := [ptrE x]
theorem GP_len (x : PE) : (GP x).length = 1 := rfl
def ordE (a b : EN) : Int := if cmpI (a.2.2 : Int) (b.2.2 : Int) ≠ 0 then cmpI (a.2.2 : Int) (b.2.2 : Int) else ordK (keyR a.1) (keyR b.1)
def ltE (a b : PE) : Prop := ordE a.2 b.2 < 0
instance (a b : PE) : Decidable (ltE a b) := by unfold ltE; infer_instance
theorem ltE_iff (a b : PE) : ltE a b ↔ a.2.2.2 < b.2.2.2 ∨ (a.2.2.2 = b.2.2.2 ∧ ltK (keyR a.2.1) (keyR b.2.1)) := by
  unfold ltE ordE cmpI
  by_cases h1 : a.2.2.2 < b.2.2.2
  · have : (a.2.2.2 : Int) < (b.2.2.2 : Int) := by omega
    simp [h1, this]
  · have h1' : ¬ (a.2.2.2 : Int) < (b.2.2.2 : Int) := by omega
    by_cases h2 : b.2.2.2 < a.2.2.2
    · have h2' : (b.2.2.2 : Int) < (a.2.2.2 : Int) := by omega
      have h3 : a.2.2.2 ≠ b.2.2.2 := by omega
      simp [h1, h1', h2', h3]
    · have h2' : ¬ (b.2.2.2 : Int) < (a.2.2.2 : Int) := by omega
      have h3 : a.2.2.2 = b.2.2.2 := by omega
      simp only [h1, h1', h2', h3, if_false, ne_eq, not_true_eq_false, false_or, true_and]
      rw [← ordK_lt]
      simp
theorem ltE_strict : Strict ltE where
  asym := fun a b h h' => by
    rw [ltE_iff] at h h'
    rcases h with h | ⟨h1, h2⟩ <;> rcases h' with h' | ⟨h1', h2'⟩
    · omega
    · omega
    · omega
    · exact ordK_strict.asym _ _ ((ordK_lt _ _).2 h2) ((ordK_lt _ _).2 h2')
  ntr := fun a b c h h' => by
    rw [ltE_iff] at h h' ⊢
    rintro (hc | ⟨e, hc⟩)
    · have h1 : ¬ b.2.2.2 < a.2.2.2 := fun e => h (.inl e)
      have h2 : ¬ c.2.2.2 < b.2.2.2 := fun e => h' (.inl e)
      omega
    · have h1 : ¬ b.2.2.2 < a.2.2.2 := fun e => h (.inl e)
      have h2 : ¬ c.2.2.2 < b.2.2.2 := fun e => h' (.inl e)
      have e1 : b.2.2.2 = a.2.2.2 := by omega
      have e2 : c.2.2.2 = b.2.2.2 := by omega
      exact ordK_strict.ntr (keyR a.2.1) (keyR b.2.1) (keyR c.2.1) (fun x => h (.inr ⟨e1, (ordK_lt _ _).1 x⟩)) (fun x => h' (.inr ⟨e2, (ordK_lt _ _).1 x⟩)) ((ordK_lt _ _).2 hc)
/-- A heap in memory: the slice's variable, the slice, the entries. -/
structure HeapAt (w : World) (base vb : Nat) (v : Value) (l : List PE) : Prop where
  cell : w.heap[vb]? = some (.cells #[v] 87 (0, 0))
  row : w.ownsRow base 63 1 v l.length (l.flatMap GP)
  ents : ∀ x ∈ l, w.heap[x.1]? = some (.cells (GE x.2).toArray 66 (0, 0))
theorem HeapAt.keep {w w' : World} {base vb : Nat} {v : Value} {l : List PE} (h : HeapAt w base vb v l) (k : Keeps NoB w w') : HeapAt w' base vb v l :=
  ⟨k.heap h.cell (fun h => h), own_keep h.row k (fun _ _ h => h), fun x hx => k.heap (h.ents x hx) (fun h => h)⟩
theorem HeapAt.ne_vb {w : World} {base vb : Nat} {v : Value} {l : List PE} (h : HeapAt w base vb v l) {q : Nat} (hq : v.ownBlock = some q) : vb ≠ q := by
  rintro rfl
  rcases h.row.2 with ⟨rfl, _⟩ | ⟨g, cap, cur, rfl, hb, hg, _⟩
  · simp [Value.ownBlock] at hq
  · simp [Value.ownBlock] at hq
    subst hq
    rw [h.cell] at hg
    cases hg
theorem HeapAt.ne_ent {w : World} {base vb : Nat} {v : Value} {l : List PE} (h : HeapAt w base vb v l) {q : Nat} (hq : v.ownBlock = some q) {x : PE} (hx : x ∈ l) : x.1 ≠ q := by
  rintro rfl
  rcases h.row.2 with ⟨rfl, _⟩ | ⟨g, cap, cur, rfl, hb, hg, _⟩
  · simp [Value.ownBlock] at hq
  · simp [Value.ownBlock] at hq
    subst hq
    rw [h.ents x hx] at hg
    cases hg
theorem GE_key (e : EN) (j : Nat) (u : Value) (h : ([.int .i64 e.1.1, S e.1.2.1] : List Value)[j]? = some u) : (GE e).toArray[j]? = some u := by
  match j, h with
  | 0, h => exact h
  | 1, h => exact h
  | j + 2, h => simp at h
set_option maxRecDepth 100000 in
set_option maxHeartbeats 4000000 in
theorem less_ca {base vb : Nat} {v : Value} {l : List PE} {w : World} (h : HeapAt w base vb v l) {i j : Nat} {a b : PE} (ha : l[i]? = some a) (hb' : l[j]? = some b) :
    Ca Tryd.prog 110 #[v, .int .i64 (i : Int), .int .i64 (j : Int)] w fun r w' => r = .bool (decide (ltE a b)) ∧ Keeps NoB w w' := by
  have hi := (List.getElem?_eq_some_iff.1 ha).1
  have hj := (List.getElem?_eq_some_iff.1 hb').1
  rcases own_cases h.row with ⟨_, h0⟩ | ⟨bb, cap, rfl⟩
  · omega
  obtain ⟨cur, hb, hr⟩ := own_at h.row
  have hea := h.ents a (List.mem_of_getElem? ha)
  have heb := h.ents b (List.mem_of_getElem? hb')
  refine ca_of_body (args := [.slice (some ⟨bb, 0, none⟩) l.length cap, .int .i64 (i : Int), .int .i64 (j : Int)]) Tryd.func110 rfl (by kernel_rfl) ?_
  have hk0 : ∀ {w'}, Keeps NoB w.drew w' → Keeps NoB w w' := fun hk => (Keeps.refl NoB w).drew.trans hk
  (repeat first | (apply wr_assign; exact rfl; with_reducible (conv => enter [6, 3]; whnf)) | apply wr_end | apply wc_seq | apply wc_region)
  refine wc_drawP (l := _) 36 _ (by kernel_rfl) (by kernel_rfl) rfl (by kernel_rfl) (by kernel_rfl) (by decide) ?_
  apply chP_pure
  focus
    intro xx w' hk hF
    apply wr_move; exact rfl; with_reducible (conv => enter [6, 3]; whnf)
    apply wr_nil
    exact ⟨rfl, Keeps.refl _ _⟩
  focus (intro xx yy h; rfl)
  focus kernel_rfl
  apply chP_pure
  focus
    intro xx w' hk hF
    apply wr_move; exact rfl; with_reducible (conv => enter [6, 3]; whnf)
    apply wr_nil
    exact ⟨rfl, Keeps.refl _ _⟩
  focus (intro xx yy h; rfl)
  focus kernel_rfl
  apply chP_pure
  focus
    intro xx w' hk hF
    refine wr_indexAddr (i := i) rfl rfl rfl hi ?_
    apply wr_nil
    exact ⟨rfl, Keeps.refl _ _⟩
  focus (intro xx yy h; rfl)
  focus kernel_rfl
  apply chP_pure
  focus
    intro xx w' hk hF
    refine wr_load (v := ptrE a) rfl rfl rfl ((hk0 hk).heap hb (fun h => h)) (cell_elem (j := 0) (v := ptrE a) GP_len hr hi ha rfl) ?_
    apply wr_nil
    exact ⟨rfl, Keeps.refl _ _⟩
  focus (intro xx yy h; rfl)
  focus kernel_rfl
  apply chP_pure
  focus
    intro xx w' hk hF
    apply wr_nilCheck; iterate 2 exact rfl
    apply wr_nil
    exact ⟨rfl, Keeps.refl _ _⟩
  focus (intro xx yy h; rfl)
  focus kernel_rfl
  apply chP_pure
  focus
    intro xx w' hk hF
    refine wr_fieldAddr rfl rfl ?_
    apply wr_nil
    exact ⟨rfl, Keeps.refl _ _⟩
  focus (intro xx yy h; rfl)
  focus kernel_rfl
  apply chP_pure
  focus
    intro xx w' hk hF
    refine wr_load (v := .int .u64 (a.2.2.2 : Int)) rfl rfl rfl ((hk0 hk).heap hea (fun h => h)) rfl ?_
    apply wr_nil
    exact ⟨rfl, Keeps.refl _ _⟩
  focus (intro xx yy h; rfl)
  focus kernel_rfl
  apply chP_pure
  focus
    intro xx w' hk hF
    apply wr_move; exact rfl; with_reducible (conv => enter [6, 3]; whnf)
    apply wr_nil
    exact ⟨rfl, Keeps.refl _ _⟩
  focus (intro xx yy h; rfl)
  focus kernel_rfl
  apply chP_pure
  focus
    intro xx w' hk hF
    apply wr_move; exact rfl; with_reducible (conv => enter [6, 3]; whnf)
    apply wr_nil
    exact ⟨rfl, Keeps.refl _ _⟩
  focus (intro xx yy h; rfl)
  focus kernel_rfl
  apply chP_pure
  focus
    intro xx w' hk hF
    refine wr_indexAddr (i := j) rfl rfl rfl hj ?_
    apply wr_nil
    exact ⟨rfl, Keeps.refl _ _⟩
  focus (intro xx yy h; rfl)
  focus kernel_rfl
  apply chP_pure
  focus
    intro xx w' hk hF
    refine wr_load (v := ptrE b) rfl rfl rfl ((hk0 hk).heap hb (fun h => h)) (cell_elem (j := 0) (v := ptrE b) GP_len hr hj hb' rfl) ?_
    apply wr_nil
    exact ⟨rfl, Keeps.refl _ _⟩
  focus (intro xx yy h; rfl)
  focus kernel_rfl
  apply chP_pure
  focus
    intro xx w' hk hF
    apply wr_nilCheck; iterate 2 exact rfl
    apply wr_nil
    exact ⟨rfl, Keeps.refl _ _⟩
  focus (intro xx yy h; rfl)
  focus kernel_rfl
  apply chP_pure
  focus
    intro xx w' hk hF
    refine wr_fieldAddr rfl rfl ?_
    apply wr_nil
    exact ⟨rfl, Keeps.refl _ _⟩
  focus (intro xx yy h; rfl)
  focus kernel_rfl
  apply chP_pure
  focus
    intro xx w' hk hF
    refine wr_load (v := .int .u64 (b.2.2.2 : Int)) rfl rfl rfl ((hk0 hk).heap heb (fun h => h)) rfl ?_
    apply wr_nil
    exact ⟨rfl, Keeps.refl _ _⟩
  focus (intro xx yy h; rfl)
  focus kernel_rfl
  apply chP_pure
  focus
    intro xx w' hk hF
    refine wr_call (vs := [.int .u64 (a.2.2.2 : Int), .int .u64 (b.2.2.2 : Int)]) rfl (cmpU_ca a.2.2.2 b.2.2.2 w') rfl ?_
    rintro v w'' ⟨rfl, rfl⟩
    apply wr_nil
    exact ⟨rfl, Keeps.refl _ _⟩
  focus (intro xx yy h; rfl)
  focus kernel_rfl
  apply chP_pure
  focus
    intro xx w' hk hF
    apply wr_move; exact rfl; with_reducible (conv => enter [6, 3]; whnf)
    apply wr_nil
    exact ⟨rfl, Keeps.refl _ _⟩
  focus (intro xx yy h; rfl)
  focus kernel_rfl
  apply chP_pure
  focus
    intro xx w' hk hF
    apply wr_move; exact rfl; with_reducible (conv => enter [6, 3]; whnf)
    apply wr_nil
    exact ⟨rfl, Keeps.refl _ _⟩
  focus (intro xx yy h; rfl)
  focus kernel_rfl
  apply chP_pure
  focus
    intro xx w' hk hF
    refine wr_indexAddr (i := i) rfl rfl rfl hi ?_
    apply wr_nil
    exact ⟨rfl, Keeps.refl _ _⟩
  focus (intro xx yy h; rfl)
  focus kernel_rfl
  apply chP_pure
  focus
    intro xx w' hk hF
    refine wr_load (v := ptrE a) rfl rfl rfl ((hk0 hk).heap hb (fun h => h)) (cell_elem (j := 0) (v := ptrE a) GP_len hr hi ha rfl) ?_
    apply wr_nil
    exact ⟨rfl, Keeps.refl _ _⟩
  focus (intro xx yy h; rfl)
  focus kernel_rfl
  apply chP_pure
  focus
    intro xx w' hk hF
    apply wr_nilCheck; iterate 2 exact rfl
    apply wr_nil
    exact ⟨rfl, Keeps.refl _ _⟩
  focus (intro xx yy h; rfl)
  focus kernel_rfl
  apply chP_pure
  focus
    intro xx w' hk hF
    refine wr_fieldAddr rfl rfl ?_
    apply wr_nil
    exact ⟨rfl, Keeps.refl _ _⟩
  focus (intro xx yy h; rfl)
  focus kernel_rfl
  apply chP_pure
  focus
    intro xx w' hk hF
    refine wr_fieldAddr rfl rfl ?_
    apply wr_nil
    exact ⟨rfl, Keeps.refl _ _⟩
  focus (intro xx yy h; rfl)
  focus kernel_rfl
  apply chP_pure
  focus
    intro xx w' hk hF
    refine wr_loadAgg (cs := [.int .i64 a.2.1.1, S a.2.1.2.1]) rfl rfl rfl rfl (fun q u h => cell_of_heap ((hk0 hk).heap hea (fun h => h)) (by rw [Nat.zero_add]; exact GE_key a.2 q u h)) ?_
    apply wr_nil
    exact ⟨rfl, Keeps.refl _ _⟩
  focus (intro xx yy h; rfl)
  focus kernel_rfl
  apply chP_pure
  focus
    intro xx w' hk hF
    apply wr_move; exact rfl; with_reducible (conv => enter [6, 3]; whnf)
    apply wr_nil
    exact ⟨rfl, Keeps.refl _ _⟩
  focus (intro xx yy h; rfl)
  focus kernel_rfl
  apply chP_pure
  focus
    intro xx w' hk hF
    apply wr_move; exact rfl; with_reducible (conv => enter [6, 3]; whnf)
    apply wr_nil
    exact ⟨rfl, Keeps.refl _ _⟩
  focus (intro xx yy h; rfl)
  focus kernel_rfl
  apply chP_pure
  focus
    intro xx w' hk hF
    refine wr_indexAddr (i := j) rfl rfl rfl hj ?_
    apply wr_nil
    exact ⟨rfl, Keeps.refl _ _⟩
  focus (intro xx yy h; rfl)
  focus kernel_rfl
  apply chP_pure
  focus
    intro xx w' hk hF
    refine wr_load (v := ptrE b) rfl rfl rfl ((hk0 hk).heap hb (fun h => h)) (cell_elem (j := 0) (v := ptrE b) GP_len hr hj hb' rfl) ?_
    apply wr_nil
    exact ⟨rfl, Keeps.refl _ _⟩
  focus (intro xx yy h; rfl)
  focus kernel_rfl
  apply chP_pure
  focus
    intro xx w' hk hF
    apply wr_nilCheck; iterate 2 exact rfl
    apply wr_nil
    exact ⟨rfl, Keeps.refl _ _⟩
  focus (intro xx yy h; rfl)
  focus kernel_rfl
  apply chP_pure
  focus
    intro xx w' hk hF
    refine wr_fieldAddr rfl rfl ?_
    apply wr_nil
    exact ⟨rfl, Keeps.refl _ _⟩
  focus (intro xx yy h; rfl)
  focus kernel_rfl
  apply chP_pure
  focus
    intro xx w' hk hF
    refine wr_fieldAddr rfl rfl ?_
    apply wr_nil
    exact ⟨rfl, Keeps.refl _ _⟩
  focus (intro xx yy h; rfl)
  focus kernel_rfl
  apply chP_pure
  focus
    intro xx w' hk hF
    refine wr_loadAgg (cs := [.int .i64 b.2.1.1, S b.2.1.2.1]) rfl rfl rfl rfl (fun q u h => cell_of_heap ((hk0 hk).heap heb (fun h => h)) (by rw [Nat.zero_add]; exact GE_key b.2 q u h)) ?_
    apply wr_nil
    exact ⟨rfl, Keeps.refl _ _⟩
  focus (intro xx yy h; rfl)
  focus kernel_rfl
  apply chP_pure
  focus
    intro xx w' hk hF
    refine wr_call (vs := [encK (keyR a.2.1), encK (keyR b.2.1)]) rfl (order_ca (keyR a.2.1) (keyR b.2.1) w') rfl ?_
    rintro v w'' ⟨rfl, hkc⟩
    apply wr_nil
    exact ⟨rfl, hkc⟩
  focus (intro xx yy h; rfl)
  focus kernel_rfl
  refine chP_fact (fun y => .slice (some ⟨blkOf y, 0, none⟩) 2 2) (fun y w' => w'.heap[blkOf y]? = some (.cells #[.int .i64 (cmpI (a.2.2.2 : Int) (b.2.2.2 : Int)), .int .i64 (ordK (keyR a.2.1) (keyR b.2.1))] 3 (0, 0))) (fun y w' w'' h k => k.heap h (fun h => h)) ?_ ?_
  focus
    intro xx w' hk hF
    refine wr_buildSlice (vs := [.int .i64 (cmpI (a.2.2.2 : Int) (b.2.2.2 : Int)), .int .i64 (ordK (keyR a.2.1) (keyR b.2.1))]) rfl rfl (by intro v hv; simp at hv; rcases hv with rfl | rfl <;> rfl) rfl (by decide) (by decide) (by decide) ?_
    apply wr_nil
    exact ⟨.pointer (some ⟨w'.heap.size, 0, none⟩), rfl, heap_alloc_same _ _, (Keeps.refl _ _).alloc _⟩
  apply chP_pure
  focus
    intro xx w' hk hF
    refine wr_call (vs := [.slice (some ⟨blkOf (xx 32), 0, none⟩) 2 2]) rfl (or2_ca (cmpI (a.2.2.2 : Int) (b.2.2.2 : Int)) (ordK (keyR a.2.1) (keyR b.2.1)) (blkOf (xx 32)) _ _ w' (hF 32 (by kernel_rfl))) rfl ?_
    rintro v w'' ⟨rfl, rfl⟩
    apply wr_nil
    exact ⟨rfl, Keeps.refl _ _⟩
  focus (intro xx yy h; rfl)
  focus kernel_rfl
  by_cases hlt : ordE a.2 b.2 < 0
  · skip
    apply chP_pure
    focus
      intro xx w' hk hF
      apply wr_cmp; (iterate 3 exact rfl); exact cmpT (by dsimp only [cmpP]; exact hlt)
      apply wr_nil
      exact ⟨rfl, Keeps.refl _ _⟩
    focus (intro xx yy h; rfl)
    focus kernel_rfl
    apply chP_pure
    focus
      intro xx w' hk hF
      apply wr_assign; exact rfl; with_reducible (conv => enter [6, 3]; whnf)
      apply wr_nil
      exact ⟨rfl, Keeps.refl _ _⟩
    focus (intro xx yy h; rfl)
    focus kernel_rfl
    refine chP_nil ?_
    intro xx w3 hk3' hF
    have hk3 := hk0 hk3'
    (repeat first | apply wr_end | (apply wc_ret; try simp only [thenE, inBlockE, bodyQ]))
    exact leave1 (v := .bool true) rfl rfl ⟨by rw [decide_eq_true (show ltE a b from hlt)], hk3⟩
  · skip
    apply chP_pure
    focus
      intro xx w' hk hF
      apply wr_cmp; (iterate 3 exact rfl); exact cmpF (by dsimp only [cmpN]; exact Int.not_lt.1 hlt)
      apply wr_nil
      exact ⟨rfl, Keeps.refl _ _⟩
    focus (intro xx yy h; rfl)
    focus kernel_rfl
    apply chP_pure
    focus
      intro xx w' hk hF
      apply wr_assign; exact rfl; with_reducible (conv => enter [6, 3]; whnf)
      apply wr_nil
      exact ⟨rfl, Keeps.refl _ _⟩
    focus (intro xx yy h; rfl)
    focus kernel_rfl
    refine chP_nil ?_
    intro xx w3 hk3' hF
    have hk3 := hk0 hk3'
    (repeat first | apply wr_end | (apply wc_ret; try simp only [thenE, inBlockE, bodyQ]))
    exact leave1 (v := .bool false) rfl rfl ⟨by rw [decide_eq_false (show ¬ ltE a b from hlt)], hk3⟩
theorem set_form {α : Type} (l : List α) (o : Nat) (v : α) (h : o < l.length) : l.set o v = l.take o ++ [v] ++ l.drop (o + 1) := by
  rw [List.set_eq_take_append_cons_drop, if_pos h]
  simp
theorem arr_set {c : Array Value} {o : Nat} (v : Value) (h : o < c.size) : c.setIfInBounds o v = (c.toList.take o ++ [v] ++ c.toList.drop (o + 1)).toArray := by
  apply Array.toList_inj.1
  rw [Array.toList_setIfInBounds, set_form _ _ _ (by simpa using h)]
set_option maxRecDepth 100000 in
set_option maxHeartbeats 4000000 in
theorem swap_ca {base vb : Nat} {v : Value} {l : List PE} {w : World} (h : HeapAt w base vb v l) {i j : Nat} {x y : PE} (hx : l[i]? = some x) (hy : l[j]? = some y) :
    Ca Tryd.prog 113 #[v, .int .i64 (i : Int), .int .i64 (j : Int)] w fun r w' => r = .tuple #[] ∧ HeapAt w' base vb v ((l.set i y).set j x) ∧ Keeps (fun k => v.ownBlock = some k) w w' := by
  have hi := (List.getElem?_eq_some_iff.1 hx).1
  have hj := (List.getElem?_eq_some_iff.1 hy).1
  have hne := fun q hq => h.ne_vb (q := q) hq
  have hne2 := fun q hq x hx => h.ne_ent (q := q) hq (x := x) hx
  have hmem : ∀ z ∈ (l.set i y).set j x, z ∈ l := fun z hz => by
    rcases List.mem_or_eq_of_mem_set hz with hz | rfl
    · rcases List.mem_or_eq_of_mem_set hz with hz | rfl
      · exact hz
      · exact List.mem_of_getElem? hy
    · exact List.mem_of_getElem? hx
  rcases own_cases h.row with ⟨_, h0⟩ | ⟨bb, cap, rfl⟩
  · omega
  obtain ⟨cur, hb, hr⟩ := own_at h.row
  refine ca_of_body (args := [.slice (some ⟨bb, 0, none⟩) l.length cap, .int .i64 (i : Int), .int .i64 (j : Int)]) Tryd.func113 rfl (by kernel_rfl) ?_
  skip
  refine B.wc_drawQ (· = bb) (some 13) (l := _) 15 _ (by kernel_rfl) (by kernel_rfl) rfl (by kernel_rfl) (by kernel_rfl) (by decide) ?_
  apply B.chP_pure
  focus
    intro xx w' hk hF
    apply wr_move; exact rfl; with_reducible (conv => enter [6, 3]; whnf)
    apply wr_nil
    exact ⟨rfl, Keeps.refl _ _⟩
  focus (intro xx yy h; rfl)
  focus kernel_rfl
  apply B.chP_pure
  focus
    intro xx w' hk hF
    apply wr_move; exact rfl; with_reducible (conv => enter [6, 3]; whnf)
    apply wr_nil
    exact ⟨rfl, Keeps.refl _ _⟩
  focus (intro xx yy h; rfl)
  focus kernel_rfl
  apply B.chP_pure
  focus
    intro xx w' hk hF
    apply wr_move; exact rfl; with_reducible (conv => enter [6, 3]; whnf)
    apply wr_nil
    exact ⟨rfl, Keeps.refl _ _⟩
  focus (intro xx yy h; rfl)
  focus kernel_rfl
  apply B.chP_pure
  focus
    intro xx w' hk hF
    apply wr_move; exact rfl; with_reducible (conv => enter [6, 3]; whnf)
    apply wr_nil
    exact ⟨rfl, Keeps.refl _ _⟩
  focus (intro xx yy h; rfl)
  focus kernel_rfl
  apply B.chP_pure
  focus
    intro xx w' hk hF
    apply wr_move; exact rfl; with_reducible (conv => enter [6, 3]; whnf)
    apply wr_nil
    exact ⟨rfl, Keeps.refl _ _⟩
  focus (intro xx yy h; rfl)
  focus kernel_rfl
  apply B.chP_pure
  focus
    intro xx w' hk hF
    apply wr_move; exact rfl; with_reducible (conv => enter [6, 3]; whnf)
    apply wr_nil
    exact ⟨rfl, Keeps.refl _ _⟩
  focus (intro xx yy h; rfl)
  focus kernel_rfl
  apply B.chP_pure
  focus
    intro xx w' hk hF
    refine wr_indexAddr (i := j) rfl rfl rfl hj ?_
    apply wr_nil
    exact ⟨rfl, Keeps.refl _ _⟩
  focus (intro xx yy h; rfl)
  focus kernel_rfl
  apply B.chP_pure
  focus
    intro xx w' hk hF
    have hk1 := (Keeps.refl NoB w).drew.trans (B.toNo hk (by kernel_rfl))
    refine wr_load (v := ptrE y) rfl rfl rfl (hk1.heap hb (fun h => h)) (cell_elem (j := 0) (v := ptrE y) GP_len hr hj hy rfl) ?_
    apply wr_nil
    exact ⟨rfl, Keeps.refl _ _⟩
  focus (intro xx yy h; rfl)
  focus kernel_rfl
  apply B.chP_pure
  focus
    intro xx w' hk hF
    apply wr_move; exact rfl; with_reducible (conv => enter [6, 3]; whnf)
    apply wr_nil
    exact ⟨rfl, Keeps.refl _ _⟩
  focus (intro xx yy h; rfl)
  focus kernel_rfl
  apply B.chP_pure
  focus
    intro xx w' hk hF
    apply wr_move; exact rfl; with_reducible (conv => enter [6, 3]; whnf)
    apply wr_nil
    exact ⟨rfl, Keeps.refl _ _⟩
  focus (intro xx yy h; rfl)
  focus kernel_rfl
  apply B.chP_pure
  focus
    intro xx w' hk hF
    refine wr_indexAddr (i := i) rfl rfl rfl hi ?_
    apply wr_nil
    exact ⟨rfl, Keeps.refl _ _⟩
  focus (intro xx yy h; rfl)
  focus kernel_rfl
  apply B.chP_pure
  focus
    intro xx w' hk hF
    have hk1 := (Keeps.refl NoB w).drew.trans (B.toNo hk (by kernel_rfl))
    refine wr_load (v := ptrE x) rfl rfl rfl (hk1.heap hb (fun h => h)) (cell_elem (j := 0) (v := ptrE x) GP_len hr hi hx rfl) ?_
    apply wr_nil
    exact ⟨rfl, Keeps.refl _ _⟩
  focus (intro xx yy h; rfl)
  focus kernel_rfl
  apply B.chP_pure
  focus
    intro xx w' hk hF
    refine wr_indexAddr (i := i) rfl rfl rfl hi ?_
    apply wr_nil
    exact ⟨rfl, Keeps.refl _ _⟩
  focus (intro xx yy h; rfl)
  focus kernel_rfl
  obtain ⟨ho4, hfit⟩ := own_set GP_len h.row rfl hb hi y
  refine B.chP_fact (fun _ => undef) (fun _ w' => w'.heap[bb]? = some (.cells (cur.toList.take (0 + i * 1) ++ GP y ++ cur.toList.drop (0 + i * 1 + 1)).toArray 63 (0, 0))) (fun y w w' h k => k.heap h (fun h => h)) ?_ ?_
  focus
    intro xx w' hk hF
    have hk1 := (Keeps.refl NoB w).drew.trans (B.toNo hk (by kernel_rfl))
    have hb' := hk1.heap hb (fun h => h)
    refine wr_store (v := ptrE y) (u := ptrE x) rfl rfl rfl rfl hb' (cell_elem (j := 0) (v := ptrE x) GP_len hr hi hx rfl) ?_
    apply wr_nil
    refine ⟨undef, rfl, ?_, (Keeps.refl _ _).put _ (fun _ => rfl)⟩
    rw [arr_set _ (show 0 + i * 1 < cur.size by omega)]
    exact World.putObj_heap_same (lt_of_heap hb')
  apply B.chP_pure
  focus
    intro xx w' hk hF
    refine wr_indexAddr (i := j) rfl rfl rfl hj ?_
    apply wr_nil
    exact ⟨rfl, Keeps.refl _ _⟩
  focus (intro xx yy h; rfl)
  focus kernel_rfl
  refine B.chP_nil ?_
  intro xx w3 hk3' hF
  have hk3 : Keeps (· = bb) w w3 := (Keeps.refl (· = bb) w).drew.trans hk3'
  have hb3 : w3.heap[bb]? = some (.cells (cur.toList.take (0 + i * 1) ++ GP y ++ cur.toList.drop (0 + i * 1 + 1)).toArray 63 (0, 0)) := hF 13 (by decide)
  have ho5 := own_of_block ho4 (w' := w3) (hb3.trans (World.putObj_heap_same (lt_of_heap hb)).symm)
  obtain ⟨ho6, hfit6⟩ := own_set GP_len ho5 (by rw [List.length_set]) hb3 hj x
  obtain ⟨c3, hc3⟩ : ∃ c3, c3 = (cur.toList.take (0 + i * 1) ++ GP y ++ cur.toList.drop (0 + i * 1 + 1)).toArray := ⟨_, rfl⟩
  rw [← hc3] at hb3 ho6 hfit6
  refine wr_store (v := ptrE x) (u := c3[0 + j * 1]'(by omega)) rfl rfl rfl rfl hb3 (by simp [show j < c3.size by omega]) ?_
  rw [arr_set _ (show 0 + j * 1 < c3.size by omega)]
  have hkf := hk3.put (.cells (c3.toList.take (0 + j * 1) ++ [ptrE x] ++ c3.toList.drop (0 + j * 1 + 1)).toArray 63 (0, 0)) (b := bb) (fun _ => rfl)
  (repeat first | (apply wr_nil; try simp only [thenE, inBlockE, bodyQ]))
  refine leave0 rfl ⟨rfl, ⟨hkf.heap h.cell (hne bb rfl), by rw [List.length_set, List.length_set]; exact ho6, fun z hz => hkf.heap (h.ents z (hmem z hz)) (hne2 bb rfl z (hmem z hz))⟩, hkf.mono fun k _ e => by rw [e]; rfl⟩
set_option maxRecDepth 100000 in
set_option maxHeartbeats 4000000 in
/-- The last one is taken away; of the heap itself nothing is said any more. -/
theorem popI_ca {base vb : Nat} {v : Value} {l : List PE} {w : World} (h : HeapAt w base vb v l) {n : Nat} {x : PE} (hl : l.length = n + 1) (hx : l[n]? = some x) :
    Ca Tryd.prog 111 #[.pointer (some ⟨vb, 0, none⟩)] w fun r w' => r = .iface 63 (ptrE x) ∧ Keeps (· = vb) w w' := by
  have hn := (List.getElem?_eq_some_iff.1 hx).1
  have hrow := h.row
  have hcell := h.cell
  rcases own_cases hrow with ⟨_, h0⟩ | ⟨bb, cap, rfl⟩
  · omega
  obtain ⟨cur, hb, hr⟩ := own_at hrow
  have hcap : l.length ≤ cap ∧ cap ≤ 9223372036854775807 := by
    rcases hrow.2 with ⟨h0, _⟩ | ⟨g, cap', cur', he, _, _, hnc, hm, _⟩
    · cases h0
    · cases he; exact ⟨hnc, hm⟩
  have hln : (l.length : Int) - 1 = (n : Int) := by omega
  refine ca_of_body (args := [.pointer (some ⟨vb, 0, none⟩)]) Tryd.func111 rfl (by kernel_rfl) ?_
  (repeat first | (apply wr_move; exact rfl; with_reducible (conv => enter [6, 3]; whnf)) | (apply wr_assign; exact rfl; with_reducible (conv => enter [6, 3]; whnf)) | apply wr_end | apply wc_seq | apply wc_region | (apply wr_len_slice; iterate 2 exact rfl) | (apply wr_nilCheck; iterate 2 exact rfl) | (apply wr_load; (iterate 3 exact rfl); (focus repeat first | with_reducible assumption | exact heap_alloc_same _ _ | exact World.putObj_heap_same (by first | omega | (simp only [World.size_alloc, World.putObj_size, ne_eq]; omega)) | ((first | refine hAl ?_ ?_ | refine hPu ?_ ?_); focus first | omega | (simp only [World.size_alloc, World.putObj_size, ne_eq]; omega))); exact rfl; conv => enter [6, 3]; whnf) | (apply wr_sub; (iterate 3 exact rfl); exact w_fit (by dsimp only [kIn]; first | done | omega)))
  rw [hln]
  refine wr_indexAddr (i := n) rfl rfl rfl hn ?_
  refine wr_load (v := ptrE x) rfl rfl rfl hb (cell_elem (j := 0) (v := ptrE x) GP_len hr hn hx rfl) ?_
  (repeat first | (apply wr_move; exact rfl; with_reducible (conv => enter [6, 3]; whnf)) | (apply wr_assign; exact rfl; with_reducible (conv => enter [6, 3]; whnf)) | apply wr_end | apply wc_seq | apply wc_region | (apply wr_nilCheck; iterate 2 exact rfl) | (apply wr_load; (iterate 3 exact rfl); (focus repeat first | with_reducible assumption | exact heap_alloc_same _ _ | exact World.putObj_heap_same (by first | omega | (simp only [World.size_alloc, World.putObj_size, ne_eq]; omega)) | ((first | refine hAl ?_ ?_ | refine hPu ?_ ?_); focus first | omega | (simp only [World.size_alloc, World.putObj_size, ne_eq]; omega))); exact rfl; conv => enter [6, 3]; whnf))
  refine wr_slTo (j := n) rfl rfl rfl (by omega) ?_
  (repeat first | (apply wr_move; exact rfl; with_reducible (conv => enter [6, 3]; whnf)) | apply wr_end | apply wc_seq | apply wc_region | (apply wr_nilCheck; iterate 2 exact rfl) | (apply wr_store; (iterate 3 exact rfl); (first | exact rfl | with_reducible assumption); (focus repeat first | with_reducible assumption | exact heap_alloc_same _ _ | exact World.putObj_heap_same (by first | omega | (simp only [World.size_alloc, World.putObj_size, ne_eq]; omega)) | ((first | refine hAl ?_ ?_ | refine hPu ?_ ?_); focus first | omega | (simp only [World.size_alloc, World.putObj_size, ne_eq]; omega))); exact rfl))
  refine wr_makeIface (v := ptrE x) rfl rfl rfl ?_
  (repeat first | (apply wr_assign; exact rfl; with_reducible (conv => enter [6, 3]; whnf)) | apply wr_end | (apply wc_ret; try simp only [thenE, inBlockE, bodyQ]))
  exact leave1 (v := .iface 63 (ptrE x)) rfl rfl ⟨rfl, (Keeps.refl (· = vb) w).put _ (fun _ => rfl)⟩
end Go.Proofs.YtafnbbehmbmchaaDoor
