/- A strings.Builder of the call's own; strings.Contains; payload.Has, text, number, list: what they do. -/
import Derived.Test.YthlbgeonobicbaaDoorWi
import Derived.Test.YthlbgeonobicbaaDoorVF
namespace Go.Proofs.YthlbgeonobicbaaDoor
open Go Go.V Go.RowKit Go.Lib
set_option linter.unusedVariables false
set_option linter.unusedSimpArgs false

theorem callX_noEscape (x : Value) (w : World) : (callFunc 93 #[x]).run Tryd.prog w = .ok (.value x) w := by
  rw [@run_callFunc_extern Tryd.prog 93 _ Extern.AbiNoEscape.same Tryd.func93 (by kernel_rfl) (by kernel_rfl) (by kernel_rfl) (by kernel_rfl), run_noEscape]; rfl
abbrev BT : TypeId := 124
abbrev Bd (B b : Nat) (l : List UInt8) (w : World) : Prop := IsBuilder BT 5 B b (bytesV l) w
theorem infoBT : ∃ j, Tryd.prog.info? BT = some j ∧ j.size = 2 := by
  have I : Info Tryd.prog BT (.agg #[.pointer none, .slice none 0 0]) 2 32 := inferInstance
  obtain ⟨i, h1, h2, h3, h4⟩ := I.parts
  exact ⟨i, h1, h3⟩
set_option maxRecDepth 100000 in
set_option maxHeartbeats 1000000 in
theorem copyCheck_ca (B b : Nat) (bs : List Value) (w : World) (h : IsBuilder BT 5 B b bs w) : Ca Tryd.prog 83 #[.pointer (some ⟨b, 0, none⟩)] w fun v w' => BuilderAt BT 5 B b (.pointer (some ⟨b, 0, none⟩)) bs w' ∧ Keeps (· = b) w w' := by
  obtain ⟨j, hj, hj2⟩ := infoBT
  refine ca_of_body (args := [.pointer (some ⟨b, 0, none⟩)]) Tryd.func83 rfl (by kernel_rfl) ?_
  rcases h with h | h
  · have hs := h.shape
    obtain ⟨hB, v, hb, ho, hne⟩ := h
    (repeat first | (apply wr_move; exact rfl; with_reducible (conv => enter [6, 3]; whnf)) | apply wc_seq | apply wc_region | (apply wr_fieldAddr; iterate 2 exact rfl) | (apply wr_nilCheck; iterate 2 exact rfl) | (apply wr_load; (iterate 3 exact rfl); (focus repeat first | with_reducible assumption | exact heap_alloc_same _ _ | exact World.putObj_heap_same (by first | omega | (simp only [World.size_alloc, World.putObj_size, ne_eq]; omega)) | ((first | refine hAl ?_ ?_ | refine hPu ?_ ?_); focus first | omega | (simp only [World.size_alloc, World.putObj_size, ne_eq]; omega))); exact rfl; conv => enter [6, 3]; whnf))
    refine wr_ptrNil rfl rfl ?_
    (repeat first | (apply wr_move; exact rfl; with_reducible (conv => enter [6, 3]; whnf)) | apply wr_end | apply wc_region | (apply wc_true; exact rfl))
    refine wr_convX rfl rfl (run_to_unsafe w ⟨b, 0, none⟩ Tryd.underlying122 Tryd.underlying155 hj (by omega) hs (by show 0 < 2; decide)) ?_
    refine wr_callX rfl (callX_noEscape _ _) rfl ?_
    refine wr_convX rfl rfl (run_from_unsafe w ⟨b, 0, none⟩ Tryd.underlying155 Tryd.underlying122 hj hs (by kernel_rfl)) ?_
    (repeat first | (apply wr_fieldAddr; iterate 2 exact rfl) | (apply wr_nilCheck; iterate 2 exact rfl) | (apply wr_store; (iterate 3 exact rfl); (first | exact rfl | with_reducible assumption); (focus repeat first | with_reducible assumption | exact heap_alloc_same _ _ | exact World.putObj_heap_same (by first | omega | (simp only [World.size_alloc, World.putObj_size, ne_eq]; omega)) | ((first | refine hAl ?_ ?_ | refine hPu ?_ ?_); focus first | omega | (simp only [World.size_alloc, World.putObj_size, ne_eq]; omega))); exact rfl) | (apply wr_nil; try simp only [thenE, inBlockE, bodyQ]))
    exact leave0 rfl ⟨⟨hB, v, heap_put_same hb, own_keep ho ((Keeps.refl (fun k => k = b) w).put _ (fun _ => rfl)) (fun k hk e => hne (by rw [hk, e])), hne⟩, (Keeps.refl _ w).put _ (fun _ => rfl)⟩
  · have h0 := h
    obtain ⟨hB, v, hb, ho, hne⟩ := h
    (repeat first | (apply wr_move; exact rfl; with_reducible (conv => enter [6, 3]; whnf)) | apply wc_seq | apply wc_region | (apply wr_fieldAddr; iterate 2 exact rfl) | (apply wr_nilCheck; iterate 2 exact rfl) | (apply wr_load; (iterate 3 exact rfl); (focus repeat first | with_reducible assumption | exact heap_alloc_same _ _ | exact World.putObj_heap_same (by first | omega | (simp only [World.size_alloc, World.putObj_size, ne_eq]; omega)) | ((first | refine hAl ?_ ?_ | refine hPu ?_ ?_); focus first | omega | (simp only [World.size_alloc, World.putObj_size, ne_eq]; omega))); exact rfl; conv => enter [6, 3]; whnf))
    refine wr_ptrNil rfl rfl ?_
    (repeat first | (apply wr_move; exact rfl; with_reducible (conv => enter [6, 3]; whnf)) | apply wr_end | apply wc_seq | apply wc_region | (apply wr_fieldAddr; iterate 2 exact rfl) | (apply wr_nilCheck; iterate 2 exact rfl) | (apply wr_load; (iterate 3 exact rfl); (focus repeat first | with_reducible assumption | exact heap_alloc_same _ _ | exact World.putObj_heap_same (by first | omega | (simp only [World.size_alloc, World.putObj_size, ne_eq]; omega)) | ((first | refine hAl ?_ ?_ | refine hPu ?_ ?_); focus first | omega | (simp only [World.size_alloc, World.putObj_size, ne_eq]; omega))); exact rfl; conv => enter [6, 3]; whnf) | (apply wc_false; exact rfl))
    refine wr_ptrNeSame rfl rfl rfl ?_
    (repeat first | apply wr_end | apply wc_skip | (apply wc_false; exact rfl))
    simp only [bodyQ]
    exact leave0 rfl ⟨h0, Keeps.refl _ w⟩
set_option maxRecDepth 100000 in
set_option maxHeartbeats 1000000 in
theorem writeS_ca (B b : Nat) (l s : List UInt8) (w : World) (h : Bd B b l w) (hl : l.length + s.length ≤ 140737488355328) (hBw : B ≤ w.heap.size) :
    Ca Tryd.prog 61 #[.pointer (some ⟨b, 0, none⟩), S s] w fun v w' => Bd B b (l ++ s) w' ∧ Keeps (fun k => B ≤ k) w w' := by
  refine ca_of_body (args := [.pointer (some ⟨b, 0, none⟩), S s]) Tryd.func61 rfl (by kernel_rfl) ?_
  (repeat first | (apply wr_move; exact rfl; with_reducible (conv => enter [6, 3]; whnf)) | (apply wr_assign; exact rfl; with_reducible (conv => enter [6, 3]; whnf)) | apply wr_end | apply wc_seq | apply wc_region)
  refine wr_call (vs := [.pointer (some ⟨b, 0, none⟩)]) rfl (copyCheck_ca B b _ w h) rfl ?_
  rintro v w1 ⟨⟨hB, bv, hb, ho, hne⟩, hk1⟩
  have hbl : (bytesV l).length = l.length := by simp [bytesV]
  rw [hbl] at ho
  have hs1 := hk1.size
  (repeat first | (apply wr_move; exact rfl; with_reducible (conv => enter [6, 3]; whnf)) | apply wr_end | apply wc_seq | apply wc_region | (apply wr_fieldAddr; iterate 2 exact rfl) | (apply wr_nilCheck; iterate 2 exact rfl) | (apply wr_load; (iterate 3 exact rfl); (focus repeat first | with_reducible assumption | exact heap_alloc_same _ _ | exact World.putObj_heap_same (by first | omega | (simp only [World.size_alloc, World.putObj_size, ne_eq]; omega)) | ((first | refine hAl ?_ ?_ | refine hPu ?_ ?_); focus first | omega | (simp only [World.size_alloc, World.putObj_size, ne_eq]; omega))); exact rfl; conv => enter [6, 3]; whnf))
  refine wr_appendS rfl rfl ho rfl hl (by omega) ?_
  intro v' w2 ho2 hk2
  have hb2 := hk2.heap hb hne
  have hne2 : v'.ownBlock ≠ some b := by
    intro e
    obtain ⟨_, h2⟩ := ho2
    rcases h2 with ⟨h3, _⟩ | ⟨gb, cap, cur, h3, _, hg, _⟩
    · rw [h3] at e; cases e
    · rw [h3] at e
      simp [Value.ownBlock] at e
      subst e
      rw [hb2] at hg
      cases hg
  have h1v := own_one ho2
  (repeat first | (apply wr_move; exact rfl; with_reducible (conv => enter [6, 3]; whnf)) | (apply wr_assign; exact rfl; with_reducible (conv => enter [6, 3]; whnf)) | apply wr_end | apply wc_seq | apply wc_region | (apply wr_fieldAddr; iterate 2 exact rfl) | (apply wr_len_str; iterate 2 exact rfl) | (apply wr_nilCheck; iterate 2 exact rfl) | (apply wr_store; (iterate 3 exact rfl); (first | exact rfl | with_reducible assumption); (focus repeat first | with_reducible assumption | exact heap_alloc_same _ _ | exact World.putObj_heap_same (by first | omega | (simp only [World.size_alloc, World.putObj_size, ne_eq]; omega)) | ((first | refine hAl ?_ ?_ | refine hPu ?_ ?_); focus first | omega | (simp only [World.size_alloc, World.putObj_size, ne_eq]; omega))); exact rfl) | (apply wc_ret; try simp only [thenE, inBlockE, bodyQ]))
  refine leave2 (v1 := .int .i64 (s.length : Int)) (v2 := .nilIface) rfl rfl rfl ⟨.inr ⟨hB, v', heap_put_same hb2, ?_, hne2⟩, ?_⟩
  · have e : bytesV (l ++ s) = bytesV l ++ bytesV s := by simp [bytesV]
    rw [e, List.length_append, hbl]
    have : (bytesV s).length = s.length := by simp [bytesV]
    rw [this]
    exact own_keep ho2 ((Keeps.refl (fun k => k = b) w2).put _ (fun _ => rfl)) (fun k hk e => hne2 (by rw [hk, e]))
  · refine ((hk1.mono (D' := fun k => B ≤ k) fun k _ e => by subst e; exact hB).trans' hk2 fun i hi e => (ho.lt i e).1).put _ fun _ => hB
theorem bstring_ca (B b : Nat) (l : List UInt8) (w : World) (h : Bd B b l w) (hBw : B ≤ w.heap.size) :
    Ca Tryd.prog 62 #[.pointer (some ⟨b, 0, none⟩)] w fun v w' => v = S l ∧ Keeps (fun k => B ≤ k) w w' :=
  Ca.of_calls (Tryd.Builder_String_any B b l w (by rw [byteCells_S]; exact h) hBw) fun e w' ⟨h1, h2⟩ => ⟨_, h1, rfl, Keeps.of_belowB h2⟩
theorem Bd.new (w : World) : Bd w.heap.size w.heap.size [] (w.alloc (.cells #[.pointer none, .slice none 0 0] BT)) :=
  .inl ⟨Nat.le_refl _, .slice none 0 0, heap_alloc_same _ _, ⟨rfl, .inl ⟨rfl, rfl⟩⟩, by simp [Value.ownBlock]⟩
theorem Bd.keep {D : Nat → Prop} {B b : Nat} {l : List UInt8} {w w' : World} (h : Bd B b l w) (k : Keeps D w w') (hd : ∀ i, B ≤ i → ¬ D i) : Bd B b l w' := by
  have key : ∀ p, BuilderAt BT 5 B b p (bytesV l) w → BuilderAt BT 5 B b p (bytesV l) w' := by
    rintro p ⟨hB, v, hb, ho, hne⟩
    exact ⟨hB, v, k.heap hb (hd _ hB), own_keep ho k (fun i hi => hd _ (ho.lt i hi).1), hne⟩
  rcases h with h | h
  · exact .inl (key _ h)
  · exact .inr (key _ h)
theorem Bd.kin {B b : Nat} {l : List UInt8} {w w' : World} (h : Bd B b l w) (k : Keeps NoB w w') : Bd B b l w' := h.keep k fun _ _ h => h

/-! ### strings.Contains -/
def inF (s letter : List UInt8) : Bool := match letter with
  | [] => true
  | c :: _ => s.contains c
set_option maxRecDepth 100000 in
set_option maxHeartbeats 1000000 in
theorem sindex0_ca (s : List UInt8) (w : World) : Ca Tryd.prog 79 #[S s, S []] w fun v w' => v = .int .i64 0 ∧ w' = w := by
  refine ca_of_body (args := [S s, S []]) Tryd.func79 rfl (by kernel_rfl) ?_
  (repeat first | (apply wr_move; exact rfl; with_reducible (conv => enter [6, 3]; whnf)) | (apply wr_assign; exact rfl; with_reducible (conv => enter [6, 3]; whnf)) | apply wr_end | apply wc_seq | apply wc_region | apply wc_block | (apply wr_len_str; iterate 2 exact rfl) | (apply wr_cmp; (iterate 3 exact rfl); exact cmp_eq _ _) | (apply wr_pick (t := true); (iterate 2 exact rfl); with_reducible (conv => enter [6, 3]; whnf)) | (apply wc_true; exact rfl) | (apply wc_ret; try simp only [thenE, inBlockE, bodyQ]) | (apply wr_skip; exact rfl))
  exact leave1 (v := .int .i64 0) rfl rfl ⟨rfl, rfl⟩
set_option maxRecDepth 100000 in
theorem index0_ca (s : List UInt8) (w : World) : Ca Tryd.prog 55 #[S s, S []] w fun v w' => v = .int .i64 0 ∧ w' = w := by
  refine ca_of_body (args := [S s, S []]) Tryd.func55 rfl (by kernel_rfl) ?_
  (repeat first | (apply wr_move; exact rfl; with_reducible (conv => enter [6, 3]; whnf)) | (apply wr_assign; exact rfl; with_reducible (conv => enter [6, 3]; whnf)) | apply wr_end | apply wc_seq | apply wc_region)
  refine wr_call (vs := [S s, S []]) rfl (sindex0_ca s w) rfl ?_
  rintro v w1 ⟨rfl, rfl⟩
  (repeat first | (apply wr_assign; exact rfl; with_reducible (conv => enter [6, 3]; whnf)) | apply wr_end | (apply wc_ret; try simp only [thenE, inBlockE, bodyQ]))
  exact leave1 (v := .int .i64 0) rfl rfl ⟨rfl, rfl⟩
theorem indexByte_in (l : List UInt8) (c : UInt8) : decide (0 ≤ Lib.indexByte l c) = l.contains c := by
  induction l with
  | nil => rfl
  | cons x l ih =>
    have hge := indexByte_ge l c
    rw [List.contains_cons, ← ih]
    have hu : indexByte (x :: l) c = if x == c then 0 else if indexByte l c == -1 then -1 else indexByte l c + 1 := rfl
    rw [hu]
    by_cases e : c = x
    · subst e; simp
    · have e' : ¬ x = c := fun h => e h.symm
      by_cases h : indexByte l c = -1
      · simp [e, e', h]
      · have h1 : 0 ≤ indexByte l c := by omega
        have h2 : 0 ≤ indexByte l c + 1 := by omega
        simp [e, e', h, h1, h2]
set_option maxRecDepth 100000 in
theorem contains_ca (s letter : List UInt8) (hl : letter.length ≤ 1) (w : World) : Ca Tryd.prog 33 #[S s, S letter] w fun v w' => v = .bool (inF s letter) ∧ w' = w := by
  match letter, hl with
  | [], _ =>
    refine ca_of_body (args := [S s, S []]) Tryd.func33 rfl (by kernel_rfl) ?_
    (repeat first | (apply wr_move; exact rfl; with_reducible (conv => enter [6, 3]; whnf)) | (apply wr_assign; exact rfl; with_reducible (conv => enter [6, 3]; whnf)) | apply wr_end | apply wc_seq | apply wc_region)
    refine wr_call (vs := [S s, S []]) rfl (index0_ca s w) rfl ?_
    rintro v w1 ⟨rfl, rfl⟩
    (repeat first | (apply wr_assign; exact rfl; with_reducible (conv => enter [6, 3]; whnf)) | apply wr_end | (apply wr_cmp; (iterate 3 exact rfl); exact cmpT (by dsimp only [cmpP]; first | done | omega)) | (apply wc_ret; try simp only [thenE, inBlockE, bodyQ]))
    exact leave1 (v := .bool true) rfl rfl ⟨rfl, rfl⟩
  | [c], _ =>
    exact Ca.of_calls (Tryd.strings_Contains_one ⟨s.toArray⟩ c w) fun e w' ⟨h1, h2⟩ => ⟨_, h1, by rw [indexByte_in]; rfl, h2⟩
/-! ### payload.Has -/
def hasF (kind : Int) : List UInt8 × Bool :=
  if kind = 1 then ([112, 111], true) else if kind = 2 then ([114], true) else if kind = 3 then ([108, 115], true) else if kind = 4 then ([97], true) else if kind = 5 then ([107], true) else ([], false)
set_option maxRecDepth 100000 in
set_option maxHeartbeats 1000000 in
theorem has_ca (kind : Int) (w : World) : Ca Tryd.prog 20 #[.int .i64 kind] w fun v w' => v = .tuple #[S (hasF kind).1, .bool (hasF kind).2] ∧ Keeps NoB w w' := by
  refine ca_of_body (args := [.int .i64 kind]) Tryd.func20 rfl (by kernel_rfl) ?_
  (repeat first | (apply wr_assign; exact rfl; with_reducible (conv => enter [6, 3]; whnf)) | apply wr_end | apply wc_seq | apply wc_region)
  refine wr_makeMap rfl ?_
  have hm0 : MapAt (w.alloc (.map #[] 0)) (encI .i64) w.heap.size [] := MapAt.new w _
  refine wr_insert (enc := encI .i64) (a := 1) (v := S [112, 111]) rfl rfl hm0 rfl rfl ?_
  intro w1 hm1 hk1
  refine wr_insert (enc := encI .i64) (a := 2) (v := S [114]) rfl rfl hm1 rfl rfl ?_
  intro w2 hm2 hk2
  refine wr_insert (enc := encI .i64) (a := 3) (v := S [108, 115]) rfl rfl hm2 rfl rfl ?_
  intro w3 hm3 hk3
  refine wr_insert (enc := encI .i64) (a := 4) (v := S [97]) rfl rfl hm3 rfl rfl ?_
  intro w4 hm4 hk4
  refine wr_insert (enc := encI .i64) (a := 5) (v := S [107]) rfl rfl hm4 rfl rfl ?_
  intro w5 hm5 hk5
  have hk : Keeps NoB w w5 := ((((((Keeps.refl NoB w).alloc (.map #[] 0)).trans' hk1 (fun i hi e => by omega)).trans' hk2 (fun i hi e => by omega)).trans' hk3 (fun i hi e => by omega)).trans' hk4 (fun i hi e => by omega)).trans' hk5 (fun i hi e => by omega)
  have hval : ((getM (putM (putM (putM (putM (putM ([] : List (Int × Value)) 1 (S [112, 111])) 2 (S [114])) 3 (S [108, 115])) 4 (S [97])) 5 (S [107])) kind).getD (S []), (getM (putM (putM (putM (putM (putM ([] : List (Int × Value)) 1 (S [112, 111])) 2 (S [114])) 3 (S [108, 115])) 4 (S [97])) 5 (S [107])) kind).isSome) = (S (hasF kind).1, (hasF kind).2) := by
    have e : putM (putM (putM (putM (putM ([] : List (Int × Value)) 1 (S [112, 111])) 2 (S [114])) 3 (S [108, 115])) 4 (S [97])) 5 (S [107]) = [(1, S [112, 111]), (2, S [114]), (3, S [108, 115]), (4, S [97]), (5, S [107])] := by
      simp [putM]
    rw [e]
    unfold hasF getM
    simp only [List.find?_cons, List.find?_nil]
    by_cases h1 : kind = 1
    · subst h1; rfl
    by_cases h2 : kind = 2
    · subst h2; rfl
    by_cases h3 : kind = 3
    · subst h3; rfl
    by_cases h4 : kind = 4
    · subst h4; rfl
    by_cases h5 : kind = 5
    · subst h5; rfl
    simp [h1, h2, h3, h4, h5, Ne.symm h1, Ne.symm h2, Ne.symm h3, Ne.symm h4, Ne.symm h5]
  obtain ⟨e1, e2⟩ := Prod.mk.inj hval
  (repeat first | (apply wr_move; exact rfl; with_reducible (conv => enter [6, 3]; whnf)) | (apply wr_assign; exact rfl; with_reducible (conv => enter [6, 3]; whnf)) | apply wr_end | apply wc_seq | apply wc_region)
  refine wr_lookupOkV (enc := encI .i64) (a := kind) rfl rfl hm5 rfl e1 e2 ?_
  (repeat first | (apply wr_move; exact rfl; with_reducible (conv => enter [6, 3]; whnf)) | (apply wr_assign; exact rfl; with_reducible (conv => enter [6, 3]; whnf)) | apply wr_end | apply wc_seq | apply wc_region | (apply wr_extract; (iterate 3 exact rfl); with_reducible (conv => enter [6, 3]; whnf)) | (apply wc_ret; try simp only [thenE, inBlockE, bodyQ]))
  exact leave2 (v1 := S (hasF kind).1) (v2 := .bool (hasF kind).2) rfl rfl rfl ⟨rfl, hk⟩
/-! ### A field of a message -/
/-- A text, at a place. -/
def textC (letter : List UInt8) (bx : Nat) : List Value := [S letter, .func (.func 66) #[] #[.pointer (some ⟨bx, 0, none⟩)], .func (.func 67) #[] #[.pointer (some ⟨bx, 0, none⟩)]]
def numC (letter : List UInt8) (bx : Nat) : List Value := [S letter, .func (.func 70) #[] #[.pointer (some ⟨bx, 0, none⟩)], .func (.func 71) #[] #[.pointer (some ⟨bx, 0, none⟩)]]
def rulesC (letter : List UInt8) (bx bf : Nat) : List Value := [S letter, .func (.func 73) #[] #[.pointer (some ⟨bx, 0, none⟩), .pointer (some ⟨bf, 0, none⟩)], .func (.func 74) #[] #[.pointer (some ⟨bf, 0, none⟩), .pointer (some ⟨bx, 0, none⟩)]]
def addrsC (letter : List UInt8) (bx bf : Nat) : List Value := [S letter, .func (.func 76) #[] #[.pointer (some ⟨bx, 0, none⟩), .pointer (some ⟨bf, 0, none⟩)], .func (.func 77) #[] #[.pointer (some ⟨bf, 0, none⟩), .pointer (some ⟨bx, 0, none⟩)]]
set_option maxRecDepth 100000 in
theorem ptext_ca (letter : List UInt8) (a : Addr) (w : World) : Ca Tryd.prog 49 #[S letter, .pointer (some a)] w fun v w' => ∃ bx, v = .agg (textC letter bx).toArray ∧ w'.heap[bx]? = some (.cells #[.pointer (some a)] 104 (0, 0)) ∧ w.heap.size ≤ bx ∧ Keeps NoB w w' := by
  refine ca_of_body (args := [S letter, .pointer (some a)]) Tryd.func49 rfl (by kernel_rfl) ?_
  (repeat first | (apply wr_move; exact rfl; with_reducible (conv => enter [6, 3]; whnf)) | apply wr_end | apply wc_seq | apply wc_region | (apply wr_box; iterate 2 exact rfl) | (apply wr_alloc; exact rfl))
  refine wr_makeFunc rfl rfl rfl ?_
  refine wr_makeFunc rfl rfl rfl ?_
  refine wr_build (cs := textC letter w.heap.size) rfl rfl rfl rfl ?_
  refine wr_storeAll (cs := textC letter w.heap.size) rfl rfl rfl (by intro u hu; simp [textC] at hu; rcases hu with rfl | rfl | rfl <;> rfl) (heap_alloc_same _ _) rfl rfl ?_
  (repeat first | apply wr_end | (apply wc_ret; try simp only [thenE, inBlockE, bodyQ]))
  refine leaveN (vs := [.agg (textC letter w.heap.size).toArray]) (resv_cells (cs := textC letter w.heap.size) rfl rfl (World.putObj_heap_same (by simp)) rfl resv_nil) ⟨w.heap.size, rfl, ?_, Nat.le_refl _, (((Keeps.refl NoB w).alloc _).alloc _).put _ (fun h => by simp at h; omega)⟩
  exact hPu (by simp) (hAl (by simp) (heap_alloc_same _ _))
set_option maxRecDepth 100000 in
theorem pnumber_ca (letter : List UInt8) (a : Addr) (w : World) : Ca Tryd.prog 50 #[S letter, .pointer (some a)] w fun v w' => ∃ bx, v = .agg (numC letter bx).toArray ∧ w'.heap[bx]? = some (.cells #[.pointer (some a)] 106 (0, 0)) ∧ w.heap.size ≤ bx ∧ Keeps NoB w w' := by
  refine ca_of_body (args := [S letter, .pointer (some a)]) Tryd.func50 rfl (by kernel_rfl) ?_
  (repeat first | (apply wr_move; exact rfl; with_reducible (conv => enter [6, 3]; whnf)) | apply wr_end | apply wc_seq | apply wc_region | (apply wr_box; iterate 2 exact rfl) | (apply wr_alloc; exact rfl))
  refine wr_makeFunc rfl rfl rfl ?_
  refine wr_makeFunc rfl rfl rfl ?_
  refine wr_build (cs := numC letter w.heap.size) rfl rfl rfl rfl ?_
  refine wr_storeAll (cs := numC letter w.heap.size) rfl rfl rfl (by intro u hu; simp [numC] at hu; rcases hu with rfl | rfl | rfl <;> rfl) (heap_alloc_same _ _) rfl rfl ?_
  (repeat first | apply wr_end | (apply wc_ret; try simp only [thenE, inBlockE, bodyQ]))
  refine leaveN (vs := [.agg (numC letter w.heap.size).toArray]) (resv_cells (cs := numC letter w.heap.size) rfl rfl (World.putObj_heap_same (by simp)) rfl resv_nil) ⟨w.heap.size, rfl, ?_, Nat.le_refl _, (((Keeps.refl NoB w).alloc _).alloc _).put _ (fun h => by simp at h; omega)⟩
  exact hPu (by simp) (hAl (by simp) (heap_alloc_same _ _))
set_option maxRecDepth 100000 in
theorem prules_ca (letter : List UInt8) (a : Addr) (w : World) : Ca Tryd.prog 51 #[S letter, .pointer (some a), .func (.func 52) #[] #[]] w fun v w' => ∃ bx bf, v = .agg (rulesC letter bx bf).toArray ∧ w'.heap[bx]? = some (.cells #[.pointer (some a)] 108 (0, 0)) ∧ w'.heap[bf]? = some (.cells #[.func (.func 52) #[] #[]] 109 (0, 0)) ∧ w.heap.size ≤ bx ∧ w.heap.size ≤ bf ∧ Keeps NoB w w' := by
  refine ca_of_body (args := [S letter, .pointer (some a), .func (.func 52) #[] #[]]) Tryd.func51 rfl (by kernel_rfl) ?_
  (repeat first | (apply wr_move; exact rfl; with_reducible (conv => enter [6, 3]; whnf)) | apply wr_end | apply wc_seq | apply wc_region | (apply wr_box; iterate 2 exact rfl) | (apply wr_alloc; exact rfl))
  refine wr_makeFunc rfl rfl rfl ?_
  refine wr_makeFunc rfl rfl rfl ?_
  refine wr_build (cs := rulesC letter w.heap.size (w.alloc (.cells (Value.pointer (some a)).cells 108)).heap.size) rfl rfl rfl rfl ?_
  refine wr_storeAll (cs := rulesC letter w.heap.size (w.alloc (.cells (Value.pointer (some a)).cells 108)).heap.size) rfl rfl rfl (by intro u hu; simp [rulesC] at hu; rcases hu with rfl | rfl | rfl <;> rfl) (heap_alloc_same _ _) rfl rfl ?_
  (repeat first | apply wr_end | (apply wc_ret; try simp only [thenE, inBlockE, bodyQ]))
  refine leaveN (vs := [.agg (rulesC letter w.heap.size (w.alloc (.cells (Value.pointer (some a)).cells 108)).heap.size).toArray]) (resv_cells (cs := rulesC letter w.heap.size (w.alloc (.cells (Value.pointer (some a)).cells 108)).heap.size) rfl rfl (World.putObj_heap_same (by simp)) rfl resv_nil) ⟨w.heap.size, _, rfl, ?_, ?_, Nat.le_refl _, by simp, ((((Keeps.refl NoB w).alloc _).alloc _).alloc _).put _ (fun h => by simp at h; omega)⟩
  · exact hPu (by simp <;> omega) (hAl (by simp <;> omega) (hAl (by simp) (heap_alloc_same _ _)))
  · exact hPu (by simp) (hAl (by simp) (heap_alloc_same _ _))
set_option maxRecDepth 100000 in
theorem paddrs_ca (letter : List UInt8) (a : Addr) (w : World) : Ca Tryd.prog 53 #[S letter, .pointer (some a), .func (.func 54) #[] #[]] w fun v w' => ∃ bx bf, v = .agg (addrsC letter bx bf).toArray ∧ w'.heap[bx]? = some (.cells #[.pointer (some a)] 111 (0, 0)) ∧ w'.heap[bf]? = some (.cells #[.func (.func 54) #[] #[]] 112 (0, 0)) ∧ w.heap.size ≤ bx ∧ w.heap.size ≤ bf ∧ Keeps NoB w w' := by
  refine ca_of_body (args := [S letter, .pointer (some a), .func (.func 54) #[] #[]]) Tryd.func53 rfl (by kernel_rfl) ?_
  (repeat first | (apply wr_move; exact rfl; with_reducible (conv => enter [6, 3]; whnf)) | apply wr_end | apply wc_seq | apply wc_region | (apply wr_box; iterate 2 exact rfl) | (apply wr_alloc; exact rfl))
  refine wr_makeFunc rfl rfl rfl ?_
  refine wr_makeFunc rfl rfl rfl ?_
  refine wr_build (cs := addrsC letter w.heap.size (w.alloc (.cells (Value.pointer (some a)).cells 111)).heap.size) rfl rfl rfl rfl ?_
  refine wr_storeAll (cs := addrsC letter w.heap.size (w.alloc (.cells (Value.pointer (some a)).cells 111)).heap.size) rfl rfl rfl (by intro u hu; simp [addrsC] at hu; rcases hu with rfl | rfl | rfl <;> rfl) (heap_alloc_same _ _) rfl rfl ?_
  (repeat first | apply wr_end | (apply wc_ret; try simp only [thenE, inBlockE, bodyQ]))
  refine leaveN (vs := [.agg (addrsC letter w.heap.size (w.alloc (.cells (Value.pointer (some a)).cells 111)).heap.size).toArray]) (resv_cells (cs := addrsC letter w.heap.size (w.alloc (.cells (Value.pointer (some a)).cells 111)).heap.size) rfl rfl (World.putObj_heap_same (by simp)) rfl resv_nil) ⟨w.heap.size, _, rfl, ?_, ?_, Nat.le_refl _, by simp, ((((Keeps.refl NoB w).alloc _).alloc _).alloc _).put _ (fun h => by simp at h; omega)⟩
  · exact hPu (by simp <;> omega) (hAl (by simp <;> omega) (hAl (by simp) (heap_alloc_same _ _)))
  · exact hPu (by simp) (hAl (by simp) (heap_alloc_same _ _))
def blkOf : Value → Nat
  | .pointer (some a) => a.block
  | _ => 0
def offOf : Value → Nat
  | .pointer (some a) => a.off
  | _ => 0
end Go.Proofs.YthlbgeonobicbaaDoor
