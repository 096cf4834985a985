/- A strings.Builder of the call's own; strings.Contains; payload.Has, text, number, list: what they do. -/
import Derived.Test.YthlbgeonobicbaaDoorM8
import Derived.Test.YthlbgeonobicbaaDoorM6
import Derived.Test.YthlbgeonobicbaaDoorM9
namespace Go.Proofs.YthlbgeonobicbaaDoor
open Go Go.V Go.RowKit Go.Lib
set_option linter.unusedVariables false
set_option linter.unusedSimpArgs false

theorem callX_noEscape (x : Value) (w : World) : (callFunc 93 #[x]).run Tryd.prog w = .ok (.value x) w := by
  rw [@run_callFunc_extern Tryd.prog 93 _ Extern.AbiNoEscape.same Tryd.func93 (by kernel_rfl) (by kernel_rfl) (by kernel_rfl) (by kernel_rfl), run_noEscape]; rfl
abbrev BT : TypeId := 124
abbrev Bd (B b : Nat) (l : List UInt8) (w : World) : Prop := IsBuilder BT 5 B b (bytesV l) w
theorem infoBT : ∃ j, Tryd.prog.info? BT = some j ∧ j.size = 2 := by
  have I : Info Tryd.prog BT (.agg #[.pointer none, .slice none 0 0]) 2 32 := inferInstance
  obtain ⟨i, h1, h2, h3, h4⟩ := I.parts
  exact ⟨i, h1, h3⟩
set_option maxRecDepth 100000 in
set_option maxHeartbeats 1000000 in
theorem copyCheck_ca (B b : Nat) (bs : List Value) (w : World) (h : IsBuilder BT 5 B b bs w) : Ca Tryd.prog 83 #[.pointer (some ⟨b, 0, none⟩)] w fun v w' => BuilderAt BT 5 B b (.pointer (some ⟨b, 0, none⟩)) bs w' ∧ Keeps (· = b) w w' := by
  obtain ⟨j, hj, hj2⟩ := infoBT
  refine ca_of_body (args := [.pointer (some ⟨b, 0, none⟩)]) Tryd.func83 rfl (by kernel_rfl) ?_
  rcases h with h | h
  · have hs := h.shape
    obtain ⟨hB, v, hb, ho, hne⟩ := h
    (repeat first | (apply wr_move; exact rfl; with_reducible (conv => enter [6, 3]; whnf)) | apply wc_seq | apply wc_region | (apply wr_fieldAddr; iterate 2 exact rfl) | (apply wr_nilCheck; iterate 2 exact rfl) | (apply wr_load; (iterate 3 exact rfl); (focus repeat first | with_reducible assumption | exact heap_alloc_same _ _ | exact World.putObj_heap_same (by first | omega | (simp only [World.size_alloc, World.putObj_size, ne_eq]; omega)) | ((first | refine hAl ?_ ?_ | refine hPu ?_ ?_); focus first | omega | (simp only [World.size_alloc, World.putObj_size, ne_eq]; omega))); exact rfl; conv => enter [6, 3]; whnf))
    refine wr_ptrNil rfl rfl ?_
    (repeat first | (apply wr_move; exact rfl; with_reducible (conv => enter [6, 3]; whnf)) | apply wr_end | apply wc_region | (apply wc_true; exact rfl))
    refine wr_convX rfl rfl (run_to_unsafe w ⟨b, 0, none⟩ Tryd.underlying122 Tryd.underlying155 hj (by omega) hs (by show 0 < 2; decide)) ?_
    refine wr_callX rfl (callX_noEscape _ _) rfl ?_
    refine wr_convX rfl rfl (run_from_unsafe w ⟨b, 0, none⟩ Tryd.underlying155 Tryd.underlying122 hj hs (by kernel_rfl)) ?_
    (repeat first | (apply wr_fieldAddr; iterate 2 exact rfl) | (apply wr_nilCheck; iterate 2 exact rfl) | (apply wr_store; (iterate 3 exact rfl); (first | exact rfl | with_reducible assumption); (focus repeat first | with_reducible assumption | exact heap_alloc_same _ _ | exact World.putObj_heap_same (by first | omega | (simp only [World.size_alloc, World.putObj_size, ne_eq]; omega)) | ((first | refine hAl ?_ ?_ | refine hPu ?_ ?_); focus first | omega | (simp only [World.size_alloc, World.putObj_size, ne_eq]; omega))); exact rfl) | (apply wr_nil; try simp only [thenE, inBlockE, bodyQ]))
    exact leave0 rfl ⟨⟨hB, v, heap_put_same hb, own_keep ho ((Keeps.refl (fun k => k = b) w).put _ (fun _ => rfl)) (fun k hk e => hne (by rw [hk, e])), hne⟩, (Keeps.refl _ w).put _ (fun _ => rfl)⟩
  · have h0 := h
    obtain ⟨hB, v, hb, ho, hne⟩ := h
    (repeat first | (apply wr_move; exact rfl; with_reducible (conv => enter [6, 3]; whnf)) | apply wc_seq | apply wc_region | (apply wr_fieldAddr; iterate 2 exact rfl) | (apply wr_nilCheck; iterate 2 exact rfl) | (apply wr_load; (iterate 3 exact rfl); (focus repeat first | with_reducible assumption | exact heap_alloc_same _ _ | exact World.putObj_heap_same (by first | omega | (simp only [World.size_alloc, World.putObj_size, ne_eq]; omega)) | ((first | refine hAl ?_ ?_ | refine hPu ?_ ?_); focus first | omega | (simp only [World.size_alloc, World.putObj_size, ne_eq]; omega))); exact rfl; conv => enter [6, 3]; whnf))
    refine wr_ptrNil rfl rfl ?_
    (repeat first | (apply wr_move; exact rfl; with_reducible (conv => enter [6, 3]; whnf)) | apply wr_end | apply wc_seq | apply wc_region | (apply wr_fieldAddr; iterate 2 exact rfl) | (apply wr_nilCheck; iterate 2 exact rfl) | (apply wr_load; (iterate 3 exact rfl); (focus repeat first | with_reducible assumption | exact heap_alloc_same _ _ | exact World.putObj_heap_same (by first | omega | (simp only [World.size_alloc, World.putObj_size, ne_eq]; omega)) | ((first | refine hAl ?_ ?_ | refine hPu ?_ ?_); focus first | omega | (simp only [World.size_alloc, World.putObj_size, ne_eq]; omega))); exact rfl; conv => enter [6, 3]; whnf) | (apply wc_false; exact rfl))
    refine wr_ptrNeSame rfl rfl rfl ?_
    (repeat first | apply wr_end | apply wc_skip | (apply wc_false; exact rfl))
    simp only [bodyQ]
    exact leave0 rfl ⟨h0, Keeps.refl _ w⟩
set_option maxRecDepth 100000 in
set_option maxHeartbeats 1000000 in
theorem writeS_ca (B b : Nat) (l s : List UInt8) (w : World) (h : Bd B b l w) (hl : l.length + s.length ≤ 140737488355328) (hBw : B ≤ w.heap.size) :
    Ca Tryd.prog 61 #[.pointer (some ⟨b, 0, none⟩), S s] w fun v w' => Bd B b (l ++ s) w' ∧ Keeps (fun k => B ≤ k) w w' := by
  refine ca_of_body (args := [.pointer (some ⟨b, 0, none⟩), S s]) Tryd.func61 rfl (by kernel_rfl) ?_
  (repeat first | (apply wr_move; exact rfl; with_reducible (conv => enter [6, 3]; whnf)) | (apply wr_assign; exact rfl; with_reducible (conv => enter [6, 3]; whnf)) | apply wr_end | apply wc_seq | apply wc_region)
  refine wr_call (vs := [.pointer (some ⟨b, 0, none⟩)]) rfl (copyCheck_ca B b _ w h) rfl ?_
  rintro v w1 ⟨⟨hB, bv, hb, ho, hne⟩, hk1⟩
  have hbl : (bytesV l).length = l.length := by simp [bytesV]
  rw [hbl] at ho
  have hs1 := hk1.size
  (repeat first | (apply wr_move; exact rfl; with_reducible (conv => enter [6, 3]; whnf)) | apply wr_end | apply wc_seq | apply wc_region | (apply wr_fieldAddr; iterate 2 exact rfl) | (apply wr_nilCheck; iterate 2 exact rfl) | (apply wr_load; (iterate 3 exact rfl); (focus repeat first | with_reducible assumption | exact heap_alloc_same _ _ | exact World.putObj_heap_same (by first | omega | (simp only [World.size_alloc, World.putObj_size, ne_eq]; omega)) | ((first | refine hAl ?_ ?_ | refine hPu ?_ ?_); focus first | omega | (simp only [World.size_alloc, World.putObj_size, ne_eq]; omega))); exact rfl; conv => enter [6, 3]; whnf))
  refine wr_appendS rfl rfl ho rfl hl (by omega) ?_
  intro v' w2 ho2 hk2
  have hb2 := hk2.heap hb hne
  have hne2 : v'.ownBlock ≠ some b := by
    intro e
    obtain ⟨_, h2⟩ := ho2
    rcases h2 with ⟨h3, _⟩ | ⟨gb, cap, cur, h3, _, hg, _⟩
    · rw [h3] at e; cases e
    · rw [h3] at e
      simp [Value.ownBlock] at e
      subst e
      rw [hb2] at hg
      cases hg
  have h1v := own_one ho2
  (repeat first | (apply wr_move; exact rfl; with_reducible (conv => enter [6, 3]; whnf)) | (apply wr_assign; exact rfl; with_reducible (conv => enter [6, 3]; whnf)) | apply wr_end | apply wc_seq | apply wc_region | (apply wr_fieldAddr; iterate 2 exact rfl) | (apply wr_len_str; iterate 2 exact rfl) | (apply wr_nilCheck; iterate 2 exact rfl) | (apply wr_store; (iterate 3 exact rfl); (first | exact rfl | with_reducible assumption); (focus repeat first | with_reducible assumption | exact heap_alloc_same _ _ | exact World.putObj_heap_same (by first | omega | (simp only [World.size_alloc, World.putObj_size, ne_eq]; omega)) | ((first | refine hAl ?_ ?_ | refine hPu ?_ ?_); focus first | omega | (simp only [World.size_alloc, World.putObj_size, ne_eq]; omega))); exact rfl) | (apply wc_ret; try simp only [thenE, inBlockE, bodyQ]))
  refine leave2 (v1 := .int .i64 (s.length : Int)) (v2 := .nilIface) rfl rfl rfl ⟨.inr ⟨hB, v', heap_put_same hb2, ?_, hne2⟩, ?_⟩
  · have e : bytesV (l ++ s) = bytesV l ++ bytesV s := by simp [bytesV]
    rw [e, List.length_append, hbl]
    have : (bytesV s).length = s.length := by simp [bytesV]
    rw [this]
    exact own_keep ho2 ((Keeps.refl (fun k => k = b) w2).put _ (fun _ => rfl)) (fun k hk e => hne2 (by rw [hk, e]))
  · refine ((hk1.mono (D' := fun k => B ≤ k) fun k _ e => by subst e; exact hB).trans' hk2 fun i hi e => (ho.lt i e).1).put _ fun _ => hB
theorem bstring_ca (B b : Nat) (l : List UInt8) (w : World) (h : Bd B b l w) (hBw : B ≤ w.heap.size) :
    Ca Tryd.prog 62 #[.pointer (some ⟨b, 0, none⟩)] w fun v w' => v = S l ∧ Keeps (fun k => B ≤ k) w w' :=
  Ca.of_calls (Tryd.Builder_String_any B b l w (by rw [byteCells_S]; exact h) hBw) fun e w' ⟨h1, h2⟩ => ⟨_, h1, rfl, Keeps.of_belowB h2⟩
theorem Bd.new (w : World) : Bd w.heap.size w.heap.size [] (w.alloc (.cells #[.pointer none, .slice none 0 0] BT)) :=
  .inl ⟨Nat.le_refl _, .slice none 0 0, heap_alloc_same _ _, ⟨rfl, .inl ⟨rfl, rfl⟩⟩, by simp [Value.ownBlock]⟩
theorem Bd.keep {D : Nat → Prop} {B b : Nat} {l : List UInt8} {w w' : World} (h : Bd B b l w) (k : Keeps D w w') (hd : ∀ i, B ≤ i → ¬ D i) : Bd B b l w' := by
  have key : ∀ p, BuilderAt BT 5 B b p (bytesV l) w → BuilderAt BT 5 B b p (bytesV l) w' := by
    rintro p ⟨hB, v, hb, ho, hne⟩
    exact ⟨hB, v, k.heap hb (hd _ hB), own_keep ho k (fun i hi => hd _ (ho.lt i hi).1), hne⟩
  rcases h with h | h
  · exact .inl (key _ h)
  · exact .inr (key _ h)
theorem Bd.kin {B b : Nat} {l : List UInt8} {w w' : World} (h : Bd B b l w) (k : Keeps NoB w w') : Bd B b l w' := h.keep k fun _ _ h => h

/-! ### strings.Contains -/
def inF (s letter : List UInt8) : Bool := match letter with
  | [] => true
  | c :: _ => s.contains c
set_option maxRecDepth 100000 in
set_option maxHeartbeats 1000000 in
theorem sindex0_ca (s : List UInt8) (w : World) : Ca Tryd.prog 79 #[S s, S []] w fun v w' => v = .int .i64 0 ∧ w' = w := by
  refine ca_of_body (args := [S s, S []]) Tryd.func79 rfl (by kernel_rfl) ?_
  (repeat first | (apply wr_move; exact rfl; with_reducible (conv => enter [6, 3]; whnf)) | (apply wr_assign; exact rfl; with_reducible (conv => enter [6, 3]; whnf)) | apply wr_end | apply wc_seq | apply wc_region | apply wc_block | (apply wr_len_str; iterate 2 exact rfl) | (apply wr_cmp; (iterate 3 exact rfl); exact cmp_eq _ _) | (apply wr_pick (t := true); (iterate 2 exact rfl); with_reducible (conv => enter [6, 3]; whnf)) | (apply wc_true; exact rfl) | (apply wc_ret; try simp only [thenE, inBlockE, bodyQ]) | (apply wr_skip; exact rfl))
  exact leave1 (v := .int .i64 0) rfl rfl ⟨rfl, rfl⟩
set_option maxRecDepth 100000 in
theorem index0_ca (s : List UInt8) (w : World) : Ca Tryd.prog 55 #[S s, S []] w fun v w' => v = .int .i64 0 ∧ w' = w := by
  refine ca_of_body (args := [S s, S []]) Tryd.func55 rfl (by kernel_rfl) ?_
  (repeat first | (apply wr_move; exact rfl; with_reducible (conv => enter [6, 3]; whnf)) | (apply wr_assign; exact rfl; with_reducible (conv => enter [6, 3]; whnf)) | apply wr_end | apply wc_seq | apply wc_region)
  refine wr_call (vs := [S s, S []]) rfl (sindex0_ca s w) rfl ?_
  rintro v w1 ⟨rfl, rfl⟩
  (repeat first | (apply wr_assign; exact rfl; with_reducible (conv => enter [6, 3]; whnf)) | apply wr_end | (apply wc_ret; try simp only [thenE, inBlockE, bodyQ]))
  exact leave1 (v := .int .i64 0) rfl rfl ⟨rfl, rfl⟩
theorem indexByte_in (l : List UInt8) (c : UInt8) : decide (0 ≤ Lib.indexByte l c) = l.contains c := by
  induction l with
  | nil => rfl
  | cons x l ih =>
    have hge := indexByte_ge l c
    rw [List.contains_cons, ← ih]
    have hu : indexByte (x :: l) c = if x == c then 0 else if indexByte l c == -1 then -1 else indexByte l c + 1 := rfl
    rw [hu]
    by_cases e : c = x
    · subst e; simp
    · have e' : ¬ x = c := fun h => e h.symm
      by_cases h : indexByte l c = -1
      · simp [e, e', h]
      · have h1 : 0 ≤ indexByte l c := by omega
        have h2 : 0 ≤ indexByte l c + 1 := by omega
        simp [e, e', h, h1, h2]
set_option maxRecDepth 100000 in
theorem contains_ca (s letter : List UInt8) (hl : letter.length ≤ 1) (w : World) : Ca Tryd.prog 33 #[S s, S letter] w fun v w' => v = .bool (inF s letter) ∧ w' = w := by
  match letter, hl with
  | [], _ =>
    refine ca_of_body (args := [S s, S []]) Tryd.func33 rfl (by kernel_rfl) ?_
    (repeat first | (apply wr_move; exact rfl; with_reducible (conv => enter [6, 3]; whnf)) | (apply wr_assign; exact rfl; with_reducible (conv => enter [6, 3]; whnf)) | apply wr_end | apply wc_seq | apply wc_region)
    refine wr_call (vs := [S s, S []]) rfl (index0_ca s w) rfl ?_
    rintro v w1 ⟨rfl, rfl⟩
    (repeat first | (apply wr_assign; exact rfl; with_reducible (conv => enter [6, 3]; whnf)) | apply wr_end | (apply wr_cmp; (iterate 3 exact rfl); exact cmpT (by dsimp only [cmpP]; first | done | omega)) | (apply wc_ret; try simp only [thenE, inBlockE, bodyQ]))
    exact leave1 (v := .bool true) rfl rfl ⟨rfl, rfl⟩
  | [c], _ =>
    exact Ca.of_calls (Tryd.strings_Contains_one ⟨s.toArray⟩ c w) fun e w' ⟨h1, h2⟩ => ⟨_, h1, by rw [indexByte_in]; rfl, h2⟩
/-! ### payload.Has -/
def hasF (kind : Int) : List UInt8 × Bool :=
  if kind = 1 then ([112, 111], true) else if kind = 2 then ([114], true) else if kind = 3 then ([108, 115], true) else if kind = 4 then ([97], true) else if kind = 5 then ([107], true) else ([], false)
set_option maxRecDepth 100000 in
set_option maxHeartbeats 1000000 in
theorem has_ca (kind : Int) (w : World) : Ca Tryd.prog 20 #[.int .i64 kind] w fun v w' => v = .tuple #[S (hasF kind).1, .bool (hasF kind).2] ∧ Keeps NoB w w' := by
  refine ca_of_body (args := [.int .i64 kind]) Tryd.func20 rfl (by kernel_rfl) ?_
  (repeat first | (apply wr_assign; exact rfl; with_reducible (conv => enter [6, 3]; whnf)) | apply wr_end | apply wc_seq | apply wc_region)
  refine wr_makeMap rfl ?_
  have hm0 : MapAt (w.alloc (.map #[] 0)) (encI .i64) w.heap.size [] := MapAt.new w _
  refine wr_insert (enc := encI .i64) (a := 1) (v := S [112, 111]) rfl rfl hm0 rfl rfl ?_
  intro w1 hm1 hk1
  refine wr_insert (enc := encI .i64) (a := 2) (v := S [114]) rfl rfl hm1 rfl rfl ?_
  intro w2 hm2 hk2
  refine wr_insert (enc := encI .i64) (a := 3) (v := S [108, 115]) rfl rfl hm2 rfl rfl ?_
  intro w3 hm3 hk3
  refine wr_insert (enc := encI .i64) (a := 4) (v := S [97]) rfl rfl hm3 rfl rfl ?_
  intro w4 hm4 hk4
  refine wr_insert (enc := encI .i64) (a := 5) (v := S [107]) rfl rfl hm4 rfl rfl ?_
  intro w5 hm5 hk5
  have hk : Keeps NoB w w5 := ((((((Keeps.refl NoB w).alloc (.map #[] 0)).trans' hk1 (fun i hi e => by omega)).trans' hk2 (fun i hi e => by omega)).trans' hk3 (fun i hi e => by omega)).trans' hk4 (fun i hi e => by omega)).trans' hk5 (fun i hi e => by omega)
  have hval : ((getM (putM (putM (putM (putM (putM ([] : List (Int × Value)) 1 (S [112, 111])) 2 (S [114])) 3 (S [108, 115])) 4 (S [97])) 5 (S [107])) kind).getD (S []), (getM (putM (putM (putM (putM (putM ([] : List (Int × Value)) 1 (S [112, 111])) 2 (S [114])) 3 (S [108, 115])) 4 (S [97])) 5 (S [107])) kind).isSome) = (S (hasF kind).1, (hasF kind).2) := by
    have e : putM (putM (putM (putM (putM ([] : List (Int × Value)) 1 (S [112, 111])) 2 (S [114])) 3 (S [108, 115])) 4 (S [97])) 5 (S [107]) = [(1, S [112, 111]), (2, S [114]), (3, S [108, 115]), (4, S [97]), (5, S [107])] := by
      simp [putM]
    rw [e]
    unfold hasF getM
    simp only [List.find?_cons, List.find?_nil]
    by_cases h1 : kind = 1
    · subst h1; rfl
    by_cases h2 : kind = 2
    · subst h2; rfl
    by_cases h3 : kind = 3
    · subst h3; rfl
    by_cases h4 : kind = 4
    · subst h4; rfl
    by_cases h5 : kind = 5
    · subst h5; rfl
    simp [h1, h2, h3, h4, h5, Ne.symm h1, Ne.symm h2, Ne.symm h3, Ne.symm h4, Ne.symm h5]
  obtain ⟨e1, e2⟩ := Prod.mk.inj hval
  (repeat first | (apply wr_move; exact rfl; with_reducible (conv => enter [6, 3]; whnf)) | (apply wr_assign; exact rfl; with_reducible (conv => enter [6, 3]; whnf)) | apply wr_end | apply wc_seq | apply wc_region)
  refine wr_lookupOkV (enc := encI .i64) (a := kind) rfl rfl hm5 rfl e1 e2 ?_
  (repeat first | (apply wr_move; exact rfl; with_reducible (conv => enter [6, 3]; whnf)) | (apply wr_assign; exact rfl; with_reducible (conv => enter [6, 3]; whnf)) | apply wr_end | apply wc_seq | apply wc_region | (apply wr_extract; (iterate 3 exact rfl); with_reducible (conv => enter [6, 3]; whnf)) | (apply wc_ret; try simp only [thenE, inBlockE, bodyQ]))
  exact leave2 (v1 := S (hasF kind).1) (v2 := .bool (hasF kind).2) rfl rfl rfl ⟨rfl, hk⟩
/-! ### A field of a message -/
/-- A text, at a place. -/
def textC (letter : List UInt8) (bx : Nat) : List Value := [S letter, .func (.func 66) #[] #[.pointer (some ⟨bx, 0, none⟩)], .func (.func 67) #[] #[.pointer (some ⟨bx, 0, none⟩)]]
def numC (letter : List UInt8) (bx : Nat) : List Value := [S letter, .func (.func 70) #[] #[.pointer (some ⟨bx, 0, none⟩)], .func (.func 71) #[] #[.pointer (some ⟨bx, 0, none⟩)]]
def rulesC (letter : List UInt8) (bx bf : Nat) : List Value := [S letter, .func (.func 73) #[] #[.pointer (some ⟨bx, 0, none⟩), .pointer (some ⟨bf, 0, none⟩)], .func (.func 74) #[] #[.pointer (some ⟨bf, 0, none⟩), .pointer (some ⟨bx, 0, none⟩)]]
def addrsC (letter : List UInt8) (bx bf : Nat) : List Value := [S letter, .func (.func 76) #[] #[.pointer (some ⟨bx, 0, none⟩), .pointer (some ⟨bf, 0, none⟩)], .func (.func 77) #[] #[.pointer (some ⟨bf, 0, none⟩), .pointer (some ⟨bx, 0, none⟩)]]
set_option maxRecDepth 100000 in
theorem ptext_ca (letter : List UInt8) (a : Addr) (w : World) : Ca Tryd.prog 49 #[S letter, .pointer (some a)] w fun v w' => ∃ bx, v = .agg (textC letter bx).toArray ∧ w'.heap[bx]? = some (.cells #[.pointer (some a)] 104 (0, 0)) ∧ w.heap.size ≤ bx ∧ Keeps NoB w w' := by
  refine ca_of_body (args := [S letter, .pointer (some a)]) Tryd.func49 rfl (by kernel_rfl) ?_
  (repeat first | (apply wr_move; exact rfl; with_reducible (conv => enter [6, 3]; whnf)) | apply wr_end | apply wc_seq | apply wc_region | (apply wr_box; iterate 2 exact rfl) | (apply wr_alloc; exact rfl))
  refine wr_makeFunc rfl rfl rfl ?_
  refine wr_makeFunc rfl rfl rfl ?_
  refine wr_build (cs := textC letter w.heap.size) rfl rfl rfl rfl ?_
  refine wr_storeAll (cs := textC letter w.heap.size) rfl rfl rfl (by intro u hu; simp [textC] at hu; rcases hu with rfl | rfl | rfl <;> rfl) (heap_alloc_same _ _) rfl rfl ?_
  (repeat first | apply wr_end | (apply wc_ret; try simp only [thenE, inBlockE, bodyQ]))
  refine leaveN (vs := [.agg (textC letter w.heap.size).toArray]) (resv_cells (cs := textC letter w.heap.size) rfl rfl (World.putObj_heap_same (by simp)) rfl resv_nil) ⟨w.heap.size, rfl, ?_, Nat.le_refl _, (((Keeps.refl NoB w).alloc _).alloc _).put _ (fun h => by simp at h; omega)⟩
  exact hPu (by simp) (hAl (by simp) (heap_alloc_same _ _))
set_option maxRecDepth 100000 in
theorem pnumber_ca (letter : List UInt8) (a : Addr) (w : World) : Ca Tryd.prog 50 #[S letter, .pointer (some a)] w fun v w' => ∃ bx, v = .agg (numC letter bx).toArray ∧ w'.heap[bx]? = some (.cells #[.pointer (some a)] 106 (0, 0)) ∧ w.heap.size ≤ bx ∧ Keeps NoB w w' := by
  refine ca_of_body (args := [S letter, .pointer (some a)]) Tryd.func50 rfl (by kernel_rfl) ?_
  (repeat first | (apply wr_move; exact rfl; with_reducible (conv => enter [6, 3]; whnf)) | apply wr_end | apply wc_seq | apply wc_region | (apply wr_box; iterate 2 exact rfl) | (apply wr_alloc; exact rfl))
  refine wr_makeFunc rfl rfl rfl ?_
  refine wr_makeFunc rfl rfl rfl ?_
  refine wr_build (cs := numC letter w.heap.size) rfl rfl rfl rfl ?_
  refine wr_storeAll (cs := numC letter w.heap.size) rfl rfl rfl (by intro u hu; simp [numC] at hu; rcases hu with rfl | rfl | rfl <;> rfl) (heap_alloc_same _ _) rfl rfl ?_
  (repeat first | apply wr_end | (apply wc_ret; try simp only [thenE, inBlockE, bodyQ]))
  refine leaveN (vs := [.agg (numC letter w.heap.size).toArray]) (resv_cells (cs := numC letter w.heap.size) rfl rfl (World.putObj_heap_same (by simp)) rfl resv_nil) ⟨w.heap.size, rfl, ?_, Nat.le_refl _, (((Keeps.refl NoB w).alloc _).alloc _).put _ (fun h => by simp at h; omega)⟩
  exact hPu (by simp) (hAl (by simp) (heap_alloc_same _ _))
set_option maxRecDepth 100000 in
theorem prules_ca (letter : List UInt8) (a : Addr) (w : World) : Ca Tryd.prog 51 #[S letter, .pointer (some a), .func (.func 52) #[] #[]] w fun v w' => ∃ bx bf, v = .agg (rulesC letter bx bf).toArray ∧ w'.heap[bx]? = some (.cells #[.pointer (some a)] 108 (0, 0)) ∧ w'.heap[bf]? = some (.cells #[.func (.func 52) #[] #[]] 109 (0, 0)) ∧ w.heap.size ≤ bx ∧ w.heap.size ≤ bf ∧ Keeps NoB w w' := by
  refine ca_of_body (args := [S letter, .pointer (some a), .func (.func 52) #[] #[]]) Tryd.func51 rfl (by kernel_rfl) ?_
  (repeat first | (apply wr_move; exact rfl; with_reducible (conv => enter [6, 3]; whnf)) | apply wr_end | apply wc_seq | apply wc_region | (apply wr_box; iterate 2 exact rfl) | (apply wr_alloc; exact rfl))
  refine wr_makeFunc rfl rfl rfl ?_
  refine wr_makeFunc rfl rfl rfl ?_
  refine wr_build (cs := rulesC letter w.heap.size (w.alloc (.cells (Value.pointer (some a)).cells 108)).heap.size) rfl rfl rfl rfl ?_
  refine wr_storeAll (cs := rulesC letter w.heap.size (w.alloc (.cells (Value.pointer (some a)).cells 108)).heap.size) rfl rfl rfl (by intro u hu; simp [rulesC] at hu; rcases hu with rfl | rfl | rfl <;> rfl) (heap_alloc_same _ _) rfl rfl ?_
  (repeat first | apply wr_end | (apply wc_ret; try simp only [thenE, inBlockE, bodyQ]))
  refine leaveN (vs := [.agg (rulesC letter w.heap.size (w.alloc (.cells (Value.pointer (some a)).cells 108)).heap.size).toArray]) (resv_cells (cs := rulesC letter w.heap.size (w.alloc (.cells (Value.pointer (some a)).cells 108)).heap.size) rfl rfl (World.putObj_heap_same (by simp)) rfl resv_nil) ⟨w.heap.size, _, rfl, ?_, ?_, Nat.le_refl _, by simp, ((((Keeps.refl NoB w).alloc _).alloc _).alloc _).put _ (fun h => by simp at h; omega)⟩
  · exact hPu (by simp <;> omega) (hAl (by simp <;> omega) (hAl (by simp) (heap_alloc_same _ _)))
  · exact hPu (by simp) (hAl (by simp) (heap_alloc_same _ _))
set_option maxRecDepth 100000 in
theorem paddrs_ca (letter : List UInt8) (a : Addr) (w : World) : Ca Tryd.prog 53 #[S letter, .pointer (some a), .func (.func 54) #[] #[]] w fun v w' => ∃ bx bf, v = .agg (addrsC letter bx bf).toArray ∧ w'.heap[bx]? = some (.cells #[.pointer (some a)] 111 (0, 0)) ∧ w'.heap[bf]? = some (.cells #[.func (.func 54) #[] #[]] 112 (0, 0)) ∧ w.heap.size ≤ bx ∧ w.heap.size ≤ bf ∧ Keeps NoB w w' := by
  refine ca_of_body (args := [S letter, .pointer (some a), .func (.func 54) #[] #[]]) Tryd.func53 rfl (by kernel_rfl) ?_
  (repeat first | (apply wr_move; exact rfl; with_reducible (conv => enter [6, 3]; whnf)) | apply wr_end | apply wc_seq | apply wc_region | (apply wr_box; iterate 2 exact rfl) | (apply wr_alloc; exact rfl))
  refine wr_makeFunc rfl rfl rfl ?_
  refine wr_makeFunc rfl rfl rfl ?_
  refine wr_build (cs := addrsC letter w.heap.size (w.alloc (.cells (Value.pointer (some a)).cells 111)).heap.size) rfl rfl rfl rfl ?_
  refine wr_storeAll (cs := addrsC letter w.heap.size (w.alloc (.cells (Value.pointer (some a)).cells 111)).heap.size) rfl rfl rfl (by intro u hu; simp [addrsC] at hu; rcases hu with rfl | rfl | rfl <;> rfl) (heap_alloc_same _ _) rfl rfl ?_
  (repeat first | apply wr_end | (apply wc_ret; try simp only [thenE, inBlockE, bodyQ]))
  refine leaveN (vs := [.agg (addrsC letter w.heap.size (w.alloc (.cells (Value.pointer (some a)).cells 111)).heap.size).toArray]) (resv_cells (cs := addrsC letter w.heap.size (w.alloc (.cells (Value.pointer (some a)).cells 111)).heap.size) rfl rfl (World.putObj_heap_same (by simp)) rfl resv_nil) ⟨w.heap.size, _, rfl, ?_, ?_, Nat.le_refl _, by simp, ((((Keeps.refl NoB w).alloc _).alloc _).alloc _).put _ (fun h => by simp at h; omega)⟩
  · exact hPu (by simp <;> omega) (hAl (by simp <;> omega) (hAl (by simp) (heap_alloc_same _ _)))
  · exact hPu (by simp) (hAl (by simp) (heap_alloc_same _ _))
def blkOf : Value → Nat
  | .pointer (some a) => a.block
  | _ => 0
def offOf : Value → Nat
  | .pointer (some a) => a.off
  | _ => 0
end Go.Proofs.YthlbgeonobicbaaDoor

namespace Go.Proofs.YthlbgeonobicbaaDoor
open Go Go.V Go.RowKit
set_option linter.unusedVariables false
set_option linter.unusedSimpArgs false

/-- Block g holds fields' cells. -/
abbrev FS (w : World) (g : Nat) (cs : List Value) : Prop := w.heap[g]? = some (.cells cs.toArray 79 (0, 0))
set_option maxRecDepth 100000 in
set_option maxHeartbeats 1000000 in
theorem rule_ca (b : Nat) (w : World) : Ca Tryd.prog 52 #[.pointer (some ⟨b, 0, none⟩)] w fun v w' => ∃ g b0 b1, v = .slice (some ⟨g, 0, none⟩) 2 2 ∧ FS w' g (textC [] b0 ++ textC [] b1) ∧ (w'.heap[b0]? = some (.cells #[.pointer (some ⟨b, 0, none⟩)] 104 (0, 0)) ∧ w.heap.size ≤ b0) ∧ (w'.heap[b1]? = some (.cells #[.pointer (some ⟨b, 1, none⟩)] 104 (0, 0)) ∧ w.heap.size ≤ b1) ∧ w.heap.size ≤ g ∧ Keeps NoB w w' := by
  refine ca_of_body (args := [.pointer (some ⟨b, 0, none⟩)]) Tryd.func52 rfl (by kernel_rfl) ?_
  (repeat first | (apply wr_assign; exact rfl; with_reducible (conv => enter [6, 3]; whnf)) | apply wr_end | apply wc_seq | apply wc_region)
  refine wc_drawP (l := _) 8 _ (by kernel_rfl) (by kernel_rfl) rfl (by kernel_rfl) (by kernel_rfl) (by decide) ?_
  apply chP_pure
  focus
    intro x w' hk hF
    apply wr_move; exact rfl; with_reducible (conv => enter [6, 3]; whnf)
    apply wr_nil
    exact ⟨rfl, Keeps.refl _ _⟩
  focus (intro x y h; rfl)
  focus kernel_rfl
  apply chP_pure
  focus
    intro x w' hk hF
    refine wr_nilCheck rfl rfl ?_
    apply wr_nil
    exact ⟨rfl, Keeps.refl _ _⟩
  focus (intro x y h; rfl)
  focus kernel_rfl
  apply chP_pure
  focus
    intro x w' hk hF
    refine wr_fieldAddr rfl rfl ?_
    apply wr_nil
    exact ⟨rfl, Keeps.refl _ _⟩
  focus (intro x y h; rfl)
  focus kernel_rfl
  refine chP_fact (fun y => .agg (textC [] (blkOf y)).toArray) (fun y w' => w'.heap[blkOf y]? = some (.cells #[.pointer (some ⟨b, 0, none⟩)] 104 (0, 0)) ∧ w.heap.size ≤ blkOf y) (fun y w w' h k => ⟨k.heap h.1 (fun h => h), h.2⟩) ?_ ?_
  focus
    intro x w' hk hF
    refine wr_call (vs := [S [], .pointer (some ⟨b, 0, none⟩)]) rfl (ptext_ca [] ⟨b, 0, none⟩ _) rfl ?_
    rintro v w'' ⟨bx, rfl, h1, h2, h3⟩
    apply wr_nil
    exact ⟨.pointer (some ⟨bx, 0, none⟩), rfl, ⟨h1, Nat.le_trans hk.size h2⟩, h3⟩
  apply chP_pure
  focus
    intro x w' hk hF
    apply wr_move; exact rfl; with_reducible (conv => enter [6, 3]; whnf)
    apply wr_nil
    exact ⟨rfl, Keeps.refl _ _⟩
  focus (intro x y h; rfl)
  focus kernel_rfl
  apply chP_pure
  focus
    intro x w' hk hF
    refine wr_nilCheck rfl rfl ?_
    apply wr_nil
    exact ⟨rfl, Keeps.refl _ _⟩
  focus (intro x y h; rfl)
  focus kernel_rfl
  apply chP_pure
  focus
    intro x w' hk hF
    refine wr_fieldAddr rfl rfl ?_
    apply wr_nil
    exact ⟨rfl, Keeps.refl _ _⟩
  focus (intro x y h; rfl)
  focus kernel_rfl
  refine chP_fact (fun y => .agg (textC [] (blkOf y)).toArray) (fun y w' => w'.heap[blkOf y]? = some (.cells #[.pointer (some ⟨b, 1, none⟩)] 104 (0, 0)) ∧ w.heap.size ≤ blkOf y) (fun y w w' h k => ⟨k.heap h.1 (fun h => h), h.2⟩) ?_ ?_
  focus
    intro x w' hk hF
    refine wr_call (vs := [S [], .pointer (some ⟨b, 1, none⟩)]) rfl (ptext_ca [] ⟨b, 1, none⟩ _) rfl ?_
    rintro v w'' ⟨bx, rfl, h1, h2, h3⟩
    apply wr_nil
    exact ⟨.pointer (some ⟨bx, 0, none⟩), rfl, ⟨h1, Nat.le_trans hk.size h2⟩, h3⟩
  refine chP_nil ?_
  intro x w3 hk3 hF
  have h0 : w3.heap[blkOf (x 3)]? = some (.cells #[.pointer (some ⟨b, 0, none⟩)] 104 (0, 0)) ∧ w.heap.size ≤ blkOf (x 3) := hF 3 (by decide)
  have h1 : w3.heap[blkOf (x 7)]? = some (.cells #[.pointer (some ⟨b, 1, none⟩)] 104 (0, 0)) ∧ w.heap.size ≤ blkOf (x 7) := hF 7 (by decide)
  have hs3 : w.heap.size ≤ w3.heap.size := hk3.size
  refine wr_buildSlice (vs := [.agg (textC [] (blkOf (x 3))).toArray, .agg (textC [] (blkOf (x 7))).toArray]) rfl rfl (by intro v hv; simp at hv; rcases hv with rfl | rfl <;> rfl) rfl (by decide) (by decide) (by decide) ?_
  (repeat first | (apply wr_assign; exact rfl; with_reducible (conv => enter [6, 3]; whnf)) | apply wr_end | (apply wc_ret; try simp only [thenE, inBlockE, bodyQ]))
  exact leave1 (v := .slice (some ⟨w3.heap.size, 0, none⟩) 2 2) rfl rfl ⟨_, blkOf (x 3), blkOf (x 7), rfl, heap_alloc_same _ _, ⟨hAl (by have := lt_of_heap h0.1; omega) h0.1, h0.2⟩, ⟨hAl (by have := lt_of_heap h1.1; omega) h1.1, h1.2⟩, hs3, (((Keeps.refl NoB w).drew).trans hk3).alloc _⟩
set_option maxRecDepth 100000 in
set_option maxHeartbeats 1000000 in
theorem addr_ca (b : Nat) (w : World) : Ca Tryd.prog 54 #[.pointer (some ⟨b, 0, none⟩)] w fun v w' => ∃ g b0 b1 b2, v = .slice (some ⟨g, 0, none⟩) 3 3 ∧ FS w' g (textC [] b0 ++ numC [] b1 ++ numC [] b2) ∧ (w'.heap[b0]? = some (.cells #[.pointer (some ⟨b, 0, none⟩)] 104 (0, 0)) ∧ w.heap.size ≤ b0) ∧ (w'.heap[b1]? = some (.cells #[.pointer (some ⟨b, 1, none⟩)] 106 (0, 0)) ∧ w.heap.size ≤ b1) ∧ (w'.heap[b2]? = some (.cells #[.pointer (some ⟨b, 2, none⟩)] 106 (0, 0)) ∧ w.heap.size ≤ b2) ∧ w.heap.size ≤ g ∧ Keeps NoB w w' := by
  refine ca_of_body (args := [.pointer (some ⟨b, 0, none⟩)]) Tryd.func54 rfl (by kernel_rfl) ?_
  (repeat first | (apply wr_assign; exact rfl; with_reducible (conv => enter [6, 3]; whnf)) | apply wr_end | apply wc_seq | apply wc_region)
  refine wc_drawP (l := _) 12 _ (by kernel_rfl) (by kernel_rfl) rfl (by kernel_rfl) (by kernel_rfl) (by decide) ?_
  apply chP_pure
  focus
    intro x w' hk hF
    apply wr_move; exact rfl; with_reducible (conv => enter [6, 3]; whnf)
    apply wr_nil
    exact ⟨rfl, Keeps.refl _ _⟩
  focus (intro x y h; rfl)
  focus kernel_rfl
  apply chP_pure
  focus
    intro x w' hk hF
    refine wr_nilCheck rfl rfl ?_
    apply wr_nil
    exact ⟨rfl, Keeps.refl _ _⟩
  focus (intro x y h; rfl)
  focus kernel_rfl
  apply chP_pure
  focus
    intro x w' hk hF
    refine wr_fieldAddr rfl rfl ?_
    apply wr_nil
    exact ⟨rfl, Keeps.refl _ _⟩
  focus (intro x y h; rfl)
  focus kernel_rfl
  refine chP_fact (fun y => .agg (textC [] (blkOf y)).toArray) (fun y w' => w'.heap[blkOf y]? = some (.cells #[.pointer (some ⟨b, 0, none⟩)] 104 (0, 0)) ∧ w.heap.size ≤ blkOf y) (fun y w w' h k => ⟨k.heap h.1 (fun h => h), h.2⟩) ?_ ?_
  focus
    intro x w' hk hF
    refine wr_call (vs := [S [], .pointer (some ⟨b, 0, none⟩)]) rfl (ptext_ca [] ⟨b, 0, none⟩ _) rfl ?_
    rintro v w'' ⟨bx, rfl, h1, h2, h3⟩
    apply wr_nil
    exact ⟨.pointer (some ⟨bx, 0, none⟩), rfl, ⟨h1, Nat.le_trans hk.size h2⟩, h3⟩
  apply chP_pure
  focus
    intro x w' hk hF
    apply wr_move; exact rfl; with_reducible (conv => enter [6, 3]; whnf)
    apply wr_nil
    exact ⟨rfl, Keeps.refl _ _⟩
  focus (intro x y h; rfl)
  focus kernel_rfl
  apply chP_pure
  focus
    intro x w' hk hF
    refine wr_nilCheck rfl rfl ?_
    apply wr_nil
    exact ⟨rfl, Keeps.refl _ _⟩
  focus (intro x y h; rfl)
  focus kernel_rfl
  apply chP_pure
  focus
    intro x w' hk hF
    refine wr_fieldAddr rfl rfl ?_
    apply wr_nil
    exact ⟨rfl, Keeps.refl _ _⟩
  focus (intro x y h; rfl)
  focus kernel_rfl
  refine chP_fact (fun y => .agg (numC [] (blkOf y)).toArray) (fun y w' => w'.heap[blkOf y]? = some (.cells #[.pointer (some ⟨b, 1, none⟩)] 106 (0, 0)) ∧ w.heap.size ≤ blkOf y) (fun y w w' h k => ⟨k.heap h.1 (fun h => h), h.2⟩) ?_ ?_
  focus
    intro x w' hk hF
    refine wr_call (vs := [S [], .pointer (some ⟨b, 1, none⟩)]) rfl (pnumber_ca [] ⟨b, 1, none⟩ _) rfl ?_
    rintro v w'' ⟨bx, rfl, h1, h2, h3⟩
    apply wr_nil
    exact ⟨.pointer (some ⟨bx, 0, none⟩), rfl, ⟨h1, Nat.le_trans hk.size h2⟩, h3⟩
  apply chP_pure
  focus
    intro x w' hk hF
    apply wr_move; exact rfl; with_reducible (conv => enter [6, 3]; whnf)
    apply wr_nil
    exact ⟨rfl, Keeps.refl _ _⟩
  focus (intro x y h; rfl)
  focus kernel_rfl
  apply chP_pure
  focus
    intro x w' hk hF
    refine wr_nilCheck rfl rfl ?_
    apply wr_nil
    exact ⟨rfl, Keeps.refl _ _⟩
  focus (intro x y h; rfl)
  focus kernel_rfl
  apply chP_pure
  focus
    intro x w' hk hF
    refine wr_fieldAddr rfl rfl ?_
    apply wr_nil
    exact ⟨rfl, Keeps.refl _ _⟩
  focus (intro x y h; rfl)
  focus kernel_rfl
  refine chP_fact (fun y => .agg (numC [] (blkOf y)).toArray) (fun y w' => w'.heap[blkOf y]? = some (.cells #[.pointer (some ⟨b, 2, none⟩)] 106 (0, 0)) ∧ w.heap.size ≤ blkOf y) (fun y w w' h k => ⟨k.heap h.1 (fun h => h), h.2⟩) ?_ ?_
  focus
    intro x w' hk hF
    refine wr_call (vs := [S [], .pointer (some ⟨b, 2, none⟩)]) rfl (pnumber_ca [] ⟨b, 2, none⟩ _) rfl ?_
    rintro v w'' ⟨bx, rfl, h1, h2, h3⟩
    apply wr_nil
    exact ⟨.pointer (some ⟨bx, 0, none⟩), rfl, ⟨h1, Nat.le_trans hk.size h2⟩, h3⟩
  refine chP_nil ?_
  intro x w3 hk3 hF
  have h0 : w3.heap[blkOf (x 3)]? = some (.cells #[.pointer (some ⟨b, 0, none⟩)] 104 (0, 0)) ∧ w.heap.size ≤ blkOf (x 3) := hF 3 (by decide)
  have h1 : w3.heap[blkOf (x 7)]? = some (.cells #[.pointer (some ⟨b, 1, none⟩)] 106 (0, 0)) ∧ w.heap.size ≤ blkOf (x 7) := hF 7 (by decide)
  have h2 : w3.heap[blkOf (x 11)]? = some (.cells #[.pointer (some ⟨b, 2, none⟩)] 106 (0, 0)) ∧ w.heap.size ≤ blkOf (x 11) := hF 11 (by decide)
  have hs3 : w.heap.size ≤ w3.heap.size := hk3.size
  refine wr_buildSlice (vs := [.agg (textC [] (blkOf (x 3))).toArray, .agg (numC [] (blkOf (x 7))).toArray, .agg (numC [] (blkOf (x 11))).toArray]) rfl rfl (by intro v hv; simp at hv; rcases hv with rfl | rfl | rfl <;> rfl) rfl (by decide) (by decide) (by decide) ?_
  (repeat first | (apply wr_assign; exact rfl; with_reducible (conv => enter [6, 3]; whnf)) | apply wr_end | (apply wc_ret; try simp only [thenE, inBlockE, bodyQ]))
  exact leave1 (v := .slice (some ⟨w3.heap.size, 0, none⟩) 3 3) rfl rfl ⟨_, blkOf (x 3), blkOf (x 7), blkOf (x 11), rfl, heap_alloc_same _ _, ⟨hAl (by have := lt_of_heap h0.1; omega) h0.1, h0.2⟩, ⟨hAl (by have := lt_of_heap h1.1; omega) h1.1, h1.2⟩, ⟨hAl (by have := lt_of_heap h2.1; omega) h2.1, h2.2⟩, hs3, (((Keeps.refl NoB w).drew).trans hk3).alloc _⟩
end Go.Proofs.YthlbgeonobicbaaDoor

namespace Go.Proofs.YthlbgeonobicbaaDoor
open Go Go.V Go.RowKit
set_option linter.unusedVariables false
set_option linter.unusedSimpArgs false

/-- A payload's fields' boxes. -/
structure FB (w : World) (b base : Nat) (B : Nat → Nat) : Prop where
  h0 : w.heap[B 0]? = some (.cells #[.pointer (some ⟨b, 0, none⟩)] 104 (0, 0)) ∧ base ≤ B 0
  h1 : w.heap[B 1]? = some (.cells #[.pointer (some ⟨b, 1, none⟩)] 106 (0, 0)) ∧ base ≤ B 1
  h2 : w.heap[B 2]? = some (.cells #[.pointer (some ⟨b, 2, none⟩)] 104 (0, 0)) ∧ base ≤ B 2
  h3 : w.heap[B 3]? = some (.cells #[.pointer (some ⟨b, 3, none⟩)] 108 (0, 0)) ∧ w.heap[B 8]? = some (.cells #[.func (.func 52) #[] #[]] 109 (0, 0)) ∧ base ≤ B 3 ∧ base ≤ B 8
  h4 : w.heap[B 4]? = some (.cells #[.pointer (some ⟨b, 4, none⟩)] 106 (0, 0)) ∧ base ≤ B 4
  h5 : w.heap[B 5]? = some (.cells #[.pointer (some ⟨b, 5, none⟩)] 104 (0, 0)) ∧ base ≤ B 5
  h6 : w.heap[B 6]? = some (.cells #[.pointer (some ⟨b, 6, none⟩)] 111 (0, 0)) ∧ w.heap[B 9]? = some (.cells #[.func (.func 54) #[] #[]] 112 (0, 0)) ∧ base ≤ B 6 ∧ base ≤ B 9
  h7 : w.heap[B 7]? = some (.cells #[.pointer (some ⟨b, 7, none⟩)] 104 (0, 0)) ∧ base ≤ B 7
theorem FB.keep {w w' : World} {b base : Nat} {B : Nat → Nat} {D : Nat → Prop} (h : FB w b base B) (k : Keeps D w w') (hd : ∀ i, base ≤ i → ¬ D i) : FB w' b base B :=
  ⟨⟨k.heap h.h0.1 (hd _ h.h0.2), h.h0.2⟩, ⟨k.heap h.h1.1 (hd _ h.h1.2), h.h1.2⟩, ⟨k.heap h.h2.1 (hd _ h.h2.2), h.h2.2⟩, ⟨k.heap h.h3.1 (hd _ h.h3.2.2.1), k.heap h.h3.2.1 (hd _ h.h3.2.2.2), h.h3.2.2⟩, ⟨k.heap h.h4.1 (hd _ h.h4.2), h.h4.2⟩, ⟨k.heap h.h5.1 (hd _ h.h5.2), h.h5.2⟩, ⟨k.heap h.h6.1 (hd _ h.h6.2.2.1), k.heap h.h6.2.1 (hd _ h.h6.2.2.2), h.h6.2.2⟩, ⟨k.heap h.h7.1 (hd _ h.h7.2), h.h7.2⟩⟩
def fldCs (B : Nat → Nat) : List (List Value) := [textC [] (B 0), numC [112] (B 1), textC [111] (B 2), rulesC [114] (B 3) (B 8), numC [108] (B 4), textC [115] (B 5), addrsC [97] (B 6) (B 9), textC [107] (B 7)]
set_option maxRecDepth 100000 in
set_option maxHeartbeats 4000000 in
theorem fields_ca2 (b : Nat) (w : World) : Ca Tryd.prog 32 #[.pointer (some ⟨b, 0, none⟩)] w fun v w' => ∃ g B, v = .slice (some ⟨g, 0, none⟩) 8 8 ∧ FS w' g (fldCs B).flatten ∧ FB w' b w.heap.size B ∧ w.heap.size ≤ g ∧ Keeps NoB w w' := by
  refine ca_of_body (args := [.pointer (some ⟨b, 0, none⟩)]) Tryd.func32 rfl (by kernel_rfl) ?_
  (repeat first | (apply wr_assign; exact rfl; with_reducible (conv => enter [6, 3]; whnf)) | apply wr_end | apply wc_seq | apply wc_region)
  refine wc_drawP (l := _) 32 _ (by kernel_rfl) (by kernel_rfl) rfl (by kernel_rfl) (by kernel_rfl) (by decide) ?_
  apply chP_pure
  focus
    intro x w' hk hF
    apply wr_move; exact rfl; with_reducible (conv => enter [6, 3]; whnf)
    apply wr_nil
    exact ⟨rfl, Keeps.refl _ _⟩
  focus (intro x y h; rfl)
  focus kernel_rfl
  apply chP_pure
  focus
    intro x w' hk hF
    refine wr_nilCheck rfl rfl ?_
    apply wr_nil
    exact ⟨rfl, Keeps.refl _ _⟩
  focus (intro x y h; rfl)
  focus kernel_rfl
  apply chP_pure
  focus
    intro x w' hk hF
    refine wr_fieldAddr rfl rfl ?_
    apply wr_nil
    exact ⟨rfl, Keeps.refl _ _⟩
  focus (intro x y h; rfl)
  focus kernel_rfl
  refine chP_fact (fun y => .agg (textC [] (blkOf y)).toArray) (fun y w' => w'.heap[blkOf y]? = some (.cells #[.pointer (some ⟨b, 0, none⟩)] 104 (0, 0)) ∧ w.heap.size ≤ blkOf y) (fun y w w' h k => ⟨k.heap h.1 (fun h => h), h.2⟩) ?_ ?_
  focus
    intro x w' hk hF
    refine wr_call (vs := [S [], .pointer (some ⟨b, 0, none⟩)]) rfl (ptext_ca [] ⟨b, 0, none⟩ _) rfl ?_
    rintro v w'' ⟨bx, rfl, h1, h2, h3⟩
    apply wr_nil
    exact ⟨.pointer (some ⟨bx, 0, none⟩), rfl, ⟨h1, Nat.le_trans hk.size h2⟩, h3⟩
  apply chP_pure
  focus
    intro x w' hk hF
    apply wr_move; exact rfl; with_reducible (conv => enter [6, 3]; whnf)
    apply wr_nil
    exact ⟨rfl, Keeps.refl _ _⟩
  focus (intro x y h; rfl)
  focus kernel_rfl
  apply chP_pure
  focus
    intro x w' hk hF
    refine wr_nilCheck rfl rfl ?_
    apply wr_nil
    exact ⟨rfl, Keeps.refl _ _⟩
  focus (intro x y h; rfl)
  focus kernel_rfl
  apply chP_pure
  focus
    intro x w' hk hF
    refine wr_fieldAddr rfl rfl ?_
    apply wr_nil
    exact ⟨rfl, Keeps.refl _ _⟩
  focus (intro x y h; rfl)
  focus kernel_rfl
  refine chP_fact (fun y => .agg (numC [112] (blkOf y)).toArray) (fun y w' => w'.heap[blkOf y]? = some (.cells #[.pointer (some ⟨b, 1, none⟩)] 106 (0, 0)) ∧ w.heap.size ≤ blkOf y) (fun y w w' h k => ⟨k.heap h.1 (fun h => h), h.2⟩) ?_ ?_
  focus
    intro x w' hk hF
    refine wr_call (vs := [S [112], .pointer (some ⟨b, 1, none⟩)]) rfl (pnumber_ca [112] ⟨b, 1, none⟩ _) rfl ?_
    rintro v w'' ⟨bx, rfl, h1, h2, h3⟩
    apply wr_nil
    exact ⟨.pointer (some ⟨bx, 0, none⟩), rfl, ⟨h1, Nat.le_trans hk.size h2⟩, h3⟩
  apply chP_pure
  focus
    intro x w' hk hF
    apply wr_move; exact rfl; with_reducible (conv => enter [6, 3]; whnf)
    apply wr_nil
    exact ⟨rfl, Keeps.refl _ _⟩
  focus (intro x y h; rfl)
  focus kernel_rfl
  apply chP_pure
  focus
    intro x w' hk hF
    refine wr_nilCheck rfl rfl ?_
    apply wr_nil
    exact ⟨rfl, Keeps.refl _ _⟩
  focus (intro x y h; rfl)
  focus kernel_rfl
  apply chP_pure
  focus
    intro x w' hk hF
    refine wr_fieldAddr rfl rfl ?_
    apply wr_nil
    exact ⟨rfl, Keeps.refl _ _⟩
  focus (intro x y h; rfl)
  focus kernel_rfl
  refine chP_fact (fun y => .agg (textC [111] (blkOf y)).toArray) (fun y w' => w'.heap[blkOf y]? = some (.cells #[.pointer (some ⟨b, 2, none⟩)] 104 (0, 0)) ∧ w.heap.size ≤ blkOf y) (fun y w w' h k => ⟨k.heap h.1 (fun h => h), h.2⟩) ?_ ?_
  focus
    intro x w' hk hF
    refine wr_call (vs := [S [111], .pointer (some ⟨b, 2, none⟩)]) rfl (ptext_ca [111] ⟨b, 2, none⟩ _) rfl ?_
    rintro v w'' ⟨bx, rfl, h1, h2, h3⟩
    apply wr_nil
    exact ⟨.pointer (some ⟨bx, 0, none⟩), rfl, ⟨h1, Nat.le_trans hk.size h2⟩, h3⟩
  apply chP_pure
  focus
    intro x w' hk hF
    apply wr_move; exact rfl; with_reducible (conv => enter [6, 3]; whnf)
    apply wr_nil
    exact ⟨rfl, Keeps.refl _ _⟩
  focus (intro x y h; rfl)
  focus kernel_rfl
  apply chP_pure
  focus
    intro x w' hk hF
    refine wr_nilCheck rfl rfl ?_
    apply wr_nil
    exact ⟨rfl, Keeps.refl _ _⟩
  focus (intro x y h; rfl)
  focus kernel_rfl
  apply chP_pure
  focus
    intro x w' hk hF
    refine wr_fieldAddr rfl rfl ?_
    apply wr_nil
    exact ⟨rfl, Keeps.refl _ _⟩
  focus (intro x y h; rfl)
  focus kernel_rfl
  refine chP_fact (fun y => .agg (rulesC [114] (blkOf y) (offOf y)).toArray) (fun y w' => w'.heap[blkOf y]? = some (.cells #[.pointer (some ⟨b, 3, none⟩)] 108 (0, 0)) ∧ w'.heap[offOf y]? = some (.cells #[.func (.func 52) #[] #[]] 109 (0, 0)) ∧ w.heap.size ≤ blkOf y ∧ w.heap.size ≤ offOf y) (fun y w w' h k => ⟨k.heap h.1 (fun h => h), k.heap h.2.1 (fun h => h), h.2.2⟩) ?_ ?_
  focus
    intro x w' hk hF
    refine wr_call (vs := [S [114], .pointer (some ⟨b, 3, none⟩), .func (.func 52) #[] #[]]) rfl (prules_ca [114] ⟨b, 3, none⟩ _) rfl ?_
    rintro v w'' ⟨bx, bf, rfl, h1, h2, h3, h4, h5⟩
    apply wr_nil
    exact ⟨.pointer (some ⟨bx, bf, none⟩), rfl, ⟨h1, h2, Nat.le_trans hk.size h3, Nat.le_trans hk.size h4⟩, h5⟩
  apply chP_pure
  focus
    intro x w' hk hF
    apply wr_move; exact rfl; with_reducible (conv => enter [6, 3]; whnf)
    apply wr_nil
    exact ⟨rfl, Keeps.refl _ _⟩
  focus (intro x y h; rfl)
  focus kernel_rfl
  apply chP_pure
  focus
    intro x w' hk hF
    refine wr_nilCheck rfl rfl ?_
    apply wr_nil
    exact ⟨rfl, Keeps.refl _ _⟩
  focus (intro x y h; rfl)
  focus kernel_rfl
  apply chP_pure
  focus
    intro x w' hk hF
    refine wr_fieldAddr rfl rfl ?_
    apply wr_nil
    exact ⟨rfl, Keeps.refl _ _⟩
  focus (intro x y h; rfl)
  focus kernel_rfl
  refine chP_fact (fun y => .agg (numC [108] (blkOf y)).toArray) (fun y w' => w'.heap[blkOf y]? = some (.cells #[.pointer (some ⟨b, 4, none⟩)] 106 (0, 0)) ∧ w.heap.size ≤ blkOf y) (fun y w w' h k => ⟨k.heap h.1 (fun h => h), h.2⟩) ?_ ?_
  focus
    intro x w' hk hF
    refine wr_call (vs := [S [108], .pointer (some ⟨b, 4, none⟩)]) rfl (pnumber_ca [108] ⟨b, 4, none⟩ _) rfl ?_
    rintro v w'' ⟨bx, rfl, h1, h2, h3⟩
    apply wr_nil
    exact ⟨.pointer (some ⟨bx, 0, none⟩), rfl, ⟨h1, Nat.le_trans hk.size h2⟩, h3⟩
  apply chP_pure
  focus
    intro x w' hk hF
    apply wr_move; exact rfl; with_reducible (conv => enter [6, 3]; whnf)
    apply wr_nil
    exact ⟨rfl, Keeps.refl _ _⟩
  focus (intro x y h; rfl)
  focus kernel_rfl
  apply chP_pure
  focus
    intro x w' hk hF
    refine wr_nilCheck rfl rfl ?_
    apply wr_nil
    exact ⟨rfl, Keeps.refl _ _⟩
  focus (intro x y h; rfl)
  focus kernel_rfl
  apply chP_pure
  focus
    intro x w' hk hF
    refine wr_fieldAddr rfl rfl ?_
    apply wr_nil
    exact ⟨rfl, Keeps.refl _ _⟩
  focus (intro x y h; rfl)
  focus kernel_rfl
  refine chP_fact (fun y => .agg (textC [115] (blkOf y)).toArray) (fun y w' => w'.heap[blkOf y]? = some (.cells #[.pointer (some ⟨b, 5, none⟩)] 104 (0, 0)) ∧ w.heap.size ≤ blkOf y) (fun y w w' h k => ⟨k.heap h.1 (fun h => h), h.2⟩) ?_ ?_
  focus
    intro x w' hk hF
    refine wr_call (vs := [S [115], .pointer (some ⟨b, 5, none⟩)]) rfl (ptext_ca [115] ⟨b, 5, none⟩ _) rfl ?_
    rintro v w'' ⟨bx, rfl, h1, h2, h3⟩
    apply wr_nil
    exact ⟨.pointer (some ⟨bx, 0, none⟩), rfl, ⟨h1, Nat.le_trans hk.size h2⟩, h3⟩
  apply chP_pure
  focus
    intro x w' hk hF
    apply wr_move; exact rfl; with_reducible (conv => enter [6, 3]; whnf)
    apply wr_nil
    exact ⟨rfl, Keeps.refl _ _⟩
  focus (intro x y h; rfl)
  focus kernel_rfl
  apply chP_pure
  focus
    intro x w' hk hF
    refine wr_nilCheck rfl rfl ?_
    apply wr_nil
    exact ⟨rfl, Keeps.refl _ _⟩
  focus (intro x y h; rfl)
  focus kernel_rfl
  apply chP_pure
  focus
    intro x w' hk hF
    refine wr_fieldAddr rfl rfl ?_
    apply wr_nil
    exact ⟨rfl, Keeps.refl _ _⟩
  focus (intro x y h; rfl)
  focus kernel_rfl
  refine chP_fact (fun y => .agg (addrsC [97] (blkOf y) (offOf y)).toArray) (fun y w' => w'.heap[blkOf y]? = some (.cells #[.pointer (some ⟨b, 6, none⟩)] 111 (0, 0)) ∧ w'.heap[offOf y]? = some (.cells #[.func (.func 54) #[] #[]] 112 (0, 0)) ∧ w.heap.size ≤ blkOf y ∧ w.heap.size ≤ offOf y) (fun y w w' h k => ⟨k.heap h.1 (fun h => h), k.heap h.2.1 (fun h => h), h.2.2⟩) ?_ ?_
  focus
    intro x w' hk hF
    refine wr_call (vs := [S [97], .pointer (some ⟨b, 6, none⟩), .func (.func 54) #[] #[]]) rfl (paddrs_ca [97] ⟨b, 6, none⟩ _) rfl ?_
    rintro v w'' ⟨bx, bf, rfl, h1, h2, h3, h4, h5⟩
    apply wr_nil
    exact ⟨.pointer (some ⟨bx, bf, none⟩), rfl, ⟨h1, h2, Nat.le_trans hk.size h3, Nat.le_trans hk.size h4⟩, h5⟩
  apply chP_pure
  focus
    intro x w' hk hF
    apply wr_move; exact rfl; with_reducible (conv => enter [6, 3]; whnf)
    apply wr_nil
    exact ⟨rfl, Keeps.refl _ _⟩
  focus (intro x y h; rfl)
  focus kernel_rfl
  apply chP_pure
  focus
    intro x w' hk hF
    refine wr_nilCheck rfl rfl ?_
    apply wr_nil
    exact ⟨rfl, Keeps.refl _ _⟩
  focus (intro x y h; rfl)
  focus kernel_rfl
  apply chP_pure
  focus
    intro x w' hk hF
    refine wr_fieldAddr rfl rfl ?_
    apply wr_nil
    exact ⟨rfl, Keeps.refl _ _⟩
  focus (intro x y h; rfl)
  focus kernel_rfl
  refine chP_fact (fun y => .agg (textC [107] (blkOf y)).toArray) (fun y w' => w'.heap[blkOf y]? = some (.cells #[.pointer (some ⟨b, 7, none⟩)] 104 (0, 0)) ∧ w.heap.size ≤ blkOf y) (fun y w w' h k => ⟨k.heap h.1 (fun h => h), h.2⟩) ?_ ?_
  focus
    intro x w' hk hF
    refine wr_call (vs := [S [107], .pointer (some ⟨b, 7, none⟩)]) rfl (ptext_ca [107] ⟨b, 7, none⟩ _) rfl ?_
    rintro v w'' ⟨bx, rfl, h1, h2, h3⟩
    apply wr_nil
    exact ⟨.pointer (some ⟨bx, 0, none⟩), rfl, ⟨h1, Nat.le_trans hk.size h2⟩, h3⟩
  refine chP_nil ?_
  intro x w3 hk3 hF
  obtain ⟨B, hB⟩ : ∃ B : Nat → Nat, B = fun i => match i with | 0 => blkOf (x 3) | 1 => blkOf (x 7) | 2 => blkOf (x 11) | 3 => blkOf (x 15) | 4 => blkOf (x 19) | 5 => blkOf (x 23) | 6 => blkOf (x 27) | 7 => blkOf (x 31) | 8 => offOf (x 15) | _ => offOf (x 27) := ⟨_, rfl⟩
  have hFB : FB w3 b w.heap.size B := by
    subst hB
    exact ⟨hF 3 (by decide), hF 7 (by decide), hF 11 (by decide), hF 15 (by decide), hF 19 (by decide), hF 23 (by decide), hF 27 (by decide), hF 31 (by decide)⟩
  have hs3 : w.heap.size ≤ w3.heap.size := hk3.size
  refine wr_buildSlice (vs := (fldCs B).map fun c => .agg c.toArray) rfl (by subst hB; rfl) (by intro v hv; simp [fldCs] at hv; rcases hv with rfl | rfl | rfl | rfl | rfl | rfl | rfl | rfl <;> rfl) rfl (by decide) (by decide) (by decide) ?_
  (repeat first | (apply wr_assign; exact rfl; with_reducible (conv => enter [6, 3]; whnf)) | apply wr_end | (apply wc_ret; try simp only [thenE, inBlockE, bodyQ]))
  exact leave1 (v := .slice (some ⟨w3.heap.size, 0, none⟩) 8 8) rfl rfl ⟨_, B, rfl, heap_alloc_same _ _, hFB.keep ((Keeps.refl NoB w3).alloc _) (fun i hi h => h), hs3, (((Keeps.refl NoB w).drew).trans hk3).alloc _⟩
end Go.Proofs.YthlbgeonobicbaaDoor

namespace Go.Proofs.YthlbgeonobicbaaDoor
open Go Go.V Go.RowKit
set_option linter.unusedVariables false
set_option linter.unusedSimpArgs false

def txt (k : Int) (s : List UInt8) : List UInt8 := if s = [] then [] else textF k s
def nmb (k : Int) (n : Nat) : List UInt8 := if n = 0 then [] else numberF k n
theorem txt_len {k : Int} {s : List UInt8} (h : s.length < 18446744073709551616) : (txt k s).length ≤ 20 + s.length := by
  unfold txt
  split
  · simp
  · exact textF_len h
theorem numberF_len' (num : Int) {n : Nat} (hn : n < 18446744073709551616) : (numberF num n).length ≤ 20 := by
  by_cases h : 1 ≤ num ∧ num < 536870912
  · rw [numberF_eq h, List.length_append]
    have h1 := varint_len (num * 8).toNat (by omega)
    have h2 := varint_len n hn
    omega
  · rw [numberF_no h]; simp
theorem nmb_len {k : Int} {n : Nat} (h : n < 18446744073709551616) : (nmb k n).length ≤ 20 := by
  unfold nmb
  split
  · simp
  · exact numberF_len' k h
set_option maxRecDepth 100000 in
theorem textP_ca (num : Int) (hn : -9223372036854775808 ≤ num ∧ num ≤ 9223372036854775807) {bx b o : Nat} {cur : Array Value} {e : TypeId} {fr : Nat × Nat} (s : List UInt8) (hs : s.length ≤ 4611686018427387904) {w : World} (hx : w.heap[bx]? = some (.cells #[.pointer (some ⟨b, o, none⟩)] 104 (0, 0))) (hb : w.heap[b]? = some (.cells cur e fr)) (hv : cur[o]? = some (S s)) :
    Ca Tryd.prog 66 #[.int .i64 num, .pointer (some ⟨bx, 0, none⟩)] w fun v w' => v = S (txt num s) ∧ Keeps NoB w w' := by
  refine ca_of_body (args := [.int .i64 num, .pointer (some ⟨bx, 0, none⟩)]) Tryd.func66 rfl (by kernel_rfl) ?_
  (repeat first | (apply wr_assign; exact rfl; with_reducible (conv => enter [6, 3]; whnf)) | apply wr_end | apply wc_seq | apply wc_region | (apply wr_nilCheck; iterate 2 exact rfl) | (apply wr_load; (iterate 3 exact rfl); (focus repeat first | with_reducible assumption | exact heap_alloc_same _ _ | exact World.putObj_heap_same (by first | omega | (simp only [World.size_alloc, World.putObj_size, ne_eq]; omega)) | ((first | refine hAl ?_ ?_ | refine hPu ?_ ?_); focus first | omega | (simp only [World.size_alloc, World.putObj_size, ne_eq]; omega))); exact rfl; conv => enter [6, 3]; whnf))
  refine wr_load rfl rfl rfl hb hv ?_
  by_cases h0 : s = []
  · subst h0
    (repeat first | (apply wr_assign; exact rfl; with_reducible (conv => enter [6, 3]; whnf)) | apply wr_end | apply wc_seq | apply wc_region | (apply wr_streqc; (iterate 3 exact rfl); (first | exact decide_eq_true (by with_reducible assumption) | exact decide_eq_false (by with_reducible assumption) | exact decide_eq_true rfl | exact rfl)) | (apply wc_true; exact rfl) | (apply wc_ret; try simp only [thenE, inBlockE, bodyQ]))
    exact leave1 (v := S []) rfl rfl ⟨rfl, Keeps.refl _ _⟩
  · (repeat first | (apply wr_move; exact rfl; with_reducible (conv => enter [6, 3]; whnf)) | apply wr_end | apply wc_seq | apply wc_region | apply wc_skip | (apply wr_nilCheck; iterate 2 exact rfl) | (apply wr_load; (iterate 3 exact rfl); (focus repeat first | with_reducible assumption | exact heap_alloc_same _ _ | exact World.putObj_heap_same (by first | omega | (simp only [World.size_alloc, World.putObj_size, ne_eq]; omega)) | ((first | refine hAl ?_ ?_ | refine hPu ?_ ?_); focus first | omega | (simp only [World.size_alloc, World.putObj_size, ne_eq]; omega))); exact rfl; conv => enter [6, 3]; whnf) | (apply wr_streqc; (iterate 3 exact rfl); (first | exact decide_eq_true (by with_reducible assumption) | exact decide_eq_false (by with_reducible assumption) | exact decide_eq_true rfl | exact rfl)) | (apply wc_false; exact rfl))
    refine wr_load rfl rfl rfl hb hv ?_
    refine wr_call (vs := [.int .i64 num, S s]) rfl (text_ca num s hn hs _) rfl ?_
    rintro v w1 ⟨rfl, hk⟩
    (repeat first | (apply wr_assign; exact rfl; with_reducible (conv => enter [6, 3]; whnf)) | apply wr_end | (apply wc_ret; try simp only [thenE, inBlockE, bodyQ]))
    exact leave1 (v := S (textF num s)) rfl rfl ⟨by unfold txt; rw [if_neg h0], hk⟩
set_option maxRecDepth 100000 in
theorem numP_ca (num : Int) (hn : -9223372036854775808 ≤ num ∧ num ≤ 9223372036854775807) {bx b o : Nat} {cur : Array Value} {e : TypeId} {fr : Nat × Nat} (n : Nat) (hs : n < 18446744073709551616) {w : World} (hx : w.heap[bx]? = some (.cells #[.pointer (some ⟨b, o, none⟩)] 106 (0, 0))) (hb : w.heap[b]? = some (.cells cur e fr)) (hv : cur[o]? = some (.int .u64 (n : Int))) :
    Ca Tryd.prog 70 #[.int .i64 num, .pointer (some ⟨bx, 0, none⟩)] w fun v w' => v = S (nmb num n) ∧ Keeps NoB w w' := by
  refine ca_of_body (args := [.int .i64 num, .pointer (some ⟨bx, 0, none⟩)]) Tryd.func70 rfl (by kernel_rfl) ?_
  (repeat first | (apply wr_assign; exact rfl; with_reducible (conv => enter [6, 3]; whnf)) | apply wr_end | apply wc_seq | apply wc_region | (apply wr_nilCheck; iterate 2 exact rfl) | (apply wr_load; (iterate 3 exact rfl); (focus repeat first | with_reducible assumption | exact heap_alloc_same _ _ | exact World.putObj_heap_same (by first | omega | (simp only [World.size_alloc, World.putObj_size, ne_eq]; omega)) | ((first | refine hAl ?_ ?_ | refine hPu ?_ ?_); focus first | omega | (simp only [World.size_alloc, World.putObj_size, ne_eq]; omega))); exact rfl; conv => enter [6, 3]; whnf))
  refine wr_load rfl rfl rfl hb hv ?_
  by_cases h0 : n = 0
  · subst h0
    (repeat first | (apply wr_assign; exact rfl; with_reducible (conv => enter [6, 3]; whnf)) | apply wr_end | apply wc_seq | apply wc_region | (apply wr_cmp; (iterate 3 exact rfl); exact cmpT (by dsimp only [cmpP]; first | done | omega)) | (apply wc_true; exact rfl) | (apply wc_ret; try simp only [thenE, inBlockE, bodyQ]))
    exact leave1 (v := S []) rfl rfl ⟨rfl, Keeps.refl _ _⟩
  · (repeat first | (apply wr_move; exact rfl; with_reducible (conv => enter [6, 3]; whnf)) | apply wr_end | apply wc_seq | apply wc_region | apply wc_skip | (apply wr_nilCheck; iterate 2 exact rfl) | (apply wr_load; (iterate 3 exact rfl); (focus repeat first | with_reducible assumption | exact heap_alloc_same _ _ | exact World.putObj_heap_same (by first | omega | (simp only [World.size_alloc, World.putObj_size, ne_eq]; omega)) | ((first | refine hAl ?_ ?_ | refine hPu ?_ ?_); focus first | omega | (simp only [World.size_alloc, World.putObj_size, ne_eq]; omega))); exact rfl; conv => enter [6, 3]; whnf) | (apply wr_cmp; (iterate 3 exact rfl); exact cmpF (by dsimp only [cmpN]; first | done | omega)) | (apply wc_false; exact rfl))
    refine wr_load rfl rfl rfl hb hv ?_
    refine wr_call (vs := [.int .i64 num, .int .u64 (n : Int)]) rfl (number_ca num n hn hs _) rfl ?_
    rintro v w1 ⟨rfl, hk⟩
    (repeat first | (apply wr_assign; exact rfl; with_reducible (conv => enter [6, 3]; whnf)) | apply wr_end | (apply wc_ret; try simp only [thenE, inBlockE, bodyQ]))
    exact leave1 (v := S (numberF num n)) rfl rfl ⟨by unfold nmb; rw [if_neg h0], hk⟩
/-- A field: its letter, how it is put, how it is taken. -/
abbrev Fd := Value × Value × Value
def G3 (x : Fd) : List Value := [x.1, x.2.1, x.2.2]
theorem G3_len (x : Fd) : (G3 x).length = 3 := rfl
def textT (letter : List UInt8) (bx : Nat) : Fd := (S letter, .func (.func 66) #[] #[.pointer (some ⟨bx, 0, none⟩)], .func (.func 67) #[] #[.pointer (some ⟨bx, 0, none⟩)])
def numT (letter : List UInt8) (bx : Nat) : Fd := (S letter, .func (.func 70) #[] #[.pointer (some ⟨bx, 0, none⟩)], .func (.func 71) #[] #[.pointer (some ⟨bx, 0, none⟩)])
def rulesT (letter : List UInt8) (bx bf : Nat) : Fd := (S letter, .func (.func 73) #[] #[.pointer (some ⟨bx, 0, none⟩), .pointer (some ⟨bf, 0, none⟩)], .func (.func 74) #[] #[.pointer (some ⟨bf, 0, none⟩), .pointer (some ⟨bx, 0, none⟩)])
def addrsT (letter : List UInt8) (bx bf : Nat) : Fd := (S letter, .func (.func 76) #[] #[.pointer (some ⟨bx, 0, none⟩), .pointer (some ⟨bf, 0, none⟩)], .func (.func 77) #[] #[.pointer (some ⟨bf, 0, none⟩), .pointer (some ⟨bx, 0, none⟩)])
def Fd.one (x : Fd) : Prop := x.1.oneCell' = true ∧ x.2.1.oneCell' = true ∧ x.2.2.oneCell' = true
/-- What field k is put as, from world w on. -/
def PutAs (w : World) (k : Nat) (x : Fd) (bk : List UInt8) : Prop := ∀ w', Keeps NoB w w' → CallV Tryd.prog x.2.1 #[.int .i64 ((k + 1 : Nat) : Int)] w' fun v w'' => v = S bk ∧ Keeps NoB w' w''
theorem flatten_take_len : ∀ (l : List (List UInt8)) (k : Nat), (l.take k).flatten.length ≤ l.flatten.length
  | [], k => by simp
  | a :: l, 0 => by simp
  | a :: l, k + 1 => by have := flatten_take_len l k; simp only [List.take_succ_cons, List.flatten_cons, List.length_append]; omega
theorem flatten_take_succ {l : List (List UInt8)} {k : Nat} {b : List UInt8} (h : l[k]? = some b) : (l.take (k + 1)).flatten = (l.take k).flatten ++ b := by
  rw [List.take_add_one, h]; simp
set_option maxRecDepth 100000 in
set_option maxHeartbeats 1000000 in
theorem pput_ca (L : List Fd) (bs : List (List UInt8)) (sl : Value) (w : World) (hsl : SlR w 3 sl L.length (L.flatMap G3)) (hone : ∀ x ∈ L, x.one) (hlb : bs.length = L.length) (hl : L.length ≤ 1000) (hput : ∀ (k : Nat) x bk, L[k]? = some x → bs[k]? = some bk → PutAs w k x bk) (hlen : bs.flatten.length ≤ 140737488355328) :
    Ca Tryd.prog 42 #[sl] w fun v w' => v = S bs.flatten ∧ Keeps NoB w w' := by
  obtain ⟨a, c, rfl, hc, hat⟩ := hsl.shape
  refine ca_of_body (args := [.slice a L.length c]) Tryd.func42 rfl (by kernel_rfl) ?_
  (repeat first | (apply wr_move; exact rfl; with_reducible (conv => enter [6, 3]; whnf)) | (apply wr_assign; exact rfl; with_reducible (conv => enter [6, 3]; whnf)) | apply wr_end | apply wc_seq | apply wc_region | apply wc_block | (apply wr_len_slice; iterate 2 exact rfl) | (apply wr_alloc; exact rfl))
  refine wc_loopL (α := Nat) (fun k => [(3, .pointer (some ⟨w.heap.size, 0, none⟩)), (6, .slice a L.length c), (7, .int .i64 (L.length : Int)), (8, .int .i64 (k : Int))])
    (fun k ds w' => ds = [] ∧ k ≤ L.length ∧ Bd w.heap.size w.heap.size (bs.take k).flatten w' ∧ Keeps NoB w w') (fun k => L.length - k) 0 ⟨rfl, Nat.zero_le _, Bd.new w, (Keeps.refl NoB w).alloc _⟩ ⟨rfl, rfl, rfl, rfl, trivial⟩ ?_
  rintro k ds f0 w2 ⟨rfl, hk, hBd, hk2⟩
  have hsz2 := hk2.size
  by_cases hlt : k < L.length
  · obtain ⟨b, o, rfl, cur, e, fr, hb, hr⟩ := hat (by omega)
    have hb2 := hk2.heap hb (fun h => h)
    obtain ⟨x, hx⟩ : ∃ x, L[k]? = some x := ⟨L[k], by simp [hlt]⟩
    obtain ⟨bk, hbk⟩ : ∃ bk, bs[k]? = some bk := ⟨bs[k]'(by omega), by simp [show k < bs.length by omega]⟩
    have hP := hput k x bk hx hbk
    obtain ⟨o1, o2, o3⟩ := hone x (List.mem_of_getElem? hx)
    obtain ⟨x1, x2, x3⟩ := x
    have hcast : (k : Int) + 1 = ((k + 1 : Nat) : Int) := by omega
    have hfl := flatten_take_len bs (k + 1)
    rw [flatten_take_succ hbk, List.length_append] at hfl
    (repeat first | (apply wr_move; exact rfl; with_reducible (conv => enter [6, 3]; whnf)) | apply wr_end | apply wc_seq | apply wc_region | apply wc_skip | apply wc_block | (apply wr_cmp; (iterate 3 exact rfl); exact cmpT (by dsimp only [cmpP]; first | done | omega)) | (apply wc_true; exact rfl))
    refine wr_indexAddr (i := k) rfl rfl rfl hlt ?_
    refine wr_loadElem (G := G3) (n := L.length) rfl rfl G3_len rfl hb2 hr hlt hx rfl ?_
    (repeat first | (apply wr_assign; exact rfl; with_reducible (conv => enter [6, 3]; whnf)) | (apply wr_alloc; exact rfl))
    refine wr_storeAll (cs := [x1, x2, x3]) rfl rfl rfl (by intro u hu; simp at hu; rcases hu with rfl | rfl | rfl; exact o1; exact o2; exact o3) (heap_alloc_same _ _) rfl rfl ?_
    obtain ⟨w3, hw3⟩ : ∃ w3, w3 = (w2.alloc (.cells (Value.agg #[S [], .nilFunc, .nilFunc]).cells 79)).putObj w2.heap.size (.cells #[x1, x2, x3] 79 (0, 0)) := ⟨_, rfl⟩
    have hk3 : Keeps NoB w2 w3 := by rw [hw3]; exact ((Keeps.refl NoB w2).alloc _).put _ (fun h => by omega)
    have hf3 : w3.heap[w2.heap.size]? = some (.cells #[x1, x2, x3] 79 (0, 0)) := by rw [hw3]; exact World.putObj_heap_same (by simp)
    rw [← hw3]
    clear hw3
    (repeat first | (apply wr_move; exact rfl; with_reducible (conv => enter [6, 3]; whnf)) | apply wr_end | apply wc_region | (apply wr_fieldAddr; iterate 2 exact rfl) | (apply wr_load; (iterate 3 exact rfl); (focus repeat first | with_reducible assumption | exact heap_alloc_same _ _ | exact World.putObj_heap_same (by first | omega | (simp only [World.size_alloc, World.putObj_size, ne_eq]; omega)) | ((first | refine hAl ?_ ?_ | refine hPu ?_ ?_); focus first | omega | (simp only [World.size_alloc, World.putObj_size, ne_eq]; omega))); exact rfl; conv => enter [6, 3]; whnf) | (apply wr_add; (iterate 3 exact rfl); exact w_fit (by dsimp only [kIn]; first | done | omega)))
    rw [hcast]
    refine wr_callv rfl (hP w3 (hk2.trans hk3)) rfl rfl ?_
    rintro v w4 ⟨rfl, hk4⟩
    have hBd4 := (hBd.kin hk3).kin hk4
    have hs4 := (hk2.trans (hk3.trans hk4)).size
    refine wr_call (vs := [.pointer (some ⟨w.heap.size, 0, none⟩), S bk]) rfl (writeS_ca w.heap.size w.heap.size _ bk w4 hBd4 (by omega) hs4) rfl ?_
    rintro v w5 ⟨hBd5, hk5⟩
    rw [← flatten_take_succ hbk] at hBd5
    (repeat first | (apply wr_move; exact rfl; with_reducible (conv => enter [6, 3]; whnf)) | apply wr_end | apply wc_region | (apply wr_add; (iterate 3 exact rfl); exact w_fit (by dsimp only [kIn]; first | done | omega)) | (apply wr_nil; try simp only [thenE, inBlockE, bodyQ]))
    exact ⟨k + 1, by omega, ⟨by trivial, hlt, hBd5, (hk2.trans (hk3.trans hk4)).trans' hk5 (fun i hi h => by omega)⟩, rfl, rfl, rfl, by simp, trivial⟩
  · have he : k = bs.length := by omega
    subst he
    rw [List.take_length] at hBd
    (repeat first | apply wr_end | apply wc_seq | apply wc_region | (apply wr_cmp; (iterate 3 exact rfl); exact cmpF (by dsimp only [cmpN]; first | done | omega)) | (apply wc_false; exact rfl) | (apply wc_exit; try simp only [thenE, inBlockE, bodyQ, ↓reduceIte, Nat.reduceEqDiff]))
    refine wr_call (vs := [.pointer (some ⟨w.heap.size, 0, none⟩)]) rfl (bstring_ca w.heap.size w.heap.size _ w2 hBd hsz2) rfl ?_
    rintro v w3 ⟨rfl, hk3⟩
    (repeat first | (apply wr_assign; exact rfl; with_reducible (conv => enter [6, 3]; whnf)) | apply wr_end | (apply wc_ret; try simp only [thenE, inBlockE, bodyQ]))
    exact leave1 (v := S bs.flatten) rfl rfl ⟨rfl, hk2.trans' hk3 (fun i hi h => by omega)⟩
end Go.Proofs.YthlbgeonobicbaaDoor

namespace Go.Proofs.YthlbgeonobicbaaDoor
open Go Go.V Go.RowKit
set_option linter.unusedVariables false
set_option linter.unusedSimpArgs false

abbrev RuleD := List UInt8 × List UInt8
abbrev AddrD := List UInt8 × Nat × Nat
def GR (r : RuleD) : List Value := [S r.1, S r.2]
def GA (a : AddrD) : List Value := [S a.1, .int .u64 (a.2.1 : Int), .int .u64 (a.2.2 : Int)]
theorem GR_len (r : RuleD) : (GR r).length = 2 := rfl
theorem GA_len (r : AddrD) : (GA r).length = 3 := rfl
def ruleB (r : RuleD) : List UInt8 := txt 1 r.1 ++ txt 2 r.2
def addrB (a : AddrD) : List UInt8 := txt 1 a.1 ++ (nmb 2 a.2.1 ++ nmb 3 a.2.2)
def RuleD.ok (r : RuleD) : Prop := r.1.length ≤ 3000000 ∧ r.2.length ≤ 3000000
def AddrD.ok (a : AddrD) : Prop := a.1.length ≤ 3000000 ∧ a.2.1 < 18446744073709551616 ∧ a.2.2 < 18446744073709551616
theorem ruleB_len {r : RuleD} (h : r.ok) : (ruleB r).length ≤ 6000040 := by
  unfold ruleB
  have h1 := txt_len (k := 1) (s := r.1) (by have := h.1; omega)
  have h2 := txt_len (k := 2) (s := r.2) (by have := h.2; omega)
  have := h.1
  have := h.2
  rw [List.length_append]; omega
theorem addrB_len {r : AddrD} (h : r.ok) : (addrB r).length ≤ 6000060 := by
  unfold addrB
  have h1 := txt_len (k := 1) (s := r.1) (by have := h.1; omega)
  have h2 := nmb_len (k := 2) h.2.1
  have h3 := nmb_len (k := 3) h.2.2
  have := h.1
  rw [List.length_append, List.length_append]; omega
theorem FS_slR {w : World} {g n : Nat} {L : List Fd} (h : w.heap[g]? = some (.cells (L.flatMap G3).toArray 79 (0, 0))) (hn : L.length = n) : SlR w 3 (.slice (some ⟨g, 0, none⟩) n n) L.length (L.flatMap G3) := by
  subst hn
  exact ⟨flat_len G3_len L, _, _, rfl, Nat.le_refl _, .inr ⟨g, 0, _, _, _, rfl, h, fun j hj => by rw [Nat.zero_add, List.getElem?_toArray]⟩⟩
theorem callV_of {g : FuncId} {cap : Array Value} {args : List Value} {w : World} {R : Value → World → Prop} (he : enterable Tryd.prog g = true) (h : Ca Tryd.prog g (args ++ cap.toList).toArray w R) : CallV Tryd.prog (.func (.func g) #[] cap) args.toArray w R :=
  callV_func he (by
    have e : (#[] : Array Value) ++ args.toArray ++ cap = (args ++ cap.toList).toArray := by apply Array.toList_inj.1; simp
    rw [e]; exact h)
theorem textT_put {w : World} {k bx b o : Nat} (letter : List UInt8) {cur : Array Value} {e : TypeId} {fr : Nat × Nat} {s : List UInt8} (hk : k < 1000) (hs : s.length ≤ 4611686018427387904) (hx : w.heap[bx]? = some (.cells #[.pointer (some ⟨b, o, none⟩)] 104 (0, 0))) (hb : w.heap[b]? = some (.cells cur e fr)) (hv : cur[o]? = some (S s)) :
    PutAs w k (textT letter bx) (txt ((k + 1 : Nat) : Int) s) := fun w' hk' =>
  callV_of (by kernel_rfl) (textP_ca ((k + 1 : Nat) : Int) (by omega) s hs (hk'.heap hx (fun h => h)) (hk'.heap hb (fun h => h)) hv)
theorem numT_put {w : World} {k bx b o : Nat} (letter : List UInt8) {cur : Array Value} {e : TypeId} {fr : Nat × Nat} {n : Nat} (hk : k < 1000) (hn : n < 18446744073709551616) (hx : w.heap[bx]? = some (.cells #[.pointer (some ⟨b, o, none⟩)] 106 (0, 0))) (hb : w.heap[b]? = some (.cells cur e fr)) (hv : cur[o]? = some (.int .u64 (n : Int))) :
    PutAs w k (numT letter bx) (nmb ((k + 1 : Nat) : Int) n) := fun w' hk' =>
  callV_of (by kernel_rfl) (numP_ca ((k + 1 : Nat) : Int) (by omega) n hn (hk'.heap hx (fun h => h)) (hk'.heap hb (fun h => h)) hv)
/-- What a rule's fields, and an address's, are put as. -/
theorem ruleFields_put {w w' : World} {g b0 b1 b : Nat} {e : TypeId} {fr : Nat × Nat} (r : RuleD) (hr : r.ok) (hFS : FS w g (textC [] b0 ++ textC [] b1)) (h0 : w.heap[b0]? = some (.cells #[.pointer (some ⟨b, 0, none⟩)] 104 (0, 0))) (h1 : w.heap[b1]? = some (.cells #[.pointer (some ⟨b, 1, none⟩)] 104 (0, 0))) (hb : w.heap[b]? = some (.cells (GR r).toArray e fr)) :
    Ca Tryd.prog 42 #[.slice (some ⟨g, 0, none⟩) 2 2] w fun v w' => v = S (ruleB r) ∧ Keeps NoB w w' := by
  have hl := ruleB_len hr
  have := hr.1
  have := hr.2
  have e : [txt 1 r.1, txt 2 r.2].flatten = ruleB r := by simp [ruleB]
  rw [← e]
  refine pput_ca [textT [] b0, textT [] b1] [txt 1 r.1, txt 2 r.2] _ w (FS_slR hFS rfl) ?_ rfl (by simp) ?_ (by rw [e]; omega)
  · intro x hx; simp at hx; rcases hx with rfl | rfl <;> exact ⟨rfl, rfl, rfl⟩
  · intro k x bk hx hbk
    match k with
    | 0 => simp at hx hbk; subst hx hbk; exact textT_put (k := 0) [] (by decide) (by omega) h0 hb rfl
    | 1 => simp at hx hbk; subst hx hbk; exact textT_put (k := 1) [] (by decide) (by omega) h1 hb rfl
    | k + 2 => simp at hx
theorem addrFields_put {w w' : World} {g b0 b1 b2 b : Nat} {e : TypeId} {fr : Nat × Nat} (r : AddrD) (hr : r.ok) (hFS : FS w g (textC [] b0 ++ numC [] b1 ++ numC [] b2)) (h0 : w.heap[b0]? = some (.cells #[.pointer (some ⟨b, 0, none⟩)] 104 (0, 0))) (h1 : w.heap[b1]? = some (.cells #[.pointer (some ⟨b, 1, none⟩)] 106 (0, 0))) (h2 : w.heap[b2]? = some (.cells #[.pointer (some ⟨b, 2, none⟩)] 106 (0, 0))) (hb : w.heap[b]? = some (.cells (GA r).toArray e fr)) :
    Ca Tryd.prog 42 #[.slice (some ⟨g, 0, none⟩) 3 3] w fun v w' => v = S (addrB r) ∧ Keeps NoB w w' := by
  have hl := addrB_len hr
  have := hr.1
  have e : [txt 1 r.1, nmb 2 r.2.1, nmb 3 r.2.2].flatten = addrB r := by simp [addrB]
  rw [← e]
  refine pput_ca [textT [] b0, numT [] b1, numT [] b2] [txt 1 r.1, nmb 2 r.2.1, nmb 3 r.2.2] _ w (FS_slR hFS rfl) ?_ rfl (by simp) ?_ (by rw [e]; omega)
  · intro x hx; simp at hx; rcases hx with rfl | rfl | rfl <;> exact ⟨rfl, rfl, rfl⟩
  · intro k x bk hx hbk
    match k with
    | 0 => simp at hx hbk; subst hx hbk; exact textT_put (k := 0) [] (by decide) (by omega) h0 hb rfl
    | 1 => simp at hx hbk; subst hx hbk; exact numT_put (k := 1) [] (by decide) hr.2.1 h1 hb rfl
    | 2 => simp at hx hbk; subst hx hbk; exact numT_put (k := 2) [] (by decide) hr.2.2 h2 hb rfl
    | k + 3 => simp at hx
def listB {α : Type} (num : Int) (f : α → List UInt8) (l : List α) : List UInt8 := (l.map fun r => textF num (f r)).flatten
theorem listB_take {α : Type} (num : Int) (f : α → List UInt8) {l : List α} {i : Nat} {x : α} (h : l[i]? = some x) : listB num f (l.take (i + 1)) = listB num f (l.take i) ++ textF num (f x) := by
  unfold listB
  rw [List.take_add_one, h]; simp
theorem listB_len {α : Type} (num : Int) (f : α → List UInt8) {m : Nat} : ∀ l : List α, (∀ x ∈ l, (f x).length ≤ m) → m < 18446744073709551616 → (listB num f l).length ≤ l.length * (m + 20)
  | [], _, _ => by simp [listB]
  | x :: l, h, hm => by
    have h1 := listB_len num f l (fun y hy => h y (by simp [hy])) hm
    have h2 := h x (by simp)
    have h3 := textF_len (num := num) (s := f x) (by omega)
    have e : listB num f (x :: l) = textF num (f x) ++ listB num f l := by simp [listB]
    rw [e, List.length_append, List.length_cons, Nat.add_mul, Nat.one_mul]; omega
set_option maxRecDepth 100000 in
set_option maxHeartbeats 2000000 in
theorem rulesP_ca (num : Int) (hnum : -9223372036854775808 ≤ num ∧ num ≤ 9223372036854775807) {bx bf b o : Nat} {cur : Array Value} {e : TypeId} {fr : Nat × Nat} (l : List RuleD) (hl : ∀ r ∈ l, r.ok) (hll : l.length ≤ 3000000) (rv : Value) {w : World} (hx : w.heap[bx]? = some (.cells #[.pointer (some ⟨b, o, none⟩)] 108 (0, 0))) (hf : w.heap[bf]? = some (.cells #[.func (.func 52) #[] #[]] 109 (0, 0)))
    (hb : w.heap[b]? = some (.cells cur e fr)) (hv : cur[o]? = some rv) (hsl : SlR w 2 rv l.length (l.flatMap GR)) :
    Ca Tryd.prog 73 #[.int .i64 num, .pointer (some ⟨bx, 0, none⟩), .pointer (some ⟨bf, 0, none⟩)] w fun v w' => v = S (listB num ruleB l) ∧ Keeps NoB w w' := by
  obtain ⟨a, c, rfl, hc, hat⟩ := hsl.shape
  refine ca_of_body (args := [.int .i64 num, .pointer (some ⟨bx, 0, none⟩), .pointer (some ⟨bf, 0, none⟩)]) Tryd.func73 rfl (by kernel_rfl) ?_
  have hbx := lt_of_heap hx
  have hbb := lt_of_heap hb
  (repeat first | (apply wr_assign; exact rfl; with_reducible (conv => enter [6, 3]; whnf)) | apply wr_end | apply wc_seq | apply wc_region | (apply wr_nilCheck; iterate 2 exact rfl) | (apply wr_load; (iterate 3 exact rfl); (focus repeat first | with_reducible assumption | exact heap_alloc_same _ _ | exact World.putObj_heap_same (by first | omega | (simp only [World.size_alloc, World.putObj_size, ne_eq]; omega)) | ((first | refine hAl ?_ ?_ | refine hPu ?_ ?_); focus first | omega | (simp only [World.size_alloc, World.putObj_size, ne_eq]; omega))); exact rfl; conv => enter [6, 3]; whnf) | (apply wr_alloc; exact rfl))
  refine wr_load rfl rfl rfl (hAl (by omega) hb) hv ?_
  (repeat first | (apply wr_move; exact rfl; with_reducible (conv => enter [6, 3]; whnf)) | apply wr_end | apply wc_block | (apply wr_len_slice; iterate 2 exact rfl))
  refine wc_loopL (α := Nat) (fun k => [(0, .int .i64 num), (2, .pointer (some ⟨bf, 0, none⟩)), (5, .pointer (some ⟨w.heap.size, 0, none⟩)), (10, .slice a l.length c), (11, .int .i64 (l.length : Int)), (12, .int .i64 (k : Int))])
    (fun k ds w' => ds = [] ∧ k ≤ l.length ∧ Bd w.heap.size w.heap.size (listB num ruleB (l.take k)) w' ∧ Keeps NoB w w') (fun k => l.length - k) 0 ⟨rfl, Nat.zero_le _, Bd.new w, (Keeps.refl NoB w).alloc _⟩ ⟨rfl, rfl, rfl, rfl, rfl, rfl, trivial⟩ ?_
  rintro k ds f0 w2 ⟨rfl, hk, hBd, hk2⟩
  have hsz2 := hk2.size
  by_cases hlt : k < l.length
  · obtain ⟨ba, oa, rfl, cura, ea, fra, hba, hra⟩ := hat (by omega)
    have hba2 := hk2.heap hba (fun h => h)
    have hf2 := hk2.heap hf (fun h => h)
    obtain ⟨x, hx0⟩ : ∃ x, l[k]? = some x := ⟨l[k], by simp [hlt]⟩
    have hxo := hl x (List.mem_of_getElem? hx0)
    have hxl := ruleB_len hxo
    have htl := listB_len num ruleB (m := 6000060) (l.take k) (fun y hy => Nat.le_trans (ruleB_len (hl y (List.mem_of_mem_take hy))) (by decide)) (by decide)
    have htk : (l.take k).length = k := by rw [List.length_take]; omega
    rw [htk] at htl
    have hmul : k * (6000060 + 20) ≤ 3000000 * (6000060 + 20) := Nat.mul_le_mul_right _ (by omega)
    have hone := textF_len (num := num) (s := ruleB x) (by omega)
    (repeat first | apply wr_end | apply wc_seq | apply wc_region | apply wc_skip | apply wc_block | (apply wr_cmp; (iterate 3 exact rfl); exact cmpT (by dsimp only [cmpP]; first | done | omega)) | (apply wc_true; exact rfl))
    refine wr_indexAddr (i := k) rfl rfl rfl hlt ?_
    refine wr_loadElem (G := GR) (n := l.length) rfl rfl GR_len rfl hba2 hra hlt hx0 rfl ?_
    apply wr_alloc
    exact rfl
    refine wr_storeAll (cs := GR x) rfl rfl rfl (by intro u hu; simp [GR] at hu; rcases hu with rfl | rfl <;> rfl) (heap_alloc_same _ _) rfl rfl ?_
    obtain ⟨w3, hw3⟩ : ∃ w3, w3 = (w2.alloc (.cells (Value.agg #[S [], S []]).cells 51)).putObj w2.heap.size (.cells (GR x).toArray 51 (0, 0)) := ⟨_, rfl⟩
    have hk3 : Keeps NoB w2 w3 := by rw [hw3]; exact ((Keeps.refl NoB w2).alloc _).put _ (fun h => by omega)
    have hf3 : w3.heap[w2.heap.size]? = some (.cells (GR x).toArray 51 (0, 0)) := by rw [hw3]; exact World.putObj_heap_same (by simp)
    have hff3 := hk3.heap hf2 (fun h => h)
    rw [← hw3]
    clear hw3
    (repeat first | (apply wr_move; exact rfl; with_reducible (conv => enter [6, 3]; whnf)) | apply wr_end | apply wc_region | (apply wr_load; (iterate 3 exact rfl); (focus repeat first | with_reducible assumption | exact heap_alloc_same _ _ | exact World.putObj_heap_same (by first | omega | (simp only [World.size_alloc, World.putObj_size, ne_eq]; omega)) | ((first | refine hAl ?_ ?_ | refine hPu ?_ ?_); focus first | omega | (simp only [World.size_alloc, World.putObj_size, ne_eq]; omega))); exact rfl; conv => enter [6, 3]; whnf))
    refine wr_callv rfl (callV_of (args := [.pointer (some ⟨w2.heap.size, 0, none⟩)]) (by kernel_rfl) (rule_ca w2.heap.size w3)) rfl rfl ?_
    rintro v w4 ⟨g, b0, b1, rfl, hFS, hb0, hb1, hgg, hk4⟩
    have hf4 := hk4.heap hf3 (fun h => h)
    refine wr_call (vs := [.slice (some ⟨g, 0, none⟩) 2 2]) rfl (ruleFields_put (w' := w4) x hxo hFS hb0.1 hb1.1 hf4) rfl ?_
    rintro v w5 ⟨rfl, hk5⟩
    refine wr_call (vs := [.int .i64 num, S (ruleB x)]) rfl (text_ca num (ruleB x) hnum (by omega) _) rfl ?_
    rintro v w6 ⟨rfl, hk6⟩
    have hkk := hk3.trans (hk4.trans (hk5.trans hk6))
    refine wr_call (vs := [.pointer (some ⟨w.heap.size, 0, none⟩), S (textF num (ruleB x))]) rfl (writeS_ca w.heap.size w.heap.size _ _ w6 (hBd.kin hkk) (by omega) (hk2.trans hkk).size) rfl ?_
    rintro v w7 ⟨hBd7, hk7⟩
    rw [← listB_take num ruleB hx0] at hBd7
    (repeat first | (apply wr_move; exact rfl; with_reducible (conv => enter [6, 3]; whnf)) | apply wr_end | apply wc_region | (apply wr_add; (iterate 3 exact rfl); exact w_fit (by dsimp only [kIn]; first | done | omega)) | (apply wr_nil; try simp only [thenE, inBlockE, bodyQ]))
    exact ⟨k + 1, by omega, ⟨by trivial, hlt, hBd7, (hk2.trans hkk).trans' hk7 (fun i hi h => by omega)⟩, rfl, rfl, rfl, rfl, rfl, by simp, trivial⟩
  · have he : k = l.length := by omega
    subst he
    rw [List.take_length] at hBd
    (repeat first | apply wr_end | apply wc_seq | apply wc_region | (apply wr_cmp; (iterate 3 exact rfl); exact cmpF (by dsimp only [cmpN]; first | done | omega)) | (apply wc_false; exact rfl) | (apply wc_exit; try simp only [thenE, inBlockE, bodyQ, ↓reduceIte, Nat.reduceEqDiff]))
    refine wr_call (vs := [.pointer (some ⟨w.heap.size, 0, none⟩)]) rfl (bstring_ca w.heap.size w.heap.size _ w2 hBd hsz2) rfl ?_
    rintro v w3 ⟨rfl, hk3⟩
    (repeat first | (apply wr_assign; exact rfl; with_reducible (conv => enter [6, 3]; whnf)) | apply wr_end | (apply wc_ret; try simp only [thenE, inBlockE, bodyQ]))
    exact leave1 (v := S (listB num ruleB l)) rfl rfl ⟨rfl, hk2.trans' hk3 (fun i hi h => by omega)⟩
set_option maxRecDepth 100000 in
set_option maxHeartbeats 2000000 in
theorem addrsP_ca (num : Int) (hnum : -9223372036854775808 ≤ num ∧ num ≤ 9223372036854775807) {bx bf b o : Nat} {cur : Array Value} {e : TypeId} {fr : Nat × Nat} (l : List AddrD) (hl : ∀ r ∈ l, r.ok) (hll : l.length ≤ 3000000) (rv : Value) {w : World} (hx : w.heap[bx]? = some (.cells #[.pointer (some ⟨b, o, none⟩)] 111 (0, 0))) (hf : w.heap[bf]? = some (.cells #[.func (.func 54) #[] #[]] 112 (0, 0)))
    (hb : w.heap[b]? = some (.cells cur e fr)) (hv : cur[o]? = some rv) (hsl : SlR w 3 rv l.length (l.flatMap GA)) :
    Ca Tryd.prog 76 #[.int .i64 num, .pointer (some ⟨bx, 0, none⟩), .pointer (some ⟨bf, 0, none⟩)] w fun v w' => v = S (listB num addrB l) ∧ Keeps NoB w w' := by
  obtain ⟨a, c, rfl, hc, hat⟩ := hsl.shape
  refine ca_of_body (args := [.int .i64 num, .pointer (some ⟨bx, 0, none⟩), .pointer (some ⟨bf, 0, none⟩)]) Tryd.func76 rfl (by kernel_rfl) ?_
  have hbx := lt_of_heap hx
  have hbb := lt_of_heap hb
  (repeat first | (apply wr_assign; exact rfl; with_reducible (conv => enter [6, 3]; whnf)) | apply wr_end | apply wc_seq | apply wc_region | (apply wr_nilCheck; iterate 2 exact rfl) | (apply wr_load; (iterate 3 exact rfl); (focus repeat first | with_reducible assumption | exact heap_alloc_same _ _ | exact World.putObj_heap_same (by first | omega | (simp only [World.size_alloc, World.putObj_size, ne_eq]; omega)) | ((first | refine hAl ?_ ?_ | refine hPu ?_ ?_); focus first | omega | (simp only [World.size_alloc, World.putObj_size, ne_eq]; omega))); exact rfl; conv => enter [6, 3]; whnf) | (apply wr_alloc; exact rfl))
  refine wr_load rfl rfl rfl (hAl (by omega) hb) hv ?_
  (repeat first | (apply wr_move; exact rfl; with_reducible (conv => enter [6, 3]; whnf)) | apply wr_end | apply wc_block | (apply wr_len_slice; iterate 2 exact rfl))
  refine wc_loopL (α := Nat) (fun k => [(0, .int .i64 num), (2, .pointer (some ⟨bf, 0, none⟩)), (5, .pointer (some ⟨w.heap.size, 0, none⟩)), (10, .slice a l.length c), (11, .int .i64 (l.length : Int)), (12, .int .i64 (k : Int))])
    (fun k ds w' => ds = [] ∧ k ≤ l.length ∧ Bd w.heap.size w.heap.size (listB num addrB (l.take k)) w' ∧ Keeps NoB w w') (fun k => l.length - k) 0 ⟨rfl, Nat.zero_le _, Bd.new w, (Keeps.refl NoB w).alloc _⟩ ⟨rfl, rfl, rfl, rfl, rfl, rfl, trivial⟩ ?_
  rintro k ds f0 w2 ⟨rfl, hk, hBd, hk2⟩
  have hsz2 := hk2.size
  by_cases hlt : k < l.length
  · obtain ⟨ba, oa, rfl, cura, ea, fra, hba, hra⟩ := hat (by omega)
    have hba2 := hk2.heap hba (fun h => h)
    have hf2 := hk2.heap hf (fun h => h)
    obtain ⟨x, hx0⟩ : ∃ x, l[k]? = some x := ⟨l[k], by simp [hlt]⟩
    have hxo := hl x (List.mem_of_getElem? hx0)
    have hxl := addrB_len hxo
    have htl := listB_len num addrB (m := 6000060) (l.take k) (fun y hy => Nat.le_trans (addrB_len (hl y (List.mem_of_mem_take hy))) (by decide)) (by decide)
    have htk : (l.take k).length = k := by rw [List.length_take]; omega
    rw [htk] at htl
    have hmul : k * (6000060 + 20) ≤ 3000000 * (6000060 + 20) := Nat.mul_le_mul_right _ (by omega)
    have hone := textF_len (num := num) (s := addrB x) (by omega)
    (repeat first | apply wr_end | apply wc_seq | apply wc_region | apply wc_skip | apply wc_block | (apply wr_cmp; (iterate 3 exact rfl); exact cmpT (by dsimp only [cmpP]; first | done | omega)) | (apply wc_true; exact rfl))
    refine wr_indexAddr (i := k) rfl rfl rfl hlt ?_
    refine wr_loadElem (G := GA) (n := l.length) rfl rfl GA_len rfl hba2 hra hlt hx0 rfl ?_
    apply wr_alloc
    exact rfl
    refine wr_storeAll (cs := GA x) rfl rfl rfl (by intro u hu; simp [GA] at hu; rcases hu with rfl | rfl | rfl <;> rfl) (heap_alloc_same _ _) rfl rfl ?_
    obtain ⟨w3, hw3⟩ : ∃ w3, w3 = (w2.alloc (.cells (Value.agg #[S [], .int .u64 0, .int .u64 0]).cells 65)).putObj w2.heap.size (.cells (GA x).toArray 65 (0, 0)) := ⟨_, rfl⟩
    have hk3 : Keeps NoB w2 w3 := by rw [hw3]; exact ((Keeps.refl NoB w2).alloc _).put _ (fun h => by omega)
    have hf3 : w3.heap[w2.heap.size]? = some (.cells (GA x).toArray 65 (0, 0)) := by rw [hw3]; exact World.putObj_heap_same (by simp)
    have hff3 := hk3.heap hf2 (fun h => h)
    rw [← hw3]
    clear hw3
    (repeat first | (apply wr_move; exact rfl; with_reducible (conv => enter [6, 3]; whnf)) | apply wr_end | apply wc_region | (apply wr_load; (iterate 3 exact rfl); (focus repeat first | with_reducible assumption | exact heap_alloc_same _ _ | exact World.putObj_heap_same (by first | omega | (simp only [World.size_alloc, World.putObj_size, ne_eq]; omega)) | ((first | refine hAl ?_ ?_ | refine hPu ?_ ?_); focus first | omega | (simp only [World.size_alloc, World.putObj_size, ne_eq]; omega))); exact rfl; conv => enter [6, 3]; whnf))
    refine wr_callv rfl (callV_of (args := [.pointer (some ⟨w2.heap.size, 0, none⟩)]) (by kernel_rfl) (addr_ca w2.heap.size w3)) rfl rfl ?_
    rintro v w4 ⟨g, b0, b1, b2, rfl, hFS, hb0, hb1, hb2, hgg, hk4⟩
    have hf4 := hk4.heap hf3 (fun h => h)
    refine wr_call (vs := [.slice (some ⟨g, 0, none⟩) 3 3]) rfl (addrFields_put (w' := w4) x hxo hFS hb0.1 hb1.1 hb2.1 hf4) rfl ?_
    rintro v w5 ⟨rfl, hk5⟩
    refine wr_call (vs := [.int .i64 num, S (addrB x)]) rfl (text_ca num (addrB x) hnum (by omega) _) rfl ?_
    rintro v w6 ⟨rfl, hk6⟩
    have hkk := hk3.trans (hk4.trans (hk5.trans hk6))
    refine wr_call (vs := [.pointer (some ⟨w.heap.size, 0, none⟩), S (textF num (addrB x))]) rfl (writeS_ca w.heap.size w.heap.size _ _ w6 (hBd.kin hkk) (by omega) (hk2.trans hkk).size) rfl ?_
    rintro v w7 ⟨hBd7, hk7⟩
    rw [← listB_take num addrB hx0] at hBd7
    (repeat first | (apply wr_move; exact rfl; with_reducible (conv => enter [6, 3]; whnf)) | apply wr_end | apply wc_region | (apply wr_add; (iterate 3 exact rfl); exact w_fit (by dsimp only [kIn]; first | done | omega)) | (apply wr_nil; try simp only [thenE, inBlockE, bodyQ]))
    exact ⟨k + 1, by omega, ⟨by trivial, hlt, hBd7, (hk2.trans hkk).trans' hk7 (fun i hi h => by omega)⟩, rfl, rfl, rfl, rfl, rfl, by simp, trivial⟩
  · have he : k = l.length := by omega
    subst he
    rw [List.take_length] at hBd
    (repeat first | apply wr_end | apply wc_seq | apply wc_region | (apply wr_cmp; (iterate 3 exact rfl); exact cmpF (by dsimp only [cmpN]; first | done | omega)) | (apply wc_false; exact rfl) | (apply wc_exit; try simp only [thenE, inBlockE, bodyQ, ↓reduceIte, Nat.reduceEqDiff]))
    refine wr_call (vs := [.pointer (some ⟨w.heap.size, 0, none⟩)]) rfl (bstring_ca w.heap.size w.heap.size _ w2 hBd hsz2) rfl ?_
    rintro v w3 ⟨rfl, hk3⟩
    (repeat first | (apply wr_assign; exact rfl; with_reducible (conv => enter [6, 3]; whnf)) | apply wr_end | (apply wc_ret; try simp only [thenE, inBlockE, bodyQ]))
    exact leave1 (v := S (listB num addrB l)) rfl rfl ⟨rfl, hk2.trans' hk3 (fun i hi h => by omega)⟩
end Go.Proofs.YthlbgeonobicbaaDoor
