/- A strings.Builder within a writer: WriteString, WriteByte, String. -/
import Derived.Test.YtjaojihogmnjhaaGreatDoorKd
import Derived.Test.YtjaojihogmnjhaaGreatDoorVJ
import Derived.Test.YtjaojihogmnjhaaGreatDoorShelf
namespace Go.Proofs.YtjaojihogmnjhaaGreatDoor
open Go Go.V Go.RowKit Go.Lib
set_option linter.unusedVariables false
set_option linter.unusedSimpArgs false
theorem callX_noEscape (x : Value) (w : World) : (callFunc 72 #[x]).run Tryz.prog w = .ok (.value x) w := by
  rw [@run_callFunc_extern Tryz.prog 72 _ Extern.AbiNoEscape.same Tryz.func72 (by kernel_rfl) (by kernel_rfl) (by kernel_rfl) (by kernel_rfl), run_noEscape]; rfl
abbrev BT : TypeId := 88
abbrev WT : TypeId := 90
abbrev Bd (B b : Nat) (l : List UInt8) (w : World) : Prop := IsBuilder WT 5 B b (bytesV l) w
theorem infoBT : ∃ j, Tryz.prog.info? BT = some j ∧ j.size = 2 := by
  have I : Info Tryz.prog BT (.agg #[.pointer none, .slice none 0 0]) 2 32 := inferInstance
  obtain ⟨i, h1, h2, h3, h4⟩ := I.parts
  exact ⟨i, h1, h3⟩
set_option maxRecDepth 100000 in
set_option maxHeartbeats 1000000 in
theorem copyCheck_ca (B b : Nat) (bs : List Value) (w : World) (h : IsBuilder WT 5 B b bs w) : Ca Tryz.prog 49 #[.pointer (some ⟨b, 0, none⟩)] w fun v w' => BuilderAt WT 5 B b (.pointer (some ⟨b, 0, none⟩)) bs w' ∧ Keeps (· = b) w w' := by
  obtain ⟨j, hj, hj2⟩ := infoBT
  refine ca_of_body (args := [.pointer (some ⟨b, 0, none⟩)]) Tryz.func49 rfl (by kernel_rfl) ?_
  rcases h with h | h
  · have hs := h.shape
    obtain ⟨hB, v, hb, ho, hne⟩ := h
    (repeat first | (apply wr_move; exact rfl; with_reducible (conv => enter [6, 3]; whnf)) | apply wc_seq | apply wc_region | (apply wr_fieldAddr; iterate 2 exact rfl) | (apply wr_nilCheck; iterate 2 exact rfl) | (apply wr_load; (iterate 3 exact rfl); (focus repeat first | with_reducible assumption | exact heap_alloc_same _ _ | exact World.putObj_heap_same (by first | omega | (simp only [World.size_alloc, World.putObj_size, ne_eq]; omega)) | ((first | refine hAl ?_ ?_ | refine hPu ?_ ?_); focus first | omega | (simp only [World.size_alloc, World.putObj_size, ne_eq]; omega))); exact rfl; conv => enter [6, 3]; whnf))
    refine wr_ptrNil rfl rfl ?_
    (repeat first | (apply wr_move; exact rfl; with_reducible (conv => enter [6, 3]; whnf)) | apply wr_end | apply wc_region | (apply wc_true; exact rfl))
    refine wr_convX rfl rfl (run_to_unsafe w ⟨b, 0, none⟩ Tryz.underlying85 Tryz.underlying133 hj (by omega) hs (by show 0 < 2; decide)) ?_
    refine wr_callX rfl (callX_noEscape _ _) rfl ?_
    refine wr_convX rfl rfl (run_from_unsafe w ⟨b, 0, none⟩ Tryz.underlying133 Tryz.underlying85 hj hs (by kernel_rfl)) ?_
    (repeat first | (apply wr_fieldAddr; iterate 2 exact rfl) | (apply wr_nilCheck; iterate 2 exact rfl) | (apply wr_store; (iterate 3 exact rfl); (first | exact rfl | with_reducible assumption); (focus repeat first | with_reducible assumption | exact heap_alloc_same _ _ | exact World.putObj_heap_same (by first | omega | (simp only [World.size_alloc, World.putObj_size, ne_eq]; omega)) | ((first | refine hAl ?_ ?_ | refine hPu ?_ ?_); focus first | omega | (simp only [World.size_alloc, World.putObj_size, ne_eq]; omega))); exact rfl) | (apply wr_nil; try simp only [thenE, inBlockE, bodyQ]))
    exact leave0 rfl ⟨⟨hB, v, heap_put_same hb, own_keep ho ((Keeps.refl (fun k => k = b) w).put _ (fun _ => rfl)) (fun k hk e => hne (by rw [hk, e])), hne⟩, (Keeps.refl _ w).put _ (fun _ => rfl)⟩
  · have h0 := h
    obtain ⟨hB, v, hb, ho, hne⟩ := h
    (repeat first | (apply wr_move; exact rfl; with_reducible (conv => enter [6, 3]; whnf)) | apply wc_seq | apply wc_region | (apply wr_fieldAddr; iterate 2 exact rfl) | (apply wr_nilCheck; iterate 2 exact rfl) | (apply wr_load; (iterate 3 exact rfl); (focus repeat first | with_reducible assumption | exact heap_alloc_same _ _ | exact World.putObj_heap_same (by first | omega | (simp only [World.size_alloc, World.putObj_size, ne_eq]; omega)) | ((first | refine hAl ?_ ?_ | refine hPu ?_ ?_); focus first | omega | (simp only [World.size_alloc, World.putObj_size, ne_eq]; omega))); exact rfl; conv => enter [6, 3]; whnf))
    refine wr_ptrNil rfl rfl ?_
    (repeat first | (apply wr_move; exact rfl; with_reducible (conv => enter [6, 3]; whnf)) | apply wr_end | apply wc_seq | apply wc_region | (apply wr_fieldAddr; iterate 2 exact rfl) | (apply wr_nilCheck; iterate 2 exact rfl) | (apply wr_load; (iterate 3 exact rfl); (focus repeat first | with_reducible assumption | exact heap_alloc_same _ _ | exact World.putObj_heap_same (by first | omega | (simp only [World.size_alloc, World.putObj_size, ne_eq]; omega)) | ((first | refine hAl ?_ ?_ | refine hPu ?_ ?_); focus first | omega | (simp only [World.size_alloc, World.putObj_size, ne_eq]; omega))); exact rfl; conv => enter [6, 3]; whnf) | (apply wc_false; exact rfl))
    refine wr_ptrNeSame rfl rfl rfl ?_
    (repeat first | apply wr_end | apply wc_skip | (apply wc_false; exact rfl))
    simp only [bodyQ]
    exact leave0 rfl ⟨h0, Keeps.refl _ w⟩
set_option maxRecDepth 100000 in
set_option maxHeartbeats 1000000 in
theorem writeS_ca (B b : Nat) (l s : List UInt8) (w : World) (h : Bd B b l w) (hl : l.length + s.length ≤ 140737488355328) (hBw : B ≤ w.heap.size) :
    Ca Tryz.prog 50 #[.pointer (some ⟨b, 0, none⟩), S s] w fun v w' => Bd B b (l ++ s) w' ∧ Keeps (fun k => B ≤ k) w w' := by
  refine ca_of_body (args := [.pointer (some ⟨b, 0, none⟩), S s]) Tryz.func50 rfl (by kernel_rfl) ?_
  (repeat first | (apply wr_move; exact rfl; with_reducible (conv => enter [6, 3]; whnf)) | (apply wr_assign; exact rfl; with_reducible (conv => enter [6, 3]; whnf)) | apply wr_end | apply wc_seq | apply wc_region)
  refine wr_call (vs := [.pointer (some ⟨b, 0, none⟩)]) rfl (copyCheck_ca B b _ w h) rfl ?_
  rintro v w1 ⟨⟨hB, bv, hb, ho, hne⟩, hk1⟩
  have hbl : (bytesV l).length = l.length := by simp [bytesV]
  rw [hbl] at ho
  have hs1 := hk1.size
  (repeat first | (apply wr_move; exact rfl; with_reducible (conv => enter [6, 3]; whnf)) | apply wr_end | apply wc_seq | apply wc_region | (apply wr_fieldAddr; iterate 2 exact rfl) | (apply wr_nilCheck; iterate 2 exact rfl) | (apply wr_load; (iterate 3 exact rfl); (focus repeat first | with_reducible assumption | exact heap_alloc_same _ _ | exact World.putObj_heap_same (by first | omega | (simp only [World.size_alloc, World.putObj_size, ne_eq]; omega)) | ((first | refine hAl ?_ ?_ | refine hPu ?_ ?_); focus first | omega | (simp only [World.size_alloc, World.putObj_size, ne_eq]; omega))); exact rfl; conv => enter [6, 3]; whnf))
  refine wr_appendS rfl rfl ho rfl hl (by omega) ?_
  intro v' w2 ho2 hk2
  have hb2 := hk2.heap hb hne
  have hne2 : v'.ownBlock ≠ some b := by
    intro e
    obtain ⟨_, h2⟩ := ho2
    rcases h2 with ⟨h3, _⟩ | ⟨gb, cap, cur, h3, _, hg, _⟩
    · rw [h3] at e; cases e
    · rw [h3] at e
      simp [Value.ownBlock] at e
      subst e
      rw [hb2] at hg
      cases hg
  have h1v := own_one ho2
  (repeat first | (apply wr_move; exact rfl; with_reducible (conv => enter [6, 3]; whnf)) | (apply wr_assign; exact rfl; with_reducible (conv => enter [6, 3]; whnf)) | apply wr_end | apply wc_seq | apply wc_region | (apply wr_fieldAddr; iterate 2 exact rfl) | (apply wr_len_str; iterate 2 exact rfl) | (apply wr_nilCheck; iterate 2 exact rfl) | (apply wr_store; (iterate 3 exact rfl); (first | exact rfl | with_reducible assumption); (focus repeat first | with_reducible assumption | exact heap_alloc_same _ _ | exact World.putObj_heap_same (by first | omega | (simp only [World.size_alloc, World.putObj_size, ne_eq]; omega)) | ((first | refine hAl ?_ ?_ | refine hPu ?_ ?_); focus first | omega | (simp only [World.size_alloc, World.putObj_size, ne_eq]; omega))); exact rfl) | (apply wc_ret; try simp only [thenE, inBlockE, bodyQ]))
  refine leave2 (v1 := .int .i64 (s.length : Int)) (v2 := .nilIface) rfl rfl rfl ⟨.inr ⟨hB, v', heap_put_same hb2, ?_, hne2⟩, ?_⟩
  · have e : bytesV (l ++ s) = bytesV l ++ bytesV s := by simp [bytesV]
    rw [e, List.length_append, hbl]
    have : (bytesV s).length = s.length := by simp [bytesV]
    rw [this]
    exact own_keep ho2 ((Keeps.refl (fun k => k = b) w2).put _ (fun _ => rfl)) (fun k hk e => hne2 (by rw [hk, e]))
  · refine ((hk1.mono (D' := fun k => B ≤ k) fun k _ e => by subst e; exact hB).trans' hk2 fun i hi e => (ho.lt i e).1).put _ fun _ => hB
set_option maxRecDepth 100000 in
set_option maxHeartbeats 1000000 in
theorem writeB_ca (B b : Nat) (l : List UInt8) (c : UInt8) (w : World) (h : Bd B b l w) (hl : l.length + 1 ≤ 140737488355328) (hBw : B ≤ w.heap.size) :
    Ca Tryz.prog 30 #[.pointer (some ⟨b, 0, none⟩), .int .u8 (c.toNat : Int)] w fun v w' => Bd B b (l ++ [c]) w' ∧ Keeps (fun k => B ≤ k) w w' := by
  refine ca_of_body (args := [.pointer (some ⟨b, 0, none⟩), .int .u8 (c.toNat : Int)]) Tryz.func30 rfl (by kernel_rfl) ?_
  (repeat first | (apply wr_move; exact rfl; with_reducible (conv => enter [6, 3]; whnf)) | (apply wr_assign; exact rfl; with_reducible (conv => enter [6, 3]; whnf)) | apply wr_end | apply wc_seq | apply wc_region)
  refine wr_call (vs := [.pointer (some ⟨b, 0, none⟩)]) rfl (copyCheck_ca B b _ w h) rfl ?_
  rintro v w1 ⟨⟨hB, bv, hb, ho, hne⟩, hk1⟩
  have hbl : (bytesV l).length = l.length := by simp [bytesV]
  rw [hbl] at ho
  have hs1 := hk1.size
  have hbw := lt_of_heap hb
  (repeat first | (apply wr_move; exact rfl; with_reducible (conv => enter [6, 3]; whnf)) | apply wr_end | apply wc_seq | apply wc_region | (apply wr_fieldAddr; iterate 2 exact rfl) | (apply wr_nilCheck; iterate 2 exact rfl) | (apply wr_load; (iterate 3 exact rfl); (focus repeat first | with_reducible assumption | exact heap_alloc_same _ _ | exact World.putObj_heap_same (by first | omega | (simp only [World.size_alloc, World.putObj_size, ne_eq]; omega)) | ((first | refine hAl ?_ ?_ | refine hPu ?_ ?_); focus first | omega | (simp only [World.size_alloc, World.putObj_size, ne_eq]; omega))); exact rfl; conv => enter [6, 3]; whnf))
  refine wr_buildSlice (vs := [.int .u8 (c.toNat : Int)]) rfl rfl (by intro v hv; simp at hv; subst hv; rfl) rfl (by decide) (by decide) (by decide) ?_
  refine wr_append (v := bv) (n := l.length) (m := 1) (news := [.int .u8 (c.toNat : Int)]) rfl rfl (ho.alloc _) rfl (heap_alloc_same _ _) rfl (by intro v hv; simp at hv; subst hv; rfl) rfl (by decide) (by omega) (by omega) (by simp; omega) ?_
  intro v' w2 ho2 hk2 _
  have hkA : Keeps NoB w1 (w1.alloc (.cells (List.flatMap (fun v => v.cells.toList) [Value.int .u8 (c.toNat : Int)]).toArray 5)) := (Keeps.refl NoB w1).alloc _
  have hb2 := hk2.heap (hkA.heap hb (fun h => h)) hne
  have hne2 : v'.ownBlock ≠ some b := by
    intro e
    obtain ⟨_, h2⟩ := ho2
    rcases h2 with ⟨h3, _⟩ | ⟨gb, cap, cur, h3, _, hg, _⟩
    · rw [h3] at e; cases e
    · rw [h3] at e
      simp [Value.ownBlock] at e
      subst e
      rw [hb2] at hg
      cases hg
  have h1v := own_one ho2
  (repeat first | (apply wr_assign; exact rfl; with_reducible (conv => enter [6, 3]; whnf)) | apply wr_end | apply wc_seq | apply wc_region | (apply wr_fieldAddr; iterate 2 exact rfl) | (apply wr_nilCheck; iterate 2 exact rfl) | (apply wr_store; (iterate 3 exact rfl); (first | exact rfl | with_reducible assumption); (focus repeat first | with_reducible assumption | exact heap_alloc_same _ _ | exact World.putObj_heap_same (by first | omega | (simp only [World.size_alloc, World.putObj_size, ne_eq]; omega)) | ((first | refine hAl ?_ ?_ | refine hPu ?_ ?_); focus first | omega | (simp only [World.size_alloc, World.putObj_size, ne_eq]; omega))); exact rfl) | (apply wc_ret; try simp only [thenE, inBlockE, bodyQ]))
  refine leave1 (v := .nilIface) rfl rfl ⟨.inr ⟨hB, v', heap_put_same hb2, ?_, hne2⟩, ?_⟩
  · rw [bytesV_snoc, List.length_append, hbl]
    exact own_keep ho2 ((Keeps.refl (fun k => k = b) w2).put _ (fun _ => rfl)) (fun k hk e => hne2 (by rw [hk, e]))
  · refine (((hk1.mono (D' := fun k => B ≤ k) fun k _ e => by subst e; exact hB).trans hkA.upD).trans' hk2 fun i hi e => (ho.lt i e).1).put _ fun _ => hB
theorem Keeps.freeze {D : Nat → Prop} {w w' : World} (h : Keeps D w w') (a : Addr) (n : Nat) (hD : D a.block) : Keeps D w (w'.freeze a n) := by
  unfold World.freeze
  split
  · exact h
  · refine ⟨h.os, h.tape, h.output, by simpa using h.size, fun k hk hd => ?_⟩
    have hne : a.block ≠ k := fun e => hd (by rw [← e]; exact hD)
    show (w'.heap.modify a.block _)[k]? = _
    rw [Array.getElem?_modify, if_neg hne]
    exact h.block k hk hd
section ops
variable {P : Program} {ops : Array Oper} {Q : Post} {ds : List Deferred} {f : Env} {w w' : World} {rest : List Oper}
variable {d : Option Nat} {ty : TypeId} {pos : String} {af : Array Edge} {g : Option (Nat × Bool)}
theorem wr_unsafeSliceData {x : Operand} {t : TypeId} {a v : Value} (hw : wantedE ops f ⟨d, .call { callee := .builtin .unsafeSliceData, args := #[x], argTypes := #[t] }, ty, pos, af, g⟩ = true)
    (hx : ev f x = a) (hr : (Builtin.unsafeSliceData_ #[t] ty #[a]).run P w = .ok v w') (kk : Wr P ops Q ds rest (setO f d v) w') : Wr P ops Q ds (⟨d, .call { callee := .builtin .unsafeSliceData, args := #[x], argTypes := #[t] }, ty, pos, af, g⟩ :: rest) f w := by
  refine wr_val hw ?_ kk
  simp only [execOp, resolve, invoke, builtin, Sem.run_bind, Sem.run_pure, Result.andThen_ok, List.map_toArray, List.map_cons, List.map_nil, hx, hr]
theorem wr_unsafeString {x y : Operand} {t t' : TypeId} {a b v : Value} (hw : wantedE ops f ⟨d, .call { callee := .builtin .unsafeString, args := #[x, y], argTypes := #[t, t'] }, ty, pos, af, g⟩ = true)
    (hx : ev f x = a) (hy : ev f y = b) (hr : (Builtin.unsafeString_ #[t, t'] ty #[a, b]).run P w = .ok v w') (kk : Wr P ops Q ds rest (setO f d v) w') : Wr P ops Q ds (⟨d, .call { callee := .builtin .unsafeString, args := #[x, y], argTypes := #[t, t'] }, ty, pos, af, g⟩ :: rest) f w := by
  refine wr_val hw ?_ kk
  simp only [execOp, resolve, invoke, builtin, Sem.run_bind, Sem.run_pure, Result.andThen_ok, List.map_toArray, List.map_cons, List.map_nil, hx, hy, hr]
end ops
theorem cellsU8' : Tryz.prog.cellsOf 5 = 1 := by kernel_rfl
set_option maxRecDepth 100000 in
set_option maxHeartbeats 1000000 in
theorem bstring_ca (B b : Nat) (l : List UInt8) (w : World) (h : Bd B b l w) (h0 : l ≠ []) :
    Ca Tryz.prog 34 #[.pointer (some ⟨b, 0, none⟩)] w fun v w' => v = S l ∧ Keeps (fun k => B ≤ k) w w' := by
  obtain ⟨p, hB, v, hbk, hown, hne⟩ : ∃ p, BuilderAt WT 5 B b p (bytesV l) w := by
    rcases h with h | h
    · exact ⟨_, h⟩
    · exact ⟨_, h⟩
  have hl0 : l.length ≠ 0 := by simpa using h0
  have hbl : (bytesV l).length = l.length := by simp [bytesV]
  rw [hbl] at hown
  obtain ⟨g, cap, cur, rfl, hbg, hg, hnc, hcm, hcs, htake⟩ : ∃ g cap cur, v = .slice (some ⟨g, 0, none⟩) l.length cap ∧ B ≤ g ∧ w.heap[g]? = some (.cells cur 5 (0, 0)) ∧ l.length ≤ cap ∧ cap ≤ maxLen ∧ cur.size = cap * 1 ∧ cur.toList.take (l.length * 1) = bytesV l := by
    rcases hown.2 with ⟨_, hz⟩ | ⟨g, cap, cur, hv, r⟩
    · exact absurd hz hl0
    · exact ⟨g, cap, cur, hv, r⟩
  refine ca_of_body (args := [.pointer (some ⟨b, 0, none⟩)]) Tryz.func34 rfl (by kernel_rfl) ?_
  have hk0 : ∀ {w'}, Keeps NoB w.drew w' → Keeps NoB w w' := fun hk => (Keeps.refl NoB w).drew.trans hk
  (repeat first | (apply wr_assign; exact rfl; with_reducible (conv => enter [6, 3]; whnf)) | apply wr_end | apply wc_seq | apply wc_region)
  refine wc_drawP (l := _) 10 _ (by kernel_rfl) (by kernel_rfl) rfl (by kernel_rfl) (by kernel_rfl) (by decide) ?_
  apply chP_pure
  focus
    intro xx w' hk hF
    apply wr_move; exact rfl; with_reducible (conv => enter [6, 3]; whnf)
    apply wr_nil
    exact ⟨rfl, Keeps.refl _ _⟩
  focus (intro xx yy h; rfl)
  focus kernel_rfl
  apply chP_pure
  focus
    intro xx w' hk hF
    refine wr_nilCheck rfl rfl ?_
    apply wr_nil
    exact ⟨rfl, Keeps.refl _ _⟩
  focus (intro xx yy h; rfl)
  focus kernel_rfl
  apply chP_pure
  focus
    intro xx w' hk hF
    refine wr_fieldAddr rfl rfl ?_
    apply wr_nil
    exact ⟨rfl, Keeps.refl _ _⟩
  focus (intro xx yy h; rfl)
  focus kernel_rfl
  apply chP_pure
  focus
    intro xx w' hk hF
    refine wr_load (v := .slice (some ⟨g, 0, none⟩) l.length cap) rfl rfl rfl ((hk0 hk).heap hbk (fun h => h)) rfl ?_
    apply wr_nil
    exact ⟨rfl, Keeps.refl _ _⟩
  focus (intro xx yy h; rfl)
  focus kernel_rfl
  apply chP_pure
  focus
    intro xx w' hk hF
    refine wr_unsafeSliceData (v := .pointer (some ⟨g, 0, none⟩)) rfl rfl (Lib.run_unsafeSliceData_row _ _ _ _ _ _ (by omega)) ?_
    apply wr_nil
    exact ⟨rfl, Keeps.refl _ _⟩
  focus (intro xx yy h; rfl)
  focus kernel_rfl
  apply chP_pure
  focus
    intro xx w' hk hF
    apply wr_move; exact rfl; with_reducible (conv => enter [6, 3]; whnf)
    apply wr_nil
    exact ⟨rfl, Keeps.refl _ _⟩
  focus (intro xx yy h; rfl)
  focus kernel_rfl
  apply chP_pure
  focus
    intro xx w' hk hF
    refine wr_nilCheck rfl rfl ?_
    apply wr_nil
    exact ⟨rfl, Keeps.refl _ _⟩
  focus (intro xx yy h; rfl)
  focus kernel_rfl
  apply chP_pure
  focus
    intro xx w' hk hF
    refine wr_fieldAddr rfl rfl ?_
    apply wr_nil
    exact ⟨rfl, Keeps.refl _ _⟩
  focus (intro xx yy h; rfl)
  focus kernel_rfl
  apply chP_pure
  focus
    intro xx w' hk hF
    refine wr_load (v := .slice (some ⟨g, 0, none⟩) l.length cap) rfl rfl rfl ((hk0 hk).heap hbk (fun h => h)) rfl ?_
    apply wr_nil
    exact ⟨rfl, Keeps.refl _ _⟩
  focus (intro xx yy h; rfl)
  focus kernel_rfl
  apply chP_pure
  focus
    intro xx w' hk hF
    refine wr_len_slice rfl rfl ?_
    apply wr_nil
    exact ⟨rfl, Keeps.refl _ _⟩
  focus (intro xx yy h; rfl)
  focus kernel_rfl
  refine chP_nil ?_
  intro xx w3 hk3' hF
  have hk3 := hk0 hk3'
  have hg3 := hk3.heap hg (fun h => h)
  refine wr_unsafeString (v := S l) (w' := w3.freeze ⟨g, 0, none⟩ l.length) rfl rfl rfl (Lib.run_unsafeString_row w3 _ _ _ 5 Tryz.underlying115 cellsU8' g cur.size (by simp [World.shape?, hg3]) l h0 (by omega) (by unfold maxLen at hcm; omega) ?_) ?_
  · intro j x hx
    have hj := (List.getElem?_eq_some_iff.1 hx).1
    have h1 : cur.toList[j]? = some (.int .u8 (x.toNat : Int)) := by
      rw [← List.getElem?_take_of_lt (show j < l.length * 1 by omega), htake]
      simp [bytesV, hx]
    rw [addr_add, Nat.zero_add]
    exact cell_of_heap hg3 (by simpa using h1)
  (repeat first | (apply wr_assign; exact rfl; with_reducible (conv => enter [6, 3]; whnf)) | apply wr_end | (apply wc_ret; try simp only [thenE, inBlockE, bodyQ]))
  exact leave1 (v := S l) rfl rfl ⟨rfl, Keeps.freeze (hk3.upD) ⟨g, 0, none⟩ _ hbg⟩
theorem Bd.new (w : World) : Bd w.heap.size w.heap.size [] (w.alloc (.cells #[.pointer none, .slice none 0 0] WT)) :=
  .inl ⟨Nat.le_refl _, .slice none 0 0, heap_alloc_same _ _, ⟨rfl, .inl ⟨rfl, rfl⟩⟩, by simp [Value.ownBlock]⟩
theorem Bd.keep {D : Nat → Prop} {B b : Nat} {l : List UInt8} {w w' : World} (h : Bd B b l w) (k : Keeps D w w') (hd : ∀ i, B ≤ i → ¬ D i) : Bd B b l w' := by
  have key : ∀ p, BuilderAt WT 5 B b p (bytesV l) w → BuilderAt WT 5 B b p (bytesV l) w' := by
    rintro p ⟨hB, v, hb, ho, hne⟩
    exact ⟨hB, v, k.heap hb (hd _ hB), own_keep ho k (fun i hi => hd _ (ho.lt i hi).1), hne⟩
  rcases h with h | h
  · exact .inl (key _ h)
  · exact .inr (key _ h)
theorem Bd.kin {B b : Nat} {l : List UInt8} {w w' : World} (h : Bd B b l w) (k : Keeps NoB w w') : Bd B b l w' := h.keep k fun _ _ h => h

end Go.Proofs.YtjaojihogmnjhaaGreatDoor
