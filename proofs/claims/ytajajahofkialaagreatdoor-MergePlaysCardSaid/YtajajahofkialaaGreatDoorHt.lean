/- Dropping while the range runs: what the map's entries become; a topic is dropped. -/
import Derived.Test.YtajajahofkialaaGreatDoorHm2
namespace Go.Proofs.YtajajahofkialaaGreatDoor
open Go Go.V Go.RowKit
set_option linter.unusedVariables false
set_option linter.unusedSimpArgs false

/- The head: $1 after New. -/
/- A set of a few: $1 slice, $2 bytes, $3 world, $4 stem, $5 SlR, $6 bytes small, $7 how many. -/
section ops
variable {P : Program} {ops : Array Oper} {Q : Post} {ds : List Deferred} {f : Env} {w w' : World} {rest : List Oper}
variable {d : Option Nat} {ty : TypeId} {pos : String} {af : Array Edge} {g : Option (Nat × Bool)}
variable {α : Type} [DecidableEq α] {enc : α → Value}
theorem wr_updateB {t K E : TypeId} {x y z : Operand} {b : Nat} {l : List (α × Value)} {a : α} {v : Value} [U : Und P t (.map K E)] [M : MKey P K enc] (hw : wantedE ops f ⟨d, .mapUpdate t x y z, ty, pos, af, g⟩ = true) (hx : ev f x = .map (some b)) (h : MapAt w enc b l) (hy : ev f y = enc a) (hz : ev f z = v)
    (kk : ∀ w', MapAt w' enc b (putM l a v) → Keeps (· = b) w w' → (∀ i u, posK a l 0 = some (i, u) → ∀ es c, w.heap[b]? = some (.map es c) → ∃ F : MapEntry → MapEntry, w'.heap[b]? = some (.map (es.modify i F) c)) → Wr P ops Q ds rest (setO f d undef) w') : Wr P ops Q ds (⟨d, .mapUpdate t x y z, ty, pos, af, g⟩ :: rest) f w := by
  obtain ⟨w', hr, h1, h2⟩ := run_update (P := P) U M h a v
  refine wr_u (s := Instr.mapUpdate t (ev f x) (ev f y) (ev f z)) hw rfl (by rw [hx, hy, hz]; exact hr) (kk w' h1 h2 ?_)
  intro i u hp es c hb
  obtain ⟨es0, c0, hb0, hk, hn, hbn, hbc⟩ := h
  rw [hb0] at hb
  cases hb
  obtain ⟨_, hi⟩ := posK_at l 0 hp
  rw [Nat.sub_zero] at hi
  obtain ⟨e0, he0, hek, hev⟩ := keysAre_get (j := 0) i hk hi
  have hei : es[i]? = some e0 := by simpa using he0
  have hst : (Instr.keyThatStays (((es[i]?).map (·.key)).getD (enc a)) (enc a)).run P w = .ok (enc a) w := by
    rw [hei]; simp only [Option.map_some, Option.getD_some, hek, Instr.keyThatStays, M.bits, if_true]; rfl
  have hrun : (Instr.mapUpdate t (.map (some b)) (enc a) v).run P w = ((match posK a l 0 with
      | some (i, _) => do let key ← Instr.keyThatStays (((es[i]?).map (·.key)).getD (enc a)) (enc a); setObj b (.map (es.modify i fun e => { e with key, val := v }) c)
      | none => setObj b (.map (es.push { key := enc a, val := v, born := c }) (c + 1)) : Sem Unit)).run P w := by
    simp only [Instr.mapUpdate, Sem.run_bind, run_und U, Result.andThen_ok, run_getMap hb0, M.chk, findKey_eq M a w es.toList l hk]
    rfl
  rw [hrun, hp] at hr
  simp only [Sem.run_bind, hst, Result.andThen_ok] at hr
  rw [run_setMap _ hb0] at hr
  cases hr
  exact ⟨_, heap_put_same hb0⟩
theorem wr_deleteB {t K E : TypeId} {x y : Operand} {t2 : TypeId} {b : Nat} {l : List (α × Value)} {a : α} [U : Und P t (.map K E)] [M : MKey P K enc] (hw : wantedE ops f ⟨d, .call { callee := .builtin .delete, args := #[x, y], argTypes := #[t, t2] }, ty, pos, af, g⟩ = true) (hx : ev f x = .map (some b)) (h : MapAt w enc b l) (hy : ev f y = enc a)
    (kk : ∀ w', MapAt w' enc b (delM l a) → Keeps (· = b) w w' → (∀ i u, posK a l 0 = some (i, u) → ∀ es c, w.heap[b]? = some (.map es c) → w'.heap[b]? = some (.map (es.eraseIdxIfInBounds i) c)) → Wr P ops Q ds rest (setO f d (.tuple #[])) w') : Wr P ops Q ds (⟨d, .call { callee := .builtin .delete, args := #[x, y], argTypes := #[t, t2] }, ty, pos, af, g⟩ :: rest) f w := by
  obtain ⟨es, c, hb, hk, hn, hbn, hbc⟩ := h
  have hrun : ∀ o w', ((match posK a l 0 with
      | some (i, _) => setObj b (.map (es.eraseIdxIfInBounds i) c)
      | none => setObj b (.map es c) : Sem Unit)).run P w = .ok o w' → (execOp (ev f) ⟨d, .call { callee := .builtin .delete, args := #[x, y], argTypes := #[t, t2] }, ty, pos, af, g⟩).run P w = .ok (.value (.tuple #[])) w' := fun o w' ho => by
    simp only [execOp, resolve, invoke, builtin, Builtin.delete_, Sem.run_bind, Sem.run_pure, Result.andThen_ok, List.map_toArray, List.map_cons, List.map_nil, hx, hy, List.getElem?_toArray, List.getElem?_cons_zero, List.getElem?_cons_succ, run_und U, run_getMap hb, M.chk, findKey_eq M a w es.toList l hk]
    cases hp : posK a l 0 with
    | none => rw [hp] at ho; simp only at ho ⊢; simp only [Sem.run_bind, ho, Result.andThen_ok, Sem.run_pure]
    | some iv => obtain ⟨i, u⟩ := iv; rw [hp] at ho; simp only at ho ⊢; simp only [Sem.run_bind, ho, Result.andThen_ok, Sem.run_pure]
  cases hp : posK a l 0 with
  | none =>
    rw [hp] at hrun
    have hm := (posK_none l 0).1 hp
    exact wr_val hw (hrun _ _ (run_setMap _ hb)) (kk _ ⟨es, c, heap_put_same hb, by rw [delM_none hm]; exact hk, delM_nodup hn, hbn, hbc⟩ ((Keeps.refl _ w).put _ fun _ => rfl) (fun i u h => by rw [hp] at h; cases h))
  | some iv =>
    obtain ⟨i, u⟩ := iv
    rw [hp] at hrun
    obtain ⟨_, hi⟩ := posK_at l 0 hp
    rw [Nat.sub_zero] at hi
    have he : (es.eraseIdxIfInBounds i).toList = es.toList.eraseIdx i := by simp
    refine wr_val hw (hrun _ _ (run_setMap _ hb)) (kk _ ⟨_, c, heap_put_same hb, ?_, delM_nodup hn, ?_, ?_⟩ ((Keeps.refl _ w).put _ fun _ => rfl) (fun i' u' h es' c' hb' => ?_))
    · rw [he, ← erase_del l i hn (by rw [hi]; rfl)]; exact keysAre_erase i hk
    · rw [he]; exact hbn.sublist (List.Sublist.map _ (List.eraseIdx_sublist _ _))
    · intro e hm; rw [he] at hm; exact hbc e (List.mem_of_mem_eraseIdx hm)
    · rw [hp] at h
      cases h
      rw [hb] at hb'
      cases hb'
      exact heap_put_same hb
theorem posK_keys {a : α} : ∀ (l l' : List (α × Value)) (j i : Nat) (u : Value), l'.map (·.1) = l.map (·.1) → posK a l j = some (i, u) → ∃ u', posK a l' j = some (i, u')
  | [], [], j, i, u, _, h => by simp [posK] at h
  | p :: l, q :: l', j, i, u, hk, h => by
    simp only [List.map_cons, List.cons.injEq] at hk
    unfold posK at h ⊢
    rw [hk.1]
    by_cases e : a = p.1
    · rw [if_pos e] at h ⊢
      cases h
      exact ⟨_, rfl⟩
    · rw [if_neg e] at h ⊢
      exact posK_keys l l' _ i u hk.2 h
  | [], _ :: _, _, _, _, hk, _ => by simp at hk
  | _ :: _, [], _, _, _, hk, _ => by simp at hk
theorem modify_erase {β : Type} (F : β → β) : ∀ (l : List β) (i : Nat), (l.modify i F).eraseIdx i = l.eraseIdx i
  | [], i => by simp
  | a :: l, 0 => by simp
  | a :: l, i + 1 => by simpa using modify_erase F l i
end ops
theorem turnZ_es {w7 w8 wa wc : World} {wb i : Nat} {u : Value} {t : TY} {M : List (TY × Value)} {v : Value} {es : Array MapEntry} {c : Nat} (hpi : posK t M 0 = some (i, u))
    (h8 : ∀ i u, posK t M 0 = some (i, u) → ∀ es c, w7.heap[wb]? = some (.map es c) → ∃ F : MapEntry → MapEntry, w8.heap[wb]? = some (.map (es.modify i F) c))
    (hc : ∀ i u, posK t (putM M t v) 0 = some (i, u) → ∀ es c, wa.heap[wb]? = some (.map es c) → wc.heap[wb]? = some (.map (es.eraseIdxIfInBounds i) c))
    (hes : w7.heap[wb]? = some (.map es c)) (h : ∀ o, w8.heap[wb]? = some o → wa.heap[wb]? = some o) : ∃ es', wc.heap[wb]? = some (.map es' c) ∧ es'.toList.Sublist es.toList := by
  obtain ⟨F, hF⟩ := h8 i u hpi es c hes
  have hin : t ∈ M.map (·.1) := by
    rcases Decidable.em (t ∈ M.map (·.1)) with h | h
    · exact h
    · rw [(posK_none M 0).2 h] at hpi; cases hpi
  obtain ⟨u', hu'⟩ := posK_keys M (putM M t v) 0 i u (putM_keys_mem hin) hpi
  refine ⟨_, hc i u' hu' _ c (h _ hF), ?_⟩
  simp only [Array.toList_eraseIdxIfInBounds, Array.toList_modify]
  rw [modify_erase]
  exact List.eraseIdx_sublist _ _
set_option maxRecDepth 100000 in
set_option maxHeartbeats 8000000 in
theorem turnZ_ca {w : World} {n0 ab wb : Nat} {cb : List Nat} {Wn : WF} (h : MgAt w n0 ab wb cb Wn) (id : Int) (k : Nat) (ht : inDom (id, (k : Int))) {s : PS} {sv : Value} (hs : SetO w n0 s sv) (hsf : Fine s) (hsl : s.2.length ≤ 100000) (hem : (!s.1 && decide (s.2.length = 0)) = true) (hne : Wn (id, (k : Int)) ≠ noneP) :
    Ca Tryz.prog 39 #[.pointer (some ⟨ab, 0, none⟩), encT (id, (k : Int)), sv] w fun v w' => v = .tuple #[] ∧ MgAt w' n0 ab wb cb (updW Wn (id, (k : Int)) s) ∧ Keeps (mD wb cb) w w' ∧ ∀ es c, w.heap[wb]? = some (.map es c) → ∃ es', w'.heap[wb]? = some (.map es' c) ∧ es'.toList.Sublist es.toList := by
  obtain ⟨nv, rfl, hnv⟩ := hs
  refine ca_of_body (args := [.pointer (some ⟨ab, 0, none⟩), encT (id, (k : Int)), SetV s.1 nv]) Tryz.func39 rfl (by kernel_rfl) ?_
  apply wc_seq
  apply wc_region
  refine wr_box (v := encT (id, (k : Int))) rfl rfl ?_
  refine wr_name ?_
  intro w1 hww1
  obtain ⟨bw1, hbw1⟩ : ∃ b, b = (w).heap.size := ⟨_, rfl⟩
  have hkw1 : Keeps NoB w w1 := by rw [hww1]; exact (Keeps.refl NoB w).alloc _
  have hcw1 : (w1).heap[bw1]? = some (.cells ([.int .i64 id, .int .i64 (k : Int)]).toArray 78 (0, 0)) := by rw [hww1, hbw1]; exact heap_alloc_same _ _
  rw [← hbw1]
  clear hww1
  refine wr_box (v := SetV s.1 nv) rfl rfl ?_
  refine wr_name ?_
  intro w2 hww2
  obtain ⟨bw2, hbw2⟩ : ∃ b, b = (w1).heap.size := ⟨_, rfl⟩
  have hkw2 : Keeps NoB w1 w2 := by rw [hww2]; exact (Keeps.refl NoB w1).alloc _
  have hcw2 : (w2).heap[bw2]? = some (.cells ([.bool s.1, nv]).toArray 41 (0, 0)) := by rw [hww2, hbw2]; exact heap_alloc_same _ _
  rw [← hbw2]
  clear hww2
  have hk02 := hkw1.trans hkw2
  have hk6 : k < 6 := by have := ht.2.2.2; simp at this; omega
  obtain ⟨b, hb⟩ : ∃ b, cb[k]? = some b := ⟨cb[k]'(by rw [h.len]; omega), by simp [h.len, hk6]⟩
  have hbm := List.mem_of_getElem? hb
  have hwb : wb ≠ b := fun e => h.nw (by rw [e]; exact hbm)
  have h2 := h.keepN hk02
  obtain ⟨M, hM2, hMW2⟩ := h2.want
  have hf2 := h2.cnt k b hb
  obtain ⟨pi, pu, hpi⟩ : ∃ i u, posK (id, (k : Int)) M 0 = some (i, u) := by
    have h9 := hMW2 (id, (k : Int))
    unfold WantV at h9
    rw [if_neg hne] at h9
    obtain ⟨v, h9, _⟩ := h9
    have h8 := posK_some (a := (id, (k : Int))) M 0
    rw [h9] at h8
    cases hp : posK (id, (k : Int)) M 0 with
    | none => rw [hp] at h8; cases h8
    | some iv => exact ⟨iv.1, iv.2, rfl⟩
  have hc12 := hkw2.heap hcw1 (fun h => h)
  have hnv2 := own_keep hnv hk02 (fun _ _ h => h)
  have hR : ∀ {w'}, Keeps NoB w2 w' → SetR w' (Wn (id, (k : Int))) ((getM M (id, (k : Int))).getD (SetV false nilV)) := fun hk => (want_R (hMW2 (id, (k : Int)))).keep hk
  obtain ⟨lk, hlk⟩ : ∃ v, v = (getM M (id, (k : Int))).getD (SetV false nilV) := ⟨_, rfl⟩
  rw [← hlk] at hR
  have hk0 : ∀ {w'}, Keeps NoB w2.drew w' → Keeps NoB w2 w' := fun hk => (Keeps.refl NoB w2).drew.trans hk
  (repeat first | apply wr_end | apply wc_seq)
  refine wc_drawP (l := _) 10 _ (by kernel_rfl) (by kernel_rfl) rfl (by kernel_rfl) (by kernel_rfl) (by decide) ?_
  apply chP_pure
  focus
    intro xx w' hk hF
    apply wr_move; exact rfl; with_reducible (conv => enter [6, 3]; whnf)
    apply wr_nil
    exact ⟨rfl, Keeps.refl _ _⟩
  focus (intro xx yy h; rfl)
  focus kernel_rfl
  apply chP_pure
  focus
    intro xx w' hk hF
    refine wr_fieldAddr rfl rfl ?_
    apply wr_nil
    exact ⟨rfl, Keeps.refl _ _⟩
  focus (intro xx yy h; rfl)
  focus kernel_rfl
  apply chP_pure
  focus
    intro xx w' hk hF
    refine wr_load (v := .int .i64 (k : Int)) rfl rfl rfl ((hk0 hk).heap hc12 (fun h => h)) rfl ?_
    apply wr_nil
    exact ⟨rfl, Keeps.refl _ _⟩
  focus (intro xx yy h; rfl)
  focus kernel_rfl
  apply chP_pure
  focus
    intro xx w' hk hF
    apply wr_move; exact rfl; with_reducible (conv => enter [6, 3]; whnf)
    apply wr_nil
    exact ⟨rfl, Keeps.refl _ _⟩
  focus (intro xx yy h; rfl)
  focus kernel_rfl
  apply chP_pure
  focus
    intro xx w' hk hF
    (apply wr_nilCheck; iterate 2 exact rfl)
    apply wr_nil
    exact ⟨rfl, Keeps.refl _ _⟩
  focus (intro xx yy h; rfl)
  focus kernel_rfl
  apply chP_pure
  focus
    intro xx w' hk hF
    refine wr_fieldAddr rfl rfl ?_
    apply wr_nil
    exact ⟨rfl, Keeps.refl _ _⟩
  focus (intro xx yy h; rfl)
  focus kernel_rfl
  apply chP_pure
  focus
    intro xx w' hk hF
    refine wr_load (v := .map (some wb)) rfl rfl rfl ((hk0 hk).heap h2.cells (fun h => h)) rfl ?_
    apply wr_nil
    exact ⟨rfl, Keeps.refl _ _⟩
  focus (intro xx yy h; rfl)
  focus kernel_rfl
  apply chP_pure
  focus
    intro xx w' hk hF
    refine wr_loadAll (cs := [.int .i64 id, .int .i64 (k : Int)]) rfl rfl rfl ((hk0 hk).heap hc12 (fun h => h)) rfl ?_
    apply wr_nil
    exact ⟨rfl, Keeps.refl _ _⟩
  focus (intro xx yy h; rfl)
  focus kernel_rfl
  apply chP_pure
  focus
    intro xx w' hk hF
    refine wr_lookup (l := M) (a := (id, (k : Int))) rfl rfl (hM2.keep (hk0 hk) (fun h => h)) rfl ?_
    rw [show (getM M (id, (k : Int))).getD _ = lk from hlk.symm]
    apply wr_nil
    exact ⟨rfl, Keeps.refl _ _⟩
  focus (intro xx yy h; rfl)
  focus kernel_rfl
  refine chP_fact (fun y => y) (fun y w' => SlR w' 1 y (listP (Wn (id, (k : Int)))).length (SL (listP (Wn (id, (k : Int)))))) (fun y w' w'' h k => h.keep k (fun _ _ h => h)) ?_ ?_
  focus
    intro xx w' hk hF
    refine wr_call (vs := [lk]) rfl (list_ca (Wn (id, (k : Int))) _ w' (hR (hk0 hk)) (by have := h.small (id, (k : Int)); omega)) rfl ?_
    rintro v w'' ⟨hR, hkc⟩
    apply wr_nil
    exact ⟨v, rfl, hR, hkc⟩
  refine chP_nil ?_
  intro xx w3 hk3' hF
  have hk3 := hk0 hk3'
  have hl9 : SlR w3 1 (xx 9) (listP (Wn (id, (k : Int)))).length (SL (listP (Wn (id, (k : Int))))) := hF 9 (by decide)
  clear hF
  have h3 := h2.keepN hk3
  have hc13 := hk3.heap hc12 (fun h => h)
  have hc23 := hk3.heap hcw2 (fun h => h)
  have hnv3 := own_keep hnv2 hk3 (fun _ _ h => h)
  have hM3 := hM2.keep hk3 (fun h => h)
  have hln := listP_le (Wn (id, (k : Int)))
  have hls := listP_le s
  have hsm := h.small (id, (k : Int))
  refine wr_call (vs := [.pointer (some ⟨ab, 0, none⟩), .int .i64 (k : Int), .int .i64 (-1), xx 9]) rfl (count_ca h3.cells hk6 hb (h3.cnt k b hb) (-1) (.inr rfl) hl9 (listP_nodup (h.fine _)) (by omega) (fun x => by have := cntW_bound Wn k x; omega)) rfl ?_
  rintro v w4 ⟨rfl, hf4, hk4⟩
  have hc4 := hk4.heap h3.cells (mapb_ne (h3.cnt k b hb) h3.cells)
  have hc14 := hk4.heap hc13 (mapb_ne (h3.cnt k b hb) hc13)
  have hc24 := hk4.heap hc23 (mapb_ne (h3.cnt k b hb) hc23)
  have hM4 := hM3.keep hk4 hwb
  have hnv4 := own_keep hnv3 hk4 (fun q hq e => by
    rcases hnv3.2 with ⟨rfl, _⟩ | ⟨g, cap, cur, rfl, _, hg, _⟩
    · cases hq
    · simp [Value.ownBlock] at hq
      subst hq
      exact mapb_ne (h3.cnt k b hb) hg e)
  clear hk0
  have hk0 : ∀ {w'}, Keeps NoB w4.drew w' → Keeps NoB w4 w' := fun hk => (Keeps.refl NoB w4).drew.trans hk
  have hS4 : ∀ {w'}, Keeps NoB w4 w' → SetR w' s (SetV s.1 nv) := fun hk => ⟨nv, rfl, SlR.of_own (own_keep hnv4 hk (fun _ _ h => h))⟩
  (repeat first | apply wr_end | apply wc_seq)
  refine wc_drawP (l := _) 5 _ (by kernel_rfl) (by kernel_rfl) rfl (by kernel_rfl) (by kernel_rfl) (by decide) ?_
  apply chP_pure
  focus
    intro xx w' hk hF
    apply wr_move; exact rfl; with_reducible (conv => enter [6, 3]; whnf)
    apply wr_nil
    exact ⟨rfl, Keeps.refl _ _⟩
  focus (intro xx yy h; rfl)
  focus kernel_rfl
  apply chP_pure
  focus
    intro xx w' hk hF
    refine wr_fieldAddr rfl rfl ?_
    apply wr_nil
    exact ⟨rfl, Keeps.refl _ _⟩
  focus (intro xx yy h; rfl)
  focus kernel_rfl
  apply chP_pure
  focus
    intro xx w' hk hF
    refine wr_load (v := .int .i64 (k : Int)) rfl rfl rfl ((hk0 hk).heap hc14 (fun h => h)) rfl ?_
    apply wr_nil
    exact ⟨rfl, Keeps.refl _ _⟩
  focus (intro xx yy h; rfl)
  focus kernel_rfl
  apply chP_pure
  focus
    intro xx w' hk hF
    refine wr_loadAll (cs := [.bool s.1, nv]) rfl rfl rfl ((hk0 hk).heap hc24 (fun h => h)) rfl ?_
    apply wr_nil
    exact ⟨rfl, Keeps.refl _ _⟩
  focus (intro xx yy h; rfl)
  focus kernel_rfl
  refine chP_fact (fun y => y) (fun y w' => SlR w' 1 y (listP s).length (SL (listP s))) (fun y w' w'' h k => h.keep k (fun _ _ h => h)) ?_ ?_
  focus
    intro xx w' hk hF
    refine wr_call (vs := [SetV s.1 nv]) rfl (list_ca s _ w' (hS4 (hk0 hk)) (by omega)) rfl ?_
    rintro v w'' ⟨hR, hkc⟩
    apply wr_nil
    exact ⟨v, rfl, hR, hkc⟩
  refine chP_nil ?_
  intro yy w5 hk5' hF
  have hk5 := hk0 hk5'
  have hl5 : SlR w5 1 (yy 4) (listP s).length (SL (listP s)) := hF 4 (by decide)
  clear hF
  refine wr_call (vs := [.pointer (some ⟨ab, 0, none⟩), .int .i64 (k : Int), .int .i64 1, yy 4]) rfl (count_ca (hk5.heap hc4 (fun h => h)) hk6 hb (hf4.keep hk5 (fun h => h)) 1 (.inl rfl) hl5 (listP_nodup hsf) (by omega) (fun x => by have := cntW_bound Wn k x; unfold addC; split <;> omega)) rfl ?_
  rintro v w6 ⟨rfl, hf6, hk6'⟩
  have hf5 := hf4.keep hk5 (fun h => h)
  have hc6 := hk6'.heap (hk5.heap hc4 (fun h => h)) (mapb_ne hf5 (hk5.heap hc4 (fun h => h)))
  have hc16 := hk6'.heap (hk5.heap hc14 (fun h => h)) (mapb_ne hf5 (hk5.heap hc14 (fun h => h)))
  have hc26 := hk6'.heap (hk5.heap hc24 (fun h => h)) (mapb_ne hf5 (hk5.heap hc24 (fun h => h)))
  have hM6 := (hM4.keep hk5 (fun h => h)).keep hk6' hwb
  have hnv5 := own_keep hnv4 hk5 (fun _ _ h => h)
  have hnv6 := own_keep hnv5 hk6' (fun q hq e => by
    rcases hnv5.2 with ⟨rfl, _⟩ | ⟨g, cap, cur, rfl, _, hg, _⟩
    · cases hq
    · simp [Value.ownBlock] at hq
      subst hq
      exact mapb_ne hf5 hg e)
  have hfk : addC (addC (cntW Wn k) (listP (Wn (id, (k : Int)))) (-1)) (listP s) 1 = cntW (updW Wn (id, (k : Int)) s) k := by
    funext x
    rw [cntW_upd ht s rfl x]
    rfl
  rw [hfk] at hf6
  have hk36 : Keeps (· = b) w3 w6 := (hk4.trans hk5.upD).trans hk6'
  clear hk0
  have hk0 : ∀ {w'}, Keeps NoB w6.drew w' → Keeps NoB w6 w' := fun hk => (Keeps.refl NoB w6).drew.trans hk
  (repeat first | apply wr_end | apply wc_seq)
  refine wc_drawP (l := _) 6 _ (by kernel_rfl) (by kernel_rfl) rfl (by kernel_rfl) (by kernel_rfl) (by decide) ?_
  apply chP_pure
  focus
    intro xx w' hk hF
    apply wr_move; exact rfl; with_reducible (conv => enter [6, 3]; whnf)
    apply wr_nil
    exact ⟨rfl, Keeps.refl _ _⟩
  focus (intro xx yy h; rfl)
  focus kernel_rfl
  apply chP_pure
  focus
    intro xx w' hk hF
    (apply wr_nilCheck; iterate 2 exact rfl)
    apply wr_nil
    exact ⟨rfl, Keeps.refl _ _⟩
  focus (intro xx yy h; rfl)
  focus kernel_rfl
  apply chP_pure
  focus
    intro xx w' hk hF
    refine wr_fieldAddr rfl rfl ?_
    apply wr_nil
    exact ⟨rfl, Keeps.refl _ _⟩
  focus (intro xx yy h; rfl)
  focus kernel_rfl
  apply chP_pure
  focus
    intro xx w' hk hF
    refine wr_load (v := .map (some wb)) rfl rfl rfl ((hk0 hk).heap hc6 (fun h => h)) rfl ?_
    apply wr_nil
    exact ⟨rfl, Keeps.refl _ _⟩
  focus (intro xx yy h; rfl)
  focus kernel_rfl
  apply chP_pure
  focus
    intro xx w' hk hF
    refine wr_loadAll (cs := [.int .i64 id, .int .i64 (k : Int)]) rfl rfl rfl ((hk0 hk).heap hc16 (fun h => h)) rfl ?_
    apply wr_nil
    exact ⟨rfl, Keeps.refl _ _⟩
  focus (intro xx yy h; rfl)
  focus kernel_rfl
  apply chP_pure
  focus
    intro xx w' hk hF
    refine wr_loadAll (cs := [.bool s.1, nv]) rfl rfl rfl ((hk0 hk).heap hc26 (fun h => h)) rfl ?_
    apply wr_nil
    exact ⟨rfl, Keeps.refl _ _⟩
  focus (intro xx yy h; rfl)
  focus kernel_rfl
  refine chP_nil ?_
  intro zz w7 hk7' hF
  have hk7 := hk0 hk7'
  clear hF
  refine wr_updateB (l := M) (a := (id, (k : Int))) rfl rfl (hM6.keep hk7 (fun h => h)) rfl rfl ?_
  intro w8 hM8 hk8 hB8
  have hM7 := hM6.keep hk7 (fun h => h)
  have hnq : ∀ {q : Nat} {c : Array Value} {T : TypeId} {fr : Nat × Nat}, w7.heap[q]? = some (.cells c T fr) → q ≠ wb := fun hq => map_ne hM7 hq
  have hc7 := hk7.heap hc6 (fun h => h)
  have hc17 := hk7.heap hc16 (fun h => h)
  have hc27 := hk7.heap hc26 (fun h => h)
  have hc8 := hk8.heap hc7 (hnq hc7)
  have hc18 := hk8.heap hc17 (hnq hc17)
  have hc28 := hk8.heap hc27 (hnq hc27)
  have hnv7 := own_keep hnv6 hk7 (fun _ _ h => h)
  have hnv8 := own_keep hnv7 hk8 (fun q hq e => by
    rcases hnv7.2 with ⟨rfl, _⟩ | ⟨g, cap, cur, rfl, _, hg, _⟩
    · cases hq
    · simp [Value.ownBlock] at hq
      subst hq
      exact hnq hg e)
  have hf8 := (hf6.keep hk7 (fun h => h)).keep hk8 (fun e => hwb e.symm)
  have hk38 : Keeps (fun q => q = b ∨ q = wb) w3 w8 := ((hk36.mono fun _ _ h => .inl h).trans hk7.upD).trans (hk8.mono fun _ _ h => .inr h)
  have hC3 := h3.cnt k b hb
  have hW3 : ∀ {w'}, Keeps (fun q => q = b ∨ q = wb) w3 w' → ∀ u, WantV w' n0 (Wn u) (getM M u) := fun hk u => ((hMW2 u).keep hk3 (fun _ h => h.elim)).keep hk (fun q hq cs e => by
    rcases hq with rfl | rfl
    · exact mapb_ne hC3 e rfl
    · exact map_ne hM3 e rfl)
  have hput : ∀ u, getM (putM M (id, (k : Int)) (SetV s.1 nv)) u = if u = (id, (k : Int)) then some (SetV s.1 nv) else getM M u := fun u => getM_putM M _ u _
  have hkm : ∀ {w'}, Keeps (fun q => q = b ∨ q = wb) w3 w' → Keeps (mD wb cb) w w' := fun hk => (hk02.trans hk3).upD.trans (hk.mono fun q _ e => by
    rcases e with rfl | rfl
    · exact .inr hbm
    · exact .inl rfl)
  have hsn := (noneP_iff s).1 hem
  (repeat first | apply wr_end | apply wc_seq | apply wc_region)
  refine wr_loadAll (cs := [.bool s.1, nv]) rfl rfl rfl hc28 rfl ?_
  refine wr_call (vs := [SetV s.1 nv]) rfl (empty_cb true hem ⟨nv, rfl, SlR.of_own hnv8⟩) rfl ?_
  rintro v w9 ⟨rfl, hk9⟩
  have hc9 := hk9.heap hc8 (fun h => h)
  have hc19 := hk9.heap hc18 (fun h => h)
  clear hk0
  have hk0 : ∀ {w'}, Keeps NoB w9.drew w' → Keeps NoB w9 w' := fun hk => (Keeps.refl NoB w9).drew.trans hk
  (repeat first | apply wr_end | (apply wc_true; exact rfl))
  refine wc_drawP (l := _) 5 _ (by kernel_rfl) (by kernel_rfl) rfl (by kernel_rfl) (by kernel_rfl) (by decide) ?_
  apply chP_pure
  focus
    intro xx w' hk hF
    apply wr_move; exact rfl; with_reducible (conv => enter [6, 3]; whnf)
    apply wr_nil
    exact ⟨rfl, Keeps.refl _ _⟩
  focus (intro xx yy h; rfl)
  focus kernel_rfl
  apply chP_pure
  focus
    intro xx w' hk hF
    (apply wr_nilCheck; iterate 2 exact rfl)
    apply wr_nil
    exact ⟨rfl, Keeps.refl _ _⟩
  focus (intro xx yy h; rfl)
  focus kernel_rfl
  apply chP_pure
  focus
    intro xx w' hk hF
    refine wr_fieldAddr rfl rfl ?_
    apply wr_nil
    exact ⟨rfl, Keeps.refl _ _⟩
  focus (intro xx yy h; rfl)
  focus kernel_rfl
  apply chP_pure
  focus
    intro xx w' hk hF
    refine wr_load (v := .map (some wb)) rfl rfl rfl ((hk0 hk).heap hc9 (fun h => h)) rfl ?_
    apply wr_nil
    exact ⟨rfl, Keeps.refl _ _⟩
  focus (intro xx yy h; rfl)
  focus kernel_rfl
  apply chP_pure
  focus
    intro xx w' hk hF
    refine wr_loadAll (cs := [.int .i64 id, .int .i64 (k : Int)]) rfl rfl rfl ((hk0 hk).heap hc19 (fun h => h)) rfl ?_
    apply wr_nil
    exact ⟨rfl, Keeps.refl _ _⟩
  focus (intro xx yy h; rfl)
  focus kernel_rfl
  refine chP_nil ?_
  intro uu wa hka' hF
  have hka := hk0 hka'
  clear hF
  refine wr_deleteB (l := putM M (id, (k : Int)) (SetV s.1 nv)) (a := (id, (k : Int))) rfl rfl ((hM8.keep hk9 (fun h => h)).keep hka (fun h => h)) rfl ?_
  intro wc hMc hkc hBc
  have hk3c : Keeps (fun q => q = b ∨ q = wb) w3 wc := ((hk38.trans hk9.upD).trans hka.upD).trans (hkc.mono fun _ _ h => .inr h)
  (repeat first | (apply wr_nil; try simp only [thenE, inBlockE, bodyQ]))
  refine leave0 rfl ⟨rfl, mg_after h3 hk3c hb ht (((hf8.keep hk9 (fun h => h)).keep hka (fun h => h)).keep hkc (fun e => hwb e.symm)) hMc (fun u => ?_) hsf hsl, hkm hk3c, fun es c hes => ?_⟩
  rotate_left
  · exact turnZ_es hpi hB8 hBc (hk7.heap (hk36.heap ((hk02.trans hk3).heap hes (fun h => h)) hwb) (fun h => h)) (fun o h => hka.heap (hk9.heap h (fun h => h)) (fun h => h))
  rw [getM_delM, hput]
  by_cases hu : u = (id, (k : Int))
  · rw [if_pos hu]
    unfold WantV updW
    rw [if_pos hu, if_pos hsn]
  · rw [if_neg hu, if_neg hu]
    have := hW3 hk3c u
    unfold updW
    rw [if_neg hu]
    exact this
end Go.Proofs.YtajajahofkialaaGreatDoor
