/- The client in memory, its rows the call's own; Ask for a set in order. -/
import Derived.Test.YtahlhldkcekbfaaGreatDoorGj
import Derived.Test.YtahlhldkcekbfaaGreatDoorVQ
namespace Go.Proofs.YtahlhldkcekbfaaGreatDoor
open Go Go.V Go.RowKit
set_option linter.unusedVariables false
set_option linter.unusedSimpArgs false

abbrev TSt : TypeId := 9
abbrev TCl : TypeId := 32
abbrev TRq : TypeId := 42
abbrev THv : TypeId := 55
def TpO (w : World) (n0 : Nat) (t : TPc) : Prop := w.ownsRow n0 9 1 t.1.2 t.1.1.2.length (SL t.1.1.2) ∧ t.1.1.2.length ≤ 8796093022000 ∧ t.2.2 ≤ 18446744073709551615 ∧ Fine t.1.1
structure CliO (w : World) (n0 : Nat) (c : CLc) : Prop where
  len : c.2.length = 6
  at' : ∀ t ∈ c.2, TpO w n0 t
theorem CliO.at {w : World} {n0 : Nat} {c : CLc} (h : CliO w n0 c) : CliAt w c := ⟨h.len, fun t ht => ⟨SlR.of_own (h.at' t ht).1, (h.at' t ht).2.1, (h.at' t ht).2.2.1⟩⟩
/-- Writing blocks of other types leaves it. -/
theorem CliO.keepT {D : Nat → Prop} {w w' : World} {n0 : Nat} {c : CLc} (h : CliO w n0 c) (k : Keeps D w w') (hD : ∀ q, D q → ∃ cs T fr, w.heap[q]? = some (.cells cs T fr) ∧ TSt ≠ T) : CliO w' n0 c :=
  ⟨h.len, fun t ht => ⟨own_keep (h.at' t ht).1 k fun q hq e => by
    obtain ⟨cs, T, fr, hg, hT⟩ := hD q e
    exact V.F.own_neT (h.at' t ht).1 hg hT q hq rfl, (h.at' t ht).2⟩⟩
theorem CliO.keep {w w' : World} {n0 : Nat} {c : CLc} (h : CliO w n0 c) (k : Keeps NoB w w') : CliO w' n0 c := h.keepT k (fun _ h => h.elim)
theorem CliO.keep1 {w w' : World} {n0 b : Nat} {c : CLc} {cs : Array Value} {T : TypeId} {fr : Nat × Nat} (h : CliO w n0 c) (k : Keeps (· = b) w w') (hb : w.heap[b]? = some (.cells cs T fr)) (hT : TSt ≠ T) : CliO w' n0 c := h.keepT k (fun q e => ⟨cs, T, fr, by rw [show q = b from e]; exact hb, hT⟩)
theorem CliO.down {w : World} {n0 n1 : Nat} {c : CLc} (h : CliO w n0 c) (hn : n1 ≤ n0) : CliO w n1 c := ⟨h.len, fun t ht => ⟨own_down (h.at' t ht).1 hn, (h.at' t ht).2⟩⟩
theorem newC_O (w : World) (n0 : Nat) (d : Bool) : CliO w n0 (newC d) := ⟨by simp [newC], fun t ht => by
  have := List.eq_of_mem_replicate ht
  subst this
  exact ⟨own_nilV _ _ _ _, by decide, by decide, nil_fine false⟩⟩
theorem set_O {w : World} {n0 : Nat} {c : CLc} (h : CliO w n0 c) (q : Nat) {t : TPc} (ht : TpO w n0 t) : CliO w n0 (c.1, c.2.set q t) := ⟨by simp [h.len], fun y hy => by
  rcases List.mem_or_eq_of_mem_set hy with hy | rfl
  · exact h.at' y hy
  · exact ht⟩
theorem topicOf_O {w : World} {n0 : Nat} {c : CLc} (h : CliO w n0 c) (k : Int) : TpO w n0 (topicOf c k) := by
  have h0 : TpO w n0 zeroT := ⟨own_nilV _ _ _ _, by decide, by decide, nil_fine false⟩
  unfold topicOf
  split
  · cases hk : c.2[k.toNat]? with
    | none => exact h0
    | some t => exact h.at' t (List.mem_of_getElem? hk)
  · exact h0
theorem askC_O {w : World} {n0 : Nat} {c : CLc} (h : CliO w n0 c) (k : Int) {W : PS} {nv : Value} (hn : w.ownsRow n0 9 1 nv W.2.length (SL W.2)) (hl : W.2.length ≤ 8796093022000) (hf : Fine W) : CliO w n0 (askC c k W nv) :=
  set_O h _ ⟨hn, hl, (topicOf_O h k).2.2.1, hf⟩
theorem takeC_O {w : World} {n0 : Nat} {c : CLc} (h : CliO w n0 c) (k : Int) {n : Nat} (hn : n ≤ 18446744073709551615) : CliO w n0 (takeC c k n) :=
  set_O h _ ⟨(topicOf_O h k).1, (topicOf_O h k).2.1, hn, (topicOf_O h k).2.2.2⟩
theorem topicOf_new (d : Bool) (k : Int) : topicOf (newC d) k = zeroT := by
  unfold topicOf
  split
  · cases hk : (newC d).2[k.toNat]? with
    | none => rfl
    | some t => exact List.eq_of_mem_replicate (List.mem_of_getElem? hk)
  · rfl
theorem topicOf_set {c : CLc} (hl : c.2.length = 6) {k : Int} (hk : typedB k = true) (t : TPc) : topicOf (c.1, c.2.set k.toNat t) k = t := by
  have h15 : 1 ≤ k ∧ k ≤ 5 := by unfold typedB at hk; simpa using hk
  unfold topicOf
  rw [if_pos hk, List.getElem?_set_self (by rw [hl]; omega)]
  rfl
theorem topicOf_other {c : CLc} {k m : Int} (hk : typedB k = true) (hm : typedB m = true) (h : k ≠ m) (t : TPc) : topicOf (c.1, c.2.set k.toNat t) m = topicOf c m := by
  have h15 : 1 ≤ k ∧ k ≤ 5 := by unfold typedB at hk; simpa using hk
  have m15 : 1 ≤ m ∧ m ≤ 5 := by unfold typedB at hm; simpa using hm
  unfold topicOf
  rw [if_pos hm, if_pos hm, List.getElem?_set_ne (by omega)]
theorem topicOf_ask {c : CLc} (hl : c.2.length = 6) {k : Int} (hk : typedB k = true) (W : PS) (nv : Value) : topicOf (askC c k W nv) k = ((W, nv), true, (topicOf c k).2.2) := topicOf_set hl hk _
theorem topicOf_take {c : CLc} (hl : c.2.length = 6) {k : Int} (hk : typedB k = true) (n : Nat) : topicOf (takeC c k n) k = ((topicOf c k).1, (topicOf c k).2.1, n) := topicOf_set hl hk _
theorem sameP_self (W : PS) : sameP W W = true := by unfold sameP; simp
/-- What an Ask leaves. -/
def AskOut (w : World) (n0 : Nat) (c : CLc) (k : Int) (W : PS) (hv : List HV) (v : Value) : Prop :=
  (∃ e, askE c k W hv.length = some e ∧ v = .tuple #[CliV c, .agg zeroRq.toArray, .int .i64 e]) ∨ (askE c k W hv.length = none ∧ AskOk w n0 c k W hv v)
theorem ask_cb {c : CLc} {w : World} (h : CliAt w c) (hE : ErrT w) (k : Int) {W : PS} {wv : Value} (hw : SetR w W wv) (hf : Fine W) (hl : W.2.length ≤ 8796093021000)
    {hv : List HV} (hvx : ∀ x ∈ hv, x.1.length ≤ 9223372036854775807) {hvv : Value} (hhv : SlR w 2 hvv hv.length (hv.flatMap GHv)) :
    Ca Tryz.prog 12 #[CliV c, .int .i64 k, wv, hvv] w fun v w' => AskOut w' w.heap.size c k W hv v ∧ Keeps NoB w w' := by
  have h1 := listP_le W
  have hW : wantP' W = W := ofP_listP hf
  have := ask_ca h hE k W wv hw (by omega) (by omega) (listP_ok hf) (by rw [hW]; omega) hv hvx hvv hhv
  rw [hW] at this
  exact this
theorem AskOk.down {w : World} {n n' : Nat} {c : CLc} {k : Int} {W : PS} {hv : List HV} {v : Value} (h : AskOk w n c k W hv v) (hn : n' ≤ n) : AskOk w n' c k W hv v := by
  obtain ⟨nv, sub, uns, hav, e, h1, ⟨l2, e2, h2⟩, ⟨l3, e3, h3⟩, ⟨l4, e4, h4⟩⟩ := h
  exact ⟨nv, sub, uns, hav, e, own_down h1 hn, ⟨l2, e2, own_down h2 hn⟩, ⟨l3, e3, own_down h3 hn⟩, ⟨l4, e4, own_down h4 hn⟩⟩
theorem AskOk.keepT {D : Nat → Prop} {w w' : World} {n : Nat} {c : CLc} {k : Int} {W : PS} {hv : List HV} {v : Value} (h : AskOk w n c k W hv v) (kk : Keeps D w w') (hD : ∀ q, D q → q < n ∨ ∃ cs T fr, w.heap[q]? = some (.cells cs T fr) ∧ TSt ≠ T ∧ THv ≠ T) : AskOk w' n c k W hv v := by
  obtain ⟨nv, sub, uns, hav, e, h1, ⟨l2, e2, h2⟩, ⟨l3, e3, h3⟩, ⟨l4, e4, h4⟩⟩ := h
  have go : ∀ {T : TypeId} {sz m : Nat} {v : Value} {xs : List Value}, w.ownsRow n T sz v m xs → (T = TSt ∨ T = THv) → w'.ownsRow n T sz v m xs := fun ho hT => own_keep ho kk fun q hq e => by
    rcases hD q e with h | ⟨cs, T', fr, hg, h1, h2⟩
    · have := V.F.own_geF ho hq; omega
    · exact V.F.own_neT ho hg (by rcases hT with rfl | rfl <;> assumption) q hq rfl
  exact ⟨nv, sub, uns, hav, e, go h1 (.inl rfl), ⟨l2, e2, go h2 (.inl rfl)⟩, ⟨l3, e3, go h3 (.inl rfl)⟩, ⟨l4, e4, go h4 (.inr rfl)⟩⟩
theorem askOk_E3 {n0 b s1 s2 s3 i : Nat} {T2 T3 : TypeId} {w w' : World} {n : Nat} {c : CLc} {k : Int} {W : PS} {hv : List HV} {v : Value} (h : AskOk w n c k W hv v) (hb : b < n) (a1 : TSt ≠ T2) (a2 : TSt ≠ T3) (a3 : THv ≠ T2) (a4 : THv ≠ T3)
    (kk : V.F.Kp (V.E.othE (V.F.E3 n0 b s1 s2 T2 s3 T3) i w) w w') : AskOk w' n c k W hv v := h.keepT kk.1 fun q e => by
  obtain ⟨j, _, e | ⟨_, _, cs, fr, e⟩ | ⟨_, _, cs, fr, e⟩⟩ := e
  · exact .inl (by omega)
  · exact .inr ⟨cs, _, fr, e, a1, a3⟩
  · exact .inr ⟨cs, _, fr, e, a2, a4⟩
theorem setO_E3 {n0 b s1 s2 s3 i : Nat} {T2 T3 : TypeId} {w w' : World} {n : Nat} {s : PS} {v : Value} (h : SetO w n s v) (hb : b < n) (a1 : TSt ≠ T2) (a2 : TSt ≠ T3)
    (kk : V.F.Kp (V.E.othE (V.F.E3 n0 b s1 s2 T2 s3 T3) i w) w w') : SetO w' n s v := by
  obtain ⟨nv, e, h⟩ := h
  exact ⟨nv, e, V.F.own_E3 h hb a1 a2 kk⟩
theorem SetO.down {w : World} {n n' : Nat} {s : PS} {v : Value} (h : SetO w n s v) (hn : n' ≤ n) : SetO w n' s v := by
  obtain ⟨nv, e, h⟩ := h
  exact ⟨nv, e, own_down h hn⟩
theorem SetO.keepT {D : Nat → Prop} {w w' : World} {n : Nat} {s : PS} {v : Value} (h : SetO w n s v) (kk : Keeps D w w') (hD : ∀ q, D q → q < n ∨ ∃ cs T fr, w.heap[q]? = some (.cells cs T fr) ∧ TSt ≠ T) : SetO w' n s v := by
  obtain ⟨nv, e, h⟩ := h
  refine ⟨nv, e, own_keep h kk fun q hq e => ?_⟩
  rcases hD q e with h1 | ⟨cs, T', fr, hg, h1⟩
  · have := V.F.own_geF h hq; omega
  · exact V.F.own_neT h hg h1 q hq rfl
/-- What is told of an Ask that went through, as values alone. -/
theorem AskOk.cells {w : World} {n : Nat} {c : CLc} {k : Int} {W : PS} {hv : List HV} {v : Value} (h : AskOk w n c k W hv v) (hc : CliAt w c) (hl : W.2.length ≤ 8796093022000) :
    ∃ A R : List Value, v = .tuple #[.agg A.toArray, .agg R.toArray, .int .i64 0] ∧ A.length = 25 ∧ R.length = 7 ∧ (∀ u ∈ A, u.oneCell' = true) ∧ ∀ u ∈ R, u.oneCell' = true := by
  obtain ⟨nv, sub, uns, hav, e, h1, ⟨l2, e2, h2⟩, ⟨l3, e3, h3⟩, ⟨l4, e4, h4⟩⟩ := h
  have hA : CliAt w (askC c k W nv) := ⟨by simp [askC, hc.len], fun y hy => by
    rcases List.mem_or_eq_of_mem_set hy with hy | rfl
    · exact hc.at' y hy
    · exact ⟨SlR.of_own h1, hl, (topicOf_at hc k).2.2⟩⟩
  exact ⟨_, _, e, GCl_len hA.len, rfl, GCl_one hA, GRq_one (own_one h2) (own_one h3) (own_one h4)⟩
theorem own_sl {w : World} {n m sz : Nat} {T : TypeId} {v : Value} {xs : List Value} (h : w.ownsRow n T sz v m xs) : ∃ a c, v = .slice a m c := by
  rcases h.2 with ⟨rfl, rfl⟩ | ⟨g, cap, cur, rfl, _⟩
  · exact ⟨_, _, rfl⟩
  · exact ⟨_, _, rfl⟩
theorem slR_blk {w : World} {b n sz : Nat} {cs : List Value} {T : TypeId} {fr : Nat × Nat} (hb : w.heap[b]? = some (.cells cs.toArray T fr)) (hl : cs.length = n * sz) : SlR w sz (.slice (some ⟨b, 0, none⟩) n n) n cs :=
  ⟨hl, _, n, rfl, Nat.le_refl _, .inr ⟨b, 0, _, _, _, rfl, hb, fun j hj => by simp⟩⟩
theorem slR_nilH (w : World) : SlR w 2 nilV ([] : List HV).length (([] : List HV).flatMap GHv) := ⟨rfl, none, 0, rfl, Nat.le_refl _, .inl ⟨rfl, fun _ => rfl⟩⟩
theorem ErrT.keepT {D : Nat → Prop} {w w' : World} (h : ErrT w) (k : Keeps D w w') (hD : ∀ q, D q → 0 ≠ q) : ErrT w' := by
  obtain ⟨T, fr, hg⟩ := h
  exact ⟨T, fr, k.heap hg fun e => hD _ e rfl⟩
/-- Rows of two types. -/
theorem own_own {w : World} {b1 b2 z1 z2 n1 n2 : Nat} {T1 T2 : TypeId} {v1 v2 : Value} {x1 x2 : List Value} (h1 : w.ownsRow b1 T1 z1 v1 n1 x1) (h2 : w.ownsRow b2 T2 z2 v2 n2 x2) (hT : T1 ≠ T2) : ∀ b, v1.ownBlock = some b → ¬ v2.ownBlock = some b := by
  intro b hb hb2
  rcases h2.2 with ⟨rfl, _⟩ | ⟨g, cap, cur, rfl, _, hg, _⟩
  · cases hb2
  · simp [Value.ownBlock] at hb2
    subst hb2
    exact V.F.own_neT h1 hg hT _ hb rfl
/-- A set's names do not stand in a block that holds no texts. -/
theorem SetR.put {w w' : World} {s : PS} {v : Value} {q : Nat} {c : Array Value} {T : TypeId} {fr : Nat × Nat} (h : SetR w s v) (k : Keeps (· = q) w w') (hq : w.heap[q]? = some (.cells c T fr)) (hc : ∀ (j : Nat) (t : TT), c[j]? ≠ some (S t)) : SetR w' s v := by
  obtain ⟨nv, rfl, hl, a, cp, rfl, hcp, h⟩ := h
  refine ⟨_, rfl, hl, a, cp, rfl, hcp, ?_⟩
  rcases h with h | ⟨b, o, cur, e, fr', rfl, hb, hr⟩
  · exact .inl h
  · cases hs : s.2 with
    | nil => exact .inl ⟨rfl, fun h => by cases h⟩
    | cons x l =>
      refine .inr ⟨b, o, cur, e, fr', rfl, k.heap hb fun e => ?_, by rw [hs] at hr; exact hr⟩
      have e : b = q := e
      subst e
      rw [hq] at hb
      injection hb with hb
      injection hb with hb
      subst hb
      have := hr 0 (by rw [hs]; simp)
      rw [hs] at this
      exact hc (o + 0) x this
theorem setCells_ne (a : Bool) (nv : Value) (hn : ∀ t : TT, nv ≠ S t) : ∀ (j : Nat) (t : TT), (#[.bool a, nv] : Array Value)[j]? ≠ some (S t) := by
  intro j t h
  match j with
  | 0 => simp at h
  | 1 => simp at h; exact hn t h
  | j + 2 => simp at h
theorem has_cb {s : PS} {x : TT} {sv : Value} {w : World} (B : Bool) (hB : hasP s x = B) (hx : x.length ≤ 9223372036854775807) (hs : SetR w s sv) (hlen : s.2.length ≤ 8796093022000) :
    Ca Tryz.prog 18 #[sv, S x] w fun v w' => v = .bool B ∧ Keeps NoB w w' := by
  obtain ⟨nv, rfl, h⟩ := hs
  subst hB
  exact has_ca s.1 s.2 x nv w hx h hlen
theorem same_cb {s t : PS} {sv tv : Value} {w : World} (B : Bool) (hB : sameP s t = B) (hs : SetR w s sv) (ht : SetR w t tv) (hsn : s.2.length ≤ 8796093022000) (htn : t.2.length ≤ 8796093022000) :
    Ca Tryz.prog 31 #[sv, tv] w fun v w' => v = .bool B ∧ Keeps NoB w w' := by
  subst hB
  exact same_ca s t sv tv w hs ht hsn htn
theorem keepF_nil (p : TT → Bool) : keepF p [] = [] := rfl
theorem askE_zero {c : CLc} {k : Int} {W : PS} {hn : Nat} (ht : topicOf c k = zeroT) (hk : typedB k = true) (hl : W.2.length ≤ 63) (hh : hn ≤ 64) : askE c k W hn = none := by
  have h1 := listP_le W
  have h2 : (moreL c zeroT.1.1 W).length ≤ 64 := by
    unfold moreL
    split
    · have := listP_le (lessP W zeroT.1.1)
      have := lessP_le W zeroT.1.1
      omega
    · simp
  have h3 : (lessL c zeroT.1.1 W).length ≤ 64 := by
    unfold lessL
    split
    · simp [lessP, zeroT, zeroSE, listP, keepF_nil]
    · simp
  unfold askE
  rw [ht, hk, decide_eq_true (show (listP W).length ≤ 64 by omega), decide_eq_true h2, decide_eq_true h3, decide_eq_true hh]
  rfl
theorem take_cb {c : CLc} {w : World} (h : CliAt w c) (hE : ErrT w) (k : Int) (d : Bool) (n : Nat) (hn : n ≤ 18446744073709551615) :
    Ca Tryz.prog 11 #[CliV c, .agg (GRp k d false n 0 nilV nilV).toArray] w fun v w' => v = .tuple #[CliV (if takeE (rightB k d false n) c k d n = none then takeC c k n else c), .int .i64 ((takeE (rightB k d false n) c k d n).getD 0)] ∧ Keeps NoB w w' :=
  take_ca h hE k d false n 0 nilV nilV (rightB k d false n) hn rfl rfl (by unfold rightB; cases typedB k <;> simp) (fun w' _ => rightResp_ca k d false n 0 w')
theorem take_ok {c : CLc} {w : World} (h : CliAt w c) (hE : ErrT w) {k : Int} {d : Bool} {n : Nat} (hn : n ≤ 18446744073709551615) (he : takeE (rightB k d false n) c k d n = none) :
    Ca Tryz.prog 11 #[CliV c, .agg (GRp k d false n 0 nilV nilV).toArray] w fun v w' => v = .tuple #[CliV (takeC c k n), .int .i64 0] ∧ Keeps NoB w w' := by
  have := take_cb h hE k d n hn
  rw [he] at this
  exact this
theorem take_no {c : CLc} {w : World} (h : CliAt w c) (hE : ErrT w) {k : Int} {d : Bool} {n : Nat} {e : Int} (hn : n ≤ 18446744073709551615) (he : takeE (rightB k d false n) c k d n = some e) :
    Ca Tryz.prog 11 #[CliV c, .agg (GRp k d false n 0 nilV nilV).toArray] w fun v w' => v = .tuple #[CliV c, .int .i64 e] ∧ Keeps NoB w w' := by
  have := take_cb h hE k d n hn
  rw [he] at this
  exact this
theorem answer_no {c : CLc} {w : World} (h : CliAt w c) (hE : ErrT w) {k : Int} {dt : TT} {e : Int} (hdt : dt.length ≤ 9223372036854775807) (he : answerE c k dt = some e) :
    Ca Tryz.prog 14 #[CliV c, .int .i64 k, S dt] w fun v w' => v = .tuple #[.agg zeroRq.toArray, .int .i64 e] ∧ Keeps NoB w w' :=
  (answer_ca h hE k dt hdt).mono fun v w' h => by
    refine ⟨?_, h.2⟩
    rcases h.1 with ⟨e', he', rfl⟩ | ⟨he', _⟩
    · rw [he] at he'; injection he' with he'; subst he'; rfl
    · rw [he] at he'; cases he'
/-- An answer that goes through: a request of the nonce. -/
theorem answer_ok {c : CLc} {w : World} (h : CliAt w c) (hE : ErrT w) {k : Int} {dt : TT} (hdt : dt.length ≤ 9223372036854775807) (he : answerE c k dt = none) :
    Ca Tryz.prog 14 #[CliV c, .int .i64 k, S dt] w fun v w' => (∃ sub ls, v = .tuple #[.agg (GRq k c.1 (topicOf c k).2.2 sub nilV nilV dt).toArray, .int .i64 0] ∧ ls = (if c.1 = true then [] else listP (topicOf c k).1.1) ∧ w'.ownsRow w.heap.size 9 1 sub ls.length (SL ls)) ∧ Keeps NoB w w' :=
  (answer_ca h hE k dt hdt).mono fun v w' h => by
    refine ⟨?_, h.2⟩
    rcases h.1 with ⟨e', he', rfl⟩ | ⟨_, sub, rfl, h1, h2⟩
    · rw [he] at he'; cases he'
    · cases hd : c.1 with
      | true => exact ⟨sub, [], rfl, rfl, by rw [h1 hd]; exact own_nilV _ _ _ _⟩
      | false => exact ⟨sub, _, rfl, rfl, h2 hd⟩
end Go.Proofs.YtahlhldkcekbfaaGreatDoor
