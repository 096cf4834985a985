/- norialaw09.NamesOf: the row and its card. Written by mkrow.py. -/
import Derived.Test.YtfdpnkmchedeeaaDoorOb
import Derived.Test.YtfdpnkmchedeeaaDoorNts
import Derived.SizedLaws
namespace Go.Proofs.YtfdpnkmchedeeaaDoor
open Go Go.V Go.RowKit Go.ChangeShapes Go.WideShapes Go.ChangeAt
set_option linter.unusedVariables false

namespace NamesOf
set_option maxRecDepth 100000 in
theorem contract (H : Type) (enc : TypeId × Value → H) (W : World) (base : Nat) (args : Array Value) (ds gs : List (DataW H)) (before : List MemPlace)
    (hval : ∀ (j : Nat) t v, Tryd.f3.params[j]? = some t → args[j]? = some v → Value.okWide Tryd.prog W .any base t v)
    (hW : DataW.Whole enc Tryd.prog Tryd.f3.params.toList Rows.namesOfSpec.vars false W args.toList ds gs before) (hsz : (DataW.weightsEach Tryd.prog (Tryd.f3.params.toList ++ (OpenSpec.ofChange Rows.namesOfSpec).bare.plain.varTypes Tryd.prog) (ds ++ gs)).all (· ≤ reachBytes) = true) :
    Calls Tryd.prog 3 args W fun e W' => ∃ v, e = .returned v ∧ Rows.namesOfSpec.post enc Tryd.prog Tryd.f3 false true false false W args v W' := by
  have hW' := hW
  obtain ⟨p, q, hA0, hV, rfl, hfz, hnd⟩ := hW
  have hA : DataW.TrodAll enc Tryd.prog W 0 (fun _ => true) true Tryd.f3.params.toList args.toList ds p := hA0
  rw [Tryd.params3] at hA hval
  obtain ⟨v0, vs0, d0, ds0, p0, q0, hargs0, rfl, rfl, h0, r0⟩ := trodAll_cons hA
  obtain ⟨v1, vs1, d1, ds1, p1, q1, hargs1, rfl, rfl, h1, r1⟩ := trodAll_cons r0
  obtain ⟨v2, vs2, d2, ds2, p2, q2, hargs2, rfl, rfl, h2, r2⟩ := trodAll_cons r1
  obtain ⟨v3, vs3, d3, ds3, p3, q3, hargs3, rfl, rfl, h3, r3⟩ := trodAll_cons r2
  obtain ⟨hnil, rfl, rfl⟩ := trodAll_nil r3
  have hargs : args = #[v0, v1, v2, v3] := by apply Array.toList_inj.1; rw [hargs0, hargs1, hargs2, hargs3, hnil]
  subst hargs
  clear hnil hargs0 hargs1 hargs2 hargs3
  obtain ⟨rfl, rfl⟩ := trodVars_none hV
  rw [List.append_nil] at hsz
  obtain ⟨bl, hbl, hbl8⟩ := open_bytes (hval 0 22 v0 rfl rfl) h0
  obtain ⟨tl, htl, htok, hdl⟩ := open_strs (hval 1 23 v1 rfl rfl) h1
  have htn : tl.length ≤ 8796093021952 := by
    rcases hdl with h | ⟨elems, rest, e, he⟩
    · omega
    · subst e
      have h := sized_slice hsz (j := 1) (t := 23) (by kernel_rfl) rfl Tryd.underlying23
      rw [bytesStr] at h
      have h2 : reachBytes = 140737488351232 := rfl
      rw [h2] at h
      omega
  obtain ⟨own, rfl, rfl, rfl⟩ := open_bool Tryd.underlying4 (hval 2 4 v2 rfl rfl) h2
  obtain ⟨nm, rfl, rfl, rfl, hs3⟩ := ChangeMaps.open_string Tryd.underlying9 (hval 3 9 v3 rfl rfl) h3
  have hr3 : nm.data.toList.length ≤ 140737488351232 := Nat.le_trans (sized_string hsz (j := 3) (t := 9) (by kernel_rfl) rfl) (by decide)
  have hl3 : nm.data.toList.length ≤ 9223372036854775807 := by
    have : nm.data.toList.length = nm.size := Array.length_toList
    rw [this]; exact hs3
  clear hsz
  refine (Ca.calls (of_law bl tl own nm.data.toList v0 v1 _ hbl hbl8 htl htn htok hl3)).mono ?_
  rintro e W' ⟨v, rfl, rfl, hk⟩
  exact ⟨_, rfl, post_law laidOut rfl (by kernel_rfl) rfl Tryd.underlying4 rfl hW' hk.below⟩
theorem reads (os : Os) {H : Type} (enc : TypeId × Value → H) : ∃ places, DataW.whole enc Tryd.prog ((laidWorld os).forCall (fun _ _ => 0) ⟨#[], #[.slice none 0 0, .slice none 0 0, .bool false, .string ⟨#[]⟩], []⟩).memory Tryd.f3.params.toList Rows.namesOfSpec.vars false (#[.slice none 0 0, .slice none 0 0, .bool false, .string ⟨#[]⟩] : Array Value).toList 8 = some ([.nil, .nil, .lit (.bool false), .lit (.string [])], [], places) :=
  ⟨[], by kernel_rfl⟩
set_option maxRecDepth 100000 in
theorem lifted (os : Os) (started : os.Started) (H : Type) (enc : TypeId × Value → H) (F : Stop.Interp) :
    ReturnsInHanded {} Tryd.checked os 3 .any ((OpenSpec.ofChange Rows.namesOfSpec).preRow enc Tryd.prog Tryd.f3 Rows.namesOfRow.domain false Rows.namesOfRow.laid) (((OpenSpec.ofChange Rows.namesOfSpec).at F).post enc Tryd.prog Tryd.f3 false true false false) := by
  obtain ⟨places, hx⟩ := reads os enc
  refine returnsInHanded_of_row (C := Tryd.checked) (s := OpenSpec.ofChange Rows.namesOfSpec) own started (by kernel_rfl) Tryd.func3
    (witness_row_at (enc := enc) (C := Tryd.checked) false (laidWorld os) #[.slice none 0 0, .slice none 0 0, .bool false, .string ⟨#[]⟩] rfl (by kernel_rfl) (by kernel_rfl) (by kernel_rfl)
      (OpenSpec.preRow_of_cond 8 hx (by kernel_rfl) (fun k hk => by cases hk) (by kernel_rfl) (laid_met os _))) ?_
  intro W base args ds gs before hval hW _ hcond hsz hL _ _
  exact contract H enc W base args ds gs before hval hW hsz
theorem said : Rows.NamesOfSaid :=
  OpenClaim.holds_of_cond 3 Tryd.f3 rfl rfl rfl rfl rfl rfl rfl ⟨rfl, rfl, rfl, rfl, rfl⟩ rfl rfl rfl rfl rfl (by kernel_rfl) Tryd.func3 (by kernel_rfl)
    (of_decide_eq_true (by kernel_rfl)) (by unfold Func.isWrapper; first | (rw [if_pos (by decide +kernel)]; kernel_rfl) | (rw [if_neg (by decide +kernel)]; exact ⟨rfl, rfl⟩))
    (fun os started H enc _ F => by rw [OpenClaim.pre_eq_preRow]; exact lifted os started H enc F)
theorem card_holds : Rows.NamesOfCardSaid :=
  Claim7.holds_tied_plain_at .later [] _ _ _ _ said (fun _ h => by cases h) (by kernel_rfl) (fun _ h => by cases h) namesOf_row_tie rfl ⟨rfl, rfl⟩ (by kernel_rfl) rfl
    (fun f fn hf hfn => by
      obtain rfl : f = 3 := Option.some.inj ((show Tryd.prog.funcNamed "noria/norialaw09.NamesOf" = some 3 by kernel_rfl).symm.trans hf) |>.symm
      obtain rfl : fn = Tryd.f3 := (Option.some.inj (Tryd.func3.symm.trans hfn)).symm
      exact ⟨by kernel_rfl, fun j t ht => by
        rw [Tryd.params3] at ht
        have hm : t ∈ [22, 23, 4, 9] := List.mem_of_getElem? (l := [22, 23, 4, 9]) (i := j) (a := t) (by simpa using ht)
        have key : [22, 23, 4, 9].all (fun t => !Tryd.prog.wantsStandIn t) = true := by kernel_rfl
        have h1 := List.all_eq_true.1 key t hm
        simp only [Bool.not_eq_true'] at h1
        exact h1⟩)
    (by kernel_rfl)
#print axioms card_holds
end NamesOf
end Go.Proofs.YtfdpnkmchedeeaaDoor
