/- norialaw01.WireBack: the row and its card. Written by mkrow.py. -/
import Derived.Test.YtpilcnkgpgkboaaDoorLb
import Derived.Test.YtpilcnkgpgkboaaDoorRa
import Derived.SizedLaws
namespace Go.Proofs.YtpilcnkgpgkboaaDoor
open Go Go.V Go.RowKit Go.ChangeShapes Go.WideShapes Go.ChangeAt
set_option linter.unusedVariables false

namespace WireBack
set_option maxRecDepth 100000 in
theorem contract (H : Type) (enc : TypeId × Value → H) (W : World) (base : Nat) (args : Array Value) (ds gs : List (DataW H)) (before : List MemPlace)
    (hval : ∀ (j : Nat) t v, Tryd.f9.params[j]? = some t → args[j]? = some v → Value.okWide Tryd.prog W .any base t v)
    (hW : DataW.Whole enc Tryd.prog Tryd.f9.params.toList Rows.wireBackSpec.vars false W args.toList ds gs before) (hsz : (DataW.weightsEach Tryd.prog (Tryd.f9.params.toList ++ (OpenSpec.ofChange Rows.wireBackSpec).bare.plain.varTypes Tryd.prog) (ds ++ gs)).all (· ≤ reachBytes) = true) (hL : laidMetH Tryd.prog laidE W) :
    Calls Tryd.prog 9 args W fun e W' => ∃ v, e = .returned v ∧ Rows.wireBackSpec.post enc Tryd.prog Tryd.f9 false true false false W args v W' := by
  obtain ⟨ea, eb, hg⟩ := glo_of_laid hL
  have hW' := hW
  obtain ⟨p, q, hA0, hV, rfl, hfz, hnd⟩ := hW
  have hA : DataW.TrodAll enc Tryd.prog W 0 (fun _ => true) true Tryd.f9.params.toList args.toList ds p := hA0
  rw [Tryd.params9] at hA hval
  obtain ⟨v0, vs0, d0, ds0, p0, q0, hargs0, rfl, rfl, h0, r0⟩ := trodAll_cons hA
  obtain ⟨v1, vs1, d1, ds1, p1, q1, hargs1, rfl, rfl, h1, r1⟩ := trodAll_cons r0
  obtain ⟨v2, vs2, d2, ds2, p2, q2, hargs2, rfl, rfl, h2, r2⟩ := trodAll_cons r1
  obtain ⟨v3, vs3, d3, ds3, p3, q3, hargs3, rfl, rfl, h3, r3⟩ := trodAll_cons r2
  obtain ⟨v4, vs4, d4, ds4, p4, q4, hargs4, rfl, rfl, h4, r4⟩ := trodAll_cons r3
  obtain ⟨v5, vs5, d5, ds5, p5, q5, hargs5, rfl, rfl, h5, r5⟩ := trodAll_cons r4
  obtain ⟨hnil, rfl, rfl⟩ := trodAll_nil r5
  have hargs : args = #[v0, v1, v2, v3, v4, v5] := by apply Array.toList_inj.1; rw [hargs0, hargs1, hargs2, hargs3, hargs4, hargs5, hnil]
  subst hargs
  clear hnil hargs0 hargs1 hargs2 hargs3 hargs4 hargs5
  obtain ⟨rfl, rfl⟩ := trodVars_none hV
  rw [List.append_nil] at hsz
  obtain ⟨z0, rfl, rfl, rfl, wf0⟩ := open_int Tryd.underlying22 (hval 0 22 v0 rfl rfl) h0
  have bd0 := bounds_u64 wf0
  obtain ⟨a, rfl⟩ := Int.eq_ofNat_of_zero_le bd0.1
  obtain ⟨z1, rfl, rfl, rfl, wf1⟩ := open_int Tryd.underlying22 (hval 1 22 v1 rfl rfl) h1
  have bd1 := bounds_u64 wf1
  obtain ⟨b, rfl⟩ := Int.eq_ofNat_of_zero_le bd1.1
  obtain ⟨s, rfl, rfl, rfl, hs2⟩ := ChangeMaps.open_string Tryd.underlying9 (hval 2 9 v2 rfl rfl) h2
  have hr2 : s.data.toList.length ≤ 140737488351232 := Nat.le_trans (sized_string hsz (j := 2) (t := 9) (by kernel_rfl) rfl) (by decide)
  have hl2 : s.data.toList.length ≤ 9223372036854775807 := by
    have : s.data.toList.length = s.size := Array.length_toList
    rw [this]; exact hs2
  obtain ⟨t, rfl, rfl, rfl, hs3⟩ := ChangeMaps.open_string Tryd.underlying9 (hval 3 9 v3 rfl rfl) h3
  have hr3 : t.data.toList.length ≤ 140737488351232 := Nat.le_trans (sized_string hsz (j := 3) (t := 9) (by kernel_rfl) rfl) (by decide)
  have hl3 : t.data.toList.length ≤ 9223372036854775807 := by
    have : t.data.toList.length = t.size := Array.length_toList
    rw [this]; exact hs3
  obtain ⟨z4, rfl, rfl, rfl, wf4⟩ := open_int Tryd.underlying59 (hval 4 59 v4 rfl rfl) h4
  have bd4 := bounds_u16 wf4
  obtain ⟨num, rfl⟩ := Int.eq_ofNat_of_zero_le bd4.1
  obtain ⟨z5, rfl, rfl, rfl, wf5⟩ := open_int Tryd.underlying59 (hval 5 59 v5 rfl rfl) h5
  have bd5 := bounds_u16 wf5
  obtain ⟨cut, rfl⟩ := Int.eq_ofNat_of_zero_le bd5.1
  clear hsz
  refine (Ca.calls (wireBack_ca hg a b s.data.toList t.data.toList num cut (by omega) (by omega) (by omega) (by omega) (by omega) (by omega))).mono ?_
  rintro e W' ⟨v, rfl, rfl, hk⟩
  exact ⟨_, rfl, post_law laidOut rfl (by kernel_rfl) rfl Tryd.underlying4 rfl hW' hk.below⟩
theorem reads (os : Os) {H : Type} (enc : TypeId × Value → H) : ∃ places, DataW.whole enc Tryd.prog ((laidWorld os).forCall (fun _ _ => 0) ⟨#[], #[.int .u64 0, .int .u64 0, .string ⟨#[]⟩, .string ⟨#[]⟩, .int .u16 0, .int .u16 0], []⟩).memory Tryd.f9.params.toList Rows.wireBackSpec.vars false (#[.int .u64 0, .int .u64 0, .string ⟨#[]⟩, .string ⟨#[]⟩, .int .u16 0, .int .u16 0] : Array Value).toList 8 = some ([.lit (.int .u64 0), .lit (.int .u64 0), .lit (.string []), .lit (.string []), .lit (.int .u16 0), .lit (.int .u16 0)], [], places) :=
  ⟨[], by kernel_rfl⟩
set_option maxRecDepth 100000 in
theorem lifted (os : Os) (started : os.Started) (H : Type) (enc : TypeId × Value → H) (F : Stop.Interp) :
    ReturnsInHanded {} Tryd.checked os 9 .any ((OpenSpec.ofChange Rows.wireBackSpec).preRow enc Tryd.prog Tryd.f9 Rows.wireBackRow.domain false Rows.wireBackRow.laid) (((OpenSpec.ofChange Rows.wireBackSpec).at F).post enc Tryd.prog Tryd.f9 false true false false) := by
  obtain ⟨places, hx⟩ := reads os enc
  refine returnsInHanded_of_row (C := Tryd.checked) (s := OpenSpec.ofChange Rows.wireBackSpec) own started (by kernel_rfl) Tryd.func9
    (witness_row_at (enc := enc) (C := Tryd.checked) false (laidWorld os) #[.int .u64 0, .int .u64 0, .string ⟨#[]⟩, .string ⟨#[]⟩, .int .u16 0, .int .u16 0] rfl (by kernel_rfl) (by kernel_rfl) (by kernel_rfl)
      (OpenSpec.preRow_of_cond 8 hx (by kernel_rfl) (fun k hk => by cases hk) (by kernel_rfl) (laid_met os _))) ?_
  intro W base args ds gs before hval hW _ hcond hsz hL _ _
  exact contract H enc W base args ds gs before hval hW hsz hL
theorem said : Rows.WireBackSaid :=
  OpenClaim.holds_of_cond 9 Tryd.f9 rfl rfl rfl rfl rfl rfl rfl ⟨rfl, rfl, rfl, rfl, rfl⟩ rfl rfl rfl rfl rfl (by kernel_rfl) Tryd.func9 (by kernel_rfl)
    (of_decide_eq_true (by kernel_rfl)) (by unfold Func.isWrapper; first | (rw [if_pos (by decide +kernel)]; kernel_rfl) | (rw [if_neg (by decide +kernel)]; exact ⟨rfl, rfl⟩))
    (fun os started H enc _ F => by rw [OpenClaim.pre_eq_preRow]; exact lifted os started H enc F)
theorem card_holds : Rows.WireBackCardSaid :=
  Claim7.holds_tied_plain_at .later [] _ _ _ _ said (fun _ h => by cases h) (by kernel_rfl) (fun _ h => by cases h) wireBack_row_tie rfl ⟨rfl, rfl⟩ (by kernel_rfl) rfl
    (fun f fn hf hfn => by
      obtain rfl : f = 9 := Option.some.inj ((show Tryd.prog.funcNamed "noria/norialaw01.WireBack" = some 9 by kernel_rfl).symm.trans hf) |>.symm
      obtain rfl : fn = Tryd.f9 := (Option.some.inj (Tryd.func9.symm.trans hfn)).symm
      exact ⟨by kernel_rfl, fun j t ht => by
        rw [Tryd.params9] at ht
        have hm : t ∈ [22, 22, 9, 9, 59, 59] := List.mem_of_getElem? (l := [22, 22, 9, 9, 59, 59]) (i := j) (a := t) (by simpa using ht)
        have key : [22, 22, 9, 9, 59, 59].all (fun t => !Tryd.prog.wantsStandIn t) = true := by kernel_rfl
        have h1 := List.all_eq_true.1 key t hm
        simp only [Bool.not_eq_true'] at h1
        exact h1⟩)
    (by kernel_rfl)
#print axioms card_holds
end WireBack
end Go.Proofs.YtpilcnkgpgkboaaDoor
