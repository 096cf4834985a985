/- norialaw02.PayloadGets: the row and its card. Written by mkrow.py. -/
import Derived.Test.YthlbgeonobicbaaDoorRg
import Derived.Test.YthlbgeonobicbaaDoorZi
namespace Go.Proofs.YthlbgeonobicbaaDoor
open Go Go.V Go.RowKit Go.ChangeShapes Go.WideShapes Go.ChangeAt
set_option linter.unusedVariables false

namespace PayloadGets
set_option maxRecDepth 100000 in
theorem contract (H : Type) (enc : TypeId × Value → H) (W : World) (base : Nat) (args : Array Value) (ds gs : List (DataW H)) (before : List MemPlace)
    (hval : ∀ (j : Nat) t v, Tryd.f3.params[j]? = some t → args[j]? = some v → Value.okWide Tryd.prog W .any base t v)
    (hW : DataW.Whole enc Tryd.prog Tryd.f3.params.toList Rows.payloadGetsSpec.vars false W args.toList ds gs before) (hcond : Rows.uptoBulkAll (ds ++ gs) ≤ 1048576) (hL : laidMetH Tryd.prog laidE W) :
    Calls Tryd.prog 3 args W fun e W' => ∃ v, e = .returned v ∧ Rows.payloadGetsSpec.post enc Tryd.prog Tryd.f3 false true false false W args v W' := by
  obtain ⟨ea, eb, hg⟩ := glo_of_laid hL
  have hW' := hW
  obtain ⟨p, q, hA0, hV, rfl, hfz, hnd⟩ := hW
  have hA : DataW.TrodAll enc Tryd.prog W 0 (fun _ => true) true Tryd.f3.params.toList args.toList ds p := hA0
  rw [Tryd.params3] at hA hval
  obtain ⟨v0, vs0, d0, ds0, p0, q0, hargs0, rfl, rfl, h0, r0⟩ := trodAll_cons hA
  obtain ⟨v1, vs1, d1, ds1, p1, q1, hargs1, rfl, rfl, h1, r1⟩ := trodAll_cons r0
  obtain ⟨v2, vs2, d2, ds2, p2, q2, hargs2, rfl, rfl, h2, r2⟩ := trodAll_cons r1
  obtain ⟨v3, vs3, d3, ds3, p3, q3, hargs3, rfl, rfl, h3, r3⟩ := trodAll_cons r2
  obtain ⟨v4, vs4, d4, ds4, p4, q4, hargs4, rfl, rfl, h4, r4⟩ := trodAll_cons r3
  obtain ⟨v5, vs5, d5, ds5, p5, q5, hargs5, rfl, rfl, h5, r5⟩ := trodAll_cons r4
  obtain ⟨hnil, rfl, rfl⟩ := trodAll_nil r5
  have hargs : args = #[v0, v1, v2, v3, v4, v5] := by apply Array.toList_inj.1; rw [hargs0, hargs1, hargs2, hargs3, hargs4, hargs5, hnil]
  subst hargs
  clear hnil hargs0 hargs1 hargs2 hargs3 hargs4 hargs5
  obtain ⟨rfl, rfl⟩ := trodVars_none hV
  obtain ⟨m, rv, av, rfl, hs0, hm0⟩ := open_made (hval 0 28 v0 rfl rfl) h0
  obtain ⟨s, rfl, rfl, rfl, hs1⟩ := ChangeMaps.open_string Tryd.underlying9 (hval 1 9 v1 rfl rfl) h1
  have hl1 : s.data.toList.length ≤ 9223372036854775807 := by
    have : s.data.toList.length = s.size := Array.length_toList
    rw [this]; exact hs1
  obtain ⟨own, rfl, rfl, rfl⟩ := open_bool Tryd.underlying4 (hval 2 4 v2 rfl rfl) h2
  obtain ⟨z3, rfl, rfl, rfl, wf3⟩ := open_int Tryd.underlying3 (hval 3 3 v3 rfl rfl) h3
  have bd3 := bounds_i64 wf3
  obtain ⟨at_, rfl⟩ : ∃ x, x = z3 := ⟨_, rfl⟩
  obtain ⟨z4, rfl, rfl, rfl, wf4⟩ := open_int Tryd.underlying5 (hval 4 5 v4 rfl rfl) h4
  have bd4 := bounds_u8 wf4
  obtain ⟨by0, rfl⟩ := Int.eq_ofNat_of_zero_le bd4.1
  obtain ⟨z5, rfl, rfl, rfl, wf5⟩ := open_int Tryd.underlying3 (hval 5 3 v5 rfl rfl) h5
  have bd5 := bounds_i64 wf5
  obtain ⟨kind, rfl⟩ : ∃ x, x = z5 := ⟨_, rfl⟩
  simp only [List.append_nil, Rows.uptoBulkAll, Rows.uptoBulk] at hcond
  obtain ⟨b8, hb8⟩ : ∃ b8 : UInt8, b8.toNat = by0 := ⟨UInt8.ofNat by0, by simp; omega⟩
  subst hb8
  refine (Ca.calls (payloadGets_ca m (hm0 (by omega)) s.data.toList (by omega) own at_ (by omega) b8 kind rv av _ hs0 hg)).mono ?_
  rintro e W' ⟨v, rfl, rfl, hk⟩
  exact ⟨_, rfl, post_law laidOut rfl (by kernel_rfl) rfl Tryd.underlying4 rfl hW' hk.below⟩
theorem reads (os : Os) {H : Type} (enc : TypeId × Value → H) : ∃ places, DataW.whole enc Tryd.prog ((laidWorld os).forCall (fun _ _ => 0) ⟨#[], #[.agg #[.string ⟨#[]⟩, .int .u64 0, .string ⟨#[]⟩, .slice none 0 0, .int .u64 0, .string ⟨#[]⟩, .slice none 0 0, .string ⟨#[]⟩, .int .i64 0, .bool false, .int .u8 0, .int .u8 0], .string ⟨#[]⟩, .bool false, .int .i64 0, .int .u8 0, .int .i64 0], []⟩).memory Tryd.f3.params.toList Rows.payloadGetsSpec.vars false (#[.agg #[.string ⟨#[]⟩, .int .u64 0, .string ⟨#[]⟩, .slice none 0 0, .int .u64 0, .string ⟨#[]⟩, .slice none 0 0, .string ⟨#[]⟩, .int .i64 0, .bool false, .int .u8 0, .int .u8 0], .string ⟨#[]⟩, .bool false, .int .i64 0, .int .u8 0, .int .i64 0] : Array Value).toList 8 = some ([.agg [.agg [.lit (.string []), .lit (.int .u64 0), .lit (.string []), .nil, .lit (.int .u64 0), .lit (.string []), .nil, .lit (.string [])], .lit (.int .i64 0), .lit (.bool false), .lit (.int .u8 0), .lit (.int .u8 0)], .lit (.string []), .lit (.bool false), .lit (.int .i64 0), .lit (.int .u8 0), .lit (.int .i64 0)], [], places) :=
  ⟨[], by kernel_rfl⟩
set_option maxRecDepth 100000 in
theorem lifted (os : Os) (started : os.Started) (H : Type) (enc : TypeId × Value → H) (F : Stop.Interp) :
    ReturnsInHanded {} Tryd.checked os 3 .any ((Rows.OpenSpec.upto Rows.payloadGetsSpec).preRow enc Tryd.prog Tryd.f3 Rows.payloadGetsUptoRow.domain false Rows.payloadGetsUptoRow.laid) (((Rows.OpenSpec.upto Rows.payloadGetsSpec).at F).post enc Tryd.prog Tryd.f3 false true false false) := by
  obtain ⟨places, hx⟩ := reads os enc
  refine returnsInHanded_of_row (C := Tryd.checked) (s := Rows.OpenSpec.upto Rows.payloadGetsSpec) own started (by kernel_rfl) Tryd.func3
    (witness_row_at (enc := enc) (C := Tryd.checked) false (laidWorld os) #[.agg #[.string ⟨#[]⟩, .int .u64 0, .string ⟨#[]⟩, .slice none 0 0, .int .u64 0, .string ⟨#[]⟩, .slice none 0 0, .string ⟨#[]⟩, .int .i64 0, .bool false, .int .u8 0, .int .u8 0], .string ⟨#[]⟩, .bool false, .int .i64 0, .int .u8 0, .int .i64 0] rfl (by kernel_rfl) (by kernel_rfl) (by kernel_rfl)
      (OpenSpec.preRow_of_cond 8 hx (by kernel_rfl) (fun k hk => by cases hk; kernel_rfl) (by kernel_rfl) (laid_met os _))) ?_
  intro W base args ds gs before hval hW _ hcond hsz hL _ _
  exact contract H enc W base args ds gs before hval hW (of_decide_eq_true (hcond _ rfl)) hL
theorem said : Rows.PayloadGetsUptoSaid :=
  OpenClaim.holds_of_cond 3 Tryd.f3 rfl rfl rfl rfl rfl rfl rfl ⟨rfl, rfl, rfl, rfl, rfl⟩ rfl rfl rfl rfl rfl (by kernel_rfl) Tryd.func3 (by kernel_rfl)
    (of_decide_eq_true (by kernel_rfl)) (by unfold Func.isWrapper; first | (rw [if_pos (by decide +kernel)]; kernel_rfl) | (rw [if_neg (by decide +kernel)]; exact ⟨rfl, rfl⟩))
    (fun os started H enc _ F => by rw [OpenClaim.pre_eq_preRow]; exact lifted os started H enc F)
theorem card_holds : Rows.PayloadGetsUptoCardSaid :=
  Claim7.holds_tied_plain_at .later [] _ _ _ _ said (fun _ h => by cases h) (by kernel_rfl) (fun _ h => by cases h) payloadGetsUpto_row_tie rfl ⟨rfl, rfl⟩ (by kernel_rfl) rfl
    (fun f fn hf hfn => by
      obtain rfl : f = 3 := Option.some.inj ((show Tryd.prog.funcNamed "noria/norialaw02.PayloadGets" = some 3 by kernel_rfl).symm.trans hf) |>.symm
      obtain rfl : fn = Tryd.f3 := (Option.some.inj (Tryd.func3.symm.trans hfn)).symm
      exact ⟨by kernel_rfl, fun j t ht => by
        rw [Tryd.params3] at ht
        have hm : t ∈ [28, 9, 4, 3, 5, 3] := List.mem_of_getElem? (l := [28, 9, 4, 3, 5, 3]) (i := j) (a := t) (by simpa using ht)
        have key : [28, 9, 4, 3, 5, 3].all (fun t => !Tryd.prog.wantsStandIn t) = true := by kernel_rfl
        have h1 := List.all_eq_true.1 key t hm
        simp only [Bool.not_eq_true'] at h1
        exact h1⟩)
    (by kernel_rfl)
#print axioms card_holds
end PayloadGets
end Go.Proofs.YthlbgeonobicbaaDoor
