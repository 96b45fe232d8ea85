/- The card of the law FieldDeep: it answers true, and its arguments read as they did. -/
import Derived.Test.YtmcophlmcloooaaGreatDoorFieldDeepProofS0
import Derived.Test.YtmcophlmcloooaaGreatDoorRows
import Derived.Test.YtmcophlmcloooaaGreatDoorTie
import Derived.Test.YtmcophlmcloooaaGreatDoorCards
import Derived.LaidMore
import Derived.LaidLaws
import Derived.Lay
import Derived.SevenTiedAt
import Derived.Stop.Joined
import Derived.Deep.DeepHandedRow
set_option maxRecDepth 100000
namespace Go.Proofs.YtmcophlmcloooaaGreatDoor.fieldDeep
open Go.ChangeShapes Go.WideShapes Go.ChangeAt Go.RowKit
open Go.ChangeMaps (open_string shut_string)
theorem own : ownKnob Tryz.prog.godebug = none := by kernel_rfl
theorem laidOutC : laidOutB Tryz.prog = true := by kernel_rfl
theorem reads (os : Os) {H : Type} (enc : TypeId × Value → H) : ∃ places, DataW.whole enc Tryz.prog ((World.laidAll Tryz.prog os Rows.fieldDeepRow.laid).forCall (fun _ _ => 0) ⟨#[], #[.int .i64 0, .int .i64 0], []⟩).memory Tryz.f5.params.toList Rows.fieldDeepSpec.vars false (#[.int .i64 0, .int .i64 0] : Array Value).toList 8 = some ([.lit (.int .i64 0), .lit (.int .i64 0)], [], places) :=
 ⟨[], by kernel_rfl⟩
theorem lifted (os : Os) (started : os.Started) (H : Type) (enc : TypeId × Value → H) (F : Stop.Interp) :
   ReturnsInHanded {} Tryz.checked os 5 .any ((OpenSpec.ofChange Rows.fieldDeepSpec).preRow enc Tryz.prog Tryz.f5 Rows.fieldDeepRow.domain false Rows.fieldDeepRow.laid) (((OpenSpec.ofChange Rows.fieldDeepSpec).at F).post enc Tryz.prog Tryz.f5 false true false false) := by
 obtain ⟨places, hx⟩ := reads os enc
 have hrow : (OpenSpec.ofChange Rows.fieldDeepSpec).preRow enc Tryz.prog Tryz.f5 Rows.fieldDeepRow.domain false Rows.fieldDeepRow.laid ((World.laidAll Tryz.prog os Rows.fieldDeepRow.laid).forCall (fun _ _ => 0) ⟨#[], #[.int .i64 0, .int .i64 0], []⟩).memory #[.int .i64 0, .int .i64 0] :=
   OpenSpec.preRow_of_cond 8 hx (by kernel_rfl) (fun k hk => by cases hk) (by kernel_rfl) (by rw [MakeChecks.laidMetH_plain _ _ _ (by kernel_rfl)]; exact laidMet_laidAll _ (by kernel_rfl) (by kernel_rfl))
 have hok : Input.okWideB Tryz.checked.prog ((World.laidAll Tryz.prog os Rows.fieldDeepRow.laid).forCall (fun _ _ => 0) ⟨#[], #[.int .i64 0, .int .i64 0], []⟩) 5 ⟨#[], #[.int .i64 0, .int .i64 0], []⟩ = true := by kernel_rfl
 refine returnsInHanded_of_row (C := Tryz.checked) (s := (OpenSpec.ofChange Rows.fieldDeepSpec)) own started (by kernel_rfl) Tryz.func5
   ⟨World.laidAll Tryz.prog os Rows.fieldDeepRow.laid, fun _ _ => 0, ⟨#[], #[.int .i64 0, .int .i64 0], []⟩, World.laidAll_os _ _ _, World.shaped_of_ZipB (by kernel_rfl) (by kernel_rfl), (Input.okWide_of_okWideB (base := 0) hok).1, (Input.okWide_of_okWideB hok).2, hrow, by
     simp only [Assume.holds]
     exact ⟨by simp, by simp, fun _ => Modest.zero, by simp, by simp⟩⟩ ?_
 intro W base args ds gs before hval0 hW _ hcond hwt _ hsh _
 have hval : ∀ (j : Nat) t v, Tryz.f5.params[j]? = some t → args[j]? = some v → Value.okWide Tryz.prog W .any base t v := hval0
 have hW' := hW
 obtain ⟨p, q, hA0, hV, rfl, hfz, hnd⟩ := hW
 have hA : DataW.TrodAll enc Tryz.prog W 0 (fun _ => true) true Tryz.f5.params.toList args.toList ds p := hA0
 rw [Tryz.params5] at hA hval
 obtain ⟨v0, vs0, d0, ds0, p0, q0, hargs, rfl, rfl, h0, r0⟩ := trodAll_cons hA
 obtain ⟨v1, vs1, d1, ds1, p1, q1, rfl, rfl, rfl, h1, r1⟩ := trodAll_cons r0
 obtain ⟨rfl, rfl, rfl⟩ := trodAll_nil r1
 obtain rfl : args = #[v0, v1] := by cases args; simp_all
 obtain ⟨rfl, rfl⟩ := trodVars_none hV
 obtain ⟨a0, rfl, rfl, rfl, w0⟩ := open_int Tryz.underlying3 (hval 0 3 v0 rfl rfl) h0
 obtain ⟨a1, rfl, rfl, rfl, w1⟩ := open_int Tryz.underlying3 (hval 1 3 v1 rfl rfl) h1
 clear hA0 hval0
 simp only [List.append_nil] at hW'
 refine (law_fieldDeep reachBytes (by decide) a0 a1 w0 w1 W (Tryz.laysM146.s1_3 W hsh)).mono fun e W' ⟨he, bel⟩ => ?_
 subst he
 exact ⟨_, rfl, _, _, _, [], _, [], hW', trodAll_mk1 (shut_bool Tryz.underlying4 _), (trodAll_cons_mk (shut_int Tryz.underlying3 w0) (trodAll_cons_mk (shut_int Tryz.underlying3 w1) trodAll_mk0)), rfl, bel.frame _, fun h => by cases h⟩
theorem e1 : (Rows.fieldDeepRow.inPlace == Tryz.pinned.checked.prog.inPlace 5) = true := by kernel_rfl
theorem e2 : (Rows.fieldDeepRow.unfollowed == Tryz.pinned.checked.prog.unfollowed 5) = true := by kernel_rfl
theorem e3 : (Rows.fieldDeepRow.recurses == Tryz.pinned.checked.prog.recurses 5) = true := by kernel_rfl
theorem e4 : (Rows.fieldDeepRow.named == Tryz.pinned.checked.prog.varsNamed 5) = true := by kernel_rfl
theorem e5 : mapsRowed Tryz.pinned.checked.prog = true := by kernel_rfl
theorem e6 : laidOutB Tryz.pinned.checked.prog = true := by kernel_rfl
theorem e7 : (Rows.fieldDeepRow.plainKeys == Tryz.pinned.checked.prog.plainKeys) = true := by kernel_rfl
theorem closedC : joinedFacts Tryz.pinned.checked.prog 5 Tryz.f5 (OpenSpec.ofChange Rows.fieldDeepSpec).bare Rows.fieldDeepRow = true := by
 unfold joinedFacts
 rw [e1, e2, e3, e4, e5, e6, e7]
 kernel_rfl
theorem nameC : Tryz.prog.funcNamed Rows.fieldDeepRow.func = some 5 := by kernel_rfl
theorem row_holds : Rows.FieldDeepSaid :=
 OpenClaim.holds_of_cond 5 Tryz.f5 rfl rfl rfl rfl rfl rfl rfl ⟨rfl, rfl, rfl, rfl, rfl⟩ rfl rfl rfl rfl rfl nameC Tryz.func5 closedC
   (of_decide_eq_true (by kernel_rfl)) (by unfold Func.isWrapper; first | (rw [if_pos (by decide +kernel)]; kernel_rfl) | (rw [if_neg (by decide +kernel)]; exact ⟨rfl, rfl⟩))
   (fun os started H enc _ F => by rw [OpenClaim.pre_eq_preRow]; exact lifted os started H enc F)
theorem wants : ∀ (j : Nat) (t : TypeId), (#[3, 3] : Array TypeId)[j]? = some t → Tryz.prog.wantsStandIn t = false := by
 intro j t ht
 rcases j with _ | j
 · obtain rfl : t = 3 := by simpa using ht.symm
   kernel_rfl
 rcases j with _ | j
 · obtain rfl : t = 3 := by simpa using ht.symm
   kernel_rfl
 · simp at ht
theorem wfC : Rows.fieldDeepRow.wfByText (OpenSpec.ofChange Rows.fieldDeepSpec) = true := by kernel_rfl
theorem lookC : true = Tryz.pinned.checked.prog.looks [] := by kernel_rfl
theorem goesC : false = Rows.fieldDeepRow.goesBy Tryz.pinned.checked.prog := by kernel_rfl
theorem mainC : Tryz.pinned.checked.prog.mainIs = some (Rows.fieldDeepCard.stood.harness.1, Rows.fieldDeepCard.stood.harness.2.toList) := by kernel_rfl
theorem fieldDeep_proved : Rows.FieldDeepCardSaid :=
 Claim7.holds_tied_plain_at .later [] [.data,.pinned] true Rows.fieldDeepCard.stood.harness true
   row_holds (fun _ h => by cases h) wfC (fun _ h => by cases h) fieldDeep_row_tie rfl ⟨rfl, rfl⟩ mainC rfl
   (fun f fn hf hfn => by
     obtain rfl : f = 5 := Option.some.inj (nameC.symm.trans hf) |>.symm
     obtain rfl : fn = Tryz.f5 := (Option.some.inj (Tryz.func5.symm.trans hfn)).symm
     exact ⟨lookC, fun j t ht => by
       rw [Tryz.params5] at ht
       exact wants j t ht⟩)
   goesC
end Go.Proofs.YtmcophlmcloooaaGreatDoor.fieldDeep
