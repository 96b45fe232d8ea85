/- The card of the law FieldPlain: it answers true, and its arguments read as they did. -/
import Derived.Test.YtpheeheikigenaaGreatDoorFB1
import Derived.Test.YtpheeheikigenaaGreatDoorRows
import Derived.Test.YtpheeheikigenaaGreatDoorTie
import Derived.Test.YtpheeheikigenaaGreatDoorCards
import Derived.LaidMore
import Derived.LaidLaws
import Derived.Lay
import Derived.SevenTiedAt
import Derived.Stop.Joined
import Derived.Deep.DeepHandedRow
set_option maxRecDepth 100000
namespace Go.Proofs.YtpheeheikigenaaGreatDoor.fieldPlain
open Go.ChangeShapes Go.WideShapes Go.ChangeAt Go.RowKit
open Go.ChangeMaps (open_string shut_string)
theorem own : ownKnob Tryz.prog.godebug = none := by kernel_rfl
theorem laidOutC : laidOutB Tryz.prog = true := by kernel_rfl
theorem reads (os : Os) {H : Type} (enc : TypeId × Value → H) : ∃ places, DataW.whole enc Tryz.prog ((World.laidAll Tryz.prog os Rows.fieldPlainRow.laid).forCall (fun _ _ => 0) ⟨#[], #[.string ByteArray.empty, .bool false], []⟩).memory Tryz.f7.params.toList Rows.fieldPlainSpec.vars false (#[.string ByteArray.empty, .bool false] : Array Value).toList 8 = some ([.lit (.string []), .lit (.bool false)], [], places) :=
 ⟨[], by kernel_rfl⟩
theorem lifted (os : Os) (started : os.Started) (H : Type) (enc : TypeId × Value → H) (F : Stop.Interp) :
   ReturnsInHanded {} Tryz.checked os 7 .any ((OpenSpec.ofChange Rows.fieldPlainSpec).preRow enc Tryz.prog Tryz.f7 Rows.fieldPlainRow.domain false Rows.fieldPlainRow.laid) (((OpenSpec.ofChange Rows.fieldPlainSpec).at F).post enc Tryz.prog Tryz.f7 false true false false) := by
 obtain ⟨places, hx⟩ := reads os enc
 have hrow : (OpenSpec.ofChange Rows.fieldPlainSpec).preRow enc Tryz.prog Tryz.f7 Rows.fieldPlainRow.domain false Rows.fieldPlainRow.laid ((World.laidAll Tryz.prog os Rows.fieldPlainRow.laid).forCall (fun _ _ => 0) ⟨#[], #[.string ByteArray.empty, .bool false], []⟩).memory #[.string ByteArray.empty, .bool false] :=
   OpenSpec.preRow_of_cond 8 hx (by kernel_rfl) (fun k hk => by cases hk) (by kernel_rfl) (by rw [MakeChecks.laidMetH_plain _ _ _ (by kernel_rfl)]; exact laidMet_laidAll _ (by kernel_rfl) (by kernel_rfl))
 have hok : Input.okWideB Tryz.checked.prog ((World.laidAll Tryz.prog os Rows.fieldPlainRow.laid).forCall (fun _ _ => 0) ⟨#[], #[.string ByteArray.empty, .bool false], []⟩) 7 ⟨#[], #[.string ByteArray.empty, .bool false], []⟩ = true := by kernel_rfl
 refine returnsInHanded_of_row (C := Tryz.checked) (s := (OpenSpec.ofChange Rows.fieldPlainSpec)) own started (by kernel_rfl) Tryz.func7
   ⟨World.laidAll Tryz.prog os Rows.fieldPlainRow.laid, fun _ _ => 0, ⟨#[], #[.string ByteArray.empty, .bool false], []⟩, World.laidAll_os _ _ _, World.shaped_of_ZipB (by kernel_rfl) (by kernel_rfl), (Input.okWide_of_okWideB (base := 0) hok).1, (Input.okWide_of_okWideB hok).2, hrow, by
     simp only [Assume.holds]
     exact ⟨by simp, by simp, fun _ => Modest.zero, by simp, by simp⟩⟩ ?_
 intro W base args ds gs before hval0 hW _ hcond hwt _ hsh _
 have hval : ∀ (j : Nat) t v, Tryz.f7.params[j]? = some t → args[j]? = some v → Value.okWide Tryz.prog W .any base t v := hval0
 have hW' := hW
 obtain ⟨p, q, hA0, hV, rfl, hfz, hnd⟩ := hW
 have hA : DataW.TrodAll enc Tryz.prog W 0 (fun _ => true) true Tryz.f7.params.toList args.toList ds p := hA0
 rw [Tryz.params7] at hA hval
 obtain ⟨v0, vs0, d0, ds0, p0, q0, hargs, rfl, rfl, h0, r0⟩ := trodAll_cons hA
 obtain ⟨v1, vs1, d1, ds1, p1, q1, rfl, rfl, rfl, h1, r1⟩ := trodAll_cons r0
 obtain ⟨rfl, rfl, rfl⟩ := trodAll_nil r1
 obtain rfl : args = #[v0, v1] := by cases args; simp_all
 obtain ⟨rfl, rfl⟩ := trodVars_none hV
 have hP0 : (weighD H).P 9 d0 := weighD_arg hwt (j := 0) (by rw [Tryz.params7]; rfl) rfl
 obtain ⟨a0, rfl, rfl, rfl, w0⟩ := open_string Tryz.underlying9 (hval 0 9 v0 rfl rfl) h0
 have z0 : a0.size ≤ reachBytes := by
   have := (weighD H).str hP0
   simpa using this
 obtain ⟨a1, rfl, rfl, rfl⟩ := open_bool Tryz.underlying4 (hval 1 4 v1 rfl rfl) h1
 clear hA0 hval0
 simp only [List.append_nil] at hW'
 refine (law_fieldPlain reachBytes (by decide) a0 a1 z0 W (Tryz.laysM146.s1_3 W hsh)).mono fun e W' ⟨he, bel⟩ => ?_
 subst he
 exact ⟨_, rfl, _, _, _, [], _, [], hW', trodAll_mk1 (shut_bool Tryz.underlying4 _), (trodAll_cons_mk (shut_string Tryz.underlying9 w0) (trodAll_cons_mk (shut_bool Tryz.underlying4 a1) trodAll_mk0)), rfl, bel.frame _, fun h => by cases h⟩
theorem e1 : (Rows.fieldPlainRow.inPlace == Tryz.pinned.checked.prog.inPlace 7) = true := by kernel_rfl
theorem e2 : (Rows.fieldPlainRow.unfollowed == Tryz.pinned.checked.prog.unfollowed 7) = true := by kernel_rfl
theorem e3 : (Rows.fieldPlainRow.recurses == Tryz.pinned.checked.prog.recurses 7) = true := by kernel_rfl
theorem e4 : (Rows.fieldPlainRow.named == Tryz.pinned.checked.prog.varsNamed 7) = true := by kernel_rfl
theorem e5 : mapsRowed Tryz.pinned.checked.prog = true := by kernel_rfl
theorem e6 : laidOutB Tryz.pinned.checked.prog = true := by kernel_rfl
theorem e7 : (Rows.fieldPlainRow.plainKeys == Tryz.pinned.checked.prog.plainKeys) = true := by kernel_rfl
theorem closedC : joinedFacts Tryz.pinned.checked.prog 7 Tryz.f7 (OpenSpec.ofChange Rows.fieldPlainSpec).bare Rows.fieldPlainRow = true := by
 unfold joinedFacts
 rw [e1, e2, e3, e4, e5, e6, e7]
 kernel_rfl
theorem nameC : Tryz.prog.funcNamed Rows.fieldPlainRow.func = some 7 := by kernel_rfl
theorem row_holds : Rows.FieldPlainSaid :=
 OpenClaim.holds_of_cond 7 Tryz.f7 rfl rfl rfl rfl rfl rfl rfl ⟨rfl, rfl, rfl, rfl, rfl⟩ rfl rfl rfl rfl rfl nameC Tryz.func7 closedC
   (of_decide_eq_true (by kernel_rfl)) (by unfold Func.isWrapper; first | (rw [if_pos (by decide +kernel)]; kernel_rfl) | (rw [if_neg (by decide +kernel)]; exact ⟨rfl, rfl⟩))
   (fun os started H enc _ F => by rw [OpenClaim.pre_eq_preRow]; exact lifted os started H enc F)
theorem wants : ∀ (j : Nat) (t : TypeId), (#[9, 4] : Array TypeId)[j]? = some t → Tryz.prog.wantsStandIn t = false := by
 intro j t ht
 rcases j with _ | j
 · obtain rfl : t = 9 := by simpa using ht.symm
   kernel_rfl
 rcases j with _ | j
 · obtain rfl : t = 4 := by simpa using ht.symm
   kernel_rfl
 · simp at ht
theorem wfC : Rows.fieldPlainRow.wfByText (OpenSpec.ofChange Rows.fieldPlainSpec) = true := by kernel_rfl
theorem lookC : true = Tryz.pinned.checked.prog.looks [] := by kernel_rfl
theorem goesC : false = Rows.fieldPlainRow.goesBy Tryz.pinned.checked.prog := by kernel_rfl
theorem mainC : Tryz.pinned.checked.prog.mainIs = some (Rows.fieldPlainCard.stood.harness.1, Rows.fieldPlainCard.stood.harness.2.toList) := by kernel_rfl
theorem fieldPlain_proved : Rows.FieldPlainCardSaid :=
 Claim7.holds_tied_plain_at .later [] [.data,.pinned] true Rows.fieldPlainCard.stood.harness true
   row_holds (fun _ h => by cases h) wfC (fun _ h => by cases h) fieldPlain_row_tie rfl ⟨rfl, rfl⟩ mainC rfl
   (fun f fn hf hfn => by
     obtain rfl : f = 7 := Option.some.inj (nameC.symm.trans hf) |>.symm
     obtain rfl : fn = Tryz.f7 := (Option.some.inj (Tryz.func7.symm.trans hfn)).symm
     exact ⟨lookC, fun j t ht => by
       rw [Tryz.params7] at ht
       exact wants j t ht⟩)
   goesC
end Go.Proofs.YtpheeheikigenaaGreatDoor.fieldPlain
