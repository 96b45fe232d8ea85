/- The card of the law FieldStars: it answers true, and its arguments read as they did. -/
import Derived.Test.YtmcophlmcloooaaGreatDoorFieldStarsProofS0
import Derived.Test.YtmcophlmcloooaaGreatDoorRows
import Derived.Test.YtmcophlmcloooaaGreatDoorTie
import Derived.Test.YtmcophlmcloooaaGreatDoorCards
import Derived.LaidMore
import Derived.LaidLaws
import Derived.Lay
import Derived.SevenTiedAt
import Derived.Stop.Joined
import Derived.Deep.DeepHandedRow
set_option maxRecDepth 100000
namespace Go.Proofs.YtmcophlmcloooaaGreatDoor.fieldStars
open Go.ChangeShapes Go.WideShapes Go.ChangeAt Go.RowKit
open Go.ChangeMaps (open_string shut_string)
theorem own : ownKnob Tryz.prog.godebug = none := by kernel_rfl
theorem laidOutC : laidOutB Tryz.prog = true := by kernel_rfl
theorem reads (os : Os) {H : Type} (enc : TypeId × Value → H) : ∃ places, DataW.whole enc Tryz.prog ((World.laidAll Tryz.prog os Rows.fieldStarsRow.laid).forCall (fun _ _ => 0) ⟨#[], #[.slice none 0 0, .bool false], []⟩).memory Tryz.f4.params.toList Rows.fieldStarsSpec.vars false (#[.slice none 0 0, .bool false] : Array Value).toList 8 = some ([.nil, .lit (.bool false)], [], places) :=
 ⟨[], by kernel_rfl⟩
theorem lifted (os : Os) (started : os.Started) (H : Type) (enc : TypeId × Value → H) (F : Stop.Interp) :
   ReturnsInHanded {} Tryz.checked os 4 .any ((OpenSpec.ofChange Rows.fieldStarsSpec).preRow enc Tryz.prog Tryz.f4 Rows.fieldStarsRow.domain false Rows.fieldStarsRow.laid) (((OpenSpec.ofChange Rows.fieldStarsSpec).at F).post enc Tryz.prog Tryz.f4 false true false false) := by
 obtain ⟨places, hx⟩ := reads os enc
 have hrow : (OpenSpec.ofChange Rows.fieldStarsSpec).preRow enc Tryz.prog Tryz.f4 Rows.fieldStarsRow.domain false Rows.fieldStarsRow.laid ((World.laidAll Tryz.prog os Rows.fieldStarsRow.laid).forCall (fun _ _ => 0) ⟨#[], #[.slice none 0 0, .bool false], []⟩).memory #[.slice none 0 0, .bool false] :=
   OpenSpec.preRow_of_cond 8 hx (by kernel_rfl) (fun k hk => by cases hk) (by kernel_rfl) (by rw [MakeChecks.laidMetH_plain _ _ _ (by kernel_rfl)]; exact laidMet_laidAll _ (by kernel_rfl) (by kernel_rfl))
 have hok : Input.okWideB Tryz.checked.prog ((World.laidAll Tryz.prog os Rows.fieldStarsRow.laid).forCall (fun _ _ => 0) ⟨#[], #[.slice none 0 0, .bool false], []⟩) 4 ⟨#[], #[.slice none 0 0, .bool false], []⟩ = true := by kernel_rfl
 refine returnsInHanded_of_row (C := Tryz.checked) (s := (OpenSpec.ofChange Rows.fieldStarsSpec)) own started (by kernel_rfl) Tryz.func4
   ⟨World.laidAll Tryz.prog os Rows.fieldStarsRow.laid, fun _ _ => 0, ⟨#[], #[.slice none 0 0, .bool false], []⟩, World.laidAll_os _ _ _, World.shaped_of_ZipB (by kernel_rfl) (by kernel_rfl), (Input.okWide_of_okWideB (base := 0) hok).1, (Input.okWide_of_okWideB hok).2, hrow, by
     simp only [Assume.holds]
     exact ⟨by simp, by simp, fun _ => Modest.zero, by simp, by simp⟩⟩ ?_
 intro W base args ds gs before hval0 hW _ hcond hwt _ hsh _
 have hval : ∀ (j : Nat) t v, Tryz.f4.params[j]? = some t → args[j]? = some v → Value.okWide Tryz.prog W .any base t v := hval0
 have hW' := hW
 obtain ⟨p, q, hA0, hV, rfl, hfz, hnd⟩ := hW
 have hA : DataW.TrodAll enc Tryz.prog W 0 (fun _ => true) true Tryz.f4.params.toList args.toList ds p := hA0
 rw [Tryz.params4] at hA hval
 obtain ⟨v0, vs0, d0, ds0, p0, q0, hargs, rfl, rfl, h0, r0⟩ := trodAll_cons hA
 obtain ⟨v1, vs1, d1, ds1, p1, q1, rfl, rfl, rfl, h1, r1⟩ := trodAll_cons r0
 obtain ⟨rfl, rfl, rfl⟩ := trodAll_nil r1
 obtain rfl : args = #[v0, v1] := by cases args; simp_all
 obtain ⟨rfl, rfl⟩ := trodVars_none hV
 have hP0 : (weighD H).P 42 d0 := weighD_arg hwt (j := 0) (by rw [Tryz.params4]; rfl) rfl
 obtain ⟨A0, len0, c0, rfl⟩ := okWide_slice Tryz.underlying42 (hval 0 42 v0 rfl rfl)
 have h0k := h0
 obtain ⟨L0, rfl, m0, s0, sr0⟩ := open_SRD (weighD H) h0k hP0
 obtain ⟨a1, rfl, rfl, rfl⟩ := open_bool Tryz.underlying4 (hval 1 4 v1 rfl rfl) h1
 clear hA0 hval0
 simp only [List.append_nil] at hW'
 refine (law_fieldStars reachBytes (by decide) A0 c0 L0 a1 m0 s0 W (Tryz.laysM146.s1_3 W hsh) sr0).mono fun e W' ⟨he, bel⟩ => ?_
 subst he
 exact ⟨_, rfl, _, _, _, [], _, [], hW', trodAll_mk1 (shut_bool Tryz.underlying4 _), (trodAll_cons_mk (Below.trod laidOutC (by kernel_rfl) (of_decide_eq_true (by kernel_rfl)) h0 bel (fun x hx => by simpa using hW'.lt x (by simp [hx]))) (trodAll_cons_mk (shut_bool Tryz.underlying4 a1) trodAll_mk0)), rfl, bel.frame _, fun h => by cases h⟩
theorem e1 : (Rows.fieldStarsRow.inPlace == Tryz.pinned.checked.prog.inPlace 4) = true := by kernel_rfl
theorem e2 : (Rows.fieldStarsRow.unfollowed == Tryz.pinned.checked.prog.unfollowed 4) = true := by kernel_rfl
theorem e3 : (Rows.fieldStarsRow.recurses == Tryz.pinned.checked.prog.recurses 4) = true := by kernel_rfl
theorem e4 : (Rows.fieldStarsRow.named == Tryz.pinned.checked.prog.varsNamed 4) = true := by kernel_rfl
theorem e5 : mapsRowed Tryz.pinned.checked.prog = true := by kernel_rfl
theorem e6 : laidOutB Tryz.pinned.checked.prog = true := by kernel_rfl
theorem e7 : (Rows.fieldStarsRow.plainKeys == Tryz.pinned.checked.prog.plainKeys) = true := by kernel_rfl
theorem closedC : joinedFacts Tryz.pinned.checked.prog 4 Tryz.f4 (OpenSpec.ofChange Rows.fieldStarsSpec).bare Rows.fieldStarsRow = true := by
 unfold joinedFacts
 rw [e1, e2, e3, e4, e5, e6, e7]
 kernel_rfl
theorem nameC : Tryz.prog.funcNamed Rows.fieldStarsRow.func = some 4 := by kernel_rfl
theorem row_holds : Rows.FieldStarsSaid :=
 OpenClaim.holds_of_cond 4 Tryz.f4 rfl rfl rfl rfl rfl rfl rfl ⟨rfl, rfl, rfl, rfl, rfl⟩ rfl rfl rfl rfl rfl nameC Tryz.func4 closedC
   (of_decide_eq_true (by kernel_rfl)) (by unfold Func.isWrapper; first | (rw [if_pos (by decide +kernel)]; kernel_rfl) | (rw [if_neg (by decide +kernel)]; exact ⟨rfl, rfl⟩))
   (fun os started H enc _ F => by rw [OpenClaim.pre_eq_preRow]; exact lifted os started H enc F)
theorem wants : ∀ (j : Nat) (t : TypeId), (#[42, 4] : Array TypeId)[j]? = some t → Tryz.prog.wantsStandIn t = false := by
 intro j t ht
 rcases j with _ | j
 · obtain rfl : t = 42 := by simpa using ht.symm
   kernel_rfl
 rcases j with _ | j
 · obtain rfl : t = 4 := by simpa using ht.symm
   kernel_rfl
 · simp at ht
theorem wfC : Rows.fieldStarsRow.wfByText (OpenSpec.ofChange Rows.fieldStarsSpec) = true := by kernel_rfl
theorem lookC : true = Tryz.pinned.checked.prog.looks [] := by kernel_rfl
theorem goesC : false = Rows.fieldStarsRow.goesBy Tryz.pinned.checked.prog := by kernel_rfl
theorem mainC : Tryz.pinned.checked.prog.mainIs = some (Rows.fieldStarsCard.stood.harness.1, Rows.fieldStarsCard.stood.harness.2.toList) := by kernel_rfl
theorem fieldStars_proved : Rows.FieldStarsCardSaid :=
 Claim7.holds_tied_plain_at .later [] [.data,.pinned] true Rows.fieldStarsCard.stood.harness true
   row_holds (fun _ h => by cases h) wfC (fun _ h => by cases h) fieldStars_row_tie rfl ⟨rfl, rfl⟩ mainC rfl
   (fun f fn hf hfn => by
     obtain rfl : f = 4 := Option.some.inj (nameC.symm.trans hf) |>.symm
     obtain rfl : fn = Tryz.f4 := (Option.some.inj (Tryz.func4.symm.trans hfn)).symm
     exact ⟨lookC, fun j t ht => by
       rw [Tryz.params4] at ht
       exact wants j t ht⟩)
   goesC
end Go.Proofs.YtmcophlmcloooaaGreatDoor.fieldStars
