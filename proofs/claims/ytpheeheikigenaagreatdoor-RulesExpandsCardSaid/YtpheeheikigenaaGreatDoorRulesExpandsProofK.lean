/- The card of the law RulesExpands: it answers true, and its arguments read as they did. -/
import Derived.Test.YtpheeheikigenaaGreatDoorRulesExpandsProofS0
import Derived.Test.YtpheeheikigenaaGreatDoorRows
import Derived.Test.YtpheeheikigenaaGreatDoorTie
import Derived.Test.YtpheeheikigenaaGreatDoorCards
import Derived.LaidMore
import Derived.LaidLaws
import Derived.Lay
import Derived.SevenTiedAt
import Derived.Stop.Joined
import Derived.Deep.DeepHandedRow
set_option maxRecDepth 100000
namespace Go.Proofs.YtpheeheikigenaaGreatDoor.rulesExpands
open Go.ChangeShapes Go.WideShapes Go.ChangeAt Go.RowKit
open Go.ChangeMaps (open_string shut_string)
theorem own : ownKnob Tryz.prog.godebug = none := by kernel_rfl
theorem laidOutC : laidOutB Tryz.prog = true := by kernel_rfl
theorem reads (os : Os) {H : Type} (enc : TypeId × Value → H) : ∃ places, DataW.whole enc Tryz.prog ((World.laidAll Tryz.prog os Rows.rulesExpandsRow.laid).forCall (fun _ _ => 0) ⟨#[], #[.slice none 0 0, .slice none 0 0], []⟩).memory Tryz.f6.params.toList Rows.rulesExpandsSpec.vars false (#[.slice none 0 0, .slice none 0 0] : Array Value).toList 8 = some ([.nil, .nil], [], places) :=
 ⟨[], by kernel_rfl⟩
theorem lifted (os : Os) (started : os.Started) (H : Type) (enc : TypeId × Value → H) (F : Stop.Interp) :
   ReturnsInHanded {} Tryz.checked os 6 .any ((OpenSpec.ofChange Rows.rulesExpandsSpec).preRow enc Tryz.prog Tryz.f6 Rows.rulesExpandsRow.domain false Rows.rulesExpandsRow.laid) (((OpenSpec.ofChange Rows.rulesExpandsSpec).at F).post enc Tryz.prog Tryz.f6 false true false false) := by
 obtain ⟨places, hx⟩ := reads os enc
 have hrow : (OpenSpec.ofChange Rows.rulesExpandsSpec).preRow enc Tryz.prog Tryz.f6 Rows.rulesExpandsRow.domain false Rows.rulesExpandsRow.laid ((World.laidAll Tryz.prog os Rows.rulesExpandsRow.laid).forCall (fun _ _ => 0) ⟨#[], #[.slice none 0 0, .slice none 0 0], []⟩).memory #[.slice none 0 0, .slice none 0 0] :=
   OpenSpec.preRow_of_cond 8 hx (by kernel_rfl) (fun k hk => by cases hk) (by kernel_rfl) (by rw [MakeChecks.laidMetH_plain _ _ _ (by kernel_rfl)]; exact laidMet_laidAll _ (by kernel_rfl) (by kernel_rfl))
 have hok : Input.okWideB Tryz.checked.prog ((World.laidAll Tryz.prog os Rows.rulesExpandsRow.laid).forCall (fun _ _ => 0) ⟨#[], #[.slice none 0 0, .slice none 0 0], []⟩) 6 ⟨#[], #[.slice none 0 0, .slice none 0 0], []⟩ = true := by kernel_rfl
 refine returnsInHanded_of_row (C := Tryz.checked) (s := (OpenSpec.ofChange Rows.rulesExpandsSpec)) own started (by kernel_rfl) Tryz.func6
   ⟨World.laidAll Tryz.prog os Rows.rulesExpandsRow.laid, fun _ _ => 0, ⟨#[], #[.slice none 0 0, .slice none 0 0], []⟩, World.laidAll_os _ _ _, World.shaped_of_ZipB (by kernel_rfl) (by kernel_rfl), (Input.okWide_of_okWideB (base := 0) hok).1, (Input.okWide_of_okWideB hok).2, hrow, by
     simp only [Assume.holds]
     exact ⟨by simp, by simp, fun _ => Modest.zero, by simp, by simp⟩⟩ ?_
 intro W base args ds gs before hval0 hW _ hcond hwt _ hsh _
 have hval : ∀ (j : Nat) t v, Tryz.f6.params[j]? = some t → args[j]? = some v → Value.okWide Tryz.prog W .any base t v := hval0
 have hW' := hW
 obtain ⟨p, q, hA0, hV, rfl, hfz, hnd⟩ := hW
 have hA : DataW.TrodAll enc Tryz.prog W 0 (fun _ => true) true Tryz.f6.params.toList args.toList ds p := hA0
 rw [Tryz.params6] at hA hval
 obtain ⟨v0, vs0, d0, ds0, p0, q0, hargs, rfl, rfl, h0, r0⟩ := trodAll_cons hA
 obtain ⟨v1, vs1, d1, ds1, p1, q1, rfl, rfl, rfl, h1, r1⟩ := trodAll_cons r0
 obtain ⟨rfl, rfl, rfl⟩ := trodAll_nil r1
 obtain rfl : args = #[v0, v1] := by cases args; simp_all
 obtain ⟨rfl, rfl⟩ := trodVars_none hV
 have hP0 : (weighD H).P 23 d0 := weighD_arg hwt (j := 0) (by rw [Tryz.params6]; rfl) rfl
 obtain ⟨A0, len0, c0, rfl⟩ := okWide_slice Tryz.underlying23 (hval 0 23 v0 rfl rfl)
 have h0k := h0
 obtain ⟨L0, rfl, m0, s0, sr0⟩ := open_SRD (weighD H) h0k hP0
 have hP1 : (weighD H).P 23 d1 := weighD_arg hwt (j := 1) (by rw [Tryz.params6]; rfl) rfl
 obtain ⟨A1, len1, c1, rfl⟩ := okWide_slice Tryz.underlying23 (hval 1 23 v1 rfl rfl)
 have h1k := h1
 obtain ⟨L1, rfl, m1, s1, sr1⟩ := open_SRD (weighD H) h1k hP1
 clear hA0 hval0
 simp only [List.append_nil] at hW'
 refine (law_rulesExpands reachBytes (by decide) A0 c0 L0 A1 c1 L1 m0 s0 m1 s1 W (Tryz.laysM146.s1_3 W hsh) sr0 sr1).mono fun e W' ⟨he, bel⟩ => ?_
 subst he
 exact ⟨_, rfl, _, _, _, [], _, [], hW', trodAll_mk1 (shut_bool Tryz.underlying4 _), (trodAll_cons_mk (Below.trod laidOutC (by kernel_rfl) (of_decide_eq_true (by kernel_rfl)) h0 bel (fun x hx => by simpa using hW'.lt x (by simp [hx]))) (trodAll_cons_mk (Below.trod laidOutC (by kernel_rfl) (of_decide_eq_true (by kernel_rfl)) h1 bel (fun x hx => by simpa using hW'.lt x (by simp [hx]))) trodAll_mk0)), rfl, bel.frame _, fun h => by cases h⟩
theorem e1 : (Rows.rulesExpandsRow.inPlace == Tryz.pinned.checked.prog.inPlace 6) = true := by kernel_rfl
theorem e2 : (Rows.rulesExpandsRow.unfollowed == Tryz.pinned.checked.prog.unfollowed 6) = true := by kernel_rfl
theorem e3 : (Rows.rulesExpandsRow.recurses == Tryz.pinned.checked.prog.recurses 6) = true := by kernel_rfl
theorem e4 : (Rows.rulesExpandsRow.named == Tryz.pinned.checked.prog.varsNamed 6) = true := by kernel_rfl
theorem e5 : mapsRowed Tryz.pinned.checked.prog = true := by kernel_rfl
theorem e6 : laidOutB Tryz.pinned.checked.prog = true := by kernel_rfl
theorem e7 : (Rows.rulesExpandsRow.plainKeys == Tryz.pinned.checked.prog.plainKeys) = true := by kernel_rfl
theorem closedC : joinedFacts Tryz.pinned.checked.prog 6 Tryz.f6 (OpenSpec.ofChange Rows.rulesExpandsSpec).bare Rows.rulesExpandsRow = true := by
 unfold joinedFacts
 rw [e1, e2, e3, e4, e5, e6, e7]
 kernel_rfl
theorem nameC : Tryz.prog.funcNamed Rows.rulesExpandsRow.func = some 6 := by kernel_rfl
theorem row_holds : Rows.RulesExpandsSaid :=
 OpenClaim.holds_of_cond 6 Tryz.f6 rfl rfl rfl rfl rfl rfl rfl ⟨rfl, rfl, rfl, rfl, rfl⟩ rfl rfl rfl rfl rfl nameC Tryz.func6 closedC
   (of_decide_eq_true (by kernel_rfl)) (by unfold Func.isWrapper; first | (rw [if_pos (by decide +kernel)]; kernel_rfl) | (rw [if_neg (by decide +kernel)]; exact ⟨rfl, rfl⟩))
   (fun os started H enc _ F => by rw [OpenClaim.pre_eq_preRow]; exact lifted os started H enc F)
theorem wants : ∀ (j : Nat) (t : TypeId), (#[23, 23] : Array TypeId)[j]? = some t → Tryz.prog.wantsStandIn t = false := by
 intro j t ht
 rcases j with _ | j
 · obtain rfl : t = 23 := by simpa using ht.symm
   kernel_rfl
 rcases j with _ | j
 · obtain rfl : t = 23 := by simpa using ht.symm
   kernel_rfl
 · simp at ht
theorem wfC : Rows.rulesExpandsRow.wfByText (OpenSpec.ofChange Rows.rulesExpandsSpec) = true := by kernel_rfl
theorem lookC : true = Tryz.pinned.checked.prog.looks [] := by kernel_rfl
theorem goesC : false = Rows.rulesExpandsRow.goesBy Tryz.pinned.checked.prog := by kernel_rfl
theorem mainC : Tryz.pinned.checked.prog.mainIs = some (Rows.rulesExpandsCard.stood.harness.1, Rows.rulesExpandsCard.stood.harness.2.toList) := by kernel_rfl
theorem rulesExpands_proved : Rows.RulesExpandsCardSaid :=
 Claim7.holds_tied_plain_at .later [] [.data,.pinned] true Rows.rulesExpandsCard.stood.harness true
   row_holds (fun _ h => by cases h) wfC (fun _ h => by cases h) rulesExpands_row_tie rfl ⟨rfl, rfl⟩ mainC rfl
   (fun f fn hf hfn => by
     obtain rfl : f = 6 := Option.some.inj (nameC.symm.trans hf) |>.symm
     obtain rfl : fn = Tryz.f6 := (Option.some.inj (Tryz.func6.symm.trans hfn)).symm
     exact ⟨lookC, fun j t ht => by
       rw [Tryz.params6] at ht
       exact wants j t ht⟩)
   goesC
end Go.Proofs.YtpheeheikigenaaGreatDoor.rulesExpands
