/- The card of the law FieldPaths: it answers true, and its arguments read as they did. -/
import Derived.Test.YtmcophlmcloooaaGreatDoorFP6
import Derived.Test.YtmcophlmcloooaaGreatDoorRows
import Derived.Test.YtmcophlmcloooaaGreatDoorTie
import Derived.Test.YtmcophlmcloooaaGreatDoorCards
import Derived.LaidMore
import Derived.LaidLaws
import Derived.Lay
import Derived.SevenTiedAt
import Derived.Stop.Joined
import Derived.Deep.DeepHandedRow
set_option maxRecDepth 100000
namespace Go.Proofs.YtmcophlmcloooaaGreatDoor.fieldPaths
open Go.ChangeShapes Go.WideShapes Go.ChangeAt Go.RowKit
open Go.ChangeMaps (open_string shut_string)
theorem own : ownKnob Tryz.prog.godebug = none := by kernel_rfl
theorem laidOutC : laidOutB Tryz.prog = true := by kernel_rfl
theorem reads (os : Os) {H : Type} (enc : TypeId × Value → H) : ∃ places, DataW.whole enc Tryz.prog ((World.laidAll Tryz.prog os Rows.fieldPathsRow.laid).forCall (fun _ _ => 0) ⟨#[], #[.slice none 0 0, .string ByteArray.empty, .slice none 0 0], []⟩).memory Tryz.f6.params.toList Rows.fieldPathsSpec.vars false (#[.slice none 0 0, .string ByteArray.empty, .slice none 0 0] : Array Value).toList 8 = some ([.nil, .lit (.string []), .nil], [], places) :=
 ⟨[], by kernel_rfl⟩
theorem lifted (os : Os) (started : os.Started) (H : Type) (enc : TypeId × Value → H) (F : Stop.Interp) :
   ReturnsInHanded {} Tryz.checked os 6 .any ((OpenSpec.ofChange Rows.fieldPathsSpec).preRow enc Tryz.prog Tryz.f6 Rows.fieldPathsRow.domain false Rows.fieldPathsRow.laid) (((OpenSpec.ofChange Rows.fieldPathsSpec).at F).post enc Tryz.prog Tryz.f6 false true false false) := by
 obtain ⟨places, hx⟩ := reads os enc
 have hrow : (OpenSpec.ofChange Rows.fieldPathsSpec).preRow enc Tryz.prog Tryz.f6 Rows.fieldPathsRow.domain false Rows.fieldPathsRow.laid ((World.laidAll Tryz.prog os Rows.fieldPathsRow.laid).forCall (fun _ _ => 0) ⟨#[], #[.slice none 0 0, .string ByteArray.empty, .slice none 0 0], []⟩).memory #[.slice none 0 0, .string ByteArray.empty, .slice none 0 0] :=
   OpenSpec.preRow_of_cond 8 hx (by kernel_rfl) (fun k hk => by cases hk) (by kernel_rfl) (by rw [MakeChecks.laidMetH_plain _ _ _ (by kernel_rfl)]; exact laidMet_laidAll _ (by kernel_rfl) (by kernel_rfl))
 have hok : Input.okWideB Tryz.checked.prog ((World.laidAll Tryz.prog os Rows.fieldPathsRow.laid).forCall (fun _ _ => 0) ⟨#[], #[.slice none 0 0, .string ByteArray.empty, .slice none 0 0], []⟩) 6 ⟨#[], #[.slice none 0 0, .string ByteArray.empty, .slice none 0 0], []⟩ = true := by kernel_rfl
 refine returnsInHanded_of_row (C := Tryz.checked) (s := (OpenSpec.ofChange Rows.fieldPathsSpec)) own started (by kernel_rfl) Tryz.func6
   ⟨World.laidAll Tryz.prog os Rows.fieldPathsRow.laid, fun _ _ => 0, ⟨#[], #[.slice none 0 0, .string ByteArray.empty, .slice none 0 0], []⟩, World.laidAll_os _ _ _, World.shaped_of_ZipB (by kernel_rfl) (by kernel_rfl), (Input.okWide_of_okWideB (base := 0) hok).1, (Input.okWide_of_okWideB hok).2, hrow, by
     simp only [Assume.holds]
     exact ⟨by simp, by simp, fun _ => Modest.zero, by simp, by simp⟩⟩ ?_
 intro W base args ds gs before hval0 hW _ hcond hwt _ hsh _
 have hval : ∀ (j : Nat) t v, Tryz.f6.params[j]? = some t → args[j]? = some v → Value.okWide Tryz.prog W .any base t v := hval0
 have hW' := hW
 obtain ⟨p, q, hA0, hV, rfl, hfz, hnd⟩ := hW
 have hA : DataW.TrodAll enc Tryz.prog W 0 (fun _ => true) true Tryz.f6.params.toList args.toList ds p := hA0
 rw [Tryz.params6] at hA hval
 obtain ⟨v0, vs0, d0, ds0, p0, q0, hargs, rfl, rfl, h0, r0⟩ := trodAll_cons hA
 obtain ⟨v1, vs1, d1, ds1, p1, q1, rfl, rfl, rfl, h1, r1⟩ := trodAll_cons r0
 obtain ⟨v2, vs2, d2, ds2, p2, q2, rfl, rfl, rfl, h2, r2⟩ := trodAll_cons r1
 obtain ⟨rfl, rfl, rfl⟩ := trodAll_nil r2
 obtain rfl : args = #[v0, v1, v2] := by cases args; simp_all
 obtain ⟨rfl, rfl⟩ := trodVars_none hV
 obtain ⟨A0, len0, c0, rfl⟩ := okWide_slice Tryz.underlying55 (hval 0 55 v0 rfl rfl)
 have h0k := h0
 obtain ⟨L0, rfl, m0, s0, sr0⟩ := open_A4 h0k
 have hP1 : (weighD H).P 9 d1 := weighD_arg hwt (j := 1) (by rw [Tryz.params6]; rfl) rfl
 obtain ⟨a1, rfl, rfl, rfl, w1⟩ := open_string Tryz.underlying9 (hval 1 9 v1 rfl rfl) h1
 have z1 : a1.size ≤ reachBytes := by
   have := (weighD H).str hP1
   simpa using this
 obtain ⟨A2, len2, c2, rfl⟩ := okWide_slice Tryz.underlying49 (hval 2 49 v2 rfl rfl)
 have h2k := h2
 obtain ⟨L2, rfl, m2, s2, sr2⟩ := open_PT h2k
 clear hA0 hval0
 simp only [List.append_nil] at hW'
 refine (law_fieldPaths reachBytes (by decide) A0 c0 L0 a1 A2 c2 L2 m0 (fun x hx => ⟨(s0 x hx).1, (s0 x hx).2.1, (s0 x hx).2.2.1⟩) z1 m2 s2 W (Tryz.laysM146.s1_3 W hsh) sr0 sr2).mono fun e W' ⟨he, bel⟩ => ?_
 subst he
 exact ⟨_, rfl, _, _, _, [], _, [], hW', trodAll_mk1 (shut_bool Tryz.underlying4 _), (trodAll_cons_mk (Below.trod laidOutC (by kernel_rfl) (of_decide_eq_true (by kernel_rfl)) h0 bel (fun x hx => by simpa using hW'.lt x (by simp [hx]))) (trodAll_cons_mk (shut_string Tryz.underlying9 w1) (trodAll_cons_mk (Below.trod laidOutC (by kernel_rfl) (of_decide_eq_true (by kernel_rfl)) h2 bel (fun x hx => by simpa using hW'.lt x (by simp [hx]))) trodAll_mk0))), rfl, bel.frame _, fun h => by cases h⟩
theorem e1 : (Rows.fieldPathsRow.inPlace == Tryz.pinned.checked.prog.inPlace 6) = true := by kernel_rfl
theorem e2 : (Rows.fieldPathsRow.unfollowed == Tryz.pinned.checked.prog.unfollowed 6) = true := by kernel_rfl
theorem e3 : (Rows.fieldPathsRow.recurses == Tryz.pinned.checked.prog.recurses 6) = true := by kernel_rfl
theorem e4 : (Rows.fieldPathsRow.named == Tryz.pinned.checked.prog.varsNamed 6) = true := by kernel_rfl
theorem e5 : mapsRowed Tryz.pinned.checked.prog = true := by kernel_rfl
theorem e6 : laidOutB Tryz.pinned.checked.prog = true := by kernel_rfl
theorem e7 : (Rows.fieldPathsRow.plainKeys == Tryz.pinned.checked.prog.plainKeys) = true := by kernel_rfl
theorem closedC : joinedFacts Tryz.pinned.checked.prog 6 Tryz.f6 (OpenSpec.ofChange Rows.fieldPathsSpec).bare Rows.fieldPathsRow = true := by
 unfold joinedFacts
 rw [e1, e2, e3, e4, e5, e6, e7]
 kernel_rfl
theorem nameC : Tryz.prog.funcNamed Rows.fieldPathsRow.func = some 6 := by kernel_rfl
theorem row_holds : Rows.FieldPathsSaid :=
 OpenClaim.holds_of_cond 6 Tryz.f6 rfl rfl rfl rfl rfl rfl rfl ⟨rfl, rfl, rfl, rfl, rfl⟩ rfl rfl rfl rfl rfl nameC Tryz.func6 closedC
   (of_decide_eq_true (by kernel_rfl)) (by unfold Func.isWrapper; first | (rw [if_pos (by decide +kernel)]; kernel_rfl) | (rw [if_neg (by decide +kernel)]; exact ⟨rfl, rfl⟩))
   (fun os started H enc _ F => by rw [OpenClaim.pre_eq_preRow]; exact lifted os started H enc F)
theorem wants : ∀ (j : Nat) (t : TypeId), (#[55, 9, 49] : Array TypeId)[j]? = some t → Tryz.prog.wantsStandIn t = false := by
 intro j t ht
 rcases j with _ | j
 · obtain rfl : t = 55 := by simpa using ht.symm
   kernel_rfl
 rcases j with _ | j
 · obtain rfl : t = 9 := by simpa using ht.symm
   kernel_rfl
 rcases j with _ | j
 · obtain rfl : t = 49 := by simpa using ht.symm
   kernel_rfl
 · simp at ht
theorem wfC : Rows.fieldPathsRow.wfByText (OpenSpec.ofChange Rows.fieldPathsSpec) = true := by kernel_rfl
theorem lookC : true = Tryz.pinned.checked.prog.looks [] := by kernel_rfl
theorem goesC : false = Rows.fieldPathsRow.goesBy Tryz.pinned.checked.prog := by kernel_rfl
theorem mainC : Tryz.pinned.checked.prog.mainIs = some (Rows.fieldPathsCard.stood.harness.1, Rows.fieldPathsCard.stood.harness.2.toList) := by kernel_rfl
theorem fieldPaths_proved : Rows.FieldPathsCardSaid :=
 Claim7.holds_tied_plain_at .later [] [.data,.pinned] true Rows.fieldPathsCard.stood.harness true
   row_holds (fun _ h => by cases h) wfC (fun _ h => by cases h) fieldPaths_row_tie rfl ⟨rfl, rfl⟩ mainC rfl
   (fun f fn hf hfn => by
     obtain rfl : f = 6 := Option.some.inj (nameC.symm.trans hf) |>.symm
     obtain rfl : fn = Tryz.f6 := (Option.some.inj (Tryz.func6.symm.trans hfn)).symm
     exact ⟨lookC, fun j t ht => by
       rw [Tryz.params6] at ht
       exact wants j t ht⟩)
   goesC
end Go.Proofs.YtmcophlmcloooaaGreatDoor.fieldPaths
