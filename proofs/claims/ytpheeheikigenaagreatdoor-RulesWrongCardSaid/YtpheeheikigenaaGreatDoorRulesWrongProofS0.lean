/- Walks and plain facts that the claim uses. -/
import Derived.Test.YtpheeheikigenaaGreatDoorRA3
import Derived.Deep.CutBlock
set_option maxRecDepth 100000
set_option maxHeartbeats 16000000
set_option linter.unusedSimpArgs false
set_option linter.unusedVariables false
namespace Go.Proofs.YtpheeheikigenaaGreatDoor
section
open Go.RowKit Go.Deep Go.Maps Ln Pth Vf Rd Mc
attribute [local go_sem] bt_eq
def wrongV : Array Value := #[.string ⟨#[97]⟩, .string ⟨#[9, 101, 99, 104, 111]⟩, .string ⟨#[58, 32, 97]⟩, .string ⟨#[97, 58, 32, 98, 58, 32, 99]⟩, .string ⟨#[97, 37, 32, 98, 58, 32, 99]⟩, .string ⟨#[36, 40, 97, 58, 32, 98]⟩, .string ⟨#[36, 123]⟩, .string ⟨#[97, 32, 61, 32, 49, 10, 9, 101, 99, 104, 111]⟩, .string ⟨#[105, 110, 99, 108, 117, 100, 101, 32, 110, 111, 110, 101]⟩, .string ⟨#[120, 32, 58, 61, 32, 36, 40, 120, 41, 36, 40, 121, 41, 10, 121, 32, 61, 32, 36, 40, 120]⟩, .string ⟨#[97, 0, 58, 32, 98]⟩, .string ⟨#[122, 32, 61, 32, 36, 40, 122, 41, 10, 36, 40, 122, 41, 58, 32, 97]⟩, .string ⟨#[97, 58, 32, 36, 40, 97]⟩]
def wrongN : Array Value := #[.int .i64 2, .int .i64 2, .int .i64 2, .int .i64 2, .int .i64 2, .int .i64 2, .int .i64 2, .int .i64 2, .int .i64 6, .int .i64 0, .int .i64 2, .int .i64 18, .int .i64 2]
theorem wrongV_at : ∀ i < 13, wrongV[i]? = some (.string (bs (wrongT.getD i []))) ∧ wrongN[i]? = some (.int .i64 ((wrongE.getD i 0 : Nat) : Int)) := by
 intro i hi
 rcases (by omega : i = 0 ∨ i = 1 ∨ i = 2 ∨ i = 3 ∨ i = 4 ∨ i = 5 ∨ i = 6 ∨ i = 7 ∨ i = 8 ∨ i = 9 ∨ i = 10 ∨ i = 11 ∨ i = 12) with rfl | rfl | rfl | rfl | rfl | rfl | rfl | rfl | rfl | rfl | rfl | rfl | rfl <;> exact ⟨rfl, rfl⟩
theorem wrong_at : ∀ i < 13, errR (textR (newS 1 1) [47] 10 ⟨[], [], [], 0⟩ (wrongT.getD i [])) = wrongE.getD i 0 ∧ (wrongT.getD i []).length ≤ 1000 := by
 intro i hi
 have h := wrong_all
 have hl : ∀ i < 13, (wrongT.getD i []).length ≤ 1000 := by decide +kernel
 refine ⟨?_, hl i hi⟩
 have h2 := congrArg (fun l => l.getD i 0) h
 rw [← h2]
 have h3 : i < wrongT.length := hi
 simp [List.getD_eq_getElem?_getD, List.getElem?_map, List.getElem?_eq_getElem h3]
theorem law_rulesWrong (K : Nat) (hK : K ≤ 140737488355328) (k : Int) (hk : (Lit.int .i64 k).wf = true) (w : World) (hm : MX w) :
   Calls Tryz.prog 3 #[.int .i64 k] w fun e w' => e = .returned (.bool true) ∧ Below w.heap.size w w' := by
 have HM := hide hm
 have HA := hide (ralive_any w hm)
 clear hm
 go_enter Tryz.func3, Tryz.ntmps3
 go_wp2_with fail
 refine HA.out.mono ?_
 rintro e w1 ⟨rfl, hb1⟩
 have HB1 := hide hb1
 clear hb1 HA
 by_cases h0 : k < 0
 · have hd : decide (k < 0) = true := decide_eq_true h0
   go_wp2
   go_ret
   exact ⟨rfl, (HB1.out.alloc (HB1.out.size) _).alloc (by have := HB1.out.size; simp; omega) _⟩
 have hd : decide (k < 0) = false := decide_eq_false h0
 by_cases h1 : 13 ≤ k
 · have hd1 : decide (13 ≤ k) = true := decide_eq_true h1
   go_wp2
   go_ret
   exact ⟨rfl, (HB1.out.alloc (HB1.out.size) _).alloc (by have := HB1.out.size; simp; omega) _⟩
 have hd1 : decide (13 ≤ k) = false := decide_eq_false h1
 obtain ⟨i, rfl⟩ : ∃ i : Nat, k = i := ⟨k.toNat, by omega⟩
 have hi : i < 13 := by omega
 obtain ⟨hw1, hw2⟩ := wrong_at i hi
 obtain ⟨hv1, hv2⟩ := wrongV_at i hi
 obtain ⟨tx, htx⟩ : ∃ z, wrongT.getD i [] = z := ⟨_, rfl⟩
 obtain ⟨we, hwe⟩ : ∃ z, wrongE.getD i 0 = z := ⟨_, rfl⟩
 rw [htx] at hw1 hw2 hv1
 rw [hwe] at hw1 hv2
 have hT : ((w1.alloc (.cells wrongV 9)).alloc (.cells wrongN 3)).cell? ⟨w1.heap.size, i, none⟩ = some (.string (bs tx)) :=
   cellOf ((Below.heap_alloc _ _ _ (by simp)).trans (heapNew w1 _)) hv1
 have hN : ((w1.alloc (.cells wrongV 9)).alloc (.cells wrongN 3)).cell? ⟨w1.heap.size + 1, i, none⟩ = some (.int .i64 (we : Int)) := by
   have := heapNew (w1.alloc (.cells wrongV 9)) (.cells wrongN 3)
   exact cellOf (by simpa using this) hv2
 have HB4 := hide (show Below w.heap.size w ((w1.alloc (.cells wrongV 9)).alloc (.cells wrongN 3)) from (HB1.out.alloc (HB1.out.size) _).alloc (by have := HB1.out.size; simp; omega) _)
 obtain ⟨W, hW⟩ : ∃ z, (w1.alloc (.cells wrongV 9)).alloc (.cells wrongN 3) = z := ⟨_, rfl⟩
 have HW := hide (show (w1.alloc (.cells #[.string ⟨#[97]⟩, .string ⟨#[9, 101, 99, 104, 111]⟩, .string ⟨#[58, 32, 97]⟩, .string ⟨#[97, 58, 32, 98, 58, 32, 99]⟩, .string ⟨#[97, 37, 32, 98, 58, 32, 99]⟩, .string ⟨#[36, 40, 97, 58, 32, 98]⟩, .string ⟨#[36, 123]⟩, .string ⟨#[97, 32, 61, 32, 49, 10, 9, 101, 99, 104, 111]⟩, .string ⟨#[105, 110, 99, 108, 117, 100, 101, 32, 110, 111, 110, 101]⟩, .string ⟨#[120, 32, 58, 61, 32, 36, 40, 120, 41, 36, 40, 121, 41, 10, 121, 32, 61, 32, 36, 40, 120]⟩, .string ⟨#[97, 0, 58, 32, 98]⟩, .string ⟨#[122, 32, 61, 32, 36, 40, 122, 41, 10, 36, 40, 122, 41, 58, 32, 97]⟩, .string ⟨#[97, 58, 32, 36, 40, 97]⟩] 9)).alloc (.cells #[.int .i64 2, .int .i64 2, .int .i64 2, .int .i64 2, .int .i64 2, .int .i64 2, .int .i64 2, .int .i64 2, .int .i64 6, .int .i64 0, .int .i64 2, .int .i64 18, .int .i64 2] 3) = W from hW)
 rw [hW] at hT hN HB4
 have HT := hide hT
 have HNN := hide hN
 have HWW := hide hw1
 have HWL := hide hw2
 clear hW hv1 hv2 htx hwe hT hN hw1 hw2
 have b13 : (i : Int) < 13 := by omega
 have HNW := hide (fun X (hX : Below w.heap.size w X) => vnew_at w X HM.out hX)
 have HBW := HB4
 have HQ := hide (fun X (hX : Below W.heap.size W X) => show (fun X => X.cell? ⟨w1.heap.size, i, none⟩ = some (.string (bs tx))) X from (hX.cell (p := ⟨w1.heap.size, i, none⟩) (World.block_lt_of_cell? W _ HT.out)).trans HT.out)
 have HWL' := HWL
 clear HWL
 have HWL := hide (show tx.length ≤ 9000000000000000000 by have := HWL'.out; omega)
 go_upto_region 6 with (fail)
 rw [HW.out]
 go_cut [6, 7] from 24 to 32 (fun v6 v7 w' => ∃ gm code : Nat, v6 = .pointer (some ⟨gm, 0, none⟩) ∧ v7 = .int .i64 code ∧ MkAt (textR (newS 1 1) [47] 10 ⟨[], [], [], 0⟩ tx) gm code w' ∧ Below W.heap.size W w')
 case first =>
   refine wp_region_held_drew (S := (fun X => X.cell? ⟨w1.heap.size, i, none⟩ = some (.string (bs tx)))) (by kernel_rfl) (HQ.out _ (Below.refl _ _).drew) (fun hHeld => ?_)
   refine tq (i := 1) (v := ?vQ1) rfl rfl (by kernel_rfl) (fun _ _ _ h => h) ?yQ1 (by assumption) ?rQ1
   case yQ1 => intro w h; (try dsimp only at h); go_simp; try with_reducible rfl
   try simp only [sA, sB, sC]
   refine tq (i := 2) (v := ?vQ2) rfl rfl (by kernel_rfl) (fun _ _ _ h => h) ?yQ2 (by assumption) ?rQ2
   case yQ2 => intro w h; (try dsimp only at h); go_simp; try with_reducible rfl
   try simp only [sA, sB, sC]
   refine tq (i := 3) (v := ?vQ3) rfl rfl (by kernel_rfl) (fun _ _ _ h => h) ?yQ3 (by assumption) ?rQ3
   case yQ3 => intro w h; (try dsimp only at h); go_simp; try with_reducible rfl
   try simp only [sA, sB, sC]
   refine tq (i := 4) (v := ?vQ4) rfl rfl (by kernel_rfl) (fun _ _ _ h => h) ?yQ4 (by assumption) ?rQ4
   case yQ4 => intro w h; (try dsimp only at h); go_simp; try with_reducible rfl
   try simp only [sA, sB, sC]
   refine wpAnyH_ready (rs := [0, 9]) (by kernel_rfl) (by simp) ?_
   refine AllReadyH.cons (o := _) rfl (fun K hK => ?way1) (AllReadyH.cons (o := _) rfl (fun K hK => ?way2) AllReadyH.nil)
   case way1 =>
     rw [if_pos (by kernel_rfl)]
     go_simp
     refine (HNW.out _ (HBW.out.trans (((Below.refl W.heap.size W).drew).mono HBW.out.size))).mono ?_
     rintro e w2 ⟨gf, rfl, hb2, hrd2⟩
     have HRD2 := hide hrd2
     clear hrd2
     have HB2 := hide (((Below.refl W.heap.size W).drew).trans hb2)
     clear hb2
     refine hK.out _ _ (HQ.out _ HB2.out) (fun _ => ?_)
     clear hK K
     try simp only [Act.put, sA, sB, sC]
     refine wpAnyH_ready (rs := [5, 9]) (by kernel_rfl) (by simp) ?_
     refine AllReadyH.cons (o := _) rfl (fun K hK => ?way3) (AllReadyH.cons (o := _) rfl (fun K hK => ?way4) AllReadyH.nil)
     case way3 =>
       rw [if_pos (by kernel_rfl)]
       go_simp
       refine (HRD2.out tx _ HWL.out (Below.refl _ _)).mono ?_
       intro e w3 hend
       obtain ⟨pA, pn, pc, rA, rn, rc, code, rfl, hb3, hat1, hat2⟩ := hend.after
       have HB3 := hide (HB2.out.trans (hb3.mono HB2.out.size))
       have HAT := hide hat1
       clear hb3 hat1 hat2 hend
       refine hK.out _ _ (HQ.out _ HB3.out) (fun _ => ?_)
       clear hK K
       try simp only [Act.put, sA, sB, sC]
       refine tq (i := 6) (v := ?vA6) rfl rfl (by kernel_rfl) (fun _ _ _ h => h) ?yA6 (by assumption) ?rA6
       case yA6 => intro w h; (try dsimp only at h); go_simp; try with_reducible rfl
       try simp only [sA, sB, sC]
       refine tq (i := 7) (v := ?vA7) rfl rfl (by kernel_rfl) (fun _ _ _ h => h) ?yA7 (by assumption) ?rA7
       case yA7 => intro w h; (try dsimp only at h); go_simp; try with_reducible rfl
       try simp only [sA, sB, sC]
       refine tq (i := 8) (v := ?vA8) rfl rfl (by kernel_rfl) (fun _ _ _ h => h) ?yA8 (by assumption) ?rA8
       case yA8 => intro w h; (try dsimp only at h); go_simp; try with_reducible rfl
       try simp only [sA, sB, sC]
       refine rq (k := 9) rfl (by kernel_rfl) (by kernel_rfl) (fun K hK => ?_)
       go_simp
       refine hK.out _ _ (HQ.out _ (HB3.out.alloc HB3.out.size _)) (fun _ => ?_)
       clear hK K
       try simp only [Act.put, sA, sB, sC]
       refine rq (k := 10) rfl (by kernel_rfl) (by kernel_rfl) (fun K hK => ?_)
       go_simp
       refine hK.out _ _ (HQ.out _ (HB3.out.alloc HB3.out.size _)) (fun _ => ?_)
       clear hK K
       try simp only [Act.put, sA, sB, sC]
       refine tq (i := 11) (v := ?vAF11) rfl rfl (by kernel_rfl) (fun _ _ _ h => h) ?yAF11 (by assumption) ?rAF11
       case yAF11 => intro w h; (try dsimp only at h); go_simp; try with_reducible rfl
       try simp only [sA, sB, sC]
       refine wpAnyH_done (by kernel_rfl) ?_ _
       go_wp2
       go_meet
       refine ⟨w3.heap.size, code, rfl, rfl, HAT.out, HB3.out.alloc HB3.out.size _⟩
     case way4 =>
       have HGL := hide HB2.out.size
       rw [if_pos (by kernel_rfl)]
       go_simp
       have HNZ := hide (heapNew w2 (.cells #[.slice none 0 0, .slice none 0 0] mkty))
       have HBZ := hide (HB2.out.alloc HB2.out.size (.cells #[.slice none 0 0, .slice none 0 0] mkty))
       refine hK.out _ _ (HQ.out _ HBZ.out) (fun _ => ?_)
       clear hK K
       try simp only [Act.put, sA, sB, sC]
       refine rq (k := 5) rfl (by kernel_rfl) (by kernel_rfl) (fun K hK => ?_)
       go_simp
       refine (HRD2.out tx _ HWL.out ((Below.refl _ _).alloc (Nat.le_refl _) _)).mono ?_
       intro e w3 hend
       obtain ⟨pA, pn, pc, rA, rn, rc, code, rfl, hb3, hat1, hat2⟩ := hend.after
       have HB3 := hide (HBZ.out.trans (hb3.mono HBZ.out.size))
       have hgz := (hb3.block w2.heap.size (Array.getElem?_eq_some_iff.1 HNZ.out).1).trans HNZ.out
       have hq0 := cellOf hgz (j := 0) rfl
       have hq1 := freeOf hgz 0
       have hgz2 := heapSet (j := 0) hgz (.slice pA pn pc)
       have hq2 : (w3.setCell ⟨w2.heap.size, 0, none⟩ (.slice pA pn pc)).cell? ⟨w2.heap.size, 1, none⟩ = some (.slice none 0 0) := cellOf hgz2 (j := 1) rfl
       have hq3 : (w3.setCell ⟨w2.heap.size, 0, none⟩ (.slice pA pn pc)).frozen? ⟨w2.heap.size, 1, none⟩ = false := freeOf hgz2 1
       have HAT := hide (hat2 _ hgz)
       have HB4 := hide ((HB3.out.setCell (p := ⟨w2.heap.size, 0, none⟩) HGL.out (.slice pA pn pc)).setCell (p := ⟨w2.heap.size, 1, none⟩) HGL.out (.slice rA rn rc))
       clear hb3 hat1 hat2 hend hgz hgz2
       refine hK.out _ _ (HQ.out _ HB3.out) (fun _ => ?_)
       clear hK K
       try simp only [Act.put, sA, sB, sC]
       refine tq (i := 6) (v := ?vB6) rfl rfl (by kernel_rfl) (fun _ _ _ h => h) ?yB6 (by assumption) ?rB6
       case yB6 => intro w h; (try dsimp only at h); go_simp; try with_reducible rfl
       try simp only [sA, sB, sC]
       refine tq (i := 7) (v := ?vB7) rfl rfl (by kernel_rfl) (fun _ _ _ h => h) ?yB7 (by assumption) ?rB7
       case yB7 => intro w h; (try dsimp only at h); go_simp; try with_reducible rfl
       try simp only [sA, sB, sC]
       refine tq (i := 8) (v := ?vB8) rfl rfl (by kernel_rfl) (fun _ _ _ h => h) ?yB8 (by assumption) ?rB8
       case yB8 => intro w h; (try dsimp only at h); go_simp; try with_reducible rfl
       try simp only [sA, sB, sC]
       refine rq (k := 10) rfl (by kernel_rfl) (by kernel_rfl) (fun K hK => ?_)
       go_simp
       refine hK.out _ _ (HQ.out _ HB4.out) (fun _ => ?_)
       clear hK K
       try simp only [Act.put, sA, sB, sC]
       refine tq (i := 11) (v := ?vBF11) rfl rfl (by kernel_rfl) (fun _ _ _ h => h) ?yBF11 (by assumption) ?rBF11
       case yBF11 => intro w h; (try dsimp only at h); go_simp; try with_reducible rfl
       try simp only [sA, sB, sC]
       refine wpAnyH_done (by kernel_rfl) ?_ _
       go_wp2
       go_meet
       refine ⟨w2.heap.size, code, rfl, rfl, HAT.out, HB4.out⟩
   case way2 =>
     have HGL := hide (Nat.le_refl W.heap.size)
     rw [if_pos (by kernel_rfl)]
     go_simp
     have HNZ := hide (heapNew W.drew (.cells #[.slice none 0 0, .slice none 0 0] mkty))
     have HBZ0 := hide ((Below.refl W.heap.size W).drew.alloc (Nat.le_refl _) (.cells #[.slice none 0 0, .slice none 0 0] mkty))
     refine hK.out _ _ (HQ.out _ HBZ0.out) (fun _ => ?_)
     clear hK K
     try simp only [Act.put, sA, sB, sC]
     refine rq (k := 0) rfl (by kernel_rfl) (by kernel_rfl) (fun K hK => ?_)
     go_simp
     refine (HNW.out _ (HBW.out.trans (HBZ0.out.mono HBW.out.size))).mono ?_
     rintro e w2 ⟨gf, rfl, hb2, hrd2⟩
     have HRD2 := hide hrd2
     clear hrd2
     have HBZ := hide (HBZ0.out.trans (hb2.mono (by simp)))
     have HNZ := hide ((hb2.block W.heap.size (by simp)).trans HNZ.out)
     clear hb2
     refine hK.out _ _ (HQ.out _ HBZ.out) (fun _ => ?_)
     clear hK K
     try simp only [Act.put, sA, sB, sC]
     refine rq (k := 5) rfl (by kernel_rfl) (by kernel_rfl) (fun K hK => ?_)
     go_simp
     refine (HRD2.out tx _ HWL.out (Below.refl _ _)).mono ?_
     intro e w3 hend
     obtain ⟨pA, pn, pc, rA, rn, rc, code, rfl, hb3, hat1, hat2⟩ := hend.after
     have HB3 := hide (HBZ.out.trans (hb3.mono HBZ.out.size))
     have hgz := (hb3.block W.heap.size (Array.getElem?_eq_some_iff.1 HNZ.out).1).trans HNZ.out
     have hq0 := cellOf hgz (j := 0) rfl
     have hq1 := freeOf hgz 0
     have hgz2 := heapSet (j := 0) hgz (.slice pA pn pc)
     have hq2 : (w3.setCell ⟨W.heap.size, 0, none⟩ (.slice pA pn pc)).cell? ⟨W.heap.size, 1, none⟩ = some (.slice none 0 0) := cellOf hgz2 (j := 1) rfl
     have hq3 : (w3.setCell ⟨W.heap.size, 0, none⟩ (.slice pA pn pc)).frozen? ⟨W.heap.size, 1, none⟩ = false := freeOf hgz2 1
     have HAT := hide (hat2 _ hgz)
     have HB4 := hide ((HB3.out.setCell (p := ⟨W.heap.size, 0, none⟩) HGL.out (.slice pA pn pc)).setCell (p := ⟨W.heap.size, 1, none⟩) HGL.out (.slice rA rn rc))
     clear hb3 hat1 hat2 hend hgz hgz2
     refine hK.out _ _ (HQ.out _ HB3.out) (fun _ => ?_)
     clear hK K
     try simp only [Act.put, sA, sB, sC]
     refine tq (i := 6) (v := ?vC6) rfl rfl (by kernel_rfl) (fun _ _ _ h => h) ?yC6 (by assumption) ?rC6
     case yC6 => intro w h; (try dsimp only at h); go_simp; try with_reducible rfl
     try simp only [sA, sB, sC]
     refine tq (i := 7) (v := ?vC7) rfl rfl (by kernel_rfl) (fun _ _ _ h => h) ?yC7 (by assumption) ?rC7
     case yC7 => intro w h; (try dsimp only at h); go_simp; try with_reducible rfl
     try simp only [sA, sB, sC]
     refine tq (i := 8) (v := ?vC8) rfl rfl (by kernel_rfl) (fun _ _ _ h => h) ?yC8 (by assumption) ?rC8
     case yC8 => intro w h; (try dsimp only at h); go_simp; try with_reducible rfl
     try simp only [sA, sB, sC]
     refine rq (k := 10) rfl (by kernel_rfl) (by kernel_rfl) (fun K hK => ?_)
     go_simp
     refine hK.out _ _ (HQ.out _ HB4.out) (fun _ => ?_)
     clear hK K
     try simp only [Act.put, sA, sB, sC]
     refine tq (i := 11) (v := ?vCF11) rfl rfl (by kernel_rfl) (fun _ _ _ h => h) ?yCF11 (by assumption) ?rCF11
     case yCF11 => intro w h; (try dsimp only at h); go_simp; try with_reducible rfl
     try simp only [sA, sB, sC]
     refine wpAnyH_done (by kernel_rfl) ?_ _
     go_wp2
     go_meet
     refine ⟨W.heap.size, code, rfl, rfl, HAT.out, HB4.out⟩
 case rest =>
   obtain ⟨gm, code, rfl, rfl, hat, hbq⟩ := hcut
   have HNU := hide (fun n W => num20_any n W)
   have HBF := hide (HBW.out.trans (hbq.mono HBW.out.size))
   have hnn := (hbq.cell (p := ⟨w1.heap.size + 1, i, none⟩) (World.block_lt_of_cell? W _ HNN.out)).trans HNN.out
   have HWW := HWW.out
   generalize textR (newS 1 1) [47] 10 ⟨[], [], [], 0⟩ tx = R at hat HWW
   have hcode : code = we := by
     cases R with
     | error c => exact hat.1.trans HWW
     | ok s => exact hat.1.trans HWW
   subst hcode
   clear hbq
   by_cases h0 : code = 0
   · subst h0
     clear hat HWW
     go_upto_region 7 with (fail)
     refine wp_region_held_drew (S := (fun X => X.cell? ⟨w1.heap.size + 1, i, none⟩ = some (.int .i64 ((0 : Nat) : Int)))) (by kernel_rfl) hnn (fun hHeld => ?_)
     refine tq (i := 0) (v := ?vR0) rfl rfl (by kernel_rfl) (fun _ _ _ h => h) ?yR0 (by assumption) ?rR0
     case yR0 => intro w h; (try dsimp only at h); go_simp; try with_reducible rfl
     try simp only [sA, sB, sC]
     refine tq (i := 2) (v := ?vR2) rfl rfl (by kernel_rfl) (fun _ _ _ h => h) ?yR2 (by assumption) ?rR2
     case yR2 => intro w h; (try dsimp only at h); go_simp; try with_reducible rfl
     try simp only [sA, sB, sC]
     refine tq (i := 3) (v := ?vR3) rfl rfl (by kernel_rfl) (fun _ _ _ h => h) ?yR3 (by assumption) ?rR3
     case yR3 => intro w h; (try dsimp only at h); go_simp; try with_reducible rfl
     try simp only [sA, sB, sC]
     refine tq (i := 4) (v := ?vR4) rfl rfl (by kernel_rfl) (fun _ _ _ h => h) ?yR4 (by assumption) ?rR4
     case yR4 => intro w h; (try dsimp only at h); go_simp; try with_reducible rfl
     try simp only [sA, sB, sC]
     refine tq (i := 5) (v := ?vR5) rfl rfl (by kernel_rfl) (fun _ _ _ h => h) ?yR5 (by assumption) ?rR5
     case yR5 => intro w h; (try dsimp only at h); go_simp; try with_reducible rfl
     try simp only [sA, sB, sC]
     refine rq (k := 1) rfl (by kernel_rfl) (by kernel_rfl) (fun K hK => ?_)
     go_simp
     refine (HNU.out _ _).mono ?_
     rintro e w4 ⟨rfl, rfl⟩
     refine hK.out _ _ (by assumption) (fun _ => ?_)
     clear hK K
     try simp only [Act.put, sA, sB, sC]
     refine tq (i := 6) (v := ?vR6) rfl rfl (by kernel_rfl) (fun _ _ _ h => h) ?yR6 (by assumption) ?rR6
     case yR6 => intro w h; (try dsimp only at h); go_simp; try with_reducible rfl
     try simp only [sA, sB, sC]
     refine tq (i := 7) (v := ?vR7) rfl rfl (by kernel_rfl) (fun _ _ _ h => h) ?yR7 (by assumption) ?rR7
     case yR7 => intro w h; (try dsimp only at h); go_simp; try with_reducible rfl
     try simp only [sA, sB, sC]
     refine tq (i := 8) (v := ?vR8) rfl rfl (by kernel_rfl) (fun _ _ _ h => h) ?yR8 (by assumption) ?rR8
     case yR8 => intro w h; (try dsimp only at h); go_simp; try with_reducible rfl
     try simp only [sA, sB, sC]
     refine tq (i := 9) (v := ?vR9) rfl rfl (by kernel_rfl) (fun _ _ _ h => h) ?yR9 (by assumption) ?rR9
     case yR9 => intro w h; (try dsimp only at h); go_simp; try with_reducible rfl
     try simp only [sA, sB, sC]
     refine tq (i := 10) (v := ?vR10) rfl rfl (by kernel_rfl) (fun _ _ _ h => h) ?yR10 (by assumption) ?rR10
     case yR10 => intro w h; (try dsimp only at h); go_simp; try with_reducible rfl
     try simp only [sA, sB, sC]
     refine tq (i := 11) (v := ?vR11) rfl rfl (by kernel_rfl) (fun _ _ _ h => h) ?yR11 (by assumption) ?rR11
     case yR11 => intro w h; (try dsimp only at h); go_simp; try with_reducible rfl
     try simp only [sA, sB, sC]
     refine tq (i := 12) (v := ?vR12) rfl rfl (by kernel_rfl) (fun _ _ _ h => h) ?yR12 (by assumption) ?rR12
     case yR12 => intro w h; (try dsimp only at h); go_simp; try with_reducible rfl
     try simp only [sA, sB, sC]
     refine tq (i := 13) (v := ?vR13) rfl rfl (by kernel_rfl) (fun _ _ _ h => h) ?yR13 (by assumption) ?rR13
     case yR13 => intro w h; (try dsimp only at h); go_simp; try with_reducible rfl
     try simp only [sA, sB, sC]
     refine wpAnyH_off (i := 14) (oi := _) rfl rfl (by kernel_rfl) (by kernel_rfl) (by kernel_rfl) (fun _ _ _ h => h) (by kernel_rfl) (by assumption) ?_
     try simp only [sA, sB, sC]
     refine wpAnyH_off (i := 15) (oi := _) rfl rfl (by kernel_rfl) (by kernel_rfl) (by kernel_rfl) (fun _ _ _ h => h) (by kernel_rfl) (by assumption) ?_
     try simp only [sA, sB, sC]
     refine wpAnyH_off (i := 16) (oi := _) rfl rfl (by kernel_rfl) (by kernel_rfl) (by kernel_rfl) (fun _ _ _ h => h) (by kernel_rfl) (by assumption) ?_
     try simp only [sA, sB, sC]
     refine wpAnyH_off (i := 17) (oi := _) rfl rfl (by kernel_rfl) (by kernel_rfl) (by kernel_rfl) (fun _ _ _ h => h) (by kernel_rfl) (by assumption) ?_
     try simp only [sA, sB, sC]
     refine wpAnyH_off (i := 18) (oi := _) rfl rfl (by kernel_rfl) (by kernel_rfl) (by kernel_rfl) (fun _ _ _ h => h) (by kernel_rfl) (by assumption) ?_
     try simp only [sA, sB, sC]
     refine wpAnyH_off (i := 19) (oi := _) rfl rfl (by kernel_rfl) (by kernel_rfl) (by kernel_rfl) (fun _ _ _ h => h) (by kernel_rfl) (by assumption) ?_
     try simp only [sA, sB, sC]
     refine wpAnyH_off (i := 20) (oi := _) rfl rfl (by kernel_rfl) (by kernel_rfl) (by kernel_rfl) (fun _ _ _ h => h) (by kernel_rfl) (by assumption) ?_
     try simp only [sA, sB, sC]
     refine wpAnyH_off (i := 21) (oi := _) rfl rfl (by kernel_rfl) (by kernel_rfl) (by kernel_rfl) (fun _ _ _ h => h) (by kernel_rfl) (by assumption) ?_
     try simp only [sA, sB, sC]
     refine wpAnyH_off (i := 22) (oi := _) rfl rfl (by kernel_rfl) (by kernel_rfl) (by kernel_rfl) (fun _ _ _ h => h) (by kernel_rfl) (by assumption) ?_
     try simp only [sA, sB, sC]
     refine wpAnyH_off (i := 23) (oi := _) rfl rfl (by kernel_rfl) (by kernel_rfl) (by kernel_rfl) (fun _ _ _ h => h) (by kernel_rfl) (by assumption) ?_
     try simp only [sA, sB, sC]
     refine tq (i := 24) (v := ?vR24) rfl rfl (by kernel_rfl) (fun _ _ _ h => h) ?yR24 (by assumption) ?rR24
     case yR24 => intro w h; (try dsimp only at h); go_simp; try with_reducible rfl
     try simp only [sA, sB, sC]
     refine tq (i := 25) (v := ?vR25) rfl rfl (by kernel_rfl) (fun _ _ _ h => h) ?yR25 (by assumption) ?rR25
     case yR25 => intro w h; (try dsimp only at h); go_simp; try with_reducible rfl
     try simp only [sA, sB, sC]
     refine tq (i := 26) (v := ?vR26) rfl rfl (by kernel_rfl) (fun _ _ _ h => h) ?yR26 (by assumption) ?rR26
     case yR26 => intro w h; (try dsimp only at h); go_simp; try with_reducible rfl
     try simp only [sA, sB, sC]
     refine wpAnyH_done (by kernel_rfl) ?_ _
     go_wp2
     go_ret
     exact ⟨rfl, HBF.out.drew⟩
   · have hgm : wc.heap[gm]? = some (.cells #[.slice none 0 0, .slice none 0 0] mkty) := by
       cases R with
       | error c => exact hat.2
       | ok s => exact absurd hat.1 h0
     have hz : ((code : Int) == 0) = false := by rw [beq_eq_false_iff_ne]; omega
     have m0 := cellOf hgm (j := 0) rfl
     have m1 := cellOf hgm (j := 1) rfl
     clear hat HWW hgm h0
     go_upto_region 7 with (fail)
     refine wp_region_held_drew (S := (fun X => X.cell? ⟨w1.heap.size + 1, i, none⟩ = some (.int .i64 (code : Int)) ∧ X.cell? ⟨gm, 0, none⟩ = some (.slice none 0 0) ∧ X.cell? ⟨gm, 1, none⟩ = some (.slice none 0 0))) (by kernel_rfl) ⟨hnn, m0, m1⟩ (fun hHeld => ?_)
     refine tq (i := 0) (v := ?vV0) rfl rfl (by kernel_rfl) (fun _ _ _ h => h) ?yV0 (by assumption) ?rV0
     case yV0 => intro w h; (try dsimp only at h); go_simp; try with_reducible rfl
     try simp only [sA, sB, sC]
     refine tq (i := 2) (v := ?vV2) rfl rfl (by kernel_rfl) (fun _ _ _ h => h) ?yV2 (by assumption) ?rV2
     case yV2 => intro w h; (try dsimp only at h); go_simp; try with_reducible rfl
     try simp only [sA, sB, sC]
     refine tq (i := 3) (v := ?vV3) rfl rfl (by kernel_rfl) (fun _ _ _ h => h) ?yV3 (by assumption) ?rV3
     case yV3 => intro w h; (try dsimp only at h); go_simp; try with_reducible rfl
     try simp only [sA, sB, sC]
     refine tq (i := 4) (v := ?vV4) rfl rfl (by kernel_rfl) (fun _ _ _ h => h) ?yV4 (by assumption) ?rV4
     case yV4 => intro w h; (try dsimp only at h); go_simp; try with_reducible rfl
     try simp only [sA, sB, sC]
     refine tq (i := 5) (v := ?vV5) rfl rfl (by kernel_rfl) (fun _ _ _ h => h) ?yV5 (by assumption) ?rV5
     case yV5 => intro w h; (try dsimp only at h); go_simp; try with_reducible rfl
     try simp only [sA, sB, sC]
     refine rq (k := 1) rfl (by kernel_rfl) (by kernel_rfl) (fun K hK => ?_)
     go_simp
     refine (HNU.out _ _).mono ?_
     rintro e w4 ⟨rfl, rfl⟩
     refine hK.out _ _ (by assumption) (fun _ => ?_)
     clear hK K
     try simp only [Act.put, sA, sB, sC]
     refine tq (i := 6) (v := ?vV6) rfl rfl (by kernel_rfl) (fun _ _ _ h => h) ?yV6 (by assumption) ?rV6
     case yV6 => intro w h; (try dsimp only at h); go_simp; try with_reducible rfl
     try simp only [sA, sB, sC]
     refine tq (i := 7) (v := ?vV7) rfl rfl (by kernel_rfl) (fun _ _ _ h => h) ?yV7 (by assumption) ?rV7
     case yV7 => intro w h; (try dsimp only at h); go_simp; try with_reducible rfl
     try simp only [sA, sB, sC]
     refine tq (i := 8) (v := ?vV8) rfl rfl (by kernel_rfl) (fun _ _ _ h => h) ?yV8 (by assumption) ?rV8
     case yV8 => intro w h; (try dsimp only at h); go_simp; try with_reducible rfl
     try simp only [sA, sB, sC]
     refine tq (i := 9) (v := ?vV9) rfl rfl (by kernel_rfl) (fun _ _ _ h => h) ?yV9 (by assumption) ?rV9
     case yV9 => intro w h; (try dsimp only at h); go_simp; try with_reducible rfl
     try simp only [sA, sB, sC]
     refine tq (i := 10) (v := ?vV10) rfl rfl (by kernel_rfl) (fun _ _ _ h => h) ?yV10 (by assumption) ?rV10
     case yV10 => intro w h; (try dsimp only at h); go_simp; try with_reducible rfl
     try simp only [sA, sB, sC]
     refine tq (i := 11) (v := ?vV11) rfl rfl (by kernel_rfl) (fun _ _ _ h => h) ?yV11 (by assumption) ?rV11
     case yV11 => intro w h; (try dsimp only at h); go_simp; try with_reducible rfl
     try simp only [sA, sB, sC]
     refine tq (i := 12) (v := ?vV12) rfl rfl (by kernel_rfl) (fun _ _ _ h => h) ?yV12 (by assumption) ?rV12
     case yV12 => intro w h; (try dsimp only at h); go_simp; try with_reducible rfl
     try simp only [sA, sB, sC]
     refine tq (i := 13) (v := ?vV13) rfl rfl (by kernel_rfl) (fun _ _ _ h => h) ?yV13 (by assumption) ?rV13
     case yV13 => intro w h; (try dsimp only at h); go_simp; try with_reducible rfl
     try simp only [sA, sB, sC]
     refine tq (i := 14) (v := ?vV14) rfl rfl (by kernel_rfl) (fun _ _ _ h => h) ?yV14 (by assumption) ?rV14
     case yV14 => intro w h; (try dsimp only at h); go_simp; try with_reducible rfl
     try simp only [sA, sB, sC]
     refine tq (i := 15) (v := ?vV15) rfl rfl (by kernel_rfl) (fun _ _ _ h => h) ?yV15 (by assumption) ?rV15
     case yV15 => intro w h; (try dsimp only at h); go_simp; try with_reducible rfl
     try simp only [sA, sB, sC]
     refine tq (i := 16) (v := ?vV16) rfl rfl (by kernel_rfl) (fun _ _ _ h => h) ?yV16 (by assumption) ?rV16
     case yV16 => intro w h; (try dsimp only at h); go_simp; try with_reducible rfl
     try simp only [sA, sB, sC]
     refine tq (i := 17) (v := ?vV17) rfl rfl (by kernel_rfl) (fun _ _ _ h => h) ?yV17 (by assumption) ?rV17
     case yV17 => intro w h; (try dsimp only at h); go_simp; try with_reducible rfl
     try simp only [sA, sB, sC]
     refine tq (i := 18) (v := ?vV18) rfl rfl (by kernel_rfl) (fun _ _ _ h => h) ?yV18 (by assumption) ?rV18
     case yV18 => intro w h; (try dsimp only at h); go_simp; try with_reducible rfl
     try simp only [sA, sB, sC]
     refine tq (i := 19) (v := ?vV19) rfl rfl (by kernel_rfl) (fun _ _ _ h => h) ?yV19 (by assumption) ?rV19
     case yV19 => intro w h; (try dsimp only at h); go_simp; try with_reducible rfl
     try simp only [sA, sB, sC]
     refine tq (i := 20) (v := ?vV20) rfl rfl (by kernel_rfl) (fun _ _ _ h => h) ?yV20 (by assumption) ?rV20
     case yV20 => intro w h; (try dsimp only at h); go_simp; try with_reducible rfl
     try simp only [sA, sB, sC]
     refine tq (i := 21) (v := ?vV21) rfl rfl (by kernel_rfl) (fun _ _ _ h => h) ?yV21 (by assumption) ?rV21
     case yV21 => intro w h; (try dsimp only at h); go_simp; try with_reducible rfl
     try simp only [sA, sB, sC]
     refine tq (i := 22) (v := ?vV22) rfl rfl (by kernel_rfl) (fun _ _ _ h => h) ?yV22 (by assumption) ?rV22
     case yV22 => intro w h; (try dsimp only at h); go_simp; try with_reducible rfl
     try simp only [sA, sB, sC]
     refine tq (i := 23) (v := ?vV23) rfl rfl (by kernel_rfl) (fun _ _ _ h => h) ?yV23 (by assumption) ?rV23
     case yV23 => intro w h; (try dsimp only at h); go_simp; try with_reducible rfl
     try simp only [sA, sB, sC]
     refine tq (i := 24) (v := ?vV24) rfl rfl (by kernel_rfl) (fun _ _ _ h => h) ?yV24 (by assumption) ?rV24
     case yV24 => intro w h; (try dsimp only at h); go_simp; try with_reducible rfl
     try simp only [sA, sB, sC]
     refine tq (i := 25) (v := ?vV25) rfl rfl (by kernel_rfl) (fun _ _ _ h => h) ?yV25 (by assumption) ?rV25
     case yV25 => intro w h; (try dsimp only at h); go_simp; try with_reducible rfl
     try simp only [sA, sB, sC]
     refine tq (i := 26) (v := ?vV26) rfl rfl (by kernel_rfl) (fun _ _ _ h => h) ?yV26 (by assumption) ?rV26
     case yV26 => intro w h; (try dsimp only at h); go_simp; try with_reducible rfl
     try simp only [sA, sB, sC]
     refine wpAnyH_done (by kernel_rfl) ?_ _
     go_wp2
     go_ret
     exact ⟨rfl, HBF.out.drew⟩
end
end Go.Proofs.YtpheeheikigenaaGreatDoor
