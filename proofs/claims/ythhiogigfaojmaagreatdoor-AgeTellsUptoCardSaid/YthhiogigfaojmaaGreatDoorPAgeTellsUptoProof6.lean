/- Texts of mine, joined (AgeLawD, BulkD): walks and plain facts that the claim uses, each as its own comment says. -/
import Derived.Test.YthhiogigfaojmaaGreatDoorPAgeTellsUptoProof5
import Derived.Test.YthhiogigfaojmaaGreatDoorRows
/- Walk of the law AgeTells: which targets are out of date, and for whom, of any rules over any tree. -/
namespace Go.Proofs.YthhiogigfaojmaaGreatDoor
open Go.RowKit Go.Deep Go.Maps Ln Pth Vf
set_option linter.unusedSimpArgs false
set_option linter.unusedVariables false
attribute [local go_sem] bt_eq

set_option maxRecDepth 100000 in
set_option maxHeartbeats 16000000 in
theorem law_ageTells (K : Nat) (hK : K ≤ 1048576) (X : MkV) (A : Option Addr) (c : Nat) (L : List Ac4) (cwd target : ByteArray) (NA : Option Addr) (nc : Nat) (needs : List ByteArray) (DA : Option Addr) (dc : Nat) (made : List ByteArray)
    (m0 : L.length ≤ maxLen) (s0 : ∀ x ∈ L, szA x) (zc : cwd.size ≤ K) (zt : target.size ≤ K) (mN : needs.length ≤ maxLen) (zN : ∀ s ∈ needs, s.size ≤ K) (mD : made.length ≤ maxLen) (zD : ∀ s ∈ made, s.size ≤ K)
    (W : World) (hm : MX W) (hX : MkIn K W X) (hA : AR4 W A L) (hN : SR W NA needs) (hD : SR W DA made) :
    Calls Tryz.prog 3 #[.agg #[X.mv, X.rv], .slice A L.length c, .string cwd, .string target, .slice NA needs.length nc, .slice DA made.length dc] W fun e w' => e = .returned (.bool true) ∧ Below W.heap.size W w' := by
  have HBM := hide (fun Z (hb : Below W.heap.size W Z) => bigM_any K (by omega) X Z (hX.below hb))
  have HBG := hide (fun Z (hb : Below W.heap.size W Z) => big_any A c L Z (hA.below hb).1 m0 s0)
  have HTR := hide (fun (h : bigF L = false) Z (hb : Below W.heap.size W Z) => trees_any A c L Z (hm.below hb) (hA.below hb) h)
  have HAL := hide (fun Z (hb : Below W.heap.size W Z) => alive23_any Z (hm.below hb))
  have HM := hide hm
  have HX := hide hX
  have HNS := hide hN
  have HDS := hide hD
  have HZN := hide zN
  have zc1 : cwd.size ≤ 1048576 := Nat.le_trans zc hK
  have zt1 : target.size ≤ 1048576 := Nat.le_trans zt hK
  have mN1 : needs.length ≤ 9223372036854775807 := mN
  have mD1 : made.length ≤ 9223372036854775807 := mD
  have m01 : L.length ≤ 9223372036854775807 := m0
  obtain ⟨ma, mc, ml, ra, rc, M⟩ := X
  simp only at HBM
  have HRR := hide (show RLI K W ra M from HX.out.rr)
  unfold MkV.mv MkV.rv at HBM ⊢
  simp only at HBM ⊢
  obtain ⟨mn, hmn⟩ : ∃ n, ml.length = n := ⟨_, rfl⟩
  obtain ⟨rn, hrn⟩ : ∃ n, M.length = n := ⟨_, rfl⟩
  obtain ⟨an, han⟩ : ∃ n, L.length = n := ⟨_, rfl⟩
  obtain ⟨nn, hnn⟩ : ∃ n, needs.length = n := ⟨_, rfl⟩
  obtain ⟨dn, hdn⟩ : ∃ n, made.length = n := ⟨_, rfl⟩
  have HRN := hide hrn
  have HNN := hide hnn
  have HDN := hide hdn
  rw [hmn, hrn] at HBM
  rw [han] at HBG HTR
  rw [hmn, hrn, han, hnn, hdn]
  rw [han] at m01
  rw [hnn] at mN1
  rw [hdn] at mD1
  have HSM := hide (fun (h : bigM ml M = false) => bigM_no h)
  obtain ⟨bm, hbm⟩ : ∃ b, bigM ml M = b := ⟨_, rfl⟩
  obtain ⟨bf, hbf⟩ : ∃ b, bigF L = b := ⟨_, rfl⟩
  rw [hbm] at HBM HSM
  rw [hbf] at HBG HTR
  clear hm hX hA hN hD zN m0 s0 zc zt mN mD hmn hrn han hnn hdn hbm hbf HX
  have HB0 := hide ((Below.refl W.heap.size W).alloc (Nat.le_refl _) (.cells #[.slice ma mn mc, .slice ra rn rc] 25))
  have HNB := hide (heapNew W (.cells #[.slice ma mn mc, .slice ra rn rc] 25))
  go_enter Tryz.func3, Tryz.ntmps3
  go_wp2_with fail
  refine (HAL.out _ HB0.out).mono ?_
  rintro e w1 ⟨rfl, hb1⟩
  have hh1 := (hb1.block W.heap.size (by simp)).trans HNB.out
  have hd0 := cellOf' hh1 (j := 0) rfl
  have hd1 := cellOf' hh1 (j := 1) rfl
  have HH1 := hide hh1
  have HB1 := hide (below_up HB0.out hb1 HB0.out.size)
  clear hb1 hh1
  go_wp2_with fail
  refine (HBM.out _ HB1.out).mono ?_
  rintro e w2 ⟨rfl, hb2⟩
  have hlw := (Array.getElem?_eq_some_iff.1 HH1.out).1
  have hh2 := (hb2.block W.heap.size hlw).trans HH1.out
  have HH2 := hide hh2
  have HB2 := hide (below_up HB1.out hb2 HB1.out.size)
  clear hb2 hh2 hlw hd0 hd1
  cases bm with
  | true =>
    go_wp2
    go_ret
    exact ⟨rfl, HB2.out⟩
  | false =>
  have hsm := HSM.out rfl
  go_wp2_with fail
  refine (HBG.out _ HB2.out).mono ?_
  rintro e w' ⟨rfl, rfl⟩
  cases bf with
  | true =>
    go_wp2
    go_ret
    exact ⟨rfl, HB2.out⟩
  | false =>
  by_cases g1 : 20 < an
  · have q1 : decide ((20 : Int) < (an : Int)) = true := by simp; omega
    have r1 : decide (20 < an) = true := by simpa using g1
    clear g1
    go_wp2
    go_ret
    exact ⟨rfl, HB2.out⟩
  have q1 : decide ((20 : Int) < (an : Int)) = false := by simp; omega
  have r1 : decide (20 < an) = false := by simpa using g1
  by_cases g2 : 60 < cwd.size
  · have q2 : decide ((60 : Int) < (cwd.size : Int)) = true := by simp; omega
    have r2 : decide (60 < cwd.size) = true := by simpa using g2
    clear g2
    go_wp2
    go_ret
    exact ⟨rfl, HB2.out⟩
  have q2 : decide ((60 : Int) < (cwd.size : Int)) = false := by simp; omega
  have r2 : decide (60 < cwd.size) = false := by simpa using g2
  by_cases g3 : 60 < target.size
  · have q3 : decide ((60 : Int) < (target.size : Int)) = true := by simp; omega
    have r3 : decide (60 < target.size) = true := by simpa using g3
    clear g3
    go_wp2
    go_ret
    exact ⟨rfl, HB2.out⟩
  have q3 : decide ((60 : Int) < (target.size : Int)) = false := by simp; omega
  have r3 : decide (60 < target.size) = false := by simpa using g3
  by_cases g4 : 20 < nn
  · have q4 : decide ((20 : Int) < (nn : Int)) = true := by simp; omega
    have r4 : decide (20 < nn) = true := by simpa using g4
    clear g4
    go_wp2
    go_ret
    exact ⟨rfl, HB2.out⟩
  have q4 : decide ((20 : Int) < (nn : Int)) = false := by simp; omega
  have r4 : decide (20 < nn) = false := by simpa using g4
  by_cases g5 : 20 < dn
  · have q5 : decide ((20 : Int) < (dn : Int)) = true := by simp; omega
    have r5 : decide (20 < dn) = true := by simpa using g5
    clear g5
    go_wp2
    go_ret
    exact ⟨rfl, HB2.out⟩
  have q5 : decide ((20 : Int) < (dn : Int)) = false := by simp; omega
  have r5 : decide (20 < dn) = false := by simpa using g5
  have HT1 := hide (HTR.out rfl _ HB2.out)
  go_wp2_with fail
  refine HT1.out.mono ?_
  rintro e w3 ⟨f, r, rfl, hi⟩
  have hbi := hi.below
  have hb3 := below_up HB2.out hbi HB2.out.size
  have hlw := (Array.getElem?_eq_some_iff.1 HH2.out).1
  have hh3 := (hbi.block W.heap.size hlw).trans HH2.out
  have hd0 := cellOf' hh3 (j := 0) rfl
  have hd1 := cellOf' hh3 (j := 1) rfl
  have hl3 := (Array.getElem?_eq_some_iff.1 hh3).1
  have HVS := hide (Two.vs hi)
  have HRS := hide (show Hs (RS r (treeS L)) w3 from hi.fst.snd.hs)
  have HB3 := hide hb3
  have hgd := treeS_good L
  have hsl : (treeS L).m.length ≤ 1000000 := by have := hgd.wf.nodes; have := hgd.nodes; omega
  have hcl : cwd.data.toList.length ≤ 6600000 := by rw [data_len]; omega
  have hrl := fun Z (hb : Below w3.heap.size w3 Z) => hsm.rls (HRR.out.below (below_up hb3 hb hb3.size))
  have hml : M.length ≤ 1000 := by have := hsm.rules; omega
  have htz : TgZ M := fun x hx s hs => Nat.le_trans (hsm.tgz x hx s hs) (by omega)
  have hsp : (specialR M phony).length ≤ 900000 := Nat.le_trans (hsm.special phony) (by omega)
  have hnz : ∀ x ∈ needs, x.size ≤ 6600000 := fun x hx => Nat.le_trans (HZN.out x hx) (by omega)
  have hnl : needs.length ≤ 100000 := by have := HNN.out; omega
  have hdl : made.length ≤ 100000 := by have := HDN.out; omega
  have HOP := hide (fun Z (hb : Below w3.heap.size w3 Z) => old_any f (treeS L) cwd.data.toList (.slice ma mn mc) ra rc M target NA nc needs DA dc made Z (HVS.out.below (VS.fr f _) hb) (HM.out.below (below_up hb3 hb hb3.size)) hcl (by omega) (HNS.out.below (below_up hb3 hb hb3.size)) hnl hnz (hrl Z hb) hml hsp (HDS.out.below (below_up hb3 hb hb3.size)) hdl)
  have HOR := hide (fun Z (hb : Below w3.heap.size w3 Z) => rold18_any r (treeS L) cwd.data.toList (.slice ma mn mc) ra rc M target NA nc needs DA dc made Z (HRS.out.below (RS.fr r _) hb) hsl hcl (by omega) (HNS.out.below (below_up hb3 hb hb3.size)) hnl hnz (hrl Z hb) hml htz hsp (HDS.out.below (below_up hb3 hb hb3.size)) hdl)
  have HNP := hide (fun Z (hb : Below w3.heap.size w3 Z) => newer_any f (treeS L) cwd.data.toList target NA nc needs Z (HVS.out.below (VS.fr f _) hb) (HM.out.below (below_up hb3 hb hb3.size)) hcl (by omega) (HNS.out.below (below_up hb3 hb hb3.size)) hnl hnz)
  have HNR := hide (fun Z (hb : Below w3.heap.size w3 Z) => rnewer18_any r (treeS L) cwd.data.toList target NA nc needs Z (HRS.out.below (RS.fr r _) hb) hsl hcl (by omega) (HNS.out.below (below_up hb3 hb hb3.size)) hnl hnz)
  rw [HRN.out, HNN.out, HDN.out] at HOP HOR
  rw [HNN.out] at HNP HNR
  rw [bs_of] at HOP HOR HNP HNR
  have hwl : (newerS (treeS L) cwd.data.toList target needs).length ≤ 100000 := by unfold newerS; exact Nat.le_trans (List.length_filter_le _ _) hnl
  obtain ⟨ob, hob⟩ : ∃ b, oldS (treeS L) cwd.data.toList M target needs made = b := ⟨_, rfl⟩
  obtain ⟨NW, hnw⟩ : ∃ b, newerS (treeS L) cwd.data.toList target needs = b := ⟨_, rfl⟩
  rw [hob] at HOP HOR
  rw [hnw] at HNP HNR hwl
  have HSA := hide (fun P1 c1 P2 c2 Z (h1 : SR Z P1 NW) (h2 : SR Z P2 NW) => (same_any P1 P2 c1 c2 NW NW Z h1 h2 hwl).mono fun e w' ⟨h3, h4⟩ => (⟨h3.trans (by rw [decide_eq_true rfl]), h4⟩ : e = Ending.returned (.bool true) ∧ Drew Z w'))
  obtain ⟨wn, hwn⟩ : ∃ n, NW.length = n := ⟨_, rfl⟩
  have HWN := hide hwn
  rw [hwn] at HSA
  have hq := fun (Z : World) (hb : Below w3.heap.size w3 Z) => show (fun Z => Z.cell? ⟨W.heap.size, 0, none⟩ = some (.slice ma mn mc) ∧ Z.cell? ⟨W.heap.size, 1, none⟩ = some (.slice ra rn rc)) Z from ⟨(hb.cell (p := ⟨W.heap.size, 0, none⟩) hl3).trans hd0, (hb.cell (p := ⟨W.heap.size, 1, none⟩) hl3).trans hd1⟩
  have HQ := hide hq
  clear hq hi hbi hb3 hh3 hgd hsl hcl hrl hml htz hsp hnz hnl hdl hob hnw hwn hsm hlw q1 q2 q3 q4 q5 r1 r2 r3 r4 r5 g1 g2 g3 g4 g5
  cases ob with
  | true =>
    go_wp2_with fail
    refine wp_region_held_drew (S := (fun Z => Z.cell? ⟨W.heap.size, 0, none⟩ = some (.slice ma mn mc) ∧ Z.cell? ⟨W.heap.size, 1, none⟩ = some (.slice ra rn rc))) (by kernel_rfl) (HQ.out _ (Below.refl _ _).drew) (fun hHeld => ?_)
    refine wpAnyH_tk (i := 0) (oi := _) (v := ?vTtrue0) rfl rfl (by kernel_rfl) (by kernel_rfl) (by kernel_rfl) (fun _ _ _ h => h) (Or.inl ⟨by kernel_rfl, ?yTtrue0⟩) (by assumption) ?rTtrue0
    case yTtrue0 =>
      intro w hSw
      (try dsimp only at hSw)
      go_simp
      try with_reducible rfl
    try simp only [List.setIfInBounds_toArray, List.set_cons_zero, List.set_cons_succ]
    refine wpAnyH_tk (i := 1) (oi := _) (v := ?vTtrue1) rfl rfl (by kernel_rfl) (by kernel_rfl) (by kernel_rfl) (fun _ _ _ h => h) (Or.inl ⟨by kernel_rfl, ?yTtrue1⟩) (by assumption) ?rTtrue1
    case yTtrue1 =>
      intro w hSw
      (try dsimp only at hSw)
      go_simp
      try with_reducible rfl
    try simp only [List.setIfInBounds_toArray, List.set_cons_zero, List.set_cons_succ]
    refine wpAnyH_tk (i := 2) (oi := _) (v := ?vTtrue2) rfl rfl (by kernel_rfl) (by kernel_rfl) (by kernel_rfl) (fun _ _ _ h => h) (Or.inl ⟨by kernel_rfl, ?yTtrue2⟩) (by assumption) ?rTtrue2
    case yTtrue2 =>
      intro w hSw
      (try dsimp only at hSw)
      go_simp
      try with_reducible rfl
    try simp only [List.setIfInBounds_toArray, List.set_cons_zero, List.set_cons_succ]
    refine wpAnyH_tk (i := 3) (oi := _) (v := ?vTtrue3) rfl rfl (by kernel_rfl) (by kernel_rfl) (by kernel_rfl) (fun _ _ _ h => h) (Or.inl ⟨by kernel_rfl, ?yTtrue3⟩) (by assumption) ?rTtrue3
    case yTtrue3 =>
      intro w hSw
      (try dsimp only at hSw)
      go_simp
      try with_reducible rfl
    try simp only [List.setIfInBounds_toArray, List.set_cons_zero, List.set_cons_succ]
    refine wpAnyH_tk (i := 4) (oi := _) (v := ?vTtrue4) rfl rfl (by kernel_rfl) (by kernel_rfl) (by kernel_rfl) (fun _ _ _ h => h) (Or.inl ⟨by kernel_rfl, ?yTtrue4⟩) (by assumption) ?rTtrue4
    case yTtrue4 =>
      intro w hSw
      (try dsimp only at hSw)
      go_simp
      try with_reducible rfl
    try simp only [List.setIfInBounds_toArray, List.set_cons_zero, List.set_cons_succ]
    refine wpAnyH_tk (i := 5) (oi := _) (v := ?vTtrue5) rfl rfl (by kernel_rfl) (by kernel_rfl) (by kernel_rfl) (fun _ _ _ h => h) (Or.inl ⟨by kernel_rfl, ?yTtrue5⟩) (by assumption) ?rTtrue5
    case yTtrue5 =>
      intro w hSw
      (try dsimp only at hSw)
      go_simp
      try with_reducible rfl
    try simp only [List.setIfInBounds_toArray, List.set_cons_zero, List.set_cons_succ]
    refine wpAnyH_tk (i := 7) (oi := _) (v := ?vTtrue7) rfl rfl (by kernel_rfl) (by kernel_rfl) (by kernel_rfl) (fun _ _ _ h => h) (Or.inl ⟨by kernel_rfl, ?yTtrue7⟩) (by assumption) ?rTtrue7
    case yTtrue7 =>
      intro w hSw
      (try dsimp only at hSw)
      go_simp
      try with_reducible rfl
    try simp only [List.setIfInBounds_toArray, List.set_cons_zero, List.set_cons_succ]
    refine wpAnyH_tk (i := 8) (oi := _) (v := ?vTtrue8) rfl rfl (by kernel_rfl) (by kernel_rfl) (by kernel_rfl) (fun _ _ _ h => h) (Or.inl ⟨by kernel_rfl, ?yTtrue8⟩) (by assumption) ?rTtrue8
    case yTtrue8 =>
      intro w hSw
      (try dsimp only at hSw)
      go_simp
      try with_reducible rfl
    try simp only [List.setIfInBounds_toArray, List.set_cons_zero, List.set_cons_succ]
    refine wpAnyH_tk (i := 9) (oi := _) (v := ?vTtrue9) rfl rfl (by kernel_rfl) (by kernel_rfl) (by kernel_rfl) (fun _ _ _ h => h) (Or.inl ⟨by kernel_rfl, ?yTtrue9⟩) (by assumption) ?rTtrue9
    case yTtrue9 =>
      intro w hSw
      (try dsimp only at hSw)
      go_simp
      try with_reducible rfl
    try simp only [List.setIfInBounds_toArray, List.set_cons_zero, List.set_cons_succ]
    refine wpAnyH_tk (i := 10) (oi := _) (v := ?vTtrue10) rfl rfl (by kernel_rfl) (by kernel_rfl) (by kernel_rfl) (fun _ _ _ h => h) (Or.inl ⟨by kernel_rfl, ?yTtrue10⟩) (by assumption) ?rTtrue10
    case yTtrue10 =>
      intro w hSw
      (try dsimp only at hSw)
      go_simp
      try with_reducible rfl
    try simp only [List.setIfInBounds_toArray, List.set_cons_zero, List.set_cons_succ]
    refine wpAnyH_tk (i := 11) (oi := _) (v := ?vTtrue11) rfl rfl (by kernel_rfl) (by kernel_rfl) (by kernel_rfl) (fun _ _ _ h => h) (Or.inl ⟨by kernel_rfl, ?yTtrue11⟩) (by assumption) ?rTtrue11
    case yTtrue11 =>
      intro w hSw
      (try dsimp only at hSw)
      go_simp
      try with_reducible rfl
    try simp only [List.setIfInBounds_toArray, List.set_cons_zero, List.set_cons_succ]
    refine wpAnyH_tk (i := 12) (oi := _) (v := ?vTtrue12) rfl rfl (by kernel_rfl) (by kernel_rfl) (by kernel_rfl) (fun _ _ _ h => h) (Or.inl ⟨by kernel_rfl, ?yTtrue12⟩) (by assumption) ?rTtrue12
    case yTtrue12 =>
      intro w hSw
      (try dsimp only at hSw)
      go_simp
      try with_reducible rfl
    try simp only [List.setIfInBounds_toArray, List.set_cons_zero, List.set_cons_succ]
    refine wpAnyH_ready (rs := [6]) (by kernel_rfl) (by simp) ?_
    refine AllReadyH.cons (o := _) rfl (fun K hK => ?_) AllReadyH.nil
    rw [if_pos (by kernel_rfl)]
    go_simp
    refine (HOP.out _ (Below.refl _ _).drew).mono ?_
    rintro e w4 ⟨rfl, hb4⟩
    have HB4 := hide (below_up (Below.refl w3.heap.size w3).drew hb4 (Nat.le_refl _))
    clear hb4
    refine hK.out _ _ (HQ.out _ HB4.out) (fun _ => ?_)
    clear hK K
    try simp only [Act.put, List.setIfInBounds_toArray, List.set_cons_zero, List.set_cons_succ]
    refine wpAnyH_ready (rs := [13]) (by kernel_rfl) (by simp) ?_
    refine AllReadyH.cons (o := _) rfl (fun K hK => ?_) AllReadyH.nil
    rw [if_pos (by kernel_rfl)]
    go_simp
    refine (HOR.out w4 HB4.out).mono ?_
    rintro e w5 ⟨rfl, hb5⟩
    have HB5 := hide (below_up HB4.out hb5 HB4.out.size)
    clear hb5
    refine hK.out _ _ (HQ.out _ HB5.out) (fun _ => ?_)
    clear hK K
    try simp only [Act.put, List.setIfInBounds_toArray, List.set_cons_zero, List.set_cons_succ]
    refine wpAnyH_tk (i := 14) (oi := _) (v := ?vTtrue14) rfl rfl (by kernel_rfl) (by kernel_rfl) (by kernel_rfl) (fun _ _ _ h => h) (Or.inl ⟨by kernel_rfl, ?yTtrue14⟩) (by assumption) ?rTtrue14
    case yTtrue14 =>
      intro w hSw
      (try dsimp only at hSw)
      go_simp
      try with_reducible rfl
    try simp only [List.setIfInBounds_toArray, List.set_cons_zero, List.set_cons_succ]
    refine wpAnyH_tk (i := 15) (oi := _) (v := ?vTtrue15) rfl rfl (by kernel_rfl) (by kernel_rfl) (by kernel_rfl) (fun _ _ _ h => h) (Or.inl ⟨by kernel_rfl, ?yTtrue15⟩) (by assumption) ?rTtrue15
    case yTtrue15 =>
      intro w hSw
      (try dsimp only at hSw)
      go_simp
      try with_reducible rfl
    try simp only [List.setIfInBounds_toArray, List.set_cons_zero, List.set_cons_succ]
    refine wpAnyH_tk (i := 16) (oi := _) (v := ?vTtrue16) rfl rfl (by kernel_rfl) (by kernel_rfl) (by kernel_rfl) (fun _ _ _ h => h) (Or.inl ⟨by kernel_rfl, ?yTtrue16⟩) (by assumption) ?rTtrue16
    case yTtrue16 =>
      intro w hSw
      (try dsimp only at hSw)
      go_simp
      try with_reducible rfl
    try simp only [List.setIfInBounds_toArray, List.set_cons_zero, List.set_cons_succ]
    refine wpAnyH_tk (i := 17) (oi := _) (v := ?vTtrue17) rfl rfl (by kernel_rfl) (by kernel_rfl) (by kernel_rfl) (fun _ _ _ h => h) (Or.inl ⟨by kernel_rfl, ?yTtrue17⟩) (by assumption) ?rTtrue17
    case yTtrue17 =>
      intro w hSw
      (try dsimp only at hSw)
      go_simp
      try with_reducible rfl
    try simp only [List.setIfInBounds_toArray, List.set_cons_zero, List.set_cons_succ]
    refine wpAnyH_tk (i := 18) (oi := _) (v := ?vTtrue18) rfl rfl (by kernel_rfl) (by kernel_rfl) (by kernel_rfl) (fun _ _ _ h => h) (Or.inl ⟨by kernel_rfl, ?yTtrue18⟩) (by assumption) ?rTtrue18
    case yTtrue18 =>
      intro w hSw
      (try dsimp only at hSw)
      go_simp
      try with_reducible rfl
    try simp only [List.setIfInBounds_toArray, List.set_cons_zero, List.set_cons_succ]
    refine wpAnyH_tk (i := 19) (oi := _) (v := ?vTtrue19) rfl rfl (by kernel_rfl) (by kernel_rfl) (by kernel_rfl) (fun _ _ _ h => h) (Or.inl ⟨by kernel_rfl, ?yTtrue19⟩) (by assumption) ?rTtrue19
    case yTtrue19 =>
      intro w hSw
      (try dsimp only at hSw)
      go_simp
      try with_reducible rfl
    try simp only [List.setIfInBounds_toArray, List.set_cons_zero, List.set_cons_succ]
    refine wpAnyH_tk (i := 21) (oi := _) (v := ?vTtrue21) rfl rfl (by kernel_rfl) (by kernel_rfl) (by kernel_rfl) (fun _ _ _ h => h) (Or.inl ⟨by kernel_rfl, ?yTtrue21⟩) (by assumption) ?rTtrue21
    case yTtrue21 =>
      intro w hSw
      (try dsimp only at hSw)
      go_simp
      try with_reducible rfl
    try simp only [List.setIfInBounds_toArray, List.set_cons_zero, List.set_cons_succ]
    refine wpAnyH_tk (i := 22) (oi := _) (v := ?vTtrue22) rfl rfl (by kernel_rfl) (by kernel_rfl) (by kernel_rfl) (fun _ _ _ h => h) (Or.inl ⟨by kernel_rfl, ?yTtrue22⟩) (by assumption) ?rTtrue22
    case yTtrue22 =>
      intro w hSw
      (try dsimp only at hSw)
      go_simp
      try with_reducible rfl
    try simp only [List.setIfInBounds_toArray, List.set_cons_zero, List.set_cons_succ]
    refine wpAnyH_tk (i := 23) (oi := _) (v := ?vTtrue23) rfl rfl (by kernel_rfl) (by kernel_rfl) (by kernel_rfl) (fun _ _ _ h => h) (Or.inl ⟨by kernel_rfl, ?yTtrue23⟩) (by assumption) ?rTtrue23
    case yTtrue23 =>
      intro w hSw
      (try dsimp only at hSw)
      go_simp
      try with_reducible rfl
    try simp only [List.setIfInBounds_toArray, List.set_cons_zero, List.set_cons_succ]
    refine wpAnyH_tk (i := 24) (oi := _) (v := ?vTtrue24) rfl rfl (by kernel_rfl) (by kernel_rfl) (by kernel_rfl) (fun _ _ _ h => h) (Or.inl ⟨by kernel_rfl, ?yTtrue24⟩) (by assumption) ?rTtrue24
    case yTtrue24 =>
      intro w hSw
      (try dsimp only at hSw)
      go_simp
      try with_reducible rfl
    try simp only [List.setIfInBounds_toArray, List.set_cons_zero, List.set_cons_succ]
    refine wpAnyH_ready (rs := [20]) (by kernel_rfl) (by simp) ?_
    refine AllReadyH.cons (o := _) rfl (fun K hK => ?_) AllReadyH.nil
    rw [if_pos (by kernel_rfl)]
    go_simp
    refine (HNP.out w5 HB5.out).mono ?_
    rintro e w6 ⟨⟨v6, rfl, ho6⟩, hb6⟩
    obtain ⟨P6, c6, rfl, hc6, hs6, _⟩ := ho6.slice
    rw [HWN.out]
    have HS6 := hide hs6
    have HB6 := hide (below_up HB5.out hb6 HB5.out.size)
    clear hb6 ho6 hs6 hc6
    refine hK.out _ _ (HQ.out _ HB6.out) (fun _ => ?_)
    clear hK K
    try simp only [Act.put, List.setIfInBounds_toArray, List.set_cons_zero, List.set_cons_succ]
    refine wpAnyH_ready (rs := [25]) (by kernel_rfl) (by simp) ?_
    refine AllReadyH.cons (o := _) rfl (fun K hK => ?_) AllReadyH.nil
    rw [if_pos (by kernel_rfl)]
    go_simp
    refine (HNR.out w6 HB6.out).mono ?_
    rintro e w7 ⟨⟨v7, rfl, ho7⟩, hb7⟩
    obtain ⟨P7, c7, rfl, hc7, hs7, _⟩ := ho7.slice
    rw [HWN.out]
    have HS7 := hide hs7
    have HS67 := hide (HS6.out.below hb7)
    have HB7 := hide (below_up HB6.out hb7 HB6.out.size)
    clear hb7 ho7 hs7 hc7
    refine hK.out _ _ (HQ.out _ HB7.out) (fun _ => ?_)
    clear hK K
    try simp only [Act.put, List.setIfInBounds_toArray, List.set_cons_zero, List.set_cons_succ]
    refine wpAnyH_ready (rs := [26]) (by kernel_rfl) (by simp) ?_
    refine AllReadyH.cons (o := _) rfl (fun K hK => ?_) AllReadyH.nil
    rw [if_pos (by kernel_rfl)]
    go_simp
    refine (HSA.out P6 c6 P7 c7 w7 HS67.out HS7.out).mono ?_
    rintro e w8 ⟨rfl, hd8⟩
    have HB8 := hide (below_up HB7.out hd8.below HB7.out.size)
    clear hd8
    refine hK.out _ _ (HQ.out _ HB8.out) (fun _ => ?_)
    clear hK K
    try simp only [Act.put, List.setIfInBounds_toArray, List.set_cons_zero, List.set_cons_succ]
    refine wpAnyH_tk (i := 27) (oi := _) (v := ?vTtrue27) rfl rfl (by kernel_rfl) (by kernel_rfl) (by kernel_rfl) (fun _ _ _ h => h) (Or.inl ⟨by kernel_rfl, ?yTtrue27⟩) (by assumption) ?rTtrue27
    case yTtrue27 =>
      intro w hSw
      (try dsimp only at hSw)
      go_simp
      try with_reducible rfl
    try simp only [List.setIfInBounds_toArray, List.set_cons_zero, List.set_cons_succ]
    refine wpAnyH_tk (i := 28) (oi := _) (v := ?vTtrue28) rfl rfl (by kernel_rfl) (by kernel_rfl) (by kernel_rfl) (fun _ _ _ h => h) (Or.inl ⟨by kernel_rfl, ?yTtrue28⟩) (by assumption) ?rTtrue28
    case yTtrue28 =>
      intro w hSw
      (try dsimp only at hSw)
      go_simp
      try with_reducible rfl
    try simp only [List.setIfInBounds_toArray, List.set_cons_zero, List.set_cons_succ]
    refine wpAnyH_done (by kernel_rfl) ?_ _
    go_wp2
    go_ret
    exact ⟨rfl, below_up HB3.out HB8.out HB3.out.size⟩
  | false =>
    go_wp2_with fail
    refine wp_region_held_drew (S := (fun Z => Z.cell? ⟨W.heap.size, 0, none⟩ = some (.slice ma mn mc) ∧ Z.cell? ⟨W.heap.size, 1, none⟩ = some (.slice ra rn rc))) (by kernel_rfl) (HQ.out _ (Below.refl _ _).drew) (fun hHeld => ?_)
    refine wpAnyH_tk (i := 0) (oi := _) (v := ?vTfalse0) rfl rfl (by kernel_rfl) (by kernel_rfl) (by kernel_rfl) (fun _ _ _ h => h) (Or.inl ⟨by kernel_rfl, ?yTfalse0⟩) (by assumption) ?rTfalse0
    case yTfalse0 =>
      intro w hSw
      (try dsimp only at hSw)
      go_simp
      try with_reducible rfl
    try simp only [List.setIfInBounds_toArray, List.set_cons_zero, List.set_cons_succ]
    refine wpAnyH_tk (i := 1) (oi := _) (v := ?vTfalse1) rfl rfl (by kernel_rfl) (by kernel_rfl) (by kernel_rfl) (fun _ _ _ h => h) (Or.inl ⟨by kernel_rfl, ?yTfalse1⟩) (by assumption) ?rTfalse1
    case yTfalse1 =>
      intro w hSw
      (try dsimp only at hSw)
      go_simp
      try with_reducible rfl
    try simp only [List.setIfInBounds_toArray, List.set_cons_zero, List.set_cons_succ]
    refine wpAnyH_tk (i := 2) (oi := _) (v := ?vTfalse2) rfl rfl (by kernel_rfl) (by kernel_rfl) (by kernel_rfl) (fun _ _ _ h => h) (Or.inl ⟨by kernel_rfl, ?yTfalse2⟩) (by assumption) ?rTfalse2
    case yTfalse2 =>
      intro w hSw
      (try dsimp only at hSw)
      go_simp
      try with_reducible rfl
    try simp only [List.setIfInBounds_toArray, List.set_cons_zero, List.set_cons_succ]
    refine wpAnyH_tk (i := 3) (oi := _) (v := ?vTfalse3) rfl rfl (by kernel_rfl) (by kernel_rfl) (by kernel_rfl) (fun _ _ _ h => h) (Or.inl ⟨by kernel_rfl, ?yTfalse3⟩) (by assumption) ?rTfalse3
    case yTfalse3 =>
      intro w hSw
      (try dsimp only at hSw)
      go_simp
      try with_reducible rfl
    try simp only [List.setIfInBounds_toArray, List.set_cons_zero, List.set_cons_succ]
    refine wpAnyH_tk (i := 4) (oi := _) (v := ?vTfalse4) rfl rfl (by kernel_rfl) (by kernel_rfl) (by kernel_rfl) (fun _ _ _ h => h) (Or.inl ⟨by kernel_rfl, ?yTfalse4⟩) (by assumption) ?rTfalse4
    case yTfalse4 =>
      intro w hSw
      (try dsimp only at hSw)
      go_simp
      try with_reducible rfl
    try simp only [List.setIfInBounds_toArray, List.set_cons_zero, List.set_cons_succ]
    refine wpAnyH_tk (i := 5) (oi := _) (v := ?vTfalse5) rfl rfl (by kernel_rfl) (by kernel_rfl) (by kernel_rfl) (fun _ _ _ h => h) (Or.inl ⟨by kernel_rfl, ?yTfalse5⟩) (by assumption) ?rTfalse5
    case yTfalse5 =>
      intro w hSw
      (try dsimp only at hSw)
      go_simp
      try with_reducible rfl
    try simp only [List.setIfInBounds_toArray, List.set_cons_zero, List.set_cons_succ]
    refine wpAnyH_tk (i := 7) (oi := _) (v := ?vTfalse7) rfl rfl (by kernel_rfl) (by kernel_rfl) (by kernel_rfl) (fun _ _ _ h => h) (Or.inl ⟨by kernel_rfl, ?yTfalse7⟩) (by assumption) ?rTfalse7
    case yTfalse7 =>
      intro w hSw
      (try dsimp only at hSw)
      go_simp
      try with_reducible rfl
    try simp only [List.setIfInBounds_toArray, List.set_cons_zero, List.set_cons_succ]
    refine wpAnyH_tk (i := 8) (oi := _) (v := ?vTfalse8) rfl rfl (by kernel_rfl) (by kernel_rfl) (by kernel_rfl) (fun _ _ _ h => h) (Or.inl ⟨by kernel_rfl, ?yTfalse8⟩) (by assumption) ?rTfalse8
    case yTfalse8 =>
      intro w hSw
      (try dsimp only at hSw)
      go_simp
      try with_reducible rfl
    try simp only [List.setIfInBounds_toArray, List.set_cons_zero, List.set_cons_succ]
    refine wpAnyH_tk (i := 9) (oi := _) (v := ?vTfalse9) rfl rfl (by kernel_rfl) (by kernel_rfl) (by kernel_rfl) (fun _ _ _ h => h) (Or.inl ⟨by kernel_rfl, ?yTfalse9⟩) (by assumption) ?rTfalse9
    case yTfalse9 =>
      intro w hSw
      (try dsimp only at hSw)
      go_simp
      try with_reducible rfl
    try simp only [List.setIfInBounds_toArray, List.set_cons_zero, List.set_cons_succ]
    refine wpAnyH_tk (i := 10) (oi := _) (v := ?vTfalse10) rfl rfl (by kernel_rfl) (by kernel_rfl) (by kernel_rfl) (fun _ _ _ h => h) (Or.inl ⟨by kernel_rfl, ?yTfalse10⟩) (by assumption) ?rTfalse10
    case yTfalse10 =>
      intro w hSw
      (try dsimp only at hSw)
      go_simp
      try with_reducible rfl
    try simp only [List.setIfInBounds_toArray, List.set_cons_zero, List.set_cons_succ]
    refine wpAnyH_tk (i := 11) (oi := _) (v := ?vTfalse11) rfl rfl (by kernel_rfl) (by kernel_rfl) (by kernel_rfl) (fun _ _ _ h => h) (Or.inl ⟨by kernel_rfl, ?yTfalse11⟩) (by assumption) ?rTfalse11
    case yTfalse11 =>
      intro w hSw
      (try dsimp only at hSw)
      go_simp
      try with_reducible rfl
    try simp only [List.setIfInBounds_toArray, List.set_cons_zero, List.set_cons_succ]
    refine wpAnyH_tk (i := 12) (oi := _) (v := ?vTfalse12) rfl rfl (by kernel_rfl) (by kernel_rfl) (by kernel_rfl) (fun _ _ _ h => h) (Or.inl ⟨by kernel_rfl, ?yTfalse12⟩) (by assumption) ?rTfalse12
    case yTfalse12 =>
      intro w hSw
      (try dsimp only at hSw)
      go_simp
      try with_reducible rfl
    try simp only [List.setIfInBounds_toArray, List.set_cons_zero, List.set_cons_succ]
    refine wpAnyH_ready (rs := [6]) (by kernel_rfl) (by simp) ?_
    refine AllReadyH.cons (o := _) rfl (fun K hK => ?_) AllReadyH.nil
    rw [if_pos (by kernel_rfl)]
    go_simp
    refine (HOP.out _ (Below.refl _ _).drew).mono ?_
    rintro e w4 ⟨rfl, hb4⟩
    have HB4 := hide (below_up (Below.refl w3.heap.size w3).drew hb4 (Nat.le_refl _))
    clear hb4
    refine hK.out _ _ (HQ.out _ HB4.out) (fun _ => ?_)
    clear hK K
    try simp only [Act.put, List.setIfInBounds_toArray, List.set_cons_zero, List.set_cons_succ]
    refine wpAnyH_ready (rs := [13]) (by kernel_rfl) (by simp) ?_
    refine AllReadyH.cons (o := _) rfl (fun K hK => ?_) AllReadyH.nil
    rw [if_pos (by kernel_rfl)]
    go_simp
    refine (HOR.out w4 HB4.out).mono ?_
    rintro e w5 ⟨rfl, hb5⟩
    have HB5 := hide (below_up HB4.out hb5 HB4.out.size)
    clear hb5
    refine hK.out _ _ (HQ.out _ HB5.out) (fun _ => ?_)
    clear hK K
    try simp only [Act.put, List.setIfInBounds_toArray, List.set_cons_zero, List.set_cons_succ]
    refine wpAnyH_tk (i := 14) (oi := _) (v := ?vTfalse14) rfl rfl (by kernel_rfl) (by kernel_rfl) (by kernel_rfl) (fun _ _ _ h => h) (Or.inl ⟨by kernel_rfl, ?yTfalse14⟩) (by assumption) ?rTfalse14
    case yTfalse14 =>
      intro w hSw
      (try dsimp only at hSw)
      go_simp
      try with_reducible rfl
    try simp only [List.setIfInBounds_toArray, List.set_cons_zero, List.set_cons_succ]
    refine wpAnyH_tk (i := 15) (oi := _) (v := ?vTfalse15) rfl rfl (by kernel_rfl) (by kernel_rfl) (by kernel_rfl) (fun _ _ _ h => h) (Or.inl ⟨by kernel_rfl, ?yTfalse15⟩) (by assumption) ?rTfalse15
    case yTfalse15 =>
      intro w hSw
      (try dsimp only at hSw)
      go_simp
      try with_reducible rfl
    try simp only [List.setIfInBounds_toArray, List.set_cons_zero, List.set_cons_succ]
    refine wpAnyH_tk (i := 16) (oi := _) (v := ?vTfalse16) rfl rfl (by kernel_rfl) (by kernel_rfl) (by kernel_rfl) (fun _ _ _ h => h) (Or.inl ⟨by kernel_rfl, ?yTfalse16⟩) (by assumption) ?rTfalse16
    case yTfalse16 =>
      intro w hSw
      (try dsimp only at hSw)
      go_simp
      try with_reducible rfl
    try simp only [List.setIfInBounds_toArray, List.set_cons_zero, List.set_cons_succ]
    refine wpAnyH_tk (i := 17) (oi := _) (v := ?vTfalse17) rfl rfl (by kernel_rfl) (by kernel_rfl) (by kernel_rfl) (fun _ _ _ h => h) (Or.inl ⟨by kernel_rfl, ?yTfalse17⟩) (by assumption) ?rTfalse17
    case yTfalse17 =>
      intro w hSw
      (try dsimp only at hSw)
      go_simp
      try with_reducible rfl
    try simp only [List.setIfInBounds_toArray, List.set_cons_zero, List.set_cons_succ]
    refine wpAnyH_tk (i := 18) (oi := _) (v := ?vTfalse18) rfl rfl (by kernel_rfl) (by kernel_rfl) (by kernel_rfl) (fun _ _ _ h => h) (Or.inl ⟨by kernel_rfl, ?yTfalse18⟩) (by assumption) ?rTfalse18
    case yTfalse18 =>
      intro w hSw
      (try dsimp only at hSw)
      go_simp
      try with_reducible rfl
    try simp only [List.setIfInBounds_toArray, List.set_cons_zero, List.set_cons_succ]
    refine wpAnyH_tk (i := 19) (oi := _) (v := ?vTfalse19) rfl rfl (by kernel_rfl) (by kernel_rfl) (by kernel_rfl) (fun _ _ _ h => h) (Or.inl ⟨by kernel_rfl, ?yTfalse19⟩) (by assumption) ?rTfalse19
    case yTfalse19 =>
      intro w hSw
      (try dsimp only at hSw)
      go_simp
      try with_reducible rfl
    try simp only [List.setIfInBounds_toArray, List.set_cons_zero, List.set_cons_succ]
    refine wpAnyH_tk (i := 21) (oi := _) (v := ?vTfalse21) rfl rfl (by kernel_rfl) (by kernel_rfl) (by kernel_rfl) (fun _ _ _ h => h) (Or.inl ⟨by kernel_rfl, ?yTfalse21⟩) (by assumption) ?rTfalse21
    case yTfalse21 =>
      intro w hSw
      (try dsimp only at hSw)
      go_simp
      try with_reducible rfl
    try simp only [List.setIfInBounds_toArray, List.set_cons_zero, List.set_cons_succ]
    refine wpAnyH_tk (i := 22) (oi := _) (v := ?vTfalse22) rfl rfl (by kernel_rfl) (by kernel_rfl) (by kernel_rfl) (fun _ _ _ h => h) (Or.inl ⟨by kernel_rfl, ?yTfalse22⟩) (by assumption) ?rTfalse22
    case yTfalse22 =>
      intro w hSw
      (try dsimp only at hSw)
      go_simp
      try with_reducible rfl
    try simp only [List.setIfInBounds_toArray, List.set_cons_zero, List.set_cons_succ]
    refine wpAnyH_tk (i := 23) (oi := _) (v := ?vTfalse23) rfl rfl (by kernel_rfl) (by kernel_rfl) (by kernel_rfl) (fun _ _ _ h => h) (Or.inl ⟨by kernel_rfl, ?yTfalse23⟩) (by assumption) ?rTfalse23
    case yTfalse23 =>
      intro w hSw
      (try dsimp only at hSw)
      go_simp
      try with_reducible rfl
    try simp only [List.setIfInBounds_toArray, List.set_cons_zero, List.set_cons_succ]
    refine wpAnyH_tk (i := 24) (oi := _) (v := ?vTfalse24) rfl rfl (by kernel_rfl) (by kernel_rfl) (by kernel_rfl) (fun _ _ _ h => h) (Or.inl ⟨by kernel_rfl, ?yTfalse24⟩) (by assumption) ?rTfalse24
    case yTfalse24 =>
      intro w hSw
      (try dsimp only at hSw)
      go_simp
      try with_reducible rfl
    try simp only [List.setIfInBounds_toArray, List.set_cons_zero, List.set_cons_succ]
    refine wpAnyH_ready (rs := [20]) (by kernel_rfl) (by simp) ?_
    refine AllReadyH.cons (o := _) rfl (fun K hK => ?_) AllReadyH.nil
    rw [if_pos (by kernel_rfl)]
    go_simp
    refine (HNP.out w5 HB5.out).mono ?_
    rintro e w6 ⟨⟨v6, rfl, ho6⟩, hb6⟩
    obtain ⟨P6, c6, rfl, hc6, hs6, _⟩ := ho6.slice
    rw [HWN.out]
    have HS6 := hide hs6
    have HB6 := hide (below_up HB5.out hb6 HB5.out.size)
    clear hb6 ho6 hs6 hc6
    refine hK.out _ _ (HQ.out _ HB6.out) (fun _ => ?_)
    clear hK K
    try simp only [Act.put, List.setIfInBounds_toArray, List.set_cons_zero, List.set_cons_succ]
    refine wpAnyH_ready (rs := [25]) (by kernel_rfl) (by simp) ?_
    refine AllReadyH.cons (o := _) rfl (fun K hK => ?_) AllReadyH.nil
    rw [if_pos (by kernel_rfl)]
    go_simp
    refine (HNR.out w6 HB6.out).mono ?_
    rintro e w7 ⟨⟨v7, rfl, ho7⟩, hb7⟩
    obtain ⟨P7, c7, rfl, hc7, hs7, _⟩ := ho7.slice
    rw [HWN.out]
    have HS7 := hide hs7
    have HS67 := hide (HS6.out.below hb7)
    have HB7 := hide (below_up HB6.out hb7 HB6.out.size)
    clear hb7 ho7 hs7 hc7
    refine hK.out _ _ (HQ.out _ HB7.out) (fun _ => ?_)
    clear hK K
    try simp only [Act.put, List.setIfInBounds_toArray, List.set_cons_zero, List.set_cons_succ]
    refine wpAnyH_ready (rs := [26]) (by kernel_rfl) (by simp) ?_
    refine AllReadyH.cons (o := _) rfl (fun K hK => ?_) AllReadyH.nil
    rw [if_pos (by kernel_rfl)]
    go_simp
    refine (HSA.out P6 c6 P7 c7 w7 HS67.out HS7.out).mono ?_
    rintro e w8 ⟨rfl, hd8⟩
    have HB8 := hide (below_up HB7.out hd8.below HB7.out.size)
    clear hd8
    refine hK.out _ _ (HQ.out _ HB8.out) (fun _ => ?_)
    clear hK K
    try simp only [Act.put, List.setIfInBounds_toArray, List.set_cons_zero, List.set_cons_succ]
    refine wpAnyH_tk (i := 27) (oi := _) (v := ?vTfalse27) rfl rfl (by kernel_rfl) (by kernel_rfl) (by kernel_rfl) (fun _ _ _ h => h) (Or.inl ⟨by kernel_rfl, ?yTfalse27⟩) (by assumption) ?rTfalse27
    case yTfalse27 =>
      intro w hSw
      (try dsimp only at hSw)
      go_simp
      try with_reducible rfl
    try simp only [List.setIfInBounds_toArray, List.set_cons_zero, List.set_cons_succ]
    refine wpAnyH_tk (i := 28) (oi := _) (v := ?vTfalse28) rfl rfl (by kernel_rfl) (by kernel_rfl) (by kernel_rfl) (fun _ _ _ h => h) (Or.inl ⟨by kernel_rfl, ?yTfalse28⟩) (by assumption) ?rTfalse28
    case yTfalse28 =>
      intro w hSw
      (try dsimp only at hSw)
      go_simp
      try with_reducible rfl
    try simp only [List.setIfInBounds_toArray, List.set_cons_zero, List.set_cons_succ]
    refine wpAnyH_done (by kernel_rfl) ?_ _
    go_wp2
    go_ret
    exact ⟨rfl, below_up HB3.out HB8.out HB3.out.size⟩
end Go.Proofs.YthhiogigfaojmaaGreatDoor
/- The second form's bound, as a bound on the parts of the data. -/
namespace Go.Proofs.YthhiogigfaojmaaGreatDoor
open Go.RowKit
theorem bulk_part {H : Type} {d : DataW H} : ∀ {l : List (DataW H)}, d ∈ l → Rows.uptoBulk d ≤ Rows.uptoBulkAll l
  | [], h => by cases h
  | x :: r, h => by
    simp only [Rows.uptoBulkAll]
    rcases List.mem_cons.1 h with rfl | h
    · omega
    · have := bulk_part h
      omega
/-- no part is of greater bulk than the whole -/
def bulkD (H : Type) : SmallD H 1048576 where
  P := fun _ d => Rows.uptoBulk d ≤ 1048576
  elem := fun {t e elems spare d} _ h hd => by
    have := bulk_part hd
    simp only [Rows.uptoBulk] at h
    omega
  part := fun {t fs parts j f d} _ h _ hd => by
    have := bulk_part (List.mem_of_getElem? hd)
    simp only [Rows.uptoBulk] at h
    omega
  str := fun {t b} h => by
    simp only [Rows.uptoBulk] at h
    omega
theorem bulkD_arg {H : Type} {ds : List (DataW H)} (h : Rows.uptoSmall H ds = true) {j : Nat} {d : DataW H} (hd : ds[j]? = some d) (t : TypeId) : (bulkD H).P t d := by
  have h1 := bulk_part (List.mem_of_getElem? hd)
  have h2 : Rows.uptoBulkAll ds ≤ 1048576 := of_decide_eq_true h
  exact Nat.le_trans h1 h2
end Go.Proofs.YthhiogigfaojmaaGreatDoor
