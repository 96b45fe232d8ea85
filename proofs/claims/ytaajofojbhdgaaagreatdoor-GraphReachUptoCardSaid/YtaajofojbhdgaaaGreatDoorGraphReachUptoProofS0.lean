/- Walks and plain facts that the claim uses. -/
import Derived.Test.YtaajofojbhdgaaaGreatDoorP22x6
set_option maxRecDepth 100000
set_option maxHeartbeats 16000000
set_option linter.unusedSimpArgs false
set_option linter.unusedVariables false
namespace Go.Proofs.YtaajofojbhdgaaaGreatDoor
section
open Go.RowKit Go.Deep Go.Maps Ln Pth Vf
attribute [local go_sem] bt_eq
theorem app2_a (w : World) (A : Option Addr) (c : Nat) (L : List ByteArray) (x : ByteArray) (hA : SR w A L) (hl : L.length ≤ 1000) :
   ∃ v1 w1 v2 w2, (Builtin.append_ #[39, 39] 39 #[.slice none 0 0, .slice A L.length c]).run Tryz.prog w = .ok v1 w1 ∧
     (Builtin.append_ #[39, 39] 39 #[v1, .slice (some ⟨w1.heap.size, 0, none⟩) 1 1]).run Tryz.prog (w1.alloc (.cells #[.string x] 9)) = .ok v2 w2 ∧ OwnS w2 w.heap.size v2 (L ++ [x]) ∧ Below w.heap.size w w1 ∧ Below w.heap.size w w2 := by
 obtain ⟨v1, w1, r1, o1, g1, b1⟩ := run_appS (c := c) (OwnS.nil w w.heap.size) hA (Nat.le_refl _) (by simp; omega)
 have hb1 : Below w.heap.size w w1 := Below.of_gb g1 (Nat.le_refl _) (fun k hk => by cases hk)
 rw [List.nil_append] at o1
 obtain ⟨v2, w2, r2, o2, g2, b2⟩ := run_appS (c := 1) (OwnS.alloc o1 (.cells #[.string x] 9)) (sr_new w1 x) (by have := hb1.size; simp; omega) (by simp; omega)
 refine ⟨v1, w1, v2, w2, r1, r2, o2, hb1, (hb1.alloc hb1.size _).trans (Below.of_gb g2 (by have := hb1.size; simp; omega) (fun k hk => (World.ownsRow.lt o1 k hk).1))⟩
theorem app2_b (w : World) (A : Option Addr) (c : Nat) (L : List ByteArray) (x : ByteArray) (hA : SR w A L) (hl : L.length ≤ 1000) :
   ∃ v1 w1 v2 w2, (Builtin.append_ #[39, 39] 39 #[.slice none 0 0, .slice A L.length c]).run Tryz.prog (w.alloc (.cells #[.string x] 9)) = .ok v1 w1 ∧
     (Builtin.append_ #[39, 39] 39 #[v1, .slice (some ⟨w.heap.size, 0, none⟩) 1 1]).run Tryz.prog w1 = .ok v2 w2 ∧ OwnS w2 w.heap.size v2 (L ++ [x]) ∧ Below w.heap.size w w1 ∧ Below w.heap.size w w2 := by
 have hba := (Below.refl w.heap.size w).alloc (Nat.le_refl _) (.cells #[.string x] 9)
 have hz : (w.alloc (.cells #[.string x] 9)).heap.size = w.heap.size + 1 := by simp
 obtain ⟨v1, w1, r1, o1, g1, b1⟩ := run_appS (c := c) (OwnS.nil (w.alloc (.cells #[.string x] 9)) (w.heap.size + 1)) (hA.below hba) (by omega) (by simp; omega)
 have hb1 : Below (w.heap.size + 1) (w.alloc (.cells #[.string x] 9)) w1 := Below.of_gb g1 (by omega) (fun k hk => by cases hk)
 rw [List.nil_append] at o1
 have hsx := (sr_new w x).below (by rw [hz]; exact hb1)
 obtain ⟨v2, w2, r2, o2, g2, b2⟩ := run_appS (c := 1) o1 hsx (by have := hb1.size; omega) (by simp; omega)
 have hb01 : Below w.heap.size w w1 := hba.trans (hb1.mono (by omega))
 refine ⟨v1, w1, v2, w2, r1, r2, ⟨o2.1, o2.2.imp id fun ⟨g, cap, cur, e, hg, r⟩ => ⟨g, cap, cur, e, by omega, r⟩⟩, hb01, hb01.trans (Below.of_gb g2 (by have := hb1.size; omega) (fun k hk => by have := (World.ownsRow.lt o1 k hk).1; omega))⟩
theorem law_graphReach (K : Nat) (hK : K ≤ 1048576) (X : MkV) (A : Option Addr) (c : Nat) (L : List Ac4) (SA : Option Addr) (sc : Nat) (sl : List ByteArray) (more : ByteArray)
   (m0 : L.length ≤ maxLen) (s0 : ∀ x ∈ L, szA x) (mS : sl.length ≤ maxLen) (zS : ∀ x ∈ sl, x.size ≤ K) (zm : more.size ≤ K)
   (W : World) (hm : MX W) (hX : MkIn K W X) (hA : AR4 W A L) (hS : SR W SA sl) :
   Calls Tryz.prog 5 #[.agg #[X.mv, X.rv], .slice A L.length c, .slice SA sl.length sc, .string more] W fun e w' => e = .returned (.bool true) ∧ Below W.heap.size W w' := by
 have HBM := hide (fun Z (hb : Below W.heap.size W Z) => bigM_any K (by omega) X Z (hX.below hb))
 have HBG := hide (fun Z (hb : Below W.heap.size W Z) => big_any A c L Z (hA.below hb).1 m0 s0)
 have HTR := hide (fun (h : bigF L = false) Z (hb : Below W.heap.size W Z) => trees_any A c L Z (hm.below hb) (hA.below hb) h)
 have HAL := hide (fun Z (hb : Below W.heap.size W Z) => alive22_any Z (hm.below hb))
 have HM := hide hm
 have HX := hide hX
 have HSS := hide hS
 have HZS := hide zS
 have mS1 : sl.length ≤ 9223372036854775807 := mS
 have m01 : L.length ≤ 9223372036854775807 := m0
 obtain ⟨ma, mc, ml, ra, rc, M⟩ := X
 simp only at HBM
 have HRR := hide (show RLI K W ra M from HX.out.rr)
 unfold MkV.mv MkV.rv at HBM ⊢
 simp only at HBM ⊢
 obtain ⟨mn, hmn⟩ : ∃ n, ml.length = n := ⟨_, rfl⟩
 obtain ⟨rn, hrn⟩ : ∃ n, M.length = n := ⟨_, rfl⟩
 obtain ⟨an, han⟩ : ∃ n, L.length = n := ⟨_, rfl⟩
 obtain ⟨nn, hnn⟩ : ∃ n, sl.length = n := ⟨_, rfl⟩
 have HRN := hide hrn
 have HNN := hide hnn
 rw [hmn, hrn] at HBM
 rw [han] at HBG HTR
 rw [hmn, hrn, han, hnn]
 rw [han] at m01
 rw [hnn] at mS1
 have HSM := hide (fun (h : bigM ml M = false) => bigM_no h)
 obtain ⟨bm, hbm⟩ : ∃ b, bigM ml M = b := ⟨_, rfl⟩
 obtain ⟨bf, hbf⟩ : ∃ b, bigF L = b := ⟨_, rfl⟩
 rw [hbm] at HBM HSM
 rw [hbf] at HBG HTR
 clear hm hX hA hS zS m0 s0 mS hmn hrn han hnn hbm hbf HX
 have HB0 := hide ((Below.refl W.heap.size W).alloc (Nat.le_refl _) (.cells #[.slice ma mn mc, .slice ra rn rc] 25))
 have HNB := hide (heapNew W (.cells #[.slice ma mn mc, .slice ra rn rc] 25))
 go_enter Tryz.func5, Tryz.ntmps5
 go_wp2_with fail
 refine (HAL.out _ HB0.out).mono ?_
 rintro e w1 ⟨rfl, hb1⟩
 have hh1 := (hb1.block W.heap.size (by simp)).trans HNB.out
 have hd0 := cellOf' hh1 (j := 0) rfl
 have hd1 := cellOf' hh1 (j := 1) rfl
 have HH1 := hide hh1
 have HB1 := hide (below_up HB0.out hb1 HB0.out.size)
 clear hb1 hh1
 go_wp2_with fail
 refine (HBM.out _ HB1.out).mono ?_
 rintro e w2 ⟨rfl, hb2⟩
 have hlw := (Array.getElem?_eq_some_iff.1 HH1.out).1
 have hh2 := (hb2.block W.heap.size hlw).trans HH1.out
 have HH2 := hide hh2
 have HB2 := hide (below_up HB1.out hb2 HB1.out.size)
 clear hb2 hh2 hlw hd0 hd1
 cases bm with
 | true =>
   go_wp2
   go_ret
   exact ⟨rfl, HB2.out⟩
 | false =>
 have hsm := HSM.out rfl
 go_wp2_with fail
 refine (HBG.out _ HB2.out).mono ?_
 rintro e w' ⟨rfl, rfl⟩
 cases bf with
 | true =>
   go_wp2
   go_ret
   exact ⟨rfl, HB2.out⟩
 | false =>
 by_cases g1 : 20 < an
 · have q1 : decide ((20 : Int) < (an : Int)) = true := by simp; omega
   have r1 : decide (20 < an) = true := by simpa using g1
   clear g1
   go_wp2
   go_ret
   exact ⟨rfl, HB2.out⟩
 have q1 : decide ((20 : Int) < (an : Int)) = false := by simp; omega
 have r1 : decide (20 < an) = false := by simpa using g1
 by_cases g3 : 8 < nn
 · have q3 : decide ((8 : Int) < (nn : Int)) = true := by simp; omega
   have r3 : decide (8 < nn) = true := by simpa using g3
   clear g3
   go_wp2
   go_ret
   exact ⟨rfl, HB2.out⟩
 have q3 : decide ((8 : Int) < (nn : Int)) = false := by simp; omega
 have r3 : decide (8 < nn) = false := by simpa using g3
 by_cases g4 : 60 < more.size
 · have q4 : decide ((60 : Int) < (more.size : Int)) = true := by simp; omega
   have r4 : decide (60 < more.size) = true := by simpa using g4
   clear g4
   go_wp2
   go_ret
   exact ⟨rfl, HB2.out⟩
 have q4 : decide ((60 : Int) < (more.size : Int)) = false := by simp; omega
 have r4 : decide (60 < more.size) = false := by simpa using g4
 have hni : (nn : Int) ≤ 100 := by omega
 have hz60 : ∀ x ∈ sl, x.size ≤ 1048576 := fun x hx => Nat.le_trans (HZS.out x hx) hK
 have HT1 := hide (HTR.out (by first | trivial | rfl) _ HB2.out)
 go_wp2_with fail
 refine HT1.out.mono ?_
 rintro e w3 ⟨f, r, rfl, hi⟩
 have hbi := hi.below
 have hb3 := below_up HB2.out hbi HB2.out.size
 have hlw := (Array.getElem?_eq_some_iff.1 HH2.out).1
 have hh3 := (hbi.block W.heap.size hlw).trans HH2.out
 have hl3 := (Array.getElem?_eq_some_iff.1 hh3).1
 have hvs := Two.vs hi
 have hrs : Hs (RS r (treeS L)) w3 := hi.fst.snd.hs
 have HB3 := hide hb3
 have hgd := treeS_good L
 have hsl : (treeS L).m.length ≤ 1000000 := by have := hgd.wf.nodes; have := hgd.nodes; omega
 have hrl := fun Z (hb : Below w3.heap.size w3 Z) => hsm.rls (HRR.out.below (below_up hb3 hb hb3.size))
 have hgh := fun Z (hb : Below w3.heap.size w3 Z) => gh_small (mac := .slice ma mn mc) (c := rc) (Z := 1048576) (cwd := [47]) (by omega) hsm (hrl Z hb) (hvs.below (VS.fr f _) hb) (HM.out.below (below_up hb3 hb hb3.size)) (by simp)
 have hrg := fun Z (hb : Below w3.heap.size w3 Z) => rgh_small (mac := .slice ma mn mc) (c := rc) (Z := 1048576) (cwd := [47]) (by omega) hsm (hrl Z hb) (hrs.below (RS.fr r _) hb) hsl (by simp)
 have hsw3 := HSS.out.below hb3
 have hnl : sl.length ≤ 1000000 := by have := HNN.out; omega
 have hgz : ∀ x ∈ sl, ∀ m, gdZ 1048576 m x := fun x hx m => by have := hz60 x hx; unfold gdZ; omega
 have HO := hide (fun Z (hb : Below w3.heap.size w3 Z) => (order_any (.slice ma mn mc) (.slice ra M.length rc) f (bs [47]) _ _ _ SA sc sl Z (hgh Z hb) (hsw3.below hb) hnl hgz).mono fun e w' h => OrP.z h)
 have hgz2 : ∀ x ∈ sl ++ [more], ∀ m, gdZ 1048576 m x := fun x hx m => by
   rcases List.mem_append.1 hx with h | h
   · exact hgz x h m
   · rw [List.mem_singleton.1 h]; unfold gdZ; omega
 have HRC := hide (fun (G : List ByteArray) (hG : ∀ x ∈ G, x ∈ sl ++ [more]) (hg : G.length ≤ 1000000) GA gc Z (hb : Below w3.heap.size w3 Z) (hs : SR Z GA G) => reach_any (.slice ma mn mc) (.slice ra M.length rc) f (bs [47]) _ _ _ GA gc G Z (hgh Z hb) hs hg (fun x hx => hgz2 x (hG x hx)) (fun m x _ _ => Nat.le_trans (need_small hsm x).2 (by omega)))
 have hall := fun (he : (sl.foldl (fun s x => meetW (plP (treeS L) [47] M) (isP22 (treeS L) [47]) true x s) wk0).e = 0) => goals_all (P := plP (treeS L) [47] M) (is := isP22 (treeS L) [47]) he
 have hzok := foldW_ok (P := plP (treeS L) [47] M) (is := isP22 (treeS L) [47]) (stop := true) sl wk0 WkOk.start
 obtain ⟨PL, hPL⟩ : ∃ P, plP (treeS L) [47] M = P := ⟨_, rfl⟩
 rw [hPL] at HO hall hzok HRC
 obtain ⟨z, hz⟩ : ∃ z, sl.foldl (fun s x => meetW PL (isP22 (treeS L) [47]) true x s) wk0 = z := ⟨_, rfl⟩
 rw [hz] at HO hzok hall
 rw [HNN.out] at HO
 rw [HRN.out] at HO HRC
 unfold OrZ at HO
 have HHALL := hide hall
 have hzc := hzok.cnt
 have hzs := hzok.seen
 have hq := fun (Z : World) (hb : Below w3.heap.size w3 Z) => show (Z.cell? ⟨W.heap.size, 0, none⟩ = some (.slice ma mn mc) ∧ Z.cell? ⟨W.heap.size, 1, none⟩ = some (.slice ra rn rc)) from ⟨(hb.cell (p := ⟨W.heap.size, 0, none⟩) hl3).trans (cellOf' hh3 (j := 0) rfl), (hb.cell (p := ⟨W.heap.size, 1, none⟩) hl3).trans (cellOf' hh3 (j := 1) rfl)⟩
 have HQ := hide hq
 obtain ⟨hd0, hd1⟩ := hq w3 (Below.refl _ _)
 have hordL : ordL z = if z.e = 0 then z.order else [] := rfl
 obtain ⟨ol, hol⟩ : ∃ l, ordL z = l := ⟨_, rfl⟩
 rw [hol] at HO hordL
 have HOL := hide hordL
 have HNU := hide (num22_any (z.e : Int))
 have HZC := hide (show z.order.length ≤ 1000 by omega)
 clear hgz2 hq hi hbi hb3 hh3 hgd hsl hrl hgh hrg hsw3 hnl hgz hzok hz hol hordL hsm hlw hvs hrs q1 q3 q4 r1 r3 r4 g1 g3 hz60 hl3 hPL hall
 go_wp2_with fail
 refine (HO.out _ (Below.refl _ _)).mono ?_
 rintro e w4 ⟨P1, c1, rfl, hs4, hb4⟩
 have HS4 := hide hs4
 have HB4 := hide hb4
 obtain ⟨hd0, hd1⟩ := HQ.out _ hb4
 clear hs4 hb4
 obtain ⟨Ra, hRa⟩ : ∃ R, putsF (seenA PL sl []) = R := ⟨_, rfl⟩
 obtain ⟨Rb, hRb⟩ : ∃ R, putsF (seenA PL (sl ++ [more]) []) = R := ⟨_, rfl⟩
 have hmore : foundF Ra Rb 0 = Ra.length := by rw [← hRa, ← hRb]; exact reach_more sl more
 have hra : Ra.length ≤ 1000 := by rw [← hRa]; exact Nat.le_trans (puts_len _) (seenA_len _)
 have hrb : Rb.length ≤ 1000 := by rw [← hRb]; exact Nat.le_trans (puts_len _) (seenA_len _)
 have hris : ∀ {i : Nat} {x y : ByteArray}, Rb[i]? = some x → Rb[i + 1]? = some y → sLt x y = true := by rw [← hRb]; exact puts_ris _
 have hsame : z.e = 0 → putsF ol = Ra := fun h => by
   rw [← hRa, HOL.out.trans (if_pos h)]
   exact putsF_congr fun x => HHALL.out h x
 obtain ⟨an2, han2⟩ : ∃ n, Ra.length = n := ⟨_, rfl⟩
 obtain ⟨bn, hbn⟩ : ∃ n, Rb.length = n := ⟨_, rfl⟩
 have HSW4 := hide (HSS.out.below (below_up HB3.out HB4.out HB3.out.size))
 have HRC1 := hide (HRC.out sl (fun x hx => by simp [hx]) (by rw [HNN.out]; omega) SA sc w4 HB4.out HSW4.out)
 rw [HNN.out, hRa] at HRC1
 unfold RchP at HRC1
 rw [han2] at HRC1
 have HMORE := hide hmore
 have HRA := hide hra
 have HRB := hide hrb
 have HRIS := hide (fun (i : Nat) (x y : ByteArray) (h1 : Rb[i]? = some x) (h2 : Rb[i + 1]? = some y) => hris h1 h2)
 have HSAME := hide hsame
 have HAN := hide han2
 have HBN := hide hbn
 have HRBB := hide hRb
 rw [han2] at hra
 rw [hbn] at hrb
 have hrai : (an2 : Int) ≤ 1000 := by omega
 have hrbi : (bn : Int) ≤ 1000 := by omega
 clear hmore hris hsame han2 hbn hRa hRb HO HHALL hzc
 go_wp2_with fail
 refine HRC1.out.mono ?_
 rintro e w5 ⟨Aa, ca, rfl, hsa, _, hb5⟩
 have HSA := hide hsa
 have HB5 := hide (below_up HB4.out hb5 HB4.out.size)
 have HS5 := hide (HS4.out.below hb5)
 clear hsa hb5 hd0 hd1
 have HDD := hide (below_up HB5.out (Below.refl w5.heap.size w5).drew HB5.out.size)
 have HSD := hide (HSS.out.below (below_up HB3.out HDD.out HB3.out.size))
 have HD5 := hide (Below.refl w5.heap.size w5).drew
 obtain ⟨wd, hwd⟩ : ∃ Z, w5.drew = Z := ⟨_, rfl⟩
 have HWD := hide hwd
 have hwz : wd.heap.size = w5.heap.size := by rw [← hwd]; rfl
 rw [hwd] at HDD HSD HD5
 have HWZ := hide hwz
 clear hwd hwz
 go_upto_region 8 with (fail)
 go_cut [16] from 65 to 72 (fun v16 w' => ∃ (A' : Option Addr) (c' : Nat), v16 = .slice A' bn c' ∧ SR w' A' Rb ∧ Below wd.heap.size wd w')
 case first =>
   refine wp_region_held_drew (S := (fun Z => Z.cell? ⟨W.heap.size, 0, none⟩ = some (.slice ma mn mc) ∧ Z.cell? ⟨W.heap.size, 1, none⟩ = some (.slice ra rn rc))) (by kernel_rfl) (HQ.out _ (HWD.out ▸ HDD.out)) (fun hHeld => ?_)
   refine tq (i := 0) (v := ?v0) rfl rfl (by kernel_rfl) (fun _ _ _ h => h) ?y0 (by assumption) ?r0
   case y0 => intro w h; (try dsimp only at h); go_simp; try with_reducible rfl
   try simp only [sA, sB, sC]
   refine tq (i := 1) (v := ?v1) rfl rfl (by kernel_rfl) (fun _ _ _ h => h) ?y1 (by assumption) ?r1
   case y1 => intro w h; (try dsimp only at h); go_simp; try with_reducible rfl
   try simp only [sA, sB, sC]
   refine tq (i := 2) (v := ?v2) rfl rfl (by kernel_rfl) (fun _ _ _ h => h) ?y2 (by assumption) ?r2
   case y2 => intro w h; (try dsimp only at h); go_simp; try with_reducible rfl
   try simp only [sA, sB, sC]
   refine tq (i := 4) (v := ?v4) rfl rfl (by kernel_rfl) (fun _ _ _ h => h) ?y4 (by assumption) ?r4
   case y4 => intro w h; (try dsimp only at h); go_simp; try with_reducible rfl
   try simp only [sA, sB, sC]
   obtain ⟨v1, x1, v2, x2, hr1, hr2, ho2, hx1, hx2⟩ := app2_a wd SA sc sl more HSD.out (by rw [HNN.out]; omega)
   obtain ⟨v3, x3, v4, x4, hr3, hr4, ho4, hx3, hx4⟩ := app2_b wd SA sc sl more HSD.out (by rw [HNN.out]; omega)
   rw [HNN.out] at hr1 hr3
   rw [HWD.out]
   have HX1 := hide (below_up HDD.out hx1 HDD.out.size)
   have HX2 := hide (below_up HDD.out hx2 HDD.out.size)
   have HX4 := hide (below_up HDD.out hx4 HDD.out.size)
   have HX3 := hide (below_up HDD.out hx3 HDD.out.size)
   have HX1A := hide (HX1.out.alloc HX1.out.size (.cells #[.string more] 9))
   have HXDA := hide (HDD.out.alloc HDD.out.size (.cells #[.string more] 9))
   obtain ⟨A2, c2, rfl, _, hs2, _⟩ := ho2.slice
   obtain ⟨A4, c4, rfl, _, hs4, _⟩ := ho4.slice
   have hsn : (sl ++ [more]).length = nn + 1 := by rw [List.length_append, List.length_singleton, HNN.out]
   have HRC2 := hide (HRC.out (sl ++ [more]) (fun x hx => hx) (by rw [hsn]; omega) A2 c2 x2 HX2.out hs2)
   have HRC4 := hide (HRC.out (sl ++ [more]) (fun x hx => hx) (by rw [hsn]; omega) A4 c4 x4 HX4.out hs4)
   rw [HRBB.out, hsn] at HRC2 HRC4
   rw [hsn] at hr2 hr4
   unfold RchP at HRC2 HRC4
   rw [HBN.out] at HRC2 HRC4
   have HH2 := hide hx2
   have HH4 := hide hx4
   clear hx1 hx2 hx3 hx4 ho2 ho4 hs2 hs4 hsn
   refine wpAnyH_ready (rs := [3, 5]) (by kernel_rfl) (by simp) ?_
   refine AllReadyH.cons (o := _) rfl (fun K hK => ?way1) (AllReadyH.cons (o := _) rfl (fun K hK => ?way2) AllReadyH.nil)
   case way1 =>
     refine step_app_run rfl _ _ rfl rfl rfl rfl hr1 ?_
     refine hK.out _ _ (HQ.out _ HX1.out) (fun _ => ?_)
     clear hK K
     try simp only [Act.put, sA, sB, sC]
     refine rq (k := 5) rfl (by kernel_rfl) (by kernel_rfl) (fun K hK => ?_)
     go_simp
     refine hK.out _ _ (HQ.out _ HX1A.out) (fun _ => ?_)
     clear hK K
     try simp only [Act.put, sA, sB, sC]
     refine wpAnyH_ready (rs := [6]) (by kernel_rfl) (by simp) ?_
     refine AllReadyH.cons (o := _) rfl (fun K hK => ?_) AllReadyH.nil
     refine step_app_run rfl _ _ rfl rfl rfl rfl hr2 ?_
     refine hK.out _ _ (HQ.out _ HX2.out) (fun _ => ?_)
     clear hK K
     try simp only [Act.put, sA, sB, sC]
     refine rq (k := 7) rfl (by kernel_rfl) (by kernel_rfl) (fun K hK => ?_)
     go_simp
     refine HRC2.out.mono ?_
     rintro e wz ⟨Ab, cb, rfl, hsb, _, hbz⟩
     have HSB := hide hsb
     have HBZ := hide (below_up HH2.out hbz HH2.out.size)
     clear hsb hbz
     refine hK.out _ _ (HQ.out _ (below_up HDD.out HBZ.out HDD.out.size)) (fun _ => ?_)
     clear hK K
     try simp only [Act.put, sA, sB, sC]
     refine tq (i := 8) (v := ?vX8) rfl rfl (by kernel_rfl) (fun _ _ _ h => h) ?yX8 (by assumption) ?rX8
     case yX8 => intro w h; (try dsimp only at h); go_simp; try with_reducible rfl
     try simp only [sA, sB, sC]
     refine wpAnyH_done (by kernel_rfl) ?_ _
     go_wp2
     go_meet
     exact ⟨Ab, cb, rfl, HSB.out, HBZ.out⟩
   case way2 =>
     rw [if_pos (by kernel_rfl)]
     go_simp
     refine hK.out _ _ (HQ.out _ HXDA.out) (fun _ => ?_)
     clear hK K
     try simp only [Act.put, sA, sB, sC]
     refine wpAnyH_ready (rs := [3]) (by kernel_rfl) (by simp) ?_
     refine AllReadyH.cons (o := _) rfl (fun K hK => ?_) AllReadyH.nil
     refine step_app_run rfl _ _ rfl rfl rfl rfl hr3 ?_
     refine hK.out _ _ (HQ.out _ HX3.out) (fun _ => ?_)
     clear hK K
     try simp only [Act.put, sA, sB, sC]
     refine wpAnyH_ready (rs := [6]) (by kernel_rfl) (by simp) ?_
     refine AllReadyH.cons (o := _) rfl (fun K hK => ?_) AllReadyH.nil
     refine step_app_run rfl _ _ rfl rfl rfl rfl hr4 ?_
     refine hK.out _ _ (HQ.out _ HX4.out) (fun _ => ?_)
     clear hK K
     try simp only [Act.put, sA, sB, sC]
     refine rq (k := 7) rfl (by kernel_rfl) (by kernel_rfl) (fun K hK => ?_)
     go_simp
     refine HRC4.out.mono ?_
     rintro e wz ⟨Ab, cb, rfl, hsb, _, hbz⟩
     have HSB := hide hsb
     have HBZ := hide (below_up HH4.out hbz HH4.out.size)
     clear hsb hbz
     refine hK.out _ _ (HQ.out _ (below_up HDD.out HBZ.out HDD.out.size)) (fun _ => ?_)
     clear hK K
     try simp only [Act.put, sA, sB, sC]
     refine tq (i := 8) (v := ?vY8) rfl rfl (by kernel_rfl) (fun _ _ _ h => h) ?yY8 (by assumption) ?rY8
     case yY8 => intro w h; (try dsimp only at h); go_simp; try with_reducible rfl
     try simp only [sA, sB, sC]
     refine wpAnyH_done (by kernel_rfl) ?_ _
     go_wp2
     go_meet
     exact ⟨Ab, cb, rfl, HSB.out, HBZ.out⟩
 case rest =>
 obtain ⟨wb, hwb⟩ : ∃ Z, Z = wc := ⟨_, rfl⟩
 subst hwb
 obtain ⟨Ab, cb, rfl, hsb, hbb⟩ := hcut
 have HBB := hide (below_up HD5.out (by have := hbb; exact hbb) HD5.out.size)
 have HSB := hide hsb
 have HSA2 := hide (HSA.out.below HBB.out)
 have HSL := hide (HS5.out.below HBB.out)
 clear hsb hbb HRC HRC1 HSD HDD HD5
 go_wp2
 go_loopw [17, 18] (fun v17 v18 wr => ∃ (i k : Nat), v17 = .int .i64 k ∧ v18 = .int .i64 i ∧ i ≤ bn ∧ k ≤ an2 ∧ Hid (k = foundF Ra (Rb.take i) 0) ∧ Hid (Below wb.heap.size wb wr)) (fun _ v18 _ => bn - (intOf v18).toNat)
 case atStart => exact ⟨0, 0, rfl, rfl, by omega, by omega, hide rfl, Below.refl _ _⟩
 case round =>
   obtain ⟨wi, hwi⟩ : ∃ Z, Z = wr := ⟨_, rfl⟩
   subst hwi
   obtain ⟨i, k, rfl, rfl, hi, hk, HK, HBI⟩ := hrel
   have HAI := hide (HSA2.out.below HBI.out)
   have HBBI := hide (HSB.out.below HBI.out)
   by_cases hlt : i < bn
   case neg =>
     obtain rfl : i = bn := by omega
     have hkk : k = an2 := by
       rw [HK.out, List.take_of_length_le (by have := HBN.out; omega), HMORE.out, HAN.out]
     subst hkk
     have HBW := hide (below_up HB5.out (below_up HBB.out HBI.out HBB.out.size) HB5.out.size)
     go_wp2_with fail
     refine (HNU.out _).mono ?_
     rintro e wn ⟨rfl, hwn⟩
     obtain rfl := hwn
     by_cases hz0 : z.e = 0
     case neg =>
       obtain ⟨t1, t2⟩ := ne0 hz0
       clear hz0
       go_wp2
       go_ret
       exact ⟨rfl, below_up HB3.out HBW.out HB3.out.size⟩
     have hoz := HOL.out.trans (if_pos hz0)
     have hol1 : ol.length ≤ 1000 := by rw [hoz]; have := HZC.out; omega
     have hsm2 := HSAME.out hz0
     obtain ⟨on, hon⟩ : ∃ n, ol.length = n := ⟨_, rfl⟩
     rw [hon] at hol1
     have HON := hide hon
     have HSM2 := hide hsm2
     have HSLI := hide (HSL.out.below HBI.out)
     rw [hz0, hon]
     clear hoz hon hsm2 hz0
     go_wp2
     go_loopw [19, 20] (fun v19 v20 w2 => ∃ (j : Nat) (A' : Option Addr) (c' q : Nat), v20 = .int .i64 j ∧ j ≤ on ∧ v19 = .slice A' q c' ∧ Hid (q = (putsF (ol.take j)).length) ∧ q ≤ j ∧ q ≤ c' ∧ Hid (SR w2 A' (putsF (ol.take j))) ∧ Hid (Below wi.heap.size wi w2)) (fun _ v20 _ => on - (intOf v20).toNat)
     case atStart => exact ⟨0, none, 0, 0, rfl, by omega, rfl, hide (by simp [putsF]), by omega, by omega, hide (by simpa [putsF] using SR.nil wi none), Below.refl _ _⟩
     case round =>
       obtain ⟨wj, hwj⟩ : ∃ Z, Z = wr := ⟨_, rfl⟩
       subst hwj
       obtain ⟨j, A', c', q, rfl, hj, rfl, HQL, hqj, hqc, HSR, HB⟩ := hrel
       have HAJ := hide (HAI.out.below HB.out)
       have HSLJ := hide (HSLI.out.below HB.out)
       by_cases hlj : j < on
       case neg =>
         obtain rfl : j = on := by omega
         have HT := hide (show ol.take j = ol from List.take_of_length_le (by have := HON.out; omega))
         have hsr := HSR.out
         have hql := HQL.out
         rw [HT.out, HSM2.out] at hsr hql
         rw [HAN.out] at hql
         subst hql
         have HSE := hide (same_any A' Aa c' ca Ra Ra wj hsr HAJ.out (by have := HRA.out; omega))
         rw [decide_eq_true rfl, HAN.out] at HSE
         clear hsr
         go_wp2_with fail
         refine HSE.out.mono ?_
         rintro e wf ⟨rfl, hdf⟩
         have HF := hide (below_up HB.out hdf.below HB.out.size)
         clear hdf
         go_wp2
         go_ret
         exact ⟨rfl, below_up HB3.out (below_up HBW.out HF.out HBW.out.size) HB3.out.size⟩
       obtain ⟨x, hx⟩ : ∃ x, ol[j]? = some x := ⟨ol[j]'(by have := HON.out; omega), gE _⟩
       obtain ⟨gs, os, rfl, hgs, hcs⟩ := HSLJ.out j x hx
       have bj1 : (j : Int) < (on : Int) := by omega
       have hsc := putsF_snoc hx
       obtain ⟨Q, hQ⟩ : ∃ Q, putsF (ol.take j) = Q := ⟨_, rfl⟩
       rw [hQ] at HQL HSR hsc
       have HPT := hide (putstr_any A' c' Q x _ HSR.out (by have := HQL.out; omega) (by have := HQL.out; omega))
       rw [← HQL.out] at HPT
       have HSC := hide hsc
       have HQ2 := hide (show (putS x Q).length ≤ j + 1 by
         have := puts_len (ol.take (j + 1))
         rw [hsc, List.length_take] at this
         omega)
       clear hx hsc hQ
       go_wp2_with fail
       refine HPT.out.mono ?_
       rintro e w8 ⟨⟨A3, c3, rfl, hs3, hl3⟩, hb3⟩
       obtain ⟨q3, hq3⟩ : ∃ q, (putS x Q).length = q := ⟨_, rfl⟩
       have HQ3 := hide hq3
       have hq4 := HQ2.out
       rw [hq3] at hl3 hq4
       rw [hq3]
       have HS3 := hide hs3
       have HB8 := hide (below_up HB.out hb3 HB.out.size)
       clear hs3 hb3 hq3 HQ2 HPT
       go_wp2
       go_roundw
       case rel => exact ⟨j + 1, A3, c3, q3, by go_num, by omega, rfl, hide (by rw [HSC.out]; exact HQ3.out.symm), by omega, by omega, hide (by rw [HSC.out]; exact HS3.out), HB8.out⟩
       case measure => simp [intOf]; omega
   obtain ⟨y, hy⟩ : ∃ x, Rb[i]? = some x := ⟨Rb[i]'(by have := HBN.out; omega), gE _⟩
   have HY := hide hy
   have hft := found_take Ra Rb i 0 y hy
   rw [← HK.out] at hft
   have HFT := hide hft
   obtain ⟨gb, ob, rfl, hgb, hcb⟩ := HBBI.out i y hy
   have HCB := hide hcb
   have HGB := hide hgb
   have bi : (i : Int) < (bn : Int) := by omega
   clear hft hy
   go_upto_region 13 with (fail)
   go_cut [92] from 79 to 92 (fun v92 w' => v92 = .bool false ∧ Below wi.heap.size wi w')
   case first =>
     by_cases hi0 : i = 0
     · subst hi0
       go_wp2_with fail
       go_region
       go_wp2
       go_meet
       exact ⟨rfl, (Below.refl _ _).drew⟩
     · obtain ⟨i', rfl⟩ : ∃ q, i = q + 1 := ⟨i - 1, by omega⟩
       obtain ⟨x, hx⟩ : ∃ x, Rb[i']? = some x := ⟨Rb[i']'(by have := HBN.out; omega), gE _⟩
       obtain ⟨gx, ox, ex, hgx, hcx⟩ := HBBI.out i' x hx
       injection ex with ex
       injection ex with e1 e2
       subst e1 e2
       have hlt2 := HRIS.out i' x y hx HY.out
       have hl1 : Op.bytesLess y.toList x.toList = false := by
         cases h : Op.bytesLess y.toList x.toList with
         | false => rfl
         | true => exact absurd (List.lt_trans ((sLt_iff _ _).1 hlt2) ((sLt_iff _ _).1 h)) (List.lt_irrefl _)
       have hne : y ≠ x := fun e => by subst e; exact List.lt_irrefl _ ((sLt_iff _ _).1 hlt2)
       have hne2 := toL_ne hne
       have bi0 : (0 : Int) < ((i' + 1 : Nat) : Int) := by omega
       have bi1 : ((i' + 1 : Nat) : Int) - 1 = (i' : Int) := by omega
       have bi2 : ((i' : Int) + 1) - 1 = (i' : Int) := by omega
       have bi3 : (i' : Int) < (bn : Int) := by omega
       have bi4 : (i' : Int) + 1 < (bn : Int) := by omega
       have bi5 : (0 : Int) < (i' : Int) + 1 := by omega
       have bwr : IntKind.i64.wrap (i' : Int) = (i' : Int) := IntWalk.i64_in _ (by omega)
       clear hx hlt2
       go_wp2_with fail
       go_region
       go_wp2
       go_meet
       exact ⟨by first | rfl | simp [hl1, hne2], (Below.refl _ _).drew⟩
   case rest =>
   obtain ⟨wm, hwm⟩ : ∃ Z, Z = wc := ⟨_, rfl⟩
   subst hwm
   obtain ⟨rfl, hbm⟩ := hcut
   have HBM2 := hide hbm
   have hcbm := (hbm.cell (p := ⟨gb, ob + i, none⟩) HGB.out).trans HCB.out
   have HBWM := hide (below_up HBI.out hbm HBI.out.size)
   clear hbm
   by_cases hka : k < an2
   case neg =>
     obtain rfl : k = an2 := by omega
     have hno : ¬ Ra[k]? = some y := fun h => by have := (List.getElem?_eq_some_iff.1 h).1; have := HAN.out; omega
     have HE := hide (HFT.out.trans (if_neg hno))
     clear hno
     go_wp2_with fail
     go_region
     go_wp2
     go_roundw
     case rel => exact ⟨i + 1, k, rfl, by go_num, by omega, by omega, hide HE.out.symm, hide HBWM.out.drew⟩
     case measure => simp [intOf]; omega
   obtain ⟨x, hx⟩ : ∃ x, Ra[k]? = some x := ⟨Ra[k]'(by have := HAN.out; omega), gE _⟩
   have ham := HAI.out.below HBM2.out
   obtain ⟨ga, oa, rfl, hga, hca⟩ := ham k x hx
   have bk1 : (k : Int) < (an2 : Int) := by omega
   by_cases he : x = y
   · subst he
     have HE := hide (HFT.out.trans (if_pos hx))
     clear hx ham
     go_wp2_with fail
     go_region
     go_wp2
     go_roundw
     case rel => exact ⟨i + 1, k + 1, by go_num, by go_num, by omega, by omega, hide HE.out.symm, hide HBWM.out.drew⟩
     case measure => simp [intOf]; omega
   · have hne := toL_ne he
     have HE := hide (HFT.out.trans (if_neg (fun h => he (by rw [hx] at h; injection h))))
     clear hx ham he
     go_wp2_with fail
     go_region
     go_wp2
     go_roundw
     case rel => exact ⟨i + 1, k, rfl, by go_num, by omega, by omega, hide HE.out.symm, hide HBWM.out.drew⟩
     case measure => simp [intOf]; omega
end
end Go.Proofs.YtaajofojbhdgaaaGreatDoor
