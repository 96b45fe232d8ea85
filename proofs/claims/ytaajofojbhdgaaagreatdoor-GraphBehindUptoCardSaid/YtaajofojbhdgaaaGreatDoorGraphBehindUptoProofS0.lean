/- Walks and plain facts that the claim uses. -/
import Derived.Test.YtaajofojbhdgaaaGreatDoorP22x6
import Derived.Deep.CutRange
import Derived.StillTailTactics
set_option maxRecDepth 100000
set_option maxHeartbeats 16000000
set_option linter.unusedSimpArgs false
set_option linter.unusedVariables false
namespace Go.Proofs.YtaajofojbhdgaaaGreatDoor
section
open Go.RowKit Go.Deep Go.Maps Ln Pth Vf
attribute [local go_sem] bt_eq
theorem nodup_ne {l : List ByteArray} (h : l.Nodup) {i j : Nat} {x y : ByteArray} (hx : l[i]? = some x) (hy : l[j]? = some y) (hij : i < j) : x ≠ y := by
 obtain ⟨h1, h2⟩ := List.getElem?_eq_some_iff.1 hx
 obtain ⟨h3, h4⟩ := List.getElem?_eq_some_iff.1 hy
 have := List.pairwise_iff_getElem.1 h i j h1 h3 hij
 rwa [h2, h4] at this
theorem law_graphBehind (K : Nat) (hK : K ≤ 1048576) (X : MkV) (A : Option Addr) (c : Nat) (L : List Ac4) (SA : Option Addr) (sc : Nat) (sl : List ByteArray)
   (m0 : L.length ≤ maxLen) (s0 : ∀ x ∈ L, szA x) (mS : sl.length ≤ maxLen) (zS : ∀ x ∈ sl, x.size ≤ K)
   (W : World) (hm : MX W) (hX : MkIn K W X) (hA : AR4 W A L) (hS : SR W SA sl) :
   Calls Tryz.prog 4 #[.agg #[X.mv, X.rv], .slice A L.length c, .slice SA sl.length sc] W fun e w' => e = .returned (.bool true) ∧ Below W.heap.size W w' := by
 have HBM := hide (fun Z (hb : Below W.heap.size W Z) => bigM_any K (by omega) X Z (hX.below hb))
 have HBG := hide (fun Z (hb : Below W.heap.size W Z) => big_any A c L Z (hA.below hb).1 m0 s0)
 have HTR := hide (fun (h : bigF L = false) Z (hb : Below W.heap.size W Z) => trees_any A c L Z (hm.below hb) (hA.below hb) h)
 have HAL := hide (fun Z (hb : Below W.heap.size W Z) => alive22_any Z (hm.below hb))
 have HM := hide hm
 have HX := hide hX
 have HSS := hide hS
 have HZS := hide zS
 have mS1 : sl.length ≤ 9223372036854775807 := mS
 have m01 : L.length ≤ 9223372036854775807 := m0
 obtain ⟨ma, mc, ml, ra, rc, M⟩ := X
 simp only at HBM
 have HRR := hide (show RLI K W ra M from HX.out.rr)
 unfold MkV.mv MkV.rv at HBM ⊢
 simp only at HBM ⊢
 obtain ⟨mn, hmn⟩ : ∃ n, ml.length = n := ⟨_, rfl⟩
 obtain ⟨rn, hrn⟩ : ∃ n, M.length = n := ⟨_, rfl⟩
 obtain ⟨an, han⟩ : ∃ n, L.length = n := ⟨_, rfl⟩
 obtain ⟨nn, hnn⟩ : ∃ n, sl.length = n := ⟨_, rfl⟩
 have HRN := hide hrn
 have HNN := hide hnn
 rw [hmn, hrn] at HBM
 rw [han] at HBG HTR
 rw [hmn, hrn, han, hnn]
 rw [han] at m01
 rw [hnn] at mS1
 have HSM := hide (fun (h : bigM ml M = false) => bigM_no h)
 obtain ⟨bm, hbm⟩ : ∃ b, bigM ml M = b := ⟨_, rfl⟩
 obtain ⟨bf, hbf⟩ : ∃ b, bigF L = b := ⟨_, rfl⟩
 rw [hbm] at HBM HSM
 rw [hbf] at HBG HTR
 clear hm hX hA hS zS m0 s0 mS hmn hrn han hnn hbm hbf HX
 have HB0 := hide ((Below.refl W.heap.size W).alloc (Nat.le_refl _) (.cells #[.slice ma mn mc, .slice ra rn rc] 25))
 have HNB := hide (heapNew W (.cells #[.slice ma mn mc, .slice ra rn rc] 25))
 go_enter Tryz.func4, Tryz.ntmps4
 go_wp2_with fail
 refine (HAL.out _ HB0.out).mono ?_
 rintro e w1 ⟨rfl, hb1⟩
 have hh1 := (hb1.block W.heap.size (by simp)).trans HNB.out
 have hd0 := cellOf' hh1 (j := 0) rfl
 have hd1 := cellOf' hh1 (j := 1) rfl
 have HH1 := hide hh1
 have HB1 := hide (below_up HB0.out hb1 HB0.out.size)
 clear hb1 hh1
 go_wp2_with fail
 refine (HBM.out _ HB1.out).mono ?_
 rintro e w2 ⟨rfl, hb2⟩
 have hlw := (Array.getElem?_eq_some_iff.1 HH1.out).1
 have hh2 := (hb2.block W.heap.size hlw).trans HH1.out
 have HH2 := hide hh2
 have HB2 := hide (below_up HB1.out hb2 HB1.out.size)
 clear hb2 hh2 hlw hd0 hd1
 cases bm with
 | true =>
   go_wp2
   go_ret
   exact ⟨rfl, HB2.out⟩
 | false =>
 have hsm := HSM.out rfl
 go_wp2_with fail
 refine (HBG.out _ HB2.out).mono ?_
 rintro e w' ⟨rfl, rfl⟩
 cases bf with
 | true =>
   go_wp2
   go_ret
   exact ⟨rfl, HB2.out⟩
 | false =>
 by_cases g1 : 20 < an
 · have q1 : decide ((20 : Int) < (an : Int)) = true := by simp; omega
   have r1 : decide (20 < an) = true := by simpa using g1
   clear g1
   go_wp2
   go_ret
   exact ⟨rfl, HB2.out⟩
 have q1 : decide ((20 : Int) < (an : Int)) = false := by simp; omega
 have r1 : decide (20 < an) = false := by simpa using g1
 by_cases g3 : 10 < nn
 · have q3 : decide ((10 : Int) < (nn : Int)) = true := by simp; omega
   have r3 : decide (10 < nn) = true := by simpa using g3
   clear g3
   go_wp2
   go_ret
   exact ⟨rfl, HB2.out⟩
 have q3 : decide ((10 : Int) < (nn : Int)) = false := by simp; omega
 have r3 : decide (10 < nn) = false := by simpa using g3
 have hni : (nn : Int) ≤ 100 := by omega
 have hz60 : ∀ x ∈ sl, x.size ≤ 1048576 := fun x hx => Nat.le_trans (HZS.out x hx) hK
 have HT1 := hide (HTR.out (by first | trivial | rfl) _ HB2.out)
 go_wp2_with fail
 refine HT1.out.mono ?_
 rintro e w3 ⟨f, r, rfl, hi⟩
 have hbi := hi.below
 have hb3 := below_up HB2.out hbi HB2.out.size
 have hlw := (Array.getElem?_eq_some_iff.1 HH2.out).1
 have hh3 := (hbi.block W.heap.size hlw).trans HH2.out
 have hl3 := (Array.getElem?_eq_some_iff.1 hh3).1
 have hvs := Two.vs hi
 have hrs : Hs (RS r (treeS L)) w3 := hi.fst.snd.hs
 have HB3 := hide hb3
 have hgd := treeS_good L
 have hsl : (treeS L).m.length ≤ 1000000 := by have := hgd.wf.nodes; have := hgd.nodes; omega
 have hrl := fun Z (hb : Below w3.heap.size w3 Z) => hsm.rls (HRR.out.below (below_up hb3 hb hb3.size))
 have hgh := fun Z (hb : Below w3.heap.size w3 Z) => gh_small (mac := .slice ma mn mc) (c := rc) (Z := 1048576) (cwd := [47]) (by omega) hsm (hrl Z hb) (hvs.below (VS.fr f _) hb) (HM.out.below (below_up hb3 hb hb3.size)) (by simp)
 have hrg := fun Z (hb : Below w3.heap.size w3 Z) => rgh_small (mac := .slice ma mn mc) (c := rc) (Z := 1048576) (cwd := [47]) (by omega) hsm (hrl Z hb) (hrs.below (RS.fr r _) hb) hsl (by simp)
 have hsw3 := HSS.out.below hb3
 have hnl : sl.length ≤ 1000000 := by have := HNN.out; omega
 have hgz : ∀ x ∈ sl, ∀ m, gdZ 1048576 m x := fun x hx m => by have := hz60 x hx; unfold gdZ; omega
 have HO := hide (fun Z (hb : Below w3.heap.size w3 Z) => (order_any (.slice ma mn mc) (.slice ra M.length rc) f (bs [47]) _ _ _ SA sc sl Z (hgh Z hb) (hsw3.below hb) hnl hgz).mono fun e w' h => OrP.z h)
 have hall := fun (he : (sl.foldl (fun s x => meetW (plP (treeS L) [47] M) (isP22 (treeS L) [47]) true x s) wk0).e = 0) => goals_all (P := plP (treeS L) [47] M) (is := isP22 (treeS L) [47]) he
 have hord := fun (he : (sl.foldl (fun s x => meetW (plP (treeS L) [47] M) (isP22 (treeS L) [47]) true x s) wk0).e = 0) => goals_ord (P := plP (treeS L) [47] M) (is := isP22 (treeS L) [47]) he
 have hsgd := seenA_gd (P := plP (treeS L) [47] M) (Gd := gdZ 1048576) (next_small hsm) (fun m x hx => by unfold gdZ at hx ⊢; omega) sl hgz
 have hpl := fun (x : ByteArray) (hx : gdZ 1048576 1000 x) (Z : World) (hb : Below w3.heap.size w3 Z) => (hrg w3 (Below.refl _ _)).plan 1000 Z x (by omega) hx hb
 have hln := fun (x : ByteArray) => (need_small (S := treeS L) (cwd := [47]) hsm x).2
 have hzok := foldW_ok (P := plP (treeS L) [47] M) (is := isP22 (treeS L) [47]) (stop := true) sl wk0 WkOk.start
 obtain ⟨PL, hPL⟩ : ∃ P, plP (treeS L) [47] M = P := ⟨_, rfl⟩
 rw [hPL] at HO hall hord hsgd hpl hln hzok
 obtain ⟨z, hz⟩ : ∃ z, sl.foldl (fun s x => meetW PL (isP22 (treeS L) [47]) true x s) wk0 = z := ⟨_, rfl⟩
 rw [hz] at HO hzok hall hord
 rw [HNN.out] at HO
 rw [HRN.out] at HO
 dsimp only at hpl
 rw [HRN.out] at hpl
 unfold OrZ at HO
 have HHALL := hide hall
 have HORD := hide hord
 have HPL := hide hpl
 have HLN := hide hln
 have HSGD := hide hsgd
 have hzc := hzok.cnt
 have hzs := hzok.seen
 have hq := fun (Z : World) (hb : Below w3.heap.size w3 Z) => show (Z.cell? ⟨W.heap.size, 0, none⟩ = some (.slice ma mn mc) ∧ Z.cell? ⟨W.heap.size, 1, none⟩ = some (.slice ra rn rc)) from ⟨(hb.cell (p := ⟨W.heap.size, 0, none⟩) hl3).trans (cellOf' hh3 (j := 0) rfl), (hb.cell (p := ⟨W.heap.size, 1, none⟩) hl3).trans (cellOf' hh3 (j := 1) rfl)⟩
 have HQ := hide hq
 obtain ⟨hd0, hd1⟩ := hq w3 (Below.refl _ _)
 have hordL : ordL z = if z.e = 0 then z.order else [] := rfl
 obtain ⟨ol, hol⟩ : ∃ l, ordL z = l := ⟨_, rfl⟩
 rw [hol] at HO hordL
 have HOL := hide hordL
 have HNU := hide (num22_any (z.e : Int))
 clear hq hi hbi hb3 hh3 hgd hsl hrl hgh hrg hsw3 hnl hgz hzok hz hol hordL hsm hlw hvs hrs q1 q3 r1 r3 g1 g3 hz60 hl3 hPL hall hord hsgd hpl hln
 go_wp2_with fail
 refine (HO.out _ (Below.refl _ _)).mono ?_
 rintro e w4 ⟨P1, c1, rfl, hs4, hb4⟩
 have HS4 := hide hs4
 have HB4 := hide hb4
 clear hs4 hb4 hd0 hd1
 go_wp2_with fail
 refine (HNU.out _).mono ?_
 rintro e wn ⟨rfl, hwn⟩
 obtain rfl := hwn
 by_cases hz0 : z.e = 0
 case neg =>
   have hE := HOL.out.trans (if_neg hz0)
   subst hE
   obtain ⟨t1, t2⟩ := ne0 hz0
   clear hz0
   rw [List.length_nil]
   go_wp2
   go_ret
   exact ⟨rfl, below_up HB3.out HB4.out HB3.out.size⟩
 have hE := HOL.out.trans (if_pos hz0)
 obtain ⟨ho1, ho2, _⟩ := HORD.out hz0
 rw [← hE] at ho2
 have HCL := hide (show ∀ (i : Nat) t, ol[i]? = some t → ∀ n ∈ (PL t).needs, ∃ j, j < i ∧ ol[j]? = some n from hE ▸ ho1.cl)
 have HND := hide (show ol.Nodup from hE ▸ ho1.nd)
 have HIN := hide ho2
 have HOZ := hide (show ∀ x ∈ ol, gdZ 1048576 1000 x from fun x hx => HSGD.out x ((HHALL.out hz0 x).1 (hE ▸ hx)))
 obtain ⟨on, hon⟩ : ∃ n, ol.length = n := ⟨_, rfl⟩
 have hon1 : on ≤ 1000 := by rw [← hon, hE]; omega
 have honi : (on : Int) ≤ 1000 := by omega
 have HON := hide hon
 rw [hon]
 rw [hz0]
 clear ho1 ho2 hE hon HORD HHALL HSGD HO HNU hzc hzs hz0
 go_wp2
 go_loopw [13, 14, 15, 16, 17, 18] (fun v13 _ _ _ _ _ wr => ∃ i : Nat, v13 = .int .i64 i ∧ i ≤ on ∧ Hid (Below w4.heap.size w4 wr)) (fun v13 _ _ _ _ _ _ => on - (intOf v13).toNat)
 case atStart => exact ⟨0, rfl, by omega, Below.refl _ _⟩
 case round =>
   obtain ⟨wo, hwo⟩ : ∃ Z, Z = wr := ⟨_, rfl⟩
   subst hwo
   obtain ⟨i, rfl, hi, HBW⟩ := hrel
   have HAR := hide (HS4.out.below HBW.out)
   by_cases hli : i < on
   case neg =>
     obtain rfl : i = on := by omega
     go_wp2
     go_loopw [19, 20, 21] (fun v19 _ _ wr => ∃ k : Nat, v19 = .int .i64 k ∧ k ≤ nn ∧ Hid (Below wo.heap.size wo wr)) (fun v19 _ _ _ => nn - (intOf v19).toNat)
     case atStart => exact ⟨0, rfl, by omega, Below.refl _ _⟩
     case round =>
       obtain ⟨wk, hwk⟩ : ∃ Z, Z = wr := ⟨_, rfl⟩
       subst hwk
       obtain ⟨k, rfl, hk, HBK⟩ := hrel
       have HBK4 := hide (below_up HBW.out HBK.out HBW.out.size)
       by_cases hlk : k < nn
       case neg =>
         go_wp2
         go_ret
         exact ⟨rfl, below_up HB3.out (below_up HB4.out HBK4.out HB4.out.size) HB3.out.size⟩
       obtain ⟨x, hx⟩ : ∃ x, sl[k]? = some x := ⟨sl[k]'(by have := HNN.out; omega), gE _⟩
       have HSK := hide (HSS.out.below (below_up HB3.out (below_up HB4.out HBK4.out HB4.out.size) HB3.out.size))
       obtain ⟨gs, os, rfl, hgs, hcs⟩ := HSK.out k x hx
       have hxin := HIN.out x (List.mem_of_getElem? hx)
       have HXI := hide hxin
       have bk1 : (k : Int) < (nn : Int) := by omega
       clear hxin hx
       go_wp2
       go_loopw [20, 21] (fun v20 v21 wr => ∃ (j : Nat) (b : Bool), v20 = .bool b ∧ v21 = .int .i64 j ∧ j ≤ i ∧ Hid (b = Lib.containsS (ol.take j) x) ∧ Hid (Below wk.heap.size wk wr)) (fun _ v21 _ => i - (intOf v21).toNat)
       case atStart => exact ⟨0, false, rfl, rfl, by omega, hide (cont_nil x).symm, Below.refl _ _⟩
       case round =>
         obtain ⟨wj, hwj⟩ : ∃ Z, Z = wr := ⟨_, rfl⟩
         subst hwj
         obtain ⟨j, b, rfl, rfl, hj, HBB, HBJ⟩ := hrel
         have HBJK := hide (below_up HBK.out HBJ.out HBK.out.size)
         by_cases hlj : j < i
         case neg =>
           obtain rfl : j = i := by omega
           have hb : b = true := by rw [HBB.out, List.take_of_length_le (by have := HON.out; omega)]; exact (Lib.containsS_iff _ _).2 HXI.out
           subst hb
           go_wp2
           go_roundw
           case rel => exact ⟨k + 1, by go_num, by omega, HBJK⟩
           case measure => simp [intOf]; omega
         obtain ⟨y, hy⟩ : ∃ x, ol[j]? = some x := ⟨ol[j]'(by have := HON.out; omega), gE _⟩
         have hct := cont_take hy x
         have harj := HAR.out.below HBJK.out
         obtain ⟨gy, oy, rfl, hgy, hcy⟩ := harj j y hy
         have hcx := (HBJ.out.cell (p := ⟨gs, os + k, none⟩) hgs).trans hcs
         have bj1 : (j : Int) < (i : Int) := by omega
         cases b with
         | true =>
           have HE := hide (show true = Lib.containsS (ol.take (j + 1)) x by rw [hct, ← HBB.out]; rfl)
           clear hct hy harj
           go_wp2_with fail
           go_region
           go_wp2
           go_roundw
           case rel => exact ⟨j + 1, true, rfl, by go_num, by omega, HE, hide HBJ.out.drew⟩
           case measure => simp [intOf]; omega
         | false =>
           by_cases he : y = x
           · subst he
             have HE := hide (show true = Lib.containsS (ol.take (j + 1)) y by rw [hct, ← HBB.out]; simp)
             clear hct hy harj
             go_wp2_with fail
             go_region
             go_wp2
             go_roundw
             case rel => exact ⟨j + 1, true, rfl, by go_num, by omega, HE, hide HBJ.out.drew⟩
             case measure => simp [intOf]; omega
           · have hne := toL_ne he
             have HE := hide (show false = Lib.containsS (ol.take (j + 1)) x by rw [hct, ← HBB.out]; simp [he])
             clear hct hy harj he
             go_wp2_with fail
             go_region
             go_wp2
             go_roundw
             case rel => exact ⟨j + 1, false, rfl, by go_num, by omega, HE, hide HBJ.out.drew⟩
             case measure => simp [intOf]; omega
   obtain ⟨st, hst⟩ : ∃ x, ol[i]? = some x := ⟨ol[i]'(by have := HON.out; omega), gE _⟩
   have HST := hide hst
   obtain ⟨g, oo, rfl, hg, hc⟩ := HAR.out i st hst
   have HC := hide hc
   have HG := hide hg
   have bi : (i : Int) < (on : Int) := by omega
   have hB34 := below_up HB4.out HBW.out HB4.out.size
   have HPX := hide (fun (Z : World) (hb : Below wo.heap.size wo Z) => HPL.out st (HOZ.out st (List.mem_of_getElem? hst)) Z (below_up hB34 hb hB34.size))
   obtain ⟨Q, hQ⟩ : ∃ q, PL st = q := ⟨_, rfl⟩
   have hcl := HCL.out i st hst
   have hnl := HLN.out st
   rw [hQ] at HPX hcl hnl
   have HCLI := hide hcl
   have HQQ := hide (fun (Z : World) (hb : Below wo.heap.size wo Z) => show (fun Z => Z.cell? ⟨W.heap.size, 0, none⟩ = some (.slice ma mn mc) ∧ Z.cell? ⟨W.heap.size, 1, none⟩ = some (.slice ra rn rc) ∧ Z.cell? ⟨g, oo + i, none⟩ = some (.string st)) Z from ⟨(HQ.out Z (below_up hB34 hb hB34.size)).1, (HQ.out Z (below_up hB34 hb hB34.size)).2, (hb.cell (p := ⟨g, oo + i, none⟩) hg).trans hc⟩)
   have HD0 := hide (Below.refl wo.heap.size wo).drew
   clear hst hc hg hB34 hcl hQ
   go_upto_region 12 with (fail)
   go_cut [14] from 69 to 75 (fun v14 w' => ∃ (gp : Nat) (An : Option Addr) (cn : Nat) (rA : Option Addr) (rc : Nat), v14 = .pointer (some ⟨gp, 0, none⟩) ∧ w'.heap[gp]? = some (.cells #[.slice An Q.needs.length cn, .slice rA Q.recipe.length rc, .string (bs Q.stem), .bool Q.rule] 49) ∧ SR w' An Q.needs ∧ Below wo.heap.size wo w' ∧ wo.heap.size ≤ gp)
   case first =>
     refine wp_region_held_drew (S := (fun Z => Z.cell? ⟨W.heap.size, 0, none⟩ = some (.slice ma mn mc) ∧ Z.cell? ⟨W.heap.size, 1, none⟩ = some (.slice ra rn rc) ∧ Z.cell? ⟨g, oo + i, none⟩ = some (.string st))) (by kernel_rfl) (HQQ.out _ (Below.refl _ _).drew) (fun hHeld => ?_)
     refine tq (i := 0) (v := ?v0) rfl rfl (by kernel_rfl) (fun _ _ _ h => h) ?y0 (by assumption) ?r0
     case y0 => intro w h; (try dsimp only at h); go_simp; try with_reducible rfl
     try simp only [sA, sB, sC]
     refine tq (i := 1) (v := ?v1) rfl rfl (by kernel_rfl) (fun _ _ _ h => h) ?y1 (by assumption) ?r1
     case y1 => intro w h; (try dsimp only at h); go_simp; try with_reducible rfl
     try simp only [sA, sB, sC]
     refine tq (i := 2) (v := ?v2) rfl rfl (by kernel_rfl) (fun _ _ _ h => h) ?y2 (by assumption) ?r2
     case y2 => intro w h; (try dsimp only at h); go_simp; try with_reducible rfl
     try simp only [sA, sB, sC]
     refine tq (i := 3) (v := ?v3) rfl rfl (by kernel_rfl) (fun _ _ _ h => h) ?y3 (by assumption) ?r3
     case y3 => intro w h; (try dsimp only at h); go_simp; try with_reducible rfl
     try simp only [sA, sB, sC]
     refine tq (i := 4) (v := ?v4) rfl rfl (by kernel_rfl) (fun _ _ _ h => h) ?y4 (by assumption) ?r4
     case y4 => intro w h; (try dsimp only at h); go_simp; try with_reducible rfl
     try simp only [sA, sB, sC]
     refine tq (i := 5) (v := ?v5) rfl rfl (by kernel_rfl) (fun _ _ _ h => h) ?y5 (by assumption) ?r5
     case y5 => intro w h; (try dsimp only at h); go_simp; try with_reducible rfl
     try simp only [sA, sB, sC]
     refine wpAnyH_ready (rs := [6, 7]) (by kernel_rfl) (by simp) ?_
     refine AllReadyH.cons (o := _) rfl (fun K hK => ?way1) (AllReadyH.cons (o := _) rfl (fun K hK => ?way2) AllReadyH.nil)
     case way1 =>
       rw [if_pos (by kernel_rfl)]
       go_simp
       refine (HPX.out _ HD0.out).mono ?_
       rintro e w2 ⟨An, cn, rA, rc', rfl, hsn, _, hfr, hb2⟩
       have HSN := hide hsn
       have HFR := hide hfr
       have HBP := hide ((Below.refl wo.heap.size wo).drew.trans hb2)
       clear hsn hb2 hfr
       refine hK.out _ _ (HQQ.out _ HBP.out) (fun _ => ?_)
       clear hK K
       try simp only [Act.put, sA, sB, sC]
       refine rq (k := 7) rfl (by kernel_rfl) (by kernel_rfl) (fun K hK => ?_)
       go_simp
       refine hK.out _ _ (HQQ.out _ (HBP.out.alloc HBP.out.size _)) (fun _ => ?_)
       clear hK K
       try simp only [Act.put, sA, sB, sC]
       refine rq (k := 8) rfl (by kernel_rfl) (by kernel_rfl) (fun K hK => ?_)
       go_simp
       refine hK.out _ _ (HQQ.out _ (HBP.out.alloc HBP.out.size _)) (fun _ => ?_)
       clear hK K
       try simp only [Act.put, sA, sB, sC]
       refine wpAnyH_done (by kernel_rfl) ?_ _
       go_wp2
       go_meet
       refine ⟨w2.heap.size, An, cn, rA, rc', rfl, heapNew _ _, HSN.out.below ((Below.refl _ _).alloc (Nat.le_refl _) _), HBP.out.alloc HBP.out.size _, HBP.out.size⟩
     case way2 =>
       have HBZ := hide ((Below.refl wo.heap.size wo).drew.alloc (Nat.le_refl _) (.cells #[.slice none 0 0, .slice none 0 0, .string ⟨#[]⟩, .bool false] 49))
       have HNZ := hide (heapNew wo.drew (.cells #[.slice none 0 0, .slice none 0 0, .string ⟨#[]⟩, .bool false] 49))
       have HD1 := hide (HD0.out.alloc (by have := HD0.out.size; exact this) (.cells #[.slice none 0 0, .slice none 0 0, .string ⟨#[]⟩, .bool false] 49))
       rw [if_pos (by kernel_rfl)]
       go_simp
       refine hK.out _ _ (HQQ.out _ HBZ.out) (fun _ => ?_)
       clear hK K
       try simp only [Act.put, sA, sB, sC]
       refine rq (k := 6) rfl (by kernel_rfl) (by kernel_rfl) (fun K hK => ?_)
       go_simp
       refine (HPX.out _ HD1.out).mono ?_
       rintro e w2 ⟨An, cn, rA, rc', rfl, hsn, _, hfr, hb2⟩
       have HSN := hide hsn
       have HFR := hide hfr
       have hz2 := (hb2.block wo.heap.size (by simp)).trans HNZ.out
       have HBP := hide (HBZ.out.trans (hb2.mono (by simp)))
       obtain ⟨⟨q1, q2, q3, q4, q5, q6, q7, q8⟩, hgf, hkp⟩ := store4 hz2 (.slice An Q.needs.length cn) (.slice rA Q.recipe.length rc') (.string (bs Q.stem)) (.bool Q.rule)
       have HGF := hide hgf
       have HKP := hide hkp
       have HQ3 := hide (HQQ.out _ (hkp.below HBP.out (Nat.le_refl _) (fun k e => by omega)))
       clear hsn hb2 hfr hgf hkp hz2
       refine hK.out _ _ (HQQ.out _ HBP.out) (fun _ => ?_)
       clear hK K
       try simp only [Act.put, sA, sB, sC]
       refine rq (k := 8) rfl (by kernel_rfl) (by kernel_rfl) (fun K hK => ?_)
       go_simp
       refine hK.out _ _ HQ3.out (fun _ => ?_)
       clear hK K
       try simp only [Act.put, sA, sB, sC]
       refine wpAnyH_done (by kernel_rfl) ?_ _
       go_wp2
       go_meet
       refine ⟨wo.heap.size, An, cn, rA, rc', rfl, HGF.out, HKP.out.sr HSN.out (fun a e h => ?_), HKP.out.below HBP.out (Nat.le_refl _) (fun k e => by omega), Nat.le_refl _⟩
       have := HFR.out a e h
       simp at this
       omega
   case rest =>
   obtain ⟨wp, hwp⟩ : ∃ Z, Z = wc := ⟨_, rfl⟩
   subst hwp
   obtain ⟨gp, An, cn, rA, rc', rfl, hgp, hsn, hb2, hgp2⟩ := hcut
   have HSN := hide hsn
   have HBP := hide hb2
   have HBP4 := hide (below_up HBW.out hb2 HBW.out.size)
   obtain ⟨m, hm⟩ : ∃ m, Q.needs.length = m := ⟨_, rfl⟩
   rw [hm] at hnl hgp
   have HGP := hide hgp
   have HMM := hide hm
   have hmi : (m : Int) ≤ 821 := by omega
   have hgpl := (Array.getElem?_eq_some_iff.1 hgp).1
   clear hgp hsn hb2 hm HPX HQQ HD0
   go_wp2
   go_loopw [15, 16, 17] (fun v15 _ _ wr => ∃ k : Nat, v15 = .int .i64 k ∧ k ≤ m ∧ Hid (Below wp.heap.size wp wr)) (fun v15 _ _ _ => m - (intOf v15).toNat)
   case atStart => exact ⟨0, rfl, by omega, Below.refl _ _⟩
   case round =>
     obtain ⟨wk, hwk⟩ : ∃ Z, Z = wr := ⟨_, rfl⟩
     subst hwk
     obtain ⟨k, rfl, hk, HBK⟩ := hrel
     have HGK := hide ((HBK.out.block gp hgpl).trans HGP.out)
     have p0 := cellOf HGK.out (j := 0) rfl
     by_cases hlk : k < m
     case neg =>
       obtain rfl : k = m := by omega
       have HBKO := hide (below_up HBP.out HBK.out HBP.out.size)
       go_wp2
       go_loopw [18] (fun v18 wr => ∃ j : Nat, v18 = .int .i64 j ∧ j ≤ i ∧ Hid (Below wk.heap.size wk wr)) (fun v18 _ => i - (intOf v18).toNat)
       case atStart => exact ⟨0, rfl, by omega, Below.refl _ _⟩
       case round =>
         obtain ⟨wj, hwj⟩ : ∃ Z, Z = wr := ⟨_, rfl⟩
         subst hwj
         obtain ⟨j, rfl, hj, HBJ⟩ := hrel
         have HBJO := hide (below_up HBKO.out HBJ.out HBKO.out.size)
         by_cases hlj : j < i
         case neg =>
           obtain rfl : j = i := by omega
           go_wp2
           go_roundw
           case rel => exact ⟨j + 1, by go_num, by omega, hide (below_up HBW.out HBJO.out HBW.out.size)⟩
           case measure => simp [intOf]; omega
         obtain ⟨y, hy⟩ : ∃ x, ol[j]? = some x := ⟨ol[j]'(by have := HON.out; omega), gE _⟩
         have he := nodup_ne HND.out hy HST.out hlj
         have hne := toL_ne he
         obtain ⟨gy, oy, ey, hgy, hcy⟩ := (HAR.out.below HBJO.out) j y hy
         injection ey with ey
         injection ey with e1 e2
         subst e1 e2
         have hci := (HBJO.out.cell (p := ⟨g, oo + i, none⟩) HG.out).trans HC.out
         have bj1 : (j : Int) < (i : Int) := by omega
         have bj2 : (j : Int) < (on : Int) := by omega
         clear hy he
         go_wp2_with fail
         go_region
         go_wp2
         go_roundw
         case rel => exact ⟨j + 1, by go_num, by omega, hide HBJ.out.drew⟩
         case measure => simp [intOf]; omega
     obtain ⟨x, hx⟩ : ∃ x, Q.needs[k]? = some x := ⟨Q.needs[k]'(by have := HMM.out; omega), gE _⟩
     have hsnk := HSN.out.below HBK.out
     obtain ⟨gn, og, rfl, hgn, hcn⟩ := hsnk k x hx
     have hcx := HCLI.out x (List.mem_of_getElem? hx)
     have HCX := hide hcx
     have HBKO := hide (below_up HBP.out HBK.out HBP.out.size)
     have HCN := hide hcn
     have HP0 := hide p0
     have hgpk : gp < wk.heap.size := Nat.lt_of_lt_of_le hgpl HBK.out.size
     have bk1 : (k : Int) < (m : Int) := by omega
     clear hx hsnk hcx hcn
     go_wp2
     go_loopw [16, 17] (fun v16 v17 wr => ∃ (j : Nat) (a : Int), v16 = .int .i64 a ∧ v17 = .int .i64 j ∧ j ≤ i ∧ -1 ≤ a ∧ a < 1000 ∧ Hid ((∃ q, q < j ∧ ol[q]? = some x) → 0 ≤ a) ∧ Hid (Below wk.heap.size wk wr)) (fun _ v17 _ => i - (intOf v17).toNat)
     case atStart => exact ⟨0, -1, rfl, rfl, by omega, by omega, by omega, hide (fun ⟨q, h, _⟩ => by omega), Below.refl _ _⟩
     case round =>
       obtain ⟨wj, hwj⟩ : ∃ Z, Z = wr := ⟨_, rfl⟩
       subst hwj
       obtain ⟨j, a, rfl, rfl, hj, ha1, ha2, HAQ, HBJ⟩ := hrel
       have HBJO := hide (below_up HBKO.out HBJ.out HBKO.out.size)
       by_cases hlj : j < i
       case neg =>
         obtain rfl : j = i := by omega
         have ha0 : 0 ≤ a := HAQ.out HCX.out
         have tb : decide (a < 0) = false := by simp; omega
         have HBKJ := hide (below_up HBK.out HBJ.out HBK.out.size)
         go_wp2
         go_roundw
         case rel => exact ⟨k + 1, by go_num, by omega, HBKJ⟩
         case measure => simp [intOf]; omega
       obtain ⟨y, hy⟩ : ∃ x, ol[j]? = some x := ⟨ol[j]'(by have := HON.out; omega), gE _⟩
       obtain ⟨gy, oy, ey, hgy, hcy⟩ := (HAR.out.below HBJO.out) j y hy
       injection ey with ey
       injection ey with e1 e2
       subst e1 e2
       have hp0 := (HBJ.out.cell (p := ⟨gp, 0, none⟩) hgpk).trans HP0.out
       have hcx := (HBJ.out.cell (p := ⟨gn, og + k, none⟩) hgn).trans HCN.out
       have bj1 : (j : Int) < (i : Int) := by omega
       have bj2 : (j : Int) < (on : Int) := by omega
       by_cases he : y = x
       · subst he
         have HA2 := hide (show (∃ q, q < j + 1 ∧ ol[q]? = some y) → (0 : Int) ≤ (j : Int) from fun _ => by omega)
         clear hy
         go_wp2_with fail
         go_region
         go_wp2
         go_roundw
         case rel => exact ⟨j + 1, (j : Int), rfl, by go_num, by omega, by omega, by omega, HA2, hide HBJ.out.drew⟩
         case measure => simp [intOf]; omega
       · have hne := toL_ne he
         have HA2 := hide (show (∃ q, q < j + 1 ∧ ol[q]? = some x) → 0 ≤ a from fun ⟨q, h1, h2⟩ => by
           by_cases e : q = j
           · subst e
             rw [hy] at h2
             injection h2 with h2
             exact absurd h2 he
           · exact HAQ.out ⟨q, by omega, h2⟩)
         clear hy he
         go_wp2_with fail
         go_region
         go_wp2
         go_roundw
         case rel => exact ⟨j + 1, a, rfl, by go_num, by omega, by omega, by omega, HA2, hide HBJ.out.drew⟩
         case measure => simp [intOf]; omega
end
end Go.Proofs.YtaajofojbhdgaaaGreatDoor
