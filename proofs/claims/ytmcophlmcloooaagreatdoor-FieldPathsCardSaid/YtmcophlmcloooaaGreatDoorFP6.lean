/- Walks and plain facts that the claim uses. -/
import Derived.Test.YtmcophlmcloooaaGreatDoorFP5
import Derived.Deep.SlicePairs
import Derived.OpenShut
import Derived.ProofKit
import Derived.SliceStrings
import Derived.Test.YtmcophlmcloooaaGreatDoorProg
import Derived.SizedLaws
import Derived.Laws.BytesArg
import Derived.Lib.SlicesS
set_option maxRecDepth 100000
set_option maxHeartbeats 16000000
set_option linter.unusedSimpArgs false
set_option linter.unusedVariables false
namespace Go.Proofs.YtmcophlmcloooaaGreatDoor
section
open Go.RowKit Go.Deep Go.Maps Ln Pth Vf
attribute [local go_sem] bt_eq
theorem rmove4_k1 (g : Nat) (S : St) (A : Option Addr) (c : Nat) (P : List NV) (p q : T) (w : World) (h : RSO g S A c P w) (hS : WfS S) (t : HangS S) (hp : p.length ≤ 50000) (hq : q.length ≤ 50000) (hck : S.clock ≤ 1000000000) (hkq : kindM S.m (absF [47] q).1 = 1) :
   Calls Tryz.prog 68 #[.pointer (some ⟨g, 0, none⟩), .string (bs p), .string (bs q)] w fun e w' => e = .returned (.int .i64 (moveS S p q).2) ∧ RK g (moveS S p q).1 w A P w' := by
 have hl := row_len hS h.eq
 have hks := keys_short hS h.eq
 have H := hide h
 have HA1 := hide (rabs_any [47] p w (by simp) (by omega))
 have HA2 := hide (fun W => rabs_any [47] q W (by simp) (by omega))
 have HC1 := absF_cases [47] p
 have HC2 := absF_cases [47] q
 have HB1 := hide (fun h1 => moveS_bad1 (S := S) (p := p) (q := q) h1)
 have HB2 := hide (fun h1 h2 => moveS_bad2 (S := S) (p := p) (q := q) h1 h2)
 have HCH := hide (fun x y h1 h2 => moveS_chain (S := S) (p := p) (q := q) (x := x) (y := y) h1 h2)
 have HCS := hide (moveS_cases hS t p q)
 have HMD := hide (fun (a b : List T) ga gb nea hk => may_doc hS t h.eq (a := a) (b := b) ga gb nea hk)
 have HWY := hide (fun (l : List T) (gl : GoodP l) (W : World) (hb : Below w.heap.size w W) => rway_any g S A c P l W (h.below hb) (by omega) gl.ok (by have := gl.len; omega))
 have HKD := hide (fun (q : T) (W : World) (hb : Below w.heap.size w W) => rkind_any g S A c P q W (h.below hb) (by omega))
 have HNM := hide (fun (q : T) (W : World) (hb : Below w.heap.size w W) => rnames4_any g S A c P q W (h.below hb) hl hks)
 have HKS := hide hks
 have HL := hide hl
 unfold AbsPost at HA1 HA2
 rw [show bs [47] = (⟨#[47]⟩ : ByteArray) from rfl] at HA1 HA2
 obtain ⟨R, hR⟩ : ∃ R, moveS S p q = R := ⟨_, rfl⟩
 rw [hR] at HB1 HB2 HCH HCS ⊢
 obtain ⟨r1, hr1⟩ : ∃ r, absF [47] p = r := ⟨_, rfl⟩
 obtain ⟨x, e1⟩ := r1
 obtain ⟨r2, hr2⟩ : ∃ r, absF [47] q = r := ⟨_, rfl⟩
 obtain ⟨y, e2⟩ := r2
 rw [hr1] at HA1 HB1 HB2 HC1 HCH
 rw [hr2] at HA2 HB2 HC2 HCH hkq
 dsimp only at HA1 HA2 HB1 HB2 HC1 HC2
 clear hR h hks hl hp hq t
 go_enter Tryz.func68, Tryz.ntmps68
 go_wp2_with fail
 refine HA1.out.mono ?_
 rintro e w1 ⟨rfl, hb1⟩
 have HW1 := hide hb1
 clear hb1 HA1
 by_cases c1 : e1 = 0
 case neg =>
   obtain ⟨t1, t2⟩ := ne0 c1
   have HE := hide (HB1.out c1)
   clear c1 HC1 HC2
   go_wp2
   go_ret
   rw [HE.out]
   exact ⟨rfl, RK.stay H.out HW1.out⟩
 subst c1
 go_wp2_with fail
 refine (HA2.out w1).mono ?_
 rintro e w2 ⟨rfl, hb2⟩
 have HW2 := hide (below_up HW1.out hb2 HW1.out.size)
 clear hb2 HA2 HW1
 by_cases c2 : e2 = 0
 case neg =>
   obtain ⟨t1, t2⟩ := ne0 c2
   have HE := hide (HB2.out trivial c2)
   clear c2 HC1 HC2
   go_wp2
   go_ret
   rw [HE.out]
   exact ⟨rfl, RK.stay H.out HW2.out⟩
 subst c2
 obtain ⟨a, ga, ea⟩ : ∃ a, GoodP a ∧ x = joinF a := by
   rcases HC1 with ⟨a, ga, e, _⟩ | ⟨_, e⟩
   · exact ⟨a, ga, congrArg Prod.fst e⟩
   · omega
 obtain ⟨b, gb, eb⟩ : ∃ b, GoodP b ∧ y = joinF b := by
   rcases HC2 with ⟨b, gb, e, _⟩ | ⟨_, e⟩
   · exact ⟨b, gb, congrArg Prod.fst e⟩
   · omega
 have HR := hide (HCH.out x y rfl rfl)
 have HWX := hide (HWY.out a ga)
 have HWYY := hide (HWY.out b gb)
 rw [← ea] at HWX
 rw [← eb] at HWYY
 have hxl : x.length ≤ 200 := by rw [ea]; exact ga.len
 have hyl : y.length ≤ 200 := by rw [eb]; exact gb.len
 have HMY := hide (fun h1 h2 => HMD.out a b ga gb h1 h2)
 rw [← ea, ← eb] at HMY
 have HXR := hide (show a ≠ [] ↔ x ≠ [47] by rw [ea]; exact not_congr (joinF_root ga.ok).symm)
 have hxr := HXR.out
 have EA := hide ea
 have EB := hide eb
 clear HC1 HC2 HWY HMD HCH HB1 HB2 ea eb
 obtain ⟨wx, hwx⟩ : ∃ k, wayM S.m x = k := ⟨_, rfl⟩
 obtain ⟨wy, hwy⟩ : ∃ k, wayM S.m y = k := ⟨_, rfl⟩
 rw [hwx] at HWX HR
 rw [hwy] at HWYY HR
 by_cases c3 : wx = 0
 case neg =>
   obtain ⟨t1, t2⟩ := ne0 c3
   have HE := hide (HR.out.trans (if_pos c3))
   clear c3 hwx hwy
   go_wp2_with fail
   refine (HWX.out w2 HW2.out).mono ?_
   rintro e w3 ⟨rfl, hb3⟩
   have HW3 := hide (below_up HW2.out hb3 HW2.out.size)
   clear hb3
   go_wp2_with fail
   refine (HWX.out w3 HW3.out).mono ?_
   rintro e w4 ⟨rfl, hb4⟩
   have HW4 := hide (below_up HW3.out hb4 HW3.out.size)
   clear hb4
   go_wp2
   go_ret
   rw [HE.out]
   exact ⟨rfl, RK.stay H.out HW4.out⟩
 subst c3
 have HR1 := hide (HR.out.trans (if_neg (by simp)))
 clear HR hwx hwy
 go_wp2_with fail
 refine (HWX.out w2 HW2.out).mono ?_
 rintro e w3 ⟨rfl, hb3⟩
 have HW3 := hide (below_up HW2.out hb3 HW2.out.size)
 clear hb3 HW2
 have HKX := hide (HKD.out x w3 HW3.out)
 have hkx := kind_le S.m x
 have hky := kind_le S.m y
 obtain ⟨kx, hkxe⟩ : ∃ k, kindM S.m x = k := ⟨_, rfl⟩
 obtain ⟨ky, hkye⟩ : ∃ k, kindM S.m y = k := ⟨_, rfl⟩
 have HKY := hide (fun W hb => HKD.out y W hb)
 rw [hkxe] at HKX HR1 hkx HMY
 have hkq' : ky = 1 := hkye.symm.trans hkq
 rw [hkye] at HKY hky HMY
 clear HKD hkxe hkye hkq
 by_cases c4 : kx = 0
 · subst c4
   have HE := hide (HR1.out.trans (if_pos rfl))
   go_wp2_with fail
   refine HKX.out.mono ?_
   rintro e w' ⟨rfl, rfl⟩
   go_wp2
   go_ret
   rw [HE.out]
   exact ⟨rfl, RK.stay H.out HW3.out⟩
 have HR2 := hide (HR1.out.trans (if_neg c4))
 obtain ⟨tk1, tk2⟩ := ne0 c4
 go_wp2_with fail
 refine HKX.out.mono ?_
 rintro e w' ⟨rfl, rfl⟩
 clear HKX HR1
 by_cases c5 : x = [47]
 · have ht : ((bs x).toList == [47]) = true := by rw [bs_toList, c5]; rfl
   have HE := hide (HR2.out.trans (if_pos c5))
   clear c5 c4
   go_wp2
   go_ret
   rw [HE.out]
   exact ⟨rfl, RK.stay H.out HW3.out⟩
 have ht : ((bs x).toList == [47]) = false := by rw [bs_toList]; simpa using c5
 have HR3 := hide (HR2.out.trans (if_neg c5))
 have HM0 := hide (HMY.out (hxr.2 c5) c4)
 clear HR2 c5 HMY hxr
 by_cases c6 : wy = 0
 case neg =>
   obtain ⟨t1, t2⟩ := ne0 c6
   have HE := hide (HR3.out.trans (if_pos c6))
   clear c6 c4
   go_wp2_with fail
   refine (HWYY.out w3 HW3.out).mono ?_
   rintro e w4 ⟨rfl, hb4⟩
   have HW4 := hide (below_up HW3.out hb4 HW3.out.size)
   clear hb4
   go_wp2_with fail
   refine (HWYY.out w4 HW4.out).mono ?_
   rintro e w5 ⟨rfl, hb5⟩
   have HW5 := hide (below_up HW4.out hb5 HW4.out.size)
   clear hb5
   go_wp2
   go_ret
   rw [HE.out]
   exact ⟨rfl, RK.stay H.out HW5.out⟩
 subst c6
 have HR4 := hide (HR3.out.trans (if_neg (by simp)))
 clear HR3
 go_wp2_with fail
 refine (HWYY.out w3 HW3.out).mono ?_
 rintro e w4 ⟨rfl, hb4⟩
 have HW4 := hide (below_up HW3.out hb4 HW3.out.size)
 clear hb4 HW3
 by_cases c7 : x = y
 · have ht2 : ((bs x).toList == (bs y).toList) = true := by rw [c7]; simp
   have HE := hide (HR4.out.trans (if_pos c7))
   clear c7 c4
   go_wp2
   go_ret
   rw [HE.out]
   exact ⟨rfl, RK.stay H.out HW4.out⟩
 have ht2 : ((bs x).toList == (bs y).toList) = false := by rw [bs_toList, bs_toList]; simpa using c7
 have HR5 := hide (HR4.out.trans (if_neg c7))
 clear HR4 c7
 obtain ⟨my, hmy⟩ : ∃ k, mayS S.m x y = k := ⟨_, rfl⟩
 rw [hmy] at HM0 HR5
 have HER := hide (fun (h : my ≠ 0) => HR5.out.trans (if_pos h))
 by_cases c8 : y = [47]
 · have ht3 : ((bs y).toList == [47]) = true := by rw [bs_toList, c8]; rfl
   have hmy1 := HM0.out.trans (if_pos c8)
   have HE := hide (HER.out (by omega))
   rw [hmy1] at HE
   clear c8 c4 hmy hmy1
   go_wp2
   go_ret
   rw [HE.out]
   exact ⟨rfl, RK.stay H.out HW4.out⟩
 have ht3 : ((bs y).toList == [47]) = false := by rw [bs_toList]; simpa using c8
 have HM1 := hide (HM0.out.trans (if_neg c8))
 have HWI := hide (rwithin_any x y w4 (by omega) (by omega))
 obtain ⟨wi, hwi⟩ : ∃ b, withinF x y = b := ⟨_, rfl⟩
 rw [hwi] at HWI HM1
 clear HM0 c8 hwi
 cases wi with
 | true =>
   have hmy1 := HM1.out.trans (if_pos rfl)
   have HE := hide (HER.out (by omega))
   rw [hmy1] at HE
   clear c4 hmy hmy1
   go_wp2_with fail
   refine HWI.out.mono ?_
   rintro e w5 ⟨rfl, hb5⟩
   have HW5 := hide (below_up HW4.out hb5 HW4.out.size)
   clear hb5
   go_wp2
   go_ret
   rw [HE.out]
   exact ⟨rfl, RK.stay H.out HW5.out⟩
 | false =>
 have HM2 := hide (HM1.out.trans (if_neg (by simp)))
 clear HM1
 go_wp2_with fail
 refine HWI.out.mono ?_
 rintro e w5 ⟨rfl, hb5⟩
 have HW5 := hide (below_up HW4.out hb5 HW4.out.size)
 clear hb5 HWI HW4
 go_wp2_with fail
 refine (HKY.out w5 HW5.out).mono ?_
 rintro e w' ⟨rfl, rfl⟩
 have c9 : ¬ (ky = 2 ∧ kx = 1) := by omega
 have HM3 := hide (HM2.out.trans (if_neg c9))
 clear HM2
 by_cases c10 : ky = 1 ∧ kx = 2
 · obtain ⟨rfl, rfl⟩ := c10
   have hmy1 := HM3.out.trans (if_pos ⟨rfl, rfl⟩)
   have HE := hide (HER.out (by omega))
   rw [hmy1] at HE
   clear c4 hmy hmy1 c9
   go_wp2
   go_ret
   rw [HE.out]
   exact ⟨rfl, RK.stay H.out HW5.out⟩
 have HM4 := hide (HM3.out.trans (if_neg c10))
 clear HM3
 subst hkq'
 obtain rfl : kx = 1 := by omega
 have HPX := hide (fun (z : NV) (hz : z ∈ P) (t : T) (hzt : z.1 = bs t) (h : withinF x t = true) => show x.length ≤ t.length from by
   obtain ⟨l, gl, _, e⟩ := hS.good (z.1, z.2.nd) (by rw [H.out.eq]; exact List.mem_map.2 ⟨z, hz, rfl⟩)
   have e2 : t = joinF l := bs_inj (hzt.symm.trans e)
   rw [EA.out, e2] at h ⊢
   obtain ⟨r, rfl⟩ := (within_join ga.ok gl.ok).1 h
   by_cases h0 : a = []
   · subst h0
     have := List.length_pos_iff.2 (joinF_ne ([] ++ r))
     rw [joinF_nil]
     exact this
   · rw [slashed_join h0, slashed_join (by simp [h0]), slashed_app, List.length_append]
     omega)
 clear c9 c10 c4 hmy
 have HM5 := hide (HM4.out.trans (if_neg (by omega)))
 clear HM4
 have HW6 := hide HW5.out
 obtain ⟨w6, hw6⟩ : ∃ W, W = w5 := ⟨_, rfl⟩
 rw [← hw6] at HW6 ⊢
 clear hw6
 obtain ⟨n, hn⟩ : ∃ n, P.length = n := ⟨_, rfl⟩
 have HN := hide hn
 have hln : n ≤ 10000 := by have := HL.out; omega
 have hgl : g < w.heap.size := (Array.getElem?_eq_some_iff.1 H.out.heap).1
 clear hn HWX HWYY HKY HW5
 go_wp2
 go_loopw [13, 14, 15] (fun v13 v14 _ wr => ∃ (k m : Nat) (A' : Option Addr) (c' : Nat), v14 = .int .i64 k ∧ k ≤ n ∧ v13 = .slice A' m c' ∧ m ≤ k ∧ Hid (OwnG encE 4 172 wr w.heap.size (.slice A' m c') (rmvN x y (P.take k))) ∧ Hid (∀ z ∈ P.take k, inF x z = true → ¬ badT x y z.1.data.toList) ∧ Hid (Below w.heap.size w wr)) (fun _ v14 _ _ => n - (intOf v14).toNat)
 case atStart => exact ⟨0, 0, none, 0, rfl, by omega, rfl, by omega, OwnG.nil _ _, (fun z hz => by simp at hz), HW6.out⟩
 case round =>
   obtain ⟨k, m, A', c', rfl, hk, rfl, hmk, HO, HBD, HB⟩ := hrel
   have ho := H.out.below HB.out
   have hg := ho.heap
   rw [HN.out] at hg
   have hc2 := cellOf hg (j := 2) (v := .slice A n c) rfl
   by_cases hlt : k < n
   · obtain ⟨z, hz⟩ : ∃ x, P[k]? = some x := ⟨P[k]'(by have := HN.out; omega), gE _⟩
     obtain ⟨gs, o, rfl, hgs, hc⟩ := ho.rg k z hz
     obtain ⟨t, hzt, htl⟩ := HKS.out z (List.mem_of_getElem? hz)
     have hc0 : wr.cell? ⟨gs, o + k * 4, none⟩ = some (.string z.1) := by have := hc 0 _ rfl; simpa using this
     rw [hzt] at hc0
     have hc1 : wr.cell? ⟨gs, o + k * 4 + 1, none⟩ = some (.bool z.2.nd.dir) := hc 1 _ rfl
     have hc22 : wr.cell? ⟨gs, o + k * 4 + 2, none⟩ = some (.slice z.2.A z.2.nd.data.length z.2.c) := hc 2 _ rfl
     have hc3 : wr.cell? ⟨gs, o + k * 4 + 3, none⟩ = some (.int .i64 z.2.nd.time) := hc 3 _ rfl
     have hrt := rmv_take (x := x) (y := y) hz
     have hix : inF x z = withinF x t := by unfold inF; rw [hzt, bs_list]
     rw [hix] at hrt
     have HMV := hide (show mvN x y z = (bs (tgt x y t), z.2) by unfold mvN; rw [hzt, bs_list])
     have HIX := hide hix
     have HZT := hide hzt
     have HZ := hide hz
     have b1 : (k : Int) < (n : Int) := by omega
     have hrl : (rmvN x y (P.take k)).length ≤ 100000 := by
       unfold rmvN
       rw [List.length_map]
       refine Nat.le_trans (List.length_filter_le _ _) ?_
       rw [List.length_take]
       omega
     have HRL := hide hrl
     obtain ⟨D, hD⟩ : ∃ m, z.2.nd.data.length = m := ⟨_, rfl⟩
     rw [hD] at hc22
     have HD := hide hD
     clear ho hg hc hz hgs hix hzt hrl hD
     go_wp2_with fail
     obtain ⟨wa, hwa⟩ : ∃ W, wr.alloc (.cells #[.string (bs t), .bool z.2.nd.dir, .slice z.2.A D z.2.c, .int .i64 z.2.nd.time] 172) = W := ⟨_, rfl⟩
     have hnw := heapNew wr (.cells #[.string (bs t), .bool z.2.nd.dir, .slice z.2.A D z.2.c, .int .i64 z.2.nd.time] 172)
     have hba : Below w.heap.size wr (wr.alloc (.cells #[.string (bs t), .bool z.2.nd.dir, .slice z.2.A D z.2.c, .int .i64 z.2.nd.time] 172)) := (Below.refl _ wr).alloc HB.out.size _
     have hba2 : Below wr.heap.size wr (wr.alloc (.cells #[.string (bs t), .bool z.2.nd.dir, .slice z.2.A D z.2.c, .int .i64 z.2.nd.time] 172)) := (Below.refl _ wr).alloc (Nat.le_refl _) _
     have hoa := OwnG.keptB HO.out hba2
     rw [hwa] at hnw hba hba2 hoa ⊢
     obtain ⟨nb, hnb⟩ : ∃ b, wr.heap.size = b := ⟨_, rfl⟩
     have HNBE := hide hnb
     have hnbw : w.heap.size ≤ nb := by have := HB.out.size; omega
     rw [hnb] at hnw hba2 ⊢
     have HNW := hide hnw
     have HBA := hide (HB.out.trans hba)
     have HOA := hide hoa
     have hx0 := cellOf hnw (j := 0) (v := .string (bs t)) rfl
     have hnl : nb < wa.heap.size := (Array.getElem?_eq_some_iff.1 hnw).1
     have HWI := hide (rwithin_any x t wa (by omega) (by omega))
     clear hwa hnw hba hba2 hoa hnb hc0 hc1 hc22 hc3
     cases hw : withinF x t with
     | false =>
       rw [hw] at HWI hrt HIX
       have HRT := hide hrt
       clear hrt hw
       go_wp2_with fail
       refine HWI.out.mono ?_
       rintro e w7 ⟨rfl, hb7⟩
       have HB7 := hide (below_up HBA.out hb7 HBA.out.size)
       have HO7 := hide (OwnG.keptB HOA.out hb7)
       clear hb7
       go_wp2
       go_roundw
       case rel =>
         refine ⟨k + 1, m, A', c', by go_num, by omega, rfl, by omega, ?_, ?_, HB7.out⟩
         · show OwnG _ _ _ _ _ _ _
           rw [HRT.out]
           simp only [Bool.false_eq_true, if_false, List.append_nil]
           exact HO7.out
         · show ∀ z ∈ P.take (k + 1), _
           intro u hu hin
           rw [List.take_add_one, HZ.out] at hu
           rcases List.mem_append.1 hu with hu | hu
           · exact HBD.out u hu hin
           · simp at hu
             rw [hu, HIX.out] at hin
             cases hin
       case measure => simp [intOf]; omega
     | true =>
       rw [hw] at HWI hrt HIX
       have HRT := hide hrt
       have hxt : x.length ≤ t.length := by
         exact HPX.out z (List.mem_of_getElem? HZ.out) t HZT.out hw
       have zt : (bs t).size = t.length := bs_size t
       have zx : (bs x).size = x.length := bs_size x
       have zy : (bs y).size = y.length := bs_size y
       have HEX := hide (show (bs t).extract x.length (bs t).size = bs (t.drop x.length) by rw [ext_bs, bs_size, List.take_of_length_le (by rw [List.length_drop]; omega)])
       have HAP := hide (show bs y ++ bs (t.drop x.length) = bs (tgt x y t) from bs_app y (t.drop x.length))
       have zd : (bs (t.drop x.length)).size = t.length - x.length := by rw [bs_size, List.length_drop]
       have htgl : (tgt x y t).length = y.length + (t.length - x.length) := by unfold tgt; rw [List.length_append, List.length_drop]
       have ztg : (bs (tgt x y t)).size = y.length + (t.length - x.length) := by rw [bs_size, htgl]
       obtain ⟨xl, hxl'⟩ : ∃ n, x.length = n := ⟨_, rfl⟩
       obtain ⟨tl, htl'⟩ : ∃ n, t.length = n := ⟨_, rfl⟩
       obtain ⟨yl, hyl'⟩ : ∃ n, y.length = n := ⟨_, rfl⟩
       have HTG := hide htgl
       rw [hxl'] at zd hxt zx HEX ztg hxl HTG HAP
       rw [htl'] at zd hxt htl zt ztg HTG
       rw [hyl'] at zy hyl ztg HTG
       rw [zt] at HEX
       have HX2 := hide hxl'
       rw [← HEX.out] at zd HAP
       clear hrt hw htgl hxl' htl' hyl'
       go_wp2_with fail
       refine HWI.out.mono ?_
       rintro e w7 ⟨rfl, hb7⟩
       have hnw7 := (hb7.block nb hnl).trans HNW.out
       have HB7 := hide (below_up HBA.out hb7 HBA.out.size)
       have HO7 := hide (OwnG.keptB HOA.out hb7)
       have hx7 := cellOf hnw7 (j := 0) (v := .string (bs t)) rfl
       have hf7 := freeOf hnw7 0
       have hnl7 : nb < w7.heap.size := (Array.getElem?_eq_some_iff.1 hnw7).1
       have HNW8 := hide (heapSet (j := 0) hnw7 (.string (bs (tgt x y t))))
       obtain ⟨w8, hw8⟩ : ∃ W, w7.setCell ⟨nb, 0, none⟩ (.string (bs (tgt x y t))) = W := ⟨_, rfl⟩
       have hb8 : Below w.heap.size w w8 := hw8 ▸ HB7.out.setCell (p := ⟨nb, 0, none⟩) hnbw _
       rw [hw8] at HNW8
       have HB8 := hide hb8
       have HK8 := hide (show Kp w7 w8 (fun k => k = nb) from hw8 ▸ Kp.set w7 nb 0 _)
       have hy0 := cellOf HNW8.out (j := 0) (v := .string (bs (tgt x y t))) rfl
       clear hb7 hnw7 hb8
       have hap := HAP.out
       by_cases b200 : 200 < yl + (tl - xl)
       · have bi : (200 : Int) < ((yl + (tl - xl) : Nat) : Int) := by omega
         have hmy1 := HM5.out.trans (if_pos ⟨z, List.mem_of_getElem? HZ.out, HIX.out, by
           rw [HZT.out, bs_list]
           unfold badT
           rw [HTG.out]
           exact .inl b200⟩)
         have HE := hide (HER.out (by omega))
         rw [hmy1] at HE
         clear hmy1
         go_wp2
         go_ret
         rw [HE.out]
         exact ⟨rfl, RK.stay H.out HB8.out⟩
       have bi : ¬ (200 : Int) < ((yl + (tl - xl) : Nat) : Int) := by omega
       have HPA := hide (rparts_any [47] (tgt x y t) w8 (by simp) (by rw [HTG.out]; omega))
       rw [show bs [47] = (⟨#[47]⟩ : ByteArray) from rfl] at HPA
       obtain ⟨pl, hpl⟩ : ∃ n, (partsF [47] (tgt x y t)).length = n := ⟨_, rfl⟩
       have HPL := hide hpl
       have hpl3 : pl ≤ 100000 := by
         have := partsF_len [47] (tgt x y t)
         rw [hpl, HTG.out] at this
         simp at this
         omega
       clear hpl
       by_cases b20 : 20 < pl
       · have hmy1 := HM5.out.trans (if_pos ⟨z, List.mem_of_getElem? HZ.out, HIX.out, by
           rw [HZT.out, bs_list]
           unfold badT
           rw [HPL.out]
           exact .inr b20⟩)
         have HE := hide (HER.out (by omega))
         rw [hmy1] at HE
         have bpi : (20 : Int) < (pl : Int) := by omega
         clear hmy1
         go_wp2_with fail
         refine HPA.out.mono ?_
         rintro e w9 ⟨⟨v, rfl, ho9⟩, hb9⟩
         obtain ⟨A9, c9, rfl, hc9, _, _⟩ := OwnS.slice ho9
         have HB9 := hide (below_up HB8.out hb9 HB8.out.size)
         clear ho9 hb9
         rw [List.length_map, HPL.out]
         go_wp2
         go_ret
         rw [HE.out]
         exact ⟨rfl, RK.stay H.out HB9.out⟩
       have bpi : ¬ (20 : Int) < (pl : Int) := by omega
       have HNB := hide (show ¬ badT x y z.1.data.toList by
         rw [HZT.out, bs_list]
         unfold badT
         rw [HPL.out, HTG.out]
         omega)
       have HO8 := hide (show OwnG encE 4 172 w8 w.heap.size (.slice A' m c') (rmvN x y (P.take k)) from by
         refine ⟨HO7.out.1, ?_⟩
         rcases HO7.out.2 with h2 | ⟨g2, cap, cur, e2, hg2, hh2, r2⟩
         · exact .inl h2
         · refine .inr ⟨g2, cap, cur, e2, hg2, (HK8.out.block g2 (Array.getElem?_eq_some_iff.1 hh2).1 ?_).trans hh2, r2⟩
           have h3 := (HO.out.lt g2 (by rw [e2]; rfl)).2
           have := HNBE.out
           omega)
       go_wp2_with fail
       refine HPA.out.mono ?_
       rintro e w9 ⟨⟨v, rfl, ho9⟩, hb9⟩
       obtain ⟨A9, c9, rfl, hc9, _, _⟩ := OwnS.slice ho9
       rw [List.length_map, HPL.out]
       have hnw9 := (hb9.block nb (Array.getElem?_eq_some_iff.1 HNW8.out).1).trans HNW8.out
       have hr0 := cellOf hnw9 (j := 0) (v := .string (bs (tgt x y t))) rfl
       have hr1 := cellOf hnw9 (j := 1) (v := .bool z.2.nd.dir) rfl
       have hr2 := cellOf hnw9 (j := 2) (v := .slice z.2.A D z.2.c) rfl
       have hr3 := cellOf hnw9 (j := 3) (v := .int .i64 z.2.nd.time) rfl
       have hb9w := below_up HB8.out hb9 HB8.out.size
       have ho9' := OwnG.keptB HO8.out hb9
       obtain ⟨v', w', r', o', hb10⟩ := push_node ho9' hb9w.size HRL.out (mvN x y z) #[.string (bs (tgt x y t)), .bool z.2.nd.dir, .slice z.2.A D z.2.c, .int .i64 z.2.nd.time] (by rw [HMV.out]; unfold encE; rw [← HD.out])
       obtain ⟨A2, c2, rfl, hcl, _, _, _⟩ := o'.slice encE_len
       have HO2 := hide o'
       have HB2 := hide (hb9w.trans hb10)
       have HRUN := hide r'
       have hll : (rmvN x y (P.take k) ++ [mvN x y z]).length ≤ k + 1 := by
         rw [List.length_append, List.length_singleton]
         have h1 : (rmvN x y (P.take k)).length ≤ (P.take k).length := by
           unfold rmvN
           rw [List.length_map]
           exact List.length_filter_le _ _
         rw [List.length_take] at h1
         omega
       obtain ⟨M, hM⟩ : ∃ m, (rmvN x y (P.take k) ++ [mvN x y z]).length = m := ⟨_, rfl⟩
       rw [hM] at HO2 HRUN hll
       clear ho9 hb9 hnw9 hb9w ho9' r' o' hb10 hcl hM hx0 hx7 hy0
       go_wp2_with (first | (at_builtin; refine wpList_app_run ?_ (.tmp 135) (.tmp 137) ?_ ?_ ?_ ?_ HRUN.out ?_; exact rfl; exact rfl; exact rfl; exact rfl; exact rfl))
       go_roundw
       case rel =>
         refine ⟨k + 1, M, A2, c2, by go_num, by omega, rfl, by omega, ?_, ?_, HB2.out⟩
         · show OwnG _ _ _ _ _ _ _
           rw [HRT.out]
           exact HO2.out
         · show ∀ z ∈ P.take (k + 1), _
           intro u hu hin
           rw [List.take_add_one, HZ.out] at hu
           rcases List.mem_append.1 hu with hu | hu
           · exact HBD.out u hu hin
           · simp at hu
             rw [hu]
             exact HNB.out
       case measure => simp [intOf]; omega
   · obtain ⟨wq, hwq⟩ : ∃ X, X = wr := ⟨_, rfl⟩
     subst hwq
     obtain rfl : n = k := by omega
     have htk : P.take n = P := List.take_of_length_le (by have := HN.out; omega)
     rw [htk] at HO HBD
     have hmy0 : my = 0 := HM5.out.trans (if_neg (by
       rintro ⟨z, hz, h1, h2⟩
       exact HBD.out z hz h1 h2))
     have hRE := HR5.out.trans (if_neg (by rw [hmy0]; simp))
     have hMv : (moveQ S x y).m = rmoveM S.m x y (S.clock + 1) ∧ ∃ nd, getG S.m (bs x) = some nd := by
       rcases HCS.out with h1 | ⟨a', b', hmv, _, h2, h3⟩
       · exfalso
         rw [hRE] at h1
         have := congrArg St.clock h1
         change S.clock + 1 = S.clock at this
         omega
       · have e1 := absS_fst hr1 h2 (joinF_ne _)
         have e2 := absS_fst hr2 h3 (joinF_ne _)
         rw [← e1, ← e2]
         exact ⟨hmv.rsame, hmv.node⟩
     obtain ⟨hMQ, nd, hnd⟩ := hMv
     have hM0 : rmvN x y P ≠ [] := by
       rw [H.out.eq] at hnd
       have := getG_mem hnd
       unfold stripN at this
       obtain ⟨u, hu, e⟩ := List.mem_map.1 this
       have hu1 : u.1 = bs x := congrArg Prod.fst e
       have hin : inF x u = true := by
         unfold inF
         rw [hu1, bs_list, EA.out]
         exact (within_join ga.ok ga.ok).2 List.prefix_rfl
       intro h0
       have : mvN x y u ∈ rmvN x y P := List.mem_map.2 ⟨u, List.mem_filter.2 ⟨hu, hin⟩, rfl⟩
       rw [h0] at this
       cases this
     obtain ⟨gm, rfl, hml, hmc, hgmw, hmr⟩ := MRow.of HO.out hM0
     have hpl := parts_len (x := x) (y := y) (P := P)
     have hPl := HL.out
     have HD1 := hide (rdrop_any g S A c P x wq (H.out.below HB.out) HL.out HKS.out (by omega))
     have HMR := hide hmr
     have hgmg : gm ≠ g := by have := hmr.ge; omega
     have HRE := hide hRE
     have HMQ := hide hMQ
     have HSRC := hide (fun z (h : z ∈ rmvN x y P) => rmv_src h)
     obtain ⟨M, hM⟩ : ∃ M, rmvN x y P = M := ⟨_, rfl⟩
     have HMD := hide hM
     rw [hM] at hml hmc hpl HMR HSRC
     clear htk hmy0 hRE hMQ hnd hM0 hmr hM ho hg HO HBD
     subst hml
     have hmI : (M.length : Int) ≤ 10000 := by omega
     go_wp2_with fail
     refine HD1.out.mono ?_
     rintro e w8 ⟨rfl, A1, c1, ho1, hk1, hA1⟩
     have HD2 := hide (rdrop_any g _ A1 c1 _ y w8 ho1 (Nat.le_trans (List.length_filter_le _ _) HL.out) (fun z hz => HKS.out z (List.mem_filter.1 hz).1) (by omega))
     have HK1 := hide hk1
     clear ho1 hk1 HD1
     go_wp2_with fail
     refine HD2.out.mono ?_
     rintro e w9 ⟨rfl, A2, c2, ho2, hk2, hA2⟩
     have hg9 := ho2.heap
     have hc3 := cellOf hg9 (j := 3) (v := .int .i64 S.clock) rfl
     have hf3 := freeOf hg9 3
     have ht := ho2.tick (S.clock + 1)
     rw [show ((S.clock + 1 : Nat) : Int) = (S.clock : Int) + 1 from rfl] at ht
     have hkt := Kp.set w9 g 3 (.int .i64 ((S.clock : Int) + 1))
     obtain ⟨W0, hW0⟩ : ∃ W, w9.setCell ⟨g, 3, none⟩ (.int .i64 ((S.clock : Int) + 1)) = W := ⟨_, rfl⟩
     rw [hW0] at ht hkt
     have hkw : Kp wq W0 (fun k => k = g) := (HK1.out.then hk2).then hkt
     have HM0 := hide (HMR.out.kp hkw hgmg)
     have HWS := hide hkw.size
     have HKW := hide (show Kp w W0 (fun k => k = g) from (Kp.of_below HB.out _).then hkw)
     obtain ⟨P2, hP2⟩ : ∃ Q, (P.filter (outF x)).filter (outF y) = Q := ⟨_, rfl⟩
     have HP2 := hide hP2
     change RSO g _ A2 c2 ((P.filter (outF x)).filter (outF y)) W0 at ht
     rw [hP2] at ht hpl
     have HQ0 := hide (show RSO g (SQ S P2) A2 c2 P2 W0 from ⟨ht.heap, ht.cap, ht.rg, ht.dat, rfl, ht.top, ht.neA, ht.neD, ht.lt⟩)
     have HA0 := hide (show ∀ a, A2 = some a → wq.heap.size ≤ a.block from fun a e => by have := hA2 a e; have := HK1.out.size; omega)
     have HSQ := hide (show ∀ z ∈ P2, ∃ u ∈ P, u.2.A = z.2.A ∧ u.2.nd.data = z.2.nd.data ∧ u.2.c = z.2.c from fun z hz => by
       rw [← hP2] at hz
       exact ⟨z, (List.mem_filter.1 (List.mem_filter.1 hz).1).1, rfl, rfl, rfl⟩)
     clear ho2 hk2 hg9 ht hkt hkw hP2 hA2 hA1 HD2 HMR
     go_wp2
     go_loopw [16] (fun v16 wr => ∃ i : Nat, v16 = .int .i64 i ∧ i ≤ M.length ∧ Hid (∃ Ai ci, RSO g (SQ S (rfoldN y (S.clock + 1) (M.take i) P2)) Ai ci (rfoldN y (S.clock + 1) (M.take i) P2) wr ∧ ∀ a, Ai = some a → wq.heap.size ≤ a.block) ∧ Hid (∃ L', MRow wr w.heap.size gm L' ∧ L'.length = M.length ∧ L'.drop i = M.drop i) ∧ Hid (Kp w wr (fun k => k = g)) ∧ Hid (wq.heap.size ≤ wr.heap.size)) (fun v16 _ => M.length - (intOf v16).toNat)
     case atStart => exact ⟨0, rfl, Nat.zero_le _, ⟨A2, c2, HQ0.out, HA0.out⟩, ⟨M, HM0.out, rfl, rfl⟩, HKW.out, HWS.out⟩
     case round =>
       obtain ⟨W, hWr⟩ : ∃ X, X = wr := ⟨_, rfl⟩
       subst hWr
       obtain ⟨i, rfl, hi, HQI, HMI, HKI, HAI⟩ := hrel
       obtain ⟨Ai, ci, hoi, hAi⟩ := HQI.out
       by_cases hlt2 : i < M.length
       · obtain ⟨z, hz⟩ : ∃ z, M[i]? = some z := ⟨M[i], gE _⟩
         obtain ⟨L', hmr, hLl, hLd⟩ := HMI.out
         have hLz : L'[i]? = some z := by
           have h1 : (L'.drop i)[0]? = (M.drop i)[0]? := by rw [hLd]
           rw [List.getElem?_drop, List.getElem?_drop, Nat.add_zero, hz] at h1
           exact h1
         obtain ⟨ge, oe, ee, hgel, hcz⟩ := hmr.rg i z hLz
         injection ee with ee
         injection ee with ee1 ee2
         subst ee1 ee2
         rw [Nat.zero_add] at hcz
         have hz0 : W.cell? ⟨gm, i * 4, none⟩ = some (.string z.1) := by have := hcz 0 _ rfl; simpa using this
         have hz1 : W.cell? ⟨gm, i * 4 + 1, none⟩ = some (.bool z.2.nd.dir) := hcz 1 _ rfl
         have hz2 : W.cell? ⟨gm, i * 4 + 2, none⟩ = some (.slice z.2.A z.2.nd.data.length z.2.c) := hcz 2 _ rfl
         have hz3 : W.cell? ⟨gm, i * 4 + 3, none⟩ = some (.int .i64 z.2.nd.time) := hcz 3 _ rfl
         obtain ⟨cur, hcur⟩ := hmr.blk
         have hzf := freeOf hcur (i * 4 + 3)
         have hgi := hoi.heap
         have hgc3 := cellOf hgi (j := 3) (v := .int .i64 ((S.clock : Int) + 1)) rfl
         have hit := rfold_take (y := y) (t := S.clock + 1) (Q := P2) hz
         have hil := rfold_len y (S.clock + 1) (M.take i) P2
         rw [List.length_take] at hil
         have hi10 : (rfoldN y (S.clock + 1) (M.take i) P2).length ≤ 10000 := by omega
         have hsrcQ := rfold_src (y := y) (t := S.clock + 1) (M.take i) P2 (P := P) HSQ.out (fun z hz => HSRC.out z (List.mem_of_mem_take hz))
         obtain ⟨u, hu, hue⟩ := HSRC.out z (List.mem_of_getElem? hz)
         have bi2 : (i : Int) < (M.length : Int) := by omega
         have hgeo := hmr.ge
         obtain ⟨Qi, hQi⟩ : ∃ Q, rfoldN y (S.clock + 1) (M.take i) P2 = Q := ⟨_, rfl⟩
         rw [hQi] at hoi hit hi10 hsrcQ
         have hicc : (M.length : Int) ≤ (c' : Int) := by omega
         have hzdat : RG encB 1 W z.2.A z.2.nd.data := by
           rw [← hue]
           exact (H.out.dat u hu).kp HKI.out (H.out.neD u hu)
         have hzne : ∀ a, z.2.A = some a → z.2.nd.data ≠ [] → a.block ≠ g := by rw [← hue]; exact H.out.neD u hu
         have hzlt : z.2.nd.data.length ≤ z.2.c := by rw [← hue]; exact H.out.lt u hu
         have hzlo : ∀ a, z.2.A = some a → z.2.nd.data ≠ [] → a.block < w.heap.size := by
           rw [← hue]
           exact fun a e hn => (H.out.dat u hu).block_lt e hn
         by_cases he : z.1 = bs y
         · have e1 : (z.1.toList == (bs y).toList) = true := by rw [he]; simp
           have hk3 : Kp W (W.setCell ⟨gm, i * 4 + 3, none⟩ (.int .i64 ((S.clock : Int) + 1))) (fun k => k = gm) := Kp.set W gm _ _
           have hob := hoi.keep hk3 (fun e => hgmg e.symm) (fun a e _ => by have := hAi a e; omega) (fun v hv a e hn => by
             obtain ⟨u', hu', q1, q2, _⟩ := hsrcQ v hv
             have := (H.out.dat u' hu').block_lt (q1.trans e) (by rw [q2]; exact hn)
             omega)
           have hmrb := hmr.setT hLz (S.clock + 1)
           rw [show ((S.clock + 1 : Nat) : Int) = (S.clock : Int) + 1 from rfl] at hmrb
           have hzv : rvalN y (S.clock + 1) z = (z.1, ⟨z.2.A, z.2.c, ⟨z.2.nd.dir, z.2.nd.data, S.clock + 1⟩⟩) := by
             unfold rvalN rvalM
             rw [if_pos he]
           rw [hzv] at hit
           have hput := put_rk g (SQ S Qi) Ai ci Qi (z.1, ⟨z.2.A, z.2.c, ⟨z.2.nd.dir, z.2.nd.data, S.clock + 1⟩⟩) _ hob hi10 (SQ S (putG (z.1, ⟨z.2.A, z.2.c, ⟨z.2.nd.dir, z.2.nd.data, S.clock + 1⟩⟩) Qi)) (strip_put _ _) rfl rfl rfl (hzdat.ofB hk3.size (fun a e hn => hk3.block a.block (hzdat.block_lt e hn) (by have := hzlo a e hn; omega))) hzne hzlt
           have HPT := hide (show Calls Tryz.prog 115 #[.pointer (some ⟨g, 0, none⟩), .agg #[.string z.1, .bool z.2.nd.dir, .slice z.2.A z.2.nd.data.length z.2.c, .int .i64 ((S.clock : Int) + 1)]] _ _ from hput)
           have hs3 := World.cell?_setCell_same' W ⟨gm, i * 4 + 3, none⟩ (.int .i64 ((S.clock : Int) + 1)) (by rw [hz3]; rfl)
           have hs0 : (W.setCell ⟨gm, i * 4 + 3, none⟩ (.int .i64 ((S.clock : Int) + 1))).cell? ⟨gm, i * 4, none⟩ = some (.string z.1) := (World.cell?_setCell_other W _ _ _ (by intro e; injection e; omega)).trans hz0
           have hs1 : (W.setCell ⟨gm, i * 4 + 3, none⟩ (.int .i64 ((S.clock : Int) + 1))).cell? ⟨gm, i * 4 + 1, none⟩ = some (.bool z.2.nd.dir) := (World.cell?_setCell_other W _ _ _ (by intro e; injection e; omega)).trans hz1
           have hs2 : (W.setCell ⟨gm, i * 4 + 3, none⟩ (.int .i64 ((S.clock : Int) + 1))).cell? ⟨gm, i * 4 + 2, none⟩ = some (.slice z.2.A z.2.nd.data.length z.2.c) := (World.cell?_setCell_other W _ _ _ (by intro e; injection e; omega)).trans hz2
           obtain ⟨WB, hWB⟩ : ∃ X, W.setCell ⟨gm, i * 4 + 3, none⟩ (.int .i64 ((S.clock : Int) + 1)) = X := ⟨_, rfl⟩
           rw [hWB] at hk3 hmrb HPT hs0 hs1 hs2 hs3
           have HMRB := hide hmrb
           have HIT := hide (hit.trans rfl)
           have HLD := hide (show (L'.set i (z.1, ⟨z.2.A, z.2.c, ⟨z.2.nd.dir, z.2.nd.data, S.clock + 1⟩⟩)).length = M.length ∧ (L'.set i (z.1, ⟨z.2.A, z.2.c, ⟨z.2.nd.dir, z.2.nd.data, S.clock + 1⟩⟩)).drop (i + 1) = M.drop (i + 1) from ⟨by rw [List.length_set, hLl], by
             rw [List.drop_set_of_lt (by omega), ← List.drop_drop, ← List.drop_drop, hLd]⟩)
           have HKB := hide (show Kp w WB (fun k => k = g) from HKI.out.trans (hk3.mono fun k e => .inr (by omega)))
           have hwbs : wq.heap.size ≤ WB.heap.size := by
             have h1 := hk3.size
             have h2 := HAI.out
             omega
           clear hoi hAi hz hmr hLl hLd hLz hcz hcur hgi hit hil hsrcQ hu hue hgeo hzdat hzne hzlt hzlo he hk3 hob hmrb hput hz1 hz2 hzv hQi
           go_wp2_with fail
           refine HPT.out.mono ?_
           rintro e W2 ⟨rfl, A3, c3, ho3, hk3, hA3⟩
           have HO3 := hide ho3
           have HK3 := hide hk3
           have HA3 := hide hA3
           clear ho3 hk3 hA3
           go_wp2
           go_roundw
           case rel =>
             refine ⟨i + 1, by go_num, by omega, ⟨A3, c3, ?_, fun a e => ?_⟩, ⟨_, HMRB.out.kp HK3.out hgmg, HLD.out.1, HLD.out.2⟩, HKB.out.then HK3.out, Nat.le_trans hwbs HK3.out.size⟩
             · rw [HIT.out]
               exact HO3.out
             · have := HA3.out a e
               omega
           case measure => simp [intOf]; omega
         · have e1 : (z.1.toList == (bs y).toList) = false := txt_ne he
           have hzv : rvalN y (S.clock + 1) z = z := by
             unfold rvalN rvalM
             rw [if_neg he]
           rw [hzv] at hit
           have hput := put_rk g (SQ S Qi) Ai ci Qi z _ hoi hi10 (SQ S (putG z Qi)) (strip_put _ _) rfl rfl rfl hzdat hzne hzlt
           have HPT := hide (show Calls Tryz.prog 115 #[.pointer (some ⟨g, 0, none⟩), .agg #[.string z.1, .bool z.2.nd.dir, .slice z.2.A z.2.nd.data.length z.2.c, .int .i64 z.2.nd.time]] _ _ from hput)
           have HMRB := hide hmr
           have HIT := hide (hit.trans rfl)
           have HLD := hide (show L'.length = M.length ∧ L'.drop (i + 1) = M.drop (i + 1) from ⟨hLl, by rw [← List.drop_drop, ← List.drop_drop, hLd]⟩)
           have hwbs : wq.heap.size ≤ W.heap.size := HAI.out
           clear hoi hAi hz hmr hLl hLd hLz hcz hcur hgi hit hil hsrcQ hu hue hgeo hzdat hzne hzlt hzlo he hput hzv hQi
           go_wp2_with fail
           refine HPT.out.mono ?_
           rintro e W2 ⟨rfl, A3, c3, ho3, hk3, hA3⟩
           have HO3 := hide ho3
           have HK3 := hide hk3
           have HA3 := hide hA3
           clear ho3 hk3 hA3
           go_wp2
           go_roundw
           case rel =>
             refine ⟨i + 1, by go_num, by omega, ⟨A3, c3, ?_, fun a e => ?_⟩, ⟨_, HMRB.out.kp HK3.out hgmg, HLD.out.1, HLD.out.2⟩, HKI.out.then HK3.out, Nat.le_trans hwbs HK3.out.size⟩
             · rw [HIT.out]
               exact HO3.out
             · have := HA3.out a e
               omega
           case measure => simp [intOf]; omega
       · obtain rfl : i = M.length := by omega
         rw [List.take_of_length_le (Nat.le_refl _)] at hoi
         have hsrcQ := rfold_src (y := y) (t := S.clock + 1) M P2 (P := P) HSQ.out HSRC.out
         have HFIN := hide (show RK g (moveQ S x y) w A P W from by
           refine ⟨Ai, ci, _, ⟨hoi.heap, hoi.cap, hoi.rg, hoi.dat, ?_, hoi.top, hoi.neA, hoi.neD, hoi.lt⟩, HKI.out, fun a e _ => .inl (by have := hAi a e; have := HB.out.size; omega), fun v hv a e hn => ?_⟩
           · rw [HMQ.out, H.out.eq, ← rmove_strip, ← HP2.out, ← HMD.out]
           · obtain ⟨u, hu, q1, q2, _⟩ := hsrcQ v hv
             exact .inr ⟨u, hu, q1.trans e, by rw [q2]; exact hn⟩)
         clear hoi hAi hsrcQ
         go_wp2
         go_ret
         rw [HRE.out]
         exact ⟨rfl, HFIN.out⟩
end
section
open Go.RowKit Go.Deep Go.Maps Ln Pth Vf
attribute [local go_sem] bt_eq
theorem rmove4_k2 (g : Nat) (S : St) (A : Option Addr) (c : Nat) (P : List NV) (p q : T) (w : World) (h : RSO g S A c P w) (hS : WfS S) (t : HangS S) (hp : p.length ≤ 50000) (hq : q.length ≤ 50000) (hck : S.clock ≤ 1000000000) (hkq : kindM S.m (absF [47] q).1 = 2) :
   Calls Tryz.prog 68 #[.pointer (some ⟨g, 0, none⟩), .string (bs p), .string (bs q)] w fun e w' => e = .returned (.int .i64 (moveS S p q).2) ∧ RK g (moveS S p q).1 w A P w' := by
 have hl := row_len hS h.eq
 have hks := keys_short hS h.eq
 have H := hide h
 have HA1 := hide (rabs_any [47] p w (by simp) (by omega))
 have HA2 := hide (fun W => rabs_any [47] q W (by simp) (by omega))
 have HC1 := absF_cases [47] p
 have HC2 := absF_cases [47] q
 have HB1 := hide (fun h1 => moveS_bad1 (S := S) (p := p) (q := q) h1)
 have HB2 := hide (fun h1 h2 => moveS_bad2 (S := S) (p := p) (q := q) h1 h2)
 have HCH := hide (fun x y h1 h2 => moveS_chain (S := S) (p := p) (q := q) (x := x) (y := y) h1 h2)
 have HCS := hide (moveS_cases hS t p q)
 have HMD := hide (fun (a b : List T) ga gb nea hk => may_doc hS t h.eq (a := a) (b := b) ga gb nea hk)
 have HWY := hide (fun (l : List T) (gl : GoodP l) (W : World) (hb : Below w.heap.size w W) => rway_any g S A c P l W (h.below hb) (by omega) gl.ok (by have := gl.len; omega))
 have HKD := hide (fun (q : T) (W : World) (hb : Below w.heap.size w W) => rkind_any g S A c P q W (h.below hb) (by omega))
 have HNM := hide (fun (q : T) (W : World) (hb : Below w.heap.size w W) => rnames4_any g S A c P q W (h.below hb) hl hks)
 have HKS := hide hks
 have HL := hide hl
 unfold AbsPost at HA1 HA2
 rw [show bs [47] = (⟨#[47]⟩ : ByteArray) from rfl] at HA1 HA2
 obtain ⟨R, hR⟩ : ∃ R, moveS S p q = R := ⟨_, rfl⟩
 rw [hR] at HB1 HB2 HCH HCS ⊢
 obtain ⟨r1, hr1⟩ : ∃ r, absF [47] p = r := ⟨_, rfl⟩
 obtain ⟨x, e1⟩ := r1
 obtain ⟨r2, hr2⟩ : ∃ r, absF [47] q = r := ⟨_, rfl⟩
 obtain ⟨y, e2⟩ := r2
 rw [hr1] at HA1 HB1 HB2 HC1 HCH
 rw [hr2] at HA2 HB2 HC2 HCH hkq
 dsimp only at HA1 HA2 HB1 HB2 HC1 HC2
 clear hR h hks hl hp hq t
 go_enter Tryz.func68, Tryz.ntmps68
 go_wp2_with fail
 refine HA1.out.mono ?_
 rintro e w1 ⟨rfl, hb1⟩
 have HW1 := hide hb1
 clear hb1 HA1
 by_cases c1 : e1 = 0
 case neg =>
   obtain ⟨t1, t2⟩ := ne0 c1
   have HE := hide (HB1.out c1)
   clear c1 HC1 HC2
   go_wp2
   go_ret
   rw [HE.out]
   exact ⟨rfl, RK.stay H.out HW1.out⟩
 subst c1
 go_wp2_with fail
 refine (HA2.out w1).mono ?_
 rintro e w2 ⟨rfl, hb2⟩
 have HW2 := hide (below_up HW1.out hb2 HW1.out.size)
 clear hb2 HA2 HW1
 by_cases c2 : e2 = 0
 case neg =>
   obtain ⟨t1, t2⟩ := ne0 c2
   have HE := hide (HB2.out trivial c2)
   clear c2 HC1 HC2
   go_wp2
   go_ret
   rw [HE.out]
   exact ⟨rfl, RK.stay H.out HW2.out⟩
 subst c2
 obtain ⟨a, ga, ea⟩ : ∃ a, GoodP a ∧ x = joinF a := by
   rcases HC1 with ⟨a, ga, e, _⟩ | ⟨_, e⟩
   · exact ⟨a, ga, congrArg Prod.fst e⟩
   · omega
 obtain ⟨b, gb, eb⟩ : ∃ b, GoodP b ∧ y = joinF b := by
   rcases HC2 with ⟨b, gb, e, _⟩ | ⟨_, e⟩
   · exact ⟨b, gb, congrArg Prod.fst e⟩
   · omega
 have HR := hide (HCH.out x y rfl rfl)
 have HWX := hide (HWY.out a ga)
 have HWYY := hide (HWY.out b gb)
 rw [← ea] at HWX
 rw [← eb] at HWYY
 have hxl : x.length ≤ 200 := by rw [ea]; exact ga.len
 have hyl : y.length ≤ 200 := by rw [eb]; exact gb.len
 have HMY := hide (fun h1 h2 => HMD.out a b ga gb h1 h2)
 rw [← ea, ← eb] at HMY
 have HXR := hide (show a ≠ [] ↔ x ≠ [47] by rw [ea]; exact not_congr (joinF_root ga.ok).symm)
 have hxr := HXR.out
 have EA := hide ea
 have EB := hide eb
 clear HC1 HC2 HWY HMD HCH HB1 HB2 ea eb
 obtain ⟨wx, hwx⟩ : ∃ k, wayM S.m x = k := ⟨_, rfl⟩
 obtain ⟨wy, hwy⟩ : ∃ k, wayM S.m y = k := ⟨_, rfl⟩
 rw [hwx] at HWX HR
 rw [hwy] at HWYY HR
 by_cases c3 : wx = 0
 case neg =>
   obtain ⟨t1, t2⟩ := ne0 c3
   have HE := hide (HR.out.trans (if_pos c3))
   clear c3 hwx hwy
   go_wp2_with fail
   refine (HWX.out w2 HW2.out).mono ?_
   rintro e w3 ⟨rfl, hb3⟩
   have HW3 := hide (below_up HW2.out hb3 HW2.out.size)
   clear hb3
   go_wp2_with fail
   refine (HWX.out w3 HW3.out).mono ?_
   rintro e w4 ⟨rfl, hb4⟩
   have HW4 := hide (below_up HW3.out hb4 HW3.out.size)
   clear hb4
   go_wp2
   go_ret
   rw [HE.out]
   exact ⟨rfl, RK.stay H.out HW4.out⟩
 subst c3
 have HR1 := hide (HR.out.trans (if_neg (by simp)))
 clear HR hwx hwy
 go_wp2_with fail
 refine (HWX.out w2 HW2.out).mono ?_
 rintro e w3 ⟨rfl, hb3⟩
 have HW3 := hide (below_up HW2.out hb3 HW2.out.size)
 clear hb3 HW2
 have HKX := hide (HKD.out x w3 HW3.out)
 have hkx := kind_le S.m x
 have hky := kind_le S.m y
 obtain ⟨kx, hkxe⟩ : ∃ k, kindM S.m x = k := ⟨_, rfl⟩
 obtain ⟨ky, hkye⟩ : ∃ k, kindM S.m y = k := ⟨_, rfl⟩
 have HKY := hide (fun W hb => HKD.out y W hb)
 rw [hkxe] at HKX HR1 hkx HMY
 have hkq' : ky = 2 := hkye.symm.trans hkq
 rw [hkye] at HKY hky HMY
 clear HKD hkxe hkye hkq
 by_cases c4 : kx = 0
 · subst c4
   have HE := hide (HR1.out.trans (if_pos rfl))
   go_wp2_with fail
   refine HKX.out.mono ?_
   rintro e w' ⟨rfl, rfl⟩
   go_wp2
   go_ret
   rw [HE.out]
   exact ⟨rfl, RK.stay H.out HW3.out⟩
 have HR2 := hide (HR1.out.trans (if_neg c4))
 obtain ⟨tk1, tk2⟩ := ne0 c4
 go_wp2_with fail
 refine HKX.out.mono ?_
 rintro e w' ⟨rfl, rfl⟩
 clear HKX HR1
 by_cases c5 : x = [47]
 · have ht : ((bs x).toList == [47]) = true := by rw [bs_toList, c5]; rfl
   have HE := hide (HR2.out.trans (if_pos c5))
   clear c5 c4
   go_wp2
   go_ret
   rw [HE.out]
   exact ⟨rfl, RK.stay H.out HW3.out⟩
 have ht : ((bs x).toList == [47]) = false := by rw [bs_toList]; simpa using c5
 have HR3 := hide (HR2.out.trans (if_neg c5))
 have HM0 := hide (HMY.out (hxr.2 c5) c4)
 clear HR2 c5 HMY hxr
 by_cases c6 : wy = 0
 case neg =>
   obtain ⟨t1, t2⟩ := ne0 c6
   have HE := hide (HR3.out.trans (if_pos c6))
   clear c6 c4
   go_wp2_with fail
   refine (HWYY.out w3 HW3.out).mono ?_
   rintro e w4 ⟨rfl, hb4⟩
   have HW4 := hide (below_up HW3.out hb4 HW3.out.size)
   clear hb4
   go_wp2_with fail
   refine (HWYY.out w4 HW4.out).mono ?_
   rintro e w5 ⟨rfl, hb5⟩
   have HW5 := hide (below_up HW4.out hb5 HW4.out.size)
   clear hb5
   go_wp2
   go_ret
   rw [HE.out]
   exact ⟨rfl, RK.stay H.out HW5.out⟩
 subst c6
 have HR4 := hide (HR3.out.trans (if_neg (by simp)))
 clear HR3
 go_wp2_with fail
 refine (HWYY.out w3 HW3.out).mono ?_
 rintro e w4 ⟨rfl, hb4⟩
 have HW4 := hide (below_up HW3.out hb4 HW3.out.size)
 clear hb4 HW3
 by_cases c7 : x = y
 · have ht2 : ((bs x).toList == (bs y).toList) = true := by rw [c7]; simp
   have HE := hide (HR4.out.trans (if_pos c7))
   clear c7 c4
   go_wp2
   go_ret
   rw [HE.out]
   exact ⟨rfl, RK.stay H.out HW4.out⟩
 have ht2 : ((bs x).toList == (bs y).toList) = false := by rw [bs_toList, bs_toList]; simpa using c7
 have HR5 := hide (HR4.out.trans (if_neg c7))
 clear HR4 c7
 obtain ⟨my, hmy⟩ : ∃ k, mayS S.m x y = k := ⟨_, rfl⟩
 rw [hmy] at HM0 HR5
 have HER := hide (fun (h : my ≠ 0) => HR5.out.trans (if_pos h))
 by_cases c8 : y = [47]
 · have ht3 : ((bs y).toList == [47]) = true := by rw [bs_toList, c8]; rfl
   have hmy1 := HM0.out.trans (if_pos c8)
   have HE := hide (HER.out (by omega))
   rw [hmy1] at HE
   clear c8 c4 hmy hmy1
   go_wp2
   go_ret
   rw [HE.out]
   exact ⟨rfl, RK.stay H.out HW4.out⟩
 have ht3 : ((bs y).toList == [47]) = false := by rw [bs_toList]; simpa using c8
 have HM1 := hide (HM0.out.trans (if_neg c8))
 have HWI := hide (rwithin_any x y w4 (by omega) (by omega))
 obtain ⟨wi, hwi⟩ : ∃ b, withinF x y = b := ⟨_, rfl⟩
 rw [hwi] at HWI HM1
 clear HM0 c8 hwi
 cases wi with
 | true =>
   have hmy1 := HM1.out.trans (if_pos rfl)
   have HE := hide (HER.out (by omega))
   rw [hmy1] at HE
   clear c4 hmy hmy1
   go_wp2_with fail
   refine HWI.out.mono ?_
   rintro e w5 ⟨rfl, hb5⟩
   have HW5 := hide (below_up HW4.out hb5 HW4.out.size)
   clear hb5
   go_wp2
   go_ret
   rw [HE.out]
   exact ⟨rfl, RK.stay H.out HW5.out⟩
 | false =>
 have HM2 := hide (HM1.out.trans (if_neg (by simp)))
 clear HM1
 go_wp2_with fail
 refine HWI.out.mono ?_
 rintro e w5 ⟨rfl, hb5⟩
 have HW5 := hide (below_up HW4.out hb5 HW4.out.size)
 clear hb5 HWI HW4
 go_wp2_with fail
 refine (HKY.out w5 HW5.out).mono ?_
 rintro e w' ⟨rfl, rfl⟩
 by_cases c9 : ky = 2 ∧ kx = 1
 · obtain ⟨rfl, rfl⟩ := c9
   have hmy1 := HM2.out.trans (if_pos ⟨rfl, rfl⟩)
   have HE := hide (HER.out (by omega))
   rw [hmy1] at HE
   clear c4 hmy hmy1
   go_wp2
   go_ret
   rw [HE.out]
   exact ⟨rfl, RK.stay H.out HW5.out⟩
 have HM3 := hide (HM2.out.trans (if_neg c9))
 clear HM2
 have c10 : ¬ (ky = 1 ∧ kx = 2) := by omega
 have HM4 := hide (HM3.out.trans (if_neg c10))
 clear HM3
 subst hkq'
 obtain rfl : kx = 2 := by omega
 have HPX := hide (fun (z : NV) (hz : z ∈ P) (t : T) (hzt : z.1 = bs t) (h : withinF x t = true) => show x.length ≤ t.length from by
   obtain ⟨l, gl, _, e⟩ := hS.good (z.1, z.2.nd) (by rw [H.out.eq]; exact List.mem_map.2 ⟨z, hz, rfl⟩)
   have e2 : t = joinF l := bs_inj (hzt.symm.trans e)
   rw [EA.out, e2] at h ⊢
   obtain ⟨r, rfl⟩ := (within_join ga.ok gl.ok).1 h
   by_cases h0 : a = []
   · subst h0
     have := List.length_pos_iff.2 (joinF_ne ([] ++ r))
     rw [joinF_nil]
     exact this
   · rw [slashed_join h0, slashed_join (by simp [h0]), slashed_app, List.length_append]
     omega)
 clear c9 c10 c4 hmy
 go_wp2_with fail
 refine (HNM.out y w5 HW5.out).mono ?_
 rintro e w6 ⟨⟨A5, c5, rfl, _, _⟩, hb6⟩
 have HW6 := hide (below_up HW5.out hb6 HW5.out.size)
 clear hb6
 obtain ⟨m, hm⟩ : ∃ m, (nmR y (keysN P)).length = m := ⟨_, rfl⟩
 have hm0 : nmR y (keysN P) ≠ [] ↔ m ≠ 0 := by rw [← hm]; exact not_congr List.length_eq_zero_iff.symm
 rw [hm]
 by_cases m0 : m = 0
 case neg =>
   have hmy1 := HM4.out.trans (if_pos ⟨trivial, hm0.2 m0⟩)
   have HE := hide (HER.out (by omega))
   rw [hmy1] at HE
   have hmi : (0 : Int) < (m : Int) := by omega
   clear hm hm0 m0 hmy1
   go_wp2
   go_ret
   rw [HE.out]
   exact ⟨rfl, RK.stay H.out HW6.out⟩
 have HM5 := hide (HM4.out.trans (if_neg (fun h => hm0.1 h.2 m0)))
 subst m0
 clear hm hm0 HM4
 obtain ⟨n, hn⟩ : ∃ n, P.length = n := ⟨_, rfl⟩
 have HN := hide hn
 have hln : n ≤ 10000 := by have := HL.out; omega
 have hgl : g < w.heap.size := (Array.getElem?_eq_some_iff.1 H.out.heap).1
 clear hn HWX HWYY HKY HW5
 go_wp2
 go_loopw [13, 14, 15] (fun v13 v14 _ wr => ∃ (k m : Nat) (A' : Option Addr) (c' : Nat), v14 = .int .i64 k ∧ k ≤ n ∧ v13 = .slice A' m c' ∧ m ≤ k ∧ Hid (OwnG encE 4 172 wr w.heap.size (.slice A' m c') (rmvN x y (P.take k))) ∧ Hid (∀ z ∈ P.take k, inF x z = true → ¬ badT x y z.1.data.toList) ∧ Hid (Below w.heap.size w wr)) (fun _ v14 _ _ => n - (intOf v14).toNat)
 case atStart => exact ⟨0, 0, none, 0, rfl, by omega, rfl, by omega, OwnG.nil _ _, (fun z hz => by simp at hz), HW6.out⟩
 case round =>
   obtain ⟨k, m, A', c', rfl, hk, rfl, hmk, HO, HBD, HB⟩ := hrel
   have ho := H.out.below HB.out
   have hg := ho.heap
   rw [HN.out] at hg
   have hc2 := cellOf hg (j := 2) (v := .slice A n c) rfl
   by_cases hlt : k < n
   · obtain ⟨z, hz⟩ : ∃ x, P[k]? = some x := ⟨P[k]'(by have := HN.out; omega), gE _⟩
     obtain ⟨gs, o, rfl, hgs, hc⟩ := ho.rg k z hz
     obtain ⟨t, hzt, htl⟩ := HKS.out z (List.mem_of_getElem? hz)
     have hc0 : wr.cell? ⟨gs, o + k * 4, none⟩ = some (.string z.1) := by have := hc 0 _ rfl; simpa using this
     rw [hzt] at hc0
     have hc1 : wr.cell? ⟨gs, o + k * 4 + 1, none⟩ = some (.bool z.2.nd.dir) := hc 1 _ rfl
     have hc22 : wr.cell? ⟨gs, o + k * 4 + 2, none⟩ = some (.slice z.2.A z.2.nd.data.length z.2.c) := hc 2 _ rfl
     have hc3 : wr.cell? ⟨gs, o + k * 4 + 3, none⟩ = some (.int .i64 z.2.nd.time) := hc 3 _ rfl
     have hrt := rmv_take (x := x) (y := y) hz
     have hix : inF x z = withinF x t := by unfold inF; rw [hzt, bs_list]
     rw [hix] at hrt
     have HMV := hide (show mvN x y z = (bs (tgt x y t), z.2) by unfold mvN; rw [hzt, bs_list])
     have HIX := hide hix
     have HZT := hide hzt
     have HZ := hide hz
     have b1 : (k : Int) < (n : Int) := by omega
     have hrl : (rmvN x y (P.take k)).length ≤ 100000 := by
       unfold rmvN
       rw [List.length_map]
       refine Nat.le_trans (List.length_filter_le _ _) ?_
       rw [List.length_take]
       omega
     have HRL := hide hrl
     obtain ⟨D, hD⟩ : ∃ m, z.2.nd.data.length = m := ⟨_, rfl⟩
     rw [hD] at hc22
     have HD := hide hD
     clear ho hg hc hz hgs hix hzt hrl hD
     go_wp2_with fail
     obtain ⟨wa, hwa⟩ : ∃ W, wr.alloc (.cells #[.string (bs t), .bool z.2.nd.dir, .slice z.2.A D z.2.c, .int .i64 z.2.nd.time] 172) = W := ⟨_, rfl⟩
     have hnw := heapNew wr (.cells #[.string (bs t), .bool z.2.nd.dir, .slice z.2.A D z.2.c, .int .i64 z.2.nd.time] 172)
     have hba : Below w.heap.size wr (wr.alloc (.cells #[.string (bs t), .bool z.2.nd.dir, .slice z.2.A D z.2.c, .int .i64 z.2.nd.time] 172)) := (Below.refl _ wr).alloc HB.out.size _
     have hba2 : Below wr.heap.size wr (wr.alloc (.cells #[.string (bs t), .bool z.2.nd.dir, .slice z.2.A D z.2.c, .int .i64 z.2.nd.time] 172)) := (Below.refl _ wr).alloc (Nat.le_refl _) _
     have hoa := OwnG.keptB HO.out hba2
     rw [hwa] at hnw hba hba2 hoa ⊢
     obtain ⟨nb, hnb⟩ : ∃ b, wr.heap.size = b := ⟨_, rfl⟩
     have HNBE := hide hnb
     have hnbw : w.heap.size ≤ nb := by have := HB.out.size; omega
     rw [hnb] at hnw hba2 ⊢
     have HNW := hide hnw
     have HBA := hide (HB.out.trans hba)
     have HOA := hide hoa
     have hx0 := cellOf hnw (j := 0) (v := .string (bs t)) rfl
     have hnl : nb < wa.heap.size := (Array.getElem?_eq_some_iff.1 hnw).1
     have HWI := hide (rwithin_any x t wa (by omega) (by omega))
     clear hwa hnw hba hba2 hoa hnb hc0 hc1 hc22 hc3
     cases hw : withinF x t with
     | false =>
       rw [hw] at HWI hrt HIX
       have HRT := hide hrt
       clear hrt hw
       go_wp2_with fail
       refine HWI.out.mono ?_
       rintro e w7 ⟨rfl, hb7⟩
       have HB7 := hide (below_up HBA.out hb7 HBA.out.size)
       have HO7 := hide (OwnG.keptB HOA.out hb7)
       clear hb7
       go_wp2
       go_roundw
       case rel =>
         refine ⟨k + 1, m, A', c', by go_num, by omega, rfl, by omega, ?_, ?_, HB7.out⟩
         · show OwnG _ _ _ _ _ _ _
           rw [HRT.out]
           simp only [Bool.false_eq_true, if_false, List.append_nil]
           exact HO7.out
         · show ∀ z ∈ P.take (k + 1), _
           intro u hu hin
           rw [List.take_add_one, HZ.out] at hu
           rcases List.mem_append.1 hu with hu | hu
           · exact HBD.out u hu hin
           · simp at hu
             rw [hu, HIX.out] at hin
             cases hin
       case measure => simp [intOf]; omega
     | true =>
       rw [hw] at HWI hrt HIX
       have HRT := hide hrt
       have hxt : x.length ≤ t.length := by
         exact HPX.out z (List.mem_of_getElem? HZ.out) t HZT.out hw
       have zt : (bs t).size = t.length := bs_size t
       have zx : (bs x).size = x.length := bs_size x
       have zy : (bs y).size = y.length := bs_size y
       have HEX := hide (show (bs t).extract x.length (bs t).size = bs (t.drop x.length) by rw [ext_bs, bs_size, List.take_of_length_le (by rw [List.length_drop]; omega)])
       have HAP := hide (show bs y ++ bs (t.drop x.length) = bs (tgt x y t) from bs_app y (t.drop x.length))
       have zd : (bs (t.drop x.length)).size = t.length - x.length := by rw [bs_size, List.length_drop]
       have htgl : (tgt x y t).length = y.length + (t.length - x.length) := by unfold tgt; rw [List.length_append, List.length_drop]
       have ztg : (bs (tgt x y t)).size = y.length + (t.length - x.length) := by rw [bs_size, htgl]
       obtain ⟨xl, hxl'⟩ : ∃ n, x.length = n := ⟨_, rfl⟩
       obtain ⟨tl, htl'⟩ : ∃ n, t.length = n := ⟨_, rfl⟩
       obtain ⟨yl, hyl'⟩ : ∃ n, y.length = n := ⟨_, rfl⟩
       have HTG := hide htgl
       rw [hxl'] at zd hxt zx HEX ztg hxl HTG HAP
       rw [htl'] at zd hxt htl zt ztg HTG
       rw [hyl'] at zy hyl ztg HTG
       rw [zt] at HEX
       have HX2 := hide hxl'
       rw [← HEX.out] at zd HAP
       clear hrt hw htgl hxl' htl' hyl'
       go_wp2_with fail
       refine HWI.out.mono ?_
       rintro e w7 ⟨rfl, hb7⟩
       have hnw7 := (hb7.block nb hnl).trans HNW.out
       have HB7 := hide (below_up HBA.out hb7 HBA.out.size)
       have HO7 := hide (OwnG.keptB HOA.out hb7)
       have hx7 := cellOf hnw7 (j := 0) (v := .string (bs t)) rfl
       have hf7 := freeOf hnw7 0
       have hnl7 : nb < w7.heap.size := (Array.getElem?_eq_some_iff.1 hnw7).1
       have HNW8 := hide (heapSet (j := 0) hnw7 (.string (bs (tgt x y t))))
       obtain ⟨w8, hw8⟩ : ∃ W, w7.setCell ⟨nb, 0, none⟩ (.string (bs (tgt x y t))) = W := ⟨_, rfl⟩
       have hb8 : Below w.heap.size w w8 := hw8 ▸ HB7.out.setCell (p := ⟨nb, 0, none⟩) hnbw _
       rw [hw8] at HNW8
       have HB8 := hide hb8
       have HK8 := hide (show Kp w7 w8 (fun k => k = nb) from hw8 ▸ Kp.set w7 nb 0 _)
       have hy0 := cellOf HNW8.out (j := 0) (v := .string (bs (tgt x y t))) rfl
       clear hb7 hnw7 hb8
       have hap := HAP.out
       by_cases b200 : 200 < yl + (tl - xl)
       · have bi : (200 : Int) < ((yl + (tl - xl) : Nat) : Int) := by omega
         have hmy1 := HM5.out.trans (if_pos ⟨z, List.mem_of_getElem? HZ.out, HIX.out, by
           rw [HZT.out, bs_list]
           unfold badT
           rw [HTG.out]
           exact .inl b200⟩)
         have HE := hide (HER.out (by omega))
         rw [hmy1] at HE
         clear hmy1
         go_wp2
         go_ret
         rw [HE.out]
         exact ⟨rfl, RK.stay H.out HB8.out⟩
       have bi : ¬ (200 : Int) < ((yl + (tl - xl) : Nat) : Int) := by omega
       have HPA := hide (rparts_any [47] (tgt x y t) w8 (by simp) (by rw [HTG.out]; omega))
       rw [show bs [47] = (⟨#[47]⟩ : ByteArray) from rfl] at HPA
       obtain ⟨pl, hpl⟩ : ∃ n, (partsF [47] (tgt x y t)).length = n := ⟨_, rfl⟩
       have HPL := hide hpl
       have hpl3 : pl ≤ 100000 := by
         have := partsF_len [47] (tgt x y t)
         rw [hpl, HTG.out] at this
         simp at this
         omega
       clear hpl
       by_cases b20 : 20 < pl
       · have hmy1 := HM5.out.trans (if_pos ⟨z, List.mem_of_getElem? HZ.out, HIX.out, by
           rw [HZT.out, bs_list]
           unfold badT
           rw [HPL.out]
           exact .inr b20⟩)
         have HE := hide (HER.out (by omega))
         rw [hmy1] at HE
         have bpi : (20 : Int) < (pl : Int) := by omega
         clear hmy1
         go_wp2_with fail
         refine HPA.out.mono ?_
         rintro e w9 ⟨⟨v, rfl, ho9⟩, hb9⟩
         obtain ⟨A9, c9, rfl, hc9, _, _⟩ := OwnS.slice ho9
         have HB9 := hide (below_up HB8.out hb9 HB8.out.size)
         clear ho9 hb9
         rw [List.length_map, HPL.out]
         go_wp2
         go_ret
         rw [HE.out]
         exact ⟨rfl, RK.stay H.out HB9.out⟩
       have bpi : ¬ (20 : Int) < (pl : Int) := by omega
       have HNB := hide (show ¬ badT x y z.1.data.toList by
         rw [HZT.out, bs_list]
         unfold badT
         rw [HPL.out, HTG.out]
         omega)
       have HO8 := hide (show OwnG encE 4 172 w8 w.heap.size (.slice A' m c') (rmvN x y (P.take k)) from by
         refine ⟨HO7.out.1, ?_⟩
         rcases HO7.out.2 with h2 | ⟨g2, cap, cur, e2, hg2, hh2, r2⟩
         · exact .inl h2
         · refine .inr ⟨g2, cap, cur, e2, hg2, (HK8.out.block g2 (Array.getElem?_eq_some_iff.1 hh2).1 ?_).trans hh2, r2⟩
           have h3 := (HO.out.lt g2 (by rw [e2]; rfl)).2
           have := HNBE.out
           omega)
       go_wp2_with fail
       refine HPA.out.mono ?_
       rintro e w9 ⟨⟨v, rfl, ho9⟩, hb9⟩
       obtain ⟨A9, c9, rfl, hc9, _, _⟩ := OwnS.slice ho9
       rw [List.length_map, HPL.out]
       have hnw9 := (hb9.block nb (Array.getElem?_eq_some_iff.1 HNW8.out).1).trans HNW8.out
       have hr0 := cellOf hnw9 (j := 0) (v := .string (bs (tgt x y t))) rfl
       have hr1 := cellOf hnw9 (j := 1) (v := .bool z.2.nd.dir) rfl
       have hr2 := cellOf hnw9 (j := 2) (v := .slice z.2.A D z.2.c) rfl
       have hr3 := cellOf hnw9 (j := 3) (v := .int .i64 z.2.nd.time) rfl
       have hb9w := below_up HB8.out hb9 HB8.out.size
       have ho9' := OwnG.keptB HO8.out hb9
       obtain ⟨v', w', r', o', hb10⟩ := push_node ho9' hb9w.size HRL.out (mvN x y z) #[.string (bs (tgt x y t)), .bool z.2.nd.dir, .slice z.2.A D z.2.c, .int .i64 z.2.nd.time] (by rw [HMV.out]; unfold encE; rw [← HD.out])
       obtain ⟨A2, c2, rfl, hcl, _, _, _⟩ := o'.slice encE_len
       have HO2 := hide o'
       have HB2 := hide (hb9w.trans hb10)
       have HRUN := hide r'
       have hll : (rmvN x y (P.take k) ++ [mvN x y z]).length ≤ k + 1 := by
         rw [List.length_append, List.length_singleton]
         have h1 : (rmvN x y (P.take k)).length ≤ (P.take k).length := by
           unfold rmvN
           rw [List.length_map]
           exact List.length_filter_le _ _
         rw [List.length_take] at h1
         omega
       obtain ⟨M, hM⟩ : ∃ m, (rmvN x y (P.take k) ++ [mvN x y z]).length = m := ⟨_, rfl⟩
       rw [hM] at HO2 HRUN hll
       clear ho9 hb9 hnw9 hb9w ho9' r' o' hb10 hcl hM hx0 hx7 hy0
       go_wp2_with (first | (at_builtin; refine wpList_app_run ?_ (.tmp 135) (.tmp 137) ?_ ?_ ?_ ?_ HRUN.out ?_; exact rfl; exact rfl; exact rfl; exact rfl; exact rfl))
       go_roundw
       case rel =>
         refine ⟨k + 1, M, A2, c2, by go_num, by omega, rfl, by omega, ?_, ?_, HB2.out⟩
         · show OwnG _ _ _ _ _ _ _
           rw [HRT.out]
           exact HO2.out
         · show ∀ z ∈ P.take (k + 1), _
           intro u hu hin
           rw [List.take_add_one, HZ.out] at hu
           rcases List.mem_append.1 hu with hu | hu
           · exact HBD.out u hu hin
           · simp at hu
             rw [hu]
             exact HNB.out
       case measure => simp [intOf]; omega
   · obtain ⟨wq, hwq⟩ : ∃ X, X = wr := ⟨_, rfl⟩
     subst hwq
     obtain rfl : n = k := by omega
     have htk : P.take n = P := List.take_of_length_le (by have := HN.out; omega)
     rw [htk] at HO HBD
     have hmy0 : my = 0 := HM5.out.trans (if_neg (by
       rintro ⟨z, hz, h1, h2⟩
       exact HBD.out z hz h1 h2))
     have hRE := HR5.out.trans (if_neg (by rw [hmy0]; simp))
     have hMv : (moveQ S x y).m = rmoveM S.m x y (S.clock + 1) ∧ ∃ nd, getG S.m (bs x) = some nd := by
       rcases HCS.out with h1 | ⟨a', b', hmv, _, h2, h3⟩
       · exfalso
         rw [hRE] at h1
         have := congrArg St.clock h1
         change S.clock + 1 = S.clock at this
         omega
       · have e1 := absS_fst hr1 h2 (joinF_ne _)
         have e2 := absS_fst hr2 h3 (joinF_ne _)
         rw [← e1, ← e2]
         exact ⟨hmv.rsame, hmv.node⟩
     obtain ⟨hMQ, nd, hnd⟩ := hMv
     have hM0 : rmvN x y P ≠ [] := by
       rw [H.out.eq] at hnd
       have := getG_mem hnd
       unfold stripN at this
       obtain ⟨u, hu, e⟩ := List.mem_map.1 this
       have hu1 : u.1 = bs x := congrArg Prod.fst e
       have hin : inF x u = true := by
         unfold inF
         rw [hu1, bs_list, EA.out]
         exact (within_join ga.ok ga.ok).2 List.prefix_rfl
       intro h0
       have : mvN x y u ∈ rmvN x y P := List.mem_map.2 ⟨u, List.mem_filter.2 ⟨hu, hin⟩, rfl⟩
       rw [h0] at this
       cases this
     obtain ⟨gm, rfl, hml, hmc, hgmw, hmr⟩ := MRow.of HO.out hM0
     have hpl := parts_len (x := x) (y := y) (P := P)
     have hPl := HL.out
     have HD1 := hide (rdrop_any g S A c P x wq (H.out.below HB.out) HL.out HKS.out (by omega))
     have HMR := hide hmr
     have hgmg : gm ≠ g := by have := hmr.ge; omega
     have HRE := hide hRE
     have HMQ := hide hMQ
     have HSRC := hide (fun z (h : z ∈ rmvN x y P) => rmv_src h)
     obtain ⟨M, hM⟩ : ∃ M, rmvN x y P = M := ⟨_, rfl⟩
     have HMD := hide hM
     rw [hM] at hml hmc hpl HMR HSRC
     clear htk hmy0 hRE hMQ hnd hM0 hmr hM ho hg HO HBD
     subst hml
     have hmI : (M.length : Int) ≤ 10000 := by omega
     go_wp2_with fail
     refine HD1.out.mono ?_
     rintro e w8 ⟨rfl, A1, c1, ho1, hk1, hA1⟩
     have HD2 := hide (rdrop_any g _ A1 c1 _ y w8 ho1 (Nat.le_trans (List.length_filter_le _ _) HL.out) (fun z hz => HKS.out z (List.mem_filter.1 hz).1) (by omega))
     have HK1 := hide hk1
     clear ho1 hk1 HD1
     go_wp2_with fail
     refine HD2.out.mono ?_
     rintro e w9 ⟨rfl, A2, c2, ho2, hk2, hA2⟩
     have hg9 := ho2.heap
     have hc3 := cellOf hg9 (j := 3) (v := .int .i64 S.clock) rfl
     have hf3 := freeOf hg9 3
     have ht := ho2.tick (S.clock + 1)
     rw [show ((S.clock + 1 : Nat) : Int) = (S.clock : Int) + 1 from rfl] at ht
     have hkt := Kp.set w9 g 3 (.int .i64 ((S.clock : Int) + 1))
     obtain ⟨W0, hW0⟩ : ∃ W, w9.setCell ⟨g, 3, none⟩ (.int .i64 ((S.clock : Int) + 1)) = W := ⟨_, rfl⟩
     rw [hW0] at ht hkt
     have hkw : Kp wq W0 (fun k => k = g) := (HK1.out.then hk2).then hkt
     have HM0 := hide (HMR.out.kp hkw hgmg)
     have HWS := hide hkw.size
     have HKW := hide (show Kp w W0 (fun k => k = g) from (Kp.of_below HB.out _).then hkw)
     obtain ⟨P2, hP2⟩ : ∃ Q, (P.filter (outF x)).filter (outF y) = Q := ⟨_, rfl⟩
     have HP2 := hide hP2
     change RSO g _ A2 c2 ((P.filter (outF x)).filter (outF y)) W0 at ht
     rw [hP2] at ht hpl
     have HQ0 := hide (show RSO g (SQ S P2) A2 c2 P2 W0 from ⟨ht.heap, ht.cap, ht.rg, ht.dat, rfl, ht.top, ht.neA, ht.neD, ht.lt⟩)
     have HA0 := hide (show ∀ a, A2 = some a → wq.heap.size ≤ a.block from fun a e => by have := hA2 a e; have := HK1.out.size; omega)
     have HSQ := hide (show ∀ z ∈ P2, ∃ u ∈ P, u.2.A = z.2.A ∧ u.2.nd.data = z.2.nd.data ∧ u.2.c = z.2.c from fun z hz => by
       rw [← hP2] at hz
       exact ⟨z, (List.mem_filter.1 (List.mem_filter.1 hz).1).1, rfl, rfl, rfl⟩)
     clear ho2 hk2 hg9 ht hkt hkw hP2 hA2 hA1 HD2 HMR
     go_wp2
     go_loopw [16] (fun v16 wr => ∃ i : Nat, v16 = .int .i64 i ∧ i ≤ M.length ∧ Hid (∃ Ai ci, RSO g (SQ S (rfoldN y (S.clock + 1) (M.take i) P2)) Ai ci (rfoldN y (S.clock + 1) (M.take i) P2) wr ∧ ∀ a, Ai = some a → wq.heap.size ≤ a.block) ∧ Hid (∃ L', MRow wr w.heap.size gm L' ∧ L'.length = M.length ∧ L'.drop i = M.drop i) ∧ Hid (Kp w wr (fun k => k = g)) ∧ Hid (wq.heap.size ≤ wr.heap.size)) (fun v16 _ => M.length - (intOf v16).toNat)
     case atStart => exact ⟨0, rfl, Nat.zero_le _, ⟨A2, c2, HQ0.out, HA0.out⟩, ⟨M, HM0.out, rfl, rfl⟩, HKW.out, HWS.out⟩
     case round =>
       obtain ⟨W, hWr⟩ : ∃ X, X = wr := ⟨_, rfl⟩
       subst hWr
       obtain ⟨i, rfl, hi, HQI, HMI, HKI, HAI⟩ := hrel
       obtain ⟨Ai, ci, hoi, hAi⟩ := HQI.out
       by_cases hlt2 : i < M.length
       · obtain ⟨z, hz⟩ : ∃ z, M[i]? = some z := ⟨M[i], gE _⟩
         obtain ⟨L', hmr, hLl, hLd⟩ := HMI.out
         have hLz : L'[i]? = some z := by
           have h1 : (L'.drop i)[0]? = (M.drop i)[0]? := by rw [hLd]
           rw [List.getElem?_drop, List.getElem?_drop, Nat.add_zero, hz] at h1
           exact h1
         obtain ⟨ge, oe, ee, hgel, hcz⟩ := hmr.rg i z hLz
         injection ee with ee
         injection ee with ee1 ee2
         subst ee1 ee2
         rw [Nat.zero_add] at hcz
         have hz0 : W.cell? ⟨gm, i * 4, none⟩ = some (.string z.1) := by have := hcz 0 _ rfl; simpa using this
         have hz1 : W.cell? ⟨gm, i * 4 + 1, none⟩ = some (.bool z.2.nd.dir) := hcz 1 _ rfl
         have hz2 : W.cell? ⟨gm, i * 4 + 2, none⟩ = some (.slice z.2.A z.2.nd.data.length z.2.c) := hcz 2 _ rfl
         have hz3 : W.cell? ⟨gm, i * 4 + 3, none⟩ = some (.int .i64 z.2.nd.time) := hcz 3 _ rfl
         obtain ⟨cur, hcur⟩ := hmr.blk
         have hzf := freeOf hcur (i * 4 + 3)
         have hgi := hoi.heap
         have hgc3 := cellOf hgi (j := 3) (v := .int .i64 ((S.clock : Int) + 1)) rfl
         have hit := rfold_take (y := y) (t := S.clock + 1) (Q := P2) hz
         have hil := rfold_len y (S.clock + 1) (M.take i) P2
         rw [List.length_take] at hil
         have hi10 : (rfoldN y (S.clock + 1) (M.take i) P2).length ≤ 10000 := by omega
         have hsrcQ := rfold_src (y := y) (t := S.clock + 1) (M.take i) P2 (P := P) HSQ.out (fun z hz => HSRC.out z (List.mem_of_mem_take hz))
         obtain ⟨u, hu, hue⟩ := HSRC.out z (List.mem_of_getElem? hz)
         have bi2 : (i : Int) < (M.length : Int) := by omega
         have hgeo := hmr.ge
         obtain ⟨Qi, hQi⟩ : ∃ Q, rfoldN y (S.clock + 1) (M.take i) P2 = Q := ⟨_, rfl⟩
         rw [hQi] at hoi hit hi10 hsrcQ
         have hicc : (M.length : Int) ≤ (c' : Int) := by omega
         have hzdat : RG encB 1 W z.2.A z.2.nd.data := by
           rw [← hue]
           exact (H.out.dat u hu).kp HKI.out (H.out.neD u hu)
         have hzne : ∀ a, z.2.A = some a → z.2.nd.data ≠ [] → a.block ≠ g := by rw [← hue]; exact H.out.neD u hu
         have hzlt : z.2.nd.data.length ≤ z.2.c := by rw [← hue]; exact H.out.lt u hu
         have hzlo : ∀ a, z.2.A = some a → z.2.nd.data ≠ [] → a.block < w.heap.size := by
           rw [← hue]
           exact fun a e hn => (H.out.dat u hu).block_lt e hn
         by_cases he : z.1 = bs y
         · have e1 : (z.1.toList == (bs y).toList) = true := by rw [he]; simp
           have hk3 : Kp W (W.setCell ⟨gm, i * 4 + 3, none⟩ (.int .i64 ((S.clock : Int) + 1))) (fun k => k = gm) := Kp.set W gm _ _
           have hob := hoi.keep hk3 (fun e => hgmg e.symm) (fun a e _ => by have := hAi a e; omega) (fun v hv a e hn => by
             obtain ⟨u', hu', q1, q2, _⟩ := hsrcQ v hv
             have := (H.out.dat u' hu').block_lt (q1.trans e) (by rw [q2]; exact hn)
             omega)
           have hmrb := hmr.setT hLz (S.clock + 1)
           rw [show ((S.clock + 1 : Nat) : Int) = (S.clock : Int) + 1 from rfl] at hmrb
           have hzv : rvalN y (S.clock + 1) z = (z.1, ⟨z.2.A, z.2.c, ⟨z.2.nd.dir, z.2.nd.data, S.clock + 1⟩⟩) := by
             unfold rvalN rvalM
             rw [if_pos he]
           rw [hzv] at hit
           have hput := put_rk g (SQ S Qi) Ai ci Qi (z.1, ⟨z.2.A, z.2.c, ⟨z.2.nd.dir, z.2.nd.data, S.clock + 1⟩⟩) _ hob hi10 (SQ S (putG (z.1, ⟨z.2.A, z.2.c, ⟨z.2.nd.dir, z.2.nd.data, S.clock + 1⟩⟩) Qi)) (strip_put _ _) rfl rfl rfl (hzdat.ofB hk3.size (fun a e hn => hk3.block a.block (hzdat.block_lt e hn) (by have := hzlo a e hn; omega))) hzne hzlt
           have HPT := hide (show Calls Tryz.prog 115 #[.pointer (some ⟨g, 0, none⟩), .agg #[.string z.1, .bool z.2.nd.dir, .slice z.2.A z.2.nd.data.length z.2.c, .int .i64 ((S.clock : Int) + 1)]] _ _ from hput)
           have hs3 := World.cell?_setCell_same' W ⟨gm, i * 4 + 3, none⟩ (.int .i64 ((S.clock : Int) + 1)) (by rw [hz3]; rfl)
           have hs0 : (W.setCell ⟨gm, i * 4 + 3, none⟩ (.int .i64 ((S.clock : Int) + 1))).cell? ⟨gm, i * 4, none⟩ = some (.string z.1) := (World.cell?_setCell_other W _ _ _ (by intro e; injection e; omega)).trans hz0
           have hs1 : (W.setCell ⟨gm, i * 4 + 3, none⟩ (.int .i64 ((S.clock : Int) + 1))).cell? ⟨gm, i * 4 + 1, none⟩ = some (.bool z.2.nd.dir) := (World.cell?_setCell_other W _ _ _ (by intro e; injection e; omega)).trans hz1
           have hs2 : (W.setCell ⟨gm, i * 4 + 3, none⟩ (.int .i64 ((S.clock : Int) + 1))).cell? ⟨gm, i * 4 + 2, none⟩ = some (.slice z.2.A z.2.nd.data.length z.2.c) := (World.cell?_setCell_other W _ _ _ (by intro e; injection e; omega)).trans hz2
           obtain ⟨WB, hWB⟩ : ∃ X, W.setCell ⟨gm, i * 4 + 3, none⟩ (.int .i64 ((S.clock : Int) + 1)) = X := ⟨_, rfl⟩
           rw [hWB] at hk3 hmrb HPT hs0 hs1 hs2 hs3
           have HMRB := hide hmrb
           have HIT := hide (hit.trans rfl)
           have HLD := hide (show (L'.set i (z.1, ⟨z.2.A, z.2.c, ⟨z.2.nd.dir, z.2.nd.data, S.clock + 1⟩⟩)).length = M.length ∧ (L'.set i (z.1, ⟨z.2.A, z.2.c, ⟨z.2.nd.dir, z.2.nd.data, S.clock + 1⟩⟩)).drop (i + 1) = M.drop (i + 1) from ⟨by rw [List.length_set, hLl], by
             rw [List.drop_set_of_lt (by omega), ← List.drop_drop, ← List.drop_drop, hLd]⟩)
           have HKB := hide (show Kp w WB (fun k => k = g) from HKI.out.trans (hk3.mono fun k e => .inr (by omega)))
           have hwbs : wq.heap.size ≤ WB.heap.size := by
             have h1 := hk3.size
             have h2 := HAI.out
             omega
           clear hoi hAi hz hmr hLl hLd hLz hcz hcur hgi hit hil hsrcQ hu hue hgeo hzdat hzne hzlt hzlo he hk3 hob hmrb hput hz1 hz2 hzv hQi
           go_wp2_with fail
           refine HPT.out.mono ?_
           rintro e W2 ⟨rfl, A3, c3, ho3, hk3, hA3⟩
           have HO3 := hide ho3
           have HK3 := hide hk3
           have HA3 := hide hA3
           clear ho3 hk3 hA3
           go_wp2
           go_roundw
           case rel =>
             refine ⟨i + 1, by go_num, by omega, ⟨A3, c3, ?_, fun a e => ?_⟩, ⟨_, HMRB.out.kp HK3.out hgmg, HLD.out.1, HLD.out.2⟩, HKB.out.then HK3.out, Nat.le_trans hwbs HK3.out.size⟩
             · rw [HIT.out]
               exact HO3.out
             · have := HA3.out a e
               omega
           case measure => simp [intOf]; omega
         · have e1 : (z.1.toList == (bs y).toList) = false := txt_ne he
           have hzv : rvalN y (S.clock + 1) z = z := by
             unfold rvalN rvalM
             rw [if_neg he]
           rw [hzv] at hit
           have hput := put_rk g (SQ S Qi) Ai ci Qi z _ hoi hi10 (SQ S (putG z Qi)) (strip_put _ _) rfl rfl rfl hzdat hzne hzlt
           have HPT := hide (show Calls Tryz.prog 115 #[.pointer (some ⟨g, 0, none⟩), .agg #[.string z.1, .bool z.2.nd.dir, .slice z.2.A z.2.nd.data.length z.2.c, .int .i64 z.2.nd.time]] _ _ from hput)
           have HMRB := hide hmr
           have HIT := hide (hit.trans rfl)
           have HLD := hide (show L'.length = M.length ∧ L'.drop (i + 1) = M.drop (i + 1) from ⟨hLl, by rw [← List.drop_drop, ← List.drop_drop, hLd]⟩)
           have hwbs : wq.heap.size ≤ W.heap.size := HAI.out
           clear hoi hAi hz hmr hLl hLd hLz hcz hcur hgi hit hil hsrcQ hu hue hgeo hzdat hzne hzlt hzlo he hput hzv hQi
           go_wp2_with fail
           refine HPT.out.mono ?_
           rintro e W2 ⟨rfl, A3, c3, ho3, hk3, hA3⟩
           have HO3 := hide ho3
           have HK3 := hide hk3
           have HA3 := hide hA3
           clear ho3 hk3 hA3
           go_wp2
           go_roundw
           case rel =>
             refine ⟨i + 1, by go_num, by omega, ⟨A3, c3, ?_, fun a e => ?_⟩, ⟨_, HMRB.out.kp HK3.out hgmg, HLD.out.1, HLD.out.2⟩, HKI.out.then HK3.out, Nat.le_trans hwbs HK3.out.size⟩
             · rw [HIT.out]
               exact HO3.out
             · have := HA3.out a e
               omega
           case measure => simp [intOf]; omega
       · obtain rfl : i = M.length := by omega
         rw [List.take_of_length_le (Nat.le_refl _)] at hoi
         have hsrcQ := rfold_src (y := y) (t := S.clock + 1) M P2 (P := P) HSQ.out HSRC.out
         have HFIN := hide (show RK g (moveQ S x y) w A P W from by
           refine ⟨Ai, ci, _, ⟨hoi.heap, hoi.cap, hoi.rg, hoi.dat, ?_, hoi.top, hoi.neA, hoi.neD, hoi.lt⟩, HKI.out, fun a e _ => .inl (by have := hAi a e; have := HB.out.size; omega), fun v hv a e hn => ?_⟩
           · rw [HMQ.out, H.out.eq, ← rmove_strip, ← HP2.out, ← HMD.out]
           · obtain ⟨u, hu, q1, q2, _⟩ := hsrcQ v hv
             exact .inr ⟨u, hu, q1.trans e, by rw [q2]; exact hn⟩)
         clear hoi hAi hsrcQ
         go_wp2
         go_ret
         rw [HRE.out]
         exact ⟨rfl, HFIN.out⟩
end
section
open Go.RowKit Go.Deep Go.Maps Ln Pth Vf
attribute [local go_sem] bt_eq fld0 fld1 fld2 mkMap
theorem remove_any (g : Nat) (S : St) (p : T) (T N : Nat → Prop) (w : World) (h : VS g S T N w) (ok : OkTN T N w) (hS : WfS S) (hm : MX w) (hp : p.length ≤ 50000) (hck : S.clock ≤ 1000000000) :
   Calls Tryz.prog 63 #[.pointer (some ⟨g, 0, none⟩), .string (bs p)] w (FsPost g (removeS S p) T N w) := by
 have HH : Hs (VS g S) w := ⟨T, N, h, ok⟩
 have HA := hide (vfound_any g S p w HH hm hp)
 have hl : (foundS S p).1.length ≤ 200 := absS_len S p
 have hR : removeS S p = if (foundS S p).2 ≠ 0 then (S, (foundS S p).2) else if (foundS S p).1 = [47] then (S, 1) else if belowM S.m (foundS S p).1 ≠ [] then (S, 14) else ({ S with m := delG (bs (foundS S p).1) S.m, used := S.used - (dataM S.m (foundS S p).1).length, clock := S.clock + 1 }, 0) := rfl
 unfold AbsPost at HA
 have hdl := dataM_len hS (foundS S p).1
 have hus := hS.bytes
 have hb20 := hS.b20
 obtain ⟨q, hq⟩ : ∃ q, (foundS S p).1 = q := ⟨_, rfl⟩
 obtain ⟨e, he⟩ : ∃ q, (foundS S p).2 = q := ⟨_, rfl⟩
 rw [hq] at HA hR hl hdl
 rw [he] at HA hR
 have HBL := hide (fun W (hb : Below w.heap.size w W) => below_any g S hS q W (HH.below (VS.fr g S) hb) (by omega))
 have HR := hide hR
 have H := hide h
 have OK := hide ok
 have HWF := hide hS
 clear hR he h ok hS HH hq hm
 by_cases c1 : e = 0
 case neg =>
   obtain ⟨t1, t2⟩ := ne0 c1
   have HE := hide (HR.out.trans (if_pos c1))
   clear c1
   go_enter Tryz.func63, Tryz.ntmps63
   go_wp2_with fail
   refine HA.out.mono ?_
   rintro e w1 ⟨rfl, hb⟩
   have HB := hide hb
   clear hb
   go_wp2
   go_ret
   rw [HE.out]
   exact FsPost.stay H.out OK.out HB.out
 subst c1
 have hRQ := HR.out.trans (if_neg (by simp))
 by_cases q1 : q = [47]
 · have ht : ((bs q).toList == [47]) = true := by rw [bs_toList, q1]; rfl
   have HE := hide (hRQ.trans (if_pos q1))
   clear hRQ q1
   go_enter Tryz.func63, Tryz.ntmps63
   go_wp2_with fail
   refine HA.out.mono ?_
   rintro e w1 ⟨rfl, hb⟩
   have HB := hide hb
   clear hb
   go_wp2
   go_ret
   rw [HE.out]
   exact FsPost.stay H.out OK.out HB.out
 have ht : ((bs q).toList == [47]) = false := by rw [bs_toList]; simpa using q1
 have hRR := hRQ.trans (if_neg q1)
 clear hRQ
 obtain ⟨n, hn⟩ : ∃ n, (belowM S.m q).length = n := ⟨_, rfl⟩
 have hbn : belowM S.m q ≠ [] ↔ n ≠ 0 := by rw [← hn, Ne, Ne, List.length_eq_zero_iff]
 by_cases n0 : n = 0
 case neg =>
   have HE := hide (hRR.trans (if_pos (hbn.2 n0)))
   have hn1 : (0 : Int) < (n : Int) := by omega
   have HN := hide hn
   clear hRR q1 hn hbn n0
   go_enter Tryz.func63, Tryz.ntmps63
   go_wp2_with fail
   refine HA.out.mono ?_
   rintro e w1 ⟨rfl, hb⟩
   have HB := hide hb
   clear hb
   go_wp2_with fail
   refine (HBL.out w1 HB.out).mono ?_
   rintro e w2 ⟨⟨v, rfl, ho⟩, hb⟩
   obtain ⟨A5, c5, rfl, _, _, _⟩ := ho.slice
   rw [List.length_map, HN.out]
   have HB2 := hide (below_up HB.out hb HB.out.size)
   clear hb ho
   go_wp2
   go_ret
   rw [HE.out]
   exact FsPost.stay H.out OK.out HB2.out
 subst n0
 have HE := hide (hRR.trans (if_neg (fun h => hbn.1 h rfl)))
 have HN := hide hn
 obtain ⟨m, hmm⟩ : ∃ n, (dataM S.m q).length = n := ⟨_, rfl⟩
 rw [hmm] at hdl HE
 have HMM := hide hmm
 clear hRR q1 hn hbn hmm
 go_enter Tryz.func63, Tryz.ntmps63
 go_wp2_with fail
 refine HA.out.mono ?_
 rintro e w1 ⟨rfl, hb⟩
 have HB := hide hb
 clear hb
 go_wp2_with fail
 refine (HBL.out w1 HB.out).mono ?_
 rintro e w2 ⟨⟨v, rfl, ho⟩, hb⟩
 obtain ⟨A5, c5, rfl, _, _, _⟩ := ho.slice
 rw [List.length_map, HN.out]
 have HB2 := hide (below_up HB.out hb HB.out.size)
 clear hb ho
 have HBD := hide HB2.out.drew
 obtain ⟨hv2, ok2⟩ := H.out.stay OK.out HBD.out
 obtain ⟨b', db, A0, c0, tm, hc0', hlk, _, _, _⟩ := node_at ⟨T, N, hv2, ok2⟩ q (by omega)
 obtain ⟨b, P, h1, h2, hgb, hg, hmp, hsm, hx⟩ := hv2
 have hc0 := cellOf hg (j := 0) (v := .map (some b)) rfl
 have e := hc0.symm.trans hc0'
 injection e with e
 injection e with e
 injection e with e
 subst e
 clear hc0'
 rw [HMM.out] at hlk
 have hg' : w2.heap[g]? = some (.cells #[.map (some b), .int .i64 S.nodes, .int .i64 S.bytes, .int .i64 S.used, .int .i64 S.clock] 68) := hg
 have hq0 : w2.cell? ⟨g, 0, none⟩ = some (.map (some b)) := cellOf hg' (j := 0) rfl
 have hq3 : w2.cell? ⟨g, 3, none⟩ = some (.int .i64 S.used) := cellOf hg' (j := 3) rfl
 have hf3 := freeOf hg' 3
 have hg3 : (w2.drew.setCell ⟨g, 3, none⟩ (.int .i64 ((S.used : Int) - (m : Int)))).heap[g]? = some (.cells #[.map (some b), .int .i64 S.nodes, .int .i64 S.bytes, .int .i64 ((S.used : Int) - (m : Int)), .int .i64 S.clock] 68) := by
   rw [heapSet hg]
   rfl
 obtain ⟨w4, hrun, hm4, hk4, hsz4⟩ := ndrop (hmp.of (w' := w2.drew.setCell ⟨g, 3, none⟩ (.int .i64 ((S.used : Int) - (m : Int)))) (Below.heap_setCell _ _ _ _ (by simpa using fun e => hgb e.symm))) (s := bs q) (by rw [bs_size]; omega) 0
 have hq30 := cellOf hg3 (j := 0) (v := .map (some b)) rfl
 have hgl := (ok2.1 g h1).1
 have hg4 := (hk4.block g (by simpa using hgl) hgb).trans hg3
 have hq44 : w4.cell? ⟨g, 4, none⟩ = some (.int .i64 S.clock) := cellOf hg4 (j := 4) rfl
 have hf44 := freeOf hg4 4
 have hk3 : Kp w w4 T := ((Kp.of_below HBD.out T).trans (Kp.mono (S' := fun k => T k ∨ w.heap.size ≤ k) (⟨rfl, rfl, rfl, by simp, fun k hk hne => Below.heap_setCell _ _ _ _ (by simpa using hne)⟩ : Kp w2.drew (w2.drew.setCell ⟨g, 3, none⟩ (.int .i64 ((S.used : Int) - (m : Int)))) (fun k => k = g)) (fun k e => .inl (e ▸ h1)))).trans (hk4.mono fun k e => .inl (e ▸ h2))
 have hk5 : Kp w (w4.setCell ⟨g, 4, none⟩ (.int .i64 ((S.clock : Int) + 1))) T := hk3.trans (Kp.mono (⟨rfl, rfl, rfl, by simp, fun k hk hne => Below.heap_setCell _ _ _ _ (by simpa using hne)⟩ : Kp w4 (w4.setCell ⟨g, 4, none⟩ (.int .i64 ((S.clock : Int) + 1))) (fun k => k = g)) (fun k e => .inl (e ▸ h1)))
 have hg5 : (w4.setCell ⟨g, 4, none⟩ (.int .i64 ((S.clock : Int) + 1))).heap[g]? = some (.cells #[.map (some b), .int .i64 S.nodes, .int .i64 S.bytes, .int .i64 ((S.used : Int) - (m : Int)), .int .i64 ((S.clock : Int) + 1)] 68) := by
   rw [heapSet hg4]
   rfl
 have hm5 : MapN (w4.setCell ⟨g, 4, none⟩ (.int .i64 ((S.clock : Int) + 1))) b (delG (bs q) P) := hm4.of (Below.heap_setCell _ _ _ _ (by simpa using fun e => hgb e.symm))
 have HFS := hide (show FsPost g ({ S with m := delG (bs q) S.m, used := S.used - m, clock := S.clock + 1 }, 0) T N w (.returned (.int .i64 0)) (w4.setCell ⟨g, 4, none⟩ (.int .i64 ((S.clock : Int) + 1))) from by
   refine ⟨rfl, N, ⟨b, delG (bs q) P, h1, h2, hgb, ?_, hm5, ?_, fun x hxm => ?_⟩, GrowN.refl OK.out hk5.size, hk5⟩
   · rw [hg5]
     have e1 : (S.used : Int) - (m : Int) = ((S.used - m : Nat) : Int) := by omega
     rw [e1]
     rfl
   · show delG (bs q) S.m = _
     rw [strip_del, hsm]
   · have hxp : x ∈ P := by
       unfold delG at hxm
       exact (List.mem_filter.1 hxm).1
     have h0 := hx x hxp
     exact ⟨h0.1.of (show w2.drew.heap.size ≤ _ from by have := hk4.size; simp at this ⊢; omega) (fun a ea hl => by
       have hN := h0.2 a ea
       have hT : ¬ T a.block := fun ht => (ok2.1 _ ht).2 hN
       rw [Below.heap_setCell _ _ _ _ (by simp; exact fun e => hT (e ▸ h1)), hk4.block a.block (by simpa using hl) (fun e => hT (e ▸ h2)), Below.heap_setCell _ _ _ _ (by simp; exact fun e => hT (e ▸ h1))]), h0.2⟩)
 have wr1 : IntKind.i64.wrap ((S.used : Int) - (m : Int)) = (S.used : Int) - (m : Int) := IntWalk.i64_in _ (by omega)
 have hckI : (S.clock : Int) ≤ 1000000000 := by omega
 have hrun' : (Builtin.delete_ #[66, 9] 0 #[.map (some b), .string (bs q)]).run Tryz.prog (w2.setCell ⟨g, 3, none⟩ (.int .i64 ((S.used : Int) - (m : Int)))).drew = .ok (.tuple #[]) w4 := hrun
 clear hrun hg hmp hsm hx hg3 hm4 hk4 hg4 hk3 hk5 hg5 hm5 ok2 hsz4 hc0 hg'
 go_wp2_with fail
 go_region
 go_wp2
 go_ret
 rw [HE.out]
 exact HFS.out
end
section
open Go.RowKit Go.Deep Go.Maps Ln Pth Vf
attribute [local go_sem] bt_eq fld0 fld1 fld2 mkMap
def enZ : En := ⟨none, 0, nodeZ⟩
theorem valN_enc (o : Option En) : valN o = encN (o.getD enZ) := by
 cases o <;> rfl
theorem VS.kept {g : Nat} {T N : Nat → Prop} {w w' : World} {b : Nat} {P' : KV En} {S' : St} (h1 : T g) (h2 : T b) (hgb : g ≠ b) (ok : OkTN T N w) (hk : Kp w w' T)
   (hg : w'.heap[g]? = some (.cells #[.map (some b), .int .i64 S'.nodes, .int .i64 S'.bytes, .int .i64 S'.used, .int .i64 S'.clock] 68)) (hm : MapN w' b P') (hsm : S'.m = stripN P')
   (hx : ∀ x ∈ P', RG encB 1 w x.2.A x.2.nd.data ∧ ∀ a, x.2.A = some a → N a.block) : VS g S' T N w' :=
 ⟨b, P', h1, h2, hgb, hg, hm, hsm, fun x hxm => ⟨(hx x hxm).1.of hk.size (fun a ea hl => hk.block a.block hl (fun ht => (ok.1 _ ht).2 ((hx x hxm).2 a ea))), (hx x hxm).2⟩⟩
theorem mv_del (g : Nat) (S : St) (q : T) (T N : Nat → Prop) (w : World) (h : VS g S T N w) (ok : OkTN T N w) (hq : q.length ≤ 100000) :
   ∃ b w', w.cell? ⟨g, 0, none⟩ = some (.map (some b)) ∧ (Builtin.delete_ #[66, 9] 0 #[.map (some b), .string (bs q)]).run Tryz.prog w = .ok (.tuple #[]) w' ∧ VS g { S with m := delG (bs q) S.m } T N w' ∧ Kp w w' T := by
 obtain ⟨b, P, h1, h2, hgb, hg, hm, hsm, hx⟩ := h
 obtain ⟨w', hrun, hm', hk, hsz⟩ := ndrop hm (s := bs q) (by rw [bs_size]; omega) 0
 have hkT : Kp w w' T := hk.mono (fun k e => e ▸ h2)
 refine ⟨b, w', cellOf hg (j := 0) rfl, hrun, VS.kept h1 h2 hgb ok hkT ((hk.block g (ok.1 g h1).1 hgb).trans hg) hm' (by rw [strip_del, ← hsm]) (fun x hxm => ?_), hkT⟩
 unfold delG at hxm
 exact hx x (List.mem_filter.1 hxm).1
theorem mv_step (g : Nat) (S : St) (a b q : T) (T N : Nat → Prop) (w : World) (h : VS g S T N w) (ok : OkTN T N w) (hr : RiseG S.m) (hl : S.m.length ≤ 100000) (hq : q.length ≤ 100000) (ht : (tgt a b q).length ≤ 100000) :
   ∃ bm v w2 w3, w.cell? ⟨g, 0, none⟩ = some (.map (some bm)) ∧ (Instr.lookup 66 (.map (some bm)) (.string (bs q)) false).run Tryz.prog w.drew = .ok v w.drew ∧
     (Instr.mapUpdate 66 (.map (some bm)) (.string (bs (tgt a b q))) v).run Tryz.prog w.drew = .ok () w2 ∧ w2.cell? ⟨g, 0, none⟩ = some (.map (some bm)) ∧
     (Builtin.delete_ #[66, 9] 0 #[.map (some bm), .string (bs q)]).run Tryz.prog w2 = .ok (.tuple #[]) w3 ∧ VS g { S with m := mvStep a b S.m q } T N w3 ∧ Kp w w3 T := by
 have hb := (Below.refl w.heap.size w).drew
 obtain ⟨hd, okd⟩ := h.stay ok hb
 obtain ⟨bm, P, h1, h2, hgb, hg, hm, hsm, hx⟩ := hd
 have hlk := nlook1 hm (s := bs q) (by rw [bs_size]; omega)
 rw [valN_enc] at hlk
 have hrP : RiseG P := strip_rise.1 (hsm ▸ hr)
 have hlP : P.length ≤ 100000 := by rw [← strip_len, ← hsm]; exact hl
 obtain ⟨w2, hrun, hm2, hk2, hsz2⟩ := nstore hm hrP (by omega) (s := bs (tgt a b q)) (by rw [bs_size]; omega) ((getG P (bs q)).getD enZ)
 have hkT : Kp w.drew w2 T := hk2.mono (fun k e => e ▸ h2)
 have hen : ((getG P (bs q)).getD enZ).nd = (getG S.m (bs q)).getD nodeZ := by
   rw [hsm, strip_get]
   cases getG P (bs q) <;> rfl
 have hv2 : VS g { S with m := putG (bs (tgt a b q), (getG S.m (bs q)).getD nodeZ) S.m } T N w2 := by
   refine VS.kept h1 h2 hgb okd hkT ((hk2.block g (okd.1 g h1).1 hgb).trans hg) hm2 ?_ (fun x hxm => ?_)
   · rw [strip_put]
     dsimp only
     rw [hen, ← hsm]
   · rcases mem_putG hxm with rfl | hxm
     · dsimp only
       cases hgp : getG P (bs q) with
       | none => exact ⟨RG.nil _ _, fun a e => by cases e⟩
       | some e => exact hx _ (getG_mem hgp)
     · exact hx x hxm
 have ok2 : OkTN T N w2 := (GrowN.refl okd hkT.size).2.2.2
 obtain ⟨b2, w3, hc2, hdel, hv3, hk3⟩ := mv_del g _ q T N w2 hv2 ok2 hq
 have hbm : w2.cell? ⟨g, 0, none⟩ = some (.map (some bm)) := cellOf ((hk2.block g (okd.1 g h1).1 hgb).trans hg) (j := 0) rfl
 rw [hbm] at hc2
 injection hc2 with hc2
 injection hc2 with hc2
 injection hc2 with hc2
 subst hc2
 refine ⟨bm, _, w2, w3, cellOf (show w.heap[g]? = _ from hg) (j := 0) rfl, hlk, hrun, hbm, hdel, hv3, ?_⟩
 have e1 : Kp w w2 T := (Kp.of_below hb T).trans (hkT.mono fun k h => .inl h)
 exact e1.trans (hk3.mono fun k h => .inl h)
theorem mv_put (g : Nat) (S : St) (a b : T) (T N : Nat → Prop) (w : World) (h : VS g S T N w) (ok : OkTN T N w) (hr : RiseG S.m) (hl : S.m.length ≤ 100000) (ha : a.length ≤ 100000) (hb : b.length ≤ 100000) (hc : S.clock ≤ 1000000000) :
   ∃ bm v, w.cell? ⟨g, 0, none⟩ = some (.map (some bm)) ∧ (Instr.lookup 66 (.map (some bm)) (.string (bs a)) false).run Tryz.prog w = .ok v w ∧
     Calls Tryz.prog 32 #[.pointer (some ⟨g, 0, none⟩), .string (bs b), v] w fun e' w' => e' = .returned (.tuple #[]) ∧ VS g (Vf.putS S b ((getG S.m (bs a)).getD nodeZ).dir ((getG S.m (bs a)).getD nodeZ).data) T N w' ∧ Kp w w' T := by
 have h0 := h
 obtain ⟨bm, P, h1, h2, hgb, hg, hm, hsm, hx⟩ := h
 have hlk := nlook1 hm (s := bs a) (by rw [bs_size]; omega)
 rw [valN_enc] at hlk
 have hen : ((getG P (bs a)).getD enZ).nd = (getG S.m (bs a)).getD nodeZ := by
   rw [hsm, strip_get]
   cases getG P (bs a) <;> rfl
 have hd : RG encB 1 w ((getG P (bs a)).getD enZ).A ((getG P (bs a)).getD enZ).nd.data ∧ ∀ x, ((getG P (bs a)).getD enZ).A = some x → N x.block := by
   cases hgp : getG P (bs a) with
   | none => exact ⟨RG.nil _ _, fun a e => by cases e⟩
   | some e => exact hx _ (getG_mem hgp)
 have hp := put_any g S b ((getG P (bs a)).getD enZ) T N w h0 ok hr hl hb hc hd.1 hd.2
 rw [hen] at hp
 exact ⟨bm, _, cellOf hg (j := 0) rfl, hlk, hp⟩
theorem mvL_len (a b : T) : ∀ (L : List T) {m : Mp}, RiseG m → (mvL a b m L).length ≤ m.length + L.length
 | [], m, _ => by simp [mvL]
 | q :: L, m, h => by
   have h1 := putG_len (bs (tgt a b q), (getG m (bs q)).getD nodeZ) h
   have h2 := delG_len (bs q) (RiseG.put (bs (tgt a b q), (getG m (bs q)).getD nodeZ) h)
   have h3 := mvL_len a b L (m := mvStep a b m q) (RiseG.del (RiseG.put _ h) _)
   have h4 : (mvStep a b m q).length ≤ m.length + 1 := by
     unfold mvStep
     split at h1 <;> omega
   show (mvL a b (mvStep a b m q) L).length ≤ _
   rw [List.length_cons]
   omega
theorem mvL_take {a b : T} {m : Mp} {L : List T} {k : Nat} {x : T} (h : L[k]? = some x) : mvL a b m (L.take (k + 1)) = mvStep a b (mvL a b m (L.take k)) x := by
 rw [List.take_add_one, h]
 unfold mvL
 rw [List.foldl_append]
 rfl
theorem Kp.andThen {w w' w'' : World} {S : Nat → Prop} (h : Kp w w' S) (h' : Kp w' w'' S) : Kp w w'' S := h.trans (h'.mono fun k e => .inl e)
theorem SR.kp {w w' : World} {A : Option Addr} {L : List ByteArray} {T : Nat → Prop} (h : SR w A L) (hk : Kp w w' T) (hn : ∀ a, A = some a → ¬ T a.block) : SR w' A L := fun k s hs => by
 obtain ⟨g, o, e, hg, hc⟩ := h k s hs
 exact ⟨g, o, e, Nat.lt_of_lt_of_le hg hk.size, (World.cell?_of_block (a := ⟨g, o + k, none⟩) (hk.block g hg (hn _ e))).trans hc⟩
theorem move_any (g : Nat) (S : St) (p q : T) (T N : Nat → Prop) (w : World) (h : VS g S T N w) (ok : OkTN T N w) (hS : WfS S) (hm : MX w) (hp : p.length ≤ 50000) (hq : q.length ≤ 50000) (hck : S.clock ≤ 1000000000) :
   Calls Tryz.prog 67 #[.pointer (some ⟨g, 0, none⟩), .string (bs p), .string (bs q)] w (FsPost g (moveS S p q) T N w) := by
 have HH : Hs (VS g S) w := ⟨T, N, h, ok⟩
 have HA1 := hide (abs_any [47] p w hm (by simp) (by omega))
 have HA2 := hide (fun W (hb : Below w.heap.size w W) => abs_any [47] q W (hm.below hb) (by simp) (by omega))
 have HF := hide (fun W (hb : Below w.heap.size w W) => vfound_any g S p W (HH.below (VS.fr g S) hb) (hm.below hb) hp)
 have HB := hide (fun W (hb : Below w.heap.size w W) => vabs_any g S q W (HH.below (VS.fr g S) hb) (hm.below hb) hq)
 have hxl : (foundS S p).1.length ≤ 200 := absS_len S p
 have hyl : (absS S q).1.length ≤ 200 := absS_len S q
 have HMY := hide (fun W (hb : Below w.heap.size w W) => vmay_any g S hS (foundS S p).1 (absS S q).1 W (HH.below (VS.fr g S) hb) (hm.below hb) hxl hyl)
 have hR : moveS S p q = if (absF [47] p).2 ≠ 0 then (S, (absF [47] p).2) else if (absF [47] q).2 ≠ 0 then (S, (absF [47] q).2) else
   if (foundS S p).2 ≠ 0 then (S, (foundS S p).2) else if (foundS S p).1 = [47] then (S, 1) else
   if (absS S q).2 ≠ 0 then (S, (absS S q).2) else if (foundS S p).1 = (absS S q).1 then (S, 0) else
   if mayS S.m (foundS S p).1 (absS S q).1 ≠ 0 then (S, mayS S.m (foundS S p).1 (absS S q).1) else (moveQ S (foundS S p).1 (absS S q).1, 0) := rfl
 have hdl0 := dataM_len hS (absS S q).1
 have hus := hS.bytes
 have hb20 := hS.b20
 obtain ⟨R, hRe⟩ : ∃ R, moveS S p q = R := ⟨_, rfl⟩
 rw [hRe] at hR ⊢
 unfold AbsPost at HA1 HA2 HF HB
 obtain ⟨r1, hr1⟩ : ∃ r, absF [47] p = r := ⟨_, rfl⟩
 obtain ⟨x1, e1⟩ := r1
 rw [hr1] at HA1 hR
 obtain ⟨r2, hr2⟩ : ∃ r, absF [47] q = r := ⟨_, rfl⟩
 obtain ⟨y1, e2⟩ := r2
 rw [hr2] at HA2 hR
 obtain ⟨r3, hr3⟩ : ∃ r, foundS S p = r := ⟨_, rfl⟩
 obtain ⟨x, e3⟩ := r3
 rw [hr3] at HF HMY hR hxl
 obtain ⟨r4, hr4⟩ : ∃ r, absS S q = r := ⟨_, rfl⟩
 obtain ⟨y, e4⟩ := r4
 rw [hr4] at HB HMY hR hyl hdl0
 dsimp only at HA1 HA2 HF HB HMY hR hxl hyl hdl0
 rw [show bs [47] = (⟨#[47]⟩ : ByteArray) from rfl] at HA1 HA2
 obtain ⟨my, hmy⟩ : ∃ r, mayS S.m x y = r := ⟨_, rfl⟩
 rw [hmy] at HMY hR
 have HR := hide hR
 have H := hide h
 have OK := hide ok
 have HWF := hide hS
 clear hRe hr1 hr2 hr3 hr4 hmy hR h ok hS HH hm hp hq
 go_enter Tryz.func67, Tryz.ntmps67
 go_wp2_with fail
 refine HA1.out.mono ?_
 rintro e w1 ⟨rfl, hb1⟩
 have HB1 := hide hb1
 clear hb1 HA1
 by_cases c1 : e1 = 0
 case neg =>
   obtain ⟨t1, t2⟩ := ne0 c1
   have HE := hide (HR.out.trans (if_pos c1))
   clear c1
   go_wp2
   go_ret
   rw [HE.out]
   exact FsPost.stay H.out OK.out HB1.out
 subst c1
 have HR1 := hide (HR.out.trans (if_neg (by simp)))
 clear HR
 go_wp2_with fail
 refine (HA2.out w1 HB1.out).mono ?_
 rintro e w2 ⟨rfl, hb2⟩
 have HB2 := hide (below_up HB1.out hb2 HB1.out.size)
 clear hb2 HA2
 by_cases c2 : e2 = 0
 case neg =>
   obtain ⟨t1, t2⟩ := ne0 c2
   have HE := hide (HR1.out.trans (if_pos c2))
   clear c2
   go_wp2
   go_ret
   rw [HE.out]
   exact FsPost.stay H.out OK.out HB2.out
 subst c2
 have HR2 := hide (HR1.out.trans (if_neg (by simp)))
 clear HR1 HB1
 go_wp2_with fail
 refine (HF.out w2 HB2.out).mono ?_
 rintro e w3 ⟨rfl, hb3⟩
 have HB3 := hide (below_up HB2.out hb3 HB2.out.size)
 clear hb3 HF HB2
 by_cases c3 : e3 = 0
 case neg =>
   obtain ⟨t1, t2⟩ := ne0 c3
   have HE := hide (HR2.out.trans (if_pos c3))
   clear c3
   go_wp2
   go_ret
   rw [HE.out]
   exact FsPost.stay H.out OK.out HB3.out
 subst c3
 have HR3 := hide (HR2.out.trans (if_neg (by simp)))
 clear HR2
 by_cases c4 : x = [47]
 · have ht : ((bs x).toList == [47]) = true := by rw [bs_toList, c4]; rfl
   have HE := hide (HR3.out.trans (if_pos c4))
   clear c4
   go_wp2
   go_ret
   rw [HE.out]
   exact FsPost.stay H.out OK.out HB3.out
 have ht : ((bs x).toList == [47]) = false := by rw [bs_toList]; simpa using c4
 have HR4 := hide (HR3.out.trans (if_neg c4))
 clear HR3 c4
 go_wp2_with fail
 refine (HB.out w3 HB3.out).mono ?_
 rintro e w4 ⟨rfl, hb4⟩
 have HB4 := hide (below_up HB3.out hb4 HB3.out.size)
 clear hb4 HB HB3
 by_cases c5 : e4 = 0
 case neg =>
   obtain ⟨t1, t2⟩ := ne0 c5
   have HE := hide (HR4.out.trans (if_pos c5))
   clear c5
   go_wp2
   go_ret
   rw [HE.out]
   exact FsPost.stay H.out OK.out HB4.out
 subst c5
 have HR5 := hide (HR4.out.trans (if_neg (by simp)))
 clear HR4
 by_cases c6 : x = y
 · have ht2 : ((bs x).toList == (bs y).toList) = true := by rw [c6]; simp
   have HE := hide (HR5.out.trans (if_pos c6))
   clear c6
   go_wp2
   go_ret
   rw [HE.out]
   exact FsPost.stay H.out OK.out HB4.out
 have ht2 : ((bs x).toList == (bs y).toList) = false := by rw [bs_toList, bs_toList]; simpa using c6
 have HR6 := hide (HR5.out.trans (if_neg c6))
 clear HR5 c6
 go_wp2_with fail
 refine (HMY.out w4 HB4.out).mono ?_
 rintro e w5 ⟨rfl, hb5⟩
 have HB5 := hide (below_up HB4.out hb5 HB4.out.size)
 clear hb5 HMY HB4
 by_cases c7 : my = 0
 case neg =>
   obtain ⟨t1, t2⟩ := ne0 c7
   have HE := hide (HR6.out.trans (if_pos c7))
   clear c7
   go_wp2
   go_ret
   rw [HE.out]
   exact FsPost.stay H.out OK.out HB5.out
 subst c7
 have HE := hide (HR6.out.trans (if_neg (by simp)))
 clear HR6
 have HBD := hide HB5.out.drew
 obtain ⟨hv5, ok5⟩ := H.out.stay OK.out HBD.out
 obtain ⟨b, db, A0, c0, tm, hc0', hlk, _, _, _⟩ := node_at ⟨T, N, hv5, ok5⟩ y (by omega)
 have hg5 : ∃ b : Nat, w5.heap[g]? = some (.cells #[.map (some b), .int .i64 S.nodes, .int .i64 S.bytes, .int .i64 S.used, .int .i64 S.clock] 68) ∧ T g := by
   obtain ⟨b, P, h1, h2, hgb, hg, hmp, hsm, hx⟩ := hv5
   exact ⟨b, hg, h1⟩
 obtain ⟨b', hg5, hTg⟩ := hg5
 have hq0 := cellOf hg5 (j := 0) (v := .map (some b')) rfl
 have hq3 := cellOf hg5 (j := 3) (v := .int .i64 S.used) rfl
 have hf3 := freeOf hg5 3
 have eb := hq0.symm.trans hc0'
 injection eb with eb
 injection eb with eb
 injection eb with eb
 subst eb
 clear hc0'
 obtain ⟨m, hmm⟩ : ∃ n, (dataM S.m y).length = n := ⟨_, rfl⟩
 rw [hmm] at hdl0 hlk
 have e1 : ((S.used - m : Nat) : Int) = (S.used : Int) - (m : Int) := by omega
 have wr1 : IntKind.i64.wrap ((S.used : Int) - (m : Int)) = (S.used : Int) - (m : Int) := IntWalk.i64_in _ (by omega)
 have hkS := kpSet w5.drew g 3 (.int .i64 (S.used - m : Nat))
 obtain ⟨hv6, ok6⟩ := hv5.used ok5 (S.used - m) hkS
 rw [e1] at hv6 ok6 hkS
 have hk6 : Kp w (w5.drew.setCell ⟨g, 3, none⟩ (.int .i64 ((S.used : Int) - (m : Int)))) T := (Kp.of_below HBD.out T).trans (hkS.mono (fun k e => .inl (e ▸ hTg)))
 obtain ⟨W6, hW6⟩ : ∃ W, (w5.setCell ⟨g, 3, none⟩ (.int .i64 ((S.used : Int) - (m : Int)))).drew = W := ⟨_, rfl⟩
 have hW6' : w5.drew.setCell ⟨g, 3, none⟩ (.int .i64 ((S.used : Int) - (m : Int))) = W6 := hW6
 rw [hW6'] at hv6 ok6 hk6
 have HV6 := hide hv6
 have OK6 := hide ok6
 have HK6 := hide hk6
 have hri := HWF.out.rise
 have hcnt := below_count HWF.out x
 have hln : S.m.length ≤ 10000 := by have := HWF.out.nodes; have := HWF.out.n10; omega
 have HBA := hide (below_anyR g { S with used := S.used - m } hri hln x W6 ⟨T, N, hv6, ok6⟩ (by omega))
 have HMEM := hide (fun z hz => below_mem HWF.out (a := x) (x := z) hz)
 have HLR := hide (And.intro hri hln)
 have HQ : moveQ S x y = { S with m := delG (bs x) (putG (bs y, (⟨((getG (mvL x y S.m (belowM S.m x)) (bs x)).getD nodeZ).dir, ((getG (mvL x y S.m (belowM S.m x)) (bs x)).getD nodeZ).data, S.clock + 1⟩ : Nd)) (mvL x y S.m (belowM S.m x))), used := S.used - (dataM S.m y).length, clock := S.clock + 1 } := rfl
 rw [hmm] at HQ
 dsimp only at HBA
 obtain ⟨LA, hLA⟩ : ∃ L, belowM S.m x = L := ⟨_, rfl⟩
 rw [hLA] at HBA HMEM HQ hcnt
 have HQH := hide HQ
 clear hv5 ok5 hkS hv6 ok6 hk6 hW6' hri hln HQ hLA hmm hg5
 go_wp2_with fail
 go_region
 go_wp2_with fail
 refine HBA.out.mono ?_
 rintro e w7 ⟨⟨v, rfl, ho⟩, hb7⟩
 have hA7 := ho.lt
 obtain ⟨A, c, rfl, hc, hsr, _⟩ := ho.slice
 rw [List.length_map] at hc ⊢
 have HSR := hide hsr
 have hv7 := HV6.out.stay OK6.out hb7
 have HV7 := hide hv7.1
 have OK7 := hide hv7.2
 have HK7 := hide (show Kp w w7 T from HK6.out.trans (Kp.of_below hb7 _))
 have HNT := hide (show ∀ a, A = some a → ¬ T a.block from fun a e hT => by
   have h1 := (hA7 a.block (by rw [e]; rfl)).1
   have h2 := (OK6.out.1 _ hT).1
   omega)
 clear ho hb7 hsr hv7 hA7 HBA
 obtain ⟨n, hn⟩ : ∃ n, LA.length = n := ⟨_, rfl⟩
 have HN := hide hn
 rw [hn] at hc hcnt ⊢
 clear hn
 have hn1 : (n : Int) ≤ 10000 := by omega
 go_wp2
 go_loopw [14, 82] (fun _ v82 wr => ∃ k : Nat, v82 = .int .i64 k ∧ k ≤ n ∧ Hid (VS g { S with used := S.used - m, m := mvL x y S.m (LA.take k) } T N wr) ∧ Hid (OkTN T N wr) ∧ Hid (Kp w7 wr T)) (fun _ v82 _ => n - (intOf v82).toNat)
 case atStart => exact ⟨0, rfl, by omega, HV7.out, OK7.out, Kp.refl _ _⟩
 case round =>
   obtain ⟨k, rfl, hk, HVK, HOK, HKK⟩ := hrel
   have hLr : RiseG (mvL x y S.m (LA.take k)) := mvL_rise x y _ HLR.out.1
   have hLl : (mvL x y S.m (LA.take k)).length ≤ 20000 := by
     have h1 := mvL_len x y (LA.take k) HLR.out.1
     have h2 := HLR.out.2
     rw [List.length_take] at h1
     omega
   by_cases hlt : k < n
   · obtain ⟨z, hz⟩ : ∃ z, LA[k]? = some z := ⟨LA[k]'(by have := HN.out; omega), gE _⟩
     obtain ⟨gs, o, rfl, hg, hcx⟩ := (HSR.out.kp HKK.out HNT.out) k (bs z) (by rw [List.getElem?_map, hz]; rfl)
     obtain ⟨hx1, hx2⟩ := HMEM.out z (List.mem_of_getElem? hz)
     have zx : (bs z).size = z.length := bs_size z
     have za : (bs x).size = x.length := bs_size x
     have HEX := hide (show (bs z).extract x.length (bs z).size = bs (z.drop x.length) by rw [ext_bs, bs_size, List.take_of_length_le (by rw [List.length_drop]; omega)])
     have HAP := hide (bs_app y (z.drop x.length))
     have htl : (tgt x y z).length ≤ 400 := by unfold tgt; rw [List.length_append, List.length_drop]; omega
     have zd : (bs (z.drop x.length)).size = z.length - x.length := by rw [bs_size, List.length_drop]
     have zb : (bs y).size = y.length := bs_size y
     have hst := mv_step g _ x y z T N wr HVK.out HOK.out hLr (by dsimp only; omega) (by omega) (by omega)
     have htk := mvL_take (a := x) (b := y) (m := S.m) hz
     dsimp only at hst
     rw [← htk] at hst
     obtain ⟨bm, v, w8, w9, hc0, hlk2, hst2, hc2, hdl2, hv9, hk9⟩ := hst
     rw [show bs (tgt x y z) = bs y ++ bs (z.drop x.length) from HAP.out.symm] at hst2
     have HV9 := hide hv9
     have HK9 := hide hk9
     have HOK9 := hide ((GrowN.refl HOK.out hk9.size).2.2.2)
     have b1 : (k : Int) < (n : Int) := by omega
     obtain ⟨xl, hxl'⟩ : ∃ n, x.length = n := ⟨_, rfl⟩
     obtain ⟨zl, hzl'⟩ : ∃ n, z.length = n := ⟨_, rfl⟩
     obtain ⟨yl, hyl'⟩ : ∃ n, y.length = n := ⟨_, rfl⟩
     rw [hxl'] at zd hx1 za HEX hst2 hxl
     rw [hzl'] at zd hx1 hx2 zx
     rw [hyl'] at zb hyl
     rw [zx] at HEX
     rw [← HEX.out] at zd hst2
     clear hz hLr hLl htl htk hv9 hk9 hxl' hzl' hyl'
     go_wp2_with fail
     go_region
     go_wp2
     go_roundw
     case rel => exact ⟨k + 1, by go_num, by omega, HV9.out, HOK9.out, HKK.out.andThen HK9.out⟩
     case measure => simp [intOf]; omega
   · obtain rfl : k = n := by omega
     have htk : LA.take k = LA := List.take_of_length_le (by have := HN.out; omega)
     rw [htk] at HVK hLr hLl
     obtain ⟨bm, v, hc0, hlk2, hput⟩ := mv_put g _ x y T N wr HVK.out HOK.out hLr (by dsimp only; omega) (by omega) (by omega) hck
     have HPUT := hide hput
     clear hLr hLl htk hput
     go_wp2_with fail
     refine HPUT.out.mono ?_
     rintro e w8 ⟨rfl, hv8, hk8⟩
     have ok8 := (GrowN.refl HOK.out hk8.size).2.2.2
     obtain ⟨b9, w9, hc9, hdl9, hv9, hk9⟩ := mv_del g _ x T N w8 hv8 ok8 (by omega)
     have HV9 := hide hv9
     have HK9 := hide (HK7.out.trans ((HKK.out.andThen (hk8.andThen hk9)).mono (fun k h => .inl h)))
     clear hv8 hk8 ok8 hv9 hk9
     go_wp2
     go_ret
     rw [HE.out]
     refine ⟨rfl, N, ?_, GrowN.refl OK.out HK9.out.size, HK9.out⟩
     have := HV9.out
     dsimp only at this ⊢
     rw [HQH.out]
     exact this
end
section
open Go.RowKit Go.Deep Go.ChangeShapes Go.WideShapes
theorem choose_list {α : Type} {P : Nat → α → Prop} : ∀ n, (∀ i, i < n → ∃ x, P i x) → ∃ L : List α, L.length = n ∧ ∀ i x, L[i]? = some x → P i x
 | 0, _ => ⟨[], rfl, fun i x h => by simp at h⟩
 | n + 1, h => by
   obtain ⟨L, hl, hL⟩ := choose_list n (fun i hi => h i (by omega))
   obtain ⟨x, hx⟩ := h n (by omega)
   refine ⟨L ++ [x], by simp [hl], fun i y hy => ?_⟩
   by_cases hi : i < L.length
   · rw [List.getElem?_append_left hi] at hy
     exact hL i y hy
   · rw [List.getElem?_append_right (by omega)] at hy
     have : i - L.length = 0 := by
       have := (List.getElem?_eq_some_iff.1 hy).1
       simp at this
       omega
     rw [this] at hy
     simp at hy
     subst hy
     rw [show i = n by omega]
     exact hx
theorem add_offR (b off k : Nat) : (Addr.mk b off none).add k = ⟨b, off + k, none⟩ := by
 unfold Addr.add
 split
 · rename_i h0; subst h0; rfl
 · rfl
def CellsAt (w : World) (g o : Nat) (cs : List Value) : Prop := ∀ j v, cs[j]? = some v → w.cell? ⟨g, o + j, none⟩ = some v
def RowsAt {α : Type} (n : Nat) (good : World → α → List Value → Prop) (w : World) (A : Option Addr) (L : List α) : Prop :=
 ∀ k x, L[k]? = some x → ∃ g o cs, A = some ⟨g, o, none⟩ ∧ g < w.heap.size ∧ cs.length = n ∧ CellsAt w g (o + k * n) cs ∧ good w x cs
theorem open_rows {H α : Type} {enc : TypeId × Value → H} {P : Program} {w : World} {spare : Nat → Bool} {held : Bool} {t e : TypeId} {n : Nat} (ht : P.underlying t = some (.slice e)) (hn : P.cellsOf e = n) (h0 : 0 < n) (good : World → α → List Value → Prop)
   (each : ∀ fuel cs y, cs.length = n → DataW.trod enc P w 0 spare held fuel e cs = some y → ∃ x, good w x cs)
   {a0 : Option Addr} {len cap : Nat} {d : DataW H} {ps : List MemPlace} (h : DataW.Trod enc P w 0 spare held t (.slice a0 len cap) d ps) :
   ∃ L : List α, L.length = len ∧ L.length ≤ maxLen ∧ (∀ x ∈ L, ∃ cs, good w x cs) ∧ RowsAt n good w a0 L := by
 obtain ⟨fuel, hf⟩ := h
 rcases open_slice ht hf with ⟨hcs, hx⟩ | ⟨a, len', cap', m, fl, D, Pl, hcs, _, hl, hm, hmm, _, hx⟩
 · simp [Value.cells] at hcs
   obtain ⟨rfl, rfl, rfl⟩ := hcs
   exact ⟨[], rfl, Nat.zero_le _, fun x hx => by simp at hx, fun k x hk => by simp at hk⟩
 · simp [Value.cells] at hcs
   obtain ⟨rfl, rfl, rfl⟩ := hcs
   have hlm : len ≤ m := by rw [hmm]; split <;> omega
   obtain ⟨L, hL, hLx⟩ := choose_list (P := fun i x => ∃ cs, cs.length = n ∧ (∀ j v, cs[j]? = some v → w.cell? ((a.add (i * n)).add j) = some v) ∧ good w x cs) len (fun i hi => by
     obtain ⟨cs', h1, h2⟩ := hx i (by omega)
     rw [hn] at h1
     obtain ⟨_, hlen, hcell⟩ := World.cells?_some h1
     obtain ⟨x, hx⟩ := each _ _ _ hlen h2
     refine ⟨x, cs', hlen, fun j v hj => ?_, hx⟩
     have hjn : j < n := by
       have := (List.getElem?_eq_some_iff.1 hj).1
       omega
     have := hcell j hjn
     rw [hj] at this
     exact this)
   refine ⟨L, hL, by omega, fun x hx => ?_, fun k x hk => ?_⟩
   · obtain ⟨i, hi⟩ := List.getElem?_of_mem hx
     obtain ⟨cs, _, _, hg⟩ := hLx i x hi
     exact ⟨cs, hg⟩
   · obtain ⟨cs, h1, h2, h3⟩ := hLx k x hk
     obtain ⟨b, off, spot⟩ := a
     have hk2 : k < len := by
       have := (List.getElem?_eq_some_iff.1 hk).1
       omega
     obtain ⟨v0, hv0⟩ : ∃ v, cs[0]? = some v := ⟨cs[0]'(by omega), gE _⟩
     have hc0 := h2 0 v0 hv0
     have hspot : spot = none := by
       obtain ⟨x0, hx0⟩ : ∃ x, L[0]? = some x := ⟨L[0]'(by omega), gE _⟩
       obtain ⟨cs0, q1, q2, _⟩ := hLx 0 x0 hx0
       obtain ⟨u0, hu0⟩ : ∃ v, cs0[0]? = some v := ⟨cs0[0]'(by omega), gE _⟩
       have := q2 0 u0 hu0
       rw [Nat.zero_mul] at this
       simpa [Addr.add] using World.cell?_spot this
     subst hspot
     refine ⟨b, off, cs, rfl, ?_, h1, fun j v hj => ?_, h3⟩
     · rw [add_offR, add_offR] at hc0
       exact World.block_lt_of_cell? w _ hc0
     · have := h2 j v hj
       rw [add_offR, add_offR] at this
       exact this
end
section
open Go.RowKit Go.Deep Go.ChangeShapes Go.WideShapes
end
section
open Go.RowKit Go.Deep Go.ChangeShapes Go.WideShapes
end
section
open Go.RowKit Go.Deep Go.ChangeShapes Go.WideShapes
end
section
open Go.RowKit Go.Deep Go.ChangeShapes Go.WideShapes Ln Pth Vf
structure Ac4 where
 way : Int
 p : ByteArray
 q : ByteArray
 A : Option Addr
 c : Nat
 b : T
 more : Bool
def encA4 (x : Ac4) : List Value := [.int .i64 x.way, .string x.p, .string x.q, .slice x.A x.b.length x.c, .bool x.more]
def AR4 (w : World) (A : Option Addr) (L : List Ac4) : Prop := RG encA4 5 w A L ∧ ∀ x ∈ L, RG encB 1 w x.A x.b
theorem AR4.below {w w' : World} {A : Option Addr} {L : List Ac4} (h : AR4 w A L) (hb : Below w.heap.size w w') : AR4 w' A L := ⟨h.1.below hb, fun x hx => (h.2 x hx).below hb⟩
theorem open_BY {H : Type} {enc : TypeId × Value → H} {W : World} {a0 : Option Addr} {len cap : Nat} {d : DataW H} {ps : List MemPlace} (h : DataW.Trod enc Tryz.prog W 0 (fun _ => true) true 29 (.slice a0 len cap) d ps) :
   ∃ L : T, L.length = len ∧ L.length ≤ maxLen ∧ RG encB 1 W a0 L := by
 obtain ⟨L, h1, h2, h3, h4⟩ := open_rows (n := 1) (good := fun _ (x : UInt8) cs => cs = encB x) Tryz.underlying29 (by kernel_rfl) (by omega) (fun fuel cs y hlen hy => by
   match cs, hlen with
   | [v0], _ =>
     obtain ⟨a, q0, _, hw⟩ := DataW.trod_int Tryz.underlying5 hy
     have e0 : [v0] = [.int .u8 a] := q0
     obtain rfl : v0 = .int .u8 a := List.cons.inj e0 |>.1
     have h2 : 0 ≤ a ∧ a ≤ 255 := by simpa [Lit.wf, IntKind.min, IntKind.max, IntKind.signed, IntKind.bits] using hw
     refine ⟨UInt8.ofNat a.toNat, ?_⟩
     unfold encB
     have : ((UInt8.ofNat a.toNat).toNat : Int) = a := by
       rw [UInt8.toNat_ofNat']
       omega
     rw [this]) h
 refine ⟨L, h1, h2, fun k x hk => ?_⟩
 obtain ⟨g, o, cs, e, hg, _, hc, rfl⟩ := h4 k x hk
 exact ⟨g, o, e, hg, fun j v hj => hc j v hj⟩
theorem open_A4one {H : Type} {enc : TypeId × Value → H} {W : World} {fuel : Nat} {cs : List Value} {y : DataW H × List MemPlace} (hlen : cs.length = 5) (hy : DataW.trod enc Tryz.prog W 0 (fun _ => true) true fuel 61 cs = some y) :
   ∃ x : Ac4, cs = encA4 x ∧ (x.p.size ≤ maxLen ∧ x.q.size ≤ maxLen ∧ x.b.length ≤ maxLen ∧ -9223372036854775808 ≤ x.way ∧ x.way ≤ 9223372036854775807) ∧ RG encB 1 W x.A x.b := by
 obtain ⟨xs, k, hk, hxy, _, hxl, hf⟩ := DataW.trod_struct Tryz.underlying61 hy
 match xs, hxl, cs, hlen with
 | [y0, y1, y2, y3, y4], _, [v0, v1, v2, v3, v4], _ =>
   obtain ⟨a, q0, _, hw⟩ := DataW.trod_int Tryz.underlying3 (hf 0 _ rfl)
   obtain ⟨s, q1, _, l1⟩ := DataW.trod_string Tryz.underlying9 (hf 1 _ rfl)
   obtain ⟨t, q2, _, l2⟩ := DataW.trod_string Tryz.underlying9 (hf 2 _ rfl)
   obtain ⟨b, q4, _⟩ := DataW.trod_bool Tryz.underlying4 (hf 4 _ rfl)
   have e0 : [v0] = [.int .i64 a] := q0
   have e1 : [v1] = [.string s] := q1
   have e2 : [v2] = [.string t] := q2
   have e4 : [v4] = [.bool b] := q4
   clear q0 q1 q2 q4
   obtain rfl : v0 = .int .i64 a := List.cons.inj e0 |>.1
   obtain rfl : v1 = .string s := List.cons.inj e1 |>.1
   obtain rfl : v2 = .string t := List.cons.inj e2 |>.1
   obtain rfl : v4 = .bool b := List.cons.inj e4 |>.1
   have h3 := hf 3 _ rfl
   have hw2 : IntKind.i64.min ≤ a ∧ a ≤ 9223372036854775807 := by simpa [Lit.wf] using hw
   rw [show IntKind.i64.min = -9223372036854775808 by decide] at hw2
   have h3' : DataW.trod enc Tryz.prog W 0 (fun _ => true) true k 29 [v3] = some y3 := h3
   obtain ⟨A, len', c, rfl⟩ : ∃ A l c, v3 = .slice A l c := by
     rcases open_slice Tryz.underlying29 h3' with ⟨hcs, _⟩ | ⟨a, len', cap', m, fl, D, Pl, hcs, _⟩
     · exact ⟨_, _, _, (List.cons.inj hcs).1⟩
     · exact ⟨_, _, _, (List.cons.inj hcs).1⟩
   obtain ⟨L, rfl, m0, r0⟩ := open_BY (show DataW.Trod enc Tryz.prog W 0 (fun _ => true) true 29 (.slice A len' c) y3.1 y3.2 from ⟨k, h3'⟩)
   exact ⟨⟨a, s, t, A, c, L, b⟩, rfl, ⟨l1, l2, m0, hw2⟩, r0⟩
theorem open_A4 {H : Type} {enc : TypeId × Value → H} {W : World} {a0 : Option Addr} {len cap : Nat} {d : DataW H} {ps : List MemPlace} (h : DataW.Trod enc Tryz.prog W 0 (fun _ => true) true 55 (.slice a0 len cap) d ps) :
   ∃ L : List Ac4, L.length = len ∧ L.length ≤ maxLen ∧ (∀ x ∈ L, x.p.size ≤ maxLen ∧ x.q.size ≤ maxLen ∧ x.b.length ≤ maxLen ∧ -9223372036854775808 ≤ x.way ∧ x.way ≤ 9223372036854775807) ∧ AR4 W a0 L := by
 obtain ⟨L, h1, h2, h3, h4⟩ := open_rows (n := 5) (good := fun w (x : Ac4) cs => cs = encA4 x ∧ (x.p.size ≤ maxLen ∧ x.q.size ≤ maxLen ∧ x.b.length ≤ maxLen ∧ -9223372036854775808 ≤ x.way ∧ x.way ≤ 9223372036854775807) ∧ RG encB 1 w x.A x.b) Tryz.underlying55 (by kernel_rfl) (by omega) (fun fuel cs y hlen hy => open_A4one hlen hy) h
 refine ⟨L, h1, h2, fun x hx => by obtain ⟨cs, hg⟩ := h3 x hx; exact hg.2.1, fun k x hk => ?_, fun x hx => by obtain ⟨cs, hg⟩ := h3 x hx; exact hg.2.2⟩
 obtain ⟨g, o, cs, e, hg, _, hc, ⟨rfl, _⟩⟩ := h4 k x hk
 exact ⟨g, o, e, hg, fun j v hj => hc j v hj⟩
def szA (x : Ac4) : Prop := x.p.size ≤ 9223372036854775807 ∧ x.q.size ≤ 9223372036854775807 ∧ x.b.length ≤ 9223372036854775807
end
section
open Go.RowKit Go.Deep Go.Maps Ln Pth Vf
theorem rmove4_any (g : Nat) (S : St) (A : Option Addr) (c : Nat) (P : List NV) (p q : T) (w : World) (h : RSO g S A c P w) (hS : WfS S) (t : HangS S) (hp : p.length ≤ 50000) (hq : q.length ≤ 50000) (hck : S.clock ≤ 1000000000) :
   Calls Tryz.prog 68 #[.pointer (some ⟨g, 0, none⟩), .string (bs p), .string (bs q)] w fun e w' => e = .returned (.int .i64 (moveS S p q).2) ∧ RK g (moveS S p q).1 w A P w' := by
 have hk := kind_le S.m (absF [47] q).1
 have h3 : kindM S.m (absF [47] q).1 = 0 ∨ kindM S.m (absF [47] q).1 = 1 ∨ kindM S.m (absF [47] q).1 = 2 := by omega
 rcases h3 with h0 | h0 | h0
 · exact rmove4_k0 g S A c P p q w h hS t hp hq hck h0
 · exact rmove4_k1 g S A c P p q w h hS t hp hq hck h0
 · exact rmove4_k2 g S A c P p q w h hS t hp hq hck h0
end
section
open Go.RowKit Go.Deep Go.Maps Ln Pth Vf
def pT (x : Ac4) : T := x.p.data.toList
def qT (x : Ac4) : T := x.q.data.toList
def doS (S : St) (x : Ac4) : St × Nat :=
 if x.way = 0 then writeS S (pT x) x.b x.more else if x.way = 1 then mkdirS S (pT x) else if x.way = 2 then removeS S (pT x) else if x.way = 3 then touchS S (pT x) else
 if x.way = 4 then moveS S (pT x) (qT x) else (S, 0)
structure GoodS (S : St) (nodes bytes n : Nat) : Prop where
 wf : WfS S
 hang : HangS S
 nodes : S.nodes = nodes
 bytes : S.bytes = bytes
 clock : S.clock ≤ n
theorem writeS_cs (S : St) (p b : T) (more : Bool) : (writeS S p b more).1.nodes = S.nodes ∧ (writeS S p b more).1.bytes = S.bytes ∧ S.clock ≤ (writeS S p b more).1.clock ∧ (writeS S p b more).1.clock ≤ S.clock + 1 := by
 unfold writeS
 split
 · exact ⟨rfl, rfl, Nat.le_refl _, Nat.le_succ _⟩
 · unfold writeQ
   split
   · exact ⟨rfl, rfl, Nat.le_refl _, Nat.le_succ _⟩
   · dsimp only
     generalize (if kindM S.m (absS S p).1 = 0 then 1 else 0) = z
     generalize (if more = true then dataM S.m (absS S p).1 else []) = was
     split
     · exact ⟨rfl, rfl, Nat.le_succ _, Nat.le_refl _⟩
     · exact ⟨rfl, rfl, Nat.le_refl _, Nat.le_succ _⟩
theorem mkdirS_cs (S : St) (p : T) : (mkdirS S p).1.nodes = S.nodes ∧ (mkdirS S p).1.bytes = S.bytes ∧ S.clock ≤ (mkdirS S p).1.clock ∧ (mkdirS S p).1.clock ≤ S.clock + 1 := by
 unfold mkdirS
 split
 · exact ⟨rfl, rfl, Nat.le_refl _, Nat.le_succ _⟩
 · split
   · exact ⟨rfl, rfl, Nat.le_refl _, Nat.le_succ _⟩
   · split
     · exact ⟨rfl, rfl, Nat.le_succ _, Nat.le_refl _⟩
     · exact ⟨rfl, rfl, Nat.le_refl _, Nat.le_succ _⟩
theorem removeS_cs (S : St) (p : T) : (removeS S p).1.nodes = S.nodes ∧ (removeS S p).1.bytes = S.bytes ∧ S.clock ≤ (removeS S p).1.clock ∧ (removeS S p).1.clock ≤ S.clock + 1 := by
 unfold removeS
 split
 · exact ⟨rfl, rfl, Nat.le_refl _, Nat.le_succ _⟩
 · split
   · exact ⟨rfl, rfl, Nat.le_refl _, Nat.le_succ _⟩
   · split
     · exact ⟨rfl, rfl, Nat.le_refl _, Nat.le_succ _⟩
     · exact ⟨rfl, rfl, Nat.le_succ _, Nat.le_refl _⟩
theorem touchS_cs (S : St) (p : T) : (touchS S p).1.nodes = S.nodes ∧ (touchS S p).1.bytes = S.bytes ∧ S.clock ≤ (touchS S p).1.clock ∧ (touchS S p).1.clock ≤ S.clock + 1 := by
 unfold touchS
 split
 · exact ⟨rfl, rfl, Nat.le_refl _, Nat.le_succ _⟩
 · split
   · exact ⟨rfl, rfl, Nat.le_refl _, Nat.le_succ _⟩
   · split
     · exact writeS_cs S p [] false
     · exact ⟨rfl, rfl, Nat.le_succ _, Nat.le_refl _⟩
theorem doS_cs (S : St) (x : Ac4) : (doS S x).1.nodes = S.nodes ∧ (doS S x).1.bytes = S.bytes ∧ S.clock ≤ (doS S x).1.clock ∧ (doS S x).1.clock ≤ S.clock + 1 := by
 unfold doS
 split
 · exact writeS_cs _ _ _ _
 split
 · exact mkdirS_cs _ _
 split
 · exact removeS_cs _ _
 split
 · exact touchS_cs _ _
 split
 · exact moveS_consts _ _ _
 · exact ⟨rfl, rfl, Nat.le_refl _, Nat.le_succ _⟩
theorem GoodS.act {S : St} {nodes bytes n : Nat} (h : GoodS S nodes bytes n) (x : Ac4) : GoodS (doS S x).1 nodes bytes (n + 1) := by
 have hc := doS_cs S x
 refine ⟨?_, ?_, hc.1.trans h.nodes, hc.2.1.trans h.bytes, by have := h.clock; omega⟩
 · unfold doS
   split
   · exact writeS_wf h.wf _ _ _
   split
   · exact mkdirS_wf h.wf _
   split
   · exact removeS_wf h.wf _
   split
   · exact touchS_wf h.wf _
   split
   · exact moveS_wf h.wf h.hang _ _
   · exact h.wf
 · unfold doS
   split
   · exact writeS_hang h.hang _ _ _
   split
   · exact mkdirS_hang h.hang _
   split
   · exact removeS_hang h.hang _
   split
   · exact touchS_hang h.hang _
   split
   · exact moveS_hang h.wf h.hang _ _
   · exact h.hang
theorem GoodS.new (n b : Int) : GoodS (newS n b) (newS n b).nodes (newS n b).bytes 0 := ⟨newS_wf n b, new_hang n b, rfl, rfl, Nat.le_refl _⟩
def actsS (S : St) (L : List Ac4) : St := L.foldl (fun S x => (doS S x).1) S
theorem actsS_take {S : St} {L : List Ac4} {k : Nat} {x : Ac4} (h : L[k]? = some x) : actsS S (L.take (k + 1)) = (doS (actsS S (L.take k)) x).1 := by
 rw [List.take_add_one, h]
 unfold actsS
 rw [List.foldl_append]
 rfl
theorem GoodS.acts {nodes bytes : Nat} : ∀ (L : List Ac4) {S : St} {n : Nat}, GoodS S nodes bytes n → GoodS (actsS S L) nodes bytes (n + L.length)
 | [], _, _, h => h
 | x :: L, S, n, h => by
   have := GoodS.acts L (h.act x)
   rw [List.length_cons, show n + (L.length + 1) = n + 1 + L.length by omega]
   exact this
def atW (A : AsnN) (w : World) : AsnN := fun T N W => A T N W ∧ W = w
theorem FsPost.specN {P : Program} {f : FuncId} {args : Array Value} {g : Nat} {S : St} {r : St × Nat} {w : World}
   (h : ∀ T N, VS g S T N w → OkTN T N w → Calls P f args w (FsPost g r T N w)) : SpecN P f args (atW (VS g S) w) (fun e => pureN (e = .returned (.int .i64 r.2)) (VS g r.1)) := by
 rintro T N W ⟨hv, rfl⟩ ok
 refine (h T N hv ok).mono ?_
 rintro e w' ⟨he, N', hv', hg, hk⟩
 exact ⟨T, N', ⟨he, hv'⟩, hg, hk⟩
theorem RK.specAt {P : Program} {f : FuncId} {args : Array Value} {g : Nat} {S S' : St} {r : Ending} {w : World}
   (h : ∀ A c L, RSO g S A c L w → Calls P f args w fun e w' => e = r ∧ RK g S' w A L w') : SpecN P f args (atW (RS g S) w) (fun e => pureN (e = r) (RS g S')) := by
 rintro T N W ⟨hT, rfl⟩ ok
 obtain ⟨h1, A, c, L, h2, h3, h4, h5⟩ := hT
 have ho : RSO g S A c L W := ⟨h2, h3, h4.rg, fun x hx => (h4.dat x hx).1, h5, h4.top, fun a e hn he => (ok.1 g h1).2 (he ▸ h4.blk a e hn), fun x hx a e hn he => (ok.1 g h1).2 (he ▸ (h4.dat x hx).2 a e hn), h4.lt⟩
 refine (h A c L ho).mono ?_
 rintro e W' ⟨rfl, A', c', L', o, hk, hA, hD⟩
 have hgl := (ok.1 g h1).1
 refine ⟨fun k => k = g, fun k => N k ∨ (W.heap.size ≤ k ∧ k < W'.heap.size), ⟨rfl, rfl, A', c', L', o.heap, o.cap, ⟨o.rg, fun a e hn => ?_, fun x hx => ⟨o.dat x hx, fun a e hn => ?_⟩, o.lt, o.top⟩, o.eq⟩, ⟨fun k hk => .inl (hk ▸ h1), fun k hk => .inl hk, fun k hk => hk.imp_right (·.1), fun k e => ?_, fun k hk' => ?_⟩, hk.mono (fun k e => e ▸ h1)⟩
 · rcases hA a e hn with h | ⟨h, h6⟩
   · exact .inr ⟨h, o.rg.block_lt e hn⟩
   · exact .inl (h4.blk a h h6)
 · rcases hD x hx a e hn with h | ⟨y, hy, h6, h7⟩
   · exact .inr ⟨h, (o.dat x hx).block_lt e hn⟩
   · exact .inl ((h4.dat y hy).2 a h6 h7)
 · subst e
   refine ⟨Nat.lt_of_lt_of_le hgl hk.size, ?_⟩
   rintro (h | ⟨h, _⟩)
   · exact (ok.1 k h1).2 h
   · omega
 · rcases hk' with h | ⟨_, h⟩
   · exact Nat.lt_of_lt_of_le (ok.2 k h) hk.size
   · exact h
abbrev Two (f r : Nat) (S S' : St) (X : AsnN) : AsnN := sep (sep (VS f S) (RS r S')) X
theorem Two.fr (f r : Nat) (S S' : St) {X : AsnN} (hX : FrN X) : FrN (Two f r S S' X) := ((VS.fr f S).join (RS.fr r S')).join hX
theorem sep_pure1 {p : Prop} {A X : AsnN} {T N : Nat → Prop} {w : World} (h : sep (pureN p A) X T N w) : pureN p (sep A X) T N w := by
 obtain ⟨T1, T2, ⟨hp, a⟩, b, s1, s2, d⟩ := h
 exact ⟨hp, T1, T2, a, b, s1, s2, d⟩
theorem sep_pure2 {p : Prop} {A X : AsnN} {T N : Nat → Prop} {w : World} (h : sep X (pureN p A) T N w) : pureN p (sep X A) T N w := by
 obtain ⟨T1, T2, b, ⟨hp, a⟩, s1, s2, d⟩ := h
 exact ⟨hp, T1, T2, b, a, s1, s2, d⟩
theorem Two.callF {P : Program} {fn : FuncId} {args : Array Value} {f r : Nat} {S S1 S' : St} {X : AsnN} {B : Nat} {w0 w : World} {e0 : Ending} (h : InvN (Two f r S S' X) B w0 w) (hB : B ≤ w0.heap.size) (hX : FrN X)
   (hs : SpecN P fn args (atW (VS f S) w) (fun e => pureN (e = e0) (VS f S1))) : Calls P fn args w fun e w' => e = e0 ∧ InvN (Two f r S1 S' X) B w0 w' := by
 have h1 : InvN (sep (sep (atW (VS f S) w) (RS r S')) X) B w0 w := by
   obtain ⟨T, N, ⟨T1, T2, ⟨T3, T4, a, b, s3, s4, d3⟩, c, s1, s2, d⟩, ok, ht, hb⟩ := h
   exact ⟨T, N, ⟨T1, T2, ⟨T3, T4, ⟨a, rfl⟩, b, s3, s4, d3⟩, c, s1, s2, d⟩, ok, ht, hb⟩
 refine (h1.call hB ((hs.left (RS.fr r S')).left hX)).mono ?_
 intro e w' hq
 obtain ⟨T, N, a, ok, ht, hb⟩ := hq
 obtain ⟨hp, a⟩ := sep_pure1 (sep_mono (fun T N w => sep_pure1) (fun _ _ _ h => h) _ _ _ a)
 exact ⟨hp, T, N, a, ok, ht, hb⟩
theorem Two.callR {P : Program} {fn : FuncId} {args : Array Value} {f r : Nat} {S S' S1 : St} {X : AsnN} {B : Nat} {w0 w : World} {e0 : Ending} (h : InvN (Two f r S S' X) B w0 w) (hB : B ≤ w0.heap.size) (hX : FrN X)
   (hs : SpecN P fn args (atW (RS r S') w) (fun e => pureN (e = e0) (RS r S1))) : Calls P fn args w fun e w' => e = e0 ∧ InvN (Two f r S S1 X) B w0 w' := by
 have h1 : InvN (sep (sep (VS f S) (atW (RS r S') w)) X) B w0 w := by
   obtain ⟨T, N, ⟨T1, T2, ⟨T3, T4, a, b, s3, s4, d3⟩, c, s1, s2, d⟩, ok, ht, hb⟩ := h
   exact ⟨T, N, ⟨T1, T2, ⟨T3, T4, a, ⟨b, rfl⟩, s3, s4, d3⟩, c, s1, s2, d⟩, ok, ht, hb⟩
 refine (h1.call hB ((hs.right (VS.fr f S)).left hX)).mono ?_
 intro e w' hq
 obtain ⟨T, N, a, ok, ht, hb⟩ := hq
 obtain ⟨hp, a⟩ := sep_pure1 (sep_mono (fun T N w => sep_pure2) (fun _ _ _ h => h) _ _ _ a)
 exact ⟨hp, T, N, a, ok, ht, hb⟩
theorem Two.vs {f r : Nat} {S S' : St} {X : AsnN} {B : Nat} {w0 w : World} (h : InvN (Two f r S S' X) B w0 w) : Hs (VS f S) w := h.fst.fst.hs
theorem Two.ge {f r : Nat} {S S' : St} {X : AsnN} {B : Nat} {w0 w : World} (h : InvN (Two f r S S' X) B w0 w) : B ≤ r := by
 obtain ⟨T, N, ⟨T1, T2, ⟨T3, T4, a, b, s3, s4, d3⟩, c, s1, s2, d⟩, ok, ht, hb⟩ := h
 exact ht r (s1 r (s4 r b.1))
theorem pT_bs (x : Ac4) : bs (pT x) = x.p := bs_of x.p
theorem qT_bs (x : Ac4) : bs (qT x) = x.q := bs_of x.q
def encI8 (z : Int) : List Value := [.int .u8 z]
def YI (v : Value) (n : Nat) : AsnN := fun T _ w => (n = 0 ∧ ∃ A c, v = .slice A 0 c) ∨ ∃ (gb c : Nat) (L : List Int), v = .slice (some ⟨gb, 0, none⟩) n c ∧ L.length = n ∧ n ≤ c ∧ T gb ∧ RG encI8 1 w (some ⟨gb, 0, none⟩) L ∧ ∃ cur, w.heap[gb]? = some (.cells cur 5)
theorem YI.fr (v : Value) (n : Nat) : FrN (YI v n) := by
 rintro T N N' w w' h hb hn hs
 rcases h with h | ⟨gb, c, L, e, hl, hc, ht, hr, cur, hcur⟩
 · exact .inl h
 · have hbk := hb gb (.inl ht)
   exact .inr ⟨gb, c, L, e, hl, hc, ht, hr.ofB hs (fun a e _ => by injection e with e; subst e; exact hbk), cur, hbk.trans hcur⟩
end
section
open Go.RowKit Go.Deep Go.Maps Ln Pth Vf
attribute [local go_sem] bt_eq
theorem sep_assoc {A B C : AsnN} {T N : Nat → Prop} {w : World} (h : sep (sep A B) C T N w) : sep A (sep B C) T N w := by
 obtain ⟨T1, T2, ⟨T3, T4, a, b, s3, s4, d3⟩, c, s1, s2, d⟩ := h
 exact ⟨T3, fun k => T4 k ∨ T2 k, a, ⟨T4, T2, b, c, fun k h => .inl h, fun k h => .inr h, fun k h1 h2 => d k (s4 k h1) h2⟩, fun k h => s1 k (s3 k h), fun k h => h.elim (fun h => s1 k (s4 k h)) (s2 k), fun k h1 h2 => h2.elim (d3 k h1) (d k (s3 k h1))⟩
theorem sep_unassoc {A B C : AsnN} {T N : Nat → Prop} {w : World} (h : sep A (sep B C) T N w) : sep (sep A B) C T N w := by
 obtain ⟨T1, T2, a, ⟨T3, T4, b, c, s3, s4, d3⟩, s1, s2, d⟩ := h
 exact ⟨fun k => T1 k ∨ T3 k, T4, ⟨T1, T3, a, b, fun k h => .inl h, fun k h => .inr h, fun k h1 h2 => d k h1 (s3 k h2)⟩, c, fun k h => h.elim (s1 k) (fun h => s2 k (s3 k h)), fun k h => s2 k (s4 k h), fun k h1 h2 => h1.elim (fun h1 => d k h1 (s4 k h2)) (fun h1 => d3 k h1 h2)⟩
theorem Two.also {f r : Nat} {S S' : St} {X Y : AsnN} {B : Nat} {w0 w : World} (h : InvN (sep (Two f r S S' X) Y) B w0 w) : InvN (Two f r S S' (sep X Y)) B w0 w := h.mono (fun _ _ _ h => sep_assoc h)
theorem Two.less {f r : Nat} {S S' : St} {X Y : AsnN} {B : Nat} {w0 w : World} (h : InvN (Two f r S S' (sep X Y)) B w0 w) : InvN (Two f r S S' X) B w0 w := (h.mono (fun _ _ _ h => sep_unassoc h)).fst
theorem YI.set {P : AsnN} {gb n c k : Nat} {B : Nat} {w0 w : World} (h : InvN (sep P (YI (.slice (some ⟨gb, 0, none⟩) n c) n)) B w0 w) (hB : B ≤ w0.heap.size) (hP : FrN P) (hk : k < n) (z : Int) : InvN (sep P (YI (.slice (some ⟨gb, 0, none⟩) n c) n)) B w0 (w.setCell ⟨gb, k, none⟩ (.int .u8 z)) := by
 obtain ⟨T, N, ⟨T1, T2, p, y, s1, s2, d⟩, ok, ht, hb⟩ := h
 rcases y with ⟨h0, _⟩ | ⟨gb', c', L, e, hl, hc, htg, hr, cur, hcur⟩
 · omega
 · injection e with e1 e2 e3
   injection e1 with e1
   injection e1 with e1 _ _
   subst e1 e3
   have hkp : Kp w (w.setCell ⟨gb, k, none⟩ (.int .u8 z)) (fun k => k = gb) := Kp.set w gb k _
   have hgT := s2 gb htg
   obtain ⟨x, hx⟩ : ∃ x, L[k]? = some x := ⟨L[k]'(by omega), gE _⟩
   refine ⟨T, N, ⟨T1, T2, hP T1 N N w _ p (fun j hj => hkp.block j (hj.elim (fun h => (ok.1 j (s1 j h)).1) (ok.2 j)) (fun e => ?_)) (fun _ h => h) hkp.size, .inr ⟨gb, c, L.set k z, rfl, by rw [List.length_set, hl], hc, htg, ?_, _, heapSet hcur _⟩, s1, s2, d⟩, (GrowN.refl ok hkp.size).2.2.2, ht, hkp.below hb hB (fun j e => e ▸ ht gb hgT)⟩
   · subst e
     rcases hj with h | h
     · exact d j h htg
     · exact (ok.1 j hgT).2 h
   · intro j u hj
     rw [List.getElem?_set] at hj
     by_cases e : k = j
     · subst e
       rw [if_pos rfl, if_pos (by omega)] at hj
       injection hj with hj
       subst hj
       obtain ⟨g2, o2, e2, hg2, hc2⟩ := hr k x hx
       injection e2 with e2
       injection e2 with e3 e4 _
       subst e3 e4
       refine ⟨gb, 0, rfl, by simpa using hg2, fun i v hi => ?_⟩
       have hi1 := (List.getElem?_eq_some_iff.1 hi).1
       have hi0 : i = 0 := by simp [encI8] at hi1; exact hi1
       subst hi0
       have hv : v = .int .u8 z := by simpa [encI8] using hi.symm
       subst hv
       have := hc2 0 _ rfl
       rw [Nat.zero_add, Nat.mul_one, Nat.add_zero] at this ⊢
       exact World.cell?_setCell_same' w ⟨gb, k, none⟩ _ (by rw [this]; rfl)
     · rw [if_neg e] at hj
       obtain ⟨g2, o2, e2, hg2, hc2⟩ := hr j u hj
       refine ⟨g2, o2, e2, by simpa using hg2, fun i v hi => ?_⟩
       have hi1 := (List.getElem?_eq_some_iff.1 hi).1
       have hi0 : i = 0 := by simp [encI8] at hi1; exact hi1
       subst hi0
       injection e2 with e2
       injection e2 with e3 e4 _
       subst e3 e4
       rw [World.cell?_setCell_other w _ _ _ (by intro e5; injection e5; omega)]
       exact hc2 0 v hi
theorem YI.cell {P : AsnN} {A : Option Addr} {n c k : Nat} {B : Nat} {w0 w : World} (h : InvN (sep P (YI (.slice A n c) n)) B w0 w) (hk : k < n) : ∃ gb z, A = some ⟨gb, 0, none⟩ ∧ n ≤ c ∧ w.cell? ⟨gb, k, none⟩ = some (.int .u8 z) ∧ w.frozen? ⟨gb, k, none⟩ = false := by
 obtain ⟨T, N, ⟨T1, T2, p, y, s1, s2, d⟩, ok, ht, hb⟩ := h
 rcases y with ⟨h0, _⟩ | ⟨gb, c', L, e, hl, hc, htg, hr, cur, hcur⟩
 · omega
 · injection e with e1 e2 e3
   subst e1 e3
   obtain ⟨x, hx⟩ : ∃ x, L[k]? = some x := ⟨L[k]'(by omega), gE _⟩
   obtain ⟨g2, o2, e2, hg2, hc2⟩ := hr k x hx
   injection e2 with e2
   injection e2 with e3 e4 _
   subst e3 e4
   refine ⟨gb, x, rfl, hc, ?_, freeOf hcur k⟩
   have := hc2 0 _ rfl
   rw [Nat.zero_add, Nat.mul_one, Nat.add_zero] at this
   exact this
theorem YI.own {w : World} {base : Nat} {A : Option Addr} {n c : Nat} {L : T} (h : OwnY w base (.slice A n c) L) (hn : L.length = n) : YI (.slice A n c) n (fun k => (Value.slice A n c).ownBlock = some k) (fun _ => False) w := by
 obtain ⟨A', c', e, hc, hr, _, _⟩ := OwnG.slice encB_len h
 rcases h.2 with ⟨e0, h0⟩ | ⟨gb, cap, cur, e2, hg, hh, _⟩
 · exact .inl ⟨by omega, by injection e0 with e1 e2 e3; subst e1 e2 e3; exact ⟨_, _, rfl⟩⟩
 · injection e with e1 e3 e4
   subst e1
   injection e2 with e5 e6 e7
   subst e5
   refine .inr ⟨gb, c, L.map fun b => (b.toNat : Int), rfl, by rw [List.length_map, hn], by omega, rfl, fun k z hk => ?_, cur, hh⟩
   rw [List.getElem?_map] at hk
   cases hb : L[k]? with
   | none => rw [hb] at hk; cases hk
   | some b =>
     rw [hb] at hk
     injection hk with hk
     subst hk
     exact hr k b hb
theorem do_any (f r : Nat) (S : St) (x : Ac4) (X : AsnN) (hX : FrN X) (w0 w : World) (h : InvN (Two f r S S X) w0.heap.size w0 w) {nodes bytes n : Nat} (hG : GoodS S nodes bytes n) (hby : bytes ≤ 400000) (hn : n ≤ 1000000) (hm : MX w0) (hp : x.p.size ≤ 300) (hq : x.q.size ≤ 300) (hbl : x.b.length ≤ 2000) (hb0 : RG encB 1 w0 x.A x.b) :
   Calls Tryz.prog 26 #[.pointer (some ⟨f, 0, none⟩), .pointer (some ⟨r, 0, none⟩), .agg #[.int .i64 x.way, .string x.p, .string x.q, .slice x.A x.b.length x.c, .bool x.more]] w fun e w' => e = .returned (.bool true) ∧ InvN (Two f r (doS S x).1 (doS S x).1 X) w0.heap.size w0 w' := by
 have hR : doS S x = if x.way = 0 then writeS S (pT x) x.b x.more else if x.way = 1 then mkdirS S (pT x) else if x.way = 2 then removeS S (pT x) else if x.way = 3 then touchS S (pT x) else if x.way = 4 then moveS S (pT x) (qT x) else (S, 0) := rfl
 have hpl : (pT x).length ≤ 300 := by unfold pT; rw [data_len]; exact hp
 have hql : (qT x).length ≤ 300 := by unfold qT; rw [data_len]; exact hq
 have hS := hG.wf
 have hH := hG.hang
 have hby' : S.bytes ≤ 400000 := by rw [hG.bytes]; exact hby
 have hck : S.clock ≤ 1000000000 := by have := hG.clock; omega
 have HB0 := hide hb0
 have HBLK := hide (fun a (e : x.A = some a) (hn : x.b ≠ []) => hb0.block_lt e hn)
 have hpe : bs (pT x) = x.p := pT_bs x
 have hqe : bs (qT x) = x.q := qT_bs x
 obtain ⟨bx, hbx⟩ : ∃ b, w.heap.size = b := ⟨_, rfl⟩
 obtain ⟨way, hway⟩ : ∃ b, x.way = b := ⟨_, rfl⟩
 obtain ⟨ps, hps⟩ : ∃ b, x.p = b := ⟨_, rfl⟩
 obtain ⟨qs, hqs⟩ : ∃ b, x.q = b := ⟨_, rfl⟩
 obtain ⟨A, hA⟩ : ∃ b, x.A = b := ⟨_, rfl⟩
 obtain ⟨c, hc⟩ : ∃ b, x.c = b := ⟨_, rfl⟩
 obtain ⟨D, hD⟩ : ∃ b, x.b = b := ⟨_, rfl⟩
 obtain ⟨more, hmore⟩ : ∃ b, x.more = b := ⟨_, rfl⟩
 obtain ⟨p, hpT⟩ : ∃ b, pT x = b := ⟨_, rfl⟩
 obtain ⟨q, hqT⟩ : ∃ b, qT x = b := ⟨_, rfl⟩
 obtain ⟨R, hRe⟩ : ∃ b, doS S x = b := ⟨_, rfl⟩
 rw [hpT, hps] at hpe
 rw [hqT, hqs] at hqe
 rw [hpT] at hpl
 rw [hqT] at hql
 rw [hway, hpT, hqT, hD, hmore, hRe] at hR
 rw [hA, hD] at HB0 HBLK
 rw [hD] at hbl
 rw [hway, hps, hqs, hA, hc, hD, hmore, hRe]
 rw [← hpe, ← hqe]
 have HR := hide hR
 have hnew := (h.new (Two.fr f r S S hX) (.cells #[.int .i64 way, .string (bs p), .string (bs q), .slice A D.length c, .bool more] 61) (Nat.le_refl _)).mono (fun _ _ _ h => sep_assoc h)
 rw [hbx] at hnew
 obtain ⟨w1, hw1⟩ : ∃ W, w.alloc (.cells #[.int .i64 way, .string (bs p), .string (bs q), .slice A D.length c, .bool more] 61) = W := ⟨_, rfl⟩
 rw [hw1] at hnew
 obtain ⟨dl, hdl⟩ : ∃ n, D.length = n := ⟨_, rfl⟩
 have HDL := hide hdl
 have H1 := hide hnew
 have HXF := hide (hX.join (BlkN.fr bx (.cells #[.int .i64 way, .string (bs p), .string (bs q), .slice A D.length c, .bool more] 61)))
 rw [hdl] at hbl hw1 H1 HXF ⊢
 obtain ⟨O, hO⟩ : ∃ o : Obj, Obj.cells #[.int .i64 way, .string (bs p), .string (bs q), .slice A dl c, .bool more] 61 = o := ⟨_, rfl⟩
 have HCB := hide (fun (S1 S2 : St) (Y : AsnN) (W : World) (h : InvN (Two f r S1 S2 (sep (sep X (BlkN bx O)) Y)) w0.heap.size w0 W) (j : Nat) (v : Value) (hj : #[Value.int .i64 way, .string (bs p), .string (bs q), .slice A dl c, .bool more][j]? = some v) => show W.cell? ⟨bx, j, none⟩ = some v from by
   rw [← hO] at h
   exact BlkN.cell h.snd.fst.snd hj)
 have HCA := hide (fun (S1 S2 : St) (W : World) (h : InvN (Two f r S1 S2 (sep X (BlkN bx O))) w0.heap.size w0 W) (j : Nat) (v : Value) (hj : #[Value.int .i64 way, .string (bs p), .string (bs q), .slice A dl c, .bool more][j]? = some v) => show W.cell? ⟨bx, j, none⟩ = some v from by
   rw [← hO] at h
   exact BlkN.cell h.snd.snd hj)
 rw [hO] at hw1 H1 HXF
 have HM := hide hm
 have HGW := hide (And.intro hS (And.intro hH (And.intro hby' hck)))
 have HL := hide (And.intro hpl hql)
 have hc0 := HCA.out _ _ _ H1.out 0 _ rfl
 clear hR hS hH hby' hck hb0 hpe hqe hway hps hqs hA hc hD hmore hpT hqT hRe hnew h hX hG hby hn hm hp hq hdl
 by_cases hwy : way = 1
 ·
   subst hwy
   have HE := hide (show R = (mkdirS S p) from HR.out)
   have HF := hide (fun (W : World) (h : InvN (Two f r S S (sep X (BlkN bx O))) w0.heap.size w0 W) => Two.callF h (Nat.le_refl _) HXF.out (FsPost.specN (fun T N hv ok => mkdir_any f S p T N W hv ok HGW.out.1 (HM.out.below h.below) (by have := HL.out; omega) HGW.out.2.2.2)))
   have HRR := hide (fun (W : World) (h : InvN (Two f r (mkdirS S p).1 S (sep X (BlkN bx O))) w0.heap.size w0 W) => Two.callR h (Nat.le_refl _) HXF.out (RK.specAt (fun A c L ho => rmkdir4_any r S A c L p W ho HGW.out.1 (by have := HL.out; omega) HGW.out.2.2.2)))
   obtain ⟨R1, hR1⟩ : ∃ y, (mkdirS S p) = y := ⟨_, rfl⟩
   rw [hR1] at HF HRR HE
   clear hR1 HR
   go_enter Tryz.func26, Tryz.ntmps26
   go_wp2_with fail
   have hI1 := H1.out.drew (Two.fr f r S S HXF.out) (Nat.le_refl _)
   have HI1 := hide hI1
   clear hI1
   refine wp_region_held_drew (S := (fun W => W.cell? ⟨bx, 1, none⟩ = some (.string (bs p)) ∧ W.cell? ⟨bx, 2, none⟩ = some (.string (bs q)))) (by kernel_rfl) ⟨HCA.out _ _ _ HI1.out 1 _ rfl, HCA.out _ _ _ HI1.out 2 _ rfl⟩ (fun hHeld => ?_)
   refine tq (i := 0) (v := ?vMkdir0) rfl rfl (by kernel_rfl) (fun _ _ _ h => h) ?yMkdir0 (by assumption) ?rMkdir0
   case yMkdir0 => intro w h; (try dsimp only at h); go_simp; try with_reducible rfl
   try simp only [sA, sB, sC]
   refine tq (i := 1) (v := ?vMkdir1) rfl rfl (by kernel_rfl) (fun _ _ _ h => h) ?yMkdir1 (by assumption) ?rMkdir1
   case yMkdir1 => intro w h; (try dsimp only at h); go_simp; try with_reducible rfl
   try simp only [sA, sB, sC]
   refine tq (i := 2) (v := ?vMkdir2) rfl rfl (by kernel_rfl) (fun _ _ _ h => h) ?yMkdir2 (by assumption) ?rMkdir2
   case yMkdir2 => intro w h; (try dsimp only at h); go_simp; try with_reducible rfl
   try simp only [sA, sB, sC]
   refine tq (i := 5) (v := ?vMkdir5) rfl rfl (by kernel_rfl) (fun _ _ _ h => h) ?yMkdir5 (by assumption) ?rMkdir5
   case yMkdir5 => intro w h; (try dsimp only at h); go_simp; try with_reducible rfl
   try simp only [sA, sB, sC]
   refine tq (i := 6) (v := ?vMkdir6) rfl rfl (by kernel_rfl) (fun _ _ _ h => h) ?yMkdir6 (by assumption) ?rMkdir6
   case yMkdir6 => intro w h; (try dsimp only at h); go_simp; try with_reducible rfl
   try simp only [sA, sB, sC]
   refine tq (i := 7) (v := ?vMkdir7) rfl rfl (by kernel_rfl) (fun _ _ _ h => h) ?yMkdir7 (by assumption) ?rMkdir7
   case yMkdir7 => intro w h; (try dsimp only at h); go_simp; try with_reducible rfl
   try simp only [sA, sB, sC]
   refine rq (k := 3) rfl (by kernel_rfl) (by kernel_rfl) (fun K hK => ?_)
   go_simp
   refine (HF.out _ HI1.out).mono ?_
   rintro e w2 ⟨rfl, hi2⟩
   have HI2 := hide hi2
   clear hi2
   refine hK.out _ _ ⟨HCA.out _ _ _ HI2.out 1 _ rfl, HCA.out _ _ _ HI2.out 2 _ rfl⟩ (fun _ => ?_)
   clear hK K
   try simp only [Act.put, sA, sB, sC]
   refine rq (k := 4) rfl (by kernel_rfl) (by kernel_rfl) (fun K hK => ?_)
   go_simp
   refine (num4_any _ _).mono ?_
   rintro e w' ⟨rfl, rfl⟩
   refine hK.out _ _ ⟨HCA.out _ _ _ HI2.out 1 _ rfl, HCA.out _ _ _ HI2.out 2 _ rfl⟩ (fun _ => ?_)
   clear hK K
   try simp only [Act.put, sA, sB, sC]
   refine rq (k := 8) rfl (by kernel_rfl) (by kernel_rfl) (fun K hK => ?_)
   go_simp
   refine (HRR.out _ HI2.out).mono ?_
   rintro e w3 ⟨rfl, hi3⟩
   have HI3 := hide hi3
   clear hi3
   refine hK.out _ _ ⟨HCA.out _ _ _ HI3.out 1 _ rfl, HCA.out _ _ _ HI3.out 2 _ rfl⟩ (fun _ => ?_)
   clear hK K
   try simp only [Act.put, sA, sB, sC]
   refine tq (i := 9) (v := ?vMkdir9) rfl rfl (by kernel_rfl) (fun _ _ _ h => h) ?yMkdir9 (by assumption) ?rMkdir9
   case yMkdir9 => intro w h; (try dsimp only at h); go_simp; try with_reducible rfl
   try simp only [sA, sB, sC]
   refine tq (i := 10) (v := ?vMkdir10) rfl rfl (by kernel_rfl) (fun _ _ _ h => h) ?yMkdir10 (by assumption) ?rMkdir10
   case yMkdir10 => intro w h; (try dsimp only at h); go_simp; try with_reducible rfl
   try simp only [sA, sB, sC]
   refine wpAnyH_done (by kernel_rfl) ?_ _
   go_wp2
   go_ret
   rw [HE.out]
   exact ⟨by simp, Two.less HI3.out⟩
 by_cases hwy : way = 2
 ·
   subst hwy
   have HE := hide (show R = (removeS S p) from HR.out)
   have HF := hide (fun (W : World) (h : InvN (Two f r S S (sep X (BlkN bx O))) w0.heap.size w0 W) => Two.callF h (Nat.le_refl _) HXF.out (FsPost.specN (fun T N hv ok => remove_any f S p T N W hv ok HGW.out.1 (HM.out.below h.below) (by have := HL.out; omega) HGW.out.2.2.2)))
   have HRR := hide (fun (W : World) (h : InvN (Two f r (removeS S p).1 S (sep X (BlkN bx O))) w0.heap.size w0 W) => Two.callR h (Nat.le_refl _) HXF.out (RK.specAt (fun A c L ho => rremove4_any r S A c L p W ho HGW.out.1 HGW.out.2.1 (by have := HL.out; omega) HGW.out.2.2.2)))
   obtain ⟨R1, hR1⟩ : ∃ y, (removeS S p) = y := ⟨_, rfl⟩
   rw [hR1] at HF HRR HE
   clear hR1 HR
   go_enter Tryz.func26, Tryz.ntmps26
   go_wp2_with fail
   have hI1 := H1.out.drew (Two.fr f r S S HXF.out) (Nat.le_refl _)
   have HI1 := hide hI1
   clear hI1
   refine wp_region_held_drew (S := (fun W => W.cell? ⟨bx, 1, none⟩ = some (.string (bs p)) ∧ W.cell? ⟨bx, 2, none⟩ = some (.string (bs q)))) (by kernel_rfl) ⟨HCA.out _ _ _ HI1.out 1 _ rfl, HCA.out _ _ _ HI1.out 2 _ rfl⟩ (fun hHeld => ?_)
   refine tq (i := 0) (v := ?vRemove0) rfl rfl (by kernel_rfl) (fun _ _ _ h => h) ?yRemove0 (by assumption) ?rRemove0
   case yRemove0 => intro w h; (try dsimp only at h); go_simp; try with_reducible rfl
   try simp only [sA, sB, sC]
   refine tq (i := 1) (v := ?vRemove1) rfl rfl (by kernel_rfl) (fun _ _ _ h => h) ?yRemove1 (by assumption) ?rRemove1
   case yRemove1 => intro w h; (try dsimp only at h); go_simp; try with_reducible rfl
   try simp only [sA, sB, sC]
   refine tq (i := 2) (v := ?vRemove2) rfl rfl (by kernel_rfl) (fun _ _ _ h => h) ?yRemove2 (by assumption) ?rRemove2
   case yRemove2 => intro w h; (try dsimp only at h); go_simp; try with_reducible rfl
   try simp only [sA, sB, sC]
   refine tq (i := 5) (v := ?vRemove5) rfl rfl (by kernel_rfl) (fun _ _ _ h => h) ?yRemove5 (by assumption) ?rRemove5
   case yRemove5 => intro w h; (try dsimp only at h); go_simp; try with_reducible rfl
   try simp only [sA, sB, sC]
   refine tq (i := 6) (v := ?vRemove6) rfl rfl (by kernel_rfl) (fun _ _ _ h => h) ?yRemove6 (by assumption) ?rRemove6
   case yRemove6 => intro w h; (try dsimp only at h); go_simp; try with_reducible rfl
   try simp only [sA, sB, sC]
   refine tq (i := 7) (v := ?vRemove7) rfl rfl (by kernel_rfl) (fun _ _ _ h => h) ?yRemove7 (by assumption) ?rRemove7
   case yRemove7 => intro w h; (try dsimp only at h); go_simp; try with_reducible rfl
   try simp only [sA, sB, sC]
   refine rq (k := 3) rfl (by kernel_rfl) (by kernel_rfl) (fun K hK => ?_)
   go_simp
   refine (HF.out _ HI1.out).mono ?_
   rintro e w2 ⟨rfl, hi2⟩
   have HI2 := hide hi2
   clear hi2
   refine hK.out _ _ ⟨HCA.out _ _ _ HI2.out 1 _ rfl, HCA.out _ _ _ HI2.out 2 _ rfl⟩ (fun _ => ?_)
   clear hK K
   try simp only [Act.put, sA, sB, sC]
   refine rq (k := 4) rfl (by kernel_rfl) (by kernel_rfl) (fun K hK => ?_)
   go_simp
   refine (num4_any _ _).mono ?_
   rintro e w' ⟨rfl, rfl⟩
   refine hK.out _ _ ⟨HCA.out _ _ _ HI2.out 1 _ rfl, HCA.out _ _ _ HI2.out 2 _ rfl⟩ (fun _ => ?_)
   clear hK K
   try simp only [Act.put, sA, sB, sC]
   refine rq (k := 8) rfl (by kernel_rfl) (by kernel_rfl) (fun K hK => ?_)
   go_simp
   refine (HRR.out _ HI2.out).mono ?_
   rintro e w3 ⟨rfl, hi3⟩
   have HI3 := hide hi3
   clear hi3
   refine hK.out _ _ ⟨HCA.out _ _ _ HI3.out 1 _ rfl, HCA.out _ _ _ HI3.out 2 _ rfl⟩ (fun _ => ?_)
   clear hK K
   try simp only [Act.put, sA, sB, sC]
   refine tq (i := 9) (v := ?vRemove9) rfl rfl (by kernel_rfl) (fun _ _ _ h => h) ?yRemove9 (by assumption) ?rRemove9
   case yRemove9 => intro w h; (try dsimp only at h); go_simp; try with_reducible rfl
   try simp only [sA, sB, sC]
   refine tq (i := 10) (v := ?vRemove10) rfl rfl (by kernel_rfl) (fun _ _ _ h => h) ?yRemove10 (by assumption) ?rRemove10
   case yRemove10 => intro w h; (try dsimp only at h); go_simp; try with_reducible rfl
   try simp only [sA, sB, sC]
   refine wpAnyH_done (by kernel_rfl) ?_ _
   go_wp2
   go_ret
   rw [HE.out]
   exact ⟨by simp, Two.less HI3.out⟩
 by_cases hwy : way = 3
 ·
   subst hwy
   have HE := hide (show R = (touchS S p) from HR.out)
   have HF := hide (fun (W : World) (h : InvN (Two f r S S (sep X (BlkN bx O))) w0.heap.size w0 W) => Two.callF h (Nat.le_refl _) HXF.out (FsPost.specN (fun T N hv ok => touch_any f S p T N W hv ok HGW.out.1 (HM.out.below h.below) (by have := HL.out; omega) HGW.out.2.2.1 HGW.out.2.2.2)))
   have HRR := hide (fun (W : World) (h : InvN (Two f r (touchS S p).1 S (sep X (BlkN bx O))) w0.heap.size w0 W) => Two.callR h (Nat.le_refl _) HXF.out (RK.specAt (fun A c L ho => rtouch4_any r S A c L p W ho HGW.out.1 (by have := HL.out; omega) HGW.out.2.2.1 HGW.out.2.2.2)))
   obtain ⟨R1, hR1⟩ : ∃ y, (touchS S p) = y := ⟨_, rfl⟩
   rw [hR1] at HF HRR HE
   clear hR1 HR
   go_enter Tryz.func26, Tryz.ntmps26
   go_wp2_with fail
   have hI1 := H1.out.drew (Two.fr f r S S HXF.out) (Nat.le_refl _)
   have HI1 := hide hI1
   clear hI1
   refine wp_region_held_drew (S := (fun W => W.cell? ⟨bx, 1, none⟩ = some (.string (bs p)) ∧ W.cell? ⟨bx, 2, none⟩ = some (.string (bs q)))) (by kernel_rfl) ⟨HCA.out _ _ _ HI1.out 1 _ rfl, HCA.out _ _ _ HI1.out 2 _ rfl⟩ (fun hHeld => ?_)
   refine tq (i := 0) (v := ?vTouch0) rfl rfl (by kernel_rfl) (fun _ _ _ h => h) ?yTouch0 (by assumption) ?rTouch0
   case yTouch0 => intro w h; (try dsimp only at h); go_simp; try with_reducible rfl
   try simp only [sA, sB, sC]
   refine tq (i := 1) (v := ?vTouch1) rfl rfl (by kernel_rfl) (fun _ _ _ h => h) ?yTouch1 (by assumption) ?rTouch1
   case yTouch1 => intro w h; (try dsimp only at h); go_simp; try with_reducible rfl
   try simp only [sA, sB, sC]
   refine tq (i := 2) (v := ?vTouch2) rfl rfl (by kernel_rfl) (fun _ _ _ h => h) ?yTouch2 (by assumption) ?rTouch2
   case yTouch2 => intro w h; (try dsimp only at h); go_simp; try with_reducible rfl
   try simp only [sA, sB, sC]
   refine tq (i := 5) (v := ?vTouch5) rfl rfl (by kernel_rfl) (fun _ _ _ h => h) ?yTouch5 (by assumption) ?rTouch5
   case yTouch5 => intro w h; (try dsimp only at h); go_simp; try with_reducible rfl
   try simp only [sA, sB, sC]
   refine tq (i := 6) (v := ?vTouch6) rfl rfl (by kernel_rfl) (fun _ _ _ h => h) ?yTouch6 (by assumption) ?rTouch6
   case yTouch6 => intro w h; (try dsimp only at h); go_simp; try with_reducible rfl
   try simp only [sA, sB, sC]
   refine tq (i := 7) (v := ?vTouch7) rfl rfl (by kernel_rfl) (fun _ _ _ h => h) ?yTouch7 (by assumption) ?rTouch7
   case yTouch7 => intro w h; (try dsimp only at h); go_simp; try with_reducible rfl
   try simp only [sA, sB, sC]
   refine rq (k := 3) rfl (by kernel_rfl) (by kernel_rfl) (fun K hK => ?_)
   go_simp
   refine (HF.out _ HI1.out).mono ?_
   rintro e w2 ⟨rfl, hi2⟩
   have HI2 := hide hi2
   clear hi2
   refine hK.out _ _ ⟨HCA.out _ _ _ HI2.out 1 _ rfl, HCA.out _ _ _ HI2.out 2 _ rfl⟩ (fun _ => ?_)
   clear hK K
   try simp only [Act.put, sA, sB, sC]
   refine rq (k := 4) rfl (by kernel_rfl) (by kernel_rfl) (fun K hK => ?_)
   go_simp
   refine (num4_any _ _).mono ?_
   rintro e w' ⟨rfl, rfl⟩
   refine hK.out _ _ ⟨HCA.out _ _ _ HI2.out 1 _ rfl, HCA.out _ _ _ HI2.out 2 _ rfl⟩ (fun _ => ?_)
   clear hK K
   try simp only [Act.put, sA, sB, sC]
   refine rq (k := 8) rfl (by kernel_rfl) (by kernel_rfl) (fun K hK => ?_)
   go_simp
   refine (HRR.out _ HI2.out).mono ?_
   rintro e w3 ⟨rfl, hi3⟩
   have HI3 := hide hi3
   clear hi3
   refine hK.out _ _ ⟨HCA.out _ _ _ HI3.out 1 _ rfl, HCA.out _ _ _ HI3.out 2 _ rfl⟩ (fun _ => ?_)
   clear hK K
   try simp only [Act.put, sA, sB, sC]
   refine tq (i := 9) (v := ?vTouch9) rfl rfl (by kernel_rfl) (fun _ _ _ h => h) ?yTouch9 (by assumption) ?rTouch9
   case yTouch9 => intro w h; (try dsimp only at h); go_simp; try with_reducible rfl
   try simp only [sA, sB, sC]
   refine tq (i := 10) (v := ?vTouch10) rfl rfl (by kernel_rfl) (fun _ _ _ h => h) ?yTouch10 (by assumption) ?rTouch10
   case yTouch10 => intro w h; (try dsimp only at h); go_simp; try with_reducible rfl
   try simp only [sA, sB, sC]
   refine wpAnyH_done (by kernel_rfl) ?_ _
   go_wp2
   go_ret
   rw [HE.out]
   exact ⟨by simp, Two.less HI3.out⟩
 by_cases hwy : way = 4
 ·
   subst hwy
   have HE := hide (show R = (moveS S p q) from HR.out)
   have HF := hide (fun (W : World) (h : InvN (Two f r S S (sep X (BlkN bx O))) w0.heap.size w0 W) => Two.callF h (Nat.le_refl _) HXF.out (FsPost.specN (fun T N hv ok => move_any f S p q T N W hv ok HGW.out.1 (HM.out.below h.below) (by have := HL.out; omega) (by have := HL.out; omega) HGW.out.2.2.2)))
   have HRR := hide (fun (W : World) (h : InvN (Two f r (moveS S p q).1 S (sep X (BlkN bx O))) w0.heap.size w0 W) => Two.callR h (Nat.le_refl _) HXF.out (RK.specAt (fun A c L ho => rmove4_any r S A c L p q W ho HGW.out.1 HGW.out.2.1 (by have := HL.out; omega) (by have := HL.out; omega) HGW.out.2.2.2)))
   obtain ⟨R1, hR1⟩ : ∃ y, (moveS S p q) = y := ⟨_, rfl⟩
   rw [hR1] at HF HRR HE
   clear hR1 HR
   go_enter Tryz.func26, Tryz.ntmps26
   go_wp2_with fail
   have hI1 := H1.out.drew (Two.fr f r S S HXF.out) (Nat.le_refl _)
   have HI1 := hide hI1
   clear hI1
   refine wp_region_held_drew (S := (fun W => W.cell? ⟨bx, 1, none⟩ = some (.string (bs p)) ∧ W.cell? ⟨bx, 2, none⟩ = some (.string (bs q)))) (by kernel_rfl) ⟨HCA.out _ _ _ HI1.out 1 _ rfl, HCA.out _ _ _ HI1.out 2 _ rfl⟩ (fun hHeld => ?_)
   refine tq (i := 0) (v := ?vMove0) rfl rfl (by kernel_rfl) (fun _ _ _ h => h) ?yMove0 (by assumption) ?rMove0
   case yMove0 => intro w h; (try dsimp only at h); go_simp; try with_reducible rfl
   try simp only [sA, sB, sC]
   refine tq (i := 1) (v := ?vMove1) rfl rfl (by kernel_rfl) (fun _ _ _ h => h) ?yMove1 (by assumption) ?rMove1
   case yMove1 => intro w h; (try dsimp only at h); go_simp; try with_reducible rfl
   try simp only [sA, sB, sC]
   refine tq (i := 2) (v := ?vMove2) rfl rfl (by kernel_rfl) (fun _ _ _ h => h) ?yMove2 (by assumption) ?rMove2
   case yMove2 => intro w h; (try dsimp only at h); go_simp; try with_reducible rfl
   try simp only [sA, sB, sC]
   refine tq (i := 3) (v := ?vMove3) rfl rfl (by kernel_rfl) (fun _ _ _ h => h) ?yMove3 (by assumption) ?rMove3
   case yMove3 => intro w h; (try dsimp only at h); go_simp; try with_reducible rfl
   try simp only [sA, sB, sC]
   refine tq (i := 4) (v := ?vMove4) rfl rfl (by kernel_rfl) (fun _ _ _ h => h) ?yMove4 (by assumption) ?rMove4
   case yMove4 => intro w h; (try dsimp only at h); go_simp; try with_reducible rfl
   try simp only [sA, sB, sC]
   refine tq (i := 7) (v := ?vMove7) rfl rfl (by kernel_rfl) (fun _ _ _ h => h) ?yMove7 (by assumption) ?rMove7
   case yMove7 => intro w h; (try dsimp only at h); go_simp; try with_reducible rfl
   try simp only [sA, sB, sC]
   refine tq (i := 8) (v := ?vMove8) rfl rfl (by kernel_rfl) (fun _ _ _ h => h) ?yMove8 (by assumption) ?rMove8
   case yMove8 => intro w h; (try dsimp only at h); go_simp; try with_reducible rfl
   try simp only [sA, sB, sC]
   refine tq (i := 9) (v := ?vMove9) rfl rfl (by kernel_rfl) (fun _ _ _ h => h) ?yMove9 (by assumption) ?rMove9
   case yMove9 => intro w h; (try dsimp only at h); go_simp; try with_reducible rfl
   try simp only [sA, sB, sC]
   refine tq (i := 10) (v := ?vMove10) rfl rfl (by kernel_rfl) (fun _ _ _ h => h) ?yMove10 (by assumption) ?rMove10
   case yMove10 => intro w h; (try dsimp only at h); go_simp; try with_reducible rfl
   try simp only [sA, sB, sC]
   refine tq (i := 11) (v := ?vMove11) rfl rfl (by kernel_rfl) (fun _ _ _ h => h) ?yMove11 (by assumption) ?rMove11
   case yMove11 => intro w h; (try dsimp only at h); go_simp; try with_reducible rfl
   try simp only [sA, sB, sC]
   refine rq (k := 5) rfl (by kernel_rfl) (by kernel_rfl) (fun K hK => ?_)
   go_simp
   refine (HF.out _ HI1.out).mono ?_
   rintro e w2 ⟨rfl, hi2⟩
   have HI2 := hide hi2
   clear hi2
   refine hK.out _ _ ⟨HCA.out _ _ _ HI2.out 1 _ rfl, HCA.out _ _ _ HI2.out 2 _ rfl⟩ (fun _ => ?_)
   clear hK K
   try simp only [Act.put, sA, sB, sC]
   refine rq (k := 6) rfl (by kernel_rfl) (by kernel_rfl) (fun K hK => ?_)
   go_simp
   refine (num4_any _ _).mono ?_
   rintro e w' ⟨rfl, rfl⟩
   refine hK.out _ _ ⟨HCA.out _ _ _ HI2.out 1 _ rfl, HCA.out _ _ _ HI2.out 2 _ rfl⟩ (fun _ => ?_)
   clear hK K
   try simp only [Act.put, sA, sB, sC]
   refine rq (k := 12) rfl (by kernel_rfl) (by kernel_rfl) (fun K hK => ?_)
   go_simp
   refine (HRR.out _ HI2.out).mono ?_
   rintro e w3 ⟨rfl, hi3⟩
   have HI3 := hide hi3
   clear hi3
   refine hK.out _ _ ⟨HCA.out _ _ _ HI3.out 1 _ rfl, HCA.out _ _ _ HI3.out 2 _ rfl⟩ (fun _ => ?_)
   clear hK K
   try simp only [Act.put, sA, sB, sC]
   refine tq (i := 13) (v := ?vMove13) rfl rfl (by kernel_rfl) (fun _ _ _ h => h) ?yMove13 (by assumption) ?rMove13
   case yMove13 => intro w h; (try dsimp only at h); go_simp; try with_reducible rfl
   try simp only [sA, sB, sC]
   refine tq (i := 14) (v := ?vMove14) rfl rfl (by kernel_rfl) (fun _ _ _ h => h) ?yMove14 (by assumption) ?rMove14
   case yMove14 => intro w h; (try dsimp only at h); go_simp; try with_reducible rfl
   try simp only [sA, sB, sC]
   refine wpAnyH_done (by kernel_rfl) ?_ _
   go_wp2
   go_ret
   rw [HE.out]
   exact ⟨by simp, Two.less HI3.out⟩
 by_cases hwy0 : way = 0
 case neg =>
   have HE := hide (show R = (S, 0) by rw [HR.out, if_neg hwy0, if_neg (by assumption), if_neg (by assumption), if_neg (by assumption), if_neg (by assumption)])
   go_enter Tryz.func26, Tryz.ntmps26
   go_wp2
   go_ret
   rw [HE.out]
   exact ⟨rfl, Two.less H1.out⟩
 subst hwy0
 have HE := hide (show R = writeS S p D more from HR.out)
 have HF := hide (fun (A2 : Option Addr) (c2 : Nat) (W : World) (hr : RG encB 1 W A2 D) (h : InvN (Two f r S S (sep (sep X (BlkN bx O)) (YI (.slice A2 dl c2) dl))) w0.heap.size w0 W) => Two.callF h (Nat.le_refl _) (HXF.out.join (YI.fr _ _)) (FsPost.specN (fun T N hv ok => write_any f S p D more A2 c2 T N W hv ok HGW.out.1 (HM.out.below h.below) (by have := HL.out; omega) HGW.out.2.2.1 (by rw [HDL.out]; omega) HGW.out.2.2.2 hr)))
 have HRR := hide (fun (Y : AsnN) (hY : FrN Y) (W : World) (h : InvN (Two f r (writeS S p D more).1 S (sep (sep X (BlkN bx O)) Y)) w0.heap.size w0 W) => Two.callR h (Nat.le_refl _) (HXF.out.join hY) (RK.specAt (fun A' c' L ho => rwrite4_any r S A' c' L p A c D more W ho HGW.out.1 (by have := HL.out; omega) HGW.out.2.2.1 HGW.out.2.2.2 (by rw [HDL.out]; omega) (HB0.out.below h.below) (fun a e hn => by have h1 := HBLK.out a e hn; have h2 := Two.ge h; omega))))
 obtain ⟨R1, hR1⟩ : ∃ y, writeS S p D more = y := ⟨_, rfl⟩
 rw [hR1] at HF HRR HE
 rw [HDL.out] at HF HRR
 obtain ⟨v2, w2, hrun, o2, g2, b2⟩ := run_appY (c := c) (OwnG.nil w1 w1.heap.size) (HB0.out.below H1.out.below) (Nat.le_refl _) (by have := HDL.out; simp; omega)
 have hb12 : Below w1.heap.size w1 w2 := Below.of_gb g2 (Nat.le_refl _) (fun k hk => by cases hk)
 rw [List.nil_append] at o2
 obtain ⟨A2, c2, rfl, hc2, hr2, _, _⟩ := OwnG.slice encB_len o2
 rw [HDL.out] at hrun o2 hc2
 have HI2 := hide (Two.also (H1.out.add (Two.fr f r S S HXF.out) hb12 (Nat.le_refl _) (YI.fr (.slice A2 dl c2) dl) (YI.own o2 HDL.out) ⟨fun k hk => ⟨(o2.lt k hk).2, fun h => h⟩, fun k h => h.elim⟩ (fun k hk => (o2.lt k hk).1) (fun k h => h.elim)))
 have HR2 := hide hr2
 have hdc : (dl : Int) ≤ (c2 : Int) := by omega
 have hdi : (dl : Int) ≤ 2000 := by omega
 have hc3 := HCA.out _ _ _ H1.out 3 _ rfl
 have hc1' := HCB.out _ _ _ _ HI2.out 1 _ rfl
 have hc4' := HCB.out _ _ _ _ HI2.out 4 _ rfl
 clear o2 g2 b2 hb12 hr2 hR1 HR
 go_enter Tryz.func26, Tryz.ntmps26
 go_wp2_with (first | (at_builtin; refine wpList_app_run ?_ (.const (.slice none 0 0)) (.tmp 15) ?_ ?_ ?_ ?_ hrun ?_; exact rfl; exact rfl; exact rfl; exact rfl; exact rfl))
 refine (HF.out _ _ w2 HR2.out HI2.out).mono ?_
 rintro e w3 ⟨rfl, hi3⟩
 have HI3 := hide hi3
 clear hi3 hc1' hc4' hrun
 go_wp2
 go_loopw [9] (fun v9 wr => ∃ k : Nat, v9 = .int .i64 k ∧ k ≤ dl ∧ Hid (InvN (Two f r R1.1 S (sep (sep X (BlkN bx O)) (YI (.slice A2 dl c2) dl))) w0.heap.size w0 wr)) (fun v9 _ => dl - (intOf v9).toNat)
 case atStart => exact ⟨0, rfl, Nat.zero_le _, HI3.out⟩
 case round =>
   obtain ⟨k, rfl, hk, HI⟩ := hrel
   by_cases hlt : k < dl
   · have hu := HI.out.mono (fun _ _ _ h => sep_unassoc h)
     obtain ⟨gb, z, rfl, _, hcz, hfz⟩ := YI.cell hu hlt
     have b1 : (k : Int) < (dl : Int) := by omega
     have HSET := hide (fun z' => Two.also (YI.set hu (Nat.le_refl _) (Two.fr f r R1.1 S HXF.out) hlt z'))
     clear hu
     go_wp2
     go_roundw
     case rel => exact ⟨k + 1, by go_num, by omega, HSET.out _⟩
     case measure => simp [intOf]; omega
   · obtain rfl : k = dl := by omega
     have HI1 := hide (HI.out.drew (Two.fr f r R1.1 S (HXF.out.join (YI.fr _ _))) (Nat.le_refl _))
     clear hlt
     go_wp2_with fail
     refine wp_region_held_drew (S := (fun W => W.cell? ⟨bx, 1, none⟩ = some (.string (bs p)) ∧ W.cell? ⟨bx, 3, none⟩ = some (.slice A k c) ∧ W.cell? ⟨bx, 4, none⟩ = some (.bool more))) (by kernel_rfl) ⟨HCB.out _ _ _ _ HI1.out 1 _ rfl, HCB.out _ _ _ _ HI1.out 3 _ rfl, HCB.out _ _ _ _ HI1.out 4 _ rfl⟩ (fun hHeld => ?_)
     refine tq (i := 0) (v := ?vWr0) rfl rfl (by kernel_rfl) (fun _ _ _ h => h) ?yWr0 (by assumption) ?rWr0
     case yWr0 => intro w h; (try dsimp only at h); go_simp; try with_reducible rfl
     try simp only [sA, sB, sC]
     refine tq (i := 2) (v := ?vWr2) rfl rfl (by kernel_rfl) (fun _ _ _ h => h) ?yWr2 (by assumption) ?rWr2
     case yWr2 => intro w h; (try dsimp only at h); go_simp; try with_reducible rfl
     try simp only [sA, sB, sC]
     refine tq (i := 3) (v := ?vWr3) rfl rfl (by kernel_rfl) (fun _ _ _ h => h) ?yWr3 (by assumption) ?rWr3
     case yWr3 => intro w h; (try dsimp only at h); go_simp; try with_reducible rfl
     try simp only [sA, sB, sC]
     refine tq (i := 4) (v := ?vWr4) rfl rfl (by kernel_rfl) (fun _ _ _ h => h) ?yWr4 (by assumption) ?rWr4
     case yWr4 => intro w h; (try dsimp only at h); go_simp; try with_reducible rfl
     try simp only [sA, sB, sC]
     refine tq (i := 5) (v := ?vWr5) rfl rfl (by kernel_rfl) (fun _ _ _ h => h) ?yWr5 (by assumption) ?rWr5
     case yWr5 => intro w h; (try dsimp only at h); go_simp; try with_reducible rfl
     try simp only [sA, sB, sC]
     refine tq (i := 6) (v := ?vWr6) rfl rfl (by kernel_rfl) (fun _ _ _ h => h) ?yWr6 (by assumption) ?rWr6
     case yWr6 => intro w h; (try dsimp only at h); go_simp; try with_reducible rfl
     try simp only [sA, sB, sC]
     refine tq (i := 7) (v := ?vWr7) rfl rfl (by kernel_rfl) (fun _ _ _ h => h) ?yWr7 (by assumption) ?rWr7
     case yWr7 => intro w h; (try dsimp only at h); go_simp; try with_reducible rfl
     try simp only [sA, sB, sC]
     refine tq (i := 8) (v := ?vWr8) rfl rfl (by kernel_rfl) (fun _ _ _ h => h) ?yWr8 (by assumption) ?rWr8
     case yWr8 => intro w h; (try dsimp only at h); go_simp; try with_reducible rfl
     try simp only [sA, sB, sC]
     refine rq (k := 1) rfl (by kernel_rfl) (by kernel_rfl) (fun K hK => ?_)
     go_simp
     refine (num4_any _ _).mono ?_
     rintro e w' ⟨rfl, rfl⟩
     refine hK.out _ _ ⟨HCB.out _ _ _ _ HI1.out 1 _ rfl, HCB.out _ _ _ _ HI1.out 3 _ rfl, HCB.out _ _ _ _ HI1.out 4 _ rfl⟩ (fun _ => ?_)
     clear hK K
     try simp only [Act.put, sA, sB, sC]
     refine rq (k := 9) rfl (by kernel_rfl) (by kernel_rfl) (fun K hK => ?_)
     go_simp
     refine (HRR.out _ (YI.fr _ _) _ HI1.out).mono ?_
     rintro e w4 ⟨rfl, hi4⟩
     have HI4 := hide hi4
     clear hi4
     refine hK.out _ _ ⟨HCB.out _ _ _ _ HI4.out 1 _ rfl, HCB.out _ _ _ _ HI4.out 3 _ rfl, HCB.out _ _ _ _ HI4.out 4 _ rfl⟩ (fun _ => ?_)
     clear hK K
     try simp only [Act.put, sA, sB, sC]
     refine tq (i := 10) (v := ?vWr10) rfl rfl (by kernel_rfl) (fun _ _ _ h => h) ?yWr10 (by assumption) ?rWr10
     case yWr10 => intro w h; (try dsimp only at h); go_simp; try with_reducible rfl
     try simp only [sA, sB, sC]
     refine tq (i := 11) (v := ?vWr11) rfl rfl (by kernel_rfl) (fun _ _ _ h => h) ?yWr11 (by assumption) ?rWr11
     case yWr11 => intro w h; (try dsimp only at h); go_simp; try with_reducible rfl
     try simp only [sA, sB, sC]
     refine wpAnyH_done (by kernel_rfl) ?_ _
     go_wp2
     go_ret
     rw [HE.out]
     exact ⟨by simp, Two.less (Two.less HI4.out)⟩
end
section
open Go.RowKit Go.Deep Go.Maps Ln Pth Vf
attribute [local go_sem] bt_eq fld0 fld1 fld2 mkMap
structure NewRow (w : World) (b0 : Nat) (A : Option Addr) (P : List NV) : Prop where
 rg : RG encE 4 w A P
 ge : ∀ a, A = some a → b0 ≤ a.block
 dat : ∀ x ∈ P, RG encB 1 w x.2.A x.2.nd.data ∧ x.2.nd.data.length ≤ x.2.c ∧ ∀ a, x.2.A = some a → b0 ≤ a.block
end
section
open Go.RowKit Go.Deep Go.Maps Ln Pth Vf
attribute [local go_sem] bt_eq
def okA (x : Ac4) : Bool := decide (x.p.size ≤ 300) && decide (x.q.size ≤ 300) && decide (x.b.length ≤ 2000)
def bigF (L : List Ac4) : Bool := !(L.all okA && decide (L.length ≤ 60))
theorem big_any (A : Option Addr) (c : Nat) (L : List Ac4) (w : World) (h : RG encA4 5 w A L) (hl : L.length ≤ 9223372036854775807) (hs : ∀ x ∈ L, x.p.size ≤ 9223372036854775807 ∧ x.q.size ≤ 9223372036854775807 ∧ x.b.length ≤ 9223372036854775807) :
   Calls Tryz.prog 24 #[.slice A L.length c] w fun e w' => e = .returned (.bool (bigF L)) ∧ w = w' := by
 have HR := hide h
 have HS := hide hs
 obtain ⟨n, hn⟩ : ∃ n, L.length = n := ⟨_, rfl⟩
 have HN := hide hn
 rw [hn] at hl ⊢
 clear h hs hn
 go_enter Tryz.func24, Tryz.ntmps24
 go_wp2
 go_loopw [3] (fun v3 wr => ∃ k : Nat, v3 = .int .i64 k ∧ k ≤ n ∧ Hid ((L.take k).all okA = true) ∧ w = wr) (fun v3 _ => n - (intOf v3).toNat)
 case atStart => exact ⟨0, rfl, by omega, rfl, rfl⟩
 case round =>
   obtain ⟨k, rfl, hk, HOK, rfl⟩ := hrel
   by_cases hlt : k < n
   · obtain ⟨x, hx⟩ : ∃ x, L[k]? = some x := ⟨L[k]'(by have := HN.out; omega), gE _⟩
     obtain ⟨gs, o, rfl, hgs, hc⟩ := HR.out k x hx
     obtain ⟨z1, z2, z3⟩ := HS.out x (List.mem_of_getElem? hx)
     have hc1 : w.cell? ⟨gs, o + k * 5 + 1, none⟩ = some (.string x.p) := hc 1 _ rfl
     have hc2 : w.cell? ⟨gs, o + k * 5 + 2, none⟩ = some (.string x.q) := hc 2 _ rfl
     have hc3 : w.cell? ⟨gs, o + k * 5 + 3, none⟩ = some (.slice x.A x.b.length x.c) := hc 3 _ rfl
     have b1 : (k : Int) < (n : Int) := by omega
     have HX := hide hx
     obtain ⟨ps, hps⟩ : ∃ s, x.p = s := ⟨_, rfl⟩
     obtain ⟨qs, hqs⟩ : ∃ s, x.q = s := ⟨_, rfl⟩
     obtain ⟨bl, hbl⟩ : ∃ s, x.b.length = s := ⟨_, rfl⟩
     rw [hps] at hc1 z1
     rw [hqs] at hc2 z2
     rw [hbl] at hc3 z3
     have HOX := hide (show okA x = (decide (ps.size ≤ 300) && decide (qs.size ≤ 300) && decide (bl ≤ 2000)) by unfold okA; rw [hps, hqs, hbl])
     have HBAD := hide (fun (h : okA x = false) => show bigF L = true from by
       unfold bigF
       have : L.all okA = false := by
         rw [List.all_eq_false]
         exact ⟨x, List.mem_of_getElem? HX.out, by rw [h]; simp⟩
       rw [this]
       rfl)
     clear hc hx hgs hps hqs hbl
     by_cases p3 : 300 < ps.size
     · have pi : (300 : Int) < (ps.size : Int) := by omega
       have HE := hide (HBAD.out (by rw [HOX.out]; simp; omega))
       go_wp2
       go_ret
       rw [HE.out]
       exact ⟨rfl, rfl⟩
     have pi : ¬ (300 : Int) < (ps.size : Int) := by omega
     by_cases q3 : 300 < qs.size
     · have qi : (300 : Int) < (qs.size : Int) := by omega
       have HE := hide (HBAD.out (by rw [HOX.out]; simp; omega))
       go_wp2
       go_ret
       rw [HE.out]
       exact ⟨rfl, rfl⟩
     have qi : ¬ (300 : Int) < (qs.size : Int) := by omega
     by_cases b3 : 2000 < bl
     · have bi : (2000 : Int) < (bl : Int) := by omega
       have HE := hide (HBAD.out (by rw [HOX.out]; simp; omega))
       go_wp2
       go_ret
       rw [HE.out]
       exact ⟨rfl, rfl⟩
     have bi : ¬ (2000 : Int) < (bl : Int) := by omega
     have HE := hide (show okA x = true by rw [HOX.out]; simp; omega)
     go_wp2
     go_roundw
     case rel =>
       refine ⟨k + 1, by go_num, by omega, ?_, trivial⟩
       show (L.take (k + 1)).all okA = true
       rw [List.take_add_one, HX.out, List.all_append, HOK.out]
       simp [HE.out]
     case measure => simp [intOf]; omega
   · obtain rfl : n = k := by omega
     have htk : L.take n = L := List.take_of_length_le (by have := HN.out; omega)
     rw [htk] at HOK
     by_cases n6 : 60 < n
     · have ni : (60 : Int) < (n : Int) := by omega
       have HE := hide (show bigF L = true by unfold bigF; rw [HN.out, decide_eq_false (by omega)]; simp)
       clear htk
       go_wp2
       go_ret
       rw [HE.out]
       exact ⟨by simp, rfl⟩
     · have ni : ¬ (60 : Int) < (n : Int) := by omega
       have HE := hide (show bigF L = false by unfold bigF; rw [HOK.out, HN.out, decide_eq_true (by omega)]; rfl)
       clear htk
       go_wp2
       go_ret
       rw [HE.out]
       exact ⟨by simp, rfl⟩
end
section
open Go.RowKit Go.Deep Go.Maps Ln Pth Vf
def noneN : AsnN := fun _ _ _ => True
theorem noneN.fr : FrN noneN := fun _ _ _ _ _ h _ _ _ => h
theorem Two.start {w0 w1 w2 w3 : World} (n b : Int) (h0 : Below w0.heap.size w0 w1) (hb1 : Below w1.heap.size w1 w2) (hv : VS (w1.heap.size + 1) (newS n b) (fun k => w1.heap.size ≤ k ∧ k < w2.heap.size) (fun _ => False) w2) (hs : w2.heap.size = w1.heap.size + 2)
   (hb2 : Below w2.heap.size w2 w3) (hr : RSO w2.heap.size (newS n b) none 0 [] w3) (hs3 : w3.heap.size = w2.heap.size + 1) : InvN (Two (w1.heap.size + 1) w2.heap.size (newS n b) (newS n b) noneN) w0.heap.size w0 w3 := by
 have hz0 := h0.size
 have hok : OkTN (fun k => w1.heap.size ≤ k ∧ k < w2.heap.size) (fun _ => False) w2 := ⟨fun k hk => ⟨hk.2, fun h => h⟩, fun k h => h.elim⟩
 obtain ⟨hv3, ok3⟩ := hv.stay hok hb2
 refine ⟨fun k => w1.heap.size ≤ k ∧ k < w3.heap.size, fun _ => False, ⟨fun k => w1.heap.size ≤ k ∧ k < w3.heap.size, fun _ => False, ⟨fun k => w1.heap.size ≤ k ∧ k < w2.heap.size, fun k => k = w2.heap.size, hv3, ⟨rfl, none, 0, [], hr.heap, hr.cap, ⟨hr.rg, fun a e => (by cases e), fun x hx => (by cases hx), fun x hx => (by cases hx), fun a e => (by cases e)⟩, hr.eq⟩, fun k hk => ⟨hk.1, by omega⟩, fun k hk => ⟨by omega, by omega⟩, fun k h1 h2 => by omega⟩, trivial, fun k h => h, fun k h => h.elim, fun k h1 h2 => h2⟩, ⟨fun k hk => ⟨hk.2, fun h => h⟩, fun k h => h.elim⟩, fun k hk => by omega, ?_⟩
 exact below_up (below_up h0 hb1 hz0) hb2 (below_up h0 hb1 hz0).size
end
section
open Go.RowKit Go.Deep Go.ChangeShapes Go.WideShapes
def szP (x : Pt) : Prop := x.text.size ≤ maxLen ∧ x.wn ≤ maxLen ∧ -9223372036854775808 ≤ x.kind ∧ x.kind ≤ 9223372036854775807
theorem open_PTone {H : Type} {enc : TypeId × Value → H} {W : World} {fuel : Nat} {cs : List Value} {y : DataW H × List MemPlace} (hlen : cs.length = 6) (hy : DataW.trod enc Tryz.prog W 0 (fun _ => true) true fuel 51 cs = some y) :
   ∃ x : Pt, cs = encPt x ∧ szP x := by
 obtain ⟨xs, k, hk, hxy, _, hxl, hf⟩ := DataW.trod_struct Tryz.underlying51 hy
 match xs, hxl, cs, hlen with
 | [y0, y1, y2, y3, y4, y5], _, [v0, v1, v2, v3, v4, v5], _ =>
   obtain ⟨a, q0, _, hw⟩ := DataW.trod_int Tryz.underlying3 (hf 0 _ rfl)
   obtain ⟨s, q1, _, l1⟩ := DataW.trod_string Tryz.underlying9 (hf 1 _ rfl)
   obtain ⟨t, q2, _, l2⟩ := DataW.trod_string Tryz.underlying9 (hf 2 _ rfl)
   obtain ⟨u, q3, _, l3⟩ := DataW.trod_string Tryz.underlying9 (hf 3 _ rfl)
   obtain ⟨b, q5, _⟩ := DataW.trod_bool Tryz.underlying4 (hf 5 _ rfl)
   have e0 : [v0] = [.int .i64 a] := q0
   have e1 : [v1] = [.string s] := q1
   have e2 : [v2] = [.string t] := q2
   have e3 : [v3] = [.string u] := q3
   have e5 : [v5] = [.bool b] := q5
   clear q0 q1 q2 q3 q5
   obtain rfl : v0 = .int .i64 a := List.cons.inj e0 |>.1
   obtain rfl : v1 = .string s := List.cons.inj e1 |>.1
   obtain rfl : v2 = .string t := List.cons.inj e2 |>.1
   obtain rfl : v3 = .string u := List.cons.inj e3 |>.1
   obtain rfl : v5 = .bool b := List.cons.inj e5 |>.1
   have h4 := hf 4 _ rfl
   have hw2 : IntKind.i64.min ≤ a ∧ a ≤ 9223372036854775807 := by simpa [Lit.wf] using hw
   rw [show IntKind.i64.min = -9223372036854775808 by decide] at hw2
   have h4' : DataW.trod enc Tryz.prog W 0 (fun _ => true) true k 49 [v4] = some y4 := h4
   obtain ⟨A, len', c, rfl, hl⟩ : ∃ A l c, v4 = .slice A l c ∧ l ≤ maxLen := by
     rcases open_slice Tryz.underlying49 h4' with ⟨hcs, _⟩ | ⟨a, len', cap', m, fl, D, Pl, hcs, h1, h2, h3, h5, _⟩
     · exact ⟨_, _, _, (List.cons.inj hcs).1, by unfold maxLen; omega⟩
     · exact ⟨_, _, _, (List.cons.inj hcs).1, by omega⟩
   exact ⟨⟨a, s, t, u, A, len', c, b⟩, rfl, l1, hl, hw2⟩
theorem open_PT {H : Type} {enc : TypeId × Value → H} {W : World} {a0 : Option Addr} {len cap : Nat} {d : DataW H} {ps : List MemPlace} (h : DataW.Trod enc Tryz.prog W 0 (fun _ => true) true 49 (.slice a0 len cap) d ps) :
   ∃ L : List Pt, L.length = len ∧ L.length ≤ maxLen ∧ (∀ x ∈ L, szP x) ∧ RG encPt 6 W a0 L := by
 obtain ⟨L, h1, h2, h3, h4⟩ := open_rows (n := 6) (good := fun w (x : Pt) cs => cs = encPt x ∧ szP x) Tryz.underlying49 (by kernel_rfl) (by omega) (fun fuel cs y hlen hy => open_PTone hlen hy) h
 refine ⟨L, h1, h2, fun x hx => by obtain ⟨cs, hg⟩ := h3 x hx; exact hg.2, fun k x hk => ?_⟩
 obtain ⟨g, o, cs, e, hg, _, hc, ⟨rfl, _⟩⟩ := h4 k x hk
 exact ⟨g, o, e, hg, fun j v hj => hc j v hj⟩
end
section
open Go.RowKit Go.Deep Go.Maps Ln Pth Vf Qm.Glob
attribute [local go_sem] bt_eq
theorem okA_iffP {x : Ac4} (h : okA x = true) : x.p.size ≤ 300 ∧ x.q.size ≤ 300 ∧ x.b.length ≤ 2000 := by
 unfold okA at h
 simp only [Bool.and_eq_true, decide_eq_true_eq] at h
 exact ⟨h.1.1, h.1.2, h.2⟩
theorem bigF_noP {L : List Ac4} (h : bigF L = false) : (∀ x ∈ L, okA x = true) ∧ L.length ≤ 60 := by
 unfold bigF at h
 simp only [Bool.not_eq_false', Bool.and_eq_true, decide_eq_true_eq, List.all_eq_true] at h
 exact h
theorem bigP_no {L : List Pt} (h : bigP L = false) : (∀ p ∈ L, p.text.size ≤ 300) ∧ L.length ≤ 40 := by
 unfold bigP at h
 simp only [Bool.not_eq_false', Bool.and_eq_true, decide_eq_true_eq, List.all_eq_true] at h
 refine ⟨fun p hp => ?_, h.2⟩
 have := h.1 p hp
 unfold okP at this
 simp only [Bool.and_eq_true, decide_eq_true_eq] at this
 exact this.1.1.1.1.1
theorem textS_lenP : ∀ (L : List Pt), (∀ p ∈ L, p.text.size ≤ 300) → (textS L).length ≤ L.length * 300
 | [], _ => by simp [textS]
 | p :: L, h => by
   have h1 := textS_lenP L (fun q hq => h q (by simp [hq]))
   have h3 := h p (by simp)
   have e : textS (p :: L) = p.text.data.toList ++ textS L := rfl
   rw [e, List.length_append, data_len, List.length_cons, Nat.add_mul]
   omega
theorem patS_lenP : ∀ (L : List Pt), (patS L).length ≤ 2 * (textS L).length
 | [] => by simp [patS]
 | p :: L => by
   have h1 := patS_lenP L
   have h2 := patP_size p
   have e : textS (p :: L) = p.text.data.toList ++ textS L := rfl
   have e2 : patS (p :: L) = (patP p).data.toList ++ patS L := rfl
   rw [e, e2, List.length_append, List.length_append, data_len, data_len]
   omega
theorem bsF_size (l : List UInt8) : (bsF l).size = l.length := by simp [bsF, ByteArray.size]
theorem law_fieldPaths (K : Nat) (hK : K ≤ 140737488355328) (A : Option Addr) (c : Nat) (L : List Ac4) (cwd : ByteArray) (B : Option Addr) (d : Nat) (M : List Pt)
   (m0 : L.length ≤ maxLen) (s0 : ∀ x ∈ L, szA x) (zc : cwd.size ≤ K) (m1 : M.length ≤ maxLen) (s1 : ∀ x ∈ M, szP x)
   (w : World) (hm : MX w) (hA : AR4 w A L) (hB : RG encPt 6 w B M) :
   Calls Tryz.prog 6 #[.slice A L.length c, .string cwd, .slice B M.length d] w fun e w' => e = .returned (.bool true) ∧ Below w.heap.size w w' := by
 have HBP := hide (fun (w1 : World) (hb : Below w.heap.size w w1) => big12_any B d M w1 (hB.below hb) (by unfold maxLen at m1; omega) (fun x hx => by have := s1 x hx; unfold szP maxLen at this; omega))
 have HBF := hide (fun (w1 : World) (hb : Below w.heap.size w w1) => big_any A c L w1 (hA.1.below hb) (by unfold maxLen at m0; omega) (fun x hx => s0 x hx))
 have HM := hide hm
 have HA := hide hA
 have HB := hide hB
 unfold maxLen at m0 m1
 obtain ⟨nl, hnl⟩ : ∃ n, L.length = n := ⟨_, rfl⟩
 obtain ⟨nm, hnm⟩ : ∃ n, M.length = n := ⟨_, rfl⟩
 have HNL := hide hnl
 have HNM := hide hnm
 have hcz : cwd.size ≤ 9223372036854775807 := by omega
 rw [hnl] at HBF m0 ⊢
 rw [hnm] at HBP m1 ⊢
 clear hm hA hB s0 s1 zc hK hnl hnm
 go_enter Tryz.func6, Tryz.ntmps6
 go_wp2_with fail
 refine (alive12_any w).mono ?_
 rintro e w1 ⟨rfl, hb1⟩
 have HB1 := hide hb1
 have HBP1 := hide (HBP.out w1 hb1)
 have HBF1 := hide (HBF.out w1 hb1)
 clear hb1 HBP HBF
 cases hbp : bigP M with
 | true =>
   rw [hbp] at HBP1
   go_wp2_with fail
   refine HBP1.out.mono ?_
   rintro e w2 ⟨rfl, rfl⟩
   go_wp2
   go_ret
   exact ⟨rfl, HB1.out⟩
 | false =>
   rw [hbp] at HBP1
   obtain ⟨hpz, hp40⟩ := bigP_no hbp
   have hp40 : nm ≤ 40 := HNM.out ▸ hp40
   cases hbf : bigF L with
   | true =>
     rw [hbf] at HBF1
     clear hbp hpz
     go_wp2_with fail
     refine HBP1.out.mono ?_
     rintro e w2 ⟨rfl, rfl⟩
     go_wp2_with fail
     refine HBF1.out.mono ?_
     rintro e w3 ⟨rfl, rfl⟩
     go_wp2
     go_ret
     exact ⟨rfl, HB1.out⟩
   | false =>
     rw [hbf] at HBF1
     obtain ⟨hok, hl60⟩ := bigF_noP hbf
     have hl60 : nl ≤ 60 := HNL.out ▸ hl60
     have HOK := hide hok
     have HPZ := hide hpz
     have htl := textS_lenP M hpz
     rw [HNM.out] at htl
     have HTX := hide (text_any B d M w1 (HB.out.below HB1.out) (by rw [HNM.out]; omega) (by omega))
     rw [HNM.out] at HTX
     have hpl := patS_lenP M
     have HPL := hide hpl
     have hts : (bsF (textS M)).size = (textS M).length := bsF_size _
     obtain ⟨tl, htle⟩ : ∃ z, (textS M).length = z := ⟨_, rfl⟩
     rw [htle] at htl hts HPL
     have HTL := hide htle
     obtain ⟨tx, htx⟩ : ∃ z, bsF (textS M) = z := ⟨_, rfl⟩
     rw [htx] at hts HTX
     have HTXE := hide htx
     clear hbp hpz hbf hok hpl htle htx
     by_cases h8 : 8 < nm
     · have h8' : (8 : Int) < (nm : Int) := by omega
       go_wp2_with fail
       refine HBP1.out.mono ?_
       rintro e w2 ⟨rfl, rfl⟩
       go_wp2_with fail
       refine HBF1.out.mono ?_
       rintro e w3 ⟨rfl, rfl⟩
       go_wp2
       go_ret
       exact ⟨rfl, HB1.out⟩
     have h8' : decide ((8 : Int) < (nm : Int)) = false := decide_eq_false (by omega)
     have h8b : decide (8 < nm) = false := decide_eq_false h8
     go_wp2_with fail
     refine HBP1.out.mono ?_
     rintro e w2 ⟨rfl, rfl⟩
     go_wp2_with fail
     refine HBF1.out.mono ?_
     rintro e w3 ⟨rfl, rfl⟩
     go_wp2_with fail
     refine HTX.out.mono ?_
     rintro e w4 ⟨rfl, hb4⟩
     have HB4 := hide (HB1.out.trans (hb4.mono HB1.out.size))
     clear hb4 HBP1 HBF1 HTX
     by_cases h60 : 60 < tl
     · have h60' : (60 : Int) < (tl : Int) := by omega
       go_wp2
       go_ret
       exact ⟨rfl, HB4.out⟩
     have H60 := hide h60
     have h60' : decide ((60 : Int) < (tl : Int)) = false := decide_eq_false (by omega)
     have h60b : decide (60 < tl) = false := decide_eq_false h60
     by_cases hc60 : 60 < cwd.size
     · have hc60' : (60 : Int) < (cwd.size : Int) := by omega
       go_wp2
       go_ret
       exact ⟨rfl, HB4.out⟩
     have hc60' : decide ((60 : Int) < (cwd.size : Int)) = false := decide_eq_false (by omega)
     have hc60b : decide (60 < cwd.size) = false := decide_eq_false hc60
     by_cases h25 : 25 < nl
     · have h25' : (25 : Int) < (nl : Int) := by omega
       go_wp2
       go_ret
       exact ⟨rfl, HB4.out⟩
     have h25' : decide ((25 : Int) < (nl : Int)) = false := decide_eq_false (by omega)
     have h25b : decide (25 < nl) = false := decide_eq_false h25
     have HNW := hide (vnew_any 40 2000 w4 (by omega) (by omega) (by omega) (by omega))
     go_wp2_with fail
     refine HNW.out.mono ?_
     rintro e w5 ⟨rfl, hb5, hv5, hs5⟩
     have HNR := hide (rnew_any 40 2000 w5)
     go_wp2_with fail
     refine HNR.out.mono ?_
     rintro e w6 ⟨rfl, hb6, hr6, hs6⟩
     have HI0 := hide (Two.start 40 2000 HB4.out hb5 hv5 hs5 hb6 hr6 hs6)
     have HG0 := hide (GoodS.new 40 2000)
     obtain ⟨f, hf⟩ : ∃ f, w4.heap.size + 1 = f := ⟨_, rfl⟩
     obtain ⟨r, hr⟩ : ∃ f, w5.heap.size = f := ⟨_, rfl⟩
     have hby0 : (newS 40 2000).bytes ≤ 400000 := by decide
     have hnd0 : (newS 40 2000).nodes = 40 := by decide
     obtain ⟨S0, hS0⟩ : ∃ S, newS 40 2000 = S := ⟨_, rfl⟩
     rw [hf, hr, hS0] at HI0
     rw [hS0] at HG0 hby0 hnd0
     rw [hf, hr]
     clear hb5 hv5 hs5 hb6 hr6 hs6 HNW HNR hf hr hS0 h8 h8' h8b h60 h60' h60b hc60' hc60b h25' h25b
     go_wp2
     go_loopw [11] (fun v11 wr => ∃ i : Nat, v11 = .int .i64 i ∧ i ≤ nl ∧ Hid (InvN (Two f r (actsS S0 (L.take i)) (actsS S0 (L.take i)) noneN) w.heap.size w wr)) (fun v11 _ => nl - (intOf v11).toNat)
     case atStart => exact ⟨0, rfl, Nat.zero_le _, HI0.out⟩
     case round =>
       obtain ⟨wo, hwo⟩ : ∃ Z, Z = wr := ⟨_, rfl⟩
       subst hwo
       obtain ⟨i, rfl, hi, HI⟩ := hrel
       by_cases hlt : i < nl
       case neg =>
         obtain rfl : i = nl := by omega
         have hgd := GoodS.acts (L.take i) HG0.out
         obtain ⟨S, hS⟩ : ∃ z, actsS S0 (L.take i) = z := ⟨_, rfl⟩
         rw [hS] at HI hgd
         have hfs : FsOk S := fsOk_of hgd.wf (by have := hgd.nodes; omega)
         have hbo := HI.out.below
         have hmo := HM.out.below hbo
         have hts2 : (textS M).length ≤ 1000000 := by rw [HTL.out]; omega
         have hpt : (bsF (patS M)).size ≤ 200 := by rw [bsF_size]; have := HPL.out; have := H60.out; omega
         have hz1 : ∀ p ∈ M, p.text.size ≤ 1000 := fun p hp => Nat.le_trans (HPZ.out p hp) (by omega)
         have hml : M.length ≤ 1000 := by rw [HNM.out]; omega
         have HPP := hide (ppaths_any f S cwd B d M wo hfs (Two.vs HI.out) hmo (by omega) (HB.out.below hbo) hml hz1 hts2 hpt)
         obtain ⟨Ar, cr, Pr, hor⟩ := RS.o HI.out.fst.snd.hs
         have HRP := hide (fun W (hb : Below wo.heap.size wo W) => rpaths_any r S Ar cr Pr cwd B d M W hfs (hor.below hb) (hmo.below hb) (by omega) ((HB.out.below hbo).below hb) hml hz1 hts2 hpt)
         rw [HNM.out] at HPP HRP
         have HPO := hide (show (pathsF S cwd (bsF (patS M)) (bsF (textS M))).length ≤ 1000 by
           unfold pathsF
           split
           · simp
           · split
             · simp
             · unfold outB
               split
               · simp
               · rw [List.length_map]
                 exact Nat.le_trans (firstB_le _) (by omega))
         obtain ⟨O, hO⟩ : ∃ z, pathsF S cwd (bsF (patS M)) (bsF (textS M)) = z := ⟨_, rfl⟩
         rw [hO] at HPP HRP HPO
         have HBO := hide hbo
         have b1 : ¬ (i : Int) < (i : Int) := by omega
         clear hgd hS hfs hmo hts2 hpt hz1 hml hor hO hbo HI HI0
         go_wp2_with fail
         refine HPP.out.mono ?_
         rintro e w8 ⟨⟨A8, c8, rfl, hs8⟩, hb8⟩
         have HRP8 := hide (HRP.out w8 hb8)
         have HS8 := hide hs8
         have HB8 := hide (HBO.out.trans (hb8.mono HBO.out.size))
         clear hs8 hb8 HPP HRP
         go_wp2_with fail
         refine HRP8.out.mono ?_
         rintro e w9 ⟨⟨A9, c9, rfl, hs9⟩, hb9⟩
         have HSA := hide (same_any A8 A9 c8 c9 O O w9 (HS8.out.below hb9) hs9 (by have := HPO.out; omega))
         rw [decide_eq_true (rfl : O = O)] at HSA
         have HB9 := hide (HB8.out.trans (hb9.mono HB8.out.size))
         clear hs9 hb9 HRP8
         go_wp2_with fail
         refine HSA.out.mono ?_
         rintro e w10 ⟨rfl, hd10⟩
         have HB10 := hide (HB9.out.trans (hd10.below.mono HB9.out.size))
         clear hd10
         go_wp2
         go_ret
         exact ⟨by simp, HB10.out⟩
       case pos =>
         have har := HA.out.below HI.out.below
         obtain ⟨y, hy⟩ : ∃ y, L[i]? = some y := ⟨L[i]'(by have := HNL.out; omega), gE _⟩
         obtain ⟨gs, og, rfl, hgs, hc⟩ := har.1 i y hy
         have c0 : wo.cell? ⟨gs, og + i * 5, none⟩ = some (.int .i64 y.way) := by have := hc 0 _ rfl; simpa using this
         have c1 : wo.cell? ⟨gs, og + i * 5 + 1, none⟩ = some (.string y.p) := hc 1 _ rfl
         have c2 : wo.cell? ⟨gs, og + i * 5 + 2, none⟩ = some (.string y.q) := hc 2 _ rfl
         have c3 : wo.cell? ⟨gs, og + i * 5 + 3, none⟩ = some (.slice y.A y.b.length y.c) := hc 3 _ rfl
         have c4 : wo.cell? ⟨gs, og + i * 5 + 4, none⟩ = some (.bool y.more) := hc 4 _ rfl
         obtain ⟨z1, z2, z3⟩ := okA_iffP (HOK.out y (List.mem_of_getElem? hy))
         have hgd := GoodS.acts (L.take i) HG0.out
         have HDO := hide (do_any f r _ y noneN noneN.fr w wo HI.out hgd hby0 (by rw [List.length_take]; omega) HM.out z1 z2 z3 (HA.out.2 y (List.mem_of_getElem? hy)))
         rw [← actsS_take hy] at HDO
         have b1 : (i : Int) < (nl : Int) := by omega
         clear hy hc hgs z1 z2 z3 hgd har
         go_wp2_with fail
         refine HDO.out.mono ?_
         rintro e w7 ⟨rfl, hi7⟩
         have HI7 := hide hi7
         clear hi7 HDO
         go_wp2
         go_roundw
         case rel => exact ⟨i + 1, by go_num, by omega, HI7.out⟩
         case measure => simp [intOf]; omega
end
section
open Go.RowKit
abbrev SRow := Option Addr × Nat × List ByteArray
def sv (x : SRow) : Value := .slice x.1 x.2.2.length x.2.1
structure Rl where
 tg : SRow
 nd : SRow
 rc : SRow
def encRl (r : Rl) : List Value := [sv r.tg, sv r.nd, sv r.rc]
structure RlOk (w : World) (r : Rl) : Prop where
 tg : SR w r.tg.1 r.tg.2.2
 nd : SR w r.nd.1 r.nd.2.2
 rc : SR w r.rc.1 r.rc.2.2
 t1 : r.tg.2.2.length ≤ 100000
 n1 : r.nd.2.2.length ≤ 100000
 r1 : r.rc.2.2.length ≤ 100000
end
section
open Go.RowKit Go.Deep Go.ChangeShapes Go.WideShapes
structure SmallD (H : Type) (K : Nat) where
 P : TypeId → DataW H → Prop
 elem : ∀ {t e : TypeId} {elems spare : List (DataW H)} {d : DataW H}, Tryz.prog.underlying t = some (.slice e) → P t (.slice elems spare) → d ∈ elems → P e d
 part : ∀ {t : TypeId} {fs : Array Field} {parts : List (DataW H)} {j : Nat} {f : Field} {d : DataW H}, Tryz.prog.underlying t = some (.struct fs) → P t (.agg parts) → fs[j]? = some f → parts[j]? = some d → P f.type d
 str : ∀ {t : TypeId} {b : List UInt8}, P t (.lit (.string b)) → b.length ≤ K
theorem weightsAll_mem {H : Type} {P : Program} {e : TypeId} {n : Nat} {d : DataW H} (hn : n ∈ d.weights P e) : ∀ {l : List (DataW H)}, d ∈ l → n ∈ DataW.weightsAll P e l
 | [], h => by cases h
 | x :: l, h => by
   simp only [DataW.weightsAll, List.mem_append]
   rcases List.mem_cons.1 h with rfl | h
   · exact .inl hn
   · exact .inr (weightsAll_mem hn h)
def weighD (H : Type) : SmallD H reachBytes where
 P := fun t d => ∀ n ∈ d.weights Tryz.prog t, n ≤ reachBytes
 elem := fun {t e elems spare d} hu h hd n hn => h n (by
   simp only [DataW.weights, hu, List.mem_cons, List.mem_append]
   exact .inr (.inl (weightsAll_mem hn hd)))
 part := fun {t fs parts j f d} hu h hf hd n hn => h n (by
   simp only [DataW.weights, hu]
   exact DataW.weights_mem_each (j := j) (t := f.type) (by rw [List.getElem?_map, Array.getElem?_toList, hf]; rfl) hd n hn)
 str := fun {t b} h => h b.length (by simp [DataW.weights])
theorem weighD_arg {H : Type} {ts : List TypeId} {ds : List (DataW H)} (h : (DataW.weightsEach Tryz.prog ts ds).all (· ≤ reachBytes) = true) {j : Nat} {t : TypeId} {d : DataW H} (ht : ts[j]? = some t) (hd : ds[j]? = some d) : (weighD H).P t d := fun n hn => by
 have := List.all_eq_true.1 h _ (DataW.weights_mem_each ht hd n hn)
 simpa using this
structure RlIn (K : Nat) (w : World) (r : Rl) : Prop where
 tg : SR w r.tg.1 r.tg.2.2
 nd : SR w r.nd.1 r.nd.2.2
 rc : SR w r.rc.1 r.rc.2.2
 t1 : r.tg.2.2.length ≤ maxLen
 n1 : r.nd.2.2.length ≤ maxLen
 r1 : r.rc.2.2.length ≤ maxLen
 t2 : ∀ s ∈ r.tg.2.2, s.size ≤ K
 n2 : ∀ s ∈ r.nd.2.2, s.size ≤ K
 r2 : ∀ s ∈ r.rc.2.2, s.size ≤ K
def RLI (K : Nat) (w : World) (A : Option Addr) (L : List Rl) : Prop := RG encRl 3 w A L ∧ ∀ r ∈ L, RlIn K w r
structure MkV where
 ma : Option Addr
 mc : Nat
 ml : List Pr
 ra : Option Addr
 rc : Nat
 rl : List Rl
structure MkIn (K : Nat) (w : World) (x : MkV) : Prop where
 m1 : x.ml.length ≤ maxLen
 r1 : x.rl.length ≤ maxLen
 m2 : ∀ p ∈ x.ml, p.1.size ≤ K ∧ p.2.size ≤ K
 mr : PR w x.ma x.ml
 rr : RLI K w x.ra x.rl
end
end Go.Proofs.YtmcophlmcloooaaGreatDoor
