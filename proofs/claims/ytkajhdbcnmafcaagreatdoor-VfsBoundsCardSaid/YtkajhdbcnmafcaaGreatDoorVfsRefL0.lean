/- Walk of the reference's Move, where the second path's kind is 0. -/
import Derived.Test.YtkajhdbcnmafcaaGreatDoorVfsRefL
namespace Go.Proofs.YtkajhdbcnmafcaaGreatDoor
open Go.RowKit Go.Deep Go.Maps Ln Pth Vf
set_option linter.unusedSimpArgs false
set_option linter.unusedVariables false
attribute [local go_sem] bt_eq

set_option maxRecDepth 100000 in
set_option maxHeartbeats 4000000 in
theorem rmove4_k0 (g : Nat) (S : St) (A : Option Addr) (c : Nat) (P : List NV) (p q : T) (w : World) (h : RSO g S A c P w) (hS : WfS S) (t : HangS S) (hp : p.length ≤ 50000) (hq : q.length ≤ 50000) (hck : S.clock ≤ 1000000000) (hkq : kindM S.m (absF [47] q).1 = 0) :
    Calls Tryz.prog 56 #[.pointer (some ⟨g, 0, none⟩), .string (bs p), .string (bs q)] w fun e w' => e = .returned (.int .i64 (moveS S p q).2) ∧ RK g (moveS S p q).1 w A P w' := by
  have hl := row_len hS h.eq
  have hks := keys_short hS h.eq
  have H := hide h
  have HA1 := hide (rabs_any [47] p w (by simp) (by omega))
  have HA2 := hide (fun W => rabs_any [47] q W (by simp) (by omega))
  have HC1 := absF_cases [47] p
  have HC2 := absF_cases [47] q
  have HB1 := hide (fun h1 => moveS_bad1 (S := S) (p := p) (q := q) h1)
  have HB2 := hide (fun h1 h2 => moveS_bad2 (S := S) (p := p) (q := q) h1 h2)
  have HCH := hide (fun x y h1 h2 => moveS_chain (S := S) (p := p) (q := q) (x := x) (y := y) h1 h2)
  have HCS := hide (moveS_cases hS t p q)
  have HMD := hide (fun (a b : List T) ga gb nea hk => may_doc hS t h.eq (a := a) (b := b) ga gb nea hk)
  have HWY := hide (fun (l : List T) (gl : GoodP l) (W : World) (hb : Below w.heap.size w W) => rway_any g S A c P l W (h.below hb) (by omega) gl.ok (by have := gl.len; omega))
  have HKD := hide (fun (q : T) (W : World) (hb : Below w.heap.size w W) => rkind_any g S A c P q W (h.below hb) (by omega))
  have HNM := hide (fun (q : T) (W : World) (hb : Below w.heap.size w W) => rnames4_any g S A c P q W (h.below hb) hl hks)
  have HKS := hide hks
  have HL := hide hl
  unfold AbsPost at HA1 HA2
  rw [show bs [47] = (⟨#[47]⟩ : ByteArray) from rfl] at HA1 HA2
  obtain ⟨R, hR⟩ : ∃ R, moveS S p q = R := ⟨_, rfl⟩
  rw [hR] at HB1 HB2 HCH HCS ⊢
  obtain ⟨r1, hr1⟩ : ∃ r, absF [47] p = r := ⟨_, rfl⟩
  obtain ⟨x, e1⟩ := r1
  obtain ⟨r2, hr2⟩ : ∃ r, absF [47] q = r := ⟨_, rfl⟩
  obtain ⟨y, e2⟩ := r2
  rw [hr1] at HA1 HB1 HB2 HC1 HCH
  rw [hr2] at HA2 HB2 HC2 HCH hkq
  dsimp only at HA1 HA2 HB1 HB2 HC1 HC2
  clear hR h hks hl hp hq t
  go_enter Tryz.func56, Tryz.ntmps56
  go_wp2_with fail
  refine HA1.out.mono ?_
  rintro e w1 ⟨rfl, hb1⟩
  have HW1 := hide hb1
  clear hb1 HA1
  by_cases c1 : e1 = 0
  case neg =>
    obtain ⟨t1, t2⟩ := ne0 c1
    have HE := hide (HB1.out c1)
    clear c1 HC1 HC2
    go_wp2
    go_ret
    rw [HE.out]
    exact ⟨rfl, RK.stay H.out HW1.out⟩
  subst c1
  go_wp2_with fail
  refine (HA2.out w1).mono ?_
  rintro e w2 ⟨rfl, hb2⟩
  have HW2 := hide (below_up HW1.out hb2 HW1.out.size)
  clear hb2 HA2 HW1
  by_cases c2 : e2 = 0
  case neg =>
    obtain ⟨t1, t2⟩ := ne0 c2
    have HE := hide (HB2.out trivial c2)
    clear c2 HC1 HC2
    go_wp2
    go_ret
    rw [HE.out]
    exact ⟨rfl, RK.stay H.out HW2.out⟩
  subst c2
  obtain ⟨a, ga, ea⟩ : ∃ a, GoodP a ∧ x = joinF a := by
    rcases HC1 with ⟨a, ga, e, _⟩ | ⟨_, e⟩
    · exact ⟨a, ga, congrArg Prod.fst e⟩
    · omega
  obtain ⟨b, gb, eb⟩ : ∃ b, GoodP b ∧ y = joinF b := by
    rcases HC2 with ⟨b, gb, e, _⟩ | ⟨_, e⟩
    · exact ⟨b, gb, congrArg Prod.fst e⟩
    · omega
  have HR := hide (HCH.out x y rfl rfl)
  have HWX := hide (HWY.out a ga)
  have HWYY := hide (HWY.out b gb)
  rw [← ea] at HWX
  rw [← eb] at HWYY
  have hxl : x.length ≤ 200 := by rw [ea]; exact ga.len
  have hyl : y.length ≤ 200 := by rw [eb]; exact gb.len
  have HMY := hide (fun h1 h2 => HMD.out a b ga gb h1 h2)
  rw [← ea, ← eb] at HMY
  have HXR := hide (show a ≠ [] ↔ x ≠ [47] by rw [ea]; exact not_congr (joinF_root ga.ok).symm)
  have hxr := HXR.out
  have EA := hide ea
  have EB := hide eb
  clear HC1 HC2 HWY HMD HCH HB1 HB2 ea eb
  obtain ⟨wx, hwx⟩ : ∃ k, wayM S.m x = k := ⟨_, rfl⟩
  obtain ⟨wy, hwy⟩ : ∃ k, wayM S.m y = k := ⟨_, rfl⟩
  rw [hwx] at HWX HR
  rw [hwy] at HWYY HR
  by_cases c3 : wx = 0
  case neg =>
    obtain ⟨t1, t2⟩ := ne0 c3
    have HE := hide (HR.out.trans (if_pos c3))
    clear c3 hwx hwy
    go_wp2_with fail
    refine (HWX.out w2 HW2.out).mono ?_
    rintro e w3 ⟨rfl, hb3⟩
    have HW3 := hide (below_up HW2.out hb3 HW2.out.size)
    clear hb3
    go_wp2_with fail
    refine (HWX.out w3 HW3.out).mono ?_
    rintro e w4 ⟨rfl, hb4⟩
    have HW4 := hide (below_up HW3.out hb4 HW3.out.size)
    clear hb4
    go_wp2
    go_ret
    rw [HE.out]
    exact ⟨rfl, RK.stay H.out HW4.out⟩
  subst c3
  have HR1 := hide (HR.out.trans (if_neg (by simp)))
  clear HR hwx hwy
  go_wp2_with fail
  refine (HWX.out w2 HW2.out).mono ?_
  rintro e w3 ⟨rfl, hb3⟩
  have HW3 := hide (below_up HW2.out hb3 HW2.out.size)
  clear hb3 HW2
  have HKX := hide (HKD.out x w3 HW3.out)
  have hkx := kind_le S.m x
  have hky := kind_le S.m y
  obtain ⟨kx, hkxe⟩ : ∃ k, kindM S.m x = k := ⟨_, rfl⟩
  obtain ⟨ky, hkye⟩ : ∃ k, kindM S.m y = k := ⟨_, rfl⟩
  have HKY := hide (fun W hb => HKD.out y W hb)
  rw [hkxe] at HKX HR1 hkx HMY
  have hkq' : ky = 0 := hkye.symm.trans hkq
  rw [hkye] at HKY hky HMY
  clear HKD hkxe hkye hkq
  by_cases c4 : kx = 0
  · subst c4
    have HE := hide (HR1.out.trans (if_pos rfl))
    go_wp2_with fail
    refine HKX.out.mono ?_
    rintro e w' ⟨rfl, rfl⟩
    go_wp2
    go_ret
    rw [HE.out]
    exact ⟨rfl, RK.stay H.out HW3.out⟩
  have HR2 := hide (HR1.out.trans (if_neg c4))
  obtain ⟨tk1, tk2⟩ := ne0 c4
  go_wp2_with fail
  refine HKX.out.mono ?_
  rintro e w' ⟨rfl, rfl⟩
  clear HKX HR1
  by_cases c5 : x = [47]
  · have ht : ((bs x).toList == [47]) = true := by rw [bs_toList, c5]; rfl
    have HE := hide (HR2.out.trans (if_pos c5))
    clear c5 c4
    go_wp2
    go_ret
    rw [HE.out]
    exact ⟨rfl, RK.stay H.out HW3.out⟩
  have ht : ((bs x).toList == [47]) = false := by rw [bs_toList]; simpa using c5
  have HR3 := hide (HR2.out.trans (if_neg c5))
  have HM0 := hide (HMY.out (hxr.2 c5) c4)
  clear HR2 c5 HMY hxr
  by_cases c6 : wy = 0
  case neg =>
    obtain ⟨t1, t2⟩ := ne0 c6
    have HE := hide (HR3.out.trans (if_pos c6))
    clear c6 c4
    go_wp2_with fail
    refine (HWYY.out w3 HW3.out).mono ?_
    rintro e w4 ⟨rfl, hb4⟩
    have HW4 := hide (below_up HW3.out hb4 HW3.out.size)
    clear hb4
    go_wp2_with fail
    refine (HWYY.out w4 HW4.out).mono ?_
    rintro e w5 ⟨rfl, hb5⟩
    have HW5 := hide (below_up HW4.out hb5 HW4.out.size)
    clear hb5
    go_wp2
    go_ret
    rw [HE.out]
    exact ⟨rfl, RK.stay H.out HW5.out⟩
  subst c6
  have HR4 := hide (HR3.out.trans (if_neg (by simp)))
  clear HR3
  go_wp2_with fail
  refine (HWYY.out w3 HW3.out).mono ?_
  rintro e w4 ⟨rfl, hb4⟩
  have HW4 := hide (below_up HW3.out hb4 HW3.out.size)
  clear hb4 HW3
  by_cases c7 : x = y
  · have ht2 : ((bs x).toList == (bs y).toList) = true := by rw [c7]; simp
    have HE := hide (HR4.out.trans (if_pos c7))
    clear c7 c4
    go_wp2
    go_ret
    rw [HE.out]
    exact ⟨rfl, RK.stay H.out HW4.out⟩
  have ht2 : ((bs x).toList == (bs y).toList) = false := by rw [bs_toList, bs_toList]; simpa using c7
  have HR5 := hide (HR4.out.trans (if_neg c7))
  clear HR4 c7
  obtain ⟨my, hmy⟩ : ∃ k, mayS S.m x y = k := ⟨_, rfl⟩
  rw [hmy] at HM0 HR5
  have HER := hide (fun (h : my ≠ 0) => HR5.out.trans (if_pos h))
  by_cases c8 : y = [47]
  · have ht3 : ((bs y).toList == [47]) = true := by rw [bs_toList, c8]; rfl
    have hmy1 := HM0.out.trans (if_pos c8)
    have HE := hide (HER.out (by omega))
    rw [hmy1] at HE
    clear c8 c4 hmy hmy1
    go_wp2
    go_ret
    rw [HE.out]
    exact ⟨rfl, RK.stay H.out HW4.out⟩
  have ht3 : ((bs y).toList == [47]) = false := by rw [bs_toList]; simpa using c8
  have HM1 := hide (HM0.out.trans (if_neg c8))
  have HWI := hide (rwithin_any x y w4 (by omega) (by omega))
  obtain ⟨wi, hwi⟩ : ∃ b, withinF x y = b := ⟨_, rfl⟩
  rw [hwi] at HWI HM1
  clear HM0 c8 hwi
  cases wi with
  | true =>
    have hmy1 := HM1.out.trans (if_pos rfl)
    have HE := hide (HER.out (by omega))
    rw [hmy1] at HE
    clear c4 hmy hmy1
    go_wp2_with fail
    refine HWI.out.mono ?_
    rintro e w5 ⟨rfl, hb5⟩
    have HW5 := hide (below_up HW4.out hb5 HW4.out.size)
    clear hb5
    go_wp2
    go_ret
    rw [HE.out]
    exact ⟨rfl, RK.stay H.out HW5.out⟩
  | false =>
  have HM2 := hide (HM1.out.trans (if_neg (by simp)))
  clear HM1
  go_wp2_with fail
  refine HWI.out.mono ?_
  rintro e w5 ⟨rfl, hb5⟩
  have HW5 := hide (below_up HW4.out hb5 HW4.out.size)
  clear hb5 HWI HW4
  go_wp2_with fail
  refine (HKY.out w5 HW5.out).mono ?_
  rintro e w' ⟨rfl, rfl⟩
  have c9 : ¬ (ky = 2 ∧ kx = 1) := by omega
  have HM3 := hide (HM2.out.trans (if_neg c9))
  clear HM2
  have c10 : ¬ (ky = 1 ∧ kx = 2) := by omega
  have HM4 := hide (HM3.out.trans (if_neg c10))
  clear HM3
  subst hkq'
  have HPX := hide (fun (z : NV) (hz : z ∈ P) (t : T) (hzt : z.1 = bs t) (h : withinF x t = true) => show x.length ≤ t.length from by
    obtain ⟨l, gl, _, e⟩ := hS.good (z.1, z.2.nd) (by rw [H.out.eq]; exact List.mem_map.2 ⟨z, hz, rfl⟩)
    have e2 : t = joinF l := bs_inj (hzt.symm.trans e)
    rw [EA.out, e2] at h ⊢
    obtain ⟨r, rfl⟩ := (within_join ga.ok gl.ok).1 h
    by_cases h0 : a = []
    · subst h0
      have := List.length_pos_iff.2 (joinF_ne ([] ++ r))
      rw [joinF_nil]
      exact this
    · rw [slashed_join h0, slashed_join (by simp [h0]), slashed_app, List.length_append]
      omega)
  clear c9 c10 c4 hmy
  have HM5 := hide (HM4.out.trans (if_neg (by omega)))
  clear HM4
  have HW6 := hide HW5.out
  obtain ⟨w6, hw6⟩ : ∃ W, W = w5 := ⟨_, rfl⟩
  rw [← hw6] at HW6 ⊢
  clear hw6
  obtain ⟨n, hn⟩ : ∃ n, P.length = n := ⟨_, rfl⟩
  have HN := hide hn
  have hln : n ≤ 10000 := by have := HL.out; omega
  have hgl : g < w.heap.size := (Array.getElem?_eq_some_iff.1 H.out.heap).1
  clear hn HWX HWYY HKY HW5
  go_wp2
  go_loopw [13, 14, 15] (fun v13 v14 _ wr => ∃ (k m : Nat) (A' : Option Addr) (c' : Nat), v14 = .int .i64 k ∧ k ≤ n ∧ v13 = .slice A' m c' ∧ m ≤ k ∧ Hid (OwnG encE 4 44 wr w.heap.size (.slice A' m c') (rmvN x y (P.take k))) ∧ Hid (∀ z ∈ P.take k, inF x z = true → ¬ badT x y z.1.data.toList) ∧ Hid (Below w.heap.size w wr)) (fun _ v14 _ _ => n - (intOf v14).toNat)
  case atStart => exact ⟨0, 0, none, 0, rfl, by omega, rfl, by omega, OwnG.nil _ _, (fun z hz => by simp at hz), HW6.out⟩
  case round =>
    obtain ⟨k, m, A', c', rfl, hk, rfl, hmk, HO, HBD, HB⟩ := hrel
    have ho := H.out.below HB.out
    have hg := ho.heap
    rw [HN.out] at hg
    have hc2 := cellOf hg (j := 2) (v := .slice A n c) rfl
    by_cases hlt : k < n
    · obtain ⟨z, hz⟩ : ∃ x, P[k]? = some x := ⟨P[k]'(by have := HN.out; omega), List.getElem?_eq_getElem _⟩
      obtain ⟨gs, o, rfl, hgs, hc⟩ := ho.rg k z hz
      obtain ⟨t, hzt, htl⟩ := HKS.out z (List.mem_of_getElem? hz)
      have hc0 : wr.cell? ⟨gs, o + k * 4, none⟩ = some (.string z.1) := by have := hc 0 _ rfl; simpa using this
      rw [hzt] at hc0
      have hc1 : wr.cell? ⟨gs, o + k * 4 + 1, none⟩ = some (.bool z.2.nd.dir) := hc 1 _ rfl
      have hc22 : wr.cell? ⟨gs, o + k * 4 + 2, none⟩ = some (.slice z.2.A z.2.nd.data.length z.2.c) := hc 2 _ rfl
      have hc3 : wr.cell? ⟨gs, o + k * 4 + 3, none⟩ = some (.int .i64 z.2.nd.time) := hc 3 _ rfl
      have hrt := rmv_take (x := x) (y := y) hz
      have hix : inF x z = withinF x t := by unfold inF; rw [hzt, bs_list]
      rw [hix] at hrt
      have HMV := hide (show mvN x y z = (bs (tgt x y t), z.2) by unfold mvN; rw [hzt, bs_list])
      have HIX := hide hix
      have HZT := hide hzt
      have HZ := hide hz
      have b1 : (k : Int) < (n : Int) := by omega
      have hrl : (rmvN x y (P.take k)).length ≤ 100000 := by
        unfold rmvN
        rw [List.length_map]
        refine Nat.le_trans (List.length_filter_le _ _) ?_
        rw [List.length_take]
        omega
      have HRL := hide hrl
      obtain ⟨D, hD⟩ : ∃ m, z.2.nd.data.length = m := ⟨_, rfl⟩
      rw [hD] at hc22
      have HD := hide hD
      clear ho hg hc hz hgs hix hzt hrl hD
      go_wp2_with fail
      obtain ⟨wa, hwa⟩ : ∃ W, wr.alloc (.cells #[.string (bs t), .bool z.2.nd.dir, .slice z.2.A D z.2.c, .int .i64 z.2.nd.time] 44) = W := ⟨_, rfl⟩
      have hnw := heapNew wr (.cells #[.string (bs t), .bool z.2.nd.dir, .slice z.2.A D z.2.c, .int .i64 z.2.nd.time] 44)
      have hba : Below w.heap.size wr (wr.alloc (.cells #[.string (bs t), .bool z.2.nd.dir, .slice z.2.A D z.2.c, .int .i64 z.2.nd.time] 44)) := (Below.refl _ wr).alloc HB.out.size _
      have hba2 : Below wr.heap.size wr (wr.alloc (.cells #[.string (bs t), .bool z.2.nd.dir, .slice z.2.A D z.2.c, .int .i64 z.2.nd.time] 44)) := (Below.refl _ wr).alloc (Nat.le_refl _) _
      have hoa := OwnG.keptB HO.out hba2
      rw [hwa] at hnw hba hba2 hoa ⊢
      obtain ⟨nb, hnb⟩ : ∃ b, wr.heap.size = b := ⟨_, rfl⟩
      have HNBE := hide hnb
      have hnbw : w.heap.size ≤ nb := by have := HB.out.size; omega
      rw [hnb] at hnw hba2 ⊢
      have HNW := hide hnw
      have HBA := hide (HB.out.trans hba)
      have HOA := hide hoa
      have hx0 := cellOf hnw (j := 0) (v := .string (bs t)) rfl
      have hnl : nb < wa.heap.size := (Array.getElem?_eq_some_iff.1 hnw).1
      have HWI := hide (rwithin_any x t wa (by omega) (by omega))
      clear hwa hnw hba hba2 hoa hnb hc0 hc1 hc22 hc3
      cases hw : withinF x t with
      | false =>
        rw [hw] at HWI hrt HIX
        have HRT := hide hrt
        clear hrt hw
        go_wp2_with fail
        refine HWI.out.mono ?_
        rintro e w7 ⟨rfl, hb7⟩
        have HB7 := hide (below_up HBA.out hb7 HBA.out.size)
        have HO7 := hide (OwnG.keptB HOA.out hb7)
        clear hb7
        go_wp2
        go_roundw
        case rel =>
          refine ⟨k + 1, m, A', c', by go_num, by omega, rfl, by omega, ?_, ?_, HB7.out⟩
          · show OwnG _ _ _ _ _ _ _
            rw [HRT.out]
            simp only [Bool.false_eq_true, if_false, List.append_nil]
            exact HO7.out
          · show ∀ z ∈ P.take (k + 1), _
            intro u hu hin
            rw [List.take_add_one, HZ.out] at hu
            rcases List.mem_append.1 hu with hu | hu
            · exact HBD.out u hu hin
            · simp at hu
              rw [hu, HIX.out] at hin
              cases hin
        case measure => simp [intOf]; omega
      | true =>
        rw [hw] at HWI hrt HIX
        have HRT := hide hrt
        have hxt : x.length ≤ t.length := by
          exact HPX.out z (List.mem_of_getElem? HZ.out) t HZT.out hw
        have zt : (bs t).size = t.length := bs_size t
        have zx : (bs x).size = x.length := bs_size x
        have zy : (bs y).size = y.length := bs_size y
        have HEX := hide (show (bs t).extract x.length (bs t).size = bs (t.drop x.length) by rw [ext_bs, bs_size, List.take_of_length_le (by rw [List.length_drop]; omega)])
        have HAP := hide (show bs y ++ bs (t.drop x.length) = bs (tgt x y t) from bs_app y (t.drop x.length))
        have zd : (bs (t.drop x.length)).size = t.length - x.length := by rw [bs_size, List.length_drop]
        have htgl : (tgt x y t).length = y.length + (t.length - x.length) := by unfold tgt; rw [List.length_append, List.length_drop]
        have ztg : (bs (tgt x y t)).size = y.length + (t.length - x.length) := by rw [bs_size, htgl]
        obtain ⟨xl, hxl'⟩ : ∃ n, x.length = n := ⟨_, rfl⟩
        obtain ⟨tl, htl'⟩ : ∃ n, t.length = n := ⟨_, rfl⟩
        obtain ⟨yl, hyl'⟩ : ∃ n, y.length = n := ⟨_, rfl⟩
        have HTG := hide htgl
        rw [hxl'] at zd hxt zx HEX ztg hxl HTG HAP
        rw [htl'] at zd hxt htl zt ztg HTG
        rw [hyl'] at zy hyl ztg HTG
        rw [zt] at HEX
        have HX2 := hide hxl'
        rw [← HEX.out] at zd HAP
        clear hrt hw htgl hxl' htl' hyl'
        go_wp2_with fail
        refine HWI.out.mono ?_
        rintro e w7 ⟨rfl, hb7⟩
        have hnw7 := (hb7.block nb hnl).trans HNW.out
        have HB7 := hide (below_up HBA.out hb7 HBA.out.size)
        have HO7 := hide (OwnG.keptB HOA.out hb7)
        have hx7 := cellOf hnw7 (j := 0) (v := .string (bs t)) rfl
        have hf7 := freeOf hnw7 0
        have hnl7 : nb < w7.heap.size := (Array.getElem?_eq_some_iff.1 hnw7).1
        have HNW8 := hide (heapSet (j := 0) hnw7 (.string (bs (tgt x y t))))
        obtain ⟨w8, hw8⟩ : ∃ W, w7.setCell ⟨nb, 0, none⟩ (.string (bs (tgt x y t))) = W := ⟨_, rfl⟩
        have hb8 : Below w.heap.size w w8 := hw8 ▸ HB7.out.setCell (p := ⟨nb, 0, none⟩) hnbw _
        rw [hw8] at HNW8
        have HB8 := hide hb8
        have HK8 := hide (show Kp w7 w8 (fun k => k = nb) from hw8 ▸ Kp.set w7 nb 0 _)
        have hy0 := cellOf HNW8.out (j := 0) (v := .string (bs (tgt x y t))) rfl
        clear hb7 hnw7 hb8
        have hap := HAP.out
        by_cases b200 : 200 < yl + (tl - xl)
        · have bi : (200 : Int) < ((yl + (tl - xl) : Nat) : Int) := by omega
          have hmy1 := HM5.out.trans (if_pos ⟨z, List.mem_of_getElem? HZ.out, HIX.out, by
            rw [HZT.out, bs_list]
            unfold badT
            rw [HTG.out]
            exact .inl b200⟩)
          have HE := hide (HER.out (by omega))
          rw [hmy1] at HE
          clear hmy1
          go_wp2
          go_ret
          rw [HE.out]
          exact ⟨rfl, RK.stay H.out HB8.out⟩
        have bi : ¬ (200 : Int) < ((yl + (tl - xl) : Nat) : Int) := by omega
        have HPA := hide (rparts_any [47] (tgt x y t) w8 (by simp) (by rw [HTG.out]; omega))
        rw [show bs [47] = (⟨#[47]⟩ : ByteArray) from rfl] at HPA
        obtain ⟨pl, hpl⟩ : ∃ n, (partsF [47] (tgt x y t)).length = n := ⟨_, rfl⟩
        have HPL := hide hpl
        have hpl3 : pl ≤ 100000 := by
          have := partsF_len [47] (tgt x y t)
          rw [hpl, HTG.out] at this
          simp at this
          omega
        clear hpl
        by_cases b20 : 20 < pl
        · have hmy1 := HM5.out.trans (if_pos ⟨z, List.mem_of_getElem? HZ.out, HIX.out, by
            rw [HZT.out, bs_list]
            unfold badT
            rw [HPL.out]
            exact .inr b20⟩)
          have HE := hide (HER.out (by omega))
          rw [hmy1] at HE
          have bpi : (20 : Int) < (pl : Int) := by omega
          clear hmy1
          go_wp2_with fail
          refine HPA.out.mono ?_
          rintro e w9 ⟨⟨v, rfl, ho9⟩, hb9⟩
          obtain ⟨A9, c9, rfl, hc9, _, _⟩ := OwnS.slice ho9
          have HB9 := hide (below_up HB8.out hb9 HB8.out.size)
          clear ho9 hb9
          rw [List.length_map, HPL.out]
          go_wp2
          go_ret
          rw [HE.out]
          exact ⟨rfl, RK.stay H.out HB9.out⟩
        have bpi : ¬ (20 : Int) < (pl : Int) := by omega
        have HNB := hide (show ¬ badT x y z.1.data.toList by
          rw [HZT.out, bs_list]
          unfold badT
          rw [HPL.out, HTG.out]
          omega)
        have HO8 := hide (show OwnG encE 4 44 w8 w.heap.size (.slice A' m c') (rmvN x y (P.take k)) from by
          refine ⟨HO7.out.1, ?_⟩
          rcases HO7.out.2 with h2 | ⟨g2, cap, cur, e2, hg2, hh2, r2⟩
          · exact .inl h2
          · refine .inr ⟨g2, cap, cur, e2, hg2, (HK8.out.block g2 (Array.getElem?_eq_some_iff.1 hh2).1 ?_).trans hh2, r2⟩
            have h3 := (HO.out.lt g2 (by rw [e2]; rfl)).2
            have := HNBE.out
            omega)
        go_wp2_with fail
        refine HPA.out.mono ?_
        rintro e w9 ⟨⟨v, rfl, ho9⟩, hb9⟩
        obtain ⟨A9, c9, rfl, hc9, _, _⟩ := OwnS.slice ho9
        rw [List.length_map, HPL.out]
        have hnw9 := (hb9.block nb (Array.getElem?_eq_some_iff.1 HNW8.out).1).trans HNW8.out
        have hr0 := cellOf hnw9 (j := 0) (v := .string (bs (tgt x y t))) rfl
        have hr1 := cellOf hnw9 (j := 1) (v := .bool z.2.nd.dir) rfl
        have hr2 := cellOf hnw9 (j := 2) (v := .slice z.2.A D z.2.c) rfl
        have hr3 := cellOf hnw9 (j := 3) (v := .int .i64 z.2.nd.time) rfl
        have hb9w := below_up HB8.out hb9 HB8.out.size
        have ho9' := OwnG.keptB HO8.out hb9
        obtain ⟨v', w', r', o', hb10⟩ := push_node ho9' hb9w.size HRL.out (mvN x y z) #[.string (bs (tgt x y t)), .bool z.2.nd.dir, .slice z.2.A D z.2.c, .int .i64 z.2.nd.time] (by rw [HMV.out]; unfold encE; rw [← HD.out])
        obtain ⟨A2, c2, rfl, hcl, _, _, _⟩ := o'.slice encE_len
        have HO2 := hide o'
        have HB2 := hide (hb9w.trans hb10)
        have HRUN := hide r'
        have hll : (rmvN x y (P.take k) ++ [mvN x y z]).length ≤ k + 1 := by
          rw [List.length_append, List.length_singleton]
          have h1 : (rmvN x y (P.take k)).length ≤ (P.take k).length := by
            unfold rmvN
            rw [List.length_map]
            exact List.length_filter_le _ _
          rw [List.length_take] at h1
          omega
        obtain ⟨M, hM⟩ : ∃ m, (rmvN x y (P.take k) ++ [mvN x y z]).length = m := ⟨_, rfl⟩
        rw [hM] at HO2 HRUN hll
        clear ho9 hb9 hnw9 hb9w ho9' r' o' hb10 hcl hM hx0 hx7 hy0
        go_wp2_with (first | (at_builtin; refine wpList_app_run ?_ (.tmp 135) (.tmp 137) ?_ ?_ ?_ ?_ HRUN.out ?_; exact rfl; exact rfl; exact rfl; exact rfl; exact rfl))
        go_roundw
        case rel =>
          refine ⟨k + 1, M, A2, c2, by go_num, by omega, rfl, by omega, ?_, ?_, HB2.out⟩
          · show OwnG _ _ _ _ _ _ _
            rw [HRT.out]
            exact HO2.out
          · show ∀ z ∈ P.take (k + 1), _
            intro u hu hin
            rw [List.take_add_one, HZ.out] at hu
            rcases List.mem_append.1 hu with hu | hu
            · exact HBD.out u hu hin
            · simp at hu
              rw [hu]
              exact HNB.out
        case measure => simp [intOf]; omega
    · obtain ⟨wq, hwq⟩ : ∃ X, X = wr := ⟨_, rfl⟩
      subst hwq
      obtain rfl : n = k := by omega
      have htk : P.take n = P := List.take_of_length_le (by have := HN.out; omega)
      rw [htk] at HO HBD
      have hmy0 : my = 0 := HM5.out.trans (if_neg (by
        rintro ⟨z, hz, h1, h2⟩
        exact HBD.out z hz h1 h2))
      have hRE := HR5.out.trans (if_neg (by rw [hmy0]; simp))
      have hMv : (moveQ S x y).m = rmoveM S.m x y (S.clock + 1) ∧ ∃ nd, getG S.m (bs x) = some nd := by
        rcases HCS.out with h1 | ⟨a', b', hmv, _, h2, h3⟩
        · exfalso
          rw [hRE] at h1
          have := congrArg St.clock h1
          change S.clock + 1 = S.clock at this
          omega
        · have e1 := absS_fst hr1 h2 (joinF_ne _)
          have e2 := absS_fst hr2 h3 (joinF_ne _)
          rw [← e1, ← e2]
          exact ⟨hmv.rsame, hmv.node⟩
      obtain ⟨hMQ, nd, hnd⟩ := hMv
      have hM0 : rmvN x y P ≠ [] := by
        rw [H.out.eq] at hnd
        have := getG_mem hnd
        unfold stripN at this
        obtain ⟨u, hu, e⟩ := List.mem_map.1 this
        have hu1 : u.1 = bs x := congrArg Prod.fst e
        have hin : inF x u = true := by
          unfold inF
          rw [hu1, bs_list, EA.out]
          exact (within_join ga.ok ga.ok).2 List.prefix_rfl
        intro h0
        have : mvN x y u ∈ rmvN x y P := List.mem_map.2 ⟨u, List.mem_filter.2 ⟨hu, hin⟩, rfl⟩
        rw [h0] at this
        cases this
      obtain ⟨gm, rfl, hml, hmc, hgmw, hmr⟩ := MRow.of HO.out hM0
      have hpl := parts_len (x := x) (y := y) (P := P)
      have hPl := HL.out
      have HD1 := hide (rdrop_any g S A c P x wq (H.out.below HB.out) HL.out HKS.out (by omega))
      have HMR := hide hmr
      have hgmg : gm ≠ g := by have := hmr.ge; omega
      have HRE := hide hRE
      have HMQ := hide hMQ
      have HSRC := hide (fun z (h : z ∈ rmvN x y P) => rmv_src h)
      obtain ⟨M, hM⟩ : ∃ M, rmvN x y P = M := ⟨_, rfl⟩
      have HMD := hide hM
      rw [hM] at hml hmc hpl HMR HSRC
      clear htk hmy0 hRE hMQ hnd hM0 hmr hM ho hg HO HBD
      subst hml
      have hmI : (M.length : Int) ≤ 10000 := by omega
      go_wp2_with fail
      refine HD1.out.mono ?_
      rintro e w8 ⟨rfl, A1, c1, ho1, hk1, hA1⟩
      have HD2 := hide (rdrop_any g _ A1 c1 _ y w8 ho1 (Nat.le_trans (List.length_filter_le _ _) HL.out) (fun z hz => HKS.out z (List.mem_filter.1 hz).1) (by omega))
      have HK1 := hide hk1
      clear ho1 hk1 HD1
      go_wp2_with fail
      refine HD2.out.mono ?_
      rintro e w9 ⟨rfl, A2, c2, ho2, hk2, hA2⟩
      have hg9 := ho2.heap
      have hc3 := cellOf hg9 (j := 3) (v := .int .i64 S.clock) rfl
      have hf3 := freeOf hg9 3
      have ht := ho2.tick (S.clock + 1)
      rw [show ((S.clock + 1 : Nat) : Int) = (S.clock : Int) + 1 from rfl] at ht
      have hkt := Kp.set w9 g 3 (.int .i64 ((S.clock : Int) + 1))
      obtain ⟨W0, hW0⟩ : ∃ W, w9.setCell ⟨g, 3, none⟩ (.int .i64 ((S.clock : Int) + 1)) = W := ⟨_, rfl⟩
      rw [hW0] at ht hkt
      have hkw : Kp wq W0 (fun k => k = g) := (HK1.out.then hk2).then hkt
      have HM0 := hide (HMR.out.kp hkw hgmg)
      have HWS := hide hkw.size
      have HKW := hide (show Kp w W0 (fun k => k = g) from (Kp.of_below HB.out _).then hkw)
      obtain ⟨P2, hP2⟩ : ∃ Q, (P.filter (outF x)).filter (outF y) = Q := ⟨_, rfl⟩
      have HP2 := hide hP2
      change RSO g _ A2 c2 ((P.filter (outF x)).filter (outF y)) W0 at ht
      rw [hP2] at ht hpl
      have HQ0 := hide (show RSO g (SQ S P2) A2 c2 P2 W0 from ⟨ht.heap, ht.cap, ht.rg, ht.dat, rfl, ht.top, ht.neA, ht.neD, ht.lt⟩)
      have HA0 := hide (show ∀ a, A2 = some a → wq.heap.size ≤ a.block from fun a e => by have := hA2 a e; have := HK1.out.size; omega)
      have HSQ := hide (show ∀ z ∈ P2, ∃ u ∈ P, u.2.A = z.2.A ∧ u.2.nd.data = z.2.nd.data ∧ u.2.c = z.2.c from fun z hz => by
        rw [← hP2] at hz
        exact ⟨z, (List.mem_filter.1 (List.mem_filter.1 hz).1).1, rfl, rfl, rfl⟩)
      clear ho2 hk2 hg9 ht hkt hkw hP2 hA2 hA1 HD2 HMR
      go_wp2
      go_loopw [16] (fun v16 wr => ∃ i : Nat, v16 = .int .i64 i ∧ i ≤ M.length ∧ Hid (∃ Ai ci, RSO g (SQ S (rfoldN y (S.clock + 1) (M.take i) P2)) Ai ci (rfoldN y (S.clock + 1) (M.take i) P2) wr ∧ ∀ a, Ai = some a → wq.heap.size ≤ a.block) ∧ Hid (∃ L', MRow wr w.heap.size gm L' ∧ L'.length = M.length ∧ L'.drop i = M.drop i) ∧ Hid (Kp w wr (fun k => k = g)) ∧ Hid (wq.heap.size ≤ wr.heap.size)) (fun v16 _ => M.length - (intOf v16).toNat)
      case atStart => exact ⟨0, rfl, Nat.zero_le _, ⟨A2, c2, HQ0.out, HA0.out⟩, ⟨M, HM0.out, rfl, rfl⟩, HKW.out, HWS.out⟩
      case round =>
        obtain ⟨W, hWr⟩ : ∃ X, X = wr := ⟨_, rfl⟩
        subst hWr
        obtain ⟨i, rfl, hi, HQI, HMI, HKI, HAI⟩ := hrel
        obtain ⟨Ai, ci, hoi, hAi⟩ := HQI.out
        by_cases hlt2 : i < M.length
        · obtain ⟨z, hz⟩ : ∃ z, M[i]? = some z := ⟨M[i], List.getElem?_eq_getElem _⟩
          obtain ⟨L', hmr, hLl, hLd⟩ := HMI.out
          have hLz : L'[i]? = some z := by
            have h1 : (L'.drop i)[0]? = (M.drop i)[0]? := by rw [hLd]
            rw [List.getElem?_drop, List.getElem?_drop, Nat.add_zero, hz] at h1
            exact h1
          obtain ⟨ge, oe, ee, hgel, hcz⟩ := hmr.rg i z hLz
          injection ee with ee
          injection ee with ee1 ee2
          subst ee1 ee2
          rw [Nat.zero_add] at hcz
          have hz0 : W.cell? ⟨gm, i * 4, none⟩ = some (.string z.1) := by have := hcz 0 _ rfl; simpa using this
          have hz1 : W.cell? ⟨gm, i * 4 + 1, none⟩ = some (.bool z.2.nd.dir) := hcz 1 _ rfl
          have hz2 : W.cell? ⟨gm, i * 4 + 2, none⟩ = some (.slice z.2.A z.2.nd.data.length z.2.c) := hcz 2 _ rfl
          have hz3 : W.cell? ⟨gm, i * 4 + 3, none⟩ = some (.int .i64 z.2.nd.time) := hcz 3 _ rfl
          obtain ⟨cur, hcur⟩ := hmr.blk
          have hzf := freeOf hcur (i * 4 + 3)
          have hgi := hoi.heap
          have hgc3 := cellOf hgi (j := 3) (v := .int .i64 ((S.clock : Int) + 1)) rfl
          have hit := rfold_take (y := y) (t := S.clock + 1) (Q := P2) hz
          have hil := rfold_len y (S.clock + 1) (M.take i) P2
          rw [List.length_take] at hil
          have hi10 : (rfoldN y (S.clock + 1) (M.take i) P2).length ≤ 10000 := by omega
          have hsrcQ := rfold_src (y := y) (t := S.clock + 1) (M.take i) P2 (P := P) HSQ.out (fun z hz => HSRC.out z (List.mem_of_mem_take hz))
          obtain ⟨u, hu, hue⟩ := HSRC.out z (List.mem_of_getElem? hz)
          have bi2 : (i : Int) < (M.length : Int) := by omega
          have hgeo := hmr.ge
          obtain ⟨Qi, hQi⟩ : ∃ Q, rfoldN y (S.clock + 1) (M.take i) P2 = Q := ⟨_, rfl⟩
          rw [hQi] at hoi hit hi10 hsrcQ
          have hicc : (M.length : Int) ≤ (c' : Int) := by omega
          have hzdat : RG encB 1 W z.2.A z.2.nd.data := by
            rw [← hue]
            exact (H.out.dat u hu).kp HKI.out (H.out.neD u hu)
          have hzne : ∀ a, z.2.A = some a → z.2.nd.data ≠ [] → a.block ≠ g := by rw [← hue]; exact H.out.neD u hu
          have hzlt : z.2.nd.data.length ≤ z.2.c := by rw [← hue]; exact H.out.lt u hu
          have hzlo : ∀ a, z.2.A = some a → z.2.nd.data ≠ [] → a.block < w.heap.size := by
            rw [← hue]
            exact fun a e hn => (H.out.dat u hu).block_lt e hn
          by_cases he : z.1 = bs y
          · have e1 : (z.1.toList == (bs y).toList) = true := by rw [he]; simp
            have hk3 : Kp W (W.setCell ⟨gm, i * 4 + 3, none⟩ (.int .i64 ((S.clock : Int) + 1))) (fun k => k = gm) := Kp.set W gm _ _
            have hob := hoi.keep hk3 (fun e => hgmg e.symm) (fun a e _ => by have := hAi a e; omega) (fun v hv a e hn => by
              obtain ⟨u', hu', q1, q2, _⟩ := hsrcQ v hv
              have := (H.out.dat u' hu').block_lt (q1.trans e) (by rw [q2]; exact hn)
              omega)
            have hmrb := hmr.setT hLz (S.clock + 1)
            rw [show ((S.clock + 1 : Nat) : Int) = (S.clock : Int) + 1 from rfl] at hmrb
            have hzv : rvalN y (S.clock + 1) z = (z.1, ⟨z.2.A, z.2.c, ⟨z.2.nd.dir, z.2.nd.data, S.clock + 1⟩⟩) := by
              unfold rvalN rvalM
              rw [if_pos he]
            rw [hzv] at hit
            have hput := put_rk g (SQ S Qi) Ai ci Qi (z.1, ⟨z.2.A, z.2.c, ⟨z.2.nd.dir, z.2.nd.data, S.clock + 1⟩⟩) _ hob hi10 (SQ S (putG (z.1, ⟨z.2.A, z.2.c, ⟨z.2.nd.dir, z.2.nd.data, S.clock + 1⟩⟩) Qi)) (strip_put _ _) rfl rfl rfl (hzdat.ofB hk3.size (fun a e hn => hk3.block a.block (hzdat.block_lt e hn) (by have := hzlo a e hn; omega))) hzne hzlt
            have HPT := hide (show Calls Tryz.prog 107 #[.pointer (some ⟨g, 0, none⟩), .agg #[.string z.1, .bool z.2.nd.dir, .slice z.2.A z.2.nd.data.length z.2.c, .int .i64 ((S.clock : Int) + 1)]] _ _ from hput)
            have hs3 := World.cell?_setCell_same' W ⟨gm, i * 4 + 3, none⟩ (.int .i64 ((S.clock : Int) + 1)) (by rw [hz3]; rfl)
            have hs0 : (W.setCell ⟨gm, i * 4 + 3, none⟩ (.int .i64 ((S.clock : Int) + 1))).cell? ⟨gm, i * 4, none⟩ = some (.string z.1) := (World.cell?_setCell_other W _ _ _ (by intro e; injection e; omega)).trans hz0
            have hs1 : (W.setCell ⟨gm, i * 4 + 3, none⟩ (.int .i64 ((S.clock : Int) + 1))).cell? ⟨gm, i * 4 + 1, none⟩ = some (.bool z.2.nd.dir) := (World.cell?_setCell_other W _ _ _ (by intro e; injection e; omega)).trans hz1
            have hs2 : (W.setCell ⟨gm, i * 4 + 3, none⟩ (.int .i64 ((S.clock : Int) + 1))).cell? ⟨gm, i * 4 + 2, none⟩ = some (.slice z.2.A z.2.nd.data.length z.2.c) := (World.cell?_setCell_other W _ _ _ (by intro e; injection e; omega)).trans hz2
            obtain ⟨WB, hWB⟩ : ∃ X, W.setCell ⟨gm, i * 4 + 3, none⟩ (.int .i64 ((S.clock : Int) + 1)) = X := ⟨_, rfl⟩
            rw [hWB] at hk3 hmrb HPT hs0 hs1 hs2 hs3
            have HMRB := hide hmrb
            have HIT := hide (hit.trans rfl)
            have HLD := hide (show (L'.set i (z.1, ⟨z.2.A, z.2.c, ⟨z.2.nd.dir, z.2.nd.data, S.clock + 1⟩⟩)).length = M.length ∧ (L'.set i (z.1, ⟨z.2.A, z.2.c, ⟨z.2.nd.dir, z.2.nd.data, S.clock + 1⟩⟩)).drop (i + 1) = M.drop (i + 1) from ⟨by rw [List.length_set, hLl], by
              rw [List.drop_set_of_lt (by omega), ← List.drop_drop, ← List.drop_drop, hLd]⟩)
            have HKB := hide (show Kp w WB (fun k => k = g) from HKI.out.trans (hk3.mono fun k e => .inr (by omega)))
            have hwbs : wq.heap.size ≤ WB.heap.size := by
              have h1 := hk3.size
              have h2 := HAI.out
              omega
            clear hoi hAi hz hmr hLl hLd hLz hcz hcur hgi hit hil hsrcQ hu hue hgeo hzdat hzne hzlt hzlo he hk3 hob hmrb hput hz1 hz2 hzv hQi
            go_wp2_with fail
            refine HPT.out.mono ?_
            rintro e W2 ⟨rfl, A3, c3, ho3, hk3, hA3⟩
            have HO3 := hide ho3
            have HK3 := hide hk3
            have HA3 := hide hA3
            clear ho3 hk3 hA3
            go_wp2
            go_roundw
            case rel =>
              refine ⟨i + 1, by go_num, by omega, ⟨A3, c3, ?_, fun a e => ?_⟩, ⟨_, HMRB.out.kp HK3.out hgmg, HLD.out.1, HLD.out.2⟩, HKB.out.then HK3.out, Nat.le_trans hwbs HK3.out.size⟩
              · rw [HIT.out]
                exact HO3.out
              · have := HA3.out a e
                omega
            case measure => simp [intOf]; omega
          · have e1 : (z.1.toList == (bs y).toList) = false := txt_ne he
            have hzv : rvalN y (S.clock + 1) z = z := by
              unfold rvalN rvalM
              rw [if_neg he]
            rw [hzv] at hit
            have hput := put_rk g (SQ S Qi) Ai ci Qi z _ hoi hi10 (SQ S (putG z Qi)) (strip_put _ _) rfl rfl rfl hzdat hzne hzlt
            have HPT := hide (show Calls Tryz.prog 107 #[.pointer (some ⟨g, 0, none⟩), .agg #[.string z.1, .bool z.2.nd.dir, .slice z.2.A z.2.nd.data.length z.2.c, .int .i64 z.2.nd.time]] _ _ from hput)
            have HMRB := hide hmr
            have HIT := hide (hit.trans rfl)
            have HLD := hide (show L'.length = M.length ∧ L'.drop (i + 1) = M.drop (i + 1) from ⟨hLl, by rw [← List.drop_drop, ← List.drop_drop, hLd]⟩)
            have hwbs : wq.heap.size ≤ W.heap.size := HAI.out
            clear hoi hAi hz hmr hLl hLd hLz hcz hcur hgi hit hil hsrcQ hu hue hgeo hzdat hzne hzlt hzlo he hput hzv hQi
            go_wp2_with fail
            refine HPT.out.mono ?_
            rintro e W2 ⟨rfl, A3, c3, ho3, hk3, hA3⟩
            have HO3 := hide ho3
            have HK3 := hide hk3
            have HA3 := hide hA3
            clear ho3 hk3 hA3
            go_wp2
            go_roundw
            case rel =>
              refine ⟨i + 1, by go_num, by omega, ⟨A3, c3, ?_, fun a e => ?_⟩, ⟨_, HMRB.out.kp HK3.out hgmg, HLD.out.1, HLD.out.2⟩, HKI.out.then HK3.out, Nat.le_trans hwbs HK3.out.size⟩
              · rw [HIT.out]
                exact HO3.out
              · have := HA3.out a e
                omega
            case measure => simp [intOf]; omega
        · obtain rfl : i = M.length := by omega
          rw [List.take_of_length_le (Nat.le_refl _)] at hoi
          have hsrcQ := rfold_src (y := y) (t := S.clock + 1) M P2 (P := P) HSQ.out HSRC.out
          have HFIN := hide (show RK g (moveQ S x y) w A P W from by
            refine ⟨Ai, ci, _, ⟨hoi.heap, hoi.cap, hoi.rg, hoi.dat, ?_, hoi.top, hoi.neA, hoi.neD, hoi.lt⟩, HKI.out, fun a e _ => .inl (by have := hAi a e; have := HB.out.size; omega), fun v hv a e hn => ?_⟩
            · rw [HMQ.out, H.out.eq, ← rmove_strip, ← HP2.out, ← HMD.out]
            · obtain ⟨u, hu, q1, q2, _⟩ := hsrcQ v hv
              exact .inr ⟨u, hu, q1.trans e, by rw [q2]; exact hn⟩)
          clear hoi hAi hsrcQ
          go_wp2
          go_ret
          rw [HRE.out]
          exact ⟨rfl, HFIN.out⟩
end Go.Proofs.YtkajhdbcnmafcaaGreatDoor
