/- Walk of package arith: binary, level by level. -/
import Derived.Test.YtpjbklajjikgjaaDoorArithMathC
import Derived.Test.YtpjbklajjikgjaaDoorArithWalkJ
namespace Go.Proofs.YtpjbklajjikgjaaDoor
open Go.RowKit Go.Deep

theorem LV.gr {w w' : World} {b B g : Nat} (h : LV w b B) (hg : Gr w w' g) (hB : g < B) : LV w' b B := by
  refine ⟨h.1, fun k L hk => ?_⟩
  obtain ⟨a, ha, hc, hsr⟩ := h.2 k L hk
  have hbl := World.block_lt_of_cell? w _ hc
  refine ⟨a, ha, (World.cell?_of_block (hg.block b hbl (fun e => by injection e with e; have := h.1; omega))).trans hc, fun i s hi => ?_⟩
  obtain ⟨g', o, e, hl, hcell⟩ := hsr i s hi
  injection e with e
  injection e with e1 e2
  subst e1 e2
  exact ⟨a, 0, rfl, Nat.lt_of_lt_of_le hl hg.size, (World.cell?_of_block (a := ⟨a, 0 + i, none⟩) (hg.block a hl (fun e => by injection e with e; omega))).trans hcell⟩
theorem opS_ne {c : Nat} (h : c < 19) (o : ByteArray) (L : List ByteArray) {k : Nat} (hL : lvs[k]? = some L) (ho : o ∈ L) (e : o = opS c) : c ≠ 0 := by
  rintro rfl
  have h1 : ∀ L ∈ lvs, ∀ o ∈ L, 1 ≤ o.size := by decide
  have := h1 L (List.mem_of_getElem? hL) o ho
  rw [e] at this
  exact absurd this (by decide)
theorem ow_fits (u : List UInt8) (h : Ar.opc u ≠ 0) : Ar.ow (Ar.opc u) ≤ u.length := by
  match u with
  | [] => exact absurd rfl h
  | [x] =>
    show Ar.ow (Ar.opc2 x 0) ≤ 1
    have e : ∀ n, n < 256 → Ar.ow (Ar.opc2 (UInt8.ofNat n) 0) = 1 := by decide +kernel
    have := e x.toNat x.toNat_lt
    rw [UInt8.ofNat_toNat] at this
    omega
  | x :: y :: u =>
    have : Ar.ow (Ar.opc (x :: y :: u)) ≤ 2 := by unfold Ar.ow; split <;> omega
    simp only [List.length_cons]
    omega
set_option maxRecDepth 100000 in
set_option maxHeartbeats 2000000 in
theorem binary_top (A : Option Addr) (P : List Pr) (c B g : Nat) (s : ByteArray) (d : Nat) (E : Ar.Ex) (hu : ∀ (i : Nat) (z : Bool) (w : World), RD w g s i (.slice A P.length c) d z → PB w A P B → i ≤ s.size → Calls Tryd.prog 35 #[.pointer (some ⟨g, 0, none⟩)] w fun e w' => EEnd g s (.slice A P.length c) d w (Ar.una (KP P) E (dr s i) z) e w') (hB : B ≤ g) :
    BCon A P c B g s d 10 (Ar.binF (KP P) E 0) := by
  intro i z w h hP hi
  have H := hide h
  have HP := hide hP
  have HU := hide hu
  clear h hP hu
  go_enter Tryd.func25, Tryd.ntmps25
  go_wp2_with fail
  go_step3
  go_wp2_with fail
  refine (levels_any w).mono ?_
  rintro e w1 ⟨⟨b, rfl, hlv⟩, hb1⟩
  have HR1 := hide (H.out.below hb1)
  have HP1 := hide (HP.out.kept (gr_below (g := g) hb1) hB)
  have HG1 := hide (gr_below (g := g) hb1)
  clear hlv hb1 H HP
  go_wp2_with fail
  refine (HU.out i z w1 HR1.out HP1.out hi).mono ?_
  rintro e w2 hend
  have hdef : Ar.binF (KP P) E 0 (dr s i) z = Ar.una (KP P) E (dr s i) z := rfl
  obtain ⟨r, hr⟩ : ∃ r, Ar.una (KP P) E (dr s i) z = r := ⟨_, rfl⟩
  rw [hr] at hend
  have HRR := hide (hdef.trans hr)
  clear hr hdef
  cases r with
  | error c2 =>
    obtain ⟨rfl, hg2⟩ := hend
    refine ⟨rfl, ?_⟩
    rw [HRR.out]
    exact ⟨rfl, gb_trans HG1.out hg2⟩
  | ok x =>
    obtain ⟨v, u, z'⟩ := x
    obtain ⟨j, rfl, hr2, hj, hu2, hg2⟩ := hend
    have HR2 := hide hr2
    have HJ2 := hide hu2
    have HG2 := hide (gb_trans HG1.out hg2)
    clear hr2 hu2 hg2
    go_wp2
    go_ret
    rw [HRR.out]
    exact ⟨j, rfl, HR2.out, hj, HJ2.out, HG2.out⟩
set_option maxRecDepth 100000 in
set_option maxHeartbeats 4000000 in
theorem binary_step (A : Option Addr) (P : List Pr) (c B g : Nat) (s : ByteArray) (d : Nat) (E : Ar.Ex) (hE : Ar.SufE E) (L k : Nat) (hLk : L + k = 9) (ih : BCon A P c B g s d (L + 1) (Ar.binF (KP P) E k)) (hB : B ≤ g) (hs : s.size ≤ 100000) :
    BCon A P c B g s d L (Ar.binF (KP P) E (k + 1)) := by
  intro i z w h hP hi
  have H := hide h
  have HP := hide hP
  have HI := hide ih
  have hgl := h.lt
  have hdef : Ar.binF (KP P) E (k + 1) (dr s i) z = Ar.bd (Ar.binF (KP P) E k (dr s i) z) (Ar.it (Ar.stepB (KP P) (L + 1) (Ar.binF (KP P) E k))) := by
    rw [Ar.binF_succ, show 10 - k = L + 1 from by omega]
  have HDF := hide hdef
  have HDEC := hide (Ar.stepB_dec (K := KP P) (L := L + 1) (nx := Ar.binF (KP P) E k) (by omega) (Ar.binF_suf hE k (by omega)))
  have hL9 : L ≤ 9 := by omega
  have hne : (((L : Nat) : Int) == 10) = false := by simp only [beq_eq_false_iff_ne]; omega
  have hcast : ((L : Int) + 1) = ((L + 1 : Nat) : Int) := by omega
  have HCA := hide hcast
  obtain ⟨F, hF⟩ : ∃ F, F = Ar.binF (KP P) E k := ⟨_, rfl⟩
  rw [← hF] at HDF HDEC HI
  have HSF := hide (show Ar.SufE F by rw [hF]; exact Ar.binF_suf hE k (by omega))
  clear h hP ih hdef hcast hF hLk
  go_enter Tryd.func25, Tryd.ntmps25
  go_wp2_with fail
  go_step3
  go_wp2_with fail
  refine (levels_any w).mono ?_
  rintro e w1 ⟨⟨b, rfl, hlv⟩, hb1⟩
  have HR1 := hide (H.out.below hb1)
  have HP1 := hide (HP.out.kept (gr_below (g := g) hb1) hB)
  have HG1 := hide (gr_below (g := g) hb1)
  have HLV1 := hide hlv
  clear hlv hb1 H HP
  go_wp2_with fail
  rw [HCA.out]
  refine (HI.out i z w1 HR1.out HP1.out hi).mono ?_
  rintro e w2 hend
  obtain ⟨r, hr⟩ : ∃ r, F (dr s i) z = r := ⟨_, rfl⟩
  rw [hr] at hend
  have HRR := hide hr
  clear hr
  cases r with
  | error c2 =>
    obtain ⟨rfl, hg2⟩ := hend
    refine ⟨rfl, ?_⟩
    rw [HDF.out, HRR.out]
    exact ⟨rfl, gb_trans HG1.out hg2⟩
  | ok x =>
    obtain ⟨v, u, z'⟩ := x
    obtain ⟨j, rfl, hr2, hj, hu2, hg2⟩ := hend
    have HR2 := hide hr2
    have HD2 := hide (show Ar.binF (KP P) E (k + 1) (dr s i) z = Ar.it (Ar.stepB (KP P) (L + 1) F) (v, dr s j, z') by rw [HDF.out, HRR.out, Ar.bd_ok, hu2])
    have HP2 := hide (HP1.out.kept hg2 hB)
    have HG2 := hide (gb_trans HG1.out hg2)
    have HLV2 := hide (HLV1.out.gr hg2 hgl)
    clear hr2 hu2 hg2 HR1 HP1 HG1 HLV1 HRR HDF
    go_wp2
    go_step3
    go_wp2
    go_loopg [6] (s.size - j) (fun n v6 wr => ∃ (q : Nat) (m : Int) (zz : Bool), n = s.size - q ∧ v6 = .int .i64 m ∧ q ≤ s.size ∧ Hid (Ar.binF (KP P) E (k + 1) (dr s i) z = Ar.it (Ar.stepB (KP P) (L + 1) F) (m, dr s q, zz)) ∧ RD wr g s q (.slice A P.length c) d zz ∧ PB wr A P B ∧ LV wr b w.heap.size ∧ Gr w wr g)
    case atStart => exact ⟨j, v, z', rfl, rfl, hj, HD2.out, HR2.out, HP2.out, HLV2.out, HG2.out⟩
    case round =>
      obtain ⟨q, m, zz, hgq, rfl, hq, HIT, hr, hp, hl, hg⟩ := hrel
      have HR := hide hr
      have HPq := hide hp
      have HLV := hide hl
      have HG := hide hg
      clear hr hp hl hg HR2 HD2 HP2 HG2 HLV2
      go_wp2_with fail
      refine (next_any g s q _ d zz wr HR.out hq hs).mono ?_
      rintro e w3 ⟨rfl, p, hr3, hqp, hp3, hsk3, hg3⟩
      have HR3 := hide hr3
      have HP3 := hide (HPq.out.kept hg3 hB)
      have HLV3 := hide (HLV.out.gr hg3 hgl)
      have HG3 := hide (gb_trans HG.out hg3)
      have HSK := hide hsk3
      rw [nxS_eq, ← hsk3]
      clear hr3 hg3 hsk3 HR HPq HLV HG
      obtain ⟨oc, hoc⟩ : ∃ oc, opb (dr s p) = oc := ⟨_, rfl⟩
      rw [hoc]
      obtain ⟨hlt19, hlev, hopc⟩ := opb_lt (dr s p)
      rw [hoc] at hlt19 hlev hopc
      have HLEV := hide hlev
      have HOPC := hide hopc
      clear hoc hlev hopc
      obtain ⟨Lo, hLo⟩ : ∃ Lo, lvs[L]? = some Lo := ⟨lvs[L]'(by show L < 10; omega), List.getElem?_eq_getElem _⟩
      have HFND := hide (lvs_find (by omega) hlt19 hLo)
      have HOP := hide (fun o ho e => opS_ne hlt19 o Lo hLo ho e)
      obtain ⟨a, _, hca, hsr⟩ := HLV3.out.2 L Lo hLo
      have hlen := lvs_len hLo
      have HOPS := hide (fun j o h => lvs_op (j := j) (o := o) hLo h)
      obtain ⟨nn, hnn⟩ : ∃ nn, Lo.length = nn := ⟨_, rfl⟩
      rw [hnn] at hca hlen
      have HNN := hide hnn
      have HSR := hide hsr
      clear hsr hLo hnn
      obtain ⟨os, hos⟩ : ∃ os, opS oc = os := ⟨_, rfl⟩
      rw [hos]
      have HOS := hide hos
      clear hos
      obtain ⟨wo, rfl⟩ : ∃ wo : World, wo = wr := ⟨_, rfl⟩
      go_wp2
      go_loopg [6, 28] nn (fun n v6 v28 wr => ∃ y : Nat, n = nn - y ∧ v6 = .int .i64 m ∧ v28 = .int .i64 y ∧ y ≤ nn ∧ Hid (∀ (t : Nat) (o : ByteArray), t < y → Lo[t]? = some o → o ≠ os) ∧ w3 = wr)
      case atStart => exact ⟨0, rfl, rfl, rfl, Nat.zero_le _, fun t o ht => by omega, rfl⟩
      case round =>
        obtain ⟨y, hgy, rfl, rfl, hy, HNF, rfl⟩ := hrel
        by_cases hyn : y < nn
        · obtain ⟨o, ho⟩ : ∃ o, Lo[y]? = some o := ⟨Lo[y]'(by have := HNN.out; omega), List.getElem?_eq_getElem _⟩
          obtain ⟨ga, oa, hea, hga, hcell⟩ := HSR.out y o ho
          injection hea with hea
          injection hea with h1 h2
          subst h1 h2
          rw [Nat.zero_add] at hcell
          have HO := hide ho
          clear ho
          by_cases he : o = os
          · subst he
            have hmem : o ∈ Lo := List.mem_of_getElem? HO.out
            have hoc0 : oc ≠ 0 := HOP.out o hmem HOS.out.symm
            have hlevL : Ar.lev oc = L + 1 := HFND.out.1 (by rw [HOS.out]; exact hmem)
            have hopc : oc = Ar.opc (dr s p) := HOPC.out hoc0
            have how : o.size = Ar.ow oc := by rw [← HOS.out]; exact opS_size oc hlt19 hoc0
            have hfit := ow_fits (dr s p) (by rw [← hopc]; exact hoc0)
            rw [← hopc, ← how, dr_len] at hfit
            have hps : p + o.size ≤ s.size := by
              have : 1 ≤ o.size := by rw [how]; exact Ar.ow_pos _
              omega
            have HSTEP := hide (show Ar.stepB (KP P) (L + 1) F (m, dr s q, zz) = match F (dr s (p + o.size)) zz with
                | .error e => .error e
                | .ok (b, u, z) => .ok (.inl (dopV oc m b, u, dopZ oc b z)) by
              unfold Ar.stepB
              simp only
              rw [← HSK.out, ← hopc, if_pos hlevL, ← how, dr_drop]
              rfl)
            have hsz := HOPS.out y o HO.out
            have HOC := hide (show 1 ≤ oc ∧ oc ≤ 18 by omega)
            have hc1 := HR3.out.c1
            have hf1 := HR3.out.fz 1
            have HRX := hide (HR3.out.seti (p + o.size))
            have HPX := hide (HP3.out.kept (gb_setCell (Gr.refl w3 g) 1 (.int .i64 ((p + o.size : Nat) : Int))) hB)
            clear hmem hoc0 hlevL hopc how hfit
            go_wp2_with fail
            rw [HCA.out]
            refine (HI.out (p + o.size) zz _ HRX.out HPX.out hps).mono ?_
            rintro e w4 hend
            obtain ⟨r, hr⟩ : ∃ r, F (dr s (p + o.size)) zz = r := ⟨_, rfl⟩
            rw [hr] at hend
            have HRR := hide hr
            clear hr
            cases r with
            | error c2 =>
              obtain ⟨rfl, hg4⟩ := hend
              refine ⟨rfl, ?_⟩
              rw [HIT.out, Ar.it_error HDEC.out (by rw [HSTEP.out, HRR.out])]
              exact ⟨rfl, gb_trans (gb_setCell HG3.out 1 _) hg4⟩
            | ok x =>
              obtain ⟨b2, u2, z2⟩ := x
              obtain ⟨j2, rfl, hr4, hj2, hu2, hg4⟩ := hend
              have HR4 := hide hr4
              have hlen2 : j2 ≥ p + o.size := by
                have h1 := HSF.out _ _ _ _ _ HRR.out
                have h2 := h1.length_le
                rw [← hu2, dr_len, dr_len] at h2
                omega
              have HON := hide (Ar.it_on HDEC.out (show Ar.stepB (KP P) (L + 1) F (m, dr s q, zz) = .ok (.inl (dopV oc m b2, dr s j2, dopZ oc b2 z2)) by rw [HSTEP.out, HRR.out, ← hu2]))
              have HP4 := hide (HPX.out.kept hg4 hB)
              have HG4 := hide (gb_trans (gb_setCell HG3.out 1 _) hg4)
              have HLV4 := hide ((HLV3.out.gr (gb_setCell (Gr.refl w3 g) 1 (.int .i64 ((p + o.size : Nat) : Int))) hgl).gr hg4 hgl)
              clear hr4 hu2 hg4 hc1 hf1
              go_wp2_with fail
              rw [← HOS.out]
              refine (reckon_any oc HOC.out.1 HOC.out.2 g s j2 _ d z2 m b2 w4 HR4.out).mono ?_
              rintro e w5 ⟨rfl, hr5, hg5⟩
              have HR5 := hide hr5
              have HP5 := hide (HP4.out.kept hg5 hB)
              have HLV5 := hide (HLV4.out.gr hg5 hgl)
              have HG5 := hide (gb_trans HG4.out hg5)
              clear hr5 hg5
              go_wp2
              go_roundg (s.size - j2)
              case rel => exact ⟨j2, _, _, rfl, rfl, hj2, by rw [HIT.out]; exact HON.out, HR5.out, HP5.out, HLV5.out, HG5.out⟩
              case measure => omega
          · have hne2 := txt_ne he
            have HNE := hide he
            clear he
            go_wp2
            go_roundg (nn - (y + 1))
            case rel => exact ⟨y + 1, rfl, rfl, by go_num, by omega, fun t o' ht ho' => by
              by_cases e : t = y
              · subst e
                rw [HO.out] at ho'
                injection ho' with ho'
                rw [← ho']
                exact HNE.out
              · exact HNF.out t o' (by omega) ho', rfl⟩
            case measure => omega
        · obtain rfl : y = nn := by omega
          have HOUT := hide (show Ar.it (Ar.stepB (KP P) (L + 1) F) (m, dr s q, zz) = .ok (m, dr s p, zz) by
            refine Ar.it_out HDEC.out ?_
            unfold Ar.stepB
            simp only
            rw [← HSK.out, if_neg]
            intro hlv
            have h1 := HFND.out.2 (by rw [HLEV.out]; exact hlv)
            rw [HOS.out] at h1
            obtain ⟨t, ht⟩ := List.getElem?_of_mem h1
            exact HNF.out t os (by have := (List.getElem?_eq_some_iff.1 ht).1; have := HNN.out; omega) ht rfl)
          go_wp2
          first | go_ret | (rw [Exit.noGoto_ret]; go_ret)
          rw [HIT.out, HOUT.out]
          exact ⟨p, rfl, HR3.out, hp3, rfl, HG3.out⟩
end Go.Proofs.YtpjbklajjikgjaaDoor
