/- Walk of the reference's arith: from. -/
import Derived.Test.YtpjbklajjikgjaaDoorArithRefG
import Derived.Test.YtpjbklajjikgjaaDoorArithWalkK
namespace Go.Proofs.YtpjbklajjikgjaaDoor
open Go.RowKit Go.Deep

theorem frm_eq7 {K : Ar.Kn} {E : Ar.Ex} (hE : Ar.SufE E) {L : Nat} (hL : 1 ≤ L) (l : List UInt8) (z : Bool) : Ar.frm K E 10 L l z = Ar.bd (Ar.una K E l z) (Ar.it (Ar.stepR K L (fun k => Ar.frm K E 10 (k + 1)))) := by
  rw [Ar.frm_irr hE 10 L (by omega), Ar.frm_succ]
/-- the state of from's loop -/
def FSt (K : Ar.Kn) (E : Ar.Ex) (L : Nat) (R0 : Ar.R) (d : Nat) (m : Int) (u : List UInt8) (z : Bool) (d' b : Nat) : Prop :=
  (b = 0 ∧ d' = d ∧ R0 = Ar.it (Ar.stepR K L (fun k => Ar.frm K E 10 (k + 1))) (m, u, z)) ∨ (b ≠ 0 ∧ R0 = .error b)
def msr (b x : Nat) : Nat := if b = 0 then x + 1 else 0
set_option maxRecDepth 100000 in
set_option maxHeartbeats 4000000 in
theorem from_step (A : Option Addr) (P : List Pr) (c B g : Nat) (s : ByteArray) (d : Nat) (E : Ar.Ex) (hE : Ar.SufE E) (hp : RPCon A P c B g s d E) (L : Nat) (hL : 1 ≤ L) (hL11 : L ≤ 11) (ih : ∀ k, L ≤ k → k ≤ 10 → FCon A P c B g s d (k + 1) (Ar.frm (KP P) E 10 (k + 1))) (hB : B ≤ g) (hs : s.size ≤ 100000) :
    FCon A P c B g s d L (Ar.frm (KP P) E 10 L) := by
  intro i z w h hP hi
  have H := hide h
  have HP := hide hP
  have HI := hide ih
  have HONE := hide (fun i z w h hP hi => one_any7 A P c B g s d E hp hB hs i z w h hP hi)
  have HDF := hide (frm_eq7 (K := KP P) hE hL (dr s i) z)
  have HDEC := hide (Ar.stepR_dec (K := KP P) (L := L) (F := fun k => Ar.frm (KP P) E 10 (k + 1)) (fun k => Ar.frm_suf hE 10 (k + 1)))
  have HSF := hide (fun k => Ar.frm_suf (K := KP P) hE 10 (k + 1))
  obtain ⟨R0, hR0⟩ : ∃ R0, Ar.frm (KP P) E 10 L (dr s i) z = R0 := ⟨_, rfl⟩
  have HR0 := hide hR0
  clear h hP ih hp hR0
  go_enter Tryd.func21, Tryd.ntmps21
  go_wp2_with fail
  refine (HONE.out i z w H.out HP.out hi).mono ?_
  rintro e w1 hend
  obtain ⟨r, hr⟩ : ∃ r, Ar.una (KP P) E (dr s i) z = r := ⟨_, rfl⟩
  rw [hr] at hend
  have hst : ∃ (m : Int) (q : Nat) (zz : Bool) (d' b : Nat), e = .returned (.int .i64 m) ∧ RR w1 g s (.slice A P.length c) q d' b zz ∧ q ≤ s.size ∧ FSt (KP P) E L R0 d m (dr s q) zz d' b ∧ Gr w w1 g := by
    have h1 := HDF.out
    rw [HR0.out, hr] at h1
    cases r with
    | error c2 =>
      obtain ⟨h0, v, j, d', z', he, h2, h3, h4⟩ := hend
      exact ⟨v, j, z', d', c2, he, h2, h3, .inr ⟨h0, h1⟩, h4⟩
    | ok x =>
      obtain ⟨v, u, z'⟩ := x
      obtain ⟨j, he, h2, h3, h4, h5⟩ := hend
      exact ⟨v, j, z', d, 0, he, h2, h3, .inl ⟨rfl, rfl, by rw [h1, Ar.bd_ok, h4]⟩, h5⟩
  obtain ⟨m0, q0, z0, d0, b0, rfl, h1, h2, h3, h4⟩ := hst
  have HR1 := hide h1
  have HS1 := hide h3
  have HG1 := hide h4
  have HP1 := hide (HP.out.kept h4 hB)
  clear hend hr h1 h3 h4 HDF
  go_wp2
  go_loopg [5] (msr b0 (s.size - q0)) (fun n v5 wr => ∃ (q : Nat) (m : Int) (zz : Bool) (d' b : Nat), n = msr b (s.size - q) ∧ v5 = .int .i64 m ∧ q ≤ s.size ∧ Hid (FSt (KP P) E L R0 d m (dr s q) zz d' b) ∧ RR wr g s (.slice A P.length c) q d' b zz ∧ PB wr A P B ∧ Gr w wr g)
  case atStart => exact ⟨q0, m0, z0, d0, b0, rfl, rfl, h2, HS1.out, HR1.out, HP1.out, HG1.out⟩
  case round =>
    obtain ⟨q, m, zz, d', b, hgq, rfl, hq, HST, hr, hpb, hg⟩ := hrel
    have hc4 := hr.c4
    have HR := hide hr
    have HPq := hide hpb
    have HG := hide hg
    clear hr hpb hg HR1 HS1 HG1 HP1
    by_cases hb : b = 0
    · subst hb
      rw [msr, if_pos rfl] at hgq
      have hst2 : d' = d ∧ R0 = Ar.it (Ar.stepR (KP P) L (fun k => Ar.frm (KP P) E 10 (k + 1))) (m, dr s q, zz) := by
        rcases HST.out with ⟨_, h1, h2⟩ | ⟨h1, _⟩
        · exact ⟨h1, h2⟩
        · exact absurd rfl h1
      obtain ⟨rfl, hit⟩ := hst2
      have HIT := hide hit
      clear hit
      go_wp2_with fail
      refine (sign_any g s _ q _ 0 zz wr HR.out hq hs).mono ?_
      rintro e w3 ⟨rfl, p, hr3, hqp, hp3, hsk3, hg3⟩
      have HR3 := hide hr3
      have HP3 := hide (HPq.out.kept hg3 hB)
      have HG3 := hide (gb_trans HG.out hg3)
      have HSK := hide hsk3
      rw [← hsk3]
      obtain ⟨oc, hoc⟩ : ∃ oc, Ar.opc (dr s p) = oc := ⟨_, rfl⟩
      have hocl : oc ≤ 22 := by rw [← hoc]; exact opc_le _
      have HOC := hide hoc
      rw [hoc]
      clear hr3 hg3 hsk3 hoc
      go_wp2_with fail
      refine (rlev_any oc hocl _).mono ?_
      rintro e w4 ⟨rfl, rfl⟩
      obtain ⟨lv, hlv⟩ : ∃ lv, Ar.lev oc = lv := ⟨_, rfl⟩
      rw [hlv]
      have hlv10 : lv ≤ 10 := by rw [← hlv]; exact Ar.lev_le _
      have HLV := hide hlv
      clear hlv
      by_cases hstop : lv < L ∨ lv = 0
      · have HOUT := hide (show R0 = .ok (m, dr s p, zz) by
          rw [HIT.out]
          refine Ar.it_out HDEC.out ?_
          unfold Ar.stepR
          simp only
          rw [← HSK.out, HOC.out, HLV.out, if_pos hstop])
        by_cases h1 : (lv : Int) < (L : Int)
        · have hlt : lv < L := by omega
          have hd1 : decide (lv < L) = true := by simpa using hlt
          clear hstop
          go_wp2
          go_ret
          rw [HR0.out, HOUT.out]
          exact ⟨p, rfl, HR3.out, hp3, rfl, HG3.out⟩
        · have hle : L ≤ lv := by omega
          have hd1 : decide (lv < L) = false := by simpa using hle
          have hz : (((lv : Nat) : Int) == 0) = true := by rw [beq_iff_eq]; omega
          clear hstop
          go_wp2
          go_ret
          rw [HR0.out, HOUT.out]
          exact ⟨p, rfl, HR3.out, hp3, rfl, HG3.out⟩
      · have h1 : ¬ (lv : Int) < (L : Int) := by omega
        have hle : L ≤ lv := by omega
        have hd1 : decide (lv < L) = false := by simpa using hle
        have hz : (((lv : Nat) : Int) == 0) = false := by simp only [beq_eq_false_iff_ne]; omega
        have hoc19 : oc < 19 := lev_lt (by rw [HLV.out]; omega)
        have hoc0 : oc ≠ 0 := by
          rintro rfl
          have h3 := HLV.out
          rw [show Ar.lev 0 = 0 from rfl] at h3
          omega
        have how : (opS oc).size = Ar.ow oc := opS_size oc hoc19 hoc0
        have hfit := ow_fits (dr s p) (by rw [HOC.out]; exact hoc0)
        rw [HOC.out, ← how, dr_len] at hfit
        have howp : 1 ≤ (opS oc).size ∧ (opS oc).size ≤ 2 := by
          rw [how]
          exact ⟨Ar.ow_pos _, by unfold Ar.ow; split <;> omega⟩
        obtain ⟨os, hos⟩ : ∃ os, opS oc = os := ⟨_, rfl⟩
        rw [hos] at hfit howp how ⊢
        have HOS := hide hos
        have HSTEP := hide (show Ar.stepR (KP P) L (fun k => Ar.frm (KP P) E 10 (k + 1)) (m, dr s q, zz) = match Ar.frm (KP P) E 10 (lv + 1) (dr s (p + os.size)) zz with
            | .error e => .error e
            | .ok (b, u, z) => .ok (.inl (dopV oc m b, u, dopZ oc b z)) by
          unfold Ar.stepR
          simp only
          rw [← HSK.out, HOC.out, HLV.out, if_neg hstop, ← how, dr_drop]
          rfl)
        have HCA := hide (show ((lv : Int) + 1) = ((lv + 1 : Nat) : Int) by omega)
        have hc2 := HR3.out.c2
        have hf2 := HR3.out.fz 2
        have HRX := hide (HR3.out.seti (p + os.size))
        have HPX := hide (HP3.out.kept (gb_setCell (Gr.refl w3 g) 2 (.int .i64 ((p + os.size : Nat) : Int))) hB)
        have HFC := hide (HI.out lv (by omega) hlv10)
        clear how hos h1 hstop
        have hle2 : ¬ lv < L := by omega
        go_wp2_with fail
        rw [HCA.out]
        refine (HFC.out (p + os.size) zz _ HRX.out HPX.out (by omega)).mono ?_
        rintro e w4 hend
        obtain ⟨r, hr⟩ : ∃ r, Ar.frm (KP P) E 10 (lv + 1) (dr s (p + os.size)) zz = r := ⟨_, rfl⟩
        rw [hr] at hend
        have hst : ∃ (v2 : Int) (j2 : Nat) (z2 : Bool) (d2 b2 : Nat), e = .returned (.int .i64 v2) ∧ RR w4 g s (.slice A P.length c) j2 d2 b2 z2 ∧ j2 ≤ s.size ∧ (b2 = 0 → p + os.size ≤ j2) ∧ FSt (KP P) E L R0 d' (dopV oc m v2) (dr s j2) (dopZ oc v2 z2) d2 b2 ∧ Gr (w3.setCell ⟨g, 2, none⟩ (.int .i64 ((p + os.size : Nat) : Int))) w4 g := by
          have h1 := HSTEP.out
          rw [hr] at h1
          cases r with
          | error c2 =>
            obtain ⟨h0, v, j, d', z', he, h2, h3, h4⟩ := hend
            exact ⟨v, j, z', d', c2, he, h2, h3, fun h => absurd h h0, .inr ⟨h0, by rw [HIT.out, Ar.it_error HDEC.out h1]⟩, h4⟩
          | ok x =>
            obtain ⟨v, u, z'⟩ := x
            obtain ⟨j, he, h2, h3, h4, h5⟩ := hend
            have hlen2 : p + os.size ≤ j := by
              have h6 := (HSF.out lv _ _ _ _ _ hr).length_le
              rw [← h4, dr_len, dr_len] at h6
              omega
            exact ⟨v, j, z', _, 0, he, h2, h3, fun _ => hlen2, .inl ⟨rfl, rfl, by rw [HIT.out, Ar.it_on HDEC.out h1, h4]⟩, h5⟩
        obtain ⟨v2, j2, z2, d2, b2, rfl, h1, h2, h3, h4, h5⟩ := hst
        have HR4 := hide h1
        have HS4 := hide h4
        have HG4 := hide (gb_trans (gb_setCell HG3.out 2 _) h5)
        have HP4 := hide (HPX.out.kept h5 hB)
        clear hend hr h1 h4 h5 hc2 hf2
        go_wp2_with fail
        rw [← HOS.out]
        refine (rdo_any oc (by omega) (by omega) g s _ j2 d2 b2 z2 m v2 w4 HR4.out).mono ?_
        rintro e w5 ⟨rfl, h5, h6⟩
        have HR5 := hide h5
        have HP5 := hide (HP4.out.kept h6 hB)
        have HG5 := hide (gb_trans HG4.out h6)
        clear h5 h6
        go_wp2
        go_roundg (msr b2 (s.size - j2))
        case rel => exact ⟨j2, _, _, d2, b2, rfl, rfl, h2, HS4.out, HR5.out, HP5.out, HG5.out⟩
        case measure =>
          have h7 := howp.1
          unfold msr
          split <;> omega
    · have hbz : (((b : Nat) : Int) == 0) = false := by simp only [beq_eq_false_iff_ne]; omega
      have HERR := hide (show R0 = .error b by
        rcases HST.out with ⟨h1, _⟩ | ⟨_, h1⟩
        · exact absurd h1 hb
        · exact h1)
      have HB := hide hb
      clear hb
      go_wp2
      go_ret
      rw [HR0.out, HERR.out]
      exact ⟨HB.out, m, q, d', zz, rfl, HR.out, hq, HG.out⟩
end Go.Proofs.YtpjbklajjikgjaaDoor
