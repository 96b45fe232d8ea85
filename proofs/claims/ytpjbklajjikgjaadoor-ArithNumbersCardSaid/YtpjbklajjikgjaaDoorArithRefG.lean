/- Walk of the reference's arith: plain. -/
import Derived.Test.YtpjbklajjikgjaaDoorArithRefF
import Derived.Deep.CutBlock
namespace Go.Proofs.YtpjbklajjikgjaaDoor
open Go.RowKit Go.Deep

theorem bt_list (s : ByteArray) (k : Nat) : bt s k = (s.data.toList.getD k 0).toNat := by
  unfold bt
  congr 1
  rw [Array.getD_eq_getD_getElem?, List.getD_eq_getElem?_getD, Array.getElem?_toList]
theorem nmLen_eq (s : ByteArray) (i : Nat) : nmRun (shB (bt s) i) (s.size - i) = Ar.nmn (dr s i) := by
  obtain ⟨t, ht⟩ : ∃ t, s.extract i s.size = t := ⟨_, rfl⟩
  obtain ⟨h1, h2⟩ := text_rest ht
  have e : shB (bt s) i = bt t := by
    funext j
    rw [shB, bt_list, bt_list, h1]
    congr 1
    simp [dr, List.getD_eq_getElem?_getD, List.getElem?_drop]
  rw [e, ← h2, nmRun_eq, h1]
theorem par_fin : ∀ c ∈ (0 :: S15), ∀ d ∈ (0 :: S5), (Ar.opc2 c d = 21 ↔ c = 40) ∧ (Ar.opc2 c d = 22 ↔ c = 41) := by decide +kernel
theorem par_all (u : List UInt8) : (Ar.opc u = 21 ↔ u.headD 0 = 40) ∧ (Ar.opc u = 22 ↔ u.headD 0 = 41) := by
  show (Ar.opc2 (u.headD 0) (u.tail.headD 0) = 21 ↔ _) ∧ (Ar.opc2 (u.headD 0) (u.tail.headD 0) = 22 ↔ _)
  generalize u.headD 0 = c
  generalize u.tail.headD 0 = d
  by_cases hc : c ∈ S15
  · by_cases hd : d ∈ S5
    · exact par_fin c (by simp [hc]) d (by simp [hd])
    · rw [opc2_d hd]
      exact par_fin c (by simp [hc]) 0 (by simp)
  · rw [opc2_c hc]
    refine ⟨⟨fun h => by omega, ?_⟩, ⟨fun h => by omega, ?_⟩⟩
    · rintro rfl
      exact absurd (by decide) hc
    · rintro rfl
      exact absurd (by decide) hc
theorem opS_par : ∀ c, c ≤ 22 → ((opS c).toList == [40]) = decide (c = 21) ∧ ((opS c).toList == [41]) = decide (c = 22) := by
  simp only [ByteArray.toList_eq]
  decide +kernel
/-- from's contract -/
def FCon (A : Option Addr) (P : List Pr) (c B g : Nat) (s : ByteArray) (d : Nat) (L : Nat) (E : Ar.Ex) : Prop :=
  ∀ (i : Nat) (z : Bool) (w : World), RR w g s (.slice A P.length c) i d 0 z → PB w A P B → i ≤ s.size →
    Calls Tryd.prog 21 #[.pointer (some ⟨g, 0, none⟩), .int .i64 L] w fun e w' => REnd g s (.slice A P.length c) d w (E (dr s i) z) e w'
theorem dig_head {l : List UInt8} (h : 0 < Ar.dgn l) : ¬ l.headD 0 = 40 ∧ Ar.nmn l = 0 := by
  cases l with
  | nil => exact absurd h (by decide)
  | cons c l =>
    rw [dgn_cons] at h
    split at h
    · rename_i hd
      have h2 := (dgl_iff c).1 hd
      refine ⟨fun e => ?_, ?_⟩
      · have : c = 40 := e
        subst this
        exact absurd h2.1 (by decide)
      · rw [Ar.nmn, if_neg]
        rw [← stB_eq]
        simp [stB]
        omega
    · omega
theorem rdigit_v (c : UInt8) (v : Bool) (h : Ar.dgl c = v) (w : World) : Calls Tryd.prog 33 #[.int .u8 c.toNat] w fun e w' => e = .returned (.bool v) ∧ w' = w :=
  (rdigit_any c.toNat w (UInt8.toNat_lt _)).mono fun _ _ ⟨h1, h2⟩ => ⟨by rw [h1, dgB_eq, h], h2.symm⟩
theorem rlen_v (s : ByteArray) (i m : Nat) (w : World) (hs : s.size ≤ 100000) (hi : i ≤ s.size) (h : nmRun (shB (bt s) i) (s.size - i) = m) : Calls Tryd.prog 23 #[.string s, .int .i64 i] w fun e w' => e = .returned (.int .i64 m) ∧ w' = w :=
  (rlen_any s i w hs hi).mono fun _ _ ⟨h1, h2⟩ => ⟨by rw [h1, h], h2.symm⟩
theorem valT_err {l : List UInt8} {c : Nat} (h : valT l = .error c) : c = 2 := by
  unfold valT at h
  repeat' split at h
  all_goals first | (injection h with h; exact h.symm) | cases h
theorem VEndR.ret {g : Nat} {s : ByteArray} {lv : Value} {i d : Nat} {z : Bool} {w : World} {r : Except Nat Int} {e : Ending} {w' : World} (h : VEndR g s lv i d z w r e w') :
    ∃ v : Int, e = .returned (.int .i64 v) ∧ (w'.cell? ⟨g, 0, none⟩ = some (.string s) ∧ w'.cell? ⟨g, 2, none⟩ = some (.int .i64 i)) ∧ VEndR g s lv i d z w r (.returned (.int .i64 v)) w' := by
  cases r with
  | error c =>
    obtain ⟨rfl, h1, h2⟩ := h
    exact ⟨0, rfl, ⟨h1.c0, h1.c2⟩, rfl, h1, h2⟩
  | ok v =>
    obtain ⟨rfl, h1, h2⟩ := h
    exact ⟨v, rfl, ⟨h1.c0, h1.c2⟩, rfl, h1, h2⟩
theorem number_v (s : ByteArray) (v : Int) (w : World) (hs : s.size ≤ 9223372036854775807) (hd : s.data.toList.all Ar.dgl = true) (h : nI s.data.toList = v) : Calls Tryd.prog 49 #[.string s] w fun e w' => e = .returned (.int .i64 v) ∧ w' = w :=
  (number_any s w hs hd).mono fun _ _ ⟨h1, h2⟩ => ⟨by rw [h1, h], h2.symm⟩
set_option maxRecDepth 100000 in
set_option maxHeartbeats 4000000 in
theorem plain_any7 (A : Option Addr) (P : List Pr) (c B g : Nat) (s : ByteArray) (d : Nat) (E : Ar.Ex) (hd : d ≤ 40) (h40 : d = 40 → E = fun _ _ => .error 3) (hb : d < 40 → FCon A P c B g s (d + 1) 1 E) (hB : B ≤ g) (hs : s.size ≤ 100000)
    (hl : P.length ≤ maxLen) (hv : ∀ x ∈ P, x.2.size ≤ maxLen) : RPCon A P c B g s d E := by
  intro i z w h hP hi hsk
  have H := hide h
  have HP := hide hP
  have HNA := hide (fun i z n w h hP => rname7_any g s i A P c d z n B w h hP hB hl hv)
  have HB := hide hb
  have HE := hide h40
  obtain ⟨oc, hoc⟩ : ∃ oc, Ar.opc (dr s i) = oc := ⟨_, rfl⟩
  have hocl : oc ≤ 22 := by rw [← hoc]; exact opc_le _
  have hpar := (par_all (dr s i)).1
  rw [hoc] at hpar ⊢
  have HOC := hide hoc
  clear hb h40 hl hv hoc
  by_cases h21 : oc = 21
  · have h4 : (dr s i).headD 0 = 40 := hpar.1 h21
    subst h21
    obtain ⟨hil, hdc⟩ := dr_head (s := s) (i := i) (by rw [h4]; decide)
    have HT := hide (show Ar.prim (KP P) E (dr s i) z = Ar.bd (E (dr s (i + 1)) z) Ar.clo by rw [Ar.prim, if_pos h4, hdc]; rfl)
    have t40 : ((opS 21).toList == [40]) = true := by rw [ByteArray.toList_eq]; rfl
    have hc3 := h.c3
    have hf3 := h.fz 3
    have hc2 := h.c2
    have hf2 := h.fz 2
    have HSD := hide (h.setd (d + 1))
    clear h hP hpar hdc h4
    have hdd : ((d : Nat) : Int) ≤ 40 := by omega
    by_cases hd40 : d = 40
    · subst hd40
      have HFIN := hide (show Ar.prim (KP P) E (dr s i) z = .error 3 by rw [HT.out, HE.out rfl]; rfl)
      go_enter Tryd.func39, Tryd.ntmps39
      go_wp2_with fail
      refine (rfail_any g s _ i 41 0 z 3 _ HSD.out).mono ?_
      rintro e w' ⟨rfl, h1, h2⟩
      have H1 := hide h1
      have H2 := hide (gb_trans (gb_setCell (Gr.refl w g) 3 _) h2)
      clear h1 h2
      go_wp2
      go_ret
      rw [HFIN.out]
      exact ⟨by decide, 0, i, 41, z, rfl, H1.out, hi, H2.out⟩
    · have hnd : ¬ (40 < (d : Int) + 1) := by omega
      have HS2 := hide (HSD.out.seti (i + 1))
      have HPS := hide ((HP.out.kept (gb_setCell (Gr.refl w g) 3 (.int .i64 ((d + 1 : Nat) : Int))) hB).kept (gb_setCell (Gr.refl _ g) 2 (.int .i64 ((i + 1 : Nat) : Int))) hB)
      go_enter Tryd.func39, Tryd.ntmps39
      go_wp2_with fail
      refine (HB.out (by omega) (i + 1) z _ HS2.out HPS.out (by omega)).mono ?_
      rintro e w2 hend
      obtain ⟨r, hr⟩ : ∃ r, E (dr s (i + 1)) z = r := ⟨_, rfl⟩
      rw [hr] at hend
      have HRR := hide (HT.out.trans (by rw [hr]))
      have HG0 := hide (gb_setCell (gb_setCell (Gr.refl w g) 3 (.int .i64 ((d + 1 : Nat) : Int))) 2 (.int .i64 ((i + 1 : Nat) : Int)))
      clear hr hc3 hf3 hc2 hf2 HT HSD HS2 HPS hnd
      cases r with
      | error c2 =>
        obtain ⟨h0, v, j, d', z', rfl, hr2, hj, hg2⟩ := hend
        have HR2 := hide hr2
        have HG2 := hide (gb_trans HG0.out hg2)
        have H0 := hide h0
        clear hr2 hg2 h0
        go_wp2_with fail
        refine (sign_any g s _ j d' c2 z' w2 HR2.out hj hs).mono ?_
        rintro e w3 ⟨rfl, k, hr3, hjk, hk, hsk3, hg3⟩
        have hc4 := hr3.c4
        have hb4 : (((c2 : Nat) : Int) != 0) = true := by rw [bne_iff_ne]; have := H0.out; omega
        have HR3 := hide hr3
        have HG3 := hide (gb_trans HG2.out hg3)
        clear hr3 hg3 hsk3
        go_wp2_with fail
        refine (rfail_any g s _ k d' c2 z' 2 _ HR3.out).mono ?_
        rintro e w4 ⟨rfl, h1, h2⟩
        have H1 := hide h1
        have H2 := hide (gb_trans HG3.out h2)
        clear h1 h2
        go_wp2
        go_ret
        rw [HRR.out]
        refine ⟨H0.out, 0, k, d', z', rfl, ?_, hk, H2.out⟩
        have h1 := H1.out
        rwa [badF, if_neg H0.out] at h1
      | ok x =>
        obtain ⟨v, u, z'⟩ := x
        obtain ⟨j, rfl, hr2, hj, hu, hg2⟩ := hend
        have HR2 := hide hr2
        have HU := hide hu
        have HG2 := hide (gb_trans HG0.out hg2)
        clear hr2 hu hg2
        go_wp2_with fail
        refine (sign_any g s _ j (d + 1) 0 z' w2 HR2.out hj hs).mono ?_
        rintro e w3 ⟨rfl, k, hr3, hjk, hk, hsk3, hg3⟩
        rw [← hsk3]
        have hc2 := hr3.c2
        have hc3 := hr3.c3
        have hc4 := hr3.c4
        have hf2 := hr3.fz 2
        have hf3 := hr3.fz 3
        have HR3 := hide hr3
        have HG3 := hide (gb_trans HG2.out hg3)
        have HSK := hide (show Ar.sk u = dr s k by rw [← HU.out]; exact hsk3.symm)
        obtain ⟨o2, ho2⟩ : ∃ o2, Ar.opc (dr s k) = o2 := ⟨_, rfl⟩
        have ho22 : o2 ≤ 22 := by rw [← ho2]; exact opc_le _
        have hpar2 := (par_all (dr s k)).2
        rw [ho2] at hpar2 ⊢
        clear hr3 hg3 hsk3 ho2
        by_cases h22 : o2 = 22
        · have h41 : (dr s k).headD 0 = 41 := hpar2.1 h22
          obtain ⟨hkl, hdk⟩ := dr_head (s := s) (i := k) (by rw [h41]; decide)
          have HFIN := hide (show Ar.bd (.ok (v, u, z')) Ar.clo = .ok (v, dr s (k + 1), z') by rw [Ar.bd_ok, Ar.clo, if_pos (show (Ar.sk u).headD 0 = 41 by rw [HSK.out]; exact h41)]; show (Except.ok (v, (Ar.sk u).tail, z') : Ar.R) = _; rw [HSK.out, hdk]; rfl)
          subst h22
          have t41 : ((opS 22).toList == [41]) = true := by rw [ByteArray.toList_eq]; rfl
          clear hpar2 h41 hdk
          go_wp2
          go_ret
          rw [HRR.out, HFIN.out]
          exact ⟨k + 1, rfl, ((HR3.out.seti (k + 1)).setd d), by omega, rfl, gb_setCell (gb_setCell HG3.out 2 _) 3 _⟩
        · have t41 : ((opS o2).toList == [41]) = false := by rw [(opS_par o2 ho22).2]; simpa using h22
          have HFIN := hide (show Ar.bd (.ok (v, u, z')) Ar.clo = .error 2 by rw [Ar.bd_ok, Ar.clo, if_neg]; show ¬ (Ar.sk u).headD 0 = 41; rw [HSK.out]; exact fun e => h22 (hpar2.2 e))
          clear hpar2 h22
          go_wp2_with fail
          refine (rfail_any g s _ k (d + 1) 0 z' 2 _ HR3.out).mono ?_
          rintro e w4 ⟨rfl, h1, h2⟩
          have H1 := hide h1
          have H2 := hide (gb_trans HG3.out h2)
          clear h1 h2
          go_wp2
          go_ret
          rw [HRR.out, HFIN.out]
          exact ⟨by decide, 0, k, d + 1, z', rfl, H1.out, hk, H2.out⟩
  · have h4 : ¬ (dr s i).headD 0 = 40 := fun e => h21 (hpar.2 e)
    have t40 : ((opS oc).toList == [40]) = false := by rw [(opS_par oc hocl).1]; simpa using h21
    have HN4 := hide h4
    clear h hP hpar h4 h21
    go_enter Tryd.func39, Tryd.ntmps39
    have hc20 := H.out.c2
    go_upto_block 0 with (fail)
    go_cut [] from 65 to 93 (fun wr => RR wr g s (.slice A P.length c) (i + Ar.dgn (dr s i)) d 0 z ∧ i + Ar.dgn (dr s i) ≤ s.size ∧ Gr w wr g)
    case first =>
      go_wp2
      go_loopg [] (s.size - i) (fun n wr => ∃ k, n = s.size - k ∧ RR wr g s (.slice A P.length c) k d 0 z ∧ i ≤ k ∧ k ≤ s.size ∧ Hid (i + Ar.dgn (dr s i) = k + Ar.dgn (dr s k)) ∧ Gr w wr g)
      case atStart => exact ⟨i, rfl, H.out, Nat.le_refl _, hi, rfl, Gr.refl _ _⟩
      case round =>
        obtain ⟨k, hgk, hr, hik, hk, HD, hgr⟩ := hrel
        have hc0 := hr.c0
        have hc2 := hr.c2
        have hf := hr.fz 2
        have HR := hide hr
        have HG := hide hgr
        clear hr hgr hc20
        by_cases hlt : k < s.size
        · have HDC := hide (dr_cons hlt)
          have hkk : (0 : Int) ≤ (k : Int) := by omega
          have hkl : (k : Int) < (s.size : Int) := by omega
          have hd1 : decide ((k : Int) < (s.size : Int)) = true := by simp only [decide_eq_true_eq]; omega
          cases hdg : Ar.dgl s[k] with
          | true =>
            have HDG := hide hdg
            have HQ := hide (fun w => rdigit_v s[k] true hdg w)
            clear hdg
            go_wp2
            go_quiet ((go_at_call 33; exact Calls.quiet_of_same (HQ.out _)))
            go_wp2
            go_roundg (s.size - (k + 1))
            case rel => exact ⟨k + 1, rfl, (HR.out.drewN _).seti (k + 1), by omega, by omega, by rw [HD.out, HDC.out, dgn_cons, if_pos HDG.out]; exact Nat.add_left_comm _ _ _ ▸ (by show _ = _; omega), gb_setCell (gb_drewN HG.out _) _ _⟩
            case measure => omega
          | false =>
            have HDG := hide (show Ar.dgn (dr s k) = 0 by rw [HDC.out, dgn_cons, if_neg (by rw [hdg]; simp)])
            have HQ := hide (fun w => rdigit_v s[k] false hdg w)
            clear hdg
            go_wp2
            go_quiet ((go_at_call 33; exact Calls.quiet_of_same (HQ.out _)))
            go_wp2
            go_meet
            rw [HD.out, HDG.out]
            exact ⟨HR.out.drewN _, hk, gb_drewN HG.out _⟩
        · have hd1 : decide ((k : Int) < (s.size : Int)) = false := by simp only [decide_eq_false_iff_not]; omega
          have HDG := hide (show Ar.dgn (dr s k) = 0 by rw [dr_nil (by omega)]; rfl)
          go_wp2
          go_quiet (fail)
          go_wp2
          go_meet
          rw [HD.out, HDG.out]
          exact ⟨HR.out.drewN _, hk, gb_drewN HG.out _⟩
    case rest =>
      obtain ⟨hr, hle, hg⟩ := hcut
      obtain ⟨n, hn⟩ : ∃ n, Ar.dgn (dr s i) = n := ⟨_, rfl⟩
      rw [hn] at hr hle
      have hc0 := hr.c0
      have hc2 := hr.c2
      have hf2 := hr.fz 2
      have HR := hide hr
      have HG := hide hg
      have HN := hide hn
      have hii : (0 : Int) ≤ (i : Int) := by omega
      have hnn : (0 : Int) ≤ (i : Int) + (n : Int) := by omega
      have hle2 : (i : Int) + (n : Int) ≤ (s.size : Int) := by omega
      have hle3 : (i : Int) ≤ (i : Int) + (n : Int) := by omega
      by_cases hn0 : 0 < n
      · have HT := hide (show Ar.prim (KP P) E (dr s i) z = .ok (nI ((dr s i).take n), dr s (i + n), z) by
          have hdh := dig_head (l := dr s i) (by rw [hn]; exact hn0)
          rw [Ar.prim, if_neg hdh.1, if_neg (by rw [hdh.2]; omega), hn, if_pos hn0, dr_drop]; rfl)
        have hxd : (s.extract i (i + n)).data.toList = (dr s i).take n := by rw [Lib.extract_data, Nat.add_sub_cancel_left]; rfl
        have hxa : (s.extract i (i + n)).data.toList.all Ar.dgl = true := by
          rw [hxd, ← hn, dgn_take]
          exact List.all_takeWhile
        have hxs : (s.extract i (i + n)).size ≤ 9223372036854775807 := by
          have h1 := congrArg List.length hxd
          rw [List.length_take, dr_len, Array.length_toList] at h1
          show (s.extract i (i + n)).data.size ≤ _
          omega
        have HQ := hide (fun w => number_v (s.extract i (i + n)) (nI ((dr s i).take n)) w hxs hxa (by rw [hxd]))
        have hlt2 : (i : Int) < (i : Int) + (n : Int) := by omega
        clear hr hg hn hxd hxa hxs
        go_wp2
        go_quiet ((go_at_call 49; exact Calls.quiet_of_same (HQ.out _)))
        go_wp2
        go_ret
        rw [HT.out]
        exact ⟨i + n, rfl, HR.out.drewN _, hle, rfl, gb_drewN HG.out _⟩
      · obtain rfl : n = 0 := by omega
        obtain ⟨m, hm⟩ : ∃ m, Ar.nmn (dr s i) = m := ⟨_, rfl⟩
        have hml : m ≤ s.size - i := by rw [← hm, ← dr_len]; exact nmn_le _
        have HML := hide (show nmRun (shB (bt s) i) (s.size - i) = m by rw [nmLen_eq, hm])
        have HLEN := hide (fun w => rlen_v s i m w hs hi HML.out)
        have hlt2 : ¬ (i : Int) < (i : Int) := by omega
        have HR0 : Hid (RR wc g s (.slice A P.length c) i d 0 z) := HR.out
        rw [Nat.add_zero] at hr hc2
        clear hr hg hn hnn hle2 hle3
        by_cases hm0 : m = 0
        · subst hm0
          have HT := hide (show Ar.prim (KP P) E (dr s i) z = .error 2 by
            rw [Ar.prim, if_neg HN4.out, if_neg (by rw [hm]; omega), if_neg (by rw [HN.out]; omega)])
          clear hm
          go_wp2
          go_quiet ((go_at_call 23; exact Calls.quiet_of_same (HLEN.out _)))
          go_wp2_with fail
          refine (rfail_any g s _ i d 0 z 2 _ (HR0.out.drewN _)).mono ?_
          rintro e w4 ⟨rfl, h1, h2⟩
          have H1 := hide h1
          have H2 := hide (gb_trans (gb_drewN HG.out _) h2)
          clear h1 h2
          go_wp2
          go_ret
          rw [HT.out]
          exact ⟨by decide, 0, i, d, z, rfl, H1.out, hi, H2.out⟩
        · have hmz : (((m : Nat) : Int) == 0) = false := by simp only [beq_eq_false_iff_ne]; omega
          have hxt : (⟨((dr s i).take m).toArray⟩ : ByteArray) = s.extract i (i + m) := by
            apply ByteArray.ext
            apply Array.ext'
            rw [Lib.extract_data, Nat.add_sub_cancel_left]
            rfl
          have hxz : (s.extract i (i + m)).size = m := by
            rw [← hxt, size_toArray, List.length_take, dr_len]
            omega
          have HT0 := hide (show Ar.prim (KP P) E (dr s i) z = match nvF P (s.extract i (i + m)) with
              | .error e => .error e
              | .ok v => .ok (v, dr s (i + m), z) by
            rw [Ar.prim, if_neg HN4.out, if_pos (by rw [hm]; omega), hm, dr_drop, ← hxt]; rfl)
          by_cases h60 : 60 < m
          · have hmg : ((60 : Int) < (m : Int)) := by omega
            have HT := hide (show Ar.prim (KP P) E (dr s i) z = .error 2 by rw [HT0.out, nvF, if_pos (by rw [hxz]; exact h60)])
            clear hm hxt hxz hm0
            go_wp2
            go_quiet ((go_at_call 23; exact Calls.quiet_of_same (HLEN.out _)))
            go_wp2_with fail
            refine (rfail_any g s _ i d 0 z 2 _ (HR0.out.drewN _)).mono ?_
            rintro e w4 ⟨rfl, h1, h2⟩
            have H1 := hide h1
            have H2 := hide (gb_trans (gb_drewN HG.out _) h2)
            clear h1 h2
            go_wp2
            go_ret
            rw [HT.out]
            exact ⟨by decide, 0, i, d, z, rfl, H1.out, hi, H2.out⟩
          · have hmg : ¬ ((60 : Int) < (m : Int)) := by omega
            have HT := hide (show Ar.prim (KP P) E (dr s i) z = match valT (trB (lastV P (s.extract i (i + m))).data.toList) with
                | .error e => .error e
                | .ok v => .ok (v, dr s (i + m), z) by rw [HT0.out, nvF, if_neg (by rw [hxz]; exact h60)])
            clear hm hxt hxz hm0 HT0
            have hi1 : (0 : Int) ≤ (i : Int) + (m : Int) := by omega
            have hi2 : (i : Int) + (m : Int) ≤ (s.size : Int) := by omega
            have hi3 : (i : Int) ≤ (i : Int) + (m : Int) := by omega
            go_wp2
            go_quiet ((go_at_call 23; exact Calls.quiet_of_same (HLEN.out _)))
            go_wp2
            obtain ⟨r, hr⟩ : ∃ r, valT (trB (lastV P (s.extract i (i + m))).data.toList) = r := ⟨_, rfl⟩
            have HNB := hide (fun w h hP => hr ▸ HNA.out (i + m) z (s.extract i (i + m)) w h hP)
            have HK := hide (fun q => (HR0.out.drewN q).seti (i + m))
            have HPK := hide (fun q => HP.out.kept (gb_drew (gb_setCell (gb_drewN HG.out q) 2 (.int .i64 ((i + m : Nat) : Int)))) hB)
            rw [hr] at HT
            have HER := hide (fun c h => valT_err (c := c) (hr.trans h))
            clear hr
            go_region_held3 (fun w' => w'.cell? ⟨g, 0, none⟩ = some (.string s) ∧ w'.cell? ⟨g, 2, none⟩ = some (.int .i64 ((i : Int) + (m : Int))))
              (first | exact ⟨(HK.out _).c0, (HK.out _).c2⟩ | exact ⟨hx.1, hx.2⟩)
              ((go_at_call 50; refine (HNB.out _ ?_ ?_).mono ?_; exact (HK.out _).kept rfl; exact HPK.out _; rintro e w4 hend; obtain ⟨v, rfl, hx, hfin⟩ := hend.ret))
            have HFI := hide hfin
            clear hfin hend hx
            go_wp2
            go_ret
            rw [HT.out]
            have h1 := HFI.out
            cases r with
            | error c2 =>
              obtain ⟨h2, h3, h4⟩ := h1
              exact ⟨by rw [HER.out c2 rfl]; decide, v, i + m, d, z, rfl, h3, by omega, gb_trans (gb_drew (gb_setCell (gb_drewN HG.out _) 2 _)) h4⟩
            | ok v2 =>
              obtain ⟨h2, h3, h4⟩ := h1
              exact ⟨i + m, h2, h3, by omega, rfl, gb_trans (gb_drew (gb_setCell (gb_drewN HG.out _) 2 _)) h4⟩
end Go.Proofs.YtpjbklajjikgjaaDoor
