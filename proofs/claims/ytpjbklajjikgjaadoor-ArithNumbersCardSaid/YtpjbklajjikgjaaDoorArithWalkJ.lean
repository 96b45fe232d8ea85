/- Walks of package arith: nested, primary. -/
import Derived.Test.YtpjbklajjikgjaaDoorArithWalkI
namespace Go.Proofs.YtpjbklajjikgjaaDoor
open Go.RowKit Go.Deep

theorem hasP1 (l : List UInt8) (c : UInt8) (hc : c ≠ 0) : Lib.hasPrefix l [c] = (l.headD 0 == c) := by
  cases l with
  | nil =>
    have : ((0 : UInt8) == c) = false := by simpa using Ne.symm hc
    rw [show ([] : List UInt8).headD 0 = 0 from rfl, this]
    rfl
  | cons d l =>
    show ((c : UInt8) == d && [].isPrefixOf l) = (d == c)
    rw [Bool.beq_comm]
    simp
theorem dr_head {s : ByteArray} {i : Nat} (h : (dr s i).headD 0 ≠ 0) : ∃ h : i < s.size, dr s i = s[i] :: dr s (i + 1) := by
  by_cases hl : i < s.size
  · exact ⟨hl, dr_cons hl⟩
  · rw [dr_nil (by omega)] at h
    exact absurd rfl h
/-- binary's contract at a level -/
def BCon (A : Option Addr) (P : List Pr) (c B g : Nat) (s : ByteArray) (d : Nat) (lvl : Nat) (E : Ar.Ex) : Prop :=
  ∀ (i : Nat) (z : Bool) (w : World), RD w g s i (.slice A P.length c) d z → PB w A P B → i ≤ s.size →
    Calls Tryd.prog 25 #[.pointer (some ⟨g, 0, none⟩), .int .i64 lvl] w fun e w' => EEnd g s (.slice A P.length c) d w (E (dr s i) z) e w'
set_option maxRecDepth 100000 in
set_option maxHeartbeats 1000000 in
theorem nested_any (A : Option Addr) (P : List Pr) (c B g : Nat) (s : ByteArray) (d : Nat) (E : Ar.Ex) (hd : d ≤ 40) (h40 : d = 40 → E = fun _ _ => .error 3) (hb : d < 40 → BCon A P c B g s (d + 1) 0 E) (hB : B ≤ g) (hs : s.size ≤ 100000)
    (i : Nat) (z : Bool) (w : World) (h : RD w g s i (.slice A P.length c) d z) (hP : PB w A P B) (hi : i < s.size) :
    Calls Tryd.prog 53 #[.pointer (some ⟨g, 0, none⟩)] w fun e w' => EEnd g s (.slice A P.length c) d w (Ar.bd (E (dr s i).tail z) Ar.clo) e w' := by
  have hc1 := h.c1
  have hc3 := h.c3
  have hf1 := h.fz 1
  have hf3 := h.fz 3
  have H := hide h
  have HP := hide hP
  have HB := hide hb
  have HE := hide h40
  clear h hP hb h40
  by_cases hd40 : d = 40
  · subst hd40
    have HE' := hide (show Ar.bd (E (dr s i).tail z) Ar.clo = .error 3 by rw [HE.out rfl]; rfl)
    go_enter Tryd.func53, Tryd.ntmps53
    go_wp2_with fail
    refine (fail_any 3 _).mono ?_
    rintro e w' ⟨rfl, rfl⟩
    refine ⟨rfl, ?_⟩
    rw [HE'.out]
    exact ⟨rfl, Gr.refl _ _⟩
  · have hne : (((d : Nat) : Int) == 40) = false := by simp only [beq_eq_false_iff_ne]; omega
    have HT := hide (show (dr s i).tail = dr s (i + 1) by rw [dr_cons hi]; rfl)
    have hdd : ((d : Nat) : Int) ≤ 40 := by omega
    have HS := hide ((H.out.setd (d + 1)).seti (i + 1))
    have HPS := hide ((HP.out.kept (gb_setCell (Gr.refl w g) 3 (.int .i64 ((d + 1 : Nat) : Int))) hB).kept (gb_setCell (Gr.refl _ g) 1 (.int .i64 ((i + 1 : Nat) : Int))) hB)
    go_enter Tryd.func53, Tryd.ntmps53
    go_wp2_with fail
    refine (HB.out (by omega) (i + 1) z _ HS.out HPS.out (by omega)).mono ?_
    rintro e w2 hend
    obtain ⟨r, hr⟩ : ∃ r, E (dr s (i + 1)) z = r := ⟨_, rfl⟩
    rw [hr] at hend
    have HRR := hide (show Ar.bd (E (dr s i).tail z) Ar.clo = Ar.bd r Ar.clo by rw [HT.out, hr])
    have HG0 := hide (gb_setCell (gb_setCell (Gr.refl w g) 3 (.int .i64 ((d + 1 : Nat) : Int))) 1 (.int .i64 ((i + 1 : Nat) : Int)))
    clear hr hc1 hc3 hf1 hf3 HS HPS
    cases r with
    | error c2 =>
      obtain ⟨rfl, hg2⟩ := hend
      refine ⟨rfl, ?_⟩
      rw [HRR.out]
      exact ⟨rfl, gb_trans HG0.out hg2⟩
    | ok x =>
      obtain ⟨v, u, z'⟩ := x
      obtain ⟨j, rfl, hr2, hj, hu, hg2⟩ := hend
      have HR2 := hide hr2
      have HJ := hide hu
      have HG2 := hide (gb_trans HG0.out hg2)
      clear hr2 hu hg2 HG0
      go_wp2_with fail
      refine (blank_any g s j _ (d + 1) z' w2 HR2.out hj hs).mono ?_
      rintro e w3 ⟨rfl, k, hr3, hjk, hk, hsk, hg3⟩
      have hc0 := hr3.c0
      have hc1 := hr3.c1
      have hc3 := hr3.c3
      have hf1 := hr3.fz 1
      have hf3 := hr3.fz 3
      have HR3 := hide hr3
      have HK := hide (show Ar.sk u = dr s k by rw [← HJ.out]; exact hsk.symm)
      have HG3 := hide (gb_trans HG2.out hg3)
      clear hr3 hsk hg3 HR2 HG2 HJ
      have htk : List.take (s.size - k) (List.drop k s.data.toList) = dr s k := by rw [List.take_of_length_le (by simp)]; rfl
      have HTK := hide htk
      clear htk
      have hk0 : (0 : Int) ≤ (k : Int) := by omega
      have hks : (k : Int) ≤ (s.size : Int) := by omega
      cases hcl : (dr s k).headD 0 == 41 with
      | true =>
        have hpp : Lib.hasPrefix (List.take (s.size - k) (List.drop k s.data.toList)) [41] = true := by rw [HTK.out, hasP1 _ _ (by decide), hcl]
        have hcl2 : (dr s k).headD 0 = 41 := by simpa using hcl
        obtain ⟨hks2, HDC⟩ := dr_head (s := s) (i := k) (by rw [hcl2]; decide)
        have HFIN := hide (show Ar.bd (.ok (v, u, z')) Ar.clo = .ok (v, dr s (k + 1), z') by rw [Ar.bd_ok, Ar.clo, if_pos (show (Ar.sk u).headD 0 = 41 by rw [HK.out]; exact hcl2)]; show (Except.ok (v, (Ar.sk u).tail, z') : Ar.R) = _; rw [HK.out, HDC]; rfl)
        clear hcl hcl2 HDC
        go_wp2
        go_quiet ((go_at_call 42; exact Calls.quiet_of_same (Tryd.strings_HasPrefix _ _ _)))
        go_wp2
        go_ret
        rw [HRR.out, HFIN.out]
        refine ⟨k + 1, rfl, ?_, by omega, rfl, gb_setCell (gb_setCell (gb_drewN HG3.out _) 1 _) 3 _⟩
        exact ((HR3.out.drewN _).seti (k + 1)).setd d
      | false =>
        have hpp : Lib.hasPrefix (List.take (s.size - k) (List.drop k s.data.toList)) [41] = false := by rw [HTK.out, hasP1 _ _ (by decide), hcl]
        have HFIN := hide (show Ar.bd (.ok (v, u, z')) Ar.clo = .error 2 by rw [Ar.bd_ok, Ar.clo, if_neg]; show ¬ (Ar.sk u).headD 0 = 41; rw [HK.out]; intro e; rw [e] at hcl; exact absurd hcl (by decide))
        clear hcl
        go_wp2
        go_quiet ((go_at_call 42; exact Calls.quiet_of_same (Tryd.strings_HasPrefix _ _ _)))
        go_wp2_with fail
        refine (fail_any 2 _).mono ?_
        rintro e w' ⟨rfl, rfl⟩
        refine ⟨rfl, ?_⟩
        rw [HRR.out, HFIN.out]
        exact ⟨rfl, gb_drewN HG3.out _⟩
theorem text_rest {s t : ByteArray} {k : Nat} (h : s.extract k s.size = t) : t.data.toList = dr s k ∧ t.size = s.size - k := by
  subst h
  refine ⟨by rw [Lib.extract_to_end]; rfl, ?_⟩
  simp
theorem take_takeWhile (f : UInt8 → Bool) : ∀ l : List UInt8, l.take (l.takeWhile f).length = l.takeWhile f
  | [] => rfl
  | c :: l => by
    rw [List.takeWhile_cons]
    split
    · rw [List.length_cons, List.take_succ_cons, take_takeWhile f l]
    · rfl
theorem dgn_take (l : List UInt8) : l.take (Ar.dgn l) = l.takeWhile Ar.dgl := take_takeWhile _ l
theorem dig2_take (l : List UInt8) : dig2 (l.take (Ar.dgn l)) = (nI (l.take (Ar.dgn l)), !(l.take (Ar.dgn l)).isEmpty) := by
  rw [dig2, if_pos]
  rw [dgn_take]
  exact List.all_takeWhile
theorem dgn_cons (c : UInt8) (l : List UInt8) : Ar.dgn (c :: l) = if Ar.dgl c = true then 1 + Ar.dgn l else 0 := by
  rw [Ar.dgn, List.takeWhile_cons]
  split
  · rw [List.length_cons, Ar.dgn]; omega
  · rfl
theorem dgn_le (l : List UInt8) : Ar.dgn l ≤ l.length := (List.takeWhile_sublist _).length_le
theorem nmn_le : ∀ l : List UInt8, Ar.nmn l ≤ l.length
  | [] => Nat.le_refl _
  | c :: l => by
    rw [Ar.nmn]
    split
    · have := (List.takeWhile_sublist (l := l) (fun d => Ar.stl d || Ar.dgl d)).length_le
      rw [List.length_cons]
      omega
    · exact Nat.zero_le _
theorem text_take {t : ByteArray} {l : List UInt8} {n : Nat} (h : t.data.toList = l) : t.extract 0 n = ⟨(l.take n).toArray⟩ := by
  apply ByteArray.ext
  apply Array.ext'
  have := Lib.extract_data t 0 n
  rw [this, h]
  simp
set_option maxRecDepth 100000 in
set_option maxHeartbeats 2000000 in
theorem primary_any (A : Option Addr) (P : List Pr) (c B g : Nat) (s : ByteArray) (d : Nat) (E : Ar.Ex) (hd : d ≤ 40) (h40 : d = 40 → E = fun _ _ => .error 3) (hb : d < 40 → BCon A P c B g s (d + 1) 0 E) (hB : B ≤ g) (hs : s.size ≤ 100000)
    (hl : P.length ≤ maxLen) (hv : ∀ x ∈ P, x.2.size ≤ maxLen) : PCon A P c B g s d E := by
  intro i z w h hP hi hsk
  have H := hide h
  have HP := hide hP
  have HN := hide (nested_any A P c B g s d E hd h40 hb hB hs)
  have HVA := hide (fun i z n w h hP hn => value_any g s i A P c d z n B w h hP hB hl hv hn)
  have HSK := hide hsk
  clear h hP hb h40 hsk hl hv
  go_enter Tryd.func43, Tryd.ntmps43
  go_wp2_with fail
  refine (blank_any g s i _ d z w H.out hi hs).mono ?_
  rintro e w1 ⟨rfl, k, hr, hik, hk, hsk1, hg⟩
  have hc0 := hr.c0
  have hc1 := hr.c1
  have HR := hide hr
  have HK := hide (hsk1.trans HSK.out)
  have HG := hide hg
  have HP1 := hide (HP.out.kept hg hB)
  clear hr hsk1 hg H HP HSK
  have hk0 : (0 : Int) ≤ (k : Int) := by omega
  have hks : (k : Int) ≤ (s.size : Int) := by omega
  go_wp2
  go_quiet (fail)
  obtain ⟨t, hte⟩ : ∃ t, s.extract k s.size = t := ⟨_, rfl⟩
  rw [hte]
  obtain ⟨htd, hts⟩ := text_rest hte
  have HTD := hide (htd.trans HK.out)
  have HTK := hide htd
  have htl : t.size ≤ 100000 := by omega
  have HR2 := fun n => hide (HR.out.drewN n)
  clear hte htd
  by_cases h0 : t.size = 0
  · have hnil := toList_nil h0
    have HFIN := hide (show Ar.prim (KP P) E (dr s i) z = .error 2 by
      rw [← HTD.out, ← ByteArray.toList_eq, hnil]; rfl)
    go_wp2_with fail
    refine (fail_any 2 _).mono ?_
    rintro e w' ⟨rfl, rfl⟩
    refine ⟨rfl, ?_⟩
    rw [HFIN.out]
    exact ⟨rfl, gb_drewN HG.out _⟩
  · have hnil := toList_ne h0
    have hle : t.toList.isEmpty = false := by
      cases h : t.toList.isEmpty with
      | false => rfl
      | true => exact absurd (List.isEmpty_iff.1 h) hnil
    have hpos : 0 < t.size := by omega
    have hkl : k < s.size := by omega
    have hhd : (dr s i).headD 0 = t[0] := by
      have : t.data.toList = t[0] :: dr t 1 := dr_cons hpos
      rw [← HTD.out, this]; rfl
    have HHD := hide hhd
    clear hhd hnil h0
    by_cases h4 : t[0] = 40
    · have hb4 : (((t[0].toNat : Nat) : Int) == 40) = true := by rw [h4]; rfl
      have HFIN := hide (show Ar.prim (KP P) E (dr s i) z = Ar.bd (E (dr s k).tail z) Ar.clo by rw [Ar.prim, if_pos (HHD.out.trans h4), HK.out])
      clear h4
      go_wp2_with fail
      refine (HN.out k z _ (HR.out.drewN _) ⟨HP1.out.pr, HP1.out.lo⟩ hkl).mono ?_
      rintro e w2 hend
      obtain ⟨r, hr⟩ : ∃ r, Ar.bd (E (dr s k).tail z) Ar.clo = r := ⟨_, rfl⟩
      rw [hr] at hend
      have HRR := hide (HFIN.out.trans hr)
      clear hr
      cases r with
      | error c2 =>
        obtain ⟨rfl, hg2⟩ := hend
        refine ⟨rfl, ?_⟩
        rw [HRR.out]
        exact ⟨rfl, gb_trans HG.out (gb_trans (gb_drewN (Gr.refl _ _) _) hg2)⟩
      | ok x =>
        obtain ⟨v, u, z'⟩ := x
        obtain ⟨j, rfl, hr2, hj, hu, hg2⟩ := hend
        have HR3 := hide hr2
        have HU := hide hu
        have HG3 := hide hg2
        clear hr2 hu hg2
        go_wp2
        go_ret
        rw [HRR.out]
        exact ⟨j, rfl, HR3.out, hj, HU.out, gb_trans HG.out (gb_trans (gb_drewN (Gr.refl _ _) _) HG3.out)⟩
    · have hb4 : (((t[0].toNat : Nat) : Int) == 40) = false := by
        simp only [beq_eq_false_iff_ne]
        intro e
        exact h4 (UInt8.toNat_inj.1 (by exact_mod_cast e))
      have HF0 := hide (show ¬ (dr s i).headD 0 = 40 by rw [HHD.out]; exact h4)
      clear h4
      obtain ⟨n, hn⟩ : ∃ n, nmRun (bt t) t.size = n := ⟨_, rfl⟩
      have HN1 := hide hn
      have HNN := hide (show Ar.nmn (dr s i) = n by rw [← hn, nmRun_eq, HTD.out])
      have hnl : n ≤ t.size := by rw [← hn]; exact nmF_le _ _ _ _ (Nat.zero_le _)
      clear hn
      by_cases hn0 : 0 < n
      · have HFIN := hide (show Ar.prim (KP P) E (dr s i) z = match nvF P (t.extract 0 n) with
            | .error e => .error e
            | .ok v => .ok (v, dr s (k + n), z) by
          rw [Ar.prim, if_neg HF0.out, if_pos (by rw [HNN.out]; exact hn0), HNN.out, ← HK.out, dr_drop, text_take HTK.out]; rfl)
        have hns : (t.extract 0 n).size ≤ maxLen := by
          rw [text_take HTK.out, size_toArray]
          have h1 : ((dr s k).take n).length ≤ n := List.length_take_le _ _
          unfold maxLen
          omega
        have HNS := hide hns
        clear hns
        have hf1 := HR.out.fz 1
        go_wp2_with fail
        refine (nrun_any t _ htl).mono ?_
        rintro e w' ⟨rfl, rfl⟩
        rw [HN1.out]
        go_wp2_with fail
        refine (HVA.out (k + n) z (t.extract 0 n) _ ((HR.out.drewN _).seti (k + n)) (HP1.out.kept (gb_setCell (gb_drewN (Gr.refl w1 g) _) 1 _) hB) HNS.out).mono ?_
        rintro e w2 hend
        generalize nvF P (t.extract 0 n) = r at HFIN hend
        cases r with
        | error c2 =>
          obtain ⟨rfl, hg2⟩ := hend
          refine ⟨rfl, ?_⟩
          rw [HFIN.out]
          exact ⟨rfl, gb_trans (gb_setCell (gb_drewN HG.out _) 1 _) hg2⟩
        | ok v =>
          obtain ⟨rfl, hr2, hg2⟩ := hend
          have HR3 := hide hr2
          have HG3 := hide (gb_trans (gb_setCell (gb_drewN HG.out _) 1 _) hg2)
          clear hr2 hg2
          go_wp2
          go_ret
          rw [HFIN.out]
          exact ⟨k + n, rfl, HR3.out, by omega, rfl, HG3.out⟩
      · obtain rfl : n = 0 := by omega
        have HFIN := hide (show Ar.prim (KP P) E (dr s i) z = if 0 < Ar.dgn (dr s k) then .ok (nI ((dr s k).take (Ar.dgn (dr s k))), dr s (k + Ar.dgn (dr s k)), z) else .error 2 by
          rw [Ar.prim, if_neg HF0.out, if_neg (by rw [HNN.out]; exact hn0), ← HK.out, dr_drop]; rfl)
        have hf1 := HR.out.fz 1
        go_wp2_with fail
        refine (nrun_any t _ htl).mono ?_
        rintro e w' ⟨rfl, rfl⟩
        rw [HN1.out]
        go_wp2_with fail
        go_loop [5] (fun v5 => ∃ q : Nat, v5 = .int .i64 q ∧ q ≤ t.size ∧ Hid (Ar.dgn (dr s k) = q + Ar.dgn (dr t q))) (fun v5 => t.size - (intOf v5).toNat)
        case atStart => exact ⟨0, rfl, Nat.zero_le _, by rw [Nat.zero_add, ← HTK.out]; exact rfl⟩
        case round =>
          obtain ⟨q, rfl, hq, HQ⟩ := hrel
          have hrest : (¬ q < t.size ∨ ∃ h : q < t.size, dgB (t[q]'h).toNat = false) → Ar.dgn (dr s k) = q := by
            intro h
            rw [HQ.out]
            rcases h with h | ⟨h, h2⟩
            · rw [dr_nil (by omega)]; rfl
            · rw [dr_cons h, dgn_cons, if_neg]
              · rfl
              · rw [← dgB_eq, h2]; simp
          have HREST := hide hrest
          clear hrest
          by_cases hlt : q < t.size
          · have hd : decide (q < t.size) = true := by simpa using hlt
            have HQQ := hide (dr_cons hlt)
            cases hdg : dgB (t[q]'hlt).toNat with
            | true =>
              have HD := hide hdg
              clear hdg
              go_wp2_with fail
              refine (digit_any (t[q]'hlt).toNat _ (UInt8.toNat_lt _)).mono ?_
              rintro e w' ⟨rfl, rfl⟩
              rw [HD.out]
              go_wp2
              go_round
              case rel => exact ⟨q + 1, by go_num, by omega, by rw [HQ.out, HQQ.out, dgn_cons, if_pos (by rw [← dgB_eq]; exact HD.out)]; show _ = _; omega⟩
              case measure => simp [intOf]; omega
            | false =>
              have HD := hide hdg
              clear hdg
              have HDG := hide (HREST.out (.inr ⟨hlt, HD.out⟩))
              have HD2 := hide (show dig2 (t.extract 0 q).data.toList = (nI ((dr s k).take q), !((dr s k).take q).isEmpty) by
                rw [text_take HTK.out, ← HDG.out]
                exact dig2_take _)
              have hxs : (t.extract 0 q).size ≤ 9223372036854775807 := by
                rw [text_take HTK.out, size_toArray]
                have h1 : ((dr s k).take q).length ≤ q := List.length_take_le _ _
                omega
              by_cases hq0 : q = 0
              · subst hq0
                have HX := hide hxs
                have HFF := hide (show Ar.prim (KP P) E (dr s i) z = .error 2 by rw [HFIN.out, HDG.out]; rfl)
                clear hxs
                go_wp2_with fail
                refine (digit_any (t[0]'hlt).toNat _ (UInt8.toNat_lt _)).mono ?_
                rintro e w' ⟨rfl, rfl⟩
                rw [HD.out]
                go_wp2_with fail
                refine (digits7_any ByteArray.empty _ (by decide)).mono ?_
                rintro e w2 ⟨rfl, rfl⟩
                rw [show dig2 ByteArray.empty.data.toList = (nI [], false) from rfl]
                go_wp2_with fail
                refine (fail_any 2 _).mono ?_
                rintro e w' ⟨rfl, rfl⟩
                refine ⟨rfl, ?_⟩
                rw [HFF.out]
                exact ⟨rfl, gb_drewN HG.out _⟩
              · have HFF := hide (show Ar.prim (KP P) E (dr s i) z = .ok (nI ((dr s k).take q), dr s (k + q), z) by rw [HFIN.out, HDG.out, if_pos (by omega)])
                have HNE := hide (show ((dr s k).take q).isEmpty = false by
                  rw [List.isEmpty_eq_false_iff]
                  intro e
                  have h1 := congrArg List.length e
                  rw [List.length_take, dr_len] at h1
                  simp at h1
                  omega)
                have HX := hide hxs
                clear hxs hq0
                go_wp2_with fail
                refine (digit_any (t[q]'hlt).toNat _ (UInt8.toNat_lt _)).mono ?_
                rintro e w' ⟨rfl, rfl⟩
                rw [HD.out]
                go_wp2_with fail
                refine (digits7_any (t.extract 0 q) _ HX.out).mono ?_
                rintro e w2 ⟨rfl, rfl⟩
                rw [HD2.out, HNE.out]
                go_wp2
                go_ret
                rw [HFF.out]
                exact ⟨k + q, rfl, (HR.out.drewN _).seti (k + q), by omega, rfl, gb_setCell (gb_drewN HG.out _) 1 _⟩
          · have hd : decide (q < t.size) = false := by simpa using hlt
            have HDG := hide (HREST.out (.inl hlt))
            have HD2 := hide (show dig2 (t.extract 0 q).data.toList = (nI ((dr s k).take q), !((dr s k).take q).isEmpty) by
              rw [text_take HTK.out, ← HDG.out]
              exact dig2_take _)
            have hxs : (t.extract 0 q).size ≤ 9223372036854775807 := by
              rw [text_take HTK.out, size_toArray]
              have h1 : ((dr s k).take q).length ≤ q := List.length_take_le _ _
              omega
            by_cases hq0 : q = 0
            · subst hq0
              exact absurd hpos hlt
            · have HFF := hide (show Ar.prim (KP P) E (dr s i) z = .ok (nI ((dr s k).take q), dr s (k + q), z) by rw [HFIN.out, HDG.out, if_pos (by omega)])
              have HNE := hide (show ((dr s k).take q).isEmpty = false by
                rw [List.isEmpty_eq_false_iff]
                intro e
                have h1 := congrArg List.length e
                rw [List.length_take, dr_len] at h1
                simp at h1
                omega)
              have HX := hide hxs
              clear hxs hq0
              go_wp2_with fail
              refine (digits7_any (t.extract 0 q) _ HX.out).mono ?_
              rintro e w2 ⟨rfl, rfl⟩
              rw [HD2.out, HNE.out]
              go_wp2
              go_ret
              rw [HFF.out]
              exact ⟨k + q, rfl, (HR.out.drewN _).seti (k + q), by omega, rfl, gb_setCell (gb_drewN HG.out _) 1 _⟩
end Go.Proofs.YtpjbklajjikgjaaDoor
