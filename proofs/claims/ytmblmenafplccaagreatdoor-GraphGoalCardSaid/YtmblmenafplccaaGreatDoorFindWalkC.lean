/- Walks of stem.Match, stem.Fill, find.IsSpecial and find.kind. -/
import Derived.Test.YtmblmenafplccaaGreatDoorFindMath
import Derived.Test.YtmblmenafplccaaGreatDoorVfsWalkA
import Derived.Test.YtmblmenafplccaaGreatDoorFindWalkA
import Derived.Test.YtmblmenafplccaaGreatDoorShelf
namespace Go.Proofs.YtmblmenafplccaaGreatDoor
open Go.RowKit Go.Deep Go.Maps Ln Pth Vf
attribute [local go_sem] bt_eq

theorem cut_any (p : T) (w : World) (hm : MX w) (hp : p.length ≤ 1000000) : Calls Tryz.prog 198 #[.string (bs p), .string ⟨#[37]⟩] w fun e w' => e = .returned (.tuple #[.string (bs (frontT p)), .string (bs (backT p)), .bool (cutsT p)]) ∧ Below w.heap.size w w' := by
  obtain ⟨m, hm⟩ := hm
  refine (Tryz.strings_Cut (bs p) ⟨#[37]⟩ m w (by rw [bs_size]; omega) hm).mono ?_
  rintro e w' ⟨h, n, rfl⟩
  refine ⟨?_, below_drewN (Below.refl _ _) n⟩
  rw [h, bs_list]
  rfl
theorem hpre_any (s p : T) (w : World) : Calls Tryz.prog 49 #[.string (bs s), .string (bs p)] w fun e w' => e = .returned (.bool (Lib.hasPrefix s p)) ∧ w = w' := by
  refine (Tryz.strings_HasPrefix (bs s) (bs p) w).mono ?_
  rintro e w' ⟨h1, h2⟩
  rw [bs_list, bs_list] at h1
  exact ⟨h1, h2.symm⟩
theorem hsuf_any (s p : T) (w : World) (hs : s.length ≤ 1000000) : Calls Tryz.prog 187 #[.string (bs s), .string (bs p)] w fun e w' => e = .returned (.bool (Lib.hasSuffix s p)) ∧ w = w' := by
  refine (Tryz.strings_HasSuffix (bs s) (bs p) w (by rw [bs_size]; omega)).mono ?_
  rintro e w' ⟨h1, h2⟩
  rw [bs_list, bs_list] at h1
  exact ⟨h1, h2.symm⟩
theorem bs_eqv (a b : T) : ((bs a).toList == (bs b).toList) = decide (a = b) := by
  rw [bs_toList, bs_toList]
  by_cases h : a = b
  · subst h; simp
  · simp [h]
set_option maxRecDepth 100000 in
set_option maxHeartbeats 1000000 in
theorem match_any (p s : T) (w : World) (hm : MX w) (hp : p.length ≤ 1000000) (hs : s.length ≤ 1000000) :
    Calls Tryz.prog 182 #[.string (bs p), .string (bs s)] w fun e w' => e = .returned (.tuple #[.string (bs (matchT p s).1), .bool (matchT p s).2]) ∧ Below w.heap.size w w' := by
  have HC := hide (cut_any p w hm hp)
  have h1 := front_len p
  have h2 := back_len p
  have hR : matchT p s = if cutsT p = false then ([], decide (s = p)) else if s.length ≤ (frontT p).length + (backT p).length then ([], false) else if Lib.hasPrefix s (frontT p) = false then ([], false) else if Lib.hasSuffix s (backT p) = false then ([], false) else ((s.drop (frontT p).length).take (s.length - (backT p).length - (frontT p).length), true) := rfl
  generalize frontT p = fr at *
  generalize backT p = bk at *
  generalize cutsT p = cb at *
  have HPR := hide (fun W => hpre_any s fr W)
  have HSU := hide (fun W => hsuf_any s bk W hs)
  have zs : (bs s).size = s.length := bs_size s
  have zf : (bs fr).size = fr.length := bs_size fr
  have zb : (bs bk).size = bk.length := bs_size bk
  have HEQ := hide (bs_eqv s p)
  have HR := hide hR
  clear hR hm
  have HEX := hide (fun i j => ext_bs s i j)
  obtain ⟨sl, hsl⟩ : ∃ k, s.length = k := ⟨_, rfl⟩
  obtain ⟨fl, hfl⟩ : ∃ k, fr.length = k := ⟨_, rfl⟩
  obtain ⟨bl, hbl⟩ : ∃ k, bk.length = k := ⟨_, rfl⟩
  rw [hsl] at zs hs HR
  rw [hfl] at zf h1 HR
  rw [hbl] at zb h2 HR
  clear hsl hfl hbl
  cases cb with
  | false =>
    have HE := hide (HR.out.trans (if_pos rfl))
    obtain ⟨q, hq⟩ : ∃ q, decide (s = p) = q := ⟨_, rfl⟩
    rw [hq] at HEQ HE
    clear hq
    have heq := HEQ.out
    go_enter Tryz.func182, Tryz.ntmps182
    go_wp2_with fail
    refine HC.out.mono ?_
    rintro e w1 ⟨rfl, hb⟩
    have HB := hide hb
    clear hb
    go_wp2
    go_ret2
    rw [HE.out]
    exact ⟨rfl, HB.out⟩
  | true =>
    have hr1 := HR.out.trans (if_neg (by simp))
    by_cases c1 : sl ≤ fl + bl
    · have HE := hide (hr1.trans (if_pos c1))
      have d1 : decide ((sl : Int) ≤ (fl : Int) + (bl : Int)) = true := by simp; omega
      clear hr1
      go_enter Tryz.func182, Tryz.ntmps182
      go_wp2_with fail
      refine HC.out.mono ?_
      rintro e w1 ⟨rfl, hb⟩
      have HB := hide hb
      clear hb
      go_wp2
      go_ret2
      rw [HE.out]
      exact ⟨rfl, HB.out⟩
    have d1 : decide ((sl : Int) ≤ (fl : Int) + (bl : Int)) = false := by simp; omega
    have hr2 := hr1.trans (if_neg c1)
    obtain ⟨b2, hb2⟩ : ∃ b, Lib.hasPrefix s fr = b := ⟨_, rfl⟩
    obtain ⟨b3, hb3⟩ : ∃ b, Lib.hasSuffix s bk = b := ⟨_, rfl⟩
    rw [hb2] at HPR hr2
    rw [hb3] at HSU hr2
    clear hr1 hb2 hb3
    cases b2 with
    | false =>
      have HE := hide (hr2.trans (if_pos rfl))
      clear hr2
      go_enter Tryz.func182, Tryz.ntmps182
      go_wp2_with fail
      refine HC.out.mono ?_
      rintro e w1 ⟨rfl, hb⟩
      have HB := hide hb
      clear hb
      go_wp2_with fail
      refine (HPR.out w1).mono ?_
      rintro e w' ⟨rfl, rfl⟩
      go_wp2
      go_ret2
      rw [HE.out]
      exact ⟨rfl, HB.out⟩
    | true =>
      have hr3 := hr2.trans (if_neg (by simp))
      clear hr2
      cases b3 with
      | false =>
        have HE := hide (hr3.trans (if_pos rfl))
        clear hr3
        go_enter Tryz.func182, Tryz.ntmps182
        go_wp2_with fail
        refine HC.out.mono ?_
        rintro e w1 ⟨rfl, hb⟩
        have HB := hide hb
        clear hb
        go_wp2_with fail
        refine (HPR.out w1).mono ?_
        rintro e w' ⟨rfl, rfl⟩
        go_wp2_with fail
        refine (HSU.out w1).mono ?_
        rintro e w' ⟨rfl, rfl⟩
        go_wp2
        go_ret2
        rw [HE.out]
        exact ⟨rfl, HB.out⟩
      | true =>
        have HE := hide (hr3.trans (if_neg (by simp)))
        have HX := hide (HEX.out fl (sl - bl))
        have b4 : fl ≤ sl - bl := by omega
        have b5 : ((sl - bl : Nat) : Int) = (sl : Int) - (bl : Int) := by omega
        clear hr3
        go_enter Tryz.func182, Tryz.ntmps182
        go_wp2_with fail
        refine HC.out.mono ?_
        rintro e w1 ⟨rfl, hb⟩
        have HB := hide hb
        clear hb
        go_wp2_with fail
        refine (HPR.out w1).mono ?_
        rintro e w' ⟨rfl, rfl⟩
        go_wp2_with fail
        refine (HSU.out w1).mono ?_
        rintro e w' ⟨rfl, rfl⟩
        go_wp2
        go_ret2
        rw [HE.out]
        refine ⟨?_, HB.out⟩
        show Ending.returned (.tuple #[.string ((bs s).extract fl (sl - bl)), .bool true]) = _
        rw [HX.out]
set_option maxRecDepth 100000 in
set_option maxHeartbeats 1000000 in
theorem fill_any (p st : T) (w : World) (hm : MX w) (hp : p.length ≤ 1000000) (hs : st.length ≤ 1000000) :
    Calls Tryz.prog 183 #[.string (bs p), .string (bs st)] w fun e w' => e = .returned (.string (bs (fillT p st))) ∧ Below w.heap.size w w' := by
  have HC := hide (cut_any p w hm hp)
  have h1 := front_len p
  have h2 := back_len p
  have hR : fillT p st = if cutsT p = false then p else frontT p ++ st ++ backT p := rfl
  generalize frontT p = fr at *
  generalize backT p = bk at *
  generalize cutsT p = cb at *
  have HAP := hide (show bs fr ++ bs st ++ bs bk = bs (fr ++ st ++ bk) by rw [bs_app, bs_app])
  have zf : (bs fr).size = fr.length := bs_size fr
  have zb : (bs bk).size = bk.length := bs_size bk
  have zs : (bs st).size = st.length := bs_size st
  have HR := hide hR
  clear hR hm
  cases cb with
  | false =>
    have HE := hide (HR.out.trans (if_pos rfl))
    go_enter Tryz.func183, Tryz.ntmps183
    go_wp2_with fail
    refine HC.out.mono ?_
    rintro e w1 ⟨rfl, hb⟩
    have HB := hide hb
    clear hb
    go_wp2
    go_ret
    rw [HE.out]
    exact ⟨rfl, HB.out⟩
  | true =>
    have HE := hide (HR.out.trans (if_neg (by simp)))
    go_enter Tryz.func183, Tryz.ntmps183
    go_wp2_with fail
    refine HC.out.mono ?_
    rintro e w1 ⟨rfl, hb⟩
    have HB := hide hb
    clear hb
    go_wp2
    go_ret
    rw [HE.out, ← HAP.out]
    exact ⟨rfl, HB.out⟩
theorem trim_az (s : T) (w : World) (hs : s.length ≤ 1000000) : Calls Tryz.prog 159 #[.string (bs s), .string (bs azT)] w fun e w' => e = .returned (.string (bs (Lib.trimS s azT))) ∧ Below w.heap.size w w' := by
  refine (Tryz.strings_Trim_laid (bs s) (bs azT) w (by rw [bs_size]; omega) (by rw [bs_size]; decide) (by rw [bs_list]; exact ascii_of_all (by decide))).mono ?_
  rintro e w' ⟨h1, h2⟩
  rw [bs_list, bs_list] at h1
  exact ⟨h1, h2⟩
set_option maxRecDepth 100000 in
set_option maxHeartbeats 1000000 in
theorem isSpecial_any (s : T) (w : World) (hs : s.length ≤ 1000000) : Calls Tryz.prog 133 #[.string (bs s)] w fun e w' => e = .returned (.bool (specT s)) ∧ Below w.heap.size w w' := by
  have HT := hide (fun W => trim_az (s.drop 1) W (by rw [List.length_drop]; omega))
  have HEX := hide (ext_bs s 1 s.length)
  have hR : specT s = (decide (1 < s.length) && (decide (s.getD 0 0 = 46) && decide (Lib.trimS (s.drop 1) azT = []))) := rfl
  have zs : (bs s).size = s.length := bs_size s
  have HAZ := hide (show bs azT = ⟨#[65, 66, 67, 68, 69, 70, 71, 72, 73, 74, 75, 76, 77, 78, 79, 80, 81, 82, 83, 84, 85, 86, 87, 88, 89, 90, 95]⟩ by rfl)
  rw [HAZ.out] at HT
  obtain ⟨tr, htr⟩ : ∃ t, Lib.trimS (s.drop 1) azT = t := ⟨_, rfl⟩
  rw [htr] at HT hR
  clear htr
  have HR := hide hR
  clear hR
  by_cases c1 : 1 < s.length
  case neg =>
    have HE := hide (show specT s = false by rw [HR.out, decide_eq_false c1]; rfl)
    have d1 : decide ((1 : Int) < (s.length : Int)) = false := by simp; omega
    go_enter Tryz.func133, Tryz.ntmps133
    go_wp2
    go_ret
    rw [HE.out]
    exact ⟨rfl, Below.refl _ _⟩
  have d1 : decide ((1 : Int) < (s.length : Int)) = true := by simp; omega
  obtain ⟨x, hx⟩ : ∃ x, s.getD 0 0 = x := ⟨_, rfl⟩
  have hbt : bt (bs s) 0 = x.toNat := by
    rw [← hx]
    unfold bt bs
    simp
  rw [hx] at HR
  clear hx
  by_cases c2 : x = 46
  case neg =>
    have HE := hide (show specT s = false by rw [HR.out, decide_eq_false c2, Bool.false_and, Bool.and_false])
    have d2 : ((x.toNat : Int) == 46) = false := by
      simp only [beq_eq_false_iff_ne]
      intro h
      exact c2 (UInt8.toNat_inj.1 (by have : (46 : UInt8).toNat = 46 := rfl; omega))
    clear c2
    go_enter Tryz.func133, Tryz.ntmps133
    go_wp2
    go_ret
    rw [HE.out]
    exact ⟨rfl, Below.refl _ _⟩
  subst c2
  have d2 : (((46 : UInt8).toNat : Int) == 46) = true := rfl
  have he : (bs tr).toList.isEmpty = decide (tr = []) := by
    rw [bs_toList]
    cases tr <;> simp
  obtain ⟨q, hq⟩ : ∃ q, decide (tr = []) = q := ⟨_, rfl⟩
  have HE := hide (show specT s = q by rw [HR.out, decide_eq_true c1, hq]; rfl)
  rw [hq] at he
  have hex := HEX.out
  rw [List.take_of_length_le (by rw [List.length_drop]; omega)] at hex
  have HX2 := hide hex
  rw [← hex] at HT
  clear hq hex HEX
  go_enter Tryz.func133, Tryz.ntmps133
  go_wp2_with fail
  refine (HT.out w).mono ?_
  rintro e w1 ⟨rfl, hb⟩
  have HB := hide hb
  clear hb
  go_wp2
  go_ret
  rw [HE.out]
  exact ⟨rfl, HB.out⟩
set_option maxRecDepth 100000 in
set_option maxHeartbeats 1000000 in
theorem kindp_any (g : Nat) (S : St) (cwd s : T) (w : World) (h : Hs (VS g S) w) (hm : MX w) (h1 : cwd.length ≤ 100000) (h2 : s.length ≤ 100000) :
    Calls Tryz.prog 188 #[.pointer (some ⟨g, 0, none⟩), .string (bs cwd), .string (bs s)] w fun e w' => e = .returned (.int .i64 (kindT S cwd s)) ∧ Below w.heap.size w w' := by
  have HA := hide (abs_any cwd s w hm h1 h2)
  have hl : (absF cwd s).1.length ≤ 200 := by
    rcases absF_cases cwd s with ⟨l, g, e, _⟩ | ⟨e, _⟩
    · rw [e]; exact g.len
    · rw [e]; simp
  have hR : kindT S cwd s = if (absF cwd s).2 ≠ 0 then 0 else kindS S (absF cwd s).1 := rfl
  have HK := hide (fun W (hb : Below w.heap.size w W) => vkind_any g S (absF cwd s).1 W (h.below (VS.fr g S) hb) (hm.below hb) (by omega))
  unfold AbsPost at HA
  obtain ⟨q, hq⟩ : ∃ q, (absF cwd s).1 = q := ⟨_, rfl⟩
  obtain ⟨e, he⟩ : ∃ q, (absF cwd s).2 = q := ⟨_, rfl⟩
  rw [hq] at HA HK hR
  rw [he] at HA hR
  have HR := hide hR
  clear hR hq he hl h hm
  by_cases c1 : e = 0
  case neg =>
    obtain ⟨t1, t2⟩ := ne0 c1
    have HE := hide (HR.out.trans (if_pos c1))
    clear c1
    go_enter Tryz.func188, Tryz.ntmps188
    go_wp2_with fail
    refine HA.out.mono ?_
    rintro e w1 ⟨rfl, hb⟩
    have HB := hide hb
    clear hb
    go_wp2
    go_ret
    rw [HE.out]
    exact ⟨rfl, HB.out⟩
  subst c1
  have HE := hide (HR.out.trans (if_neg (by simp)))
  go_enter Tryz.func188, Tryz.ntmps188
  go_wp2_with fail
  refine HA.out.mono ?_
  rintro e w1 ⟨rfl, hb⟩
  have HB := hide hb
  clear hb
  go_wp2_with fail
  refine (HK.out w1 HB.out).mono ?_
  rintro e w2 ⟨rfl, hb⟩
  have HB2 := hide (below_up HB.out hb HB.out.size)
  clear hb
  go_wp2
  go_ret
  rw [HE.out]
  exact ⟨rfl, HB2.out⟩
end Go.Proofs.YtmblmenafplccaaGreatDoor
