/- Walk of the law VfsLists. -/
import Derived.Test.YtmblmenafplccaaDoorVfsLawB
namespace Go.Proofs.YtmblmenafplccaaDoor
open Go.RowKit Go.Deep Go.Maps Ln Pth Vf
attribute [local go_sem] bt_eq

theorem txt_at {x : ByteArray} {l : List UInt8} (h : x ≠ ⟨l.toArray⟩) : ¬ x.toList = l := fun e => h (by
  rw [ByteArray.toList_eq] at e
  cases x with
  | mk d =>
    obtain rfl : d.toList = l := e
    rfl)

set_option maxRecDepth 100000 in
set_option maxHeartbeats 8000000 in
theorem law_vfsLists (A : Option Addr) (c : Nat) (L : List ByteArray) (B : Option Addr) (d : Nat) (D : List Bool) (hl : L.length ≤ maxLen) (hv : ∀ (k : Nat) (x : ByteArray), L[k]? = some x → x.size ≤ maxLen) (hl2 : D.length ≤ maxLen) (_hv2 : True) (w : World) (hm : MX w) (hA : SR w A L) (hB : BR w B D) :
    Calls Tryd.prog 6 #[.slice A L.length c, .slice B D.length d] w fun e w' => e = .returned (.bool true) ∧ Below w.heap.size w w' := by
  unfold maxLen at hl hl2
  have HA := hide hA
  have HB := hide hB
  have HV := hide hv
  have HM := hide hm
  clear hA hB hv hm
  obtain ⟨n, hn⟩ : ∃ n, L.length = n := ⟨_, rfl⟩
  obtain ⟨m, hdm⟩ : ∃ n, D.length = n := ⟨_, rfl⟩
  rw [hn] at hl ⊢
  rw [hdm] at hl2 ⊢
  have HN := hide hn
  have HD := hide hdm
  clear hn hdm
  have hl1 : (n : Int) ≤ 9223372036854775807 := by omega
  have hl3 : (m : Int) ≤ 9223372036854775807 := by omega
  go_enter Tryd.func6, Tryd.ntmps6
  go_wp2_with fail
  refine (alive4_any w HM.out).mono ?_
  rintro e w1 ⟨rfl, hb1⟩
  have HB1 := hide hb1
  clear hb1
  by_cases c1 : 20 < n
  · have d1 : (20 : Int) < (n : Int) := by omega
    go_wp2
    go_ret
    exact ⟨rfl, HB1.out⟩
  have d1 : (n : Int) ≤ 20 := by omega
  by_cases c2 : m < n
  · have d2 : (m : Int) < (n : Int) := by omega
    go_wp2
    go_ret
    exact ⟨rfl, HB1.out⟩
  have d2 : (n : Int) ≤ (m : Int) := by omega
  have HNW := hide (vnew_any 50 50 w1 (by omega) (by omega) (by omega) (by omega))
  go_wp2_with fail
  refine HNW.out.mono ?_
  rintro e w2 ⟨rfl, hb2, hv2, hs2⟩
  have HTA := hide (TA.new HB1.out 50 50 hb2 hv2 hs2)
  have hb0 : w.heap.size ≤ w1.heap.size := HB1.out.size
  clear hb2 hv2 hs2
  obtain ⟨b, hb⟩ : ∃ b, w1.heap.size = b := ⟨_, rfl⟩
  rw [hb] at HTA hb0 ⊢
  clear hb HNW
  go_wp2_with fail
  refine (TA.mkdir HTA.out hb0 HM.out (newS_wf 50 50) (by decide) [47, 100] (by decide)).mono ?_
  rintro e w3 ⟨rfl, ht3, _⟩
  have HT3 := hide (show TA b w liA w3 from ht3)
  rw [liA_e]
  clear ht3 HTA
  go_wp2_with fail
  refine (TA.write HT3.out hb0 HM.out liA_wf (by rw [liA_by]; omega) (by rw [liA_ck]; omega) [47, 120] (by decide) [] (by decide) false none 0 (RG.nil _ _)).mono ?_
  rintro e w4 ⟨rfl, ht4, _⟩
  have HT4 := hide (show TA b w liB w4 from ht4)
  rw [liB_e]
  clear ht4 HT3
  go_wp2
  go_loopw [7, 8] (fun v7 v8 wr => ∃ (i : Nat) (A' : Option Addr) (c' : Nat) (want : List T) (S : St), v8 = .int .i64 i ∧ i ≤ n ∧ v7 = .slice A' want.length c' ∧ SR wr A' (want.map bs) ∧ want.length ≤ c' ∧ want.length ≤ i ∧ Hid (LI S want i) ∧ TA b w S wr) (fun _ v8 _ => n - (intOf v8).toNat)
  case atStart => exact ⟨0, none, 0, [], liB, rfl, by omega, rfl, SR.nil _ _, Nat.le_refl _, Nat.le_refl _, liB_li, HT4.out⟩
  case round =>
    obtain ⟨i, A', c', want, S, rfl, hi, rfl, hsr, hc', hwl, HLI, hta⟩ := hrel
    have HSR := hide hsr
    have HTA := hide hta
    have HBW := hide hta.below
    clear hsr hta HT4
    by_cases hlt : i < n
    · obtain ⟨x, hx⟩ : ∃ x, L[i]? = some x := ⟨L[i]'(by have := HN.out; omega), List.getElem?_eq_getElem _⟩
      obtain ⟨y, hy⟩ : ∃ y, D[i]? = some y := ⟨D[i]'(by have := HD.out; omega), List.getElem?_eq_getElem _⟩
      have hxs := HV.out i x hx
      obtain ⟨g, o, rfl, hg, hc⟩ := (HA.out.below HBW.out) i x hx
      obtain ⟨g2, o2, rfl, hg2, hd2⟩ := (HB.out.below HBW.out) i y hy
      have b1 : (i : Int) < (n : Int) := by omega
      have b2 : (i : Int) < (m : Int) := by omega
      clear hx hy
      unfold maxLen at hxs
      by_cases e1 : x = ⟨#[]⟩
      · subst e1
        go_wp2
        go_ret
        exact ⟨rfl, HBW.out⟩
      by_cases e2 : x = ⟨#[46]⟩
      · subst e2
        go_wp2
        go_ret
        exact ⟨rfl, HBW.out⟩
      by_cases e3 : x = ⟨#[46, 46]⟩
      · subst e3
        go_wp2
        go_ret
        exact ⟨rfl, HBW.out⟩
      have f1 : ¬ x.toList = [] := txt_at (l := []) e1
      have f2 : ¬ x.toList = [46] := txt_at (l := [46]) e2
      have f3 : ¬ x.toList = [46, 46] := txt_at (l := [46, 46]) e3
      by_cases e4 : 60 < x.size
      · have f4 : (60 : Int) < (x.size : Int) := by omega
        clear e1 e2 e3
        go_wp2
        go_ret
        exact ⟨rfl, HBW.out⟩
      have f4 : (x.size : Int) ≤ 60 := by omega
      obtain ⟨l, rfl⟩ : ∃ l : T, x = bs l := ⟨x.data.toList, by simp [bs]⟩
      rw [bs_size] at e4
      have HA1 := hide (rat0_any l 47 · (by omega))
      have HA2 := hide (rat0_any l 0 · (by omega))
      have m1 := ixb_mem 47 l
      have m2 := ixb_mem 0 l
      obtain ⟨p1, hp1⟩ : ∃ p, Lib.indexByte l 47 = p := ⟨_, rfl⟩
      obtain ⟨p2, hp2⟩ : ∃ p, Lib.indexByte l 0 = p := ⟨_, rfl⟩
      rw [hp1] at HA1 m1
      rw [hp2] at HA2 m2
      clear hp1 hp2
      have HE := hide (And.intro e1 (And.intro e2 e3))
      have HM1 := hide m1
      have HM2 := hide m2
      clear e1 e2 e3 m1 m2
      go_wp2_with fail
      refine (HA1.out wr).mono ?_
      rintro e w' ⟨rfl, rfl⟩
      by_cases q1 : 0 ≤ p1
      · go_wp2
        go_ret
        exact ⟨rfl, HBW.out⟩
      have HQ1 := hide (show ¬ 0 ≤ p1 from q1)
      have q1' : p1 < 0 := by omega
      go_wp2_with fail
      refine (HA2.out wr).mono ?_
      rintro e w' ⟨rfl, rfl⟩
      by_cases q2 : 0 ≤ p2
      · go_wp2
        go_ret
        exact ⟨rfl, HBW.out⟩
      have HG := hide (show GoodN l from ⟨⟨fun h => HE.out.1 (by rw [h]; rfl), fun h => HE.out.2.1 (by rw [h]; rfl), fun h => HE.out.2.2 (by rw [h]; rfl), fun h => by
        have h1 := HM1.out.2 h
        have h2 := HQ1.out
        omega⟩, by omega, fun h => by
        have h1 := HM2.out.2 h
        omega⟩)
      have hck : S.clock ≤ 1000000000 := by have := HLI.out.clock; omega
      have hby : S.bytes ≤ 400000 := by have := HLI.out.bytes; omega
      have hi40 : i < 40 := by omega
      have q2' : p2 < 0 := by omega
      cases y with
      | true =>
        have HC := hide (show (⟨#[47, 100, 47]⟩ : ByteArray) ++ bs l = bs (inD l) from bs_app [47, 100, 47] l)
        have HMK := hide (TA.mkdir HTA.out hb0 HM.out HLI.out.wf hck (inD l) (by simp [inD]; omega))
        have HLN := hide (HLI.out.mkdir hi40 HG.out)
        rw [← HC.out] at HMK
        go_wp2_with fail
        · rename_i hX
          exfalso
          simp [List.isEmpty_iff, f1, f2, f3] at hX
          omega
        refine HMK.out.mono ?_
        rintro e w5 ⟨rfl, ht5, hk5⟩
        have HT5 := hide ht5
        have HS5 := hide (SR.ta HTA.out HSR.out hk5)
        clear ht5 hk5
        go_wp2_with fail
        have HPU := putstr_any A' c' (want.map bs) (bs l) w5 HS5.out (by rw [List.length_map]; omega) (by rw [List.length_map]; exact hc')
        rw [putS_bs] at HPU
        simp only [List.length_map] at HPU
        refine HPU.mono ?_
        rintro e w6 ⟨⟨A3, c3, rfl, hs3, hc3⟩, hb6⟩
        have HS6 := hide hs3
        have HT6 := hide (HT5.out.stay hb6)
        have hlw := putT_len l want
        clear hs3 hb6
        go_wp2
        go_roundw
        case rel => exact ⟨i + 1, A3, c3, putT l want, _, by go_num, by omega, rfl, HS6.out, hc3, by omega, HLN, HT6.out⟩
        case measure => simp [intOf]; omega
      | false =>
        have HC := hide (show (⟨#[100, 47]⟩ : ByteArray) ++ bs l = bs (100 :: 47 :: l) from bs_app [100, 47] l)
        have HMK := hide (TA.touch HTA.out hb0 HM.out HLI.out.wf hby hck (100 :: 47 :: l) (by simp; omega))
        have HLN := hide (HLI.out.touch hi40 HG.out (100 :: 47 :: l) (abs_rel HG.out))
        rw [← HC.out] at HMK
        go_wp2_with fail
        · rename_i hX
          exfalso
          simp [List.isEmpty_iff, f1, f2, f3] at hX
          omega
        refine HMK.out.mono ?_
        rintro e w5 ⟨rfl, ht5, hk5⟩
        have HT5 := hide ht5
        have HS5 := hide (SR.ta HTA.out HSR.out hk5)
        clear ht5 hk5
        go_wp2_with fail
        have HPU := putstr_any A' c' (want.map bs) (bs l) w5 HS5.out (by rw [List.length_map]; omega) (by rw [List.length_map]; exact hc')
        rw [putS_bs] at HPU
        simp only [List.length_map] at HPU
        refine HPU.mono ?_
        rintro e w6 ⟨⟨A3, c3, rfl, hs3, hc3⟩, hb6⟩
        have HS6 := hide hs3
        have HT6 := hide (HT5.out.stay hb6)
        have hlw := putT_len l want
        clear hs3 hb6
        go_wp2
        go_roundw
        case rel => exact ⟨i + 1, A3, c3, putT l want, _, by go_num, by omega, rfl, HS6.out, hc3, by omega, HLN, HT6.out⟩
        case measure => simp [intOf]; omega
    · obtain rfl : i = n := by omega
      have b1 : ¬ (i : Int) < (i : Int) := by omega
      have hls := li_list HLI.out
      have HL := hide (list_any _ S HLI.out.wf [47, 100] wr HTA.out.hs (HM.out.below HBW.out) (by decide))
      rw [hls] at HL
      unfold ListPost at HL
      go_wp2_with fail
      refine HL.out.mono ?_
      rintro e w5 ⟨⟨v, rfl, ho⟩, hb5⟩
      have HS5 := hide (HSR.out.below hb5)
      have HB5 := hide (below_up HBW.out hb5 HBW.out.size)
      obtain ⟨A5, c5, rfl, _, hsr5, _⟩ := ho.slice
      have HS6 := hide hsr5
      clear ho hb5 hsr5
      go_wp2_with fail
      refine (num4_any _ _).mono ?_
      rintro e w' ⟨rfl, rfl⟩
      go_wp2_with fail
      have HSA := same_any A5 A' c5 c' (want.map bs) (want.map bs) w5 HS6.out HS5.out (by rw [List.length_map]; omega)
      simp only [List.length_map] at HSA
      refine HSA.mono ?_
      rintro e w6 ⟨rfl, hdr⟩
      have HDR := hide hdr
      clear hdr
      go_wp2
      go_ret
      exact ⟨by simp, below_up HB5.out HDR.out.below HB5.out.size⟩
end Go.Proofs.YtmblmenafplccaaDoor
