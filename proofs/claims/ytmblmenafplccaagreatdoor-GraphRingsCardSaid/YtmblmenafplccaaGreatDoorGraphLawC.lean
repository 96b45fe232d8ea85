/- Walk of the law GraphRings. -/
import Derived.Test.YtmblmenafplccaaGreatDoorGraphLawA
import Derived.Test.YtmblmenafplccaaGreatDoorGraphGoalA
import Derived.Test.YtmblmenafplccaaGreatDoorHeld
import Derived.IntWalk
namespace Go.Proofs.YtmblmenafplccaaGreatDoor
open Go.RowKit Go.Deep Go.Maps Ln Pth Vf Qm.Base
set_option linter.unusedSimpArgs false
set_option linter.unusedVariables false
attribute [local go_sem] bt_eq

set_option maxRecDepth 100000 in
set_option maxHeartbeats 8000000 in
theorem law_graphRings (ni bi : Int) (w : World) (hm : MX w) :
    Calls Tryz.prog 3 #[.int .i64 ni, .int .i64 bi] w fun e w' => e = .returned (.bool true) ∧ Below w.heap.size w w' := by
  have HM := hide hm
  clear hm
  go_enter Tryz.func3, Tryz.ntmps3
  go_wp2_with fail
  refine (alive22_any w HM.out).mono ?_
  rintro e w1 ⟨rfl, hb1⟩
  have HB1 := hide hb1
  clear hb1
  by_cases c1 : ni < 1
  · have d1 : decide (ni < 1) = true := by simp; omega
    go_wp2
    go_ret
    exact ⟨rfl, HB1.out⟩
  have d1 : decide (ni < 1) = false := by simp; omega
  by_cases c2 : 60 < ni
  · have d2 : decide (60 < ni) = true := by simp; omega
    go_wp2
    go_ret
    exact ⟨rfl, HB1.out⟩
  have d2 : decide (60 < ni) = false := by simp; omega
  by_cases c3 : bi < 0
  · have d3 : decide (bi < 0) = true := by simp; omega
    go_wp2
    go_ret
    exact ⟨rfl, HB1.out⟩
  have d3 : decide (bi < 0) = false := by simp; omega
  by_cases c4 : ni < bi
  · have d4 : decide (ni < bi) = true := by simp; omega
    go_wp2
    go_ret
    exact ⟨rfl, HB1.out⟩
  have d4 : decide (ni < bi) = false := by simp; omega
  obtain ⟨n, rfl⟩ : ∃ k : Nat, ni = (k : Int) := ⟨ni.toNat, by omega⟩
  obtain ⟨back, rfl⟩ : ∃ k : Nat, bi = (k : Int) := ⟨bi.toNat, by omega⟩
  have hn1 : 1 ≤ n := by omega
  have hn60 : n ≤ 60 := by omega
  have hbn : back ≤ n := by omega
  have hni : (n : Int) ≤ 60 := by omega
  have hbi : (back : Int) ≤ 60 := by omega
  have d4' : decide (n < back) = false := by simp; omega
  clear c1 c2 c3 c4
  have hgw : w.heap.size ≤ w1.heap.size := HB1.out.size
  have HMK0 := hide (MKA.new (B := w.heap.size) HB1.out hgw)
  obtain ⟨gm, hgm⟩ : ∃ g, w1.heap.size = g := ⟨_, rfl⟩
  go_wp2_with fail
  rw [hgm] at HMK0 hgw
  (try rw [hgm])
  have HGM := hide hgm
  clear hgm
  go_loopw [7] (fun v7 wr => ∃ (i : Nat) (L : List Rl), v7 = .int .i64 i ∧ i ≤ n ∧ Hid (RgL n back i L) ∧ InvN (MKA w.heap.size gm L) w.heap.size w wr) (fun v7 _ => n - (intOf v7).toNat)
  case atStart => exact ⟨0, [], rfl, by omega, .nil, HMK0.out⟩
  case round =>
    obtain ⟨i, L, rfl, hi, HRG, hinv⟩ := hrel
    generalize wr = wo at *
    have HBO := hide hinv.below
    have hlen := rg_len HRG.out
    obtain ⟨T, N, hmk, ok, ht, hb0⟩ := hinv
    have HTN := hide (And.intro hmk (And.intro ok (And.intro ht hb0)))
    by_cases hlt : i < n
    · have b1 : (i : Int) < (n : Int) := by omega
      have b1' : decide (i < n) = true := by simp; omega
      have HDG := hide (fun (k : Nat) (hk : k ≤ 60) W => digits_any k W (by omega))
      have HTC := hide (fun k => tN_cat k)
      obtain ⟨dg, hdg⟩ : ∃ x, ds (dgL i) = x := ⟨_, rfl⟩
      have hz1 : dg.size ≤ 3 := by
        have h1 := dgL_len i 1 (by omega)
        rw [← hdg, ds_size]; omega
      have HD1 := hide (HDG.out i (by omega))
      have hc1 := HTC.out i
      rw [hdg] at HD1 hc1
      have HC1 := hide hc1
      clear hdg hc1
      by_cases h2 : i + 1 < n
      · have e2 : decide ((i : Int) + 1 < (n : Int)) = true := by simp; omega
        have e2' : decide (i + 1 < n) = true := by simp; omega
        obtain ⟨dh, hdh⟩ : ∃ x, ds (dgL (i + 1)) = x := ⟨_, rfl⟩
        have hz2 : dh.size ≤ 3 := by
          have h1 := dgL_len (i + 1) 1 (by omega)
          rw [← hdh, ds_size]; omega
        have HD2 := hide (HDG.out (i + 1) (by omega))
        have hc2 := HTC.out (i + 1)
        rw [hdh] at HD2 hc2
        have HC2 := hide hc2
        clear hdh hc2
        have hba := (Below.refl wo.heap.size wo).alloc (Nat.le_refl _) (.cells #[.string (⟨#[116]⟩ ++ dg)] 9)
        have hbb := hba.alloc (by simp) (.cells #[.slice (some ⟨wo.heap.size, 0, none⟩) 1 1, .slice (some ⟨wo.heap.size + 1 + 1, 0, none⟩) 1 1, .slice none 0 0] 30)
        have hbc := hbb.alloc (by simp <;> omega) (.cells #[.string (⟨#[116]⟩ ++ dh)] 9)
        obtain ⟨Wx, hWx⟩ : ∃ W, ((wo.alloc (.cells #[.string (⟨#[116]⟩ ++ dg)] 9)).alloc (.cells #[.slice (some ⟨wo.heap.size, 0, none⟩) 1 1, .slice (some ⟨wo.heap.size + 1 + 1, 0, none⟩) 1 1, .slice none 0 0] 30)).alloc (.cells #[.string (⟨#[116]⟩ ++ dh)] 9) = W := ⟨_, rfl⟩
        have hn1 : Wx.heap[wo.heap.size]? = some (.cells #[.string (⟨#[116]⟩ ++ dg)] 9) := by
          rw [← hWx, Below.heap_alloc _ _ _ (by simp <;> omega), Below.heap_alloc _ _ _ (by simp)]
          exact heapNew _ _
        have hn3 : Wx.heap[wo.heap.size + 1 + 1]? = some (.cells #[.string (⟨#[116]⟩ ++ dh)] 9) := by
          have := heapNew ((wo.alloc (.cells #[.string (⟨#[116]⟩ ++ dg)] 9)).alloc (.cells #[.slice (some ⟨wo.heap.size, 0, none⟩) 1 1, .slice (some ⟨wo.heap.size + 1 + 1, 0, none⟩) 1 1, .slice none 0 0] 30)) (.cells #[.string (⟨#[116]⟩ ++ dh)] 9)
          rw [hWx] at this
          simpa using this
        have hzx : Wx.heap.size = wo.heap.size + 1 + 1 + 1 := by rw [← hWx]; simp
        rw [hWx] at hbc
        obtain ⟨p, hp⟩ : ∃ r : Rl, r = ⟨(some ⟨wo.heap.size, 0, none⟩, 1, [⟨#[116]⟩ ++ dg]), (some ⟨wo.heap.size + 1 + 1, 0, none⟩, 1, [⟨#[116]⟩ ++ dh]), (none, 0, [])⟩ := ⟨_, rfl⟩
        have HPT := hide (show IsRg n back i p from by rw [hp, HC1.out, HC2.out]; exact ⟨rfl, by show [tN (i + 1)] = ndN n back i; unfold ndN; rw [if_pos h2], rfl⟩)
        obtain ⟨Aa, ca, v', W', ea1, ea2, hrun, ⟨A', c', rfl⟩, ea4, T', N', hmk', hg', hk'⟩ := hmk.app ok hbc p (by
          rw [hp]
          exact ⟨sr_one hn1, sr_one hn3, SR.nil _ _, by simp, by simp, by simp⟩) (by
          rw [hp]
          refine ⟨fun a e _ => .inr ?_, fun a e _ => .inr ?_, fun a e _ => (by cases e)⟩
          all_goals
            injection e with e
            subst e
            rw [hzx]
            dsimp only
            omega) (by omega)
        have HI2 := hide (InvN.after ht hb0 (Nat.le_refl _) hmk' hg' hk')
        have hrun' : (Builtin.append_ #[24, 24] 24 #[.slice Aa L.length ca, .slice (some ⟨wo.heap.size + 1 + 1 + 1, 0, none⟩) 1 1]).run Tryz.prog ((((wo.alloc (.cells #[.string (⟨#[116]⟩ ++ dg)] 9)).alloc (.cells #[.slice (some ⟨wo.heap.size, 0, none⟩) 1 1, .slice (some ⟨wo.heap.size + 1 + 1, 0, none⟩) 1 1, .slice none 0 0] 30)).alloc (.cells #[.string (⟨#[116]⟩ ++ dh)] 9)).alloc (.cells #[.slice (some ⟨wo.heap.size, 0, none⟩) 1 1, .slice (some ⟨wo.heap.size + 1 + 1, 0, none⟩) 1 1, .slice none 0 0] 30)) = .ok (.slice A' (L.length + 1) c') W' := by
          rw [hp, hzx] at hrun
          rw [hWx]
          simpa [sv] using hrun
        have hyx : (((wo.alloc (.cells #[.string (⟨#[116]⟩ ++ dg)] 9)).alloc (.cells #[.slice (some ⟨wo.heap.size, 0, none⟩) 1 1, .slice (some ⟨wo.heap.size + 1 + 1, 0, none⟩) 1 1, .slice none 0 0] 30)).alloc (.cells #[.string (⟨#[116]⟩ ++ dh)] 9)).cell? ⟨gm, 1, none⟩ = some (.slice Aa L.length ca) := by rw [hWx]; exact cellOf ea2 (j := 1) rfl
        have hy1 : wo.cell? ⟨gm, 1, none⟩ = some (.slice Aa L.length ca) := cellOf ea1 (j := 1) rfl
        have hy4 : W'.cell? ⟨gm, 1, none⟩ = some (.slice Aa L.length ca) := cellOf ea4 (j := 1) rfl
        have hz4 := freeOf ea4 1
        rw [hlen] at hrun' hyx hy1 hy4 HI2
        clear hlen hmk ok ht hb0 hba hbb hbc hn1 hn3 hzx hWx hp ea1 ea2 hrun ea4 hmk' hg' hk'
        go_wp2_with fail
        refine (HD1.out wo).mono ?_
        rintro e w' ⟨rfl, rfl⟩
        go_wp2_with fail
        rw [show (i : Int) + 1 = ((i + 1 : Nat) : Int) by omega]
        refine (HD2.out _).mono ?_
        rintro e w' ⟨rfl, rfl⟩
        go_wp2_with (at_builtin; refine wpList_app_run ?_ (.tmp 63) (.tmp 65) ?_ ?_ ?_ ?_ hrun' ?_; exact rfl; exact rfl; exact rfl; exact rfl; exact rfl)
        go_roundw
        case rel => exact ⟨i + 1, L ++ [p], by go_num, by omega, .app HRG.out HPT.out, HI2.out⟩
        case measure => simp [intOf]; omega
      have e2 : decide ((i : Int) + 1 < (n : Int)) = false := by simp; omega
      have e2' : decide (i + 1 < n) = false := by simp; omega
      by_cases h3 : back < n
      · have e3 : decide ((back : Int) < (n : Int)) = true := by simp; omega
        have e3' : decide (back < n) = true := by simp; omega
        obtain ⟨dh, hdh⟩ : ∃ x, ds (dgL (back)) = x := ⟨_, rfl⟩
        have hz2 : dh.size ≤ 3 := by
          have h1 := dgL_len (back) 1 (by omega)
          rw [← hdh, ds_size]; omega
        have HD2 := hide (HDG.out (back) (by omega))
        have hc2 := HTC.out (back)
        rw [hdh] at HD2 hc2
        have HC2 := hide hc2
        clear hdh hc2
        have hba := (Below.refl wo.heap.size wo).alloc (Nat.le_refl _) (.cells #[.string (⟨#[116]⟩ ++ dg)] 9)
        have hbb := hba.alloc (by simp) (.cells #[.slice (some ⟨wo.heap.size, 0, none⟩) 1 1, .slice (some ⟨wo.heap.size + 1 + 1, 0, none⟩) 1 1, .slice none 0 0] 30)
        have hbc := hbb.alloc (by simp <;> omega) (.cells #[.string (⟨#[116]⟩ ++ dh)] 9)
        obtain ⟨Wx, hWx⟩ : ∃ W, ((wo.alloc (.cells #[.string (⟨#[116]⟩ ++ dg)] 9)).alloc (.cells #[.slice (some ⟨wo.heap.size, 0, none⟩) 1 1, .slice (some ⟨wo.heap.size + 1 + 1, 0, none⟩) 1 1, .slice none 0 0] 30)).alloc (.cells #[.string (⟨#[116]⟩ ++ dh)] 9) = W := ⟨_, rfl⟩
        have hn1 : Wx.heap[wo.heap.size]? = some (.cells #[.string (⟨#[116]⟩ ++ dg)] 9) := by
          rw [← hWx, Below.heap_alloc _ _ _ (by simp <;> omega), Below.heap_alloc _ _ _ (by simp)]
          exact heapNew _ _
        have hn3 : Wx.heap[wo.heap.size + 1 + 1]? = some (.cells #[.string (⟨#[116]⟩ ++ dh)] 9) := by
          have := heapNew ((wo.alloc (.cells #[.string (⟨#[116]⟩ ++ dg)] 9)).alloc (.cells #[.slice (some ⟨wo.heap.size, 0, none⟩) 1 1, .slice (some ⟨wo.heap.size + 1 + 1, 0, none⟩) 1 1, .slice none 0 0] 30)) (.cells #[.string (⟨#[116]⟩ ++ dh)] 9)
          rw [hWx] at this
          simpa using this
        have hzx : Wx.heap.size = wo.heap.size + 1 + 1 + 1 := by rw [← hWx]; simp
        rw [hWx] at hbc
        obtain ⟨p, hp⟩ : ∃ r : Rl, r = ⟨(some ⟨wo.heap.size, 0, none⟩, 1, [⟨#[116]⟩ ++ dg]), (some ⟨wo.heap.size + 1 + 1, 0, none⟩, 1, [⟨#[116]⟩ ++ dh]), (none, 0, [])⟩ := ⟨_, rfl⟩
        have HPT := hide (show IsRg n back i p from by rw [hp, HC1.out, HC2.out]; exact ⟨rfl, by show [tN (back)] = ndN n back i; unfold ndN; rw [if_neg h2, if_pos h3], rfl⟩)
        obtain ⟨Aa, ca, v', W', ea1, ea2, hrun, ⟨A', c', rfl⟩, ea4, T', N', hmk', hg', hk'⟩ := hmk.app ok hbc p (by
          rw [hp]
          exact ⟨sr_one hn1, sr_one hn3, SR.nil _ _, by simp, by simp, by simp⟩) (by
          rw [hp]
          refine ⟨fun a e _ => .inr ?_, fun a e _ => .inr ?_, fun a e _ => (by cases e)⟩
          all_goals
            injection e with e
            subst e
            rw [hzx]
            dsimp only
            omega) (by omega)
        have HI2 := hide (InvN.after ht hb0 (Nat.le_refl _) hmk' hg' hk')
        have hrun' : (Builtin.append_ #[24, 24] 24 #[.slice Aa L.length ca, .slice (some ⟨wo.heap.size + 1 + 1 + 1, 0, none⟩) 1 1]).run Tryz.prog ((((wo.alloc (.cells #[.string (⟨#[116]⟩ ++ dg)] 9)).alloc (.cells #[.slice (some ⟨wo.heap.size, 0, none⟩) 1 1, .slice (some ⟨wo.heap.size + 1 + 1, 0, none⟩) 1 1, .slice none 0 0] 30)).alloc (.cells #[.string (⟨#[116]⟩ ++ dh)] 9)).alloc (.cells #[.slice (some ⟨wo.heap.size, 0, none⟩) 1 1, .slice (some ⟨wo.heap.size + 1 + 1, 0, none⟩) 1 1, .slice none 0 0] 30)) = .ok (.slice A' (L.length + 1) c') W' := by
          rw [hp, hzx] at hrun
          rw [hWx]
          simpa [sv] using hrun
        have hyx : (((wo.alloc (.cells #[.string (⟨#[116]⟩ ++ dg)] 9)).alloc (.cells #[.slice (some ⟨wo.heap.size, 0, none⟩) 1 1, .slice (some ⟨wo.heap.size + 1 + 1, 0, none⟩) 1 1, .slice none 0 0] 30)).alloc (.cells #[.string (⟨#[116]⟩ ++ dh)] 9)).cell? ⟨gm, 1, none⟩ = some (.slice Aa L.length ca) := by rw [hWx]; exact cellOf ea2 (j := 1) rfl
        have hy1 : wo.cell? ⟨gm, 1, none⟩ = some (.slice Aa L.length ca) := cellOf ea1 (j := 1) rfl
        have hy4 : W'.cell? ⟨gm, 1, none⟩ = some (.slice Aa L.length ca) := cellOf ea4 (j := 1) rfl
        have hz4 := freeOf ea4 1
        rw [hlen] at hrun' hyx hy1 hy4 HI2
        clear hlen hmk ok ht hb0 hba hbb hbc hn1 hn3 hzx hWx hp ea1 ea2 hrun ea4 hmk' hg' hk'
        go_wp2_with fail
        refine (HD1.out wo).mono ?_
        rintro e w' ⟨rfl, rfl⟩
        go_wp2_with fail
        refine (HD2.out _).mono ?_
        rintro e w' ⟨rfl, rfl⟩
        go_wp2_with (at_builtin; refine wpList_app_run ?_ (.tmp 63) (.tmp 65) ?_ ?_ ?_ ?_ hrun' ?_; exact rfl; exact rfl; exact rfl; exact rfl; exact rfl)
        go_roundw
        case rel => exact ⟨i + 1, L ++ [p], by go_num, by omega, .app HRG.out HPT.out, HI2.out⟩
        case measure => simp [intOf]; omega
      · have e3 : decide ((back : Int) < (n : Int)) = false := by simp; omega
        have e3' : decide (back < n) = false := by simp; omega
        have hba := (Below.refl wo.heap.size wo).alloc (Nat.le_refl _) (.cells #[.string (⟨#[116]⟩ ++ dg)] 9)
        have hbc := hba.alloc (by simp) (.cells #[.slice (some ⟨wo.heap.size, 0, none⟩) 1 1, .slice none 0 0, .slice none 0 0] 30)
        obtain ⟨Wx, hWx⟩ : ∃ W, (wo.alloc (.cells #[.string (⟨#[116]⟩ ++ dg)] 9)).alloc (.cells #[.slice (some ⟨wo.heap.size, 0, none⟩) 1 1, .slice none 0 0, .slice none 0 0] 30) = W := ⟨_, rfl⟩
        have hn1 : Wx.heap[wo.heap.size]? = some (.cells #[.string (⟨#[116]⟩ ++ dg)] 9) := by
          rw [← hWx, Below.heap_alloc _ _ _ (by simp)]
          exact heapNew _ _
        have hzx : Wx.heap.size = wo.heap.size + 1 + 1 := by rw [← hWx]; simp
        rw [hWx] at hbc
        obtain ⟨p, hp⟩ : ∃ r : Rl, r = ⟨(some ⟨wo.heap.size, 0, none⟩, 1, [⟨#[116]⟩ ++ dg]), (none, 0, []), (none, 0, [])⟩ := ⟨_, rfl⟩
        have HPT := hide (show IsRg n back i p from by rw [hp, HC1.out]; exact ⟨rfl, by show [] = ndN n back i; unfold ndN; rw [if_neg h2, if_neg h3], rfl⟩)
        obtain ⟨Aa, ca, v', W', ea1, ea2, hrun, ⟨A', c', rfl⟩, ea4, T', N', hmk', hg', hk'⟩ := hmk.app ok hbc p (by
          rw [hp]
          exact ⟨sr_one hn1, SR.nil _ _, SR.nil _ _, by simp, by simp, by simp⟩) (by
          rw [hp]
          refine ⟨fun a e _ => .inr ?_, fun a e _ => (by cases e), fun a e _ => (by cases e)⟩
          injection e with e
          subst e
          rw [hzx]
          dsimp only
          omega) (by omega)
        have HI2 := hide (InvN.after ht hb0 (Nat.le_refl _) hmk' hg' hk')
        have hrun' : (Builtin.append_ #[24, 24] 24 #[.slice Aa L.length ca, .slice (some ⟨wo.heap.size + 1 + 1, 0, none⟩) 1 1]).run Tryz.prog (((wo.alloc (.cells #[.string (⟨#[116]⟩ ++ dg)] 9)).alloc (.cells #[.slice (some ⟨wo.heap.size, 0, none⟩) 1 1, .slice none 0 0, .slice none 0 0] 30)).alloc (.cells #[.slice (some ⟨wo.heap.size, 0, none⟩) 1 1, .slice none 0 0, .slice none 0 0] 30)) = .ok (.slice A' (L.length + 1) c') W' := by
          rw [hp, hzx] at hrun
          rw [hWx]
          simpa [sv] using hrun
        have hyx : ((wo.alloc (.cells #[.string (⟨#[116]⟩ ++ dg)] 9)).alloc (.cells #[.slice (some ⟨wo.heap.size, 0, none⟩) 1 1, .slice none 0 0, .slice none 0 0] 30)).cell? ⟨gm, 1, none⟩ = some (.slice Aa L.length ca) := by rw [hWx]; exact cellOf ea2 (j := 1) rfl
        have hy1 : wo.cell? ⟨gm, 1, none⟩ = some (.slice Aa L.length ca) := cellOf ea1 (j := 1) rfl
        have hy4 : W'.cell? ⟨gm, 1, none⟩ = some (.slice Aa L.length ca) := cellOf ea4 (j := 1) rfl
        have hz4 := freeOf ea4 1
        rw [hlen] at hrun' hyx hy1 hy4 HI2
        clear hlen hmk ok ht hb0 hba hbc hn1 hzx hWx hp ea1 ea2 hrun ea4 hmk' hg' hk'
        go_wp2_with fail
        refine (HD1.out wo).mono ?_
        rintro e w' ⟨rfl, rfl⟩
        go_wp2_with (at_builtin; refine wpList_app_run ?_ (.tmp 63) (.tmp 65) ?_ ?_ ?_ ?_ hrun' ?_; exact rfl; exact rfl; exact rfl; exact rfl; exact rfl)
        go_roundw
        case rel => exact ⟨i + 1, L ++ [p], by go_num, by omega, .app HRG.out HPT.out, HI2.out⟩
        case measure => simp [intOf]; omega
    · obtain rfl : n = i := by omega
      obtain ⟨Am, cm, hmg, hrl⟩ := hmk.rls
      rw [hlen] at hmg
      have hm0 := cellOf hmg (j := 0) (v := .slice none 0 0) rfl
      have hm1 := cellOf hmg (j := 1) (v := .slice Am n cm) rfl
      have HKEEP := hide (fun W (hb : Below wo.heap.size wo W) => show W.cell? ⟨gm, 0, none⟩ = some (.slice none 0 0) ∧ W.cell? ⟨gm, 1, none⟩ = some (.slice Am n cm) from ⟨(hb.cell (p := ⟨gm, 0, none⟩) (World.block_lt_of_cell? _ _ hm0)).trans hm0, (hb.cell (p := ⟨gm, 1, none⟩) (World.block_lt_of_cell? _ _ hm1)).trans hm1⟩)
      have HNW := hide (fun W => vnew_any 1 1 W (by omega) (by omega) (by omega) (by omega))
      have HORD := hide (fun gf A' c' W (hb : Below wo.heap.size wo W) (hv : Hs (VS gf (newS 1 1)) W) (hs : SR W A' [⟨#[116, 48]⟩]) => ring_order HRG.out hn1 hn60 Am cm gf A' c' W (hrl.below hb) hv (HM.out.below (below_up HBO.out hb HBO.out.size)) hs)
      have HNON := hide (fun gf A' c' W (hb : Below wo.heap.size wo W) (hv : Hs (VS gf (newS 1 1)) W) (hs : SR W A' [⟨#[117]⟩]) => ring_none HRG.out hn60 Am cm gf A' c' W (hrl.below hb) hv (HM.out.below (below_up HBO.out hb HBO.out.size)) hs)
      obtain ⟨rn, hrn⟩ : ∃ x, (if back < n then 0 else n) = x := ⟨_, rfl⟩
      obtain ⟨rc, hrc⟩ : ∃ x, (if back < n then 18 else 0 : Nat) = x := ⟨_, rfl⟩
      rw [hrn, hrc] at HORD
      have HRN := hide hrn
      have HRC := hide hrc
      have hb1 : ¬ (n : Int) < (n : Int) := by omega
      clear hmk ok ht hb0 hlen hmg hrl hrn hrc hm0 hm1
      go_wp2_with fail
      go_cut [9, 10] from 68 to 74 (fun v9 v10 wx => ∃ A k, v9 = .slice A rn k ∧ v10 = .int .i64 rc ∧ (¬ back < n → SR wx A (doneN n)) ∧ Below wo.heap.size wo wx)
      case first =>
        have HDW : Below wo.heap.size wo wo.drew := (Below.refl _ _).drew
        refine wp_region_held_drew (S := (fun w' => w'.cell? ⟨gm, 0, none⟩ = some (.slice none 0 0) ∧ w'.cell? ⟨gm, 1, none⟩ = some (.slice Am n cm))) (by kernel_rfl) (HKEEP.out _ HDW) (fun hHeld => ?_)
        refine wpAnyH_tk (i := 0) (oi := _) (v := ?vA0) rfl rfl (by kernel_rfl) (by kernel_rfl) (by kernel_rfl) (fun _ _ _ h => h) (Or.inl ⟨by kernel_rfl, ?yA0⟩) (by assumption) ?rA0
        case yA0 =>
          intro w hSw
          (try dsimp only at hSw)
          go_simp
          try with_reducible rfl
        try simp only [List.setIfInBounds_toArray, List.set_cons_zero, List.set_cons_succ]
        refine wpAnyH_ready (rs := [1, 2]) (by kernel_rfl) (by simp) ?_
        refine AllReadyH.cons (o := _) rfl (fun K hK => ?_) (AllReadyH.cons (o := _) rfl (fun K hK => ?_) AllReadyH.nil)
        · rw [if_pos (by kernel_rfl)]
          go_simp
          refine (HNW.out _).mono ?_
          rintro e w5 ⟨rfl, hb5, hv5, hs5⟩
          have hbx5 := below_up HDW hb5 HDW.size
          clear hs5
          have HVS := hide (hs_of hv5 ⟨fun k hk => ⟨hk.2, fun h => h⟩, fun k h => h.elim⟩)
          refine hK.out _ _ (HKEEP.out _ hbx5) (fun _ => ?_)
          clear hK K
          try simp only [Act.put, List.setIfInBounds_toArray, List.set_cons_zero, List.set_cons_succ]
          refine wpAnyH_ready (rs := [2]) (by kernel_rfl) (by simp) ?_
          refine AllReadyH.cons (o := _) rfl (fun K hK => ?_) AllReadyH.nil
          rw [if_pos (by kernel_rfl)]
          go_simp
          have HB6 := hbx5.alloc hbx5.size (.cells #[.string ⟨#[116, 48]⟩] 9)
          have HV6 : Hs (VS (wo.heap.size + 1) (newS 1 1)) _ := HVS.out.below (VS.fr _ _) ((Below.refl w5.heap.size w5).alloc (Nat.le_refl _) (.cells #[.string ⟨#[116, 48]⟩] 9))
          have HS6 := sr_new w5 ⟨#[116, 48]⟩
          refine hK.out _ _ (HKEEP.out _ HB6) (fun _ => ?_)
          clear hK K
          try simp only [Act.put, List.setIfInBounds_toArray, List.set_cons_zero, List.set_cons_succ]
          refine wpAnyH_ready (rs := [3]) (by kernel_rfl) (by simp) ?_
          refine AllReadyH.cons (o := _) rfl (fun K hK => ?_) AllReadyH.nil
          rw [if_pos (by kernel_rfl)]
          go_simp
          refine (HORD.out (wo.heap.size + 1) (some ⟨w5.heap.size, 0, none⟩) 1 _ HB6 HV6 HS6).mono ?_
          rintro e w7 ⟨hb7, A7, k7, rfl, hs7⟩
          have hbx7 := below_up HB6 hb7 HB6.size
          refine hK.out _ _ (HKEEP.out _ hbx7) (fun _ => ?_)
          clear hK K
          try simp only [Act.put, List.setIfInBounds_toArray, List.set_cons_zero, List.set_cons_succ]
          refine wpAnyH_tk (i := 4) (oi := _) (v := ?vAP4) rfl rfl (by kernel_rfl) (by kernel_rfl) (by kernel_rfl) (fun _ _ _ h => h) (Or.inl ⟨by kernel_rfl, ?yAP4⟩) (by assumption) ?rAP4
          case yAP4 =>
            intro w hSw
            (try dsimp only at hSw)
            go_simp
            try with_reducible rfl
          try simp only [List.setIfInBounds_toArray, List.set_cons_zero, List.set_cons_succ]
          refine wpAnyH_tk (i := 5) (oi := _) (v := ?vAP5) rfl rfl (by kernel_rfl) (by kernel_rfl) (by kernel_rfl) (fun _ _ _ h => h) (Or.inl ⟨by kernel_rfl, ?yAP5⟩) (by assumption) ?rAP5
          case yAP5 =>
            intro w hSw
            (try dsimp only at hSw)
            go_simp
            try with_reducible rfl
          try simp only [List.setIfInBounds_toArray, List.set_cons_zero, List.set_cons_succ]
          refine wpAnyH_tk (i := 6) (oi := _) (v := ?vAP6) rfl rfl (by kernel_rfl) (by kernel_rfl) (by kernel_rfl) (fun _ _ _ h => h) (Or.inl ⟨by kernel_rfl, ?yAP6⟩) (by assumption) ?rAP6
          case yAP6 =>
            intro w hSw
            (try dsimp only at hSw)
            go_simp
            try with_reducible rfl
          try simp only [List.setIfInBounds_toArray, List.set_cons_zero, List.set_cons_succ]
          refine wpAnyH_tk (i := 7) (oi := _) (v := ?vAP7) rfl rfl (by kernel_rfl) (by kernel_rfl) (by kernel_rfl) (fun _ _ _ h => h) (Or.inl ⟨by kernel_rfl, ?yAP7⟩) (by assumption) ?rAP7
          case yAP7 =>
            intro w hSw
            (try dsimp only at hSw)
            go_simp
            try with_reducible rfl
          try simp only [List.setIfInBounds_toArray, List.set_cons_zero, List.set_cons_succ]
          refine wpAnyH_tk (i := 8) (oi := _) (v := ?vAP8) rfl rfl (by kernel_rfl) (by kernel_rfl) (by kernel_rfl) (fun _ _ _ h => h) (Or.inl ⟨by kernel_rfl, ?yAP8⟩) (by assumption) ?rAP8
          case yAP8 =>
            intro w hSw
            (try dsimp only at hSw)
            go_simp
            try with_reducible rfl
          try simp only [List.setIfInBounds_toArray, List.set_cons_zero, List.set_cons_succ]
          refine wpAnyH_done (by kernel_rfl) ?_ _
          go_wp2
          go_meet
          exact ⟨A7, k7, rfl, rfl, hs7, hbx7⟩
        · rw [if_pos (by kernel_rfl)]
          go_simp
          have hbx6 := HDW.alloc HDW.size (.cells #[.string ⟨#[116, 48]⟩] 9)
          have HS5 := sr_new wo.drew ⟨#[116, 48]⟩
          refine hK.out _ _ (HKEEP.out _ hbx6) (fun _ => ?_)
          clear hK K
          try simp only [Act.put, List.setIfInBounds_toArray, List.set_cons_zero, List.set_cons_succ]
          refine wpAnyH_ready (rs := [1]) (by kernel_rfl) (by simp) ?_
          refine AllReadyH.cons (o := _) rfl (fun K hK => ?_) AllReadyH.nil
          rw [if_pos (by kernel_rfl)]
          go_simp
          refine (HNW.out _).mono ?_
          rintro e w5 ⟨rfl, hb5, hv5, hs5⟩
          have hbx5 := below_up hbx6 hb5 hbx6.size
          clear hs5
          have HVS := hide (hs_of hv5 ⟨fun k hk => ⟨hk.2, fun h => h⟩, fun k h => h.elim⟩)
          refine hK.out _ _ (HKEEP.out _ hbx5) (fun _ => ?_)
          clear hK K
          try simp only [Act.put, List.setIfInBounds_toArray, List.set_cons_zero, List.set_cons_succ]
          have HB6 := hbx5
          have HV6 : Hs (VS (wo.heap.size + 1 + 1) (newS 1 1)) w5 := (by simpa using HVS.out)
          have HS6 := HS5.below hb5
          refine wpAnyH_ready (rs := [3]) (by kernel_rfl) (by simp) ?_
          refine AllReadyH.cons (o := _) rfl (fun K hK => ?_) AllReadyH.nil
          rw [if_pos (by kernel_rfl)]
          go_simp
          refine (HORD.out (wo.heap.size + 1 + 1) (some ⟨wo.heap.size, 0, none⟩) 1 _ HB6 HV6 HS6).mono ?_
          rintro e w7 ⟨hb7, A7, k7, rfl, hs7⟩
          have hbx7 := below_up HB6 hb7 HB6.size
          refine hK.out _ _ (HKEEP.out _ hbx7) (fun _ => ?_)
          clear hK K
          try simp only [Act.put, List.setIfInBounds_toArray, List.set_cons_zero, List.set_cons_succ]
          refine wpAnyH_tk (i := 4) (oi := _) (v := ?vAQ4) rfl rfl (by kernel_rfl) (by kernel_rfl) (by kernel_rfl) (fun _ _ _ h => h) (Or.inl ⟨by kernel_rfl, ?yAQ4⟩) (by assumption) ?rAQ4
          case yAQ4 =>
            intro w hSw
            (try dsimp only at hSw)
            go_simp
            try with_reducible rfl
          try simp only [List.setIfInBounds_toArray, List.set_cons_zero, List.set_cons_succ]
          refine wpAnyH_tk (i := 5) (oi := _) (v := ?vAQ5) rfl rfl (by kernel_rfl) (by kernel_rfl) (by kernel_rfl) (fun _ _ _ h => h) (Or.inl ⟨by kernel_rfl, ?yAQ5⟩) (by assumption) ?rAQ5
          case yAQ5 =>
            intro w hSw
            (try dsimp only at hSw)
            go_simp
            try with_reducible rfl
          try simp only [List.setIfInBounds_toArray, List.set_cons_zero, List.set_cons_succ]
          refine wpAnyH_tk (i := 6) (oi := _) (v := ?vAQ6) rfl rfl (by kernel_rfl) (by kernel_rfl) (by kernel_rfl) (fun _ _ _ h => h) (Or.inl ⟨by kernel_rfl, ?yAQ6⟩) (by assumption) ?rAQ6
          case yAQ6 =>
            intro w hSw
            (try dsimp only at hSw)
            go_simp
            try with_reducible rfl
          try simp only [List.setIfInBounds_toArray, List.set_cons_zero, List.set_cons_succ]
          refine wpAnyH_tk (i := 7) (oi := _) (v := ?vAQ7) rfl rfl (by kernel_rfl) (by kernel_rfl) (by kernel_rfl) (fun _ _ _ h => h) (Or.inl ⟨by kernel_rfl, ?yAQ7⟩) (by assumption) ?rAQ7
          case yAQ7 =>
            intro w hSw
            (try dsimp only at hSw)
            go_simp
            try with_reducible rfl
          try simp only [List.setIfInBounds_toArray, List.set_cons_zero, List.set_cons_succ]
          refine wpAnyH_tk (i := 8) (oi := _) (v := ?vAQ8) rfl rfl (by kernel_rfl) (by kernel_rfl) (by kernel_rfl) (fun _ _ _ h => h) (Or.inl ⟨by kernel_rfl, ?yAQ8⟩) (by assumption) ?rAQ8
          case yAQ8 =>
            intro w hSw
            (try dsimp only at hSw)
            go_simp
            try with_reducible rfl
          try simp only [List.setIfInBounds_toArray, List.set_cons_zero, List.set_cons_succ]
          refine wpAnyH_done (by kernel_rfl) ?_ _
          go_wp2
          go_meet
          exact ⟨A7, k7, rfl, rfl, hs7, hbx7⟩
      case rest =>
        obtain ⟨A9, k9, rfl, rfl, hs9, hb9⟩ := hcut
        generalize wc = wq at *
        have HS9 := hide hs9
        have HB9 := hide hb9
        clear hs9 hb9
        go_wp2_with fail
        go_cut [11, 12] from 75 to 81 (fun _ v12 wx => v12 = .int .i64 19 ∧ Below wq.heap.size wq wx)
        case first =>
          have HDW : Below wo.heap.size wo wq.drew := HB9.out.drew
          have HDQ : Below wq.heap.size wq wq.drew := (Below.refl _ _).drew
          refine wp_region_held_drew (S := (fun w' => w'.cell? ⟨gm, 0, none⟩ = some (.slice none 0 0) ∧ w'.cell? ⟨gm, 1, none⟩ = some (.slice Am n cm))) (by kernel_rfl) (HKEEP.out _ HDW) (fun hHeld => ?_)
          refine wpAnyH_tk (i := 0) (oi := _) (v := ?vC0) rfl rfl (by kernel_rfl) (by kernel_rfl) (by kernel_rfl) (fun _ _ _ h => h) (Or.inl ⟨by kernel_rfl, ?yC0⟩) (by assumption) ?rC0
          case yC0 =>
            intro w hSw
            (try dsimp only at hSw)
            go_simp
            try with_reducible rfl
          try simp only [List.setIfInBounds_toArray, List.set_cons_zero, List.set_cons_succ]
          refine wpAnyH_ready (rs := [1, 2]) (by kernel_rfl) (by simp) ?_
          refine AllReadyH.cons (o := _) rfl (fun K hK => ?_) (AllReadyH.cons (o := _) rfl (fun K hK => ?_) AllReadyH.nil)
          · rw [if_pos (by kernel_rfl)]
            go_simp
            refine (HNW.out _).mono ?_
            rintro e w5 ⟨rfl, hb5, hv5, hs5⟩
            have hbx5 := below_up HDW hb5 HDW.size
            clear hs5
            have HVS := hide (hs_of hv5 ⟨fun k hk => ⟨hk.2, fun h => h⟩, fun k h => h.elim⟩)
            refine hK.out _ _ (HKEEP.out _ hbx5) (fun _ => ?_)
            clear hK K
            try simp only [Act.put, List.setIfInBounds_toArray, List.set_cons_zero, List.set_cons_succ]
            refine wpAnyH_ready (rs := [2]) (by kernel_rfl) (by simp) ?_
            refine AllReadyH.cons (o := _) rfl (fun K hK => ?_) AllReadyH.nil
            rw [if_pos (by kernel_rfl)]
            go_simp
            have HBQ6 := (below_up HDQ hb5 HDQ.size).alloc (below_up HDQ hb5 HDQ.size).size (.cells #[.string ⟨#[117]⟩] 9); have HB6 := hbx5.alloc hbx5.size (.cells #[.string ⟨#[117]⟩] 9)
            have HV6 : Hs (VS (wq.heap.size + 1) (newS 1 1)) _ := HVS.out.below (VS.fr _ _) ((Below.refl w5.heap.size w5).alloc (Nat.le_refl _) (.cells #[.string ⟨#[117]⟩] 9))
            have HS6 := sr_new w5 ⟨#[117]⟩
            refine hK.out _ _ (HKEEP.out _ HB6) (fun _ => ?_)
            clear hK K
            try simp only [Act.put, List.setIfInBounds_toArray, List.set_cons_zero, List.set_cons_succ]
            refine wpAnyH_ready (rs := [3]) (by kernel_rfl) (by simp) ?_
            refine AllReadyH.cons (o := _) rfl (fun K hK => ?_) AllReadyH.nil
            rw [if_pos (by kernel_rfl)]
            go_simp
            refine (HNON.out (wq.heap.size + 1) (some ⟨w5.heap.size, 0, none⟩) 1 _ HB6 HV6 HS6).mono ?_
            rintro e w7 ⟨hb7, A7, k7, rfl⟩
            have hbx7 := below_up HB6 hb7 HB6.size; have HBQ7 : Below wq.heap.size wq w7 := below_up HBQ6 hb7 HBQ6.size
            refine hK.out _ _ (HKEEP.out _ hbx7) (fun _ => ?_)
            clear hK K
            try simp only [Act.put, List.setIfInBounds_toArray, List.set_cons_zero, List.set_cons_succ]
            refine wpAnyH_tk (i := 4) (oi := _) (v := ?vCP4) rfl rfl (by kernel_rfl) (by kernel_rfl) (by kernel_rfl) (fun _ _ _ h => h) (Or.inl ⟨by kernel_rfl, ?yCP4⟩) (by assumption) ?rCP4
            case yCP4 =>
              intro w hSw
              (try dsimp only at hSw)
              go_simp
              try with_reducible rfl
            try simp only [List.setIfInBounds_toArray, List.set_cons_zero, List.set_cons_succ]
            refine wpAnyH_tk (i := 5) (oi := _) (v := ?vCP5) rfl rfl (by kernel_rfl) (by kernel_rfl) (by kernel_rfl) (fun _ _ _ h => h) (Or.inl ⟨by kernel_rfl, ?yCP5⟩) (by assumption) ?rCP5
            case yCP5 =>
              intro w hSw
              (try dsimp only at hSw)
              go_simp
              try with_reducible rfl
            try simp only [List.setIfInBounds_toArray, List.set_cons_zero, List.set_cons_succ]
            refine wpAnyH_tk (i := 6) (oi := _) (v := ?vCP6) rfl rfl (by kernel_rfl) (by kernel_rfl) (by kernel_rfl) (fun _ _ _ h => h) (Or.inl ⟨by kernel_rfl, ?yCP6⟩) (by assumption) ?rCP6
            case yCP6 =>
              intro w hSw
              (try dsimp only at hSw)
              go_simp
              try with_reducible rfl
            try simp only [List.setIfInBounds_toArray, List.set_cons_zero, List.set_cons_succ]
            refine wpAnyH_tk (i := 7) (oi := _) (v := ?vCP7) rfl rfl (by kernel_rfl) (by kernel_rfl) (by kernel_rfl) (fun _ _ _ h => h) (Or.inl ⟨by kernel_rfl, ?yCP7⟩) (by assumption) ?rCP7
            case yCP7 =>
              intro w hSw
              (try dsimp only at hSw)
              go_simp
              try with_reducible rfl
            try simp only [List.setIfInBounds_toArray, List.set_cons_zero, List.set_cons_succ]
            refine wpAnyH_tk (i := 8) (oi := _) (v := ?vCP8) rfl rfl (by kernel_rfl) (by kernel_rfl) (by kernel_rfl) (fun _ _ _ h => h) (Or.inl ⟨by kernel_rfl, ?yCP8⟩) (by assumption) ?rCP8
            case yCP8 =>
              intro w hSw
              (try dsimp only at hSw)
              go_simp
              try with_reducible rfl
            try simp only [List.setIfInBounds_toArray, List.set_cons_zero, List.set_cons_succ]
            refine wpAnyH_done (by kernel_rfl) ?_ _
            go_wp2
            go_meet
            exact ⟨rfl, HBQ7⟩
          · rw [if_pos (by kernel_rfl)]
            go_simp
            have hbx6 := HDW.alloc HDW.size (.cells #[.string ⟨#[117]⟩] 9)
            have HS5 := sr_new wq.drew ⟨#[117]⟩
            refine hK.out _ _ (HKEEP.out _ hbx6) (fun _ => ?_)
            clear hK K
            try simp only [Act.put, List.setIfInBounds_toArray, List.set_cons_zero, List.set_cons_succ]
            refine wpAnyH_ready (rs := [1]) (by kernel_rfl) (by simp) ?_
            refine AllReadyH.cons (o := _) rfl (fun K hK => ?_) AllReadyH.nil
            rw [if_pos (by kernel_rfl)]
            go_simp
            refine (HNW.out _).mono ?_
            rintro e w5 ⟨rfl, hb5, hv5, hs5⟩
            have hbx5 := below_up hbx6 hb5 hbx6.size
            clear hs5
            have HVS := hide (hs_of hv5 ⟨fun k hk => ⟨hk.2, fun h => h⟩, fun k h => h.elim⟩)
            refine hK.out _ _ (HKEEP.out _ hbx5) (fun _ => ?_)
            clear hK K
            try simp only [Act.put, List.setIfInBounds_toArray, List.set_cons_zero, List.set_cons_succ]
            have HB6 := hbx5; have HBQ6 := below_up (HDQ.alloc HDQ.size (.cells #[.string ⟨#[117]⟩] 9)) hb5 (HDQ.alloc HDQ.size (.cells #[.string ⟨#[117]⟩] 9)).size
            have HV6 : Hs (VS (wq.heap.size + 1 + 1) (newS 1 1)) w5 := (by simpa using HVS.out)
            have HS6 := HS5.below hb5
            refine wpAnyH_ready (rs := [3]) (by kernel_rfl) (by simp) ?_
            refine AllReadyH.cons (o := _) rfl (fun K hK => ?_) AllReadyH.nil
            rw [if_pos (by kernel_rfl)]
            go_simp
            refine (HNON.out (wq.heap.size + 1 + 1) (some ⟨wq.heap.size, 0, none⟩) 1 _ HB6 HV6 HS6).mono ?_
            rintro e w7 ⟨hb7, A7, k7, rfl⟩
            have hbx7 := below_up HB6 hb7 HB6.size; have HBQ7 : Below wq.heap.size wq w7 := below_up HBQ6 hb7 HBQ6.size
            refine hK.out _ _ (HKEEP.out _ hbx7) (fun _ => ?_)
            clear hK K
            try simp only [Act.put, List.setIfInBounds_toArray, List.set_cons_zero, List.set_cons_succ]
            refine wpAnyH_tk (i := 4) (oi := _) (v := ?vCQ4) rfl rfl (by kernel_rfl) (by kernel_rfl) (by kernel_rfl) (fun _ _ _ h => h) (Or.inl ⟨by kernel_rfl, ?yCQ4⟩) (by assumption) ?rCQ4
            case yCQ4 =>
              intro w hSw
              (try dsimp only at hSw)
              go_simp
              try with_reducible rfl
            try simp only [List.setIfInBounds_toArray, List.set_cons_zero, List.set_cons_succ]
            refine wpAnyH_tk (i := 5) (oi := _) (v := ?vCQ5) rfl rfl (by kernel_rfl) (by kernel_rfl) (by kernel_rfl) (fun _ _ _ h => h) (Or.inl ⟨by kernel_rfl, ?yCQ5⟩) (by assumption) ?rCQ5
            case yCQ5 =>
              intro w hSw
              (try dsimp only at hSw)
              go_simp
              try with_reducible rfl
            try simp only [List.setIfInBounds_toArray, List.set_cons_zero, List.set_cons_succ]
            refine wpAnyH_tk (i := 6) (oi := _) (v := ?vCQ6) rfl rfl (by kernel_rfl) (by kernel_rfl) (by kernel_rfl) (fun _ _ _ h => h) (Or.inl ⟨by kernel_rfl, ?yCQ6⟩) (by assumption) ?rCQ6
            case yCQ6 =>
              intro w hSw
              (try dsimp only at hSw)
              go_simp
              try with_reducible rfl
            try simp only [List.setIfInBounds_toArray, List.set_cons_zero, List.set_cons_succ]
            refine wpAnyH_tk (i := 7) (oi := _) (v := ?vCQ7) rfl rfl (by kernel_rfl) (by kernel_rfl) (by kernel_rfl) (fun _ _ _ h => h) (Or.inl ⟨by kernel_rfl, ?yCQ7⟩) (by assumption) ?rCQ7
            case yCQ7 =>
              intro w hSw
              (try dsimp only at hSw)
              go_simp
              try with_reducible rfl
            try simp only [List.setIfInBounds_toArray, List.set_cons_zero, List.set_cons_succ]
            refine wpAnyH_tk (i := 8) (oi := _) (v := ?vCQ8) rfl rfl (by kernel_rfl) (by kernel_rfl) (by kernel_rfl) (fun _ _ _ h => h) (Or.inl ⟨by kernel_rfl, ?yCQ8⟩) (by assumption) ?rCQ8
            case yCQ8 =>
              intro w hSw
              (try dsimp only at hSw)
              go_simp
              try with_reducible rfl
            try simp only [List.setIfInBounds_toArray, List.set_cons_zero, List.set_cons_succ]
            refine wpAnyH_done (by kernel_rfl) ?_ _
            go_wp2
            go_meet
            exact ⟨rfl, HBQ7⟩
        case rest =>
          obtain ⟨rfl, hbq⟩ := hcut
          generalize wc = wz at *
          have HBZ := hide (below_up (below_up HBO.out HB9.out HBO.out.size) hbq (below_up HBO.out HB9.out HBO.out.size).size)
          by_cases hbk : back < n
          · have d5 : decide ((back : Int) < (n : Int)) = true := by simp; omega
            have d5' : decide (back < n) = true := by simp; omega
            obtain rfl : rn = 0 := by have := HRN.out; rw [if_pos hbk] at this; exact this.symm
            obtain rfl : rc = 18 := by have := HRC.out; rw [if_pos hbk] at this; exact this.symm
            clear hbk
            go_wp2_with fail
            refine (num22_any _ _).mono ?_
            rintro e w' ⟨rfl, rfl⟩
            go_wp2_with fail
            refine (num22_any _ _).mono ?_
            rintro e w' ⟨rfl, rfl⟩
            go_wp2
            go_ret
            exact ⟨rfl, HBZ.out⟩
          · have d5 : decide ((back : Int) < (n : Int)) = false := by simp; omega
            have d5' : decide (back < n) = false := by simp; omega
            obtain rfl : rn = n := by have := HRN.out; rw [if_neg hbk] at this; exact this.symm
            obtain rfl : rc = 0 := by have := HRC.out; rw [if_neg hbk] at this; exact this.symm
            obtain ⟨m, rfl⟩ : ∃ m, rn = m + 1 := ⟨rn - 1, by omega⟩
            have d6 : decide ((back : Int) < (m : Int) + 1) = false := by simp; omega
            have d6' : decide (back < m + 1) = false := by simp; omega
            obtain ⟨g9, o9, rfl, hg9, hc9⟩ := (HS9.out hbk) 0 (tN m) rfl
            rw [Nat.add_zero] at hc9
            have hcz := (hbq.cell (p := ⟨g9, o9, none⟩) hg9).trans hc9
            obtain ⟨dg, hdg⟩ : ∃ x, ds (dgL m) = x := ⟨_, rfl⟩
            have HDG := hide (fun W => digits_any m W (by omega))
            have hc1 := tN_cat m
            have hz1 : dg.size ≤ 3 := by
              have h1 := dgL_len m 1 (by omega)
              rw [← hdg, ds_size]; omega
            rw [hdg] at HDG hc1
            have HC1 := hide hc1
            obtain ⟨tm, htm⟩ : ∃ x, tN m = x := ⟨_, rfl⟩
            rw [htm] at HC1 hcz
            have hwr : IntKind.i64.wrap (((m + 1 : Nat) : Int) - 1) = (m : Int) := by rw [show ((m + 1 : Nat) : Int) - 1 = (m : Int) by omega]; exact IntWalk.i64_in _ (by omega)
            have hwr' : IntKind.i64.wrap ((m : Int) + 1 - 1) = (m : Int) := by rw [show (m : Int) + 1 - 1 = (m : Int) by omega]; exact IntWalk.i64_in _ (by omega)
            have hpos : (0 : Int) < (m : Int) + 1 := by omega
            have hcat : ¬ 9223372036854775807 < 1 + dg.size := by omega
            have hwr3 : IntKind.i64.wrap (m : Int) = (m : Int) := IntWalk.i64_in _ (by omega)
            have heq : ((tm.toList == (⟨#[116]⟩ ++ dg).toList)) = true := by rw [HC1.out]; simp
            clear hbk HS9 hdg hc1 htm hc9
            go_wp2_with fail
            refine wp_region_held_drew (S := (fun w' => w'.cell? ⟨g9, o9, none⟩ = some (.string tm))) (by kernel_rfl) hcz (fun hHeld => ?_)
            refine wpAnyH_tk (i := 0) (oi := _) (v := ?vE0) rfl rfl (by kernel_rfl) (by kernel_rfl) (by kernel_rfl) (fun _ _ _ h => h) (Or.inl ⟨by kernel_rfl, ?yE0⟩) (by assumption) ?rE0
            case yE0 =>
              intro w hSw
              (try dsimp only at hSw)
              go_simp
              try with_reducible rfl
            try simp only [List.setIfInBounds_toArray, List.set_cons_zero, List.set_cons_succ]
            refine wpAnyH_ready (rs := [1]) (by kernel_rfl) (by simp) ?_
            refine AllReadyH.cons (o := _) rfl (fun K hK => ?_) AllReadyH.nil
            rw [if_pos (by kernel_rfl)]
            go_simp
            refine (num22_any _ _).mono ?_
            rintro e w' ⟨rfl, rfl⟩
            refine hK.out _ _ hcz (fun _ => ?_)
            clear hK K
            try simp only [Act.put, List.setIfInBounds_toArray, List.set_cons_zero, List.set_cons_succ]
            refine wpAnyH_tk (i := 2) (oi := _) (v := ?vE2) rfl rfl (by kernel_rfl) (by kernel_rfl) (by kernel_rfl) (fun _ _ _ h => h) (Or.inl ⟨by kernel_rfl, ?yE2⟩) (by assumption) ?rE2
            case yE2 =>
              intro w hSw
              (try dsimp only at hSw)
              go_simp
              try with_reducible rfl
            try simp only [List.setIfInBounds_toArray, List.set_cons_zero, List.set_cons_succ]
            refine wpAnyH_tk (i := 3) (oi := _) (v := ?vE3) rfl rfl (by kernel_rfl) (by kernel_rfl) (by kernel_rfl) (fun _ _ _ h => h) (Or.inl ⟨by kernel_rfl, ?yE3⟩) (by assumption) ?rE3
            case yE3 =>
              intro w hSw
              (try dsimp only at hSw)
              go_simp
              try with_reducible rfl
            try simp only [List.setIfInBounds_toArray, List.set_cons_zero, List.set_cons_succ]
            refine wpAnyH_tk (i := 4) (oi := _) (v := ?vE4) rfl rfl (by kernel_rfl) (by kernel_rfl) (by kernel_rfl) (fun _ _ _ h => h) (Or.inl ⟨by kernel_rfl, ?yE4⟩) (by assumption) ?rE4
            case yE4 =>
              intro w hSw
              (try dsimp only at hSw)
              go_simp
              try with_reducible rfl
            try simp only [List.setIfInBounds_toArray, List.set_cons_zero, List.set_cons_succ]
            refine wpAnyH_tk (i := 5) (oi := _) (v := ?vE5) rfl rfl (by kernel_rfl) (by kernel_rfl) (by kernel_rfl) (fun _ _ _ h => h) (Or.inl ⟨by kernel_rfl, ?yE5⟩) (by assumption) ?rE5
            case yE5 =>
              intro w hSw
              (try dsimp only at hSw)
              go_simp
              try with_reducible rfl
            try simp only [List.setIfInBounds_toArray, List.set_cons_zero, List.set_cons_succ]
            refine wpAnyH_tk (i := 6) (oi := _) (v := ?vE6) rfl rfl (by kernel_rfl) (by kernel_rfl) (by kernel_rfl) (fun _ _ _ h => h) (Or.inl ⟨by kernel_rfl, ?yE6⟩) (by assumption) ?rE6
            case yE6 =>
              intro w hSw
              (try dsimp only at hSw)
              go_simp
              try with_reducible rfl
            try simp only [List.setIfInBounds_toArray, List.set_cons_zero, List.set_cons_succ]
            refine wpAnyH_tk (i := 7) (oi := _) (v := ?vE7) rfl rfl (by kernel_rfl) (by kernel_rfl) (by kernel_rfl) (fun _ _ _ h => h) (Or.inl ⟨by kernel_rfl, ?yE7⟩) (by assumption) ?rE7
            case yE7 =>
              intro w hSw
              (try dsimp only at hSw)
              go_simp
              try with_reducible rfl
            try simp only [List.setIfInBounds_toArray, List.set_cons_zero, List.set_cons_succ]
            refine wpAnyH_tk (i := 8) (oi := _) (v := ?vE8) rfl rfl (by kernel_rfl) (by kernel_rfl) (by kernel_rfl) (fun _ _ _ h => h) (Or.inl ⟨by kernel_rfl, ?yE8⟩) (by assumption) ?rE8
            case yE8 =>
              intro w hSw
              (try dsimp only at hSw)
              go_simp
              try with_reducible rfl
            try simp only [List.setIfInBounds_toArray, List.set_cons_zero, List.set_cons_succ]
            refine wpAnyH_tk (i := 9) (oi := _) (v := ?vE9) rfl rfl (by kernel_rfl) (by kernel_rfl) (by kernel_rfl) (fun _ _ _ h => h) (Or.inl ⟨by kernel_rfl, ?yE9⟩) (by assumption) ?rE9
            case yE9 =>
              intro w hSw
              (try dsimp only at hSw)
              go_simp
              try with_reducible rfl
            try simp only [List.setIfInBounds_toArray, List.set_cons_zero, List.set_cons_succ]
            refine wpAnyH_tk (i := 10) (oi := _) (v := ?vE10) rfl rfl (by kernel_rfl) (by kernel_rfl) (by kernel_rfl) (fun _ _ _ h => h) (Or.inl ⟨by kernel_rfl, ?yE10⟩) (by assumption) ?rE10
            case yE10 =>
              intro w hSw
              (try dsimp only at hSw)
              go_simp
              try with_reducible rfl
            try simp only [List.setIfInBounds_toArray, List.set_cons_zero, List.set_cons_succ]
            refine wpAnyH_tk (i := 11) (oi := _) (v := ?vE11) rfl rfl (by kernel_rfl) (by kernel_rfl) (by kernel_rfl) (fun _ _ _ h => h) (Or.inl ⟨by kernel_rfl, ?yE11⟩) (by assumption) ?rE11
            case yE11 =>
              intro w hSw
              (try dsimp only at hSw)
              go_simp
              try with_reducible rfl
            try simp only [List.setIfInBounds_toArray, List.set_cons_zero, List.set_cons_succ]
            refine wpAnyH_tk (i := 12) (oi := _) (v := ?vE12) rfl rfl (by kernel_rfl) (by kernel_rfl) (by kernel_rfl) (fun _ _ _ h => h) (Or.inl ⟨by kernel_rfl, ?yE12⟩) (by assumption) ?rE12
            case yE12 =>
              intro w hSw
              (try dsimp only at hSw)
              go_simp
              try with_reducible rfl
            try simp only [List.setIfInBounds_toArray, List.set_cons_zero, List.set_cons_succ]
            refine wpAnyH_tk (i := 13) (oi := _) (v := ?vE13) rfl rfl (by kernel_rfl) (by kernel_rfl) (by kernel_rfl) (fun _ _ _ h => h) (Or.inl ⟨by kernel_rfl, ?yE13⟩) (by assumption) ?rE13
            case yE13 =>
              intro w hSw
              (try dsimp only at hSw)
              go_simp
              try with_reducible rfl
            try simp only [List.setIfInBounds_toArray, List.set_cons_zero, List.set_cons_succ]
            refine wpAnyH_tk (i := 14) (oi := _) (v := ?vE14) rfl rfl (by kernel_rfl) (by kernel_rfl) (by kernel_rfl) (fun _ _ _ h => h) (Or.inl ⟨by kernel_rfl, ?yE14⟩) (by assumption) ?rE14
            case yE14 =>
              intro w hSw
              (try dsimp only at hSw)
              go_simp
              try with_reducible rfl
            try simp only [List.setIfInBounds_toArray, List.set_cons_zero, List.set_cons_succ]
            refine wpAnyH_ready (rs := [15]) (by kernel_rfl) (by simp) ?_
            refine AllReadyH.cons (o := _) rfl (fun K hK => ?_) AllReadyH.nil
            rw [if_pos (by kernel_rfl)]
            go_simp
            refine (HDG.out _).mono ?_
            rintro e w' ⟨rfl, rfl⟩
            refine hK.out _ _ hcz (fun _ => ?_)
            clear hK K
            try simp only [Act.put, List.setIfInBounds_toArray, List.set_cons_zero, List.set_cons_succ]
            refine wpAnyH_tk (i := 16) (oi := _) (v := ?vE16) rfl rfl (by kernel_rfl) (by kernel_rfl) (by kernel_rfl) (fun _ _ _ h => h) (Or.inl ⟨by kernel_rfl, ?yE16⟩) (by assumption) ?rE16
            case yE16 =>
              intro w hSw
              (try dsimp only at hSw)
              go_simp
              try with_reducible rfl
            try simp only [List.setIfInBounds_toArray, List.set_cons_zero, List.set_cons_succ]
            refine wpAnyH_tk (i := 17) (oi := _) (v := ?vE17) rfl rfl (by kernel_rfl) (by kernel_rfl) (by kernel_rfl) (fun _ _ _ h => h) (Or.inl ⟨by kernel_rfl, ?yE17⟩) (by assumption) ?rE17
            case yE17 =>
              intro w hSw
              (try dsimp only at hSw)
              go_simp
              try with_reducible rfl
            try simp only [List.setIfInBounds_toArray, List.set_cons_zero, List.set_cons_succ]
            refine wpAnyH_tk (i := 18) (oi := _) (v := ?vE18) rfl rfl (by kernel_rfl) (by kernel_rfl) (by kernel_rfl) (fun _ _ _ h => h) (Or.inl ⟨by kernel_rfl, ?yE18⟩) (by assumption) ?rE18
            case yE18 =>
              intro w hSw
              (try dsimp only at hSw)
              go_simp
              try with_reducible rfl
            try simp only [List.setIfInBounds_toArray, List.set_cons_zero, List.set_cons_succ]
            refine wpAnyH_tk (i := 19) (oi := _) (v := ?vE19) rfl rfl (by kernel_rfl) (by kernel_rfl) (by kernel_rfl) (fun _ _ _ h => h) (Or.inl ⟨by kernel_rfl, ?yE19⟩) (by assumption) ?rE19
            case yE19 =>
              intro w hSw
              (try dsimp only at hSw)
              go_simp
              try with_reducible rfl
            try simp only [List.setIfInBounds_toArray, List.set_cons_zero, List.set_cons_succ]
            refine wpAnyH_tk (i := 20) (oi := _) (v := ?vE20) rfl rfl (by kernel_rfl) (by kernel_rfl) (by kernel_rfl) (fun _ _ _ h => h) (Or.inl ⟨by kernel_rfl, ?yE20⟩) (by assumption) ?rE20
            case yE20 =>
              intro w hSw
              (try dsimp only at hSw)
              go_simp
              try with_reducible rfl
            try simp only [List.setIfInBounds_toArray, List.set_cons_zero, List.set_cons_succ]
            refine wpAnyH_ready (rs := [21]) (by kernel_rfl) (by simp) ?_
            refine AllReadyH.cons (o := _) rfl (fun K hK => ?_) AllReadyH.nil
            rw [if_pos (by kernel_rfl)]
            go_simp
            refine (num22_any _ _).mono ?_
            rintro e w' ⟨rfl, rfl⟩
            refine hK.out _ _ hcz (fun _ => ?_)
            clear hK K
            try simp only [Act.put, List.setIfInBounds_toArray, List.set_cons_zero, List.set_cons_succ]
            refine wpAnyH_tk (i := 22) (oi := _) (v := ?vE22) rfl rfl (by kernel_rfl) (by kernel_rfl) (by kernel_rfl) (fun _ _ _ h => h) (Or.inl ⟨by kernel_rfl, ?yE22⟩) (by assumption) ?rE22
            case yE22 =>
              intro w hSw
              (try dsimp only at hSw)
              go_simp
              try with_reducible rfl
            try simp only [List.setIfInBounds_toArray, List.set_cons_zero, List.set_cons_succ]
            refine wpAnyH_tk (i := 23) (oi := _) (v := ?vE23) rfl rfl (by kernel_rfl) (by kernel_rfl) (by kernel_rfl) (fun _ _ _ h => h) (Or.inl ⟨by kernel_rfl, ?yE23⟩) (by assumption) ?rE23
            case yE23 =>
              intro w hSw
              (try dsimp only at hSw)
              go_simp
              try with_reducible rfl
            try simp only [List.setIfInBounds_toArray, List.set_cons_zero, List.set_cons_succ]
            refine wpAnyH_tk (i := 24) (oi := _) (v := ?vE24) rfl rfl (by kernel_rfl) (by kernel_rfl) (by kernel_rfl) (fun _ _ _ h => h) (Or.inl ⟨by kernel_rfl, ?yE24⟩) (by assumption) ?rE24
            case yE24 =>
              intro w hSw
              (try dsimp only at hSw)
              go_simp
              try with_reducible rfl
            try simp only [List.setIfInBounds_toArray, List.set_cons_zero, List.set_cons_succ]
            refine wpAnyH_done (by kernel_rfl) ?_ _
            go_wp2
            go_ret
            exact ⟨by simp [heq], HBZ.out.drew⟩
end Go.Proofs.YtmblmenafplccaaGreatDoor
