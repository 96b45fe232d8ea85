/- Walk of the law FindChains. -/
import Derived.Test.YtmblmenafplccaaDoorFindLawC
import Derived.Test.YtmblmenafplccaaDoorFindMathC
import Derived.Test.YtmblmenafplccaaDoorOpenRows
import Derived.Test.YtmblmenafplccaaDoorStrsWalkB
import Derived.Test.YtmblmenafplccaaDoorDigitsWalk
namespace Go.Proofs.YtmblmenafplccaaDoor
open Go.RowKit Go.Deep Go.Maps Ln Pth Vf Qm.Base
attribute [local go_sem] bt_eq

theorem dg_bs : ∀ i : Nat, i < 10 → ds (dgL i) = bs [UInt8.ofNat (48 + i)] := by
  intro i hi
  rw [dgL_small hi]
  have : i = 0 ∨ i = 1 ∨ i = 2 ∨ i = 3 ∨ i = 4 ∨ i = 5 ∨ i = 6 ∨ i = 7 ∨ i = 8 ∨ i = 9 := by omega
  rcases this with rfl | rfl | rfl | rfl | rfl | rfl | rfl | rfl | rfl | rfl <;> rfl
theorem sT_cat (i : Nat) : (⟨#[46, 115]⟩ : ByteArray) ++ bs [UInt8.ofNat (48 + i)] = bs (sT i) := by
  rw [show (⟨#[46, 115]⟩ : ByteArray) = bs [46, 115] from rfl, bs_app]
  rfl
theorem ch_plan' {sl : Ln.T} (hs : lowT sl) (hne : sl ≠ []) (hg : ∀ j, j < 10 → GoodN (sl ++ sT j)) {known : Bool} {D : List Bool} (S : St) {n : Nat} {L : List Rl} (h : ChL sl known D n L) (hn : n ≤ 8) (hD : D.length = n) (hk : ∀ j, j < 10 → (kindM S.m (47 :: (sl ++ sT j)) ≠ 0 ↔ (D[j]? = some true ∧ known = false))) :
    planF S [47] L (sl ++ [46, 111]) = match wantN D n with
      | none => noPn
      | some j => chPn sl j := by
  cases sl with
  | nil => exact absurd rfl hne
  | cons c st => exact ch_plan hs hg S h hn hD hk
def wantI (D : List Bool) (i : Nat) : Int := match wantN D i with
  | none => -1
  | some j => (j : Int)
theorem wantI_no {D : List Bool} {i : Nat} (h : D[i]? = some false) : wantI D (i + 1) = wantI D i := by
  unfold wantI
  rw [wantN]
  cases wantN D i with
  | some j => rfl
  | none => rw [h]; rfl
theorem wantI_first {D : List Bool} {i : Nat} (h : D[i]? = some true) (hw : wantN D i = none) : wantI D (i + 1) = (i : Int) := by
  unfold wantI
  rw [wantN, hw, h]
  rfl
theorem wantI_more {D : List Bool} {i j : Nat} (hw : wantN D i = some j) : wantI D (i + 1) = (j : Int) := by
  unfold wantI
  rw [wantN, hw]
set_option linter.unusedSimpArgs false in
set_option maxRecDepth 100000 in
set_option maxHeartbeats 8000000 in
theorem law_findChains (s : ByteArray) (B : Option Addr) (d : Nat) (D : List Bool) (known : Bool) (h1 : s.size ≤ maxLen) (hl2 : D.length ≤ maxLen) (_hv2 : True) (w : World) (hm : MX w) (hB : BR w B D) :
    Calls Tryd.prog 3 #[.string s, .slice B D.length d, .bool known] w fun e w' => e = .returned (.bool true) ∧ Below w.heap.size w w' := by
  have HM := hide hm
  have HB := hide hB
  clear hm hB
  unfold maxLen at h1 hl2
  obtain ⟨sl, rfl⟩ : ∃ l, s = bs l := ⟨_, (bs_of s).symm⟩
  obtain ⟨m, hdm⟩ : ∃ n, D.length = n := ⟨_, rfl⟩
  rw [hdm] at hl2 ⊢
  have HD := hide hdm
  have ztx := bs_size sl
  obtain ⟨n, hn⟩ : ∃ n, sl.length = n := ⟨_, rfl⟩
  rw [hn] at ztx
  have HN := hide hn
  have HES := hide (empty_bs (l := sl))
  clear hn hdm
  go_enter Tryd.func3, Tryd.ntmps3
  go_wp2_with fail
  refine (alive21_any w HM.out).mono ?_
  rintro e w1 ⟨rfl, hb1⟩
  have HB1 := hide hb1
  clear hb1
  by_cases c1 : 30 < n
  · have d1 : decide ((30 : Int) < (n : Int)) = true := by simp; omega
    go_wp2
    go_ret
    exact ⟨rfl, HB1.out⟩
  have d1 : decide ((30 : Int) < (n : Int)) = false := by simp; omega
  by_cases c2 : sl = []
  · have e1 : (bs sl).toList.isEmpty = true := by rw [HES.out, decide_eq_true c2]
    clear c2
    go_wp2
    go_ret
    exact ⟨rfl, HB1.out⟩
  have e1 : (bs sl).toList.isEmpty = false := by rw [HES.out, decide_eq_false c2]
  have HNE := hide c2
  clear c2
  by_cases c3 : 8 < m
  · have d3 : decide ((8 : Int) < (m : Int)) = true := by simp; omega
    go_wp2
    go_ret
    exact ⟨rfl, HB1.out⟩
  have d3 : decide ((8 : Int) < (m : Int)) = false := by simp; omega
  have hn60 : n ≤ 30 := by omega
  have hni : (n : Int) ≤ 30 := by omega
  have hm8 : m ≤ 8 := by omega
  have hmi : (m : Int) ≤ 8 := by omega
  go_wp2
  go_loopw [8] (fun v8 wr => ∃ k : Nat, v8 = .int .i64 k ∧ k ≤ n ∧ Hid (lowT (sl.take k)) ∧ w1 = wr) (fun v8 _ => n - (intOf v8).toNat)
  case atStart => exact ⟨0, rfl, by omega, (by intro c hc; simp at hc), rfl⟩
  case round =>
    obtain ⟨k, rfl, hk, HLW, rfl⟩ := hrel
    by_cases hlt : k < n
    · have b1 : (k : Int) < (n : Int) := by omega
      obtain ⟨x, hx⟩ : ∃ x, sl[k]? = some x := ⟨sl[k]'(by rw [bs_size] at ztx; omega), List.getElem?_eq_getElem _⟩
      have hbt : bt (bs sl) k = x.toNat := by
        unfold bt bs
        simp [hx]
      have HLS := hide (fun (h : 97 ≤ x ∧ x ≤ 122) => show lowT (sl.take (k + 1)) by
        rw [List.take_add_one, hx]
        exact low_app.2 ⟨HLW.out, fun c hc => by simp at hc; rw [hc]; exact h⟩)
      obtain ⟨xn, hxn⟩ : ∃ m, x.toNat = m := ⟨_, rfl⟩
      have HXN := hide hxn
      rw [hxn] at hbt
      clear hx hxn
      by_cases c6 : xn < 97
      · have d6 : decide ((97 : Int) ≤ (xn : Int)) = false := by simp; omega
        have d6' : decide (97 ≤ xn) = false := by simp; omega
        go_wp2
        go_ret
        exact ⟨rfl, HB1.out⟩
      have d6 : decide ((97 : Int) ≤ (xn : Int)) = true := by simp; omega
      have d6' : decide (97 ≤ xn) = true := by simp; omega
      by_cases c7 : 122 < xn
      · have d7 : decide ((xn : Int) ≤ (122 : Int)) = false := by simp; omega
        have d7' : decide (xn ≤ 122) = false := by simp; omega
        go_wp2
        go_ret
        exact ⟨rfl, HB1.out⟩
      have d7 : decide ((xn : Int) ≤ (122 : Int)) = true := by simp; omega
      have d7' : decide (xn ≤ 122) = true := by simp; omega
      have HNX := hide (HLS.out ⟨UInt8.le_iff_toNat_le.2 (by rw [HXN.out]; show 97 ≤ xn; omega), UInt8.le_iff_toNat_le.2 (by rw [HXN.out]; show xn ≤ 122; omega)⟩)
      clear c6 c7
      go_wp2
      go_roundw
      case rel => exact ⟨k + 1, by go_num, by omega, HNX.out, trivial⟩
      case measure => simp [intOf]; omega
    · obtain rfl : n = k := by omega
      have hlw := HLW.out
      rw [List.take_of_length_le (by rw [bs_size] at ztx; omega)] at hlw
      have HL := hide hlw
      have HGD := hide (good_s hlw HNE.out (by have := HN.out; omega))
      have HMK0 := hide (MKA.new (B := w.heap.size) HB1.out HB1.out.size)
      have hgw : w.heap.size ≤ w1.heap.size := HB1.out.size
      have HNW := hide (vnew_any 20 100 (w1.alloc (.cells #[.slice none 0 0, .slice none 0 0] 27)) (by omega) (by omega) (by omega) (by omega))
      clear hlw
      go_wp2_with fail
      refine HNW.out.mono ?_
      rintro e w5 ⟨rfl, hb5, hv5, hs5⟩
      have HI0 := hide (HMK0.out.add (MKA.fr _ _ _) hb5 (Nat.le_refl _) (VS.fr _ _) hv5 ⟨fun k hk => ⟨hk.2, fun h => h⟩, fun k h => h.elim⟩ (fun k hk => hk.1) (fun k h => h.elim))
      obtain ⟨gf, hgf⟩ : ∃ g, (w1.alloc (.cells #[.slice none 0 0, .slice none 0 0] 27)).heap.size + 1 = g := ⟨_, rfl⟩
      rw [hgf] at HI0 ⊢
      obtain ⟨gm, hgm⟩ : ∃ g, w1.heap.size = g := ⟨_, rfl⟩
      rw [hgm] at HI0 ⊢
      clear hb5 hv5 hs5 HNW HMK0 hgf hgm hgw
      go_wp2
      go_loopw [11, 12, 13] (fun v11 v12 _ wr => ∃ (i : Nat) (L : List Rl) (S : St), v11 = .int .i64 (wantI D i) ∧ v12 = .int .i64 i ∧ i ≤ m ∧ ChL sl known D i L ∧ FsC sl known D i S ∧ InvN (sep (MKA w.heap.size gm L) (VS gf S)) w.heap.size w wr) (fun _ v12 _ _ => m - (intOf v12).toNat)
      case atStart => exact ⟨0, [], _, rfl, rfl, by omega, .nil, FsC.new _ _ _, HI0.out⟩
      case round =>
        obtain ⟨i, L, S, rfl, rfl, hi, hch, hfs, hinv⟩ := hrel
        generalize wr = wo at *
        have HCH := hide hch
        have HFS := hide hfs
        have HI := hide hinv
        have HBO := hide hinv.below
        have HBR := hide (HB.out.below hinv.below)
        clear hch hfs hinv
        by_cases hlt2 : i < m
        · obtain ⟨b0, hb0⟩ : ∃ x, D[i]? = some x := ⟨D[i]'(by have := HD.out; omega), List.getElem?_eq_getElem _⟩
          obtain ⟨gb, ob, rfl, hgb, hcb⟩ := HBR.out i b0 hb0
          have HDI := hide hb0
          have b1 : (i : Int) < (m : Int) := by omega
          have HDG := hide (fun W => digits_any i W (by omega))
          rw [dg_bs i (by omega)] at HDG
          have hz1 : (bs [UInt8.ofNat (48 + i)]).size = 1 := by rw [bs_size]; rfl
          have hsc := sT_cat i
          obtain ⟨dg, hdg⟩ : ∃ x, bs [UInt8.ofNat (48 + i)] = x := ⟨_, rfl⟩
          rw [hdg] at HDG hz1 hsc
          have HSC := hide hsc
          have HP1 := hide (show (⟨#[37]⟩ : ByteArray) ++ (⟨#[46, 115]⟩ ++ dg) = bs (37 :: sT i) by rw [hsc, show (⟨#[37]⟩ : ByteArray) = bs [37] from rfl, bs_app]; rfl)
          have HP2 := hide (show (⟨#[114]⟩ : ByteArray) ++ (⟨#[46, 115]⟩ ++ dg) = bs (114 :: sT i) by rw [hsc, show (⟨#[114]⟩ : ByteArray) = bs [114] from rfl, bs_app]; rfl)
          have HP3 := hide (show (⟨#[47]⟩ : ByteArray) ++ bs sl ++ (⟨#[46, 115]⟩ ++ dg) = bs (47 :: (sl ++ sT i)) by rw [hsc, show (⟨#[47]⟩ : ByteArray) = bs [47] from rfl, bs_app, bs_app]; rfl)
          have HP4 := hide (show bs sl ++ (⟨#[46, 115]⟩ ++ dg) = bs (sl ++ sT i) by rw [hsc, bs_app])
          obtain ⟨T, N, hmk, ok, ht, close⟩ := HI.out.opn (VS.fr _ _) (Nat.le_refl _)
          have hln := ch_len HCH.out
          have hba := (Below.refl wo.heap.size wo).alloc (Nat.le_refl _) (.cells #[.string ⟨#[37, 46, 111]⟩] 9)
          have hbb := hba.alloc (by simp) (.cells #[.string (⟨#[37]⟩ ++ (⟨#[46, 115]⟩ ++ dg))] 9)
          have hbc := hbb.alloc (by simp <;> omega) (.cells #[.string (⟨#[114]⟩ ++ (⟨#[46, 115]⟩ ++ dg))] 9)
          obtain ⟨Wx, hWx⟩ : ∃ W, ((wo.alloc (.cells #[.string ⟨#[37, 46, 111]⟩] 9)).alloc (.cells #[.string (⟨#[37]⟩ ++ (⟨#[46, 115]⟩ ++ dg))] 9)).alloc (.cells #[.string (⟨#[114]⟩ ++ (⟨#[46, 115]⟩ ++ dg))] 9) = W := ⟨_, rfl⟩
          have hn1 : Wx.heap[wo.heap.size]? = some (.cells #[.string ⟨#[37, 46, 111]⟩] 9) := by
            rw [← hWx, Below.heap_alloc _ _ _ (by simp <;> omega), Below.heap_alloc _ _ _ (by simp)]
            exact heapNew _ _
          have hn2 : Wx.heap[wo.heap.size + 1]? = some (.cells #[.string (⟨#[37]⟩ ++ (⟨#[46, 115]⟩ ++ dg))] 9) := by
            rw [← hWx, Below.heap_alloc _ _ _ (by simp)]
            have := heapNew (wo.alloc (.cells #[.string ⟨#[37, 46, 111]⟩] 9)) (.cells #[.string (⟨#[37]⟩ ++ (⟨#[46, 115]⟩ ++ dg))] 9)
            simpa using this
          have hn3 : Wx.heap[wo.heap.size + 1 + 1]? = some (.cells #[.string (⟨#[114]⟩ ++ (⟨#[46, 115]⟩ ++ dg))] 9) := by
            have := heapNew ((wo.alloc (.cells #[.string ⟨#[37, 46, 111]⟩] 9)).alloc (.cells #[.string (⟨#[37]⟩ ++ (⟨#[46, 115]⟩ ++ dg))] 9)) (.cells #[.string (⟨#[114]⟩ ++ (⟨#[46, 115]⟩ ++ dg))] 9)
            rw [hWx] at this
            simpa using this
          have hzx : Wx.heap.size = wo.heap.size + 1 + 1 + 1 := by rw [← hWx]; simp
          rw [hWx] at hbc
          obtain ⟨p, hp⟩ : ∃ r : Rl, r = ⟨(some ⟨wo.heap.size, 0, none⟩, 1, [⟨#[37, 46, 111]⟩]), (some ⟨wo.heap.size + 1, 0, none⟩, 1, [⟨#[37]⟩ ++ (⟨#[46, 115]⟩ ++ dg)]), (some ⟨wo.heap.size + 1 + 1, 0, none⟩, 1, [⟨#[114]⟩ ++ (⟨#[46, 115]⟩ ++ dg)])⟩ := ⟨_, rfl⟩
          have HPT := hide (show IsPt i p from by rw [hp, HP1.out, HP2.out]; exact ⟨rfl, rfl, rfl⟩)
          obtain ⟨Aa, ca, v', W', ea1, ea2, hrun, ⟨A', c', rfl⟩, ea4, T', N', hmk', hg', hk'⟩ := hmk.app ok hbc p (by
            rw [hp]
            exact ⟨sr_one hn1, sr_one hn2, sr_one hn3, by simp, by simp, by simp⟩) (by
            rw [hp]
            refine ⟨fun a e _ => .inr ?_, fun a e _ => .inr ?_, fun a e _ => .inr ?_⟩
            all_goals
              injection e with e
              subst e
              rw [hzx]
              dsimp only
              omega) (by omega)
          have HI2 := hide (close _ _ _ _ hmk' hg' hk')
          have hrun' : (Builtin.append_ #[25, 25] 25 #[.slice Aa L.length ca, .slice (some ⟨wo.heap.size + 1 + 1 + 1, 0, none⟩) 1 1]).run Tryd.prog ((((wo.alloc (.cells #[.string ⟨#[37, 46, 111]⟩] 9)).alloc (.cells #[.string (⟨#[37]⟩ ++ (⟨#[46, 115]⟩ ++ dg))] 9)).alloc (.cells #[.string (⟨#[114]⟩ ++ (⟨#[46, 115]⟩ ++ dg))] 9)).alloc (.cells #[.slice (some ⟨wo.heap.size, 0, none⟩) 1 1, .slice (some ⟨wo.heap.size + 1, 0, none⟩) 1 1, .slice (some ⟨wo.heap.size + 1 + 1, 0, none⟩) 1 1] 33)) = .ok (.slice A' (L.length + 1) c') W' := by
            rw [hp, hzx] at hrun
            rw [hWx]
            simpa [sv] using hrun
          have hy1 : wo.cell? ⟨gm, 1, none⟩ = some (.slice Aa L.length ca) := cellOf ea1 (j := 1) rfl
          have hy4 : W'.cell? ⟨gm, 1, none⟩ = some (.slice Aa L.length ca) := cellOf ea4 (j := 1) rfl
          have hz4 := freeOf ea4 1
          have HL8 := hide hln
          obtain ⟨_, _, e0, _, hcb2⟩ := (HB.out.below HI2.out.below) i b0 hb0
          cases e0
          clear hb0 hmk ok ht close hba hbb hbc hn1 hn2 hn3 hzx hWx hp ea1 ea2 hrun ea4 hmk' hg' hk' hdg hsc hln
          go_wp2_with fail
          refine (HDG.out wo).mono ?_
          rintro e w' ⟨rfl, rfl⟩
          go_upto_if 77 with (at_builtin; refine wpList_app_run ?_ (.tmp 62) (.tmp 71) ?_ ?_ ?_ ?_ hrun' ?_; exact rfl; exact rfl; exact rfl; exact rfl; exact rfl)
          obtain ⟨W2, hW2⟩ : ∃ W, W'.setCell ⟨gm, 1, none⟩ (.slice A' (L.length + 1) c') = W := ⟨_, rfl⟩
          rw [hW2] at HI2 ⊢
          clear hW2 hrun' hy1 hy4 hz4 hcb2 hcb
          cases b0 with
          | false =>
            have HFY := hide (HFS.out.no (by rw [HDI.out]; simp))
            have HW := hide (wantI_no HDI.out)
            go_wp2
            go_roundw
            case rel => exact ⟨i + 1, L ++ [p], _, by rw [HW.out], by go_num, by omega, .no HCH.out HPT.out (by rw [HDI.out]; simp), HFY.out, HI2.out⟩
            case measure => simp [intOf]; omega
          | true =>
            cases hw : wantN D i with
            | none =>
              have hwi : wantI D i = -1 := by unfold wantI; rw [hw]
              have HW := hide (wantI_first HDI.out hw)
              clear hw
              cases known with
              | false =>
                have HFY := hide (HFS.out.yes (by omega) (HGD.out i (by omega)) HDI.out rfl)
                obtain ⟨T, N, hvs, ok, ht, close⟩ := HI2.out.comm.opn (MKA.fr _ _ _) (Nat.le_refl _)
                have HWR := hide (write_any gf S (47 :: (sl ++ sT i)) [] false none 0 T N W2 hvs ok HFS.out.wf (HM.out.below HI2.out.below) (by have := HN.out; simp [sT]; omega) (by rw [HFS.out.bytes]; omega) (by simp) (by have := HFS.out.clock; omega) (RG.nil _ _))
                have HCLOSE := hide close
                clear hvs ok ht close
                go_wp2_with fail
                rw [HP3.out]
                refine HWR.out.mono ?_
                rintro e w7 ⟨rfl, N7, hv7, hg7, hk7⟩
                have HI7 := hide (HCLOSE.out _ _ _ _ hv7 hg7 hk7).comm
                clear hv7 hg7 hk7
                go_wp2
                go_roundw
                case rel => exact ⟨i + 1, L ++ [p], _, by rw [HW.out], by go_num, by omega, .no HCH.out HPT.out (by simp), HFY.out, HI7.out⟩
                case measure => simp [intOf]; omega
              | true =>
                have HFY := hide (HFS.out.no (by simp))
                obtain ⟨T, N, hmk, ok, ht, close⟩ := HI2.out.opn (VS.fr _ _) (Nat.le_refl _)
                have hba := (Below.refl W2.heap.size W2).alloc (Nat.le_refl _) (.cells #[.string (bs sl ++ (⟨#[46, 115]⟩ ++ dg))] 9)
                have hn1 := heapNew W2 (.cells #[.string (bs sl ++ (⟨#[46, 115]⟩ ++ dg))] 9)
                obtain ⟨kr, hkr⟩ : ∃ r : Rl, r = ⟨(some ⟨W2.heap.size, 0, none⟩, 1, [bs sl ++ (⟨#[46, 115]⟩ ++ dg)]), (none, 0, []), (none, 0, [])⟩ := ⟨_, rfl⟩
                have HKR := hide (show IsKn sl i kr from by rw [hkr, HP4.out]; exact ⟨rfl, rfl, rfl⟩)
                obtain ⟨Ab, cb, v8, W8, eb1, eb2, hrun, ⟨A9, c9, rfl⟩, eb4, T', N', hmk', hg', hk'⟩ := hmk.app ok hba kr (by
                  rw [hkr]
                  exact ⟨sr_one hn1, SR.nil _ _, SR.nil _ _, by simp, by simp, by simp⟩) (by
                  rw [hkr]
                  refine ⟨fun a e _ => .inr ?_, fun a e _ => (by cases e), fun a e _ => (by cases e)⟩
                  injection e with e
                  subst e
                  simp) (by have := HL8.out; simp; omega)
                have HI7 := hide (close _ _ _ _ hmk' hg' hk')
                rw [show (L ++ [p]).length = L.length + 1 by simp] at hrun eb1 eb2 eb4 HI7
                have hrun' : (Builtin.append_ #[25, 25] 25 #[.slice Ab (L.length + 1) cb, .slice (some ⟨W2.heap.size + 1, 0, none⟩) 1 1]).run Tryd.prog ((W2.alloc (.cells #[.string (bs sl ++ (⟨#[46, 115]⟩ ++ dg))] 9)).alloc (.cells #[.slice (some ⟨W2.heap.size, 0, none⟩) 1 1, .slice none 0 0, .slice none 0 0] 33)) = .ok (.slice A9 (L.length + 1 + 1) c9) W8 := by
                  rw [hkr] at hrun
                  simpa [sv] using hrun
                have hy1 : W2.cell? ⟨gm, 1, none⟩ = some (.slice Ab (L.length + 1) cb) := cellOf eb1 (j := 1) rfl
                have hy4 : W8.cell? ⟨gm, 1, none⟩ = some (.slice Ab (L.length + 1) cb) := cellOf eb4 (j := 1) rfl
                have hz4 := freeOf eb4 1
                clear hmk ok ht close hba hn1 hkr eb1 eb2 hrun eb4 hmk' hg' hk'
                go_wp2_with (at_builtin; refine wpList_app_run ?_ (.tmp 83) (.tmp 89) ?_ ?_ ?_ ?_ hrun' ?_; exact rfl; exact rfl; exact rfl; exact rfl; exact rfl)
                go_roundw
                case rel => exact ⟨i + 1, L ++ [p] ++ [kr], _, by rw [HW.out], by go_num, by omega, .yes HCH.out HPT.out HDI.out rfl HKR.out, HFY.out, HI7.out⟩
                case measure => simp [intOf]; omega
            | some j =>
              have hwi : wantI D i = (j : Int) := by unfold wantI; rw [hw]
              have HW := hide (wantI_more hw)
              clear hw
              cases known with
              | false =>
                have HFY := hide (HFS.out.yes (by omega) (HGD.out i (by omega)) HDI.out rfl)
                obtain ⟨T, N, hvs, ok, ht, close⟩ := HI2.out.comm.opn (MKA.fr _ _ _) (Nat.le_refl _)
                have HWR := hide (write_any gf S (47 :: (sl ++ sT i)) [] false none 0 T N W2 hvs ok HFS.out.wf (HM.out.below HI2.out.below) (by have := HN.out; simp [sT]; omega) (by rw [HFS.out.bytes]; omega) (by simp) (by have := HFS.out.clock; omega) (RG.nil _ _))
                have HCLOSE := hide close
                clear hvs ok ht close
                go_wp2_with fail
                rw [HP3.out]
                refine HWR.out.mono ?_
                rintro e w7 ⟨rfl, N7, hv7, hg7, hk7⟩
                have HI7 := hide (HCLOSE.out _ _ _ _ hv7 hg7 hk7).comm
                clear hv7 hg7 hk7
                go_wp2
                go_roundw
                case rel => exact ⟨i + 1, L ++ [p], _, by rw [HW.out], by go_num, by omega, .no HCH.out HPT.out (by simp), HFY.out, HI7.out⟩
                case measure => simp [intOf]; omega
              | true =>
                have HFY := hide (HFS.out.no (by simp))
                obtain ⟨T, N, hmk, ok, ht, close⟩ := HI2.out.opn (VS.fr _ _) (Nat.le_refl _)
                have hba := (Below.refl W2.heap.size W2).alloc (Nat.le_refl _) (.cells #[.string (bs sl ++ (⟨#[46, 115]⟩ ++ dg))] 9)
                have hn1 := heapNew W2 (.cells #[.string (bs sl ++ (⟨#[46, 115]⟩ ++ dg))] 9)
                obtain ⟨kr, hkr⟩ : ∃ r : Rl, r = ⟨(some ⟨W2.heap.size, 0, none⟩, 1, [bs sl ++ (⟨#[46, 115]⟩ ++ dg)]), (none, 0, []), (none, 0, [])⟩ := ⟨_, rfl⟩
                have HKR := hide (show IsKn sl i kr from by rw [hkr, HP4.out]; exact ⟨rfl, rfl, rfl⟩)
                obtain ⟨Ab, cb, v8, W8, eb1, eb2, hrun, ⟨A9, c9, rfl⟩, eb4, T', N', hmk', hg', hk'⟩ := hmk.app ok hba kr (by
                  rw [hkr]
                  exact ⟨sr_one hn1, SR.nil _ _, SR.nil _ _, by simp, by simp, by simp⟩) (by
                  rw [hkr]
                  refine ⟨fun a e _ => .inr ?_, fun a e _ => (by cases e), fun a e _ => (by cases e)⟩
                  injection e with e
                  subst e
                  simp) (by have := HL8.out; simp; omega)
                have HI7 := hide (close _ _ _ _ hmk' hg' hk')
                rw [show (L ++ [p]).length = L.length + 1 by simp] at hrun eb1 eb2 eb4 HI7
                have hrun' : (Builtin.append_ #[25, 25] 25 #[.slice Ab (L.length + 1) cb, .slice (some ⟨W2.heap.size + 1, 0, none⟩) 1 1]).run Tryd.prog ((W2.alloc (.cells #[.string (bs sl ++ (⟨#[46, 115]⟩ ++ dg))] 9)).alloc (.cells #[.slice (some ⟨W2.heap.size, 0, none⟩) 1 1, .slice none 0 0, .slice none 0 0] 33)) = .ok (.slice A9 (L.length + 1 + 1) c9) W8 := by
                  rw [hkr] at hrun
                  simpa [sv] using hrun
                have hy1 : W2.cell? ⟨gm, 1, none⟩ = some (.slice Ab (L.length + 1) cb) := cellOf eb1 (j := 1) rfl
                have hy4 : W8.cell? ⟨gm, 1, none⟩ = some (.slice Ab (L.length + 1) cb) := cellOf eb4 (j := 1) rfl
                have hz4 := freeOf eb4 1
                clear hmk ok ht close hba hn1 hkr eb1 eb2 hrun eb4 hmk' hg' hk'
                go_wp2_with (at_builtin; refine wpList_app_run ?_ (.tmp 83) (.tmp 89) ?_ ?_ ?_ ?_ hrun' ?_; exact rfl; exact rfl; exact rfl; exact rfl; exact rfl)
                go_roundw
                case rel => exact ⟨i + 1, L ++ [p] ++ [kr], _, by rw [HW.out], by go_num, by omega, .yes HCH.out HPT.out HDI.out rfl HKR.out, HFY.out, HI7.out⟩
                case measure => simp [intOf]; omega
        · obtain rfl : m = i := by omega
          have hmk := HI.out.fst
          obtain ⟨Am, cm, hgmm, hrl⟩ := MKA.done hmk
          have hvs := HI.out.snd.hs
          have hll := ch_len HCH.out
          have hall := ch_all HCH.out
          have HSZ := hide (SzL.of (L := L) (bs (sl ++ [46, 111])) (fun r hr => by
            have hnn := HN.out
            rcases hall r hr with ⟨j, h1, h2⟩ | ⟨j, h1, h2⟩
            · rw [h2.t, h2.n]
              refine ⟨⟨by simp, by simp⟩, fun x hx => ?_, fun x hx => ?_⟩
              · rw [List.mem_singleton.1 hx, bs_size]; simp
              · rw [List.mem_singleton.1 hx, bs_size]; simp [sT]
            · rw [h2.t, h2.n]
              refine ⟨⟨by simp, by simp⟩, fun x hx => ?_, fun x hx => (by cases hx)⟩
              rw [List.mem_singleton.1 hx, bs_size]
              simp [sT]
              omega) (by omega))
          have hplan := ch_plan' HL.out HNE.out HGD.out S HCH.out hm8 HD.out (HFS.out.kinds HD.out HGD.out)
          have hpo := plan_any { mac := .slice none 0 0, A := Am, c := cm, L := L, gf := gf, S := S, cwd := [47], target := sl ++ [46, 111] } wo ⟨hrl, hvs, HM.out.below HBO.out, by simp, by have := HN.out; simp; omega, by dsimp only; omega⟩ ⟨HSZ.out.rl, HSZ.out.pn, HSZ.out.ss, HSZ.out.kn, HSZ.out.sp⟩ HSZ.out.sn
          dsimp only at hpo
          rw [hplan] at hpo
          have HT3 := hide (show bs sl ++ (⟨#[46, 111]⟩ : ByteArray) = bs (sl ++ [46, 111]) by rw [show (⟨#[46, 111]⟩ : ByteArray) = bs [46, 111] from rfl, bs_app])
          have hx0 : wo.cell? ⟨gm, 0, none⟩ = some (.slice none 0 0) := cellOf hgmm (j := 0) rfl
          have hx1 : wo.cell? ⟨gm, 1, none⟩ = some (.slice Am L.length cm) := cellOf hgmm (j := 1) rfl
          unfold PlanPost at hpo
          cases hw : wantN D m with
          | none =>
            have hwi : wantI D m = -1 := by unfold wantI; rw [hw]
            rw [hw] at hpo
            dsimp only at hpo
            rw [show noPn = ⟨[], [], [], false⟩ from rfl] at hpo
            dsimp only at hpo
            rw [show bs [] = ⟨#[]⟩ from rfl] at hpo
            have HPL := hide hpo
            clear hw hpo hplan hmk hgmm hrl hvs hll hall
            go_wp2_with fail
            rw [HT3.out]
            refine HPL.out.mono ?_
            rintro e w7 ⟨vn, vr, rfl, ho1, ho2, hb7⟩
            obtain ⟨A6, c6, rfl, _, s6, _⟩ := ho1.slice
            obtain ⟨A7, c7, rfl, _, s7, _⟩ := ho2.slice
            have HB7 := hide (below_up HBO.out hb7 HBO.out.size)
            clear ho1 ho2 hb7 s6 s7
            simp only [List.length_nil]
            go_wp2
            go_ret
            exact ⟨rfl, HB7.out.alloc HB7.out.size _⟩
          | some j =>
            have hjm := wantN_lt hw
            have hwi : wantI D m = (j : Int) := by unfold wantI; rw [hw]
            rw [hw] at hpo
            dsimp only at hpo
            unfold chPn at hpo
            dsimp only at hpo
            have HPL := hide hpo
            have HDG := hide (fun W => digits_any j W (by omega))
            rw [dg_bs j (by omega)] at HDG
            have hz1 : (bs [UInt8.ofNat (48 + j)]).size = 1 := by rw [bs_size]; rfl
            have hsc := sT_cat j
            obtain ⟨dg, hdg⟩ : ∃ x, bs [UInt8.ofNat (48 + j)] = x := ⟨_, rfl⟩
            rw [hdg] at HDG hz1 hsc
            have hp4 : bs sl ++ (⟨#[46, 115]⟩ ++ dg) = bs (sl ++ sT j) := by rw [hsc, bs_app]
            have hp2 : (⟨#[114]⟩ : ByteArray) ++ (⟨#[46, 115]⟩ ++ dg) = bs (114 :: sT j) := by rw [hsc, show (⟨#[114]⟩ : ByteArray) = bs [114] from rfl, bs_app]; rfl
            rw [← hp4, ← hp2] at HPL
            clear hw hpo hplan hmk hgmm hrl hvs hll hall hdg hsc hp4 hp2 hjm
            go_wp2_with fail
            rw [HT3.out]
            refine HPL.out.mono ?_
            rintro e w7 ⟨vn, vr, rfl, ho1, ho2, hb7⟩
            obtain ⟨A6, c6, rfl, _, s6, _⟩ := ho1.slice
            obtain ⟨A7, c7, rfl, _, s7, _⟩ := ho2.slice
            have HB7 := hide (below_up HBO.out hb7 HBO.out.size)
            have HS6 := hide s6
            have HS7 := hide s7
            clear ho1 ho2 hb7 s6 s7
            simp only [List.length_cons, List.length_nil, Nat.zero_add]
            have hdn : decide ((j : Int) < 0) = false := by simp
            go_wp2_with fail
            refine (HDG.out _).mono ?_
            rintro e w' ⟨rfl, rfl⟩
            have hbp := (Below.refl w7.heap.size w7).alloc (Nat.le_refl _) (.cells #[.slice A6 1 c6, .slice A7 1 c7, .string (bs sl), .bool true] 37)
            have hb8 := hbp.alloc (by simp) (.cells #[.string (bs sl ++ (⟨#[46, 115]⟩ ++ dg))] 9)
            have hgp : ((w7.alloc (.cells #[.slice A6 1 c6, .slice A7 1 c7, .string (bs sl), .bool true] 37)).alloc (.cells #[.string (bs sl ++ (⟨#[46, 115]⟩ ++ dg))] 9)).heap[w7.heap.size]? = some (.cells #[.slice A6 1 c6, .slice A7 1 c7, .string (bs sl), .bool true] 37) := (Below.heap_alloc _ _ _ (by simp)).trans (heapNew _ _)
            have hsn := sr_new (w7.alloc (.cells #[.slice A6 1 c6, .slice A7 1 c7, .string (bs sl), .bool true] 37)) (bs sl ++ (⟨#[46, 115]⟩ ++ dg))
            rw [show (w7.alloc (.cells #[.slice A6 1 c6, .slice A7 1 c7, .string (bs sl), .bool true] 37)).heap.size = w7.heap.size + 1 by simp] at hsn
            have hsm := same_any A6 (some ⟨w7.heap.size + 1, 0, none⟩) c6 1 [bs sl ++ (⟨#[46, 115]⟩ ++ dg)] [bs sl ++ (⟨#[46, 115]⟩ ++ dg)] _ (HS6.out.below hb8) hsn (by simp)
            rw [decide_eq_true rfl] at hsm
            have HSM := hide hsm
            have HB8 := hide hb8
            have HGP := hide hgp
            clear hbp hb8 hgp hsn hsm
            go_wp2_with fail
            refine HSM.out.mono ?_
            rintro e w8 ⟨rfl, hdr⟩
            have hb9 : Below w7.heap.size w7 w8 := by
              obtain ⟨nd, rfl⟩ := hdr
              exact below_drewN HB8.out nd
            have hgp8 : w8.heap[w7.heap.size]? = some (.cells #[.slice A6 1 c6, .slice A7 1 c7, .string (bs sl), .bool true] 37) := by
              obtain ⟨nd, rfl⟩ := hdr
              exact HGP.out
            have hq1 : w8.cell? ⟨w7.heap.size, 1, none⟩ = some (.slice A7 1 c7) := cellOf hgp8 (j := 1) rfl
            have hbq := (Below.refl w8.heap.size w8).alloc (Nat.le_refl _) (.cells #[.string (⟨#[114]⟩ ++ (⟨#[46, 115]⟩ ++ dg))] 9)
            have hsm := same_any A7 (some ⟨w8.heap.size, 0, none⟩) c7 1 [⟨#[114]⟩ ++ (⟨#[46, 115]⟩ ++ dg)] [⟨#[114]⟩ ++ (⟨#[46, 115]⟩ ++ dg)] _ ((HS7.out.below hb9).below hbq) (sr_new w8 _) (by simp)
            rw [decide_eq_true rfl] at hsm
            have HSM2 := hide hsm
            have HBQ := hide (below_up (below_up HB7.out hb9 HB7.out.size) hbq (by have := HB7.out.size; have := hb9.size; omega))
            clear hdr hb9 hgp8 hbq hsm
            go_wp2_with fail
            refine HSM2.out.mono ?_
            rintro e w9 ⟨rfl, hdr⟩
            have HBZ := hide (show Below w.heap.size w w9 by
              obtain ⟨nd, rfl⟩ := hdr
              exact below_drewN HBQ.out nd)
            clear hdr
            go_wp2
            go_ret
            exact ⟨rfl, HBZ.out⟩
end Go.Proofs.YtmblmenafplccaaDoor
