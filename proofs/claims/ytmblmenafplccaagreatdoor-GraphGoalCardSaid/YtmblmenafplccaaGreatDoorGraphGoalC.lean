/- Walk of the law GraphGoal. -/
import Derived.Test.YtmblmenafplccaaGreatDoorGraphGoalA
import Derived.Test.YtmblmenafplccaaGreatDoorOpenRows
import Derived.Laws.BitsLemmas
import Derived.IntWalk
namespace Go.Proofs.YtmblmenafplccaaGreatDoor
open Go.RowKit Go.Deep Go.Maps Ln Pth Vf
set_option linter.unusedSimpArgs false
set_option linter.unusedVariables false
attribute [local go_sem] bt_eq

theorem and1023G (x : Int) : ∃ z : Nat, z ≤ 1023 ∧ bits .and .i64 x 1023 = (z : Int) := by
  have h1 : (BitVec.ofInt 64 x &&& BitVec.ofInt 64 1023).toNat ≤ 1023 := by
    rw [BitVec.toNat_and]
    have h : (BitVec.ofInt 64 1023).toNat = 1023 := by decide
    rw [h]
    exact Nat.and_le_right
  refine ⟨(BitVec.ofInt 64 x &&& BitVec.ofInt 64 1023).toNat, h1, ?_⟩
  show IntKind.i64.wrap ((BitVec.ofInt 64 x &&& BitVec.ofInt 64 1023).toNat : Int) = _
  exact IntWalk.i64_in _ (by omega)
theorem empty_iff {s : ByteArray} : s.toList.isEmpty = decide (s = ⟨#[]⟩) := by
  rw [Bool.eq_iff_iff, decide_eq_true_eq, ByteArray.toList_eq, List.isEmpty_iff]
  constructor
  · intro h
    exact ByteArray.ext (Array.ext' (by simpa using h))
  · rintro rfl
    rfl
set_option maxRecDepth 100000 in
set_option maxHeartbeats 16000000 in
theorem law_graphGoal (A : Option Addr) (c : Nat) (D : List Int) (hl : D.length ≤ maxLen) (hv : ∀ (k : Nat) (x : Int), D[k]? = some x → -9223372036854775808 ≤ x ∧ x ≤ 9223372036854775807) (w : World) (hm : MX w) (hA : IR w A D) :
    Calls Tryz.prog 4 #[.slice A D.length c] w fun e w' => e = .returned (.bool true) ∧ Below w.heap.size w w' := by
  unfold maxLen at hl
  have HA := hide hA
  have HV := hide hv
  have HM := hide hm
  clear hA hv hm
  obtain ⟨n, hn⟩ : ∃ n, D.length = n := ⟨_, rfl⟩
  rw [hn] at hl ⊢
  have HN := hide hn
  clear hn
  have hl1 : (n : Int) ≤ 9223372036854775807 := by omega
  go_enter Tryz.func4, Tryz.ntmps4
  go_wp2_with fail
  refine (alive22_any w HM.out).mono ?_
  rintro e w1 ⟨rfl, hb1⟩
  have HB1 := hide hb1
  clear hb1
  by_cases c1 : 12 < n
  · have d1 : (12 : Int) < (n : Int) := by omega
    go_wp2
    go_ret
    exact ⟨rfl, HB1.out⟩
  have d1 : (n : Int) ≤ 12 := by omega
  have hn12 : n ≤ 12 := by omega
  clear c1
  have hgw : w.heap.size ≤ w1.heap.size := HB1.out.size
  have HMK0 := hide ((MKA.new (B := w.heap.size) HB1.out hgw).new (MKA.fr _ _ _) (.cells #[.string ⟨#[46, 80, 72, 79, 78, 89]⟩, .string ⟨#[37, 46, 111]⟩, .string ⟨#[46, 99, 46, 111]⟩, .string ⟨#[97]⟩, .string ⟨#[46, 47, 98]⟩, .string ⟨#[46, 120, 47, 121]⟩] 9) (Nat.le_refl _))
  obtain ⟨gm, hgm⟩ : ∃ g, w1.heap.size = g := ⟨_, rfl⟩
  go_wp2_with fail
  have hsz : (w1.alloc (.cells #[.slice none 0 0, .slice none 0 0] 26)).heap.size = gm + 1 := by simp [hgm]
  rw [hsz, hgm] at HMK0
  (try rw [hgm])
  have HGM := hide hgm
  clear hgm hsz
  go_loopw [6, 7, 8] (fun v6 v7 _ wr => ∃ (i : Nat) (L : List Rl) (want : ByteArray), v6 = .string want ∧ v7 = .int .i64 i ∧ i ≤ n ∧ L.length = i ∧ Hid (goalO L = wantO want) ∧ want.size ≤ 10 ∧ InvN (sep (MKA w.heap.size gm L) (BlkN (gm + 1) (.cells #[.string ⟨#[46, 80, 72, 79, 78, 89]⟩, .string ⟨#[37, 46, 111]⟩, .string ⟨#[46, 99, 46, 111]⟩, .string ⟨#[97]⟩, .string ⟨#[46, 47, 98]⟩, .string ⟨#[46, 120, 47, 121]⟩] 9))) w.heap.size w wr) (fun _ v7 _ _ => n - (intOf v7).toNat)
  case atStart => exact ⟨0, [], ⟨#[]⟩, rfl, rfl, by omega, rfl, rfl, by decide, HMK0.out⟩
  case round =>
    obtain ⟨i, L, want, rfl, rfl, hi, hlen, HGO, hws, hinv⟩ := hrel
    generalize wr = wo at *
    have HI := hide hinv
    have HBO := hide hinv.below
    clear hinv
    by_cases hlt : i < n
    · obtain ⟨x, hx⟩ : ∃ x, D[i]? = some x := ⟨D[i]'(by have := HN.out; omega), List.getElem?_eq_getElem _⟩
      obtain ⟨gs, os, rfl, hgs, hcs⟩ := (HA.out.below HBO.out) i x hx
      obtain ⟨hx1, hx2⟩ := HV.out i x hx
      have b1 : (i : Int) < (n : Int) := by omega
      obtain ⟨z, hz1, hz2⟩ := and1023G x
      clear hx
      have hbn : wo.heap[gm + 1]? = some (.cells #[.string ⟨#[46, 80, 72, 79, 78, 89]⟩, .string ⟨#[37, 46, 111]⟩, .string ⟨#[46, 99, 46, 111]⟩, .string ⟨#[97]⟩, .string ⟨#[46, 47, 98]⟩, .string ⟨#[46, 120, 47, 121]⟩] 9) := by
        obtain ⟨T, N, ⟨_, hb⟩, _⟩ := HI.out.snd
        exact hb
      have h6 : z % 6 = 0 ∨ z % 6 = 1 ∨ z % 6 = 2 ∨ z % 6 = 3 ∨ z % 6 = 4 ∨ z % 6 = 5 := by omega
      rcases h6 with h6 | h6 | h6 | h6 | h6 | h6
      · have hz3 : (z : Int).tmod 6 = 0 := by rw [Int.tmod_eq_emod_of_nonneg (by omega)]; omega
        have hz4 : (z : Int) % 6 = 0 := by omega
        have hnm := cellOf hbn (j := 0) (v := .string ⟨#[46, 80, 72, 79, 78, 89]⟩) rfl
        obtain ⟨T, N, hmk, ok, ht, close⟩ := HI.out.opn (BlkN.fr _ _) (Nat.le_refl _)
        have hba := (Below.refl wo.heap.size wo).alloc (Nat.le_refl _) (.cells #[.string ⟨#[46, 80, 72, 79, 78, 89]⟩, .string ⟨#[122]⟩] 9)
        have hn1 : SR (wo.alloc (.cells #[.string ⟨#[46, 80, 72, 79, 78, 89]⟩, .string ⟨#[122]⟩] 9)) (some ⟨wo.heap.size, 0, none⟩) [⟨#[46, 80, 72, 79, 78, 89]⟩, ⟨#[122]⟩] := sr_two wo ⟨#[46, 80, 72, 79, 78, 89]⟩ ⟨#[122]⟩
        obtain ⟨p, hp⟩ : ∃ r : Rl, r = ⟨(some ⟨wo.heap.size, 0, none⟩, 2, [⟨#[46, 80, 72, 79, 78, 89]⟩, ⟨#[122]⟩]), (none, 0, []), (none, 0, [])⟩ := ⟨_, rfl⟩
        obtain ⟨Aa, ca, v', W', ea1, ea2, hrun, ⟨A', c', rfl⟩, ea4, T', N', hmk', hg', hk'⟩ := hmk.app ok hba p (by
          rw [hp]
          exact ⟨hn1, SR.nil _ _, SR.nil _ _, by simp, by simp, by simp⟩) (by
          rw [hp]
          refine ⟨fun a e _ => .inr ?_, fun a e _ => (by cases e), fun a e _ => (by cases e)⟩
          injection e with e
          subst e
          simp) (by omega)
        have HI2 := hide (close _ _ _ _ hmk' hg' hk')
        have hrun' : (Builtin.append_ #[24, 24] 24 #[.slice Aa L.length ca, .slice (some ⟨wo.heap.size + 1, 0, none⟩) 1 1]).run Tryz.prog ((wo.alloc (.cells #[.string ⟨#[46, 80, 72, 79, 78, 89]⟩, .string ⟨#[122]⟩] 9)).alloc (.cells #[.slice (some ⟨wo.heap.size, 0, none⟩) 2 2, .slice none 0 0, .slice none 0 0] 30)) = .ok (.slice A' (L.length + 1) c') W' := by
          rw [hp] at hrun
          simpa [sv] using hrun
        have hy1 : wo.cell? ⟨gm, 1, none⟩ = some (.slice Aa L.length ca) := cellOf ea1 (j := 1) rfl
        have hyx : (wo.alloc (.cells #[.string ⟨#[46, 80, 72, 79, 78, 89]⟩, .string ⟨#[122]⟩] 9)).cell? ⟨gm, 1, none⟩ = some (.slice Aa L.length ca) := cellOf ea2 (j := 1) rfl
        have hy4 : W'.cell? ⟨gm, 1, none⟩ = some (.slice Aa L.length ca) := cellOf ea4 (j := 1) rfl
        have hz5 := freeOf ea4 1
        rw [hlen] at hrun' hy1 hyx hy4 HI2
        have HLN := hide hlen
        have hw2 := heapSet (j := 1) ea4 (.slice A' (i + 1) c')
        clear hmk ok ht close hba hn1 ea1 ea2 hrun ea4 hmk' hg' hk' hbn hw2 hlen
        by_cases hwe : want = ⟨#[]⟩
        · have we : want.toList.isEmpty = true := by rw [empty_iff, decide_eq_true hwe]
          have HGN := hide (goal_skip (r := p) HGO.out (by rw [hp, goal1_two, gg0.1, gg0.2]; rfl))
          clear hwe hp
          go_wp2_with (at_builtin; refine wpList_app_run ?_ (.tmp 37) (.tmp 41) ?_ ?_ ?_ ?_ hrun' ?_; exact rfl; exact rfl; exact rfl; exact rfl; exact rfl)
          go_roundw
          case rel => exact ⟨i + 1, L ++ [p], want, rfl, by go_num, by omega, by simp [HLN.out], HGN.out, hws, HI2.out⟩
          case measure => simp [intOf]; omega
        · have we : want.toList.isEmpty = false := by rw [empty_iff, decide_eq_false hwe]
          have HGN := hide (goal_skip (r := p) HGO.out (by rw [hp, goal1_two, gg0.1, gg0.2]; rfl))
          clear hwe hp
          go_wp2_with (at_builtin; refine wpList_app_run ?_ (.tmp 37) (.tmp 41) ?_ ?_ ?_ ?_ hrun' ?_; exact rfl; exact rfl; exact rfl; exact rfl; exact rfl)
          go_roundw
          case rel => exact ⟨i + 1, L ++ [p], want, rfl, by go_num, by omega, by simp [HLN.out], HGN.out, hws, HI2.out⟩
          case measure => simp [intOf]; omega
      · have hz3 : (z : Int).tmod 6 = 1 := by rw [Int.tmod_eq_emod_of_nonneg (by omega)]; omega
        have hz4 : (z : Int) % 6 = 1 := by omega
        have hnm := cellOf hbn (j := 1) (v := .string ⟨#[37, 46, 111]⟩) rfl
        obtain ⟨T, N, hmk, ok, ht, close⟩ := HI.out.opn (BlkN.fr _ _) (Nat.le_refl _)
        have hba := (Below.refl wo.heap.size wo).alloc (Nat.le_refl _) (.cells #[.string ⟨#[37, 46, 111]⟩, .string ⟨#[122]⟩] 9)
        have hn1 : SR (wo.alloc (.cells #[.string ⟨#[37, 46, 111]⟩, .string ⟨#[122]⟩] 9)) (some ⟨wo.heap.size, 0, none⟩) [⟨#[37, 46, 111]⟩, ⟨#[122]⟩] := sr_two wo ⟨#[37, 46, 111]⟩ ⟨#[122]⟩
        obtain ⟨p, hp⟩ : ∃ r : Rl, r = ⟨(some ⟨wo.heap.size, 0, none⟩, 2, [⟨#[37, 46, 111]⟩, ⟨#[122]⟩]), (none, 0, []), (none, 0, [])⟩ := ⟨_, rfl⟩
        obtain ⟨Aa, ca, v', W', ea1, ea2, hrun, ⟨A', c', rfl⟩, ea4, T', N', hmk', hg', hk'⟩ := hmk.app ok hba p (by
          rw [hp]
          exact ⟨hn1, SR.nil _ _, SR.nil _ _, by simp, by simp, by simp⟩) (by
          rw [hp]
          refine ⟨fun a e _ => .inr ?_, fun a e _ => (by cases e), fun a e _ => (by cases e)⟩
          injection e with e
          subst e
          simp) (by omega)
        have HI2 := hide (close _ _ _ _ hmk' hg' hk')
        have hrun' : (Builtin.append_ #[24, 24] 24 #[.slice Aa L.length ca, .slice (some ⟨wo.heap.size + 1, 0, none⟩) 1 1]).run Tryz.prog ((wo.alloc (.cells #[.string ⟨#[37, 46, 111]⟩, .string ⟨#[122]⟩] 9)).alloc (.cells #[.slice (some ⟨wo.heap.size, 0, none⟩) 2 2, .slice none 0 0, .slice none 0 0] 30)) = .ok (.slice A' (L.length + 1) c') W' := by
          rw [hp] at hrun
          simpa [sv] using hrun
        have hy1 : wo.cell? ⟨gm, 1, none⟩ = some (.slice Aa L.length ca) := cellOf ea1 (j := 1) rfl
        have hyx : (wo.alloc (.cells #[.string ⟨#[37, 46, 111]⟩, .string ⟨#[122]⟩] 9)).cell? ⟨gm, 1, none⟩ = some (.slice Aa L.length ca) := cellOf ea2 (j := 1) rfl
        have hy4 : W'.cell? ⟨gm, 1, none⟩ = some (.slice Aa L.length ca) := cellOf ea4 (j := 1) rfl
        have hz5 := freeOf ea4 1
        rw [hlen] at hrun' hy1 hyx hy4 HI2
        have HLN := hide hlen
        have hw2 := heapSet (j := 1) ea4 (.slice A' (i + 1) c')
        have hcell2 := cellOf hw2 (j := 1) (v := .slice A' (i + 1) c') rfl
        obtain ⟨T2, N2, hmk2, ok2, ht2, close2⟩ := HI2.out.opn (BlkN.fr _ _) (Nat.le_refl _)
        obtain ⟨br, eA, ek, hbc, hbf, hbl, hset⟩ := hmk2.set ok2 hcell2
        subst eA
        obtain ⟨W2, hW2⟩ : ∃ W, W'.setCell ⟨gm, 1, none⟩ (.slice (some ⟨br, 0, none⟩) (i + 1) c') = W := ⟨_, rfl⟩
        rw [hW2] at hset close2 hbc hbf hbl hcell2
        rw [hlen] at hset hbc hbf
        clear ek
        have hba2 := (Below.refl W2.heap.size W2).alloc (Nat.le_refl _) (.cells #[.string ⟨#[37, 46, 111]⟩] 9)
        obtain ⟨T3, N3, hmk3, hg3, hk3⟩ := hset _ (some ⟨W2.heap.size, 0, none⟩, 1, [⟨#[37, 46, 111]⟩]) hba2 (sr_new W2 ⟨#[37, 46, 111]⟩) (fun a e => by injection e with e; subst e; simp) (by simp)
        have hi3 := close2 _ _ _ _ hmk3 hg3 hk3
        rw [show (W2.alloc (.cells #[.string ⟨#[37, 46, 111]⟩] 9)).setCell ⟨br, i * 3, none⟩ (sv (some (⟨W2.heap.size, 0, none⟩ : Addr), 1, [⟨#[37, 46, 111]⟩])) = (W2.setCell ⟨br, i * 3, none⟩ (.slice (some ⟨W2.heap.size, 0, none⟩) 1 1)).alloc (.cells #[.string ⟨#[37, 46, 111]⟩] 9) from World.setCell_alloc_past _ _ _ _ hbl] at hi3
        have HI3 := hide hi3
        clear hi3
        have hbc2 := (hba2.cell (p := ⟨br, i * 3, none⟩) hbl).trans hbc
        have hbf2 : (W2.alloc (.cells #[.string ⟨#[37, 46, 111]⟩] 9)).frozen? ⟨br, i * 3, none⟩ = false := (World.frozen?_of_block (hba2.block br hbl)).trans hbf
        have hidx0 : (0 : Int) ≤ (i : Int) := by omega
        have hidx1 : (i : Int) < (i : Int) + 1 := by omega
        have HGN := hide (goal_skip (r := ⟨(some ⟨W2.heap.size, 0, none⟩, 1, [⟨#[37, 46, 111]⟩]), p.nd, p.rc⟩) HGO.out rfl)
        have hsvp : sv p.tg = .slice (some ⟨wo.heap.size, 0, none⟩) 2 2 := by rw [hp]; rfl
        rw [hsvp] at hbc hbc2
        clear hmk ok ht close hba hn1 hp ea1 ea2 hrun ea4 hmk' hg' hk' hbn hw2 hmk2 ok2 ht2 close2 hset hmk3 hg3 hk3 hba2 hlen hsvp HI2
        by_cases hwe : want = ⟨#[]⟩
        · have we : want.toList.isEmpty = true := by rw [empty_iff, decide_eq_true hwe]
          clear hwe
          go_wp2_with (at_builtin; refine wpList_app_run ?_ (.tmp 37) (.tmp 41) ?_ ?_ ?_ ?_ hrun' ?_; exact rfl; exact rfl; exact rfl; exact rfl; exact rfl)
          go_roundw
          case rel => exact ⟨i + 1, _, want, rfl, by go_num, by omega, by simp [HLN.out], HGN.out, hws, HI3.out⟩
          case measure => simp [intOf]; omega
        · have we : want.toList.isEmpty = false := by rw [empty_iff, decide_eq_false hwe]
          clear hwe
          go_wp2_with (at_builtin; refine wpList_app_run ?_ (.tmp 37) (.tmp 41) ?_ ?_ ?_ ?_ hrun' ?_; exact rfl; exact rfl; exact rfl; exact rfl; exact rfl)
          go_roundw
          case rel => exact ⟨i + 1, _, want, rfl, by go_num, by omega, by simp [HLN.out], HGN.out, hws, HI3.out⟩
          case measure => simp [intOf]; omega
      · have hz3 : (z : Int).tmod 6 = 2 := by rw [Int.tmod_eq_emod_of_nonneg (by omega)]; omega
        have hz4 : (z : Int) % 6 = 2 := by omega
        have hnm := cellOf hbn (j := 2) (v := .string ⟨#[46, 99, 46, 111]⟩) rfl
        obtain ⟨T, N, hmk, ok, ht, close⟩ := HI.out.opn (BlkN.fr _ _) (Nat.le_refl _)
        have hba := (Below.refl wo.heap.size wo).alloc (Nat.le_refl _) (.cells #[.string ⟨#[46, 99, 46, 111]⟩, .string ⟨#[122]⟩] 9)
        have hn1 : SR (wo.alloc (.cells #[.string ⟨#[46, 99, 46, 111]⟩, .string ⟨#[122]⟩] 9)) (some ⟨wo.heap.size, 0, none⟩) [⟨#[46, 99, 46, 111]⟩, ⟨#[122]⟩] := sr_two wo ⟨#[46, 99, 46, 111]⟩ ⟨#[122]⟩
        obtain ⟨p, hp⟩ : ∃ r : Rl, r = ⟨(some ⟨wo.heap.size, 0, none⟩, 2, [⟨#[46, 99, 46, 111]⟩, ⟨#[122]⟩]), (none, 0, []), (none, 0, [])⟩ := ⟨_, rfl⟩
        obtain ⟨Aa, ca, v', W', ea1, ea2, hrun, ⟨A', c', rfl⟩, ea4, T', N', hmk', hg', hk'⟩ := hmk.app ok hba p (by
          rw [hp]
          exact ⟨hn1, SR.nil _ _, SR.nil _ _, by simp, by simp, by simp⟩) (by
          rw [hp]
          refine ⟨fun a e _ => .inr ?_, fun a e _ => (by cases e), fun a e _ => (by cases e)⟩
          injection e with e
          subst e
          simp) (by omega)
        have HI2 := hide (close _ _ _ _ hmk' hg' hk')
        have hrun' : (Builtin.append_ #[24, 24] 24 #[.slice Aa L.length ca, .slice (some ⟨wo.heap.size + 1, 0, none⟩) 1 1]).run Tryz.prog ((wo.alloc (.cells #[.string ⟨#[46, 99, 46, 111]⟩, .string ⟨#[122]⟩] 9)).alloc (.cells #[.slice (some ⟨wo.heap.size, 0, none⟩) 2 2, .slice none 0 0, .slice none 0 0] 30)) = .ok (.slice A' (L.length + 1) c') W' := by
          rw [hp] at hrun
          simpa [sv] using hrun
        have hy1 : wo.cell? ⟨gm, 1, none⟩ = some (.slice Aa L.length ca) := cellOf ea1 (j := 1) rfl
        have hyx : (wo.alloc (.cells #[.string ⟨#[46, 99, 46, 111]⟩, .string ⟨#[122]⟩] 9)).cell? ⟨gm, 1, none⟩ = some (.slice Aa L.length ca) := cellOf ea2 (j := 1) rfl
        have hy4 : W'.cell? ⟨gm, 1, none⟩ = some (.slice Aa L.length ca) := cellOf ea4 (j := 1) rfl
        have hz5 := freeOf ea4 1
        rw [hlen] at hrun' hy1 hyx hy4 HI2
        have HLN := hide hlen
        have hw2 := heapSet (j := 1) ea4 (.slice A' (i + 1) c')
        clear hmk ok ht close hba hn1 ea1 ea2 hrun ea4 hmk' hg' hk' hbn hw2 hlen
        by_cases hwe : want = ⟨#[]⟩
        · have we : want.toList.isEmpty = true := by rw [empty_iff, decide_eq_true hwe]
          have HGN := hide (goal_skip (r := p) HGO.out (by rw [hp, goal1_two, gg2.1, gg2.2]; rfl))
          clear hwe hp
          go_wp2_with (at_builtin; refine wpList_app_run ?_ (.tmp 37) (.tmp 41) ?_ ?_ ?_ ?_ hrun' ?_; exact rfl; exact rfl; exact rfl; exact rfl; exact rfl)
          go_roundw
          case rel => exact ⟨i + 1, L ++ [p], want, rfl, by go_num, by omega, by simp [HLN.out], HGN.out, hws, HI2.out⟩
          case measure => simp [intOf]; omega
        · have we : want.toList.isEmpty = false := by rw [empty_iff, decide_eq_false hwe]
          have HGN := hide (goal_skip (r := p) HGO.out (by rw [hp, goal1_two, gg2.1, gg2.2]; rfl))
          clear hwe hp
          go_wp2_with (at_builtin; refine wpList_app_run ?_ (.tmp 37) (.tmp 41) ?_ ?_ ?_ ?_ hrun' ?_; exact rfl; exact rfl; exact rfl; exact rfl; exact rfl)
          go_roundw
          case rel => exact ⟨i + 1, L ++ [p], want, rfl, by go_num, by omega, by simp [HLN.out], HGN.out, hws, HI2.out⟩
          case measure => simp [intOf]; omega
      · have hz3 : (z : Int).tmod 6 = 3 := by rw [Int.tmod_eq_emod_of_nonneg (by omega)]; omega
        have hz4 : (z : Int) % 6 = 3 := by omega
        have hnm := cellOf hbn (j := 3) (v := .string ⟨#[97]⟩) rfl
        obtain ⟨T, N, hmk, ok, ht, close⟩ := HI.out.opn (BlkN.fr _ _) (Nat.le_refl _)
        have hba := (Below.refl wo.heap.size wo).alloc (Nat.le_refl _) (.cells #[.string ⟨#[97]⟩, .string ⟨#[122]⟩] 9)
        have hn1 : SR (wo.alloc (.cells #[.string ⟨#[97]⟩, .string ⟨#[122]⟩] 9)) (some ⟨wo.heap.size, 0, none⟩) [⟨#[97]⟩, ⟨#[122]⟩] := sr_two wo ⟨#[97]⟩ ⟨#[122]⟩
        obtain ⟨p, hp⟩ : ∃ r : Rl, r = ⟨(some ⟨wo.heap.size, 0, none⟩, 2, [⟨#[97]⟩, ⟨#[122]⟩]), (none, 0, []), (none, 0, [])⟩ := ⟨_, rfl⟩
        obtain ⟨Aa, ca, v', W', ea1, ea2, hrun, ⟨A', c', rfl⟩, ea4, T', N', hmk', hg', hk'⟩ := hmk.app ok hba p (by
          rw [hp]
          exact ⟨hn1, SR.nil _ _, SR.nil _ _, by simp, by simp, by simp⟩) (by
          rw [hp]
          refine ⟨fun a e _ => .inr ?_, fun a e _ => (by cases e), fun a e _ => (by cases e)⟩
          injection e with e
          subst e
          simp) (by omega)
        have HI2 := hide (close _ _ _ _ hmk' hg' hk')
        have hrun' : (Builtin.append_ #[24, 24] 24 #[.slice Aa L.length ca, .slice (some ⟨wo.heap.size + 1, 0, none⟩) 1 1]).run Tryz.prog ((wo.alloc (.cells #[.string ⟨#[97]⟩, .string ⟨#[122]⟩] 9)).alloc (.cells #[.slice (some ⟨wo.heap.size, 0, none⟩) 2 2, .slice none 0 0, .slice none 0 0] 30)) = .ok (.slice A' (L.length + 1) c') W' := by
          rw [hp] at hrun
          simpa [sv] using hrun
        have hy1 : wo.cell? ⟨gm, 1, none⟩ = some (.slice Aa L.length ca) := cellOf ea1 (j := 1) rfl
        have hyx : (wo.alloc (.cells #[.string ⟨#[97]⟩, .string ⟨#[122]⟩] 9)).cell? ⟨gm, 1, none⟩ = some (.slice Aa L.length ca) := cellOf ea2 (j := 1) rfl
        have hy4 : W'.cell? ⟨gm, 1, none⟩ = some (.slice Aa L.length ca) := cellOf ea4 (j := 1) rfl
        have hz5 := freeOf ea4 1
        rw [hlen] at hrun' hy1 hyx hy4 HI2
        have HLN := hide hlen
        have hw2 := heapSet (j := 1) ea4 (.slice A' (i + 1) c')
        clear hmk ok ht close hba hn1 ea1 ea2 hrun ea4 hmk' hg' hk' hbn hw2 hlen
        by_cases hwe : want = ⟨#[]⟩
        · have we : want.toList.isEmpty = true := by rw [empty_iff, decide_eq_true hwe]
          have HGN := hide (goal_first (r := p) (by rw [HGO.out, hwe]) (by rw [hp, goal1_two, gg3.1, gg3.2]; rfl) (by decide))
          clear hwe hp
          go_wp2_with (at_builtin; refine wpList_app_run ?_ (.tmp 37) (.tmp 41) ?_ ?_ ?_ ?_ hrun' ?_; exact rfl; exact rfl; exact rfl; exact rfl; exact rfl)
          go_roundw
          case rel => exact ⟨i + 1, L ++ [p], ⟨#[97]⟩, rfl, by go_num, by omega, by simp [HLN.out], HGN.out, by decide, HI2.out⟩
          case measure => simp [intOf]; omega
        · have we : want.toList.isEmpty = false := by rw [empty_iff, decide_eq_false hwe]
          have HGN := hide (goal_more (r := p) HGO.out hwe)
          clear hwe hp
          go_wp2_with (at_builtin; refine wpList_app_run ?_ (.tmp 37) (.tmp 41) ?_ ?_ ?_ ?_ hrun' ?_; exact rfl; exact rfl; exact rfl; exact rfl; exact rfl)
          go_roundw
          case rel => exact ⟨i + 1, L ++ [p], want, rfl, by go_num, by omega, by simp [HLN.out], HGN.out, hws, HI2.out⟩
          case measure => simp [intOf]; omega
      · have hz3 : (z : Int).tmod 6 = 4 := by rw [Int.tmod_eq_emod_of_nonneg (by omega)]; omega
        have hz4 : (z : Int) % 6 = 4 := by omega
        have hnm := cellOf hbn (j := 4) (v := .string ⟨#[46, 47, 98]⟩) rfl
        obtain ⟨T, N, hmk, ok, ht, close⟩ := HI.out.opn (BlkN.fr _ _) (Nat.le_refl _)
        have hba := (Below.refl wo.heap.size wo).alloc (Nat.le_refl _) (.cells #[.string ⟨#[46, 47, 98]⟩, .string ⟨#[122]⟩] 9)
        have hn1 : SR (wo.alloc (.cells #[.string ⟨#[46, 47, 98]⟩, .string ⟨#[122]⟩] 9)) (some ⟨wo.heap.size, 0, none⟩) [⟨#[46, 47, 98]⟩, ⟨#[122]⟩] := sr_two wo ⟨#[46, 47, 98]⟩ ⟨#[122]⟩
        obtain ⟨p, hp⟩ : ∃ r : Rl, r = ⟨(some ⟨wo.heap.size, 0, none⟩, 2, [⟨#[46, 47, 98]⟩, ⟨#[122]⟩]), (none, 0, []), (none, 0, [])⟩ := ⟨_, rfl⟩
        obtain ⟨Aa, ca, v', W', ea1, ea2, hrun, ⟨A', c', rfl⟩, ea4, T', N', hmk', hg', hk'⟩ := hmk.app ok hba p (by
          rw [hp]
          exact ⟨hn1, SR.nil _ _, SR.nil _ _, by simp, by simp, by simp⟩) (by
          rw [hp]
          refine ⟨fun a e _ => .inr ?_, fun a e _ => (by cases e), fun a e _ => (by cases e)⟩
          injection e with e
          subst e
          simp) (by omega)
        have HI2 := hide (close _ _ _ _ hmk' hg' hk')
        have hrun' : (Builtin.append_ #[24, 24] 24 #[.slice Aa L.length ca, .slice (some ⟨wo.heap.size + 1, 0, none⟩) 1 1]).run Tryz.prog ((wo.alloc (.cells #[.string ⟨#[46, 47, 98]⟩, .string ⟨#[122]⟩] 9)).alloc (.cells #[.slice (some ⟨wo.heap.size, 0, none⟩) 2 2, .slice none 0 0, .slice none 0 0] 30)) = .ok (.slice A' (L.length + 1) c') W' := by
          rw [hp] at hrun
          simpa [sv] using hrun
        have hy1 : wo.cell? ⟨gm, 1, none⟩ = some (.slice Aa L.length ca) := cellOf ea1 (j := 1) rfl
        have hyx : (wo.alloc (.cells #[.string ⟨#[46, 47, 98]⟩, .string ⟨#[122]⟩] 9)).cell? ⟨gm, 1, none⟩ = some (.slice Aa L.length ca) := cellOf ea2 (j := 1) rfl
        have hy4 : W'.cell? ⟨gm, 1, none⟩ = some (.slice Aa L.length ca) := cellOf ea4 (j := 1) rfl
        have hz5 := freeOf ea4 1
        rw [hlen] at hrun' hy1 hyx hy4 HI2
        have HLN := hide hlen
        have hw2 := heapSet (j := 1) ea4 (.slice A' (i + 1) c')
        clear hmk ok ht close hba hn1 ea1 ea2 hrun ea4 hmk' hg' hk' hbn hw2 hlen
        by_cases hwe : want = ⟨#[]⟩
        · have we : want.toList.isEmpty = true := by rw [empty_iff, decide_eq_true hwe]
          have HGN := hide (goal_first (r := p) (by rw [HGO.out, hwe]) (by rw [hp, goal1_two, gg4.1, gg4.2]; rfl) (by decide))
          clear hwe hp
          go_wp2_with (at_builtin; refine wpList_app_run ?_ (.tmp 37) (.tmp 41) ?_ ?_ ?_ ?_ hrun' ?_; exact rfl; exact rfl; exact rfl; exact rfl; exact rfl)
          go_roundw
          case rel => exact ⟨i + 1, L ++ [p], ⟨#[46, 47, 98]⟩, rfl, by go_num, by omega, by simp [HLN.out], HGN.out, by decide, HI2.out⟩
          case measure => simp [intOf]; omega
        · have we : want.toList.isEmpty = false := by rw [empty_iff, decide_eq_false hwe]
          have HGN := hide (goal_more (r := p) HGO.out hwe)
          clear hwe hp
          go_wp2_with (at_builtin; refine wpList_app_run ?_ (.tmp 37) (.tmp 41) ?_ ?_ ?_ ?_ hrun' ?_; exact rfl; exact rfl; exact rfl; exact rfl; exact rfl)
          go_roundw
          case rel => exact ⟨i + 1, L ++ [p], want, rfl, by go_num, by omega, by simp [HLN.out], HGN.out, hws, HI2.out⟩
          case measure => simp [intOf]; omega
      · have hz3 : (z : Int).tmod 6 = 5 := by rw [Int.tmod_eq_emod_of_nonneg (by omega)]; omega
        have hz4 : (z : Int) % 6 = 5 := by omega
        have hnm := cellOf hbn (j := 5) (v := .string ⟨#[46, 120, 47, 121]⟩) rfl
        obtain ⟨T, N, hmk, ok, ht, close⟩ := HI.out.opn (BlkN.fr _ _) (Nat.le_refl _)
        have hba := (Below.refl wo.heap.size wo).alloc (Nat.le_refl _) (.cells #[.string ⟨#[46, 120, 47, 121]⟩, .string ⟨#[122]⟩] 9)
        have hn1 : SR (wo.alloc (.cells #[.string ⟨#[46, 120, 47, 121]⟩, .string ⟨#[122]⟩] 9)) (some ⟨wo.heap.size, 0, none⟩) [⟨#[46, 120, 47, 121]⟩, ⟨#[122]⟩] := sr_two wo ⟨#[46, 120, 47, 121]⟩ ⟨#[122]⟩
        obtain ⟨p, hp⟩ : ∃ r : Rl, r = ⟨(some ⟨wo.heap.size, 0, none⟩, 2, [⟨#[46, 120, 47, 121]⟩, ⟨#[122]⟩]), (none, 0, []), (none, 0, [])⟩ := ⟨_, rfl⟩
        obtain ⟨Aa, ca, v', W', ea1, ea2, hrun, ⟨A', c', rfl⟩, ea4, T', N', hmk', hg', hk'⟩ := hmk.app ok hba p (by
          rw [hp]
          exact ⟨hn1, SR.nil _ _, SR.nil _ _, by simp, by simp, by simp⟩) (by
          rw [hp]
          refine ⟨fun a e _ => .inr ?_, fun a e _ => (by cases e), fun a e _ => (by cases e)⟩
          injection e with e
          subst e
          simp) (by omega)
        have HI2 := hide (close _ _ _ _ hmk' hg' hk')
        have hrun' : (Builtin.append_ #[24, 24] 24 #[.slice Aa L.length ca, .slice (some ⟨wo.heap.size + 1, 0, none⟩) 1 1]).run Tryz.prog ((wo.alloc (.cells #[.string ⟨#[46, 120, 47, 121]⟩, .string ⟨#[122]⟩] 9)).alloc (.cells #[.slice (some ⟨wo.heap.size, 0, none⟩) 2 2, .slice none 0 0, .slice none 0 0] 30)) = .ok (.slice A' (L.length + 1) c') W' := by
          rw [hp] at hrun
          simpa [sv] using hrun
        have hy1 : wo.cell? ⟨gm, 1, none⟩ = some (.slice Aa L.length ca) := cellOf ea1 (j := 1) rfl
        have hyx : (wo.alloc (.cells #[.string ⟨#[46, 120, 47, 121]⟩, .string ⟨#[122]⟩] 9)).cell? ⟨gm, 1, none⟩ = some (.slice Aa L.length ca) := cellOf ea2 (j := 1) rfl
        have hy4 : W'.cell? ⟨gm, 1, none⟩ = some (.slice Aa L.length ca) := cellOf ea4 (j := 1) rfl
        have hz5 := freeOf ea4 1
        rw [hlen] at hrun' hy1 hyx hy4 HI2
        have HLN := hide hlen
        have hw2 := heapSet (j := 1) ea4 (.slice A' (i + 1) c')
        clear hmk ok ht close hba hn1 ea1 ea2 hrun ea4 hmk' hg' hk' hbn hw2 hlen
        by_cases hwe : want = ⟨#[]⟩
        · have we : want.toList.isEmpty = true := by rw [empty_iff, decide_eq_true hwe]
          have HGN := hide (goal_first (r := p) (by rw [HGO.out, hwe]) (by rw [hp, goal1_two, gg5.1, gg5.2]; rfl) (by decide))
          clear hwe hp
          go_wp2_with (at_builtin; refine wpList_app_run ?_ (.tmp 37) (.tmp 41) ?_ ?_ ?_ ?_ hrun' ?_; exact rfl; exact rfl; exact rfl; exact rfl; exact rfl)
          go_roundw
          case rel => exact ⟨i + 1, L ++ [p], ⟨#[46, 120, 47, 121]⟩, rfl, by go_num, by omega, by simp [HLN.out], HGN.out, by decide, HI2.out⟩
          case measure => simp [intOf]; omega
        · have we : want.toList.isEmpty = false := by rw [empty_iff, decide_eq_false hwe]
          have HGN := hide (goal_more (r := p) HGO.out hwe)
          clear hwe hp
          go_wp2_with (at_builtin; refine wpList_app_run ?_ (.tmp 37) (.tmp 41) ?_ ?_ ?_ ?_ hrun' ?_; exact rfl; exact rfl; exact rfl; exact rfl; exact rfl)
          go_roundw
          case rel => exact ⟨i + 1, L ++ [p], want, rfl, by go_num, by omega, by simp [HLN.out], HGN.out, hws, HI2.out⟩
          case measure => simp [intOf]; omega
    · obtain rfl : n = i := by omega
      obtain ⟨T, N, hmk, ok, ht, close⟩ := HI.out.opn (BlkN.fr _ _) (Nat.le_refl _)
      obtain ⟨Am, cm, hmg, hrl⟩ := hmk.rls
      have hgg := ggoal_any (.slice none 0 0) Am cm L wo hrl (by omega)
      rw [hlen] at hmg hgg
      rw [HGO.out] at hgg
      have hm0 := cellOf hmg (j := 0) (v := .slice none 0 0) rfl
      have hm1 := cellOf hmg (j := 1) (v := .slice Am n cm) rfl
      have b1 : ¬ (n : Int) < (n : Int) := by omega
      by_cases hwe : want = ⟨#[]⟩
      · subst hwe
        rw [show gR (wantO ⟨#[]⟩) = .tuple #[.string ⟨#[]⟩, .bool false] from rfl] at hgg
        have HGG := hide hgg
        clear hmk ok ht close hmg hrl hgg hlen
        go_wp2_with fail
        refine HGG.out.mono ?_
        rintro e w2 ⟨rfl, hb2⟩
        have HB2 := hide (below_up HBO.out hb2 HBO.out.size)
        clear hb2
        go_wp2
        go_ret
        exact ⟨rfl, HB2.out⟩
      · have we : want.toList.isEmpty = false := by rw [empty_iff, decide_eq_false hwe]
        rw [show gR (wantO want) = .tuple #[.string want, .bool true] from by unfold wantO; rw [if_neg hwe]; rfl] at hgg
        have HGG := hide hgg
        clear hmk ok ht close hmg hrl hgg hlen hwe
        go_wp2_with fail
        refine HGG.out.mono ?_
        rintro e w2 ⟨rfl, hb2⟩
        have HB2 := hide (below_up HBO.out hb2 HBO.out.size)
        clear hb2
        go_wp2
        go_ret
        exact ⟨rfl, HB2.out⟩
end Go.Proofs.YtmblmenafplccaaGreatDoor
