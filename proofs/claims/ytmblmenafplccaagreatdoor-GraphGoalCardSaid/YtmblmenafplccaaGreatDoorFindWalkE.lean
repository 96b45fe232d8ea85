/- Walks of the finder's there and pattern. -/
import Derived.Test.YtmblmenafplccaaGreatDoorFindWalkD
import Derived.Test.YtmblmenafplccaaGreatDoorContFunc
import Derived.Deep.RegionHeld3
namespace Go.Proofs.YtmblmenafplccaaGreatDoor
open Go.RowKit Go.Deep Go.Maps Ln Pth Vf
attribute [local go_sem] bt_eq

theorem kindT_le (S : St) (cwd s : T) : kindT S cwd s ≤ 2 := by
  unfold kindT
  split
  · omega
  · unfold kindS
    split
    · omega
    · unfold kindM
      split
      · omega
      · split <;> (try split) <;> omega
set_option linter.unusedSimpArgs false in
set_option maxRecDepth 100000 in
set_option maxHeartbeats 2000000 in
theorem there1_any (w0 : World) (C : Cf) (g b : Nat) (kl : List ByteArray) (p : Pn) (T : Nat → Prop) (s : ByteArray) (px : Nat) (w : World) (hok : CfOk C w) (h : FI w0 C g (some b) kl p T w) (hp : w.cell? ⟨px, 0, none⟩ = some (.pointer (some ⟨g, 0, none⟩))) (hs : s.size ≤ 90000) :
    Calls Tryz.prog 199 #[.string s, .pointer (some ⟨px, 0, none⟩)] w fun e w' => e = .returned (.bool (lackF C.S C.cwd kl s)) ∧ Below w.heap.size w w' := by
  have HK := hide (fun W (hb : Below w.heap.size w W) => kindp_any C.gf C.S C.cwd s.data.toList W (hok.below hb).vs (hok.below hb).mx (by have := hok.c1; omega) (by rw [data_len]; omega))
  rw [bs_of] at HK
  obtain ⟨A6, c6, A7, c7, hg, _⟩ := h.opn
  have hc2 : w.cell? ⟨g, 2, none⟩ = some (.pointer (some ⟨C.gf, 0, none⟩)) := cellOf hg (j := 2) rfl
  have hc3 : w.cell? ⟨g, 3, none⟩ = some (.string (bs C.cwd)) := cellOf hg (j := 3) rfl
  have hc5 : w.cell? ⟨g, 5, none⟩ = some (.map (some b)) := cellOf hg (j := 5) rfl
  have hgl := (h.tw g h.tg).2
  have HMS := hide (h.known b rfl).1
  have hR : lackF C.S C.cwd kl s = (decide (kindT C.S C.cwd s.data.toList = 0) && !Lib.containsS kl s) := rfl
  obtain ⟨kk, hkk⟩ : ∃ k, kindT C.S C.cwd s.data.toList = k := ⟨_, rfl⟩
  rw [hkk] at HK hR
  have HR := hide hR
  have hpl := World.block_lt_of_cell? _ _ hp
  have hb0 : Below w.heap.size w w.drew := (Below.refl _ _).drew
  obtain ⟨ki, hki⟩ : ∃ i : Int, (kk : Int) = i := ⟨_, rfl⟩
  rw [hki] at HK
  have hkl : kk ≤ 2 := by rw [← hkk]; exact kindT_le _ _ _
  clear hR hkk hok h hg
  by_cases k0 : kk = 0
  case neg =>
    have HE := hide (show lackF C.S C.cwd kl s = false by rw [HR.out, decide_eq_false k0]; rfl)
    have t1 : (ki == 0) = false := by simp only [beq_eq_false_iff_ne]; omega
    clear k0
    go_enter Tryz.func199, Tryz.ntmps199
    go_wp2_with fail
    refine wp_region_held_drew (S := (fun w' => w'.cell? ⟨px, 0, none⟩ = some (.pointer (some ⟨g, 0, none⟩)) ∧ w'.cell? ⟨g, 2, none⟩ = some (.pointer (some ⟨C.gf, 0, none⟩)) ∧ w'.cell? ⟨g, 3, none⟩ = some (.string (bs C.cwd)))) (by kernel_rfl) ⟨hp, hc2, hc3⟩ (fun hHeld => ?_)
    refine wpAnyH_take (i := 0) (oi := _) (v := ?v0) rfl (by kernel_rfl) (by kernel_rfl) (by kernel_rfl) (fun _ _ _ h => h) (Or.inl ⟨by kernel_rfl, ?y0⟩) (by assumption) ?r0
    case y0 =>
      intro w hSw
      (try dsimp only at hSw)
      go_simp
      try with_reducible rfl
    try simp only [Act.put, List.setIfInBounds_toArray, List.set_cons_zero, List.set_cons_succ]
    refine wpAnyH_take (i := 1) (oi := _) (v := ?v1) rfl (by kernel_rfl) (by kernel_rfl) (by kernel_rfl) (fun _ _ _ h => h) (Or.inl ⟨by kernel_rfl, ?y1⟩) (by assumption) ?r1
    case y1 =>
      intro w hSw
      (try dsimp only at hSw)
      go_simp
      try with_reducible rfl
    try simp only [Act.put, List.setIfInBounds_toArray, List.set_cons_zero, List.set_cons_succ]
    refine wpAnyH_take (i := 2) (oi := _) (v := ?v2) rfl (by kernel_rfl) (by kernel_rfl) (by kernel_rfl) (fun _ _ _ h => h) (Or.inl ⟨by kernel_rfl, ?y2⟩) (by assumption) ?r2
    case y2 =>
      intro w hSw
      (try dsimp only at hSw)
      go_simp
      try with_reducible rfl
    try simp only [Act.put, List.setIfInBounds_toArray, List.set_cons_zero, List.set_cons_succ]
    refine wpAnyH_take (i := 3) (oi := _) (v := ?v3) rfl (by kernel_rfl) (by kernel_rfl) (by kernel_rfl) (fun _ _ _ h => h) (Or.inl ⟨by kernel_rfl, ?y3⟩) (by assumption) ?r3
    case y3 =>
      intro w hSw
      (try dsimp only at hSw)
      go_simp
      try with_reducible rfl
    try simp only [Act.put, List.setIfInBounds_toArray, List.set_cons_zero, List.set_cons_succ]
    refine wpAnyH_take (i := 4) (oi := _) (v := ?v4) rfl (by kernel_rfl) (by kernel_rfl) (by kernel_rfl) (fun _ _ _ h => h) (Or.inl ⟨by kernel_rfl, ?y4⟩) (by assumption) ?r4
    case y4 =>
      intro w hSw
      (try dsimp only at hSw)
      go_simp
      try with_reducible rfl
    try simp only [Act.put, List.setIfInBounds_toArray, List.set_cons_zero, List.set_cons_succ]
    refine wpAnyH_take (i := 5) (oi := _) (v := ?v5) rfl (by kernel_rfl) (by kernel_rfl) (by kernel_rfl) (fun _ _ _ h => h) (Or.inl ⟨by kernel_rfl, ?y5⟩) (by assumption) ?r5
    case y5 =>
      intro w hSw
      (try dsimp only at hSw)
      go_simp
      try with_reducible rfl
    try simp only [Act.put, List.setIfInBounds_toArray, List.set_cons_zero, List.set_cons_succ]
    refine wpAnyH_take (i := 6) (oi := _) (v := ?v6) rfl (by kernel_rfl) (by kernel_rfl) (by kernel_rfl) (fun _ _ _ h => h) (Or.inl ⟨by kernel_rfl, ?y6⟩) (by assumption) ?r6
    case y6 =>
      intro w hSw
      (try dsimp only at hSw)
      go_simp
      try with_reducible rfl
    try simp only [Act.put, List.setIfInBounds_toArray, List.set_cons_zero, List.set_cons_succ]
    refine wpAnyH_take (i := 7) (oi := _) (v := ?v7) rfl (by kernel_rfl) (by kernel_rfl) (by kernel_rfl) (fun _ _ _ h => h) (Or.inl ⟨by kernel_rfl, ?y7⟩) (by assumption) ?r7
    case y7 =>
      intro w hSw
      (try dsimp only at hSw)
      go_simp
      try with_reducible rfl
    try simp only [Act.put, List.setIfInBounds_toArray, List.set_cons_zero, List.set_cons_succ]
    refine wpAnyH_take (i := 8) (oi := _) (v := ?v8) rfl (by kernel_rfl) (by kernel_rfl) (by kernel_rfl) (fun _ _ _ h => h) (Or.inl ⟨by kernel_rfl, ?y8⟩) (by assumption) ?r8
    case y8 =>
      intro w hSw
      (try dsimp only at hSw)
      go_simp
      try with_reducible rfl
    try simp only [Act.put, List.setIfInBounds_toArray, List.set_cons_zero, List.set_cons_succ]
    refine wpAnyH_ready (rs := [9]) (by kernel_rfl) (by simp) ?_
    refine AllReadyH.cons (o := _) rfl (fun K hK => ?_) AllReadyH.nil
    rw [if_pos (by rfl)]
    go_simp
    go_at_call 188
    refine (HK.out _ hb0).mono ?_
    rintro e w1 ⟨rfl, hb⟩
    have u0 := (hb.cell (p := ⟨px, 0, none⟩) hpl).trans hp
    have u2 := (hb.cell (p := ⟨g, 2, none⟩) hgl).trans hc2
    have u3 := (hb.cell (p := ⟨g, 3, none⟩) hgl).trans hc3
    have HB := hide (hb0.trans hb)
    clear hb
    refine hK.out _ _ ⟨u0, u2, u3⟩ (fun hHeld2 => ?_)
    clear hK K hHeld
    try simp only [Act.put, List.setIfInBounds_toArray, List.set_cons_zero, List.set_cons_succ]
    refine wpAnyH_take (i := 10) (oi := _) (v := ?v10) rfl (by kernel_rfl) (by kernel_rfl) (by kernel_rfl) (fun _ _ _ h => h) (Or.inl ⟨by kernel_rfl, ?y10⟩) (by assumption) ?r10
    case y10 =>
      intro w hSw
      (try dsimp only at hSw)
      go_simp
      try with_reducible rfl
    try simp only [Act.put, List.setIfInBounds_toArray, List.set_cons_zero, List.set_cons_succ]
    refine wpAnyH_take (i := 11) (oi := _) (v := ?v11) rfl (by kernel_rfl) (by kernel_rfl) (by kernel_rfl) (fun _ _ _ h => h) (Or.inl ⟨by kernel_rfl, ?y11⟩) (by assumption) ?r11
    case y11 =>
      intro w hSw
      (try dsimp only at hSw)
      go_simp
      try with_reducible rfl
    try simp only [Act.put, List.setIfInBounds_toArray, List.set_cons_zero, List.set_cons_succ]
    refine wpAnyH_take (i := 12) (oi := _) (v := undef) rfl (by kernel_rfl) (by kernel_rfl) (by kernel_rfl) (fun _ _ _ h => h) (Or.inr ⟨by kernel_rfl, rfl⟩) (by assumption) ?_
    try simp only [Act.put, List.setIfInBounds_toArray, List.set_cons_zero, List.set_cons_succ]
    refine wpAnyH_take (i := 13) (oi := _) (v := undef) rfl (by kernel_rfl) (by kernel_rfl) (by kernel_rfl) (fun _ _ _ h => h) (Or.inr ⟨by kernel_rfl, rfl⟩) (by assumption) ?_
    try simp only [Act.put, List.setIfInBounds_toArray, List.set_cons_zero, List.set_cons_succ]
    refine wpAnyH_take (i := 14) (oi := _) (v := undef) rfl (by kernel_rfl) (by kernel_rfl) (by kernel_rfl) (fun _ _ _ h => h) (Or.inr ⟨by kernel_rfl, rfl⟩) (by assumption) ?_
    try simp only [Act.put, List.setIfInBounds_toArray, List.set_cons_zero, List.set_cons_succ]
    refine wpAnyH_take (i := 15) (oi := _) (v := undef) rfl (by kernel_rfl) (by kernel_rfl) (by kernel_rfl) (fun _ _ _ h => h) (Or.inr ⟨by kernel_rfl, rfl⟩) (by assumption) ?_
    try simp only [Act.put, List.setIfInBounds_toArray, List.set_cons_zero, List.set_cons_succ]
    refine wpAnyH_take (i := 16) (oi := _) (v := undef) rfl (by kernel_rfl) (by kernel_rfl) (by kernel_rfl) (fun _ _ _ h => h) (Or.inr ⟨by kernel_rfl, rfl⟩) (by assumption) ?_
    try simp only [Act.put, List.setIfInBounds_toArray, List.set_cons_zero, List.set_cons_succ]
    refine wpAnyH_take (i := 17) (oi := _) (v := undef) rfl (by kernel_rfl) (by kernel_rfl) (by kernel_rfl) (fun _ _ _ h => h) (Or.inr ⟨by kernel_rfl, rfl⟩) (by assumption) ?_
    try simp only [Act.put, List.setIfInBounds_toArray, List.set_cons_zero, List.set_cons_succ]
    refine wpAnyH_take (i := 18) (oi := _) (v := undef) rfl (by kernel_rfl) (by kernel_rfl) (by kernel_rfl) (fun _ _ _ h => h) (Or.inr ⟨by kernel_rfl, rfl⟩) (by assumption) ?_
    try simp only [Act.put, List.setIfInBounds_toArray, List.set_cons_zero, List.set_cons_succ]
    refine wpAnyH_ready (rs := [19]) (by kernel_rfl) (by simp) ?_
    refine AllReadyH.cons (o := _) rfl (fun K hK => ?_) AllReadyH.nil
    rw [if_pos (by kernel_rfl)]
    go_simp
    refine hK.out _ _ ⟨u0, u2, u3⟩ (fun _ => ?_)
    clear hK K
    try simp only [Act.put, List.setIfInBounds_toArray, List.set_cons_zero, List.set_cons_succ]
    refine wpAnyH_ready (rs := [20]) (by kernel_rfl) (by simp) ?_
    refine AllReadyH.cons (o := _) rfl (fun K hK => ?_) AllReadyH.nil
    rw [if_pos (by kernel_rfl)]
    go_simp
    refine hK.out _ _ ⟨u0, u2, u3⟩ (fun _ => ?_)
    clear hK K
    try simp only [Act.put, List.setIfInBounds_toArray, List.set_cons_zero, List.set_cons_succ]
    refine wpAnyH_done (by kernel_rfl) ?_ _
    go_wp2
    go_ret
    rw [HE.out]
    exact ⟨rfl, HB.out⟩
  subst k0
  obtain rfl : ki = 0 := hki.symm
  obtain ⟨cb, hcb⟩ : ∃ c, Lib.containsS kl s = c := ⟨_, rfl⟩
  have HE := hide (show lackF C.S C.cwd kl s = !cb by rw [HR.out, hcb]; rfl)
  have HLK := hide (fun W (hb : Below w.heap.size w W) => (show MSet W b kl from HMS.out.of (hb.block b HMS.out.lt)).look (s := s) (by omega))
  rw [hcb] at HLK
  clear HR hcb
  cases cb with
  | true =>
    go_enter Tryz.func199, Tryz.ntmps199
    go_wp2_with fail
    go_region_held3 (fun w' => w'.cell? ⟨px, 0, none⟩ = some (.pointer (some ⟨g, 0, none⟩)) ∧ w'.cell? ⟨g, 2, none⟩ = some (.pointer (some ⟨C.gf, 0, none⟩)) ∧ w'.cell? ⟨g, 3, none⟩ = some (.string (bs C.cwd)) ∧ w'.cell? ⟨g, 5, none⟩ = some (.map (some b)))
      (first | exact ⟨hp, hc2, hc3, hc5⟩ | exact ⟨u0, u2, u3, u5⟩)
      ((go_at_call 188; refine (HK.out _ hb0).mono ?_; rintro e w1 ⟨rfl, hb⟩; have u0 := (hb.cell (p := ⟨px, 0, none⟩) hpl).trans hp; have u2 := (hb.cell (p := ⟨g, 2, none⟩) hgl).trans hc2; have u3 := (hb.cell (p := ⟨g, 3, none⟩) hgl).trans hc3; have u5 := (hb.cell (p := ⟨g, 5, none⟩) hgl).trans hc5; have hlk := HLK.out w1 (hb0.trans hb); have HB := hide (hb0.trans hb); clear hb))
    go_wp2
    go_ret
    rw [HE.out]
    exact ⟨rfl, HB.out⟩
  | false =>
    go_enter Tryz.func199, Tryz.ntmps199
    go_wp2_with fail
    go_region_held3 (fun w' => w'.cell? ⟨px, 0, none⟩ = some (.pointer (some ⟨g, 0, none⟩)) ∧ w'.cell? ⟨g, 2, none⟩ = some (.pointer (some ⟨C.gf, 0, none⟩)) ∧ w'.cell? ⟨g, 3, none⟩ = some (.string (bs C.cwd)) ∧ w'.cell? ⟨g, 5, none⟩ = some (.map (some b)))
      (first | exact ⟨hp, hc2, hc3, hc5⟩ | exact ⟨u0, u2, u3, u5⟩)
      ((go_at_call 188; refine (HK.out _ hb0).mono ?_; rintro e w1 ⟨rfl, hb⟩; have u0 := (hb.cell (p := ⟨px, 0, none⟩) hpl).trans hp; have u2 := (hb.cell (p := ⟨g, 2, none⟩) hgl).trans hc2; have u3 := (hb.cell (p := ⟨g, 3, none⟩) hgl).trans hc3; have u5 := (hb.cell (p := ⟨g, 5, none⟩) hgl).trans hc5; have hlk := HLK.out w1 (hb0.trans hb); have HB := hide (hb0.trans hb); clear hb))
    go_wp2
    go_ret
    rw [HE.out]
    exact ⟨rfl, HB.out⟩
set_option maxRecDepth 100000 in
set_option maxHeartbeats 1000000 in
theorem there_any (w0 : World) (C : Cf) (g b : Nat) (kl : List ByteArray) (p : Pn) (T : Nat → Prop) (A : Option Addr) (c : Nat) (L : List ByteArray) (w : World) (hok : CfOk C w) (h : FI w0 C g (some b) kl p T w) (hA : SR w A L) (hl : L.length ≤ 100000) (hs : ∀ s ∈ L, s.size ≤ 90000) :
    Calls Tryz.prog 184 #[.pointer (some ⟨g, 0, none⟩), .slice A L.length c] w fun e w' => e = .returned (.bool (thereF C.S C.cwd kl L)) ∧ Below w.heap.size w w' := by
  have hba := (Below.refl w.heap.size w).alloc (Nat.le_refl _) (.cells #[.pointer (some ⟨g, 0, none⟩)] 152)
  have hnb := heapNew w (.cells #[.pointer (some ⟨g, 0, none⟩)] 152)
  have HCF := hide (contf_any (lackF C.S C.cwd kl) 199 #[.pointer (some ⟨w.heap.size, 0, none⟩)] (fun _ _ => by kernel_rfl) A c L (w.alloc (.cells #[.pointer (some ⟨g, 0, none⟩)] 152)) (by omega) (hA.below hba) (fun W x hx hb => by
    have hb' := hba.trans (hb.mono (by simp))
    exact there1_any w0 C g b kl p T x w.heap.size W (hok.below hb') (h.step hb') (cellOf' ((hb.block w.heap.size (by simp)).trans hnb) (j := 0) rfl) (hs x hx) |>.mono fun e w' ⟨h3, h4⟩ => ⟨h3, hb.trans (h4.mono hb.size)⟩))
  have hR : thereF C.S C.cwd kl L = !L.any (lackF C.S C.cwd kl) := rfl
  obtain ⟨q, hq⟩ : ∃ q, L.any (lackF C.S C.cwd kl) = q := ⟨_, rfl⟩
  rw [hq] at HCF hR
  obtain ⟨n, hn⟩ : ∃ n, L.length = n := ⟨_, rfl⟩
  rw [hn] at HCF hl ⊢
  have HE := hide hR
  have HBA := hide hba
  clear hR hq hn hba hnb hok h hA hs
  go_enter Tryz.func184, Tryz.ntmps184
  go_wp2_with fail
  refine HCF.out.mono ?_
  rintro e w' ⟨rfl, hb⟩
  have HB := hide (below_up HBA.out hb HBA.out.size)
  clear hb
  go_wp2
  go_ret
  rw [HE.out]
  exact ⟨rfl, HB.out⟩
end Go.Proofs.YtmblmenafplccaaGreatDoor
