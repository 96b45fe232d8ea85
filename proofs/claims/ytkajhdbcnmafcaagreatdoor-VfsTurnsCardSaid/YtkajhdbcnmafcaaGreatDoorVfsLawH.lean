/- Walk of the law VfsTurns: a call that is refused changes nothing. -/
import Derived.Test.YtkajhdbcnmafcaaGreatDoorVfsLawG
namespace Go.Proofs.YtkajhdbcnmafcaaGreatDoor
open Go.RowKit Go.Deep Go.Maps Ln Pth Vf
set_option linter.unusedSimpArgs false
set_option linter.unusedVariables false
attribute [local go_sem] bt_eq

theorem okA_iff {x : Ac4} (h : okA x = true) : x.p.size ≤ 300 ∧ x.q.size ≤ 300 ∧ x.b.length ≤ 2000 := by
  unfold okA at h
  simp only [Bool.and_eq_true, decide_eq_true_eq] at h
  exact ⟨h.1.1, h.1.2, h.2⟩
theorem bigF_no {L : List Ac4} (h : bigF L = false) : (∀ x ∈ L, okA x = true) ∧ L.length ≤ 60 := by
  unfold bigF at h
  simp only [Bool.not_eq_false', Bool.and_eq_true, decide_eq_true_eq, List.all_eq_true] at h
  exact h
set_option maxRecDepth 100000 in
set_option maxHeartbeats 16000000 in
theorem law_vfsTurns (A : Option Addr) (c : Nat) (L : List Ac4) (x : Ac4) (hmx : L.length * 72 ≤ 140737488351232) (s0 : ∀ x ∈ L, szA x) (sx : szA x) (W : World) (hm : MX W) (h : AR4 W A L) (hx : RG encB 1 W x.A x.b) :
    Calls Tryz.prog 3 #[.slice A L.length c, .agg #[.int .i64 x.way, .string x.p, .string x.q, .slice x.A x.b.length x.c, .bool x.more]] W fun e w' => e = .returned (.bool true) ∧ Below W.heap.size W w' := by
  have hbB := (Below.refl W.heap.size W).alloc (Nat.le_refl _) (.cells #[.int .i64 x.way, .string x.p, .string x.q, .slice x.A x.b.length x.c, .bool x.more] 25)
  have hnB := heapNew W (.cells #[.int .i64 x.way, .string x.p, .string x.q, .slice x.A x.b.length x.c, .bool x.more] 25)
  obtain ⟨wB, hwB⟩ : ∃ Z, W.alloc (.cells #[.int .i64 x.way, .string x.p, .string x.q, .slice x.A x.b.length x.c, .bool x.more] 25) = Z := ⟨_, rfl⟩
  obtain ⟨ba, hba⟩ : ∃ b, W.heap.size = b := ⟨_, rfl⟩
  rw [hwB] at hbB hnB
  rw [hba] at hnB
  have hbal : ba < wB.heap.size := (Array.getElem?_eq_some_iff.1 hnB).1
  have HBW := hide hbB
  have HM := hide (hm.below hbB)
  have HAR := hide (h.below hbB)
  have HX := hide (hx.below hbB)
  have HAL := hide (alive4_any wB (hm.below hbB))
  have HS0 := hide (show ∀ y ∈ L ++ [x], y.p.size ≤ 9223372036854775807 ∧ y.q.size ≤ 9223372036854775807 ∧ y.b.length ≤ 9223372036854775807 from fun y hy => by
    rcases List.mem_append.1 hy with hy | hy
    · exact s0 y hy
    · rw [List.mem_singleton.1 hy]; exact sx)
  obtain ⟨way, hway⟩ : ∃ b, x.way = b := ⟨_, rfl⟩
  obtain ⟨ps, hps⟩ : ∃ b, x.p = b := ⟨_, rfl⟩
  obtain ⟨qs, hqs⟩ : ∃ b, x.q = b := ⟨_, rfl⟩
  obtain ⟨xA, hxA⟩ : ∃ b, x.A = b := ⟨_, rfl⟩
  obtain ⟨xc, hxc⟩ : ∃ b, x.c = b := ⟨_, rfl⟩
  obtain ⟨bl, hbl⟩ : ∃ b, x.b.length = b := ⟨_, rfl⟩
  obtain ⟨more, hmore⟩ : ∃ b, x.more = b := ⟨_, rfl⟩
  have HCS := hide (show (#[.int .i64 way, .string ps, .string qs, .slice xA bl xc, .bool more] : Array Value) = (encA4 x).toArray by rw [← hway, ← hps, ← hqs, ← hxA, ← hxc, ← hbl, ← hmore]; rfl)
  have HPP := hide (show bs (pT x) = ps by rw [pT_bs]; exact hps)
  have HQQ := hide (show bs (qT x) = qs by rw [qT_bs]; exact hqs)
  have HWY := hide hway
  have HXA := hide hxA
  have HXC := hide hxc
  have HXB := hide hbl
  have HXM := hide hmore
  rw [hway, hps, hqs, hxA, hxc, hbl, hmore] at hnB hwB ⊢
  have HC := hide (fun (Z : World) (hb : Below wB.heap.size wB Z) => show ((fun W => W.cell? ⟨ba, 0, none⟩ = some (.int .i64 way) ∧ W.cell? ⟨ba, 1, none⟩ = some (.string ps) ∧ W.cell? ⟨ba, 2, none⟩ = some (.string qs) ∧ W.cell? ⟨ba, 3, none⟩ = some (.slice xA bl xc) ∧ W.cell? ⟨ba, 4, none⟩ = some (.bool more))) Z from by
    have := (hb.block ba hbal).trans hnB
    exact ⟨cellOf this (j := 0) rfl, cellOf this (j := 1) rfl, cellOf this (j := 2) rfl, cellOf this (j := 3) rfl, cellOf this (j := 4) rfl⟩)
  obtain ⟨n, hn⟩ : ∃ n, L.length = n := ⟨_, rfl⟩
  have HN := hide hn
  have HMX := hide hmx
  rw [hn]
  clear hway hps hqs hxA hxc hbl hmore hm h hx hmx s0 sx hn hbB hnB
  go_enter Tryz.func3, Tryz.ntmps3
  go_wp2_with fail
  refine HAL.out.mono ?_
  rintro e w1 ⟨rfl, hb1⟩
  have HB1 := hide hb1
  clear hb1 HAL
  go_wp2_with fail
  cases hbg : bigF (L ++ [x]) with
  | true =>
    have HBIG := hide hbg
    clear hbg
    refine wp_region_held_drew (S := (fun W => W.cell? ⟨ba, 0, none⟩ = some (.int .i64 way) ∧ W.cell? ⟨ba, 1, none⟩ = some (.string ps) ∧ W.cell? ⟨ba, 2, none⟩ = some (.string qs) ∧ W.cell? ⟨ba, 3, none⟩ = some (.slice xA bl xc) ∧ W.cell? ⟨ba, 4, none⟩ = some (.bool more))) (by kernel_rfl) (HC.out _ HB1.out.drew) (fun hHeld => ?_)
    refine wpAnyH_tk (i := 0) (oi := _) (v := ?vBt0) rfl rfl (by kernel_rfl) (by kernel_rfl) (by kernel_rfl) (fun _ _ _ h => h) (Or.inl ⟨by kernel_rfl, ?yBt0⟩) (by assumption) ?rBt0
    case yBt0 =>
      intro w hSw
      (try dsimp only at hSw)
      go_simp
      try with_reducible rfl
    try simp only [List.setIfInBounds_toArray, List.set_cons_zero, List.set_cons_succ]
    refine wpAnyH_tk (i := 2) (oi := _) (v := ?vBt2) rfl rfl (by kernel_rfl) (by kernel_rfl) (by kernel_rfl) (fun _ _ _ h => h) (Or.inl ⟨by kernel_rfl, ?yBt2⟩) (by assumption) ?rBt2
    case yBt2 =>
      intro w hSw
      (try dsimp only at hSw)
      go_simp
      try with_reducible rfl
    try simp only [List.setIfInBounds_toArray, List.set_cons_zero, List.set_cons_succ]
    refine wpAnyH_ready (rs := [1, 3]) (by kernel_rfl) (by simp) ?_
    refine AllReadyH.cons (o := _) rfl (fun K hK => ?Btway1) (AllReadyH.cons (o := _) rfl (fun K hK => ?Btway2) AllReadyH.nil)
    case Btway1 =>
      obtain ⟨v2, w2, A3, c3, w3, r2, r3, hr3, hb2, hb3⟩ := acts_chain w1.drew A c L x #[.int .i64 way, .string ps, .string qs, .slice xA bl xc, .bool more] HCS.out ((HAR.out.below HB1.out.drew).1) HMX.out
      rw [HN.out] at r2 r3
      have HB2 := hide (below_up HB1.out.drew hb2 HB1.out.drew.size)
      have HB3 := hide (below_up HB1.out.drew hb3 HB1.out.drew.size)
      have hbg := big_any A3 c3 (L ++ [x]) w3 hr3 (by rw [List.length_append, HN.out]; have := HMX.out; have := HN.out; simp; omega) HS0.out
      rw [List.length_append, HN.out, HBIG.out] at hbg
      have HBC := hide hbg
      clear hbg hr3 hb2 hb3
      refine step_app_run rfl _ _ rfl rfl rfl rfl r2 ?_
      refine hK.out _ _ (HC.out _ HB2.out) (fun _ => ?_)
      clear hK K
      try simp only [Act.put, List.setIfInBounds_toArray, List.set_cons_zero, List.set_cons_succ]
      refine wpAnyH_ready (rs := [3]) (by kernel_rfl) (by simp) ?_
      refine AllReadyH.cons (o := _) rfl (fun K hK => ?_) AllReadyH.nil
      rw [if_pos (by kernel_rfl)]
      go_simp
      refine hK.out _ _ (HC.out _ (HB2.out.alloc HB2.out.size _)) (fun _ => ?_)
      clear hK K
      try simp only [Act.put, List.setIfInBounds_toArray, List.set_cons_zero, List.set_cons_succ]
      refine wpAnyH_ready (rs := [4]) (by kernel_rfl) (by simp) ?_
      refine AllReadyH.cons (o := _) rfl (fun K hK => ?_) AllReadyH.nil
      refine step_app_run rfl _ _ rfl rfl rfl rfl r3 ?_
      refine hK.out _ _ (HC.out _ HB3.out) (fun _ => ?_)
      clear hK K
      try simp only [Act.put, List.setIfInBounds_toArray, List.set_cons_zero, List.set_cons_succ]
      refine wpAnyH_ready (rs := [5]) (by kernel_rfl) (by simp) ?_
      refine AllReadyH.cons (o := _) rfl (fun K hK => ?_) AllReadyH.nil
      rw [if_pos (by kernel_rfl)]
      go_simp
      refine HBC.out.mono ?_
      rintro e w' ⟨rfl, rfl⟩
      refine hK.out _ _ (HC.out _ HB3.out) (fun _ => ?_)
      clear hK K
      try simp only [Act.put, List.setIfInBounds_toArray, List.set_cons_zero, List.set_cons_succ]
      refine wpAnyH_tk (i := 6) (oi := _) (v := ?vBt16) rfl rfl (by kernel_rfl) (by kernel_rfl) (by kernel_rfl) (fun _ _ _ h => h) (Or.inl ⟨by kernel_rfl, ?yBt16⟩) (by assumption) ?rBt16
      case yBt16 =>
        intro w hSw
        (try dsimp only at hSw)
        go_simp
        try with_reducible rfl
      try simp only [List.setIfInBounds_toArray, List.set_cons_zero, List.set_cons_succ]
      refine wpAnyH_done (by kernel_rfl) ?_ _
      go_wp2
      go_ret
      exact ⟨rfl, below_up HBW.out HB3.out HBW.out.size⟩
    case Btway2 =>
      obtain ⟨v2, w2, A3, c3, w3, r2, r3, hr3, hb2, hb3⟩ := acts_chain2 w1.drew A c L x #[.int .i64 way, .string ps, .string qs, .slice xA bl xc, .bool more] HCS.out ((HAR.out.below HB1.out.drew).1) HMX.out
      rw [HN.out] at r2 r3
      have HB2 := hide (below_up HB1.out.drew hb2 HB1.out.drew.size)
      have HB3 := hide (below_up HB1.out.drew hb3 HB1.out.drew.size)
      have hbg := big_any A3 c3 (L ++ [x]) w3 hr3 (by rw [List.length_append, HN.out]; have := HMX.out; have := HN.out; simp; omega) HS0.out
      rw [List.length_append, HN.out, HBIG.out] at hbg
      have HBC := hide hbg
      clear hbg hr3 hb2 hb3
      rw [if_pos (by kernel_rfl)]
      go_simp
      refine hK.out _ _ (HC.out _ (HB1.out.drew.alloc HB1.out.drew.size _)) (fun _ => ?_)
      clear hK K
      try simp only [Act.put, List.setIfInBounds_toArray, List.set_cons_zero, List.set_cons_succ]
      refine wpAnyH_ready (rs := [1]) (by kernel_rfl) (by simp) ?_
      refine AllReadyH.cons (o := _) rfl (fun K hK => ?_) AllReadyH.nil
      refine step_app_run rfl _ _ rfl rfl rfl rfl r2 ?_
      refine hK.out _ _ (HC.out _ HB2.out) (fun _ => ?_)
      clear hK K
      try simp only [Act.put, List.setIfInBounds_toArray, List.set_cons_zero, List.set_cons_succ]
      refine wpAnyH_ready (rs := [4]) (by kernel_rfl) (by simp) ?_
      refine AllReadyH.cons (o := _) rfl (fun K hK => ?_) AllReadyH.nil
      refine step_app_run rfl _ _ rfl rfl rfl rfl r3 ?_
      refine hK.out _ _ (HC.out _ HB3.out) (fun _ => ?_)
      clear hK K
      try simp only [Act.put, List.setIfInBounds_toArray, List.set_cons_zero, List.set_cons_succ]
      refine wpAnyH_ready (rs := [5]) (by kernel_rfl) (by simp) ?_
      refine AllReadyH.cons (o := _) rfl (fun K hK => ?_) AllReadyH.nil
      rw [if_pos (by kernel_rfl)]
      go_simp
      refine HBC.out.mono ?_
      rintro e w' ⟨rfl, rfl⟩
      refine hK.out _ _ (HC.out _ HB3.out) (fun _ => ?_)
      clear hK K
      try simp only [Act.put, List.setIfInBounds_toArray, List.set_cons_zero, List.set_cons_succ]
      refine wpAnyH_tk (i := 6) (oi := _) (v := ?vBt26) rfl rfl (by kernel_rfl) (by kernel_rfl) (by kernel_rfl) (fun _ _ _ h => h) (Or.inl ⟨by kernel_rfl, ?yBt26⟩) (by assumption) ?rBt26
      case yBt26 =>
        intro w hSw
        (try dsimp only at hSw)
        go_simp
        try with_reducible rfl
      try simp only [List.setIfInBounds_toArray, List.set_cons_zero, List.set_cons_succ]
      refine wpAnyH_done (by kernel_rfl) ?_ _
      go_wp2
      go_ret
      exact ⟨rfl, below_up HBW.out HB3.out HBW.out.size⟩
  | false =>
    have HBIG := hide hbg
    clear hbg
    refine wp_region_held_drew (S := (fun W => W.cell? ⟨ba, 0, none⟩ = some (.int .i64 way) ∧ W.cell? ⟨ba, 1, none⟩ = some (.string ps) ∧ W.cell? ⟨ba, 2, none⟩ = some (.string qs) ∧ W.cell? ⟨ba, 3, none⟩ = some (.slice xA bl xc) ∧ W.cell? ⟨ba, 4, none⟩ = some (.bool more))) (by kernel_rfl) (HC.out _ HB1.out.drew) (fun hHeld => ?_)
    refine wpAnyH_tk (i := 0) (oi := _) (v := ?vBf0) rfl rfl (by kernel_rfl) (by kernel_rfl) (by kernel_rfl) (fun _ _ _ h => h) (Or.inl ⟨by kernel_rfl, ?yBf0⟩) (by assumption) ?rBf0
    case yBf0 =>
      intro w hSw
      (try dsimp only at hSw)
      go_simp
      try with_reducible rfl
    try simp only [List.setIfInBounds_toArray, List.set_cons_zero, List.set_cons_succ]
    refine wpAnyH_tk (i := 2) (oi := _) (v := ?vBf2) rfl rfl (by kernel_rfl) (by kernel_rfl) (by kernel_rfl) (fun _ _ _ h => h) (Or.inl ⟨by kernel_rfl, ?yBf2⟩) (by assumption) ?rBf2
    case yBf2 =>
      intro w hSw
      (try dsimp only at hSw)
      go_simp
      try with_reducible rfl
    try simp only [List.setIfInBounds_toArray, List.set_cons_zero, List.set_cons_succ]
    refine wpAnyH_ready (rs := [1, 3]) (by kernel_rfl) (by simp) ?_
    refine AllReadyH.cons (o := _) rfl (fun K hK => ?Bfway1) (AllReadyH.cons (o := _) rfl (fun K hK => ?Bfway2) AllReadyH.nil)
    case Bfway1 =>
      obtain ⟨v2, w2, A3, c3, w3, r2, r3, hr3, hb2, hb3⟩ := acts_chain w1.drew A c L x #[.int .i64 way, .string ps, .string qs, .slice xA bl xc, .bool more] HCS.out ((HAR.out.below HB1.out.drew).1) HMX.out
      rw [HN.out] at r2 r3
      have HB2 := hide (below_up HB1.out.drew hb2 HB1.out.drew.size)
      have HB3 := hide (below_up HB1.out.drew hb3 HB1.out.drew.size)
      have hbg := big_any A3 c3 (L ++ [x]) w3 hr3 (by rw [List.length_append, HN.out]; have := HMX.out; have := HN.out; simp; omega) HS0.out
      rw [List.length_append, HN.out, HBIG.out] at hbg
      have HBC := hide hbg
      clear hbg hr3 hb2 hb3
      refine step_app_run rfl _ _ rfl rfl rfl rfl r2 ?_
      refine hK.out _ _ (HC.out _ HB2.out) (fun _ => ?_)
      clear hK K
      try simp only [Act.put, List.setIfInBounds_toArray, List.set_cons_zero, List.set_cons_succ]
      refine wpAnyH_ready (rs := [3]) (by kernel_rfl) (by simp) ?_
      refine AllReadyH.cons (o := _) rfl (fun K hK => ?_) AllReadyH.nil
      rw [if_pos (by kernel_rfl)]
      go_simp
      refine hK.out _ _ (HC.out _ (HB2.out.alloc HB2.out.size _)) (fun _ => ?_)
      clear hK K
      try simp only [Act.put, List.setIfInBounds_toArray, List.set_cons_zero, List.set_cons_succ]
      refine wpAnyH_ready (rs := [4]) (by kernel_rfl) (by simp) ?_
      refine AllReadyH.cons (o := _) rfl (fun K hK => ?_) AllReadyH.nil
      refine step_app_run rfl _ _ rfl rfl rfl rfl r3 ?_
      refine hK.out _ _ (HC.out _ HB3.out) (fun _ => ?_)
      clear hK K
      try simp only [Act.put, List.setIfInBounds_toArray, List.set_cons_zero, List.set_cons_succ]
      refine wpAnyH_ready (rs := [5]) (by kernel_rfl) (by simp) ?_
      refine AllReadyH.cons (o := _) rfl (fun K hK => ?_) AllReadyH.nil
      rw [if_pos (by kernel_rfl)]
      go_simp
      refine HBC.out.mono ?_
      rintro e w' ⟨rfl, rfl⟩
      refine hK.out _ _ (HC.out _ HB3.out) (fun _ => ?_)
      clear hK K
      try simp only [Act.put, List.setIfInBounds_toArray, List.set_cons_zero, List.set_cons_succ]
      refine wpAnyH_tk (i := 6) (oi := _) (v := ?vBf16) rfl rfl (by kernel_rfl) (by kernel_rfl) (by kernel_rfl) (fun _ _ _ h => h) (Or.inl ⟨by kernel_rfl, ?yBf16⟩) (by assumption) ?rBf16
      case yBf16 =>
        intro w hSw
        (try dsimp only at hSw)
        go_simp
        try with_reducible rfl
      try simp only [List.setIfInBounds_toArray, List.set_cons_zero, List.set_cons_succ]
      refine wpAnyH_done (by kernel_rfl) ?_ _
      obtain ⟨hok, hl60⟩ := bigF_no HBIG.out
      have HOK := hide hok
      have hn60 : n ≤ 60 := by
        rw [List.length_append, HN.out] at hl60
        simp at hl60
        omega
      clear hok hl60
      have HNW := hide (vnew_any 8 200 w3 (by omega) (by omega) (by omega) (by omega))
      go_wp2_with fail
      refine HNW.out.mono ?_
      rintro e w4 ⟨rfl, hb4, hv4, hs4⟩
      have HNR := hide (rnew_any 8 200 w4)
      go_wp2_with fail
      refine HNR.out.mono ?_
      rintro e w5 ⟨rfl, hb5, hr5, hs5⟩
      have HI0 := hide (Two.start 8 200 HB3.out hb4 hv4 hs4 hb5 hr5 hs5)
      obtain ⟨f, hf⟩ : ∃ f, w3.heap.size + 1 = f := ⟨_, rfl⟩
      obtain ⟨r, hr⟩ : ∃ f, w4.heap.size = f := ⟨_, rfl⟩
      rw [hf, hr] at HI0
      rw [hf, hr]
      clear hb4 hv4 hs4 hb5 hr5 hs5 HNW HNR hf hr
      go_wp2
      go_loopw [9] (fun v9 wr => ∃ k : Nat, v9 = .int .i64 k ∧ k ≤ n ∧ Hid (InvN (Two f r (actsS (newS 8 200) (L.take k)) (actsS (newS 8 200) (L.take k)) noneN) wB.heap.size wB wr)) (fun v9 _ => n - (intOf v9).toNat)
      case atStart => exact ⟨0, rfl, Nat.zero_le _, HI0.out⟩
      case round =>
        obtain ⟨k, rfl, hk, HI⟩ := hrel
        have har := HAR.out.below HI.out.below
        by_cases hlt : k < n
        · obtain ⟨y, hy⟩ : ∃ y, L[k]? = some y := ⟨L[k]'(by have := HN.out; omega), List.getElem?_eq_getElem _⟩
          obtain ⟨gs, og, rfl, hgs, hc⟩ := har.1 k y hy
          have c0 : wr.cell? ⟨gs, og + k * 5, none⟩ = some (.int .i64 y.way) := by have := hc 0 _ rfl; simpa using this
          have c1 : wr.cell? ⟨gs, og + k * 5 + 1, none⟩ = some (.string y.p) := hc 1 _ rfl
          have c2 : wr.cell? ⟨gs, og + k * 5 + 2, none⟩ = some (.string y.q) := hc 2 _ rfl
          have c3 : wr.cell? ⟨gs, og + k * 5 + 3, none⟩ = some (.slice y.A y.b.length y.c) := hc 3 _ rfl
          have c4 : wr.cell? ⟨gs, og + k * 5 + 4, none⟩ = some (.bool y.more) := hc 4 _ rfl
          obtain ⟨z1, z2, z3⟩ := okA_iff (HOK.out y (List.mem_append_left _ (List.mem_of_getElem? hy)))
          have hgd := GoodS.acts (L.take k) (GoodS.new 8 200)
          have HDO := hide (do_any f r _ y noneN noneN.fr wB wr HI.out hgd (by decide) (by rw [List.length_take]; omega) HM.out z1 z2 z3 (HAR.out.2 y (List.mem_of_getElem? hy)))
          rw [← actsS_take hy] at HDO
          have b1 : (k : Int) < (n : Int) := by omega
          clear hy hc hgs z1 z2 z3 hgd har
          go_wp2_with fail
          refine HDO.out.mono ?_
          rintro e w6 ⟨rfl, hi6⟩
          have HI6 := hide hi6
          clear hi6
          go_wp2
          go_roundw
          case rel => exact ⟨k + 1, by go_num, by omega, HI6.out⟩
          case measure => simp [intOf]; omega
        · obtain ⟨w7, hw7⟩ : ∃ Z, Z = wr := ⟨_, rfl⟩
          subst hw7
          obtain rfl : n = k := by omega
          rw [List.take_of_length_le (by have := HN.out; omega)] at HI
          have hgd := GoodS.acts L (GoodS.new 8 200)
          rw [HN.out] at hgd
          obtain ⟨S, hSe⟩ : ∃ S, actsS (newS 8 200) L = S := ⟨_, rfl⟩
          rw [hSe] at HI hgd
          obtain ⟨u1, u2, u3⟩ := okA_iff (HOK.out x (List.mem_append_right _ (by simp)))
          have HU := hide (show (pT x).length ≤ 300 ∧ (qT x).length ≤ 300 ∧ x.b.length ≤ 2000 from ⟨by unfold pT; rw [data_len]; exact u1, by unfold qT; rw [data_len]; exact u2, u3⟩)
          have HG := hide hgd
          have HGS := hide (show S.bytes ≤ 400000 ∧ S.clock ≤ 1000000000 from ⟨by rw [hgd.bytes]; decide, by have := hgd.clock; omega⟩)
          have HALL := hide (fun (Z : World) (hh : Hs (VS f S) Z) => all_any f S hgd.wf Z hh)
          have HDE := hide (fun (h : (doS S x).2 ≠ 0) => doS_err hgd.wf hgd.hang h)
          have HA7 := hide (HALL.out w7 (Two.vs HI.out))
          unfold AllPost at HA7
          clear har hgd u1 u2 u3 hSe hlt
          go_wp2_with fail
          refine HA7.out.mono ?_
          rintro e w8 ⟨⟨A1, c1, P1, rfl, hc1, hn1, hs1⟩, hb8⟩
          have HI8 := hide (Two.row HI.out noneN.fr (Nat.le_refl _) hb8 hn1)
          have HS1 := hide hs1
          have hpl1 : P1.length ≤ 10000 := by rw [← stripN_len, hs1]; have := HG.out.wf.nodes; have := HG.out.wf.n10; omega
          obtain ⟨m1, hm1⟩ : ∃ n, P1.length = n := ⟨_, rfl⟩
          have HM1 := hide hm1
          rw [hm1]
          clear hc1 hn1 hs1 hb8 hm1 HA7
          have HXR := hide (noneN.fr.join (RowX.fr A1 P1))
          have HCL := hide (fun (Z : World) (hh : Hs (VS f S) Z) => clock_any f S Z hh)
          go_wp2_with fail
          refine (HCL.out w8 (Two.vs HI8.out)).mono ?_
          rintro e w' ⟨rfl, rfl⟩
          obtain ⟨k0, k1, k2, k3, k4⟩ := HC.out w8 HI8.out.below
          by_cases hwy : way = 0
          · subst hwy
            have hdo : doS S x = writeS S (pT x) x.b x.more := by unfold doS; rw [HWY.out]; rfl
            have hF := Two.callF HI8.out (Nat.le_refl _) HXR.out (FsPost.specN (fun T N hv ok => write_any f S (pT x) x.b x.more x.A x.c T N w8 hv ok HG.out.wf (HM.out.below HI8.out.below) (by have := HU.out; omega) HGS.out.1 (by have := HU.out; omega) HGS.out.2 (HX.out.below HI8.out.below)))
            rw [← hdo, HPP.out, HXA.out, HXC.out, HXB.out, HXM.out] at hF
            have HF := hide hF
            have HERR := hide HDE.out
            obtain ⟨R, hR⟩ : ∃ y, doS S x = y := ⟨_, rfl⟩
            rw [hR] at HF HERR
            clear hdo hF hR HDE
            go_wp2_with fail
            refine HF.out.mono ?_
            rintro e w9 ⟨rfl, hi9⟩
            have HI9 := hide hi9
            clear hi9
            go_wp2_with fail
            refine (num4_any _ _).mono ?_
            rintro e w' ⟨rfl, rfl⟩
            by_cases e0 : R.2 = 0
            · rw [e0]
              go_wp2
              go_ret
              exact ⟨by simp, below_up HBW.out HI9.out.below HBW.out.size⟩
            have hst := HERR.out e0
            obtain ⟨t1, t2⟩ := ne0 e0
            obtain ⟨er, her⟩ : ∃ e, R.2 = e := ⟨_, rfl⟩
            rw [her] at t1 t2 ⊢
            have hi9 := HI9.out
            rw [hst] at hi9
            have HJ9 := hide hi9
            clear hi9 hst her e0
            go_wp2_with fail
            refine (HCL.out w9 (Two.vs HJ9.out)).mono ?_
            rintro e w' ⟨rfl, rfl⟩
            have HA9 := hide (HALL.out w9 (Two.vs HJ9.out))
            unfold AllPost at HA9
            go_wp2_with fail
            refine HA9.out.mono ?_
            rintro e w10 ⟨⟨A2, c2, P2, rfl, hc2, hn2, hs2⟩, hb10⟩
            have hj10 := HJ9.out.step (Two.fr f r S S HXR.out) hb10 (Nat.le_refl _)
            obtain ⟨r1, r2⟩ := RowX.get hj10.snd.snd
            have hsm := same4_any A2 A1 c2 c1 P2 P1 w10 hn2.rg r1 (fun z hz => ⟨(hn2.dat z hz).1, (hn2.dat z hz).2.1⟩) r2 (by rw [← stripN_len, hs2, ← HS1.out, stripN_len]; omega) (hs2.trans HS1.out.symm)
            rw [HM1.out] at hsm
            have HSM := hide hsm
            have HJ10 := hide hj10
            clear hc2 hn2 hs2 hb10 hj10 r1 r2 hsm
            go_wp2_with fail
            refine HSM.out.mono ?_
            rintro e w11 ⟨rfl, hb11⟩
            have HB11 := hide (below_up HJ10.out.below hb11 HJ10.out.below.size)
            clear hb11
            go_wp2
            go_ret
            exact ⟨by simp, below_up HBW.out HB11.out HBW.out.size⟩
          by_cases hwy : way = 1
          · subst hwy
            have hdo : doS S x = mkdirS S (pT x) := by unfold doS; rw [HWY.out]; rfl
            have hF := Two.callF HI8.out (Nat.le_refl _) HXR.out (FsPost.specN (fun T N hv ok => mkdir_any f S (pT x) T N w8 hv ok HG.out.wf (HM.out.below HI8.out.below) (by have := HU.out; omega) HGS.out.2))
            rw [← hdo, HPP.out] at hF
            have HF := hide hF
            have HERR := hide HDE.out
            obtain ⟨R, hR⟩ : ∃ y, doS S x = y := ⟨_, rfl⟩
            rw [hR] at HF HERR
            clear hdo hF hR HDE
            go_wp2_with fail
            refine HF.out.mono ?_
            rintro e w9 ⟨rfl, hi9⟩
            have HI9 := hide hi9
            clear hi9
            go_wp2_with fail
            refine (num4_any _ _).mono ?_
            rintro e w' ⟨rfl, rfl⟩
            by_cases e0 : R.2 = 0
            · rw [e0]
              go_wp2
              go_ret
              exact ⟨by simp, below_up HBW.out HI9.out.below HBW.out.size⟩
            have hst := HERR.out e0
            obtain ⟨t1, t2⟩ := ne0 e0
            obtain ⟨er, her⟩ : ∃ e, R.2 = e := ⟨_, rfl⟩
            rw [her] at t1 t2 ⊢
            have hi9 := HI9.out
            rw [hst] at hi9
            have HJ9 := hide hi9
            clear hi9 hst her e0
            go_wp2_with fail
            refine (HCL.out w9 (Two.vs HJ9.out)).mono ?_
            rintro e w' ⟨rfl, rfl⟩
            have HA9 := hide (HALL.out w9 (Two.vs HJ9.out))
            unfold AllPost at HA9
            go_wp2_with fail
            refine HA9.out.mono ?_
            rintro e w10 ⟨⟨A2, c2, P2, rfl, hc2, hn2, hs2⟩, hb10⟩
            have hj10 := HJ9.out.step (Two.fr f r S S HXR.out) hb10 (Nat.le_refl _)
            obtain ⟨r1, r2⟩ := RowX.get hj10.snd.snd
            have hsm := same4_any A2 A1 c2 c1 P2 P1 w10 hn2.rg r1 (fun z hz => ⟨(hn2.dat z hz).1, (hn2.dat z hz).2.1⟩) r2 (by rw [← stripN_len, hs2, ← HS1.out, stripN_len]; omega) (hs2.trans HS1.out.symm)
            rw [HM1.out] at hsm
            have HSM := hide hsm
            have HJ10 := hide hj10
            clear hc2 hn2 hs2 hb10 hj10 r1 r2 hsm
            go_wp2_with fail
            refine HSM.out.mono ?_
            rintro e w11 ⟨rfl, hb11⟩
            have HB11 := hide (below_up HJ10.out.below hb11 HJ10.out.below.size)
            clear hb11
            go_wp2
            go_ret
            exact ⟨by simp, below_up HBW.out HB11.out HBW.out.size⟩
          by_cases hwy : way = 2
          · subst hwy
            have hdo : doS S x = removeS S (pT x) := by unfold doS; rw [HWY.out]; rfl
            have hF := Two.callF HI8.out (Nat.le_refl _) HXR.out (FsPost.specN (fun T N hv ok => remove_any f S (pT x) T N w8 hv ok HG.out.wf (HM.out.below HI8.out.below) (by have := HU.out; omega) HGS.out.2))
            rw [← hdo, HPP.out] at hF
            have HF := hide hF
            have HERR := hide HDE.out
            obtain ⟨R, hR⟩ : ∃ y, doS S x = y := ⟨_, rfl⟩
            rw [hR] at HF HERR
            clear hdo hF hR HDE
            go_wp2_with fail
            refine HF.out.mono ?_
            rintro e w9 ⟨rfl, hi9⟩
            have HI9 := hide hi9
            clear hi9
            go_wp2_with fail
            refine (num4_any _ _).mono ?_
            rintro e w' ⟨rfl, rfl⟩
            by_cases e0 : R.2 = 0
            · rw [e0]
              go_wp2
              go_ret
              exact ⟨by simp, below_up HBW.out HI9.out.below HBW.out.size⟩
            have hst := HERR.out e0
            obtain ⟨t1, t2⟩ := ne0 e0
            obtain ⟨er, her⟩ : ∃ e, R.2 = e := ⟨_, rfl⟩
            rw [her] at t1 t2 ⊢
            have hi9 := HI9.out
            rw [hst] at hi9
            have HJ9 := hide hi9
            clear hi9 hst her e0
            go_wp2_with fail
            refine (HCL.out w9 (Two.vs HJ9.out)).mono ?_
            rintro e w' ⟨rfl, rfl⟩
            have HA9 := hide (HALL.out w9 (Two.vs HJ9.out))
            unfold AllPost at HA9
            go_wp2_with fail
            refine HA9.out.mono ?_
            rintro e w10 ⟨⟨A2, c2, P2, rfl, hc2, hn2, hs2⟩, hb10⟩
            have hj10 := HJ9.out.step (Two.fr f r S S HXR.out) hb10 (Nat.le_refl _)
            obtain ⟨r1, r2⟩ := RowX.get hj10.snd.snd
            have hsm := same4_any A2 A1 c2 c1 P2 P1 w10 hn2.rg r1 (fun z hz => ⟨(hn2.dat z hz).1, (hn2.dat z hz).2.1⟩) r2 (by rw [← stripN_len, hs2, ← HS1.out, stripN_len]; omega) (hs2.trans HS1.out.symm)
            rw [HM1.out] at hsm
            have HSM := hide hsm
            have HJ10 := hide hj10
            clear hc2 hn2 hs2 hb10 hj10 r1 r2 hsm
            go_wp2_with fail
            refine HSM.out.mono ?_
            rintro e w11 ⟨rfl, hb11⟩
            have HB11 := hide (below_up HJ10.out.below hb11 HJ10.out.below.size)
            clear hb11
            go_wp2
            go_ret
            exact ⟨by simp, below_up HBW.out HB11.out HBW.out.size⟩
          by_cases hwy : way = 3
          · subst hwy
            have hdo : doS S x = touchS S (pT x) := by unfold doS; rw [HWY.out]; rfl
            have hF := Two.callF HI8.out (Nat.le_refl _) HXR.out (FsPost.specN (fun T N hv ok => touch_any f S (pT x) T N w8 hv ok HG.out.wf (HM.out.below HI8.out.below) (by have := HU.out; omega) HGS.out.1 HGS.out.2))
            rw [← hdo, HPP.out] at hF
            have HF := hide hF
            have HERR := hide HDE.out
            obtain ⟨R, hR⟩ : ∃ y, doS S x = y := ⟨_, rfl⟩
            rw [hR] at HF HERR
            clear hdo hF hR HDE
            go_wp2_with fail
            refine HF.out.mono ?_
            rintro e w9 ⟨rfl, hi9⟩
            have HI9 := hide hi9
            clear hi9
            go_wp2_with fail
            refine (num4_any _ _).mono ?_
            rintro e w' ⟨rfl, rfl⟩
            by_cases e0 : R.2 = 0
            · rw [e0]
              go_wp2
              go_ret
              exact ⟨by simp, below_up HBW.out HI9.out.below HBW.out.size⟩
            have hst := HERR.out e0
            obtain ⟨t1, t2⟩ := ne0 e0
            obtain ⟨er, her⟩ : ∃ e, R.2 = e := ⟨_, rfl⟩
            rw [her] at t1 t2 ⊢
            have hi9 := HI9.out
            rw [hst] at hi9
            have HJ9 := hide hi9
            clear hi9 hst her e0
            go_wp2_with fail
            refine (HCL.out w9 (Two.vs HJ9.out)).mono ?_
            rintro e w' ⟨rfl, rfl⟩
            have HA9 := hide (HALL.out w9 (Two.vs HJ9.out))
            unfold AllPost at HA9
            go_wp2_with fail
            refine HA9.out.mono ?_
            rintro e w10 ⟨⟨A2, c2, P2, rfl, hc2, hn2, hs2⟩, hb10⟩
            have hj10 := HJ9.out.step (Two.fr f r S S HXR.out) hb10 (Nat.le_refl _)
            obtain ⟨r1, r2⟩ := RowX.get hj10.snd.snd
            have hsm := same4_any A2 A1 c2 c1 P2 P1 w10 hn2.rg r1 (fun z hz => ⟨(hn2.dat z hz).1, (hn2.dat z hz).2.1⟩) r2 (by rw [← stripN_len, hs2, ← HS1.out, stripN_len]; omega) (hs2.trans HS1.out.symm)
            rw [HM1.out] at hsm
            have HSM := hide hsm
            have HJ10 := hide hj10
            clear hc2 hn2 hs2 hb10 hj10 r1 r2 hsm
            go_wp2_with fail
            refine HSM.out.mono ?_
            rintro e w11 ⟨rfl, hb11⟩
            have HB11 := hide (below_up HJ10.out.below hb11 HJ10.out.below.size)
            clear hb11
            go_wp2
            go_ret
            exact ⟨by simp, below_up HBW.out HB11.out HBW.out.size⟩
          by_cases hwy : way = 4
          · subst hwy
            have hdo : doS S x = moveS S (pT x) (qT x) := by unfold doS; rw [HWY.out]; rfl
            have hF := Two.callF HI8.out (Nat.le_refl _) HXR.out (FsPost.specN (fun T N hv ok => move_any f S (pT x) (qT x) T N w8 hv ok HG.out.wf (HM.out.below HI8.out.below) (by have := HU.out; omega) (by have := HU.out; omega) HGS.out.2))
            rw [← hdo, HPP.out, HQQ.out] at hF
            have HF := hide hF
            have HERR := hide HDE.out
            obtain ⟨R, hR⟩ : ∃ y, doS S x = y := ⟨_, rfl⟩
            rw [hR] at HF HERR
            clear hdo hF hR HDE
            go_wp2_with fail
            refine HF.out.mono ?_
            rintro e w9 ⟨rfl, hi9⟩
            have HI9 := hide hi9
            clear hi9
            go_wp2_with fail
            refine (num4_any _ _).mono ?_
            rintro e w' ⟨rfl, rfl⟩
            by_cases e0 : R.2 = 0
            · rw [e0]
              go_wp2
              go_ret
              exact ⟨by simp, below_up HBW.out HI9.out.below HBW.out.size⟩
            have hst := HERR.out e0
            obtain ⟨t1, t2⟩ := ne0 e0
            obtain ⟨er, her⟩ : ∃ e, R.2 = e := ⟨_, rfl⟩
            rw [her] at t1 t2 ⊢
            have hi9 := HI9.out
            rw [hst] at hi9
            have HJ9 := hide hi9
            clear hi9 hst her e0
            go_wp2_with fail
            refine (HCL.out w9 (Two.vs HJ9.out)).mono ?_
            rintro e w' ⟨rfl, rfl⟩
            have HA9 := hide (HALL.out w9 (Two.vs HJ9.out))
            unfold AllPost at HA9
            go_wp2_with fail
            refine HA9.out.mono ?_
            rintro e w10 ⟨⟨A2, c2, P2, rfl, hc2, hn2, hs2⟩, hb10⟩
            have hj10 := HJ9.out.step (Two.fr f r S S HXR.out) hb10 (Nat.le_refl _)
            obtain ⟨r1, r2⟩ := RowX.get hj10.snd.snd
            have hsm := same4_any A2 A1 c2 c1 P2 P1 w10 hn2.rg r1 (fun z hz => ⟨(hn2.dat z hz).1, (hn2.dat z hz).2.1⟩) r2 (by rw [← stripN_len, hs2, ← HS1.out, stripN_len]; omega) (hs2.trans HS1.out.symm)
            rw [HM1.out] at hsm
            have HSM := hide hsm
            have HJ10 := hide hj10
            clear hc2 hn2 hs2 hb10 hj10 r1 r2 hsm
            go_wp2_with fail
            refine HSM.out.mono ?_
            rintro e w11 ⟨rfl, hb11⟩
            have HB11 := hide (below_up HJ10.out.below hb11 HJ10.out.below.size)
            clear hb11
            go_wp2
            go_ret
            exact ⟨by simp, below_up HBW.out HB11.out HBW.out.size⟩
          go_wp2
          go_ret
          exact ⟨by simp, below_up HBW.out HI8.out.below HBW.out.size⟩
    case Bfway2 =>
      obtain ⟨v2, w2, A3, c3, w3, r2, r3, hr3, hb2, hb3⟩ := acts_chain2 w1.drew A c L x #[.int .i64 way, .string ps, .string qs, .slice xA bl xc, .bool more] HCS.out ((HAR.out.below HB1.out.drew).1) HMX.out
      rw [HN.out] at r2 r3
      have HB2 := hide (below_up HB1.out.drew hb2 HB1.out.drew.size)
      have HB3 := hide (below_up HB1.out.drew hb3 HB1.out.drew.size)
      have hbg := big_any A3 c3 (L ++ [x]) w3 hr3 (by rw [List.length_append, HN.out]; have := HMX.out; have := HN.out; simp; omega) HS0.out
      rw [List.length_append, HN.out, HBIG.out] at hbg
      have HBC := hide hbg
      clear hbg hr3 hb2 hb3
      rw [if_pos (by kernel_rfl)]
      go_simp
      refine hK.out _ _ (HC.out _ (HB1.out.drew.alloc HB1.out.drew.size _)) (fun _ => ?_)
      clear hK K
      try simp only [Act.put, List.setIfInBounds_toArray, List.set_cons_zero, List.set_cons_succ]
      refine wpAnyH_ready (rs := [1]) (by kernel_rfl) (by simp) ?_
      refine AllReadyH.cons (o := _) rfl (fun K hK => ?_) AllReadyH.nil
      refine step_app_run rfl _ _ rfl rfl rfl rfl r2 ?_
      refine hK.out _ _ (HC.out _ HB2.out) (fun _ => ?_)
      clear hK K
      try simp only [Act.put, List.setIfInBounds_toArray, List.set_cons_zero, List.set_cons_succ]
      refine wpAnyH_ready (rs := [4]) (by kernel_rfl) (by simp) ?_
      refine AllReadyH.cons (o := _) rfl (fun K hK => ?_) AllReadyH.nil
      refine step_app_run rfl _ _ rfl rfl rfl rfl r3 ?_
      refine hK.out _ _ (HC.out _ HB3.out) (fun _ => ?_)
      clear hK K
      try simp only [Act.put, List.setIfInBounds_toArray, List.set_cons_zero, List.set_cons_succ]
      refine wpAnyH_ready (rs := [5]) (by kernel_rfl) (by simp) ?_
      refine AllReadyH.cons (o := _) rfl (fun K hK => ?_) AllReadyH.nil
      rw [if_pos (by kernel_rfl)]
      go_simp
      refine HBC.out.mono ?_
      rintro e w' ⟨rfl, rfl⟩
      refine hK.out _ _ (HC.out _ HB3.out) (fun _ => ?_)
      clear hK K
      try simp only [Act.put, List.setIfInBounds_toArray, List.set_cons_zero, List.set_cons_succ]
      refine wpAnyH_tk (i := 6) (oi := _) (v := ?vBf26) rfl rfl (by kernel_rfl) (by kernel_rfl) (by kernel_rfl) (fun _ _ _ h => h) (Or.inl ⟨by kernel_rfl, ?yBf26⟩) (by assumption) ?rBf26
      case yBf26 =>
        intro w hSw
        (try dsimp only at hSw)
        go_simp
        try with_reducible rfl
      try simp only [List.setIfInBounds_toArray, List.set_cons_zero, List.set_cons_succ]
      refine wpAnyH_done (by kernel_rfl) ?_ _
      obtain ⟨hok, hl60⟩ := bigF_no HBIG.out
      have HOK := hide hok
      have hn60 : n ≤ 60 := by
        rw [List.length_append, HN.out] at hl60
        simp at hl60
        omega
      clear hok hl60
      have HNW := hide (vnew_any 8 200 w3 (by omega) (by omega) (by omega) (by omega))
      go_wp2_with fail
      refine HNW.out.mono ?_
      rintro e w4 ⟨rfl, hb4, hv4, hs4⟩
      have HNR := hide (rnew_any 8 200 w4)
      go_wp2_with fail
      refine HNR.out.mono ?_
      rintro e w5 ⟨rfl, hb5, hr5, hs5⟩
      have HI0 := hide (Two.start 8 200 HB3.out hb4 hv4 hs4 hb5 hr5 hs5)
      obtain ⟨f, hf⟩ : ∃ f, w3.heap.size + 1 = f := ⟨_, rfl⟩
      obtain ⟨r, hr⟩ : ∃ f, w4.heap.size = f := ⟨_, rfl⟩
      rw [hf, hr] at HI0
      rw [hf, hr]
      clear hb4 hv4 hs4 hb5 hr5 hs5 HNW HNR hf hr
      go_wp2
      go_loopw [9] (fun v9 wr => ∃ k : Nat, v9 = .int .i64 k ∧ k ≤ n ∧ Hid (InvN (Two f r (actsS (newS 8 200) (L.take k)) (actsS (newS 8 200) (L.take k)) noneN) wB.heap.size wB wr)) (fun v9 _ => n - (intOf v9).toNat)
      case atStart => exact ⟨0, rfl, Nat.zero_le _, HI0.out⟩
      case round =>
        obtain ⟨k, rfl, hk, HI⟩ := hrel
        have har := HAR.out.below HI.out.below
        by_cases hlt : k < n
        · obtain ⟨y, hy⟩ : ∃ y, L[k]? = some y := ⟨L[k]'(by have := HN.out; omega), List.getElem?_eq_getElem _⟩
          obtain ⟨gs, og, rfl, hgs, hc⟩ := har.1 k y hy
          have c0 : wr.cell? ⟨gs, og + k * 5, none⟩ = some (.int .i64 y.way) := by have := hc 0 _ rfl; simpa using this
          have c1 : wr.cell? ⟨gs, og + k * 5 + 1, none⟩ = some (.string y.p) := hc 1 _ rfl
          have c2 : wr.cell? ⟨gs, og + k * 5 + 2, none⟩ = some (.string y.q) := hc 2 _ rfl
          have c3 : wr.cell? ⟨gs, og + k * 5 + 3, none⟩ = some (.slice y.A y.b.length y.c) := hc 3 _ rfl
          have c4 : wr.cell? ⟨gs, og + k * 5 + 4, none⟩ = some (.bool y.more) := hc 4 _ rfl
          obtain ⟨z1, z2, z3⟩ := okA_iff (HOK.out y (List.mem_append_left _ (List.mem_of_getElem? hy)))
          have hgd := GoodS.acts (L.take k) (GoodS.new 8 200)
          have HDO := hide (do_any f r _ y noneN noneN.fr wB wr HI.out hgd (by decide) (by rw [List.length_take]; omega) HM.out z1 z2 z3 (HAR.out.2 y (List.mem_of_getElem? hy)))
          rw [← actsS_take hy] at HDO
          have b1 : (k : Int) < (n : Int) := by omega
          clear hy hc hgs z1 z2 z3 hgd har
          go_wp2_with fail
          refine HDO.out.mono ?_
          rintro e w6 ⟨rfl, hi6⟩
          have HI6 := hide hi6
          clear hi6
          go_wp2
          go_roundw
          case rel => exact ⟨k + 1, by go_num, by omega, HI6.out⟩
          case measure => simp [intOf]; omega
        · obtain ⟨w7, hw7⟩ : ∃ Z, Z = wr := ⟨_, rfl⟩
          subst hw7
          obtain rfl : n = k := by omega
          rw [List.take_of_length_le (by have := HN.out; omega)] at HI
          have hgd := GoodS.acts L (GoodS.new 8 200)
          rw [HN.out] at hgd
          obtain ⟨S, hSe⟩ : ∃ S, actsS (newS 8 200) L = S := ⟨_, rfl⟩
          rw [hSe] at HI hgd
          obtain ⟨u1, u2, u3⟩ := okA_iff (HOK.out x (List.mem_append_right _ (by simp)))
          have HU := hide (show (pT x).length ≤ 300 ∧ (qT x).length ≤ 300 ∧ x.b.length ≤ 2000 from ⟨by unfold pT; rw [data_len]; exact u1, by unfold qT; rw [data_len]; exact u2, u3⟩)
          have HG := hide hgd
          have HGS := hide (show S.bytes ≤ 400000 ∧ S.clock ≤ 1000000000 from ⟨by rw [hgd.bytes]; decide, by have := hgd.clock; omega⟩)
          have HALL := hide (fun (Z : World) (hh : Hs (VS f S) Z) => all_any f S hgd.wf Z hh)
          have HDE := hide (fun (h : (doS S x).2 ≠ 0) => doS_err hgd.wf hgd.hang h)
          have HA7 := hide (HALL.out w7 (Two.vs HI.out))
          unfold AllPost at HA7
          clear har hgd u1 u2 u3 hSe hlt
          go_wp2_with fail
          refine HA7.out.mono ?_
          rintro e w8 ⟨⟨A1, c1, P1, rfl, hc1, hn1, hs1⟩, hb8⟩
          have HI8 := hide (Two.row HI.out noneN.fr (Nat.le_refl _) hb8 hn1)
          have HS1 := hide hs1
          have hpl1 : P1.length ≤ 10000 := by rw [← stripN_len, hs1]; have := HG.out.wf.nodes; have := HG.out.wf.n10; omega
          obtain ⟨m1, hm1⟩ : ∃ n, P1.length = n := ⟨_, rfl⟩
          have HM1 := hide hm1
          rw [hm1]
          clear hc1 hn1 hs1 hb8 hm1 HA7
          have HXR := hide (noneN.fr.join (RowX.fr A1 P1))
          have HCL := hide (fun (Z : World) (hh : Hs (VS f S) Z) => clock_any f S Z hh)
          go_wp2_with fail
          refine (HCL.out w8 (Two.vs HI8.out)).mono ?_
          rintro e w' ⟨rfl, rfl⟩
          obtain ⟨k0, k1, k2, k3, k4⟩ := HC.out w8 HI8.out.below
          by_cases hwy : way = 0
          · subst hwy
            have hdo : doS S x = writeS S (pT x) x.b x.more := by unfold doS; rw [HWY.out]; rfl
            have hF := Two.callF HI8.out (Nat.le_refl _) HXR.out (FsPost.specN (fun T N hv ok => write_any f S (pT x) x.b x.more x.A x.c T N w8 hv ok HG.out.wf (HM.out.below HI8.out.below) (by have := HU.out; omega) HGS.out.1 (by have := HU.out; omega) HGS.out.2 (HX.out.below HI8.out.below)))
            rw [← hdo, HPP.out, HXA.out, HXC.out, HXB.out, HXM.out] at hF
            have HF := hide hF
            have HERR := hide HDE.out
            obtain ⟨R, hR⟩ : ∃ y, doS S x = y := ⟨_, rfl⟩
            rw [hR] at HF HERR
            clear hdo hF hR HDE
            go_wp2_with fail
            refine HF.out.mono ?_
            rintro e w9 ⟨rfl, hi9⟩
            have HI9 := hide hi9
            clear hi9
            go_wp2_with fail
            refine (num4_any _ _).mono ?_
            rintro e w' ⟨rfl, rfl⟩
            by_cases e0 : R.2 = 0
            · rw [e0]
              go_wp2
              go_ret
              exact ⟨by simp, below_up HBW.out HI9.out.below HBW.out.size⟩
            have hst := HERR.out e0
            obtain ⟨t1, t2⟩ := ne0 e0
            obtain ⟨er, her⟩ : ∃ e, R.2 = e := ⟨_, rfl⟩
            rw [her] at t1 t2 ⊢
            have hi9 := HI9.out
            rw [hst] at hi9
            have HJ9 := hide hi9
            clear hi9 hst her e0
            go_wp2_with fail
            refine (HCL.out w9 (Two.vs HJ9.out)).mono ?_
            rintro e w' ⟨rfl, rfl⟩
            have HA9 := hide (HALL.out w9 (Two.vs HJ9.out))
            unfold AllPost at HA9
            go_wp2_with fail
            refine HA9.out.mono ?_
            rintro e w10 ⟨⟨A2, c2, P2, rfl, hc2, hn2, hs2⟩, hb10⟩
            have hj10 := HJ9.out.step (Two.fr f r S S HXR.out) hb10 (Nat.le_refl _)
            obtain ⟨r1, r2⟩ := RowX.get hj10.snd.snd
            have hsm := same4_any A2 A1 c2 c1 P2 P1 w10 hn2.rg r1 (fun z hz => ⟨(hn2.dat z hz).1, (hn2.dat z hz).2.1⟩) r2 (by rw [← stripN_len, hs2, ← HS1.out, stripN_len]; omega) (hs2.trans HS1.out.symm)
            rw [HM1.out] at hsm
            have HSM := hide hsm
            have HJ10 := hide hj10
            clear hc2 hn2 hs2 hb10 hj10 r1 r2 hsm
            go_wp2_with fail
            refine HSM.out.mono ?_
            rintro e w11 ⟨rfl, hb11⟩
            have HB11 := hide (below_up HJ10.out.below hb11 HJ10.out.below.size)
            clear hb11
            go_wp2
            go_ret
            exact ⟨by simp, below_up HBW.out HB11.out HBW.out.size⟩
          by_cases hwy : way = 1
          · subst hwy
            have hdo : doS S x = mkdirS S (pT x) := by unfold doS; rw [HWY.out]; rfl
            have hF := Two.callF HI8.out (Nat.le_refl _) HXR.out (FsPost.specN (fun T N hv ok => mkdir_any f S (pT x) T N w8 hv ok HG.out.wf (HM.out.below HI8.out.below) (by have := HU.out; omega) HGS.out.2))
            rw [← hdo, HPP.out] at hF
            have HF := hide hF
            have HERR := hide HDE.out
            obtain ⟨R, hR⟩ : ∃ y, doS S x = y := ⟨_, rfl⟩
            rw [hR] at HF HERR
            clear hdo hF hR HDE
            go_wp2_with fail
            refine HF.out.mono ?_
            rintro e w9 ⟨rfl, hi9⟩
            have HI9 := hide hi9
            clear hi9
            go_wp2_with fail
            refine (num4_any _ _).mono ?_
            rintro e w' ⟨rfl, rfl⟩
            by_cases e0 : R.2 = 0
            · rw [e0]
              go_wp2
              go_ret
              exact ⟨by simp, below_up HBW.out HI9.out.below HBW.out.size⟩
            have hst := HERR.out e0
            obtain ⟨t1, t2⟩ := ne0 e0
            obtain ⟨er, her⟩ : ∃ e, R.2 = e := ⟨_, rfl⟩
            rw [her] at t1 t2 ⊢
            have hi9 := HI9.out
            rw [hst] at hi9
            have HJ9 := hide hi9
            clear hi9 hst her e0
            go_wp2_with fail
            refine (HCL.out w9 (Two.vs HJ9.out)).mono ?_
            rintro e w' ⟨rfl, rfl⟩
            have HA9 := hide (HALL.out w9 (Two.vs HJ9.out))
            unfold AllPost at HA9
            go_wp2_with fail
            refine HA9.out.mono ?_
            rintro e w10 ⟨⟨A2, c2, P2, rfl, hc2, hn2, hs2⟩, hb10⟩
            have hj10 := HJ9.out.step (Two.fr f r S S HXR.out) hb10 (Nat.le_refl _)
            obtain ⟨r1, r2⟩ := RowX.get hj10.snd.snd
            have hsm := same4_any A2 A1 c2 c1 P2 P1 w10 hn2.rg r1 (fun z hz => ⟨(hn2.dat z hz).1, (hn2.dat z hz).2.1⟩) r2 (by rw [← stripN_len, hs2, ← HS1.out, stripN_len]; omega) (hs2.trans HS1.out.symm)
            rw [HM1.out] at hsm
            have HSM := hide hsm
            have HJ10 := hide hj10
            clear hc2 hn2 hs2 hb10 hj10 r1 r2 hsm
            go_wp2_with fail
            refine HSM.out.mono ?_
            rintro e w11 ⟨rfl, hb11⟩
            have HB11 := hide (below_up HJ10.out.below hb11 HJ10.out.below.size)
            clear hb11
            go_wp2
            go_ret
            exact ⟨by simp, below_up HBW.out HB11.out HBW.out.size⟩
          by_cases hwy : way = 2
          · subst hwy
            have hdo : doS S x = removeS S (pT x) := by unfold doS; rw [HWY.out]; rfl
            have hF := Two.callF HI8.out (Nat.le_refl _) HXR.out (FsPost.specN (fun T N hv ok => remove_any f S (pT x) T N w8 hv ok HG.out.wf (HM.out.below HI8.out.below) (by have := HU.out; omega) HGS.out.2))
            rw [← hdo, HPP.out] at hF
            have HF := hide hF
            have HERR := hide HDE.out
            obtain ⟨R, hR⟩ : ∃ y, doS S x = y := ⟨_, rfl⟩
            rw [hR] at HF HERR
            clear hdo hF hR HDE
            go_wp2_with fail
            refine HF.out.mono ?_
            rintro e w9 ⟨rfl, hi9⟩
            have HI9 := hide hi9
            clear hi9
            go_wp2_with fail
            refine (num4_any _ _).mono ?_
            rintro e w' ⟨rfl, rfl⟩
            by_cases e0 : R.2 = 0
            · rw [e0]
              go_wp2
              go_ret
              exact ⟨by simp, below_up HBW.out HI9.out.below HBW.out.size⟩
            have hst := HERR.out e0
            obtain ⟨t1, t2⟩ := ne0 e0
            obtain ⟨er, her⟩ : ∃ e, R.2 = e := ⟨_, rfl⟩
            rw [her] at t1 t2 ⊢
            have hi9 := HI9.out
            rw [hst] at hi9
            have HJ9 := hide hi9
            clear hi9 hst her e0
            go_wp2_with fail
            refine (HCL.out w9 (Two.vs HJ9.out)).mono ?_
            rintro e w' ⟨rfl, rfl⟩
            have HA9 := hide (HALL.out w9 (Two.vs HJ9.out))
            unfold AllPost at HA9
            go_wp2_with fail
            refine HA9.out.mono ?_
            rintro e w10 ⟨⟨A2, c2, P2, rfl, hc2, hn2, hs2⟩, hb10⟩
            have hj10 := HJ9.out.step (Two.fr f r S S HXR.out) hb10 (Nat.le_refl _)
            obtain ⟨r1, r2⟩ := RowX.get hj10.snd.snd
            have hsm := same4_any A2 A1 c2 c1 P2 P1 w10 hn2.rg r1 (fun z hz => ⟨(hn2.dat z hz).1, (hn2.dat z hz).2.1⟩) r2 (by rw [← stripN_len, hs2, ← HS1.out, stripN_len]; omega) (hs2.trans HS1.out.symm)
            rw [HM1.out] at hsm
            have HSM := hide hsm
            have HJ10 := hide hj10
            clear hc2 hn2 hs2 hb10 hj10 r1 r2 hsm
            go_wp2_with fail
            refine HSM.out.mono ?_
            rintro e w11 ⟨rfl, hb11⟩
            have HB11 := hide (below_up HJ10.out.below hb11 HJ10.out.below.size)
            clear hb11
            go_wp2
            go_ret
            exact ⟨by simp, below_up HBW.out HB11.out HBW.out.size⟩
          by_cases hwy : way = 3
          · subst hwy
            have hdo : doS S x = touchS S (pT x) := by unfold doS; rw [HWY.out]; rfl
            have hF := Two.callF HI8.out (Nat.le_refl _) HXR.out (FsPost.specN (fun T N hv ok => touch_any f S (pT x) T N w8 hv ok HG.out.wf (HM.out.below HI8.out.below) (by have := HU.out; omega) HGS.out.1 HGS.out.2))
            rw [← hdo, HPP.out] at hF
            have HF := hide hF
            have HERR := hide HDE.out
            obtain ⟨R, hR⟩ : ∃ y, doS S x = y := ⟨_, rfl⟩
            rw [hR] at HF HERR
            clear hdo hF hR HDE
            go_wp2_with fail
            refine HF.out.mono ?_
            rintro e w9 ⟨rfl, hi9⟩
            have HI9 := hide hi9
            clear hi9
            go_wp2_with fail
            refine (num4_any _ _).mono ?_
            rintro e w' ⟨rfl, rfl⟩
            by_cases e0 : R.2 = 0
            · rw [e0]
              go_wp2
              go_ret
              exact ⟨by simp, below_up HBW.out HI9.out.below HBW.out.size⟩
            have hst := HERR.out e0
            obtain ⟨t1, t2⟩ := ne0 e0
            obtain ⟨er, her⟩ : ∃ e, R.2 = e := ⟨_, rfl⟩
            rw [her] at t1 t2 ⊢
            have hi9 := HI9.out
            rw [hst] at hi9
            have HJ9 := hide hi9
            clear hi9 hst her e0
            go_wp2_with fail
            refine (HCL.out w9 (Two.vs HJ9.out)).mono ?_
            rintro e w' ⟨rfl, rfl⟩
            have HA9 := hide (HALL.out w9 (Two.vs HJ9.out))
            unfold AllPost at HA9
            go_wp2_with fail
            refine HA9.out.mono ?_
            rintro e w10 ⟨⟨A2, c2, P2, rfl, hc2, hn2, hs2⟩, hb10⟩
            have hj10 := HJ9.out.step (Two.fr f r S S HXR.out) hb10 (Nat.le_refl _)
            obtain ⟨r1, r2⟩ := RowX.get hj10.snd.snd
            have hsm := same4_any A2 A1 c2 c1 P2 P1 w10 hn2.rg r1 (fun z hz => ⟨(hn2.dat z hz).1, (hn2.dat z hz).2.1⟩) r2 (by rw [← stripN_len, hs2, ← HS1.out, stripN_len]; omega) (hs2.trans HS1.out.symm)
            rw [HM1.out] at hsm
            have HSM := hide hsm
            have HJ10 := hide hj10
            clear hc2 hn2 hs2 hb10 hj10 r1 r2 hsm
            go_wp2_with fail
            refine HSM.out.mono ?_
            rintro e w11 ⟨rfl, hb11⟩
            have HB11 := hide (below_up HJ10.out.below hb11 HJ10.out.below.size)
            clear hb11
            go_wp2
            go_ret
            exact ⟨by simp, below_up HBW.out HB11.out HBW.out.size⟩
          by_cases hwy : way = 4
          · subst hwy
            have hdo : doS S x = moveS S (pT x) (qT x) := by unfold doS; rw [HWY.out]; rfl
            have hF := Two.callF HI8.out (Nat.le_refl _) HXR.out (FsPost.specN (fun T N hv ok => move_any f S (pT x) (qT x) T N w8 hv ok HG.out.wf (HM.out.below HI8.out.below) (by have := HU.out; omega) (by have := HU.out; omega) HGS.out.2))
            rw [← hdo, HPP.out, HQQ.out] at hF
            have HF := hide hF
            have HERR := hide HDE.out
            obtain ⟨R, hR⟩ : ∃ y, doS S x = y := ⟨_, rfl⟩
            rw [hR] at HF HERR
            clear hdo hF hR HDE
            go_wp2_with fail
            refine HF.out.mono ?_
            rintro e w9 ⟨rfl, hi9⟩
            have HI9 := hide hi9
            clear hi9
            go_wp2_with fail
            refine (num4_any _ _).mono ?_
            rintro e w' ⟨rfl, rfl⟩
            by_cases e0 : R.2 = 0
            · rw [e0]
              go_wp2
              go_ret
              exact ⟨by simp, below_up HBW.out HI9.out.below HBW.out.size⟩
            have hst := HERR.out e0
            obtain ⟨t1, t2⟩ := ne0 e0
            obtain ⟨er, her⟩ : ∃ e, R.2 = e := ⟨_, rfl⟩
            rw [her] at t1 t2 ⊢
            have hi9 := HI9.out
            rw [hst] at hi9
            have HJ9 := hide hi9
            clear hi9 hst her e0
            go_wp2_with fail
            refine (HCL.out w9 (Two.vs HJ9.out)).mono ?_
            rintro e w' ⟨rfl, rfl⟩
            have HA9 := hide (HALL.out w9 (Two.vs HJ9.out))
            unfold AllPost at HA9
            go_wp2_with fail
            refine HA9.out.mono ?_
            rintro e w10 ⟨⟨A2, c2, P2, rfl, hc2, hn2, hs2⟩, hb10⟩
            have hj10 := HJ9.out.step (Two.fr f r S S HXR.out) hb10 (Nat.le_refl _)
            obtain ⟨r1, r2⟩ := RowX.get hj10.snd.snd
            have hsm := same4_any A2 A1 c2 c1 P2 P1 w10 hn2.rg r1 (fun z hz => ⟨(hn2.dat z hz).1, (hn2.dat z hz).2.1⟩) r2 (by rw [← stripN_len, hs2, ← HS1.out, stripN_len]; omega) (hs2.trans HS1.out.symm)
            rw [HM1.out] at hsm
            have HSM := hide hsm
            have HJ10 := hide hj10
            clear hc2 hn2 hs2 hb10 hj10 r1 r2 hsm
            go_wp2_with fail
            refine HSM.out.mono ?_
            rintro e w11 ⟨rfl, hb11⟩
            have HB11 := hide (below_up HJ10.out.below hb11 HJ10.out.below.size)
            clear hb11
            go_wp2
            go_ret
            exact ⟨by simp, below_up HBW.out HB11.out HBW.out.size⟩
          go_wp2
          go_ret
          exact ⟨by simp, below_up HBW.out HI8.out.below HBW.out.size⟩
end Go.Proofs.YtkajhdbcnmafcaaGreatDoor
