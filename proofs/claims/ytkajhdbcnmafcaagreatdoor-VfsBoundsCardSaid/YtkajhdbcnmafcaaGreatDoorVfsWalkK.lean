/- Walk of the file system's All: every node, in order, in a row of its own. -/
import Derived.Test.YtkajhdbcnmafcaaGreatDoorVfsWalkH
import Derived.Test.YtkajhdbcnmafcaaGreatDoorVfsRefK
import Derived.Test.YtkajhdbcnmafcaaGreatDoorHeld
namespace Go.Proofs.YtkajhdbcnmafcaaGreatDoor
open Go.RowKit Go.Deep Go.Maps Ln Pth Vf
set_option linter.unusedSimpArgs false
set_option linter.unusedVariables false
attribute [local go_sem] bt_eq fld0 fld1 fld2 mkMap

theorem below_root {S : St} (hS : WfS S) : belowM S.m [47] = S.m.map fun x => x.1.data.toList := by
  unfold belowM
  refine List.filter_eq_self.2 (fun k hk => ?_)
  obtain ⟨x, hx, rfl⟩ := List.mem_map.1 hk
  obtain ⟨l, hl, hne, e⟩ := hS.good x hx
  rw [e, bs_list, preB_iff, slashed_join hne]
  obtain ⟨s, r, rfl⟩ := List.exists_cons_of_ne_nil hne
  exact ⟨s ++ slashed r, by rw [slashed_cons]; rfl⟩
/-- a row of nodes, in blocks from a number on -/
structure NewRow (w : World) (b0 : Nat) (A : Option Addr) (P : List NV) : Prop where
  rg : RG encE 4 w A P
  ge : ∀ a, A = some a → b0 ≤ a.block
  dat : ∀ x ∈ P, RG encB 1 w x.2.A x.2.nd.data ∧ x.2.nd.data.length ≤ x.2.c ∧ ∀ a, x.2.A = some a → b0 ≤ a.block
/-- what All tells -/
def AllPost (S : St) (w : World) (e : Ending) (w' : World) : Prop := (∃ A c P, e = .returned (.slice A P.length c) ∧ P.length ≤ c ∧ NewRow w' w.heap.size A P ∧ stripN P = S.m) ∧ Below w.heap.size w w'
set_option maxRecDepth 100000 in
set_option maxHeartbeats 4000000 in
theorem all_any (g : Nat) (S : St) (hS : WfS S) (w : World) (h : Hs (VS g S) w) :
    Calls Tryz.prog 16 #[.pointer (some ⟨g, 0, none⟩)] w (AllPost S w) := by
  have HBL := hide (below_any g S hS [47] w h (by decide))
  rw [below_root hS] at HBL
  obtain ⟨T, N, hv, ok⟩ := h
  have H := hide hv
  have OK := hide ok
  have HWF := hide hS
  have hln : S.m.length ≤ 10000 := by have := hS.nodes; have := hS.n10; omega
  obtain ⟨n, hn⟩ : ∃ n, S.m.length = n := ⟨_, rfl⟩
  have HN := hide hn
  rw [hn] at hln
  rw [show bs [47] = (⟨#[47]⟩ : ByteArray) from rfl] at HBL
  clear hv ok hS hn
  go_enter Tryz.func16, Tryz.ntmps16
  go_wp2_with fail
  refine HBL.out.mono ?_
  rintro e w1 ⟨⟨v, rfl, ho⟩, hb1⟩
  obtain ⟨A, c, rfl, hc, hsr, _⟩ := ho.slice
  rw [List.length_map, List.length_map, HN.out] at hc ⊢
  have HSR := hide hsr
  have HB1 := hide hb1
  clear ho hb1 hsr HBL
  have hn1 : (n : Int) ≤ 10000 := by omega
  go_wp2
  go_loopw [3, 5, 6, 10] (fun v3 _ _ v10 wr => ∃ (k : Nat) (A' : Option Addr) (c' : Nat), v10 = .int .i64 k ∧ k ≤ n ∧ v3 = .slice A' k c' ∧ Hid (∃ L : List NV, OwnG encE 4 44 wr w1.heap.size (.slice A' k c') L ∧ L.length = k ∧ stripN L = S.m.take k ∧ ∀ x ∈ L, RG encB 1 wr x.2.A x.2.nd.data ∧ x.2.nd.data.length ≤ x.2.c ∧ (∀ a, x.2.A = some a → w.heap.size ≤ a.block) ∧ ∀ a, x.2.A = some a → x.2.nd.data ≠ [] → ∀ q, (Value.slice A' k c').ownBlock = some q → q ≠ a.block) ∧ Hid (Below w1.heap.size w1 wr)) (fun _ _ _ v10 _ => n - (intOf v10).toNat)
  case atStart => exact ⟨0, none, 0, rfl, by omega, rfl, ⟨[], OwnG.nil _ _, rfl, rfl, fun x hx => by cases hx⟩, Below.refl _ _⟩
  case round =>
    obtain ⟨k, A', c', rfl, hk, rfl, HL, HBW⟩ := hrel
    have HB := hide (below_up HB1.out HBW.out HB1.out.size)
    by_cases hlt : k < n
    · obtain ⟨x, hx⟩ : ∃ x, S.m[k]? = some x := ⟨S.m[k]'(by have := HN.out; omega), List.getElem?_eq_getElem _⟩
      obtain ⟨gs, o, rfl, hgs, hcx⟩ := (HSR.out.below HBW.out) k x.1 (by rw [List.getElem?_map, List.getElem?_map, hx]; exact congrArg some (bs_of x.1))
      obtain ⟨hv, ok⟩ := H.out.stay OK.out HB.out
      obtain ⟨l, hl, hne, hxl⟩ := HWF.out.good x (List.mem_of_getElem? hx)
      have hgn : getG S.m (bs (joinF l)) = some x.2 := by rw [← hxl]; exact mem_getG HWF.out.rise (List.mem_of_getElem? hx)
      obtain ⟨bm, en, hen, hc0, hlk, hrd, _⟩ := node_in hv (joinF l) x.2 hgn (by have := hl.len; omega)
      have hdl : en.nd.data.length ≤ 1048576 := by
        have h1 := sum_mem (List.mem_of_getElem? hx)
        have h2 := HWF.out.sum
        have h3 := HWF.out.bytes
        have h4 := HWF.out.b20
        rw [hen]
        omega
      rw [← hxl] at hlk
      unfold encN at hlk
      rw [hen] at hlk hrd hdl
      obtain ⟨kx, hkx⟩ : ∃ s, x.1 = s := ⟨_, rfl⟩
      rw [hkx] at hlk hcx
      have hcx : wr.cell? ⟨gs, o + k, none⟩ = some (.string kx) := hcx
      have HKX := hide hkx
      have HX := hide hx
      obtain ⟨dr, hdr⟩ : ∃ b, x.2.dir = b := ⟨_, rfl⟩
      obtain ⟨tm, htm⟩ : ∃ b, x.2.time = b := ⟨_, rfl⟩
      obtain ⟨D, hD⟩ : ∃ b, x.2.data = b := ⟨_, rfl⟩
      obtain ⟨dl, hdle⟩ : ∃ b, D.length = b := ⟨_, rfl⟩
      obtain ⟨A0, hA0⟩ : ∃ b, en.A = b := ⟨_, rfl⟩
      obtain ⟨c0, hc0e⟩ : ∃ b, en.c = b := ⟨_, rfl⟩
      rw [hD] at hlk hrd hdl
      rw [hdr, htm, hdle, hA0, hc0e] at hlk
      rw [hA0] at hrd
      rw [hdle] at hdl
      have HND := hide (show x = (kx, (⟨dr, D, tm⟩ : Nd)) by rw [← hkx, ← hdr, ← htm, ← hD])
      have HDL := hide hdle
      have HRD := hide (fun W (hb : Below wr.heap.size wr W) => hrd.below hb)
      have b1 : (k : Int) < (n : Int) := by omega
      clear hx hv ok hl hxl hgn hen hrd hkx hdr htm hD hdle hA0 hc0e hgs
      go_wp2_with fail
      obtain ⟨wa, hwa⟩ : ∃ W, wr.alloc (.cells #[.bool dr, .slice A0 dl c0, .int .i64 tm] 94) = W := ⟨_, rfl⟩
      have hnw := heapNew wr (.cells #[.bool dr, .slice A0 dl c0, .int .i64 tm] 94)
      have hba := (Below.refl wr.heap.size wr).alloc (Nat.le_refl _) (.cells #[.bool dr, .slice A0 dl c0, .int .i64 tm] 94)
      rw [hwa] at hnw hba ⊢
      obtain ⟨nb, hnb⟩ : ∃ b, wr.heap.size = b := ⟨_, rfl⟩
      have HNB := hide hnb
      have hnbl : nb < wa.heap.size := by rw [← hnb]; exact (Array.getElem?_eq_some_iff.1 hnw).1
      have HBA := hide hba
      rw [hnb] at hnw ⊢
      have HSB := hide (fun (W : World) (hb : Below wa.heap.size wa W) => show (fun W => W.cell? ⟨nb, 0, none⟩ = some (.bool dr) ∧ W.cell? ⟨nb, 1, none⟩ = some (.slice A0 dl c0) ∧ W.cell? ⟨nb, 2, none⟩ = some (.int .i64 tm)) W ∧ Below wa.heap.size wa W from ⟨⟨(hb.cell (p := ⟨nb, 0, none⟩) hnbl).trans (cellOf hnw (j := 0) rfl), (hb.cell (p := ⟨nb, 1, none⟩) hnbl).trans (cellOf hnw (j := 1) rfl), (hb.cell (p := ⟨nb, 2, none⟩) hnbl).trans (cellOf hnw (j := 2) rfl)⟩, hb⟩)
      have HCL := hide (fun (W : World) (hb : Below wa.heap.size wa W) => bclone_any A0 c0 D W (HRD.out W (below_up HBA.out hb HBA.out.size)) (by have := HDL.out; omega))
      rw [HDL.out] at HCL
      clear hwa hnw hba hnb hc0 hlk hcx
      refine wp_region_held_drew (S := (fun W => W.cell? ⟨nb, 0, none⟩ = some (.bool dr) ∧ W.cell? ⟨nb, 1, none⟩ = some (.slice A0 dl c0) ∧ W.cell? ⟨nb, 2, none⟩ = some (.int .i64 tm))) (by kernel_rfl) (HSB.out _ (Below.refl _ _).drew).1 (fun hHeld => ?_)
      refine wpAnyH_tk (i := 0) (oi := _) (v := ?vA0) rfl rfl (by kernel_rfl) (by kernel_rfl) (by kernel_rfl) (fun _ _ _ h => h) (Or.inl ⟨by kernel_rfl, ?yA0⟩) (by assumption) ?rA0
      case yA0 =>
        intro w hSw
        (try dsimp only at hSw)
        go_simp
        try with_reducible rfl
      try simp only [List.setIfInBounds_toArray, List.set_cons_zero, List.set_cons_succ]
      refine wpAnyH_tk (i := 1) (oi := _) (v := ?vA1) rfl rfl (by kernel_rfl) (by kernel_rfl) (by kernel_rfl) (fun _ _ _ h => h) (Or.inl ⟨by kernel_rfl, ?yA1⟩) (by assumption) ?rA1
      case yA1 =>
        intro w hSw
        (try dsimp only at hSw)
        go_simp
        try with_reducible rfl
      try simp only [List.setIfInBounds_toArray, List.set_cons_zero, List.set_cons_succ]
      refine wpAnyH_tk (i := 2) (oi := _) (v := ?vA2) rfl rfl (by kernel_rfl) (by kernel_rfl) (by kernel_rfl) (fun _ _ _ h => h) (Or.inl ⟨by kernel_rfl, ?yA2⟩) (by assumption) ?rA2
      case yA2 =>
        intro w hSw
        (try dsimp only at hSw)
        go_simp
        try with_reducible rfl
      try simp only [List.setIfInBounds_toArray, List.set_cons_zero, List.set_cons_succ]
      refine wpAnyH_tk (i := 3) (oi := _) (v := ?vA3) rfl rfl (by kernel_rfl) (by kernel_rfl) (by kernel_rfl) (fun _ _ _ h => h) (Or.inl ⟨by kernel_rfl, ?yA3⟩) (by assumption) ?rA3
      case yA3 =>
        intro w hSw
        (try dsimp only at hSw)
        go_simp
        try with_reducible rfl
      try simp only [List.setIfInBounds_toArray, List.set_cons_zero, List.set_cons_succ]
      refine wpAnyH_tk (i := 4) (oi := _) (v := ?vA4) rfl rfl (by kernel_rfl) (by kernel_rfl) (by kernel_rfl) (fun _ _ _ h => h) (Or.inl ⟨by kernel_rfl, ?yA4⟩) (by assumption) ?rA4
      case yA4 =>
        intro w hSw
        (try dsimp only at hSw)
        go_simp
        try with_reducible rfl
      try simp only [List.setIfInBounds_toArray, List.set_cons_zero, List.set_cons_succ]
      refine wpAnyH_tk (i := 5) (oi := _) (v := ?vA5) rfl rfl (by kernel_rfl) (by kernel_rfl) (by kernel_rfl) (fun _ _ _ h => h) (Or.inl ⟨by kernel_rfl, ?yA5⟩) (by assumption) ?rA5
      case yA5 =>
        intro w hSw
        (try dsimp only at hSw)
        go_simp
        try with_reducible rfl
      try simp only [List.setIfInBounds_toArray, List.set_cons_zero, List.set_cons_succ]
      refine wpAnyH_tk (i := 7) (oi := _) (v := ?vA7) rfl rfl (by kernel_rfl) (by kernel_rfl) (by kernel_rfl) (fun _ _ _ h => h) (Or.inl ⟨by kernel_rfl, ?yA7⟩) (by assumption) ?rA7
      case yA7 =>
        intro w hSw
        (try dsimp only at hSw)
        go_simp
        try with_reducible rfl
      try simp only [List.setIfInBounds_toArray, List.set_cons_zero, List.set_cons_succ]
      refine wpAnyH_tk (i := 8) (oi := _) (v := ?vA8) rfl rfl (by kernel_rfl) (by kernel_rfl) (by kernel_rfl) (fun _ _ _ h => h) (Or.inl ⟨by kernel_rfl, ?yA8⟩) (by assumption) ?rA8
      case yA8 =>
        intro w hSw
        (try dsimp only at hSw)
        go_simp
        try with_reducible rfl
      try simp only [List.setIfInBounds_toArray, List.set_cons_zero, List.set_cons_succ]
      refine wpAnyH_ready (rs := [6]) (by kernel_rfl) (by simp) ?_
      refine AllReadyH.cons (o := _) rfl (fun K hK => ?_) AllReadyH.nil
      rw [if_pos (by kernel_rfl)]
      go_simp
      refine (HCL.out _ (Below.refl _ _).drew).mono ?_
      rintro e w3 ⟨⟨v, rfl, ho⟩, hb3⟩
      have hb3a := below_up (Below.refl wa.heap.size wa).drew hb3 (Nat.le_refl _)
      obtain ⟨A3, c3, rfl, hc3, hr3, hob3, _⟩ := OwnG.slice encB_len ho
      have hA3 : ∀ a, A3 = some a → wa.heap.size ≤ a.block := fun a e => (ho.lt _ (hob3 a e)).1
      have hbw3 : Below w.heap.size w w3 := below_up (below_up HB.out HBA.out HB.out.size) hb3a (below_up HB.out HBA.out HB.out.size).size
      obtain ⟨L, hoL, hLl, hLs, hLd⟩ := HL.out
      have hoL3 := OwnG.keptB hoL (below_up HBA.out hb3a HBA.out.size)
      rw [HDL.out] at hc3
      have hbw13 : w1.heap.size ≤ w3.heap.size := Nat.le_trans (Nat.le_trans HBW.out.size HBA.out.size) hb3a.size
      obtain ⟨v4, w4, hrun, ho4, hb4, hgb4, hob4⟩ := push_node2 hoL3 hbw13 (by omega) (kx, ⟨A3, c3, ⟨dr, D, tm⟩⟩) #[.string kx, .bool dr, .slice A3 dl c3, .int .i64 tm] (by unfold encE; rw [← HDL.out])
      obtain ⟨A4, c4, rfl, hcl4, _, _, _⟩ := ho4.slice encE_len
      have hlen4 : (L ++ [((kx, ⟨A3, c3, ⟨dr, D, tm⟩⟩) : NV)]).length = k + 1 := by rw [List.length_append, hLl]; rfl
      rw [hlen4] at ho4 hrun hob4
      have hne4 : ∀ q, (Value.slice A' k c').ownBlock = some q → q ≠ nb := fun q hq => by have h1 := (hoL.lt q hq).2; have := HNB.out; omega
      have hS4 : (fun W => W.cell? ⟨nb, 0, none⟩ = some (.bool dr) ∧ W.cell? ⟨nb, 1, none⟩ = some (.slice A0 dl c0) ∧ W.cell? ⟨nb, 2, none⟩ = some (.int .i64 tm)) w4 := ⟨gb_cell hgb4 (HSB.out _ hb3a).1.1 hne4, gb_cell hgb4 (HSB.out _ hb3a).1.2.1 hne4, gb_cell hgb4 (HSB.out _ hb3a).1.2.2 hne4⟩
      rw [HDL.out]
      refine hK.out _ _ (HSB.out _ hb3a).1 (fun _ => ?_)
      clear hK K
      try simp only [Act.put, List.setIfInBounds_toArray, List.set_cons_zero, List.set_cons_succ]
      refine wpAnyH_tk (i := 9) (oi := _) (v := ?vA9) rfl rfl (by kernel_rfl) (by kernel_rfl) (by kernel_rfl) (fun _ _ _ h => h) (Or.inl ⟨by kernel_rfl, ?yA9⟩) (by assumption) ?rA9
      case yA9 =>
        intro w hSw
        (try dsimp only at hSw)
        go_simp
        try with_reducible rfl
      try simp only [List.setIfInBounds_toArray, List.set_cons_zero, List.set_cons_succ]
      refine wpAnyH_ready (rs := [10]) (by kernel_rfl) (by simp) ?_
      refine AllReadyH.cons (o := _) rfl (fun K hK => ?_) AllReadyH.nil
      rw [if_pos (by kernel_rfl)]
      go_simp
      refine hK.out _ _ (HSB.out _ (hb3a.alloc hb3a.size _)).1 (fun _ => ?_)
      clear hK K
      try simp only [Act.put, List.setIfInBounds_toArray, List.set_cons_zero, List.set_cons_succ]
      refine wpAnyH_ready (rs := [11]) (by kernel_rfl) (by simp) ?_
      refine AllReadyH.cons (o := _) rfl (fun K hK => ?_) AllReadyH.nil
      refine step_app_run rfl _ _ rfl rfl rfl rfl hrun ?_
      refine hK.out _ _ hS4 (fun _ => ?_)
      clear hK K
      try simp only [Act.put, List.setIfInBounds_toArray, List.set_cons_zero, List.set_cons_succ]
      refine wpAnyH_tk (i := 12) (oi := _) (v := ?vA12) rfl rfl (by kernel_rfl) (by kernel_rfl) (by kernel_rfl) (fun _ _ _ h => h) (Or.inl ⟨by kernel_rfl, ?yA12⟩) (by assumption) ?rA12
      case yA12 =>
        intro w hSw
        (try dsimp only at hSw)
        go_simp
        try with_reducible rfl
      try simp only [List.setIfInBounds_toArray, List.set_cons_zero, List.set_cons_succ]
      refine wpAnyH_done (by kernel_rfl) ?_ _
      go_wp2
      go_roundw
      case rel =>
        have hr4 : RG encB 1 w4 A3 D := hr3.of (Nat.le_trans (by simp) hgb4.size) (fun a e hl => by
          have h1 := hA3 a e
          have h2 := hnbl
          refine (hgb4.block a.block (by simp; omega) (fun e2 => ?_)).trans (Below.heap_alloc _ _ _ hl)
          have h3 := (hoL.lt a.block e2.symm).2
          have h4 := HNB.out
          omega)
        have hA3l : ∀ a, A3 = some a → D ≠ [] → a.block < w3.heap.size := fun a e hn => hr3.block_lt e hn
        have hwa0 : wr.heap.size ≤ wa.heap.size := HBA.out.size
        have hwa3 : wa.heap.size ≤ w3.heap.size := hb3a.size
        refine ⟨k + 1, A4, c4, by go_num, by omega, rfl, ⟨_, ho4, hlen4, ?_, fun z hz => ?_⟩, ?_⟩
        · show stripN (L ++ [((kx, ⟨A3, c3, ⟨dr, D, tm⟩⟩) : NV)]) = _
          rw [List.take_add_one, HX.out, ← hLs, HND.out]
          unfold stripN
          rw [List.map_append]
          rfl
        · rcases List.mem_append.1 hz with hz | hz
          · obtain ⟨d1, d2, d3, d5⟩ := hLd z hz
            have d4 := (d1.below (below_up HBA.out hb3a HBA.out.size))
            refine ⟨d4.ofB (Nat.le_trans (by simp) hgb4.size) (fun a e hn => ?_), d2, d3, fun a e hn q hq => ?_⟩
            · have hl := d4.block_lt e hn
              refine (hgb4.block a.block (by simp; omega) (fun e2 => d5 a e hn a.block e2.symm rfl)).trans (Below.heap_alloc _ _ _ hl)
            · have hl := d1.block_lt e hn
              rcases hob4 with h4 | h4
              · exact d5 a e hn q (h4.symm.trans hq)
              · rw [h4] at hq
                injection hq with hq
                omega
          · rw [List.mem_singleton.1 hz]
            refine ⟨hr4, by rw [HDL.out]; exact hc3, fun a e => by have h1 := hA3 a e; have h2 := HB.out.size; omega, fun a e hn q hq => ?_⟩
            have h1 := hA3 a e
            have h2 := hA3l a e hn
            rcases hob4 with h4 | h4
            · have h5 := (hoL.lt q (h4.symm.trans hq)).2
              omega
            · rw [h4] at hq
              injection hq with hq
              omega
        · exact (below_up HBW.out (below_up HBA.out hb3a HBA.out.size) HBW.out.size).trans hb4
      case measure => simp [intOf]; omega
    · obtain rfl : n = k := by omega
      obtain ⟨L, hoL, hLl, hLs, hLd⟩ := HL.out
      have hR := OwnG.rso (g := 0) hoL
      have HR := hide hR
      have HF := hide (show AllPost S w (.returned (.slice A' n c')) wr from by
        obtain ⟨hr, hm, hcl, hA, ht⟩ := HR.out
        refine ⟨⟨A', c', L, by rw [hLl], hcl, ⟨hr, fun a e => by have := hA a e; have := HB1.out.size; omega, fun x hx => ⟨(hLd x hx).1, (hLd x hx).2.1, (hLd x hx).2.2.1⟩⟩, ?_⟩, HB.out⟩
        rw [hLs, List.take_of_length_le (by have := HN.out; omega)])
      clear hoL hLl hLs hLd hR
      go_wp2
      go_ret
      exact HF.out
end Go.Proofs.YtkajhdbcnmafcaaGreatDoor
