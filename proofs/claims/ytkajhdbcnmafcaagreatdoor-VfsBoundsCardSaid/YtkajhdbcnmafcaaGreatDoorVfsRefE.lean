/- Walk of the reference's put. -/
import Derived.Test.YtkajhdbcnmafcaaGreatDoorVfsRefA
import Derived.Test.YtkajhdbcnmafcaaGreatDoorHeld
import Derived.BigQuiet
namespace Go.Proofs.YtkajhdbcnmafcaaGreatDoor
open Go.RowKit Go.Deep Go.Maps Ln Pth Vf
set_option linter.unusedSimpArgs false
set_option linter.unusedVariables false
attribute [local go_sem] bt_eq

def rowN : RowT Tryz.prog 33 44 4 := { z := .agg #[.string ⟨#[]⟩, .bool false, .slice none 0 0, .int .i64 0], bytes := 56, und := Tryz.underlying33, info := by kernel_rfl, zlen := rfl, pos := by omega, sb := by omega }
theorem putG_at {α : Type} {x : ByteArray × α} : ∀ (L : KV α) (k : Nat), k ≤ L.length → (∀ j y, j < k → L[j]? = some y → sLt y.1 x.1 = true) → (∀ y, L[k]? = some y → sLt y.1 x.1 = false) →
    putG x L = L.take k ++ [x] ++ L.drop (match L[k]? with | some y => if y.1 = x.1 then k + 1 else k | none => k)
  | [], k, hk, _, _ => by
    obtain rfl : k = 0 := by simpa using hk
    rfl
  | y :: L, 0, hk, h1, h2 => by
    have := h2 y rfl
    rw [putG, if_neg (by rw [this]; simp)]
    simp only [List.getElem?_cons_zero]
    split <;> simp
  | y :: L, k + 1, hk, h1, h2 => by
    rw [putG, if_pos (h1 0 y (by omega) rfl), putG_at L k (by simpa using hk) (fun j z hj hz => h1 (j + 1) z (by omega) (by simpa using hz)) (fun z hz => h2 z (by simpa using hz))]
    simp only [List.getElem?_cons_succ]
    cases L[k]? with
    | none => simp
    | some z => dsimp only; split <;> simp
theorem rg_newN (w : World) (x : NV) (cs : Array Value) (hcs : cs = (encE x).toArray) (t : TypeId) : RG encE 4 (w.alloc (.cells cs t)) (some ⟨w.heap.size, 0, none⟩) [x] := fun k y hk => by
  cases k with
  | zero =>
    simp at hk
    subst hk
    subst hcs
    refine ⟨_, _, rfl, by simp, fun j u hj => ?_⟩
    have hj4 := (List.getElem?_eq_some_iff.1 hj).1
    rw [World.cell?_alloc_at _ _ _ _ (by rfl)]
    simpa using hj
  | succ k => simp at hk
set_option maxRecDepth 100000 in
/-- three appends, one behind the other, in new rows -/
theorem putN_chain (w : World) (A1 A2 : Option Addr) (c1 c2 : Nat) (L1 L2 : List NV) (x : NV) (cs : Array Value) (hcs : cs = (encE x).toArray) (h1 : RG encE 4 w A2 L2) (h2 : RG encE 4 w A1 L1) (hl : L1.length + L2.length ≤ 100000) :
    ∃ v2 w2 v3 w3 v4 w4, (Builtin.append_ #[33, 33] 33 #[.slice none 0 0, .slice A1 L1.length c1]).run Tryz.prog w = .ok v2 w2 ∧
      (Builtin.append_ #[33, 33] 33 #[v2, .slice (some ⟨w2.heap.size, 0, none⟩) 1 1]).run Tryz.prog (w2.alloc (.cells cs 44)) = .ok v3 w3 ∧
      (Builtin.append_ #[33, 33] 33 #[v3, .slice A2 L2.length c2]).run Tryz.prog w3 = .ok v4 w4 ∧ OwnG encE 4 44 w4 w.heap.size v4 (L1 ++ [x] ++ L2) ∧ Below w.heap.size w w2 ∧ Below w.heap.size w w3 ∧ Below w.heap.size w w4 := by
  obtain ⟨v2, w2, r2, o2, g2, b2⟩ := run_appG rowN encE_len encE_one (OwnG.nil w w.heap.size) h2 (Nat.le_refl _) (by simp; omega)
  have hb2 : Below w.heap.size w w2 := Below.of_gb g2 (Nat.le_refl _) (fun k hk => by cases hk)
  have s2 := hb2.size
  simp only [List.nil_append] at o2
  have n2 : ∀ k, v2.ownBlock = some k → w.heap.size ≤ k := fun k hk => (o2.lt k hk).1
  obtain ⟨v3, w3, r3, o3, g3, b3⟩ := run_appG rowN encE_len encE_one (o2.alloc (.cells cs 44)) (rg_newN w2 x cs hcs _) (by simp; omega) (by simp; omega)
  have n3 : ∀ k, v3.ownBlock = some k → w.heap.size ≤ k := fun k hk => (o3.lt k hk).1
  have hb3 : Below w.heap.size w w3 := (hb2.alloc hb2.size _).trans (Below.of_gb g3 (by simp; omega) (fun k hk => n2 k hk))
  have s3 := hb3.size
  obtain ⟨v4, w4, r4, o4, g4, b4⟩ := run_appG rowN encE_len encE_one o3 (h1.below hb3) (by omega) (by simp; omega)
  exact ⟨v2, w2, v3, w3, v4, w4, r2, r3, r4, o4, hb2, hb3, hb3.trans (Below.of_gb g4 s3 n3)⟩
set_option maxRecDepth 100000 in
/-- the same, the new element's block made first -/
theorem putN_chain2 (w : World) (A1 A2 : Option Addr) (c1 c2 : Nat) (L1 L2 : List NV) (x : NV) (cs : Array Value) (hcs : cs = (encE x).toArray) (h1 : RG encE 4 w A2 L2) (h2 : RG encE 4 w A1 L1) (hl : L1.length + L2.length ≤ 100000) :
    ∃ v2 w2 v3 w3 v4 w4, (Builtin.append_ #[33, 33] 33 #[.slice none 0 0, .slice A1 L1.length c1]).run Tryz.prog (w.alloc (.cells cs 44)) = .ok v2 w2 ∧
      (Builtin.append_ #[33, 33] 33 #[v2, .slice (some ⟨w.heap.size, 0, none⟩) 1 1]).run Tryz.prog w2 = .ok v3 w3 ∧
      (Builtin.append_ #[33, 33] 33 #[v3, .slice A2 L2.length c2]).run Tryz.prog w3 = .ok v4 w4 ∧ OwnG encE 4 44 w4 w.heap.size v4 (L1 ++ [x] ++ L2) ∧ Below w.heap.size w w2 ∧ Below w.heap.size w w3 ∧ Below w.heap.size w w4 := by
  have hb1 : Below w.heap.size w (w.alloc (.cells cs 44)) := (Below.refl _ w).alloc (Nat.le_refl _) _
  have hx := rg_newN w x cs hcs 44
  have hz1 := hb1.size
  obtain ⟨w1, hw1⟩ : ∃ W, w.alloc (.cells cs 44) = W := ⟨_, rfl⟩
  rw [hw1] at hb1 hx hz1 ⊢
  obtain ⟨v2, w2, r2, o2, g2, b2⟩ := run_appG rowN encE_len encE_one (OwnG.nil w1 w1.heap.size) (h2.below hb1) (Nat.le_refl _) (by simp; omega)
  have hb12 : Below w1.heap.size w1 w2 := Below.of_gb g2 (Nat.le_refl _) (fun k hk => by cases hk)
  have hb2 : Below w.heap.size w w2 := below_up hb1 hb12 hb1.size
  have s2 := hb12.size
  simp only [List.nil_append] at o2
  have n2 : ∀ k, v2.ownBlock = some k → w.heap.size ≤ k := fun k hk => by have := (o2.lt k hk).1; omega
  obtain ⟨v3, w3, r3, o3, g3, b3⟩ := run_appG rowN encE_len encE_one (o2.base hz1) (hx.below hb12) (by omega) (by simp; omega)
  have n3 : ∀ k, v3.ownBlock = some k → w.heap.size ≤ k := fun k hk => (o3.lt k hk).1
  have hb3 : Below w.heap.size w w3 := hb2.trans (Below.of_gb g3 (by omega) (fun k hk => n2 k hk))
  have s3 := hb3.size
  obtain ⟨v4, w4, r4, o4, g4, b4⟩ := run_appG rowN encE_len encE_one o3 (h1.below hb3) (by omega) (by simp; omega)
  exact ⟨v2, w2, v3, w3, v4, w4, r2, r3, r4, o4, hb2, hb3, hb3.trans (Below.of_gb g4 s3 n3)⟩
theorem RSO.drewN {g : Nat} {S : St} {A : Option Addr} {c : Nat} {P : List NV} {w : World} (h : RSO g S A c P w) (n : Nat) : RSO g S A c P (w.drewN n) := ⟨h.heap, h.cap, h.rg, h.dat, h.eq, h.top, h.neA, h.neD, h.lt⟩
set_option maxRecDepth 100000 in
set_option maxHeartbeats 2000000 in
theorem rput_any (g : Nat) (S : St) (A : Option Addr) (c : Nat) (P : List NV) (x : NV) (w : World) (h : RSO g S A c P w) (hl : P.length ≤ 10000) :
    Calls Tryz.prog 107 #[.pointer (some ⟨g, 0, none⟩), .agg (encE x).toArray] w fun e w' => e = .returned (.tuple #[]) ∧ ∃ A' c', w'.heap[g]? = some (.cells #[.int .i64 S.nodes, .int .i64 S.bytes, .slice A' (putG x P).length c', .int .i64 S.clock] 89) ∧ (putG x P).length ≤ c' ∧ RG encE 4 w' A' (putG x P) ∧ (∀ a, A' = some a → w.heap.size ≤ a.block) ∧ w.grownBy w' (some g) := by
  obtain ⟨n, hn⟩ : ∃ n, P.length = n := ⟨_, rfl⟩
  have HN := hide hn
  have H := hide h
  have hln : n ≤ 10000 := by omega
  have hgl : g < w.heap.size := (Array.getElem?_eq_some_iff.1 h.heap).1
  obtain ⟨xs, xe⟩ := x
  obtain ⟨xd, xa, xc⟩ := xe
  have HA0 := hide h.top
  clear h hl hn
  simp only [encE]
  go_enter Tryz.func107, Tryz.ntmps107
  go_wp2
  obtain ⟨wa, hwa⟩ : ∃ W, w.alloc (.cells #[.string xs, .bool xc.dir, .slice xd xc.data.length xa, .int .i64 xc.time] 44) = W := ⟨_, rfl⟩
  have hnw := heapNew w (.cells #[.string xs, .bool xc.dir, .slice xd xc.data.length xa, .int .i64 xc.time] 44)
  have hba : Below w.heap.size w (w.alloc (.cells #[.string xs, .bool xc.dir, .slice xd xc.data.length xa, .int .i64 xc.time] 44)) := (Below.refl _ w).alloc (Nat.le_refl _) _
  rw [hwa] at hnw hba ⊢
  obtain ⟨b, hb⟩ : ∃ b, w.heap.size = b := ⟨_, rfl⟩
  rw [hb] at hnw hba hgl ⊢
  have hgb : g ≠ b := by omega
  have HNW := hide hnw
  have HBA := hide (show Below b w wa from hba)
  have HRA := hide (show RSO g S A c P wa from H.out.below (by rw [hb]; exact hba))
  have HBB := hide hb
  clear hwa hnw hba hb H
  go_wp2
  go_loopw [4] (fun v4 wr => ∃ k q : Nat, v4 = .int .i64 k ∧ k ≤ n ∧ Hid (∀ j y, j < k → P[j]? = some y → sLt y.1 xs = true) ∧ wr = wa.drewN q) (fun v4 _ => n - (intOf v4).toNat)
  case atStart => exact ⟨0, 0, rfl, by omega, (fun j y hj => by omega), rfl⟩
  case round =>
    obtain ⟨k, q, rfl, hk, HE, rfl⟩ := hrel
    have ho := HRA.out
    have hg := ho.heap
    rw [HN.out] at hg
    have hc2 := cellOf hg (j := 2) (v := .slice A n c) rfl
    have hx0 : wa.cell? ⟨b, 0, none⟩ = some (.string xs) := cellOf HNW.out (j := 0) rfl
    by_cases hlt : k < n
    · obtain ⟨y, hy⟩ : ∃ x, P[k]? = some x := ⟨P[k]'(by have := HN.out; omega), List.getElem?_eq_getElem _⟩
      obtain ⟨gs, o, rfl, hgs, hc⟩ := ho.rg k y hy
      have hc0 : wa.cell? ⟨gs, o + k * 4, none⟩ = some (.string y.1) := by have := hc 0 _ rfl; simpa using this
      have HY := hide hy
      have b1 : (k : Int) < (n : Int) := by omega
      have d1 : decide ((k : Int) < (n : Int)) = true := by simpa using b1
      obtain ⟨ys, hys⟩ : ∃ t, y.1 = t := ⟨_, rfl⟩
      rw [hys] at hc0
      have HYS := hide hys
      have hcl := ho.cap
      rw [HN.out] at hcl
      have HTK := hide (fun (W : World) (h : Below wa.heap.size wa W) => show RG encE 4 W (some ⟨gs, o, none⟩) (P.take k) from (HRA.out.below h).rg.take k)
      have HDR := hide (fun (j : Nat) (W : World) (h : Below wa.heap.size wa W) => show RG encE 4 W (some ⟨gs, o + j * 4, none⟩) (P.drop j) from (HRA.out.below h).rg.drop j)
      have hkc : k ≤ c := by omega
      have HDZ0 := hide (fun (h : c = k + 1) (W : World) (_ : Below wa.heap.size wa W) => show RG encE 4 W (some ⟨gs, o, none⟩) (P.drop (k + 1)) from fun j s hj => by
        rw [List.getElem?_drop, List.getElem?_eq_none (by have := HN.out; omega)] at hj
        cases hj)
      clear ho hg hc hy hys hgs
      cases hs : sLt ys xs with
      | true =>
        have hs2 : Op.bytesLess ys.toList xs.toList = true := hs
        have HS := hide hs
        clear hs
        go_wp2_with fail
        go_quiet (fail)
        go_wp2
        go_roundw
        case rel =>
          refine ⟨k + 1, _, by go_num, by omega, fun j z hj hz => ?_, rfl⟩
          by_cases e : j = k
          · subst e
            rw [HY.out] at hz
            injection hz with hz
            rw [← hz, HYS.out]
            exact HS.out
          · exact HE.out j z (by omega) hz
        case measure => simp [intOf]; omega
      | false =>
        have hs2 : Op.bytesLess ys.toList xs.toList = false := hs
        have HP := hide (putG_at (x := ((xs, ⟨xd, xa, xc⟩) : NV)) P k (by have := HN.out; omega) HE.out (fun z hz => by rw [HY.out] at hz; injection hz with hz; rw [← hz, HYS.out]; exact hs))
        clear hs
        by_cases he : ys = xs
        · have e1 : (ys.toList == xs.toList) = true := by rw [he]; simp
          have HQ := hide (show putG ((xs, ⟨xd, xa, xc⟩) : NV) P = P.take k ++ [(xs, ⟨xd, xa, xc⟩)] ++ P.drop (k + 1) by rw [HP.out, HY.out]; dsimp only; rw [HYS.out, if_pos he])
          clear he HP
          go_wp2_with fail
          go_quiet (fail)
          obtain ⟨nq1, hnq1⟩ : ∃ z, z = nq := ⟨_, rfl⟩
          subst hnq1
          go_wp2_with fail
          go_quiet (fail)
          go_wp2_with fail
          by_cases hck : c = k + 1
          · have HDZ := hide (HDZ0.out hck)
            have HCK := hide hck
            clear hck
            have HRB := hide (show Below wa.heap.size wa ((wa.drewN (q + nq1 + nq)).drew) from (below_drewN (Below.refl wa.heap.size wa) _).drew)
            have hbl : b < wa.heap.size := (Array.getElem?_eq_some_iff.1 HNW.out).1
            have hgl2 : g < wa.heap.size := (Array.getElem?_eq_some_iff.1 HRA.out.heap).1
            have hx1 : wa.cell? ⟨b, 1, none⟩ = some (.bool xc.dir) := cellOf HNW.out (j := 1) rfl
            have hx2 : wa.cell? ⟨b, 2, none⟩ = some (.slice xd xc.data.length xa) := cellOf HNW.out (j := 2) rfl
            have hx3 : wa.cell? ⟨b, 3, none⟩ = some (.int .i64 xc.time) := cellOf HNW.out (j := 3) rfl
            have hs2 : ∀ W, Below wa.heap.size wa W → (fun w' => w'.cell? ⟨g, 2, none⟩ = some (.slice (some ⟨gs, o, none⟩) n c) ∧ w'.cell? ⟨b, 0, none⟩ = some (.string xs) ∧ w'.cell? ⟨b, 1, none⟩ = some (.bool xc.dir) ∧ w'.cell? ⟨b, 2, none⟩ = some (.slice xd xc.data.length xa) ∧ w'.cell? ⟨b, 3, none⟩ = some (.int .i64 xc.time)) W := fun W h => ⟨(h.cell (p := ⟨g, 2, none⟩) hgl2).trans hc2, (h.cell (p := ⟨b, 0, none⟩) hbl).trans hx0, (h.cell (p := ⟨b, 1, none⟩) hbl).trans hx1, (h.cell (p := ⟨b, 2, none⟩) hbl).trans hx2, (h.cell (p := ⟨b, 3, none⟩) hbl).trans hx3⟩
            have HS2 := hide hs2
            clear hs2
            refine wp_region_held_drew (S := fun w' => w'.cell? ⟨g, 2, none⟩ = some (.slice (some ⟨gs, o, none⟩) n c) ∧ w'.cell? ⟨b, 0, none⟩ = some (.string xs) ∧ w'.cell? ⟨b, 1, none⟩ = some (.bool xc.dir) ∧ w'.cell? ⟨b, 2, none⟩ = some (.slice xd xc.data.length xa) ∧ w'.cell? ⟨b, 3, none⟩ = some (.int .i64 xc.time)) (by kernel_rfl) (HS2.out _ HRB.out) (fun hHeld => ?_)
            refine wpAnyH_tk (i := 0) (oi := _) (v := ?va0) rfl rfl (by kernel_rfl) (by kernel_rfl) (by kernel_rfl) (fun _ _ _ h => h) (Or.inl ⟨by kernel_rfl, ?ya0⟩) (by assumption) ?ra0
            case ya0 =>
              intro w hSw
              (try dsimp only at hSw)
              go_simp
              try with_reducible rfl
            try simp only [List.setIfInBounds_toArray, List.set_cons_zero, List.set_cons_succ]
            refine wpAnyH_tk (i := 1) (oi := _) (v := ?va1) rfl rfl (by kernel_rfl) (by kernel_rfl) (by kernel_rfl) (fun _ _ _ h => h) (Or.inl ⟨by kernel_rfl, ?ya1⟩) (by assumption) ?ra1
            case ya1 =>
              intro w hSw
              (try dsimp only at hSw)
              go_simp
              try with_reducible rfl
            try simp only [List.setIfInBounds_toArray, List.set_cons_zero, List.set_cons_succ]
            refine wpAnyH_tk (i := 2) (oi := _) (v := ?va2) rfl rfl (by kernel_rfl) (by kernel_rfl) (by kernel_rfl) (fun _ _ _ h => h) (Or.inl ⟨by kernel_rfl, ?ya2⟩) (by assumption) ?ra2
            case ya2 =>
              intro w hSw
              (try dsimp only at hSw)
              go_simp
              try with_reducible rfl
            try simp only [List.setIfInBounds_toArray, List.set_cons_zero, List.set_cons_succ]
            refine wpAnyH_tk (i := 3) (oi := _) (v := ?va3) rfl rfl (by kernel_rfl) (by kernel_rfl) (by kernel_rfl) (fun _ _ _ h => h) (Or.inl ⟨by kernel_rfl, ?ya3⟩) (by assumption) ?ra3
            case ya3 =>
              intro w hSw
              (try dsimp only at hSw)
              go_simp
              try with_reducible rfl
            try simp only [List.setIfInBounds_toArray, List.set_cons_zero, List.set_cons_succ]
            refine wpAnyH_tk (i := 4) (oi := _) (v := ?va4) rfl rfl (by kernel_rfl) (by kernel_rfl) (by kernel_rfl) (fun _ _ _ h => h) (Or.inl ⟨by kernel_rfl, ?ya4⟩) (by assumption) ?ra4
            case ya4 =>
              intro w hSw
              (try dsimp only at hSw)
              go_simp
              try with_reducible rfl
            try simp only [List.setIfInBounds_toArray, List.set_cons_zero, List.set_cons_succ]
            refine wpAnyH_tk (i := 5) (oi := _) (v := ?va5) rfl rfl (by kernel_rfl) (by kernel_rfl) (by kernel_rfl) (fun _ _ _ h => h) (Or.inl ⟨by kernel_rfl, ?ya5⟩) (by assumption) ?ra5
            case ya5 =>
              intro w hSw
              (try dsimp only at hSw)
              go_simp
              try with_reducible rfl
            try simp only [List.setIfInBounds_toArray, List.set_cons_zero, List.set_cons_succ]
            refine wpAnyH_tk (i := 7) (oi := _) (v := ?va7) rfl rfl (by kernel_rfl) (by kernel_rfl) (by kernel_rfl) (fun _ _ _ h => h) (Or.inl ⟨by kernel_rfl, ?ya7⟩) (by assumption) ?ra7
            case ya7 =>
              intro w hSw
              (try dsimp only at hSw)
              go_simp
              try with_reducible rfl
            try simp only [List.setIfInBounds_toArray, List.set_cons_zero, List.set_cons_succ]
            refine wpAnyH_ready (rs := [6, 8]) (by kernel_rfl) (by simp) ?_
            refine AllReadyH.cons (o := _) rfl (fun K hK => ?away1) (AllReadyH.cons (o := _) rfl (fun K hK => ?away2) AllReadyH.nil)
            case away1 =>
              obtain ⟨v2, w2, v3, w3, v4, w4, r2, r3, r4, ho4, hb2, hb3, hb4⟩ := putN_chain ((wa.drewN (q + nq1 + nq)).drew) (some ⟨gs, o, none⟩) (some ⟨gs, o, none⟩) c (c - (k + 1)) (P.take k) (P.drop (k + 1)) (xs, ⟨xd, xa, xc⟩) #[.string xs, .bool xc.dir, .slice xd xc.data.length xa, .int .i64 xc.time] rfl (HDZ.out _ HRB.out) (HTK.out _ HRB.out) (by simp only [List.length_take, List.length_drop]; have := HN.out; omega)
              rw [show (P.drop (k + 1)).length = n - (k + 1) by rw [List.length_drop, HN.out]] at r4
              rw [show (P.take k).length = k by rw [List.length_take, HN.out]; omega] at r2
              have HB2 := hide (show Below wa.heap.size wa w2 from below_up HRB.out hb2 HRB.out.size)
              have HB3 := hide (show Below wa.heap.size wa w3 from below_up HRB.out hb3 HRB.out.size)
              have HB4 := hide (show Below wa.heap.size wa w4 from below_up HRB.out hb4 HRB.out.size)
              have ho5 := ho4.base (base' := wa.heap.size) (Nat.le_refl _)
              rw [← HQ.out] at ho5
              obtain ⟨A', c', rfl, hcp, hrg, hob, _⟩ := ho5.slice encE_len
              have HA' := hide (show ∀ a, A' = some a → wa.heap.size ≤ a.block from fun a e => (ho5.lt _ (hob a e)).1)
              have HCP := hide hcp
              have HRG := hide hrg
              clear ho4 ho5 hb2 hb3 hb4 hob hcp hrg
              refine step_app_run rfl _ _ rfl rfl rfl rfl r2 ?_
              refine hK.out _ _ (HS2.out _ HB2.out) (fun _ => ?_)
              clear hK K
              try simp only [Act.put, List.setIfInBounds_toArray, List.set_cons_zero, List.set_cons_succ]
              refine wpAnyH_ready (rs := [8]) (by kernel_rfl) (by simp) ?_
              refine AllReadyH.cons (o := _) rfl (fun K hK => ?_) AllReadyH.nil
              rw [if_pos (by kernel_rfl)]
              go_simp
              refine hK.out _ _ (HS2.out _ (HB2.out.alloc HB2.out.size _)) (fun _ => ?_)
              clear hK K
              try simp only [Act.put, List.setIfInBounds_toArray, List.set_cons_zero, List.set_cons_succ]
              refine wpAnyH_ready (rs := [9]) (by kernel_rfl) (by simp) ?_
              refine AllReadyH.cons (o := _) rfl (fun K hK => ?_) AllReadyH.nil
              refine step_app_run rfl _ _ rfl rfl rfl rfl r3 ?_
              refine hK.out _ _ (HS2.out _ HB3.out) (fun _ => ?_)
              clear hK K
              try simp only [Act.put, List.setIfInBounds_toArray, List.set_cons_zero, List.set_cons_succ]
              refine wpAnyH_tk (i := 10) (oi := _) (v := ?vax10) rfl rfl (by kernel_rfl) (by kernel_rfl) (by kernel_rfl) (fun _ _ _ h => h) (Or.inl ⟨by kernel_rfl, ?yax10⟩) (by assumption) ?rax10
              case yax10 =>
                intro w hSw
                (try dsimp only at hSw)
                go_simp
                try with_reducible rfl
              try simp only [List.setIfInBounds_toArray, List.set_cons_zero, List.set_cons_succ]
              refine wpAnyH_done (by kernel_rfl) ?_ _
              have hck2 : (c = k + 1) = True := eq_true HCK.out
              have hd2 := (HS2.out w3 HB3.out).1
              have hg4 := (HB4.out.block g hgl2).trans HRA.out.heap
              rw [HN.out] at hg4
              have hf4 := freeOf hg4 2
              have hcc4 := cellOf hg4 (j := 2) (v := .slice (some ⟨gs, o, none⟩) n c) rfl
              have HG5 := hide (heapSet (j := 2) hg4 (.slice A' (putG ((xs, ⟨xd, xa, xc⟩) : NV) P).length c'))
              obtain ⟨M, hM⟩ : ∃ m, (putG ((xs, ⟨xd, xa, xc⟩) : NV) P).length = m := ⟨_, rfl⟩
              rw [hM] at r4 HG5 HCP
              have HM := hide hM
              clear hg4 hM
              go_wp2_with (first | (at_builtin; refine wpList_app_run ?_ (.tmp 63) (.tmp 69) ?_ ?_ ?_ ?_ r4 ?_; exact rfl; exact rfl; exact rfl; exact rfl; exact rfl))
              go_end0
              have hsz : b ≤ wa.heap.size := by have := HBA.out.size; have := HBB.out; omega
              have hbb : Below b w w4 := below_up HBA.out HB4.out hsz
              refine ⟨rfl, A', c', ?_, ?_, ?_, ?_, ?_⟩
              · rw [HM.out]; exact HG5.out
              · rw [HM.out]; exact HCP.out
              · exact HRG.out.gb (gb_setCell (World.grownBy.refl w4 (some g)) 2 _) (fun a e h => by injection h with h; have := HA'.out a e; omega)
              · intro a e; have := HA'.out a e; have := HBB.out; omega
              · exact gb_setCell ⟨hbb.os, hbb.tape, hbb.output, hbb.size, fun i hi _ => hbb.block i (by have := HBB.out; omega)⟩ 2 _
            case away2 =>
              have HRB := hide (below_drewN (Below.refl wa.heap.size wa) (q + nq1 + nq + 1))
              obtain ⟨v2, w2, v3, w3, v4, w4, r2, r3, r4, ho4, hb2, hb3, hb4⟩ := putN_chain2 (wa.drewN (q + nq1 + nq + 1)) (some ⟨gs, o, none⟩) (some ⟨gs, o, none⟩) c (c - (k + 1)) (P.take k) (P.drop (k + 1)) (xs, ⟨xd, xa, xc⟩) #[.string xs, .bool xc.dir, .slice xd xc.data.length xa, .int .i64 xc.time] rfl (HDZ.out _ HRB.out) (HTK.out _ HRB.out) (by simp only [List.length_take, List.length_drop]; have := HN.out; omega)
              rw [show (P.drop (k + 1)).length = n - (k + 1) by rw [List.length_drop, HN.out]] at r4
              rw [show (P.take k).length = k by rw [List.length_take, HN.out]; omega] at r2
              have HB2 := hide (show Below wa.heap.size wa w2 from below_up HRB.out hb2 HRB.out.size)
              have HB3 := hide (show Below wa.heap.size wa w3 from below_up HRB.out hb3 HRB.out.size)
              have HB4 := hide (show Below wa.heap.size wa w4 from below_up HRB.out hb4 HRB.out.size)
              have ho5 := ho4.base (base' := wa.heap.size) (Nat.le_refl _)
              rw [← HQ.out] at ho5
              obtain ⟨A', c', rfl, hcp, hrg, hob, _⟩ := ho5.slice encE_len
              have HA' := hide (show ∀ a, A' = some a → wa.heap.size ≤ a.block from fun a e => (ho5.lt _ (hob a e)).1)
              have HCP := hide hcp
              have HRG := hide hrg
              clear ho4 ho5 hb2 hb3 hb4 hob hcp hrg
              rw [if_pos (by kernel_rfl)]
              go_simp
              refine hK.out _ _ (HS2.out _ (HRB.out.alloc HRB.out.size _)) (fun _ => ?_)
              clear hK K
              try simp only [Act.put, List.setIfInBounds_toArray, List.set_cons_zero, List.set_cons_succ]
              refine wpAnyH_ready (rs := [6]) (by kernel_rfl) (by simp) ?_
              refine AllReadyH.cons (o := _) rfl (fun K hK => ?_) AllReadyH.nil
              refine step_app_run rfl _ _ rfl rfl rfl rfl r2 ?_
              refine hK.out _ _ (HS2.out _ HB2.out) (fun _ => ?_)
              clear hK K
              try simp only [Act.put, List.setIfInBounds_toArray, List.set_cons_zero, List.set_cons_succ]
              refine wpAnyH_ready (rs := [9]) (by kernel_rfl) (by simp) ?_
              refine AllReadyH.cons (o := _) rfl (fun K hK => ?_) AllReadyH.nil
              refine step_app_run rfl _ _ rfl rfl rfl rfl r3 ?_
              refine hK.out _ _ (HS2.out _ HB3.out) (fun _ => ?_)
              clear hK K
              try simp only [Act.put, List.setIfInBounds_toArray, List.set_cons_zero, List.set_cons_succ]
              refine wpAnyH_tk (i := 10) (oi := _) (v := ?vay10) rfl rfl (by kernel_rfl) (by kernel_rfl) (by kernel_rfl) (fun _ _ _ h => h) (Or.inl ⟨by kernel_rfl, ?yay10⟩) (by assumption) ?ray10
              case yay10 =>
                intro w hSw
                (try dsimp only at hSw)
                go_simp
                try with_reducible rfl
              try simp only [List.setIfInBounds_toArray, List.set_cons_zero, List.set_cons_succ]
              refine wpAnyH_done (by kernel_rfl) ?_ _
              have hck2 : (c = k + 1) = True := eq_true HCK.out
              have hd2 := (HS2.out w3 HB3.out).1
              have hg4 := (HB4.out.block g hgl2).trans HRA.out.heap
              rw [HN.out] at hg4
              have hf4 := freeOf hg4 2
              have hcc4 := cellOf hg4 (j := 2) (v := .slice (some ⟨gs, o, none⟩) n c) rfl
              have HG5 := hide (heapSet (j := 2) hg4 (.slice A' (putG ((xs, ⟨xd, xa, xc⟩) : NV) P).length c'))
              obtain ⟨M, hM⟩ : ∃ m, (putG ((xs, ⟨xd, xa, xc⟩) : NV) P).length = m := ⟨_, rfl⟩
              rw [hM] at r4 HG5 HCP
              have HM := hide hM
              clear hg4 hM
              go_wp2_with (first | (at_builtin; refine wpList_app_run ?_ (.tmp 63) (.tmp 69) ?_ ?_ ?_ ?_ r4 ?_; exact rfl; exact rfl; exact rfl; exact rfl; exact rfl))
              go_end0
              have hsz : b ≤ wa.heap.size := by have := HBA.out.size; have := HBB.out; omega
              have hbb : Below b w w4 := below_up HBA.out HB4.out hsz
              refine ⟨rfl, A', c', ?_, ?_, ?_, ?_, ?_⟩
              · rw [HM.out]; exact HG5.out
              · rw [HM.out]; exact HCP.out
              · exact HRG.out.gb (gb_setCell (World.grownBy.refl w4 (some g)) 2 _) (fun a e h => by injection h with h; have := HA'.out a e; omega)
              · intro a e; have := HA'.out a e; have := HBB.out; omega
              · exact gb_setCell ⟨hbb.os, hbb.tape, hbb.output, hbb.size, fun i hi _ => hbb.block i (by have := HBB.out; omega)⟩ 2 _
          · have HRB := hide (show Below wa.heap.size wa ((wa.drewN (q + nq1 + nq)).drew) from (below_drewN (Below.refl wa.heap.size wa) _).drew)
            have hbl : b < wa.heap.size := (Array.getElem?_eq_some_iff.1 HNW.out).1
            have hgl2 : g < wa.heap.size := (Array.getElem?_eq_some_iff.1 HRA.out.heap).1
            have hx1 : wa.cell? ⟨b, 1, none⟩ = some (.bool xc.dir) := cellOf HNW.out (j := 1) rfl
            have hx2 : wa.cell? ⟨b, 2, none⟩ = some (.slice xd xc.data.length xa) := cellOf HNW.out (j := 2) rfl
            have hx3 : wa.cell? ⟨b, 3, none⟩ = some (.int .i64 xc.time) := cellOf HNW.out (j := 3) rfl
            have hs2 : ∀ W, Below wa.heap.size wa W → (fun w' => w'.cell? ⟨g, 2, none⟩ = some (.slice (some ⟨gs, o, none⟩) n c) ∧ w'.cell? ⟨b, 0, none⟩ = some (.string xs) ∧ w'.cell? ⟨b, 1, none⟩ = some (.bool xc.dir) ∧ w'.cell? ⟨b, 2, none⟩ = some (.slice xd xc.data.length xa) ∧ w'.cell? ⟨b, 3, none⟩ = some (.int .i64 xc.time)) W := fun W h => ⟨(h.cell (p := ⟨g, 2, none⟩) hgl2).trans hc2, (h.cell (p := ⟨b, 0, none⟩) hbl).trans hx0, (h.cell (p := ⟨b, 1, none⟩) hbl).trans hx1, (h.cell (p := ⟨b, 2, none⟩) hbl).trans hx2, (h.cell (p := ⟨b, 3, none⟩) hbl).trans hx3⟩
            have HS2 := hide hs2
            clear hs2
            refine wp_region_held_drew (S := fun w' => w'.cell? ⟨g, 2, none⟩ = some (.slice (some ⟨gs, o, none⟩) n c) ∧ w'.cell? ⟨b, 0, none⟩ = some (.string xs) ∧ w'.cell? ⟨b, 1, none⟩ = some (.bool xc.dir) ∧ w'.cell? ⟨b, 2, none⟩ = some (.slice xd xc.data.length xa) ∧ w'.cell? ⟨b, 3, none⟩ = some (.int .i64 xc.time)) (by kernel_rfl) (HS2.out _ HRB.out) (fun hHeld => ?_)
            refine wpAnyH_tk (i := 0) (oi := _) (v := ?vA0) rfl rfl (by kernel_rfl) (by kernel_rfl) (by kernel_rfl) (fun _ _ _ h => h) (Or.inl ⟨by kernel_rfl, ?yA0⟩) (by assumption) ?rA0
            case yA0 =>
              intro w hSw
              (try dsimp only at hSw)
              go_simp
              try with_reducible rfl
            try simp only [List.setIfInBounds_toArray, List.set_cons_zero, List.set_cons_succ]
            refine wpAnyH_tk (i := 1) (oi := _) (v := ?vA1) rfl rfl (by kernel_rfl) (by kernel_rfl) (by kernel_rfl) (fun _ _ _ h => h) (Or.inl ⟨by kernel_rfl, ?yA1⟩) (by assumption) ?rA1
            case yA1 =>
              intro w hSw
              (try dsimp only at hSw)
              go_simp
              try with_reducible rfl
            try simp only [List.setIfInBounds_toArray, List.set_cons_zero, List.set_cons_succ]
            refine wpAnyH_tk (i := 2) (oi := _) (v := ?vA2) rfl rfl (by kernel_rfl) (by kernel_rfl) (by kernel_rfl) (fun _ _ _ h => h) (Or.inl ⟨by kernel_rfl, ?yA2⟩) (by assumption) ?rA2
            case yA2 =>
              intro w hSw
              (try dsimp only at hSw)
              go_simp
              try with_reducible rfl
            try simp only [List.setIfInBounds_toArray, List.set_cons_zero, List.set_cons_succ]
            refine wpAnyH_tk (i := 3) (oi := _) (v := ?vA3) rfl rfl (by kernel_rfl) (by kernel_rfl) (by kernel_rfl) (fun _ _ _ h => h) (Or.inl ⟨by kernel_rfl, ?yA3⟩) (by assumption) ?rA3
            case yA3 =>
              intro w hSw
              (try dsimp only at hSw)
              go_simp
              try with_reducible rfl
            try simp only [List.setIfInBounds_toArray, List.set_cons_zero, List.set_cons_succ]
            refine wpAnyH_tk (i := 4) (oi := _) (v := ?vA4) rfl rfl (by kernel_rfl) (by kernel_rfl) (by kernel_rfl) (fun _ _ _ h => h) (Or.inl ⟨by kernel_rfl, ?yA4⟩) (by assumption) ?rA4
            case yA4 =>
              intro w hSw
              (try dsimp only at hSw)
              go_simp
              try with_reducible rfl
            try simp only [List.setIfInBounds_toArray, List.set_cons_zero, List.set_cons_succ]
            refine wpAnyH_tk (i := 5) (oi := _) (v := ?vA5) rfl rfl (by kernel_rfl) (by kernel_rfl) (by kernel_rfl) (fun _ _ _ h => h) (Or.inl ⟨by kernel_rfl, ?yA5⟩) (by assumption) ?rA5
            case yA5 =>
              intro w hSw
              (try dsimp only at hSw)
              go_simp
              try with_reducible rfl
            try simp only [List.setIfInBounds_toArray, List.set_cons_zero, List.set_cons_succ]
            refine wpAnyH_tk (i := 7) (oi := _) (v := ?vA7) rfl rfl (by kernel_rfl) (by kernel_rfl) (by kernel_rfl) (fun _ _ _ h => h) (Or.inl ⟨by kernel_rfl, ?yA7⟩) (by assumption) ?rA7
            case yA7 =>
              intro w hSw
              (try dsimp only at hSw)
              go_simp
              try with_reducible rfl
            try simp only [List.setIfInBounds_toArray, List.set_cons_zero, List.set_cons_succ]
            refine wpAnyH_ready (rs := [6, 8]) (by kernel_rfl) (by simp) ?_
            refine AllReadyH.cons (o := _) rfl (fun K hK => ?Away1) (AllReadyH.cons (o := _) rfl (fun K hK => ?Away2) AllReadyH.nil)
            case Away1 =>
              obtain ⟨v2, w2, v3, w3, v4, w4, r2, r3, r4, ho4, hb2, hb3, hb4⟩ := putN_chain ((wa.drewN (q + nq1 + nq)).drew) (some ⟨gs, o, none⟩) (some ⟨gs, o + (k + 1) * 4, none⟩) c (c - (k + 1)) (P.take k) (P.drop (k + 1)) (xs, ⟨xd, xa, xc⟩) #[.string xs, .bool xc.dir, .slice xd xc.data.length xa, .int .i64 xc.time] rfl (HDR.out _ _ HRB.out) (HTK.out _ HRB.out) (by simp only [List.length_take, List.length_drop]; have := HN.out; omega)
              rw [show (P.drop (k + 1)).length = n - (k + 1) by rw [List.length_drop, HN.out]] at r4
              rw [show (P.take k).length = k by rw [List.length_take, HN.out]; omega] at r2
              have HB2 := hide (show Below wa.heap.size wa w2 from below_up HRB.out hb2 HRB.out.size)
              have HB3 := hide (show Below wa.heap.size wa w3 from below_up HRB.out hb3 HRB.out.size)
              have HB4 := hide (show Below wa.heap.size wa w4 from below_up HRB.out hb4 HRB.out.size)
              have ho5 := ho4.base (base' := wa.heap.size) (Nat.le_refl _)
              rw [← HQ.out] at ho5
              obtain ⟨A', c', rfl, hcp, hrg, hob, _⟩ := ho5.slice encE_len
              have HA' := hide (show ∀ a, A' = some a → wa.heap.size ≤ a.block from fun a e => (ho5.lt _ (hob a e)).1)
              have HCP := hide hcp
              have HRG := hide hrg
              clear ho4 ho5 hb2 hb3 hb4 hob hcp hrg
              refine step_app_run rfl _ _ rfl rfl rfl rfl r2 ?_
              refine hK.out _ _ (HS2.out _ HB2.out) (fun _ => ?_)
              clear hK K
              try simp only [Act.put, List.setIfInBounds_toArray, List.set_cons_zero, List.set_cons_succ]
              refine wpAnyH_ready (rs := [8]) (by kernel_rfl) (by simp) ?_
              refine AllReadyH.cons (o := _) rfl (fun K hK => ?_) AllReadyH.nil
              rw [if_pos (by kernel_rfl)]
              go_simp
              refine hK.out _ _ (HS2.out _ (HB2.out.alloc HB2.out.size _)) (fun _ => ?_)
              clear hK K
              try simp only [Act.put, List.setIfInBounds_toArray, List.set_cons_zero, List.set_cons_succ]
              refine wpAnyH_ready (rs := [9]) (by kernel_rfl) (by simp) ?_
              refine AllReadyH.cons (o := _) rfl (fun K hK => ?_) AllReadyH.nil
              refine step_app_run rfl _ _ rfl rfl rfl rfl r3 ?_
              refine hK.out _ _ (HS2.out _ HB3.out) (fun _ => ?_)
              clear hK K
              try simp only [Act.put, List.setIfInBounds_toArray, List.set_cons_zero, List.set_cons_succ]
              refine wpAnyH_tk (i := 10) (oi := _) (v := ?vAx10) rfl rfl (by kernel_rfl) (by kernel_rfl) (by kernel_rfl) (fun _ _ _ h => h) (Or.inl ⟨by kernel_rfl, ?yAx10⟩) (by assumption) ?rAx10
              case yAx10 =>
                intro w hSw
                (try dsimp only at hSw)
                go_simp
                try with_reducible rfl
              try simp only [List.setIfInBounds_toArray, List.set_cons_zero, List.set_cons_succ]
              refine wpAnyH_done (by kernel_rfl) ?_ _
              have hd2 := (HS2.out w3 HB3.out).1
              have hg4 := (HB4.out.block g hgl2).trans HRA.out.heap
              rw [HN.out] at hg4
              have hf4 := freeOf hg4 2
              have hcc4 := cellOf hg4 (j := 2) (v := .slice (some ⟨gs, o, none⟩) n c) rfl
              have HG5 := hide (heapSet (j := 2) hg4 (.slice A' (putG ((xs, ⟨xd, xa, xc⟩) : NV) P).length c'))
              obtain ⟨M, hM⟩ : ∃ m, (putG ((xs, ⟨xd, xa, xc⟩) : NV) P).length = m := ⟨_, rfl⟩
              rw [hM] at r4 HG5 HCP
              have HM := hide hM
              clear hg4 hM
              go_wp2_with (first | (at_builtin; refine wpList_app_run ?_ (.tmp 63) (.tmp 69) ?_ ?_ ?_ ?_ r4 ?_; exact rfl; exact rfl; exact rfl; exact rfl; exact rfl))
              go_end0
              have hsz : b ≤ wa.heap.size := by have := HBA.out.size; have := HBB.out; omega
              have hbb : Below b w w4 := below_up HBA.out HB4.out hsz
              refine ⟨rfl, A', c', ?_, ?_, ?_, ?_, ?_⟩
              · rw [HM.out]; exact HG5.out
              · rw [HM.out]; exact HCP.out
              · exact HRG.out.gb (gb_setCell (World.grownBy.refl w4 (some g)) 2 _) (fun a e h => by injection h with h; have := HA'.out a e; omega)
              · intro a e; have := HA'.out a e; have := HBB.out; omega
              · exact gb_setCell ⟨hbb.os, hbb.tape, hbb.output, hbb.size, fun i hi _ => hbb.block i (by have := HBB.out; omega)⟩ 2 _
            case Away2 =>
              have HRB := hide (below_drewN (Below.refl wa.heap.size wa) (q + nq1 + nq + 1))
              obtain ⟨v2, w2, v3, w3, v4, w4, r2, r3, r4, ho4, hb2, hb3, hb4⟩ := putN_chain2 (wa.drewN (q + nq1 + nq + 1)) (some ⟨gs, o, none⟩) (some ⟨gs, o + (k + 1) * 4, none⟩) c (c - (k + 1)) (P.take k) (P.drop (k + 1)) (xs, ⟨xd, xa, xc⟩) #[.string xs, .bool xc.dir, .slice xd xc.data.length xa, .int .i64 xc.time] rfl (HDR.out _ _ HRB.out) (HTK.out _ HRB.out) (by simp only [List.length_take, List.length_drop]; have := HN.out; omega)
              rw [show (P.drop (k + 1)).length = n - (k + 1) by rw [List.length_drop, HN.out]] at r4
              rw [show (P.take k).length = k by rw [List.length_take, HN.out]; omega] at r2
              have HB2 := hide (show Below wa.heap.size wa w2 from below_up HRB.out hb2 HRB.out.size)
              have HB3 := hide (show Below wa.heap.size wa w3 from below_up HRB.out hb3 HRB.out.size)
              have HB4 := hide (show Below wa.heap.size wa w4 from below_up HRB.out hb4 HRB.out.size)
              have ho5 := ho4.base (base' := wa.heap.size) (Nat.le_refl _)
              rw [← HQ.out] at ho5
              obtain ⟨A', c', rfl, hcp, hrg, hob, _⟩ := ho5.slice encE_len
              have HA' := hide (show ∀ a, A' = some a → wa.heap.size ≤ a.block from fun a e => (ho5.lt _ (hob a e)).1)
              have HCP := hide hcp
              have HRG := hide hrg
              clear ho4 ho5 hb2 hb3 hb4 hob hcp hrg
              rw [if_pos (by kernel_rfl)]
              go_simp
              refine hK.out _ _ (HS2.out _ (HRB.out.alloc HRB.out.size _)) (fun _ => ?_)
              clear hK K
              try simp only [Act.put, List.setIfInBounds_toArray, List.set_cons_zero, List.set_cons_succ]
              refine wpAnyH_ready (rs := [6]) (by kernel_rfl) (by simp) ?_
              refine AllReadyH.cons (o := _) rfl (fun K hK => ?_) AllReadyH.nil
              refine step_app_run rfl _ _ rfl rfl rfl rfl r2 ?_
              refine hK.out _ _ (HS2.out _ HB2.out) (fun _ => ?_)
              clear hK K
              try simp only [Act.put, List.setIfInBounds_toArray, List.set_cons_zero, List.set_cons_succ]
              refine wpAnyH_ready (rs := [9]) (by kernel_rfl) (by simp) ?_
              refine AllReadyH.cons (o := _) rfl (fun K hK => ?_) AllReadyH.nil
              refine step_app_run rfl _ _ rfl rfl rfl rfl r3 ?_
              refine hK.out _ _ (HS2.out _ HB3.out) (fun _ => ?_)
              clear hK K
              try simp only [Act.put, List.setIfInBounds_toArray, List.set_cons_zero, List.set_cons_succ]
              refine wpAnyH_tk (i := 10) (oi := _) (v := ?vAy10) rfl rfl (by kernel_rfl) (by kernel_rfl) (by kernel_rfl) (fun _ _ _ h => h) (Or.inl ⟨by kernel_rfl, ?yAy10⟩) (by assumption) ?rAy10
              case yAy10 =>
                intro w hSw
                (try dsimp only at hSw)
                go_simp
                try with_reducible rfl
              try simp only [List.setIfInBounds_toArray, List.set_cons_zero, List.set_cons_succ]
              refine wpAnyH_done (by kernel_rfl) ?_ _
              have hd2 := (HS2.out w3 HB3.out).1
              have hg4 := (HB4.out.block g hgl2).trans HRA.out.heap
              rw [HN.out] at hg4
              have hf4 := freeOf hg4 2
              have hcc4 := cellOf hg4 (j := 2) (v := .slice (some ⟨gs, o, none⟩) n c) rfl
              have HG5 := hide (heapSet (j := 2) hg4 (.slice A' (putG ((xs, ⟨xd, xa, xc⟩) : NV) P).length c'))
              obtain ⟨M, hM⟩ : ∃ m, (putG ((xs, ⟨xd, xa, xc⟩) : NV) P).length = m := ⟨_, rfl⟩
              rw [hM] at r4 HG5 HCP
              have HM := hide hM
              clear hg4 hM
              go_wp2_with (first | (at_builtin; refine wpList_app_run ?_ (.tmp 63) (.tmp 69) ?_ ?_ ?_ ?_ r4 ?_; exact rfl; exact rfl; exact rfl; exact rfl; exact rfl))
              go_end0
              have hsz : b ≤ wa.heap.size := by have := HBA.out.size; have := HBB.out; omega
              have hbb : Below b w w4 := below_up HBA.out HB4.out hsz
              refine ⟨rfl, A', c', ?_, ?_, ?_, ?_, ?_⟩
              · rw [HM.out]; exact HG5.out
              · rw [HM.out]; exact HCP.out
              · exact HRG.out.gb (gb_setCell (World.grownBy.refl w4 (some g)) 2 _) (fun a e h => by injection h with h; have := HA'.out a e; omega)
              · intro a e; have := HA'.out a e; have := HBB.out; omega
              · exact gb_setCell ⟨hbb.os, hbb.tape, hbb.output, hbb.size, fun i hi _ => hbb.block i (by have := HBB.out; omega)⟩ 2 _
        · have e1 : (ys.toList == xs.toList) = false := txt_ne he
          have HQ := hide (show putG ((xs, ⟨xd, xa, xc⟩) : NV) P = P.take k ++ [(xs, ⟨xd, xa, xc⟩)] ++ P.drop k by rw [HP.out, HY.out]; dsimp only; rw [HYS.out, if_neg he])
          clear he HP
          go_wp2_with fail
          go_quiet (fail)
          obtain ⟨nq1, hnq1⟩ : ∃ z, z = nq := ⟨_, rfl⟩
          subst hnq1
          go_wp2_with fail
          go_quiet (fail)
          go_wp2_with fail
          have HRB := hide (show Below wa.heap.size wa ((((wa.drewN q).drewN nq1).drewN nq).drew) from (below_drewN (below_drewN (below_drewN (Below.refl wa.heap.size wa) _) _) _).drew)
          have hbl : b < wa.heap.size := (Array.getElem?_eq_some_iff.1 HNW.out).1
          have hgl2 : g < wa.heap.size := (Array.getElem?_eq_some_iff.1 HRA.out.heap).1
          have hx1 : wa.cell? ⟨b, 1, none⟩ = some (.bool xc.dir) := cellOf HNW.out (j := 1) rfl
          have hx2 : wa.cell? ⟨b, 2, none⟩ = some (.slice xd xc.data.length xa) := cellOf HNW.out (j := 2) rfl
          have hx3 : wa.cell? ⟨b, 3, none⟩ = some (.int .i64 xc.time) := cellOf HNW.out (j := 3) rfl
          have hs2 : ∀ W, Below wa.heap.size wa W → (fun w' => w'.cell? ⟨g, 2, none⟩ = some (.slice (some ⟨gs, o, none⟩) n c) ∧ w'.cell? ⟨b, 0, none⟩ = some (.string xs) ∧ w'.cell? ⟨b, 1, none⟩ = some (.bool xc.dir) ∧ w'.cell? ⟨b, 2, none⟩ = some (.slice xd xc.data.length xa) ∧ w'.cell? ⟨b, 3, none⟩ = some (.int .i64 xc.time)) W := fun W h => ⟨(h.cell (p := ⟨g, 2, none⟩) hgl2).trans hc2, (h.cell (p := ⟨b, 0, none⟩) hbl).trans hx0, (h.cell (p := ⟨b, 1, none⟩) hbl).trans hx1, (h.cell (p := ⟨b, 2, none⟩) hbl).trans hx2, (h.cell (p := ⟨b, 3, none⟩) hbl).trans hx3⟩
          have HS2 := hide hs2
          clear hs2
          refine wp_region_held_drew (S := fun w' => w'.cell? ⟨g, 2, none⟩ = some (.slice (some ⟨gs, o, none⟩) n c) ∧ w'.cell? ⟨b, 0, none⟩ = some (.string xs) ∧ w'.cell? ⟨b, 1, none⟩ = some (.bool xc.dir) ∧ w'.cell? ⟨b, 2, none⟩ = some (.slice xd xc.data.length xa) ∧ w'.cell? ⟨b, 3, none⟩ = some (.int .i64 xc.time)) (by kernel_rfl) (HS2.out _ HRB.out) (fun hHeld => ?_)
          refine wpAnyH_tk (i := 0) (oi := _) (v := ?vB0) rfl rfl (by kernel_rfl) (by kernel_rfl) (by kernel_rfl) (fun _ _ _ h => h) (Or.inl ⟨by kernel_rfl, ?yB0⟩) (by assumption) ?rB0
          case yB0 =>
            intro w hSw
            (try dsimp only at hSw)
            go_simp
            try with_reducible rfl
          try simp only [List.setIfInBounds_toArray, List.set_cons_zero, List.set_cons_succ]
          refine wpAnyH_tk (i := 1) (oi := _) (v := ?vB1) rfl rfl (by kernel_rfl) (by kernel_rfl) (by kernel_rfl) (fun _ _ _ h => h) (Or.inl ⟨by kernel_rfl, ?yB1⟩) (by assumption) ?rB1
          case yB1 =>
            intro w hSw
            (try dsimp only at hSw)
            go_simp
            try with_reducible rfl
          try simp only [List.setIfInBounds_toArray, List.set_cons_zero, List.set_cons_succ]
          refine wpAnyH_tk (i := 2) (oi := _) (v := ?vB2) rfl rfl (by kernel_rfl) (by kernel_rfl) (by kernel_rfl) (fun _ _ _ h => h) (Or.inl ⟨by kernel_rfl, ?yB2⟩) (by assumption) ?rB2
          case yB2 =>
            intro w hSw
            (try dsimp only at hSw)
            go_simp
            try with_reducible rfl
          try simp only [List.setIfInBounds_toArray, List.set_cons_zero, List.set_cons_succ]
          refine wpAnyH_tk (i := 3) (oi := _) (v := ?vB3) rfl rfl (by kernel_rfl) (by kernel_rfl) (by kernel_rfl) (fun _ _ _ h => h) (Or.inl ⟨by kernel_rfl, ?yB3⟩) (by assumption) ?rB3
          case yB3 =>
            intro w hSw
            (try dsimp only at hSw)
            go_simp
            try with_reducible rfl
          try simp only [List.setIfInBounds_toArray, List.set_cons_zero, List.set_cons_succ]
          refine wpAnyH_tk (i := 4) (oi := _) (v := ?vB4) rfl rfl (by kernel_rfl) (by kernel_rfl) (by kernel_rfl) (fun _ _ _ h => h) (Or.inl ⟨by kernel_rfl, ?yB4⟩) (by assumption) ?rB4
          case yB4 =>
            intro w hSw
            (try dsimp only at hSw)
            go_simp
            try with_reducible rfl
          try simp only [List.setIfInBounds_toArray, List.set_cons_zero, List.set_cons_succ]
          refine wpAnyH_tk (i := 5) (oi := _) (v := ?vB5) rfl rfl (by kernel_rfl) (by kernel_rfl) (by kernel_rfl) (fun _ _ _ h => h) (Or.inl ⟨by kernel_rfl, ?yB5⟩) (by assumption) ?rB5
          case yB5 =>
            intro w hSw
            (try dsimp only at hSw)
            go_simp
            try with_reducible rfl
          try simp only [List.setIfInBounds_toArray, List.set_cons_zero, List.set_cons_succ]
          refine wpAnyH_tk (i := 7) (oi := _) (v := ?vB7) rfl rfl (by kernel_rfl) (by kernel_rfl) (by kernel_rfl) (fun _ _ _ h => h) (Or.inl ⟨by kernel_rfl, ?yB7⟩) (by assumption) ?rB7
          case yB7 =>
            intro w hSw
            (try dsimp only at hSw)
            go_simp
            try with_reducible rfl
          try simp only [List.setIfInBounds_toArray, List.set_cons_zero, List.set_cons_succ]
          refine wpAnyH_ready (rs := [6, 8]) (by kernel_rfl) (by simp) ?_
          refine AllReadyH.cons (o := _) rfl (fun K hK => ?Bway1) (AllReadyH.cons (o := _) rfl (fun K hK => ?Bway2) AllReadyH.nil)
          case Bway1 =>
            obtain ⟨v2, w2, v3, w3, v4, w4, r2, r3, r4, ho4, hb2, hb3, hb4⟩ := putN_chain ((((wa.drewN q).drewN nq1).drewN nq).drew) (some ⟨gs, o, none⟩) (some ⟨gs, o + k * 4, none⟩) c (c - (k)) (P.take k) (P.drop (k)) (xs, ⟨xd, xa, xc⟩) #[.string xs, .bool xc.dir, .slice xd xc.data.length xa, .int .i64 xc.time] rfl (HDR.out _ _ HRB.out) (HTK.out _ HRB.out) (by simp only [List.length_take, List.length_drop]; have := HN.out; omega)
            rw [show (P.drop (k)).length = n - (k) by rw [List.length_drop, HN.out]] at r4
            rw [show (P.take k).length = k by rw [List.length_take, HN.out]; omega] at r2
            have HB2 := hide (show Below wa.heap.size wa w2 from below_up HRB.out hb2 HRB.out.size)
            have HB3 := hide (show Below wa.heap.size wa w3 from below_up HRB.out hb3 HRB.out.size)
            have HB4 := hide (show Below wa.heap.size wa w4 from below_up HRB.out hb4 HRB.out.size)
            have ho5 := ho4.base (base' := wa.heap.size) (Nat.le_refl _)
            rw [← HQ.out] at ho5
            obtain ⟨A', c', rfl, hcp, hrg, hob, _⟩ := ho5.slice encE_len
            have HA' := hide (show ∀ a, A' = some a → wa.heap.size ≤ a.block from fun a e => (ho5.lt _ (hob a e)).1)
            have HCP := hide hcp
            have HRG := hide hrg
            clear ho4 ho5 hb2 hb3 hb4 hob hcp hrg
            refine step_app_run rfl _ _ rfl rfl rfl rfl r2 ?_
            refine hK.out _ _ (HS2.out _ HB2.out) (fun _ => ?_)
            clear hK K
            try simp only [Act.put, List.setIfInBounds_toArray, List.set_cons_zero, List.set_cons_succ]
            refine wpAnyH_ready (rs := [8]) (by kernel_rfl) (by simp) ?_
            refine AllReadyH.cons (o := _) rfl (fun K hK => ?_) AllReadyH.nil
            rw [if_pos (by kernel_rfl)]
            go_simp
            refine hK.out _ _ (HS2.out _ (HB2.out.alloc HB2.out.size _)) (fun _ => ?_)
            clear hK K
            try simp only [Act.put, List.setIfInBounds_toArray, List.set_cons_zero, List.set_cons_succ]
            refine wpAnyH_ready (rs := [9]) (by kernel_rfl) (by simp) ?_
            refine AllReadyH.cons (o := _) rfl (fun K hK => ?_) AllReadyH.nil
            refine step_app_run rfl _ _ rfl rfl rfl rfl r3 ?_
            refine hK.out _ _ (HS2.out _ HB3.out) (fun _ => ?_)
            clear hK K
            try simp only [Act.put, List.setIfInBounds_toArray, List.set_cons_zero, List.set_cons_succ]
            refine wpAnyH_tk (i := 10) (oi := _) (v := ?vBx10) rfl rfl (by kernel_rfl) (by kernel_rfl) (by kernel_rfl) (fun _ _ _ h => h) (Or.inl ⟨by kernel_rfl, ?yBx10⟩) (by assumption) ?rBx10
            case yBx10 =>
              intro w hSw
              (try dsimp only at hSw)
              go_simp
              try with_reducible rfl
            try simp only [List.setIfInBounds_toArray, List.set_cons_zero, List.set_cons_succ]
            refine wpAnyH_done (by kernel_rfl) ?_ _
            have hd2 := (HS2.out w3 HB3.out).1
            have hg4 := (HB4.out.block g hgl2).trans HRA.out.heap
            rw [HN.out] at hg4
            have hf4 := freeOf hg4 2
            have hcc4 := cellOf hg4 (j := 2) (v := .slice (some ⟨gs, o, none⟩) n c) rfl
            have HG5 := hide (heapSet (j := 2) hg4 (.slice A' (putG ((xs, ⟨xd, xa, xc⟩) : NV) P).length c'))
            obtain ⟨M, hM⟩ : ∃ m, (putG ((xs, ⟨xd, xa, xc⟩) : NV) P).length = m := ⟨_, rfl⟩
            rw [hM] at r4 HG5 HCP
            have HM := hide hM
            clear hg4 hM
            go_wp2_with (first | (at_builtin; refine wpList_app_run ?_ (.tmp 63) (.tmp 69) ?_ ?_ ?_ ?_ r4 ?_; exact rfl; exact rfl; exact rfl; exact rfl; exact rfl))
            go_end0
            have hsz : b ≤ wa.heap.size := by have := HBA.out.size; have := HBB.out; omega
            have hbb : Below b w w4 := below_up HBA.out HB4.out hsz
            refine ⟨rfl, A', c', ?_, ?_, ?_, ?_, ?_⟩
            · rw [HM.out]; exact HG5.out
            · rw [HM.out]; exact HCP.out
            · exact HRG.out.gb (gb_setCell (World.grownBy.refl w4 (some g)) 2 _) (fun a e h => by injection h with h; have := HA'.out a e; omega)
            · intro a e; have := HA'.out a e; have := HBB.out; omega
            · exact gb_setCell ⟨hbb.os, hbb.tape, hbb.output, hbb.size, fun i hi _ => hbb.block i (by have := HBB.out; omega)⟩ 2 _
          case Bway2 =>
            have HRB := hide (below_drewN (Below.refl wa.heap.size wa) (q + nq1 + nq + 1))
            obtain ⟨v2, w2, v3, w3, v4, w4, r2, r3, r4, ho4, hb2, hb3, hb4⟩ := putN_chain2 (wa.drewN (q + nq1 + nq + 1)) (some ⟨gs, o, none⟩) (some ⟨gs, o + k * 4, none⟩) c (c - (k)) (P.take k) (P.drop (k)) (xs, ⟨xd, xa, xc⟩) #[.string xs, .bool xc.dir, .slice xd xc.data.length xa, .int .i64 xc.time] rfl (HDR.out _ _ HRB.out) (HTK.out _ HRB.out) (by simp only [List.length_take, List.length_drop]; have := HN.out; omega)
            rw [show (P.drop (k)).length = n - (k) by rw [List.length_drop, HN.out]] at r4
            rw [show (P.take k).length = k by rw [List.length_take, HN.out]; omega] at r2
            have HB2 := hide (show Below wa.heap.size wa w2 from below_up HRB.out hb2 HRB.out.size)
            have HB3 := hide (show Below wa.heap.size wa w3 from below_up HRB.out hb3 HRB.out.size)
            have HB4 := hide (show Below wa.heap.size wa w4 from below_up HRB.out hb4 HRB.out.size)
            have ho5 := ho4.base (base' := wa.heap.size) (Nat.le_refl _)
            rw [← HQ.out] at ho5
            obtain ⟨A', c', rfl, hcp, hrg, hob, _⟩ := ho5.slice encE_len
            have HA' := hide (show ∀ a, A' = some a → wa.heap.size ≤ a.block from fun a e => (ho5.lt _ (hob a e)).1)
            have HCP := hide hcp
            have HRG := hide hrg
            clear ho4 ho5 hb2 hb3 hb4 hob hcp hrg
            rw [if_pos (by kernel_rfl)]
            go_simp
            refine hK.out _ _ (HS2.out _ (HRB.out.alloc HRB.out.size _)) (fun _ => ?_)
            clear hK K
            try simp only [Act.put, List.setIfInBounds_toArray, List.set_cons_zero, List.set_cons_succ]
            refine wpAnyH_ready (rs := [6]) (by kernel_rfl) (by simp) ?_
            refine AllReadyH.cons (o := _) rfl (fun K hK => ?_) AllReadyH.nil
            refine step_app_run rfl _ _ rfl rfl rfl rfl r2 ?_
            refine hK.out _ _ (HS2.out _ HB2.out) (fun _ => ?_)
            clear hK K
            try simp only [Act.put, List.setIfInBounds_toArray, List.set_cons_zero, List.set_cons_succ]
            refine wpAnyH_ready (rs := [9]) (by kernel_rfl) (by simp) ?_
            refine AllReadyH.cons (o := _) rfl (fun K hK => ?_) AllReadyH.nil
            refine step_app_run rfl _ _ rfl rfl rfl rfl r3 ?_
            refine hK.out _ _ (HS2.out _ HB3.out) (fun _ => ?_)
            clear hK K
            try simp only [Act.put, List.setIfInBounds_toArray, List.set_cons_zero, List.set_cons_succ]
            refine wpAnyH_tk (i := 10) (oi := _) (v := ?vBy10) rfl rfl (by kernel_rfl) (by kernel_rfl) (by kernel_rfl) (fun _ _ _ h => h) (Or.inl ⟨by kernel_rfl, ?yBy10⟩) (by assumption) ?rBy10
            case yBy10 =>
              intro w hSw
              (try dsimp only at hSw)
              go_simp
              try with_reducible rfl
            try simp only [List.setIfInBounds_toArray, List.set_cons_zero, List.set_cons_succ]
            refine wpAnyH_done (by kernel_rfl) ?_ _
            have hd2 := (HS2.out w3 HB3.out).1
            have hg4 := (HB4.out.block g hgl2).trans HRA.out.heap
            rw [HN.out] at hg4
            have hf4 := freeOf hg4 2
            have hcc4 := cellOf hg4 (j := 2) (v := .slice (some ⟨gs, o, none⟩) n c) rfl
            have HG5 := hide (heapSet (j := 2) hg4 (.slice A' (putG ((xs, ⟨xd, xa, xc⟩) : NV) P).length c'))
            obtain ⟨M, hM⟩ : ∃ m, (putG ((xs, ⟨xd, xa, xc⟩) : NV) P).length = m := ⟨_, rfl⟩
            rw [hM] at r4 HG5 HCP
            have HM := hide hM
            clear hg4 hM
            go_wp2_with (first | (at_builtin; refine wpList_app_run ?_ (.tmp 63) (.tmp 69) ?_ ?_ ?_ ?_ r4 ?_; exact rfl; exact rfl; exact rfl; exact rfl; exact rfl))
            go_end0
            have hsz : b ≤ wa.heap.size := by have := HBA.out.size; have := HBB.out; omega
            have hbb : Below b w w4 := below_up HBA.out HB4.out hsz
            refine ⟨rfl, A', c', ?_, ?_, ?_, ?_, ?_⟩
            · rw [HM.out]; exact HG5.out
            · rw [HM.out]; exact HCP.out
            · exact HRG.out.gb (gb_setCell (World.grownBy.refl w4 (some g)) 2 _) (fun a e h => by injection h with h; have := HA'.out a e; omega)
            · intro a e; have := HA'.out a e; have := HBB.out; omega
            · exact gb_setCell ⟨hbb.os, hbb.tape, hbb.output, hbb.size, fun i hi _ => hbb.block i (by have := HBB.out; omega)⟩ 2 _
    · obtain rfl : k = n := by omega
      have d1 : decide ((k : Int) < (k : Int)) = false := by simp
      have HQ := hide (show putG ((xs, ⟨xd, xa, xc⟩) : NV) P = P.take k ++ [(xs, ⟨xd, xa, xc⟩)] ++ P.drop k by
        rw [putG_at (x := ((xs, ⟨xd, xa, xc⟩) : NV)) P k (by have := HN.out; omega) HE.out (fun z hz => by rw [List.getElem?_eq_none (by have := HN.out; omega)] at hz; cases hz), List.getElem?_eq_none (by have := HN.out; omega)])
      have hkc : k ≤ c := by have := ho.cap; have := HN.out; omega
      have HTK := hide (fun (W : World) (h : Below wa.heap.size wa W) => show RG encE 4 W A (P.take k) from (HRA.out.below h).rg.take k)
      have HDE := hide (fun (A2 : Option Addr) (W : World) (_ : Below wa.heap.size wa W) => show RG encE 4 W A2 (P.drop k) from fun j s hj => by
        rw [List.getElem?_drop, List.getElem?_eq_none (by have := HN.out; omega)] at hj
        cases hj)
      clear ho hg
      rcases A with _ | a
      · have hz : k = 0 := by
          have hN := HN.out
          have hrg := HRA.out.rg
          rcases Nat.eq_zero_or_pos k with h | h
          · exact h
          · obtain ⟨_, _, e, _⟩ := hrg 0 (P[0]'(by omega)) (List.getElem?_eq_getElem _)
            cases e
        have HZ := hide hz
        clear hz
        go_wp2_with fail
        go_quiet (fail)
        obtain ⟨nq1, hnq1⟩ : ∃ z, z = nq := ⟨_, rfl⟩
        subst hnq1
        go_wp2_with fail
        go_quiet (fail)
        go_wp2_with fail
        have HRB := hide (show Below wa.heap.size wa ((((wa.drewN q).drewN nq1).drewN nq).drew) from (below_drewN (below_drewN (below_drewN (Below.refl wa.heap.size wa) _) _) _).drew)
        have hbl : b < wa.heap.size := (Array.getElem?_eq_some_iff.1 HNW.out).1
        have hgl2 : g < wa.heap.size := (Array.getElem?_eq_some_iff.1 HRA.out.heap).1
        have hx1 : wa.cell? ⟨b, 1, none⟩ = some (.bool xc.dir) := cellOf HNW.out (j := 1) rfl
        have hx2 : wa.cell? ⟨b, 2, none⟩ = some (.slice xd xc.data.length xa) := cellOf HNW.out (j := 2) rfl
        have hx3 : wa.cell? ⟨b, 3, none⟩ = some (.int .i64 xc.time) := cellOf HNW.out (j := 3) rfl
        have hs2 : ∀ W, Below wa.heap.size wa W → (fun w' => w'.cell? ⟨g, 2, none⟩ = some (.slice (none) k c) ∧ w'.cell? ⟨b, 0, none⟩ = some (.string xs) ∧ w'.cell? ⟨b, 1, none⟩ = some (.bool xc.dir) ∧ w'.cell? ⟨b, 2, none⟩ = some (.slice xd xc.data.length xa) ∧ w'.cell? ⟨b, 3, none⟩ = some (.int .i64 xc.time)) W := fun W h => ⟨(h.cell (p := ⟨g, 2, none⟩) hgl2).trans hc2, (h.cell (p := ⟨b, 0, none⟩) hbl).trans hx0, (h.cell (p := ⟨b, 1, none⟩) hbl).trans hx1, (h.cell (p := ⟨b, 2, none⟩) hbl).trans hx2, (h.cell (p := ⟨b, 3, none⟩) hbl).trans hx3⟩
        have HS2 := hide hs2
        clear hs2
        refine wp_region_held_drew (S := fun w' => w'.cell? ⟨g, 2, none⟩ = some (.slice (none) k c) ∧ w'.cell? ⟨b, 0, none⟩ = some (.string xs) ∧ w'.cell? ⟨b, 1, none⟩ = some (.bool xc.dir) ∧ w'.cell? ⟨b, 2, none⟩ = some (.slice xd xc.data.length xa) ∧ w'.cell? ⟨b, 3, none⟩ = some (.int .i64 xc.time)) (by kernel_rfl) (HS2.out _ HRB.out) (fun hHeld => ?_)
        refine wpAnyH_tk (i := 0) (oi := _) (v := ?vC0) rfl rfl (by kernel_rfl) (by kernel_rfl) (by kernel_rfl) (fun _ _ _ h => h) (Or.inl ⟨by kernel_rfl, ?yC0⟩) (by assumption) ?rC0
        case yC0 =>
          intro w hSw
          (try dsimp only at hSw)
          go_simp
          try with_reducible rfl
        try simp only [List.setIfInBounds_toArray, List.set_cons_zero, List.set_cons_succ]
        refine wpAnyH_tk (i := 1) (oi := _) (v := ?vC1) rfl rfl (by kernel_rfl) (by kernel_rfl) (by kernel_rfl) (fun _ _ _ h => h) (Or.inl ⟨by kernel_rfl, ?yC1⟩) (by assumption) ?rC1
        case yC1 =>
          intro w hSw
          (try dsimp only at hSw)
          go_simp
          try with_reducible rfl
        try simp only [List.setIfInBounds_toArray, List.set_cons_zero, List.set_cons_succ]
        refine wpAnyH_tk (i := 2) (oi := _) (v := ?vC2) rfl rfl (by kernel_rfl) (by kernel_rfl) (by kernel_rfl) (fun _ _ _ h => h) (Or.inl ⟨by kernel_rfl, ?yC2⟩) (by assumption) ?rC2
        case yC2 =>
          intro w hSw
          (try dsimp only at hSw)
          go_simp
          try with_reducible rfl
        try simp only [List.setIfInBounds_toArray, List.set_cons_zero, List.set_cons_succ]
        refine wpAnyH_tk (i := 3) (oi := _) (v := ?vC3) rfl rfl (by kernel_rfl) (by kernel_rfl) (by kernel_rfl) (fun _ _ _ h => h) (Or.inl ⟨by kernel_rfl, ?yC3⟩) (by assumption) ?rC3
        case yC3 =>
          intro w hSw
          (try dsimp only at hSw)
          go_simp
          try with_reducible rfl
        try simp only [List.setIfInBounds_toArray, List.set_cons_zero, List.set_cons_succ]
        refine wpAnyH_tk (i := 4) (oi := _) (v := ?vC4) rfl rfl (by kernel_rfl) (by kernel_rfl) (by kernel_rfl) (fun _ _ _ h => h) (Or.inl ⟨by kernel_rfl, ?yC4⟩) (by assumption) ?rC4
        case yC4 =>
          intro w hSw
          (try dsimp only at hSw)
          go_simp
          try with_reducible rfl
        try simp only [List.setIfInBounds_toArray, List.set_cons_zero, List.set_cons_succ]
        refine wpAnyH_tk (i := 5) (oi := _) (v := ?vC5) rfl rfl (by kernel_rfl) (by kernel_rfl) (by kernel_rfl) (fun _ _ _ h => h) (Or.inl ⟨by kernel_rfl, ?yC5⟩) (by assumption) ?rC5
        case yC5 =>
          intro w hSw
          (try dsimp only at hSw)
          go_simp
          try with_reducible rfl
        try simp only [List.setIfInBounds_toArray, List.set_cons_zero, List.set_cons_succ]
        refine wpAnyH_tk (i := 7) (oi := _) (v := ?vC7) rfl rfl (by kernel_rfl) (by kernel_rfl) (by kernel_rfl) (fun _ _ _ h => h) (Or.inl ⟨by kernel_rfl, ?yC7⟩) (by assumption) ?rC7
        case yC7 =>
          intro w hSw
          (try dsimp only at hSw)
          go_simp
          try with_reducible rfl
        try simp only [List.setIfInBounds_toArray, List.set_cons_zero, List.set_cons_succ]
        refine wpAnyH_ready (rs := [6, 8]) (by kernel_rfl) (by simp) ?_
        refine AllReadyH.cons (o := _) rfl (fun K hK => ?Cway1) (AllReadyH.cons (o := _) rfl (fun K hK => ?Cway2) AllReadyH.nil)
        case Cway1 =>
          obtain ⟨v2, w2, v3, w3, v4, w4, r2, r3, r4, ho4, hb2, hb3, hb4⟩ := putN_chain ((((wa.drewN q).drewN nq1).drewN nq).drew) (none) (none) c (c - (k)) (P.take k) (P.drop (k)) (xs, ⟨xd, xa, xc⟩) #[.string xs, .bool xc.dir, .slice xd xc.data.length xa, .int .i64 xc.time] rfl (HDE.out _ _ HRB.out) (HTK.out _ HRB.out) (by simp only [List.length_take, List.length_drop]; have := HN.out; omega)
          rw [show (P.drop (k)).length = 0 by rw [List.length_drop, HN.out]; omega] at r4
          rw [show (P.take k).length = k by rw [List.length_take, HN.out]; omega] at r2
          have HB2 := hide (show Below wa.heap.size wa w2 from below_up HRB.out hb2 HRB.out.size)
          have HB3 := hide (show Below wa.heap.size wa w3 from below_up HRB.out hb3 HRB.out.size)
          have HB4 := hide (show Below wa.heap.size wa w4 from below_up HRB.out hb4 HRB.out.size)
          have ho5 := ho4.base (base' := wa.heap.size) (Nat.le_refl _)
          rw [← HQ.out] at ho5
          obtain ⟨A', c', rfl, hcp, hrg, hob, _⟩ := ho5.slice encE_len
          have HA' := hide (show ∀ a, A' = some a → wa.heap.size ≤ a.block from fun a e => (ho5.lt _ (hob a e)).1)
          have HCP := hide hcp
          have HRG := hide hrg
          clear ho4 ho5 hb2 hb3 hb4 hob hcp hrg
          refine step_app_run rfl _ _ rfl rfl rfl rfl r2 ?_
          refine hK.out _ _ (HS2.out _ HB2.out) (fun _ => ?_)
          clear hK K
          try simp only [Act.put, List.setIfInBounds_toArray, List.set_cons_zero, List.set_cons_succ]
          refine wpAnyH_ready (rs := [8]) (by kernel_rfl) (by simp) ?_
          refine AllReadyH.cons (o := _) rfl (fun K hK => ?_) AllReadyH.nil
          rw [if_pos (by kernel_rfl)]
          go_simp
          refine hK.out _ _ (HS2.out _ (HB2.out.alloc HB2.out.size _)) (fun _ => ?_)
          clear hK K
          try simp only [Act.put, List.setIfInBounds_toArray, List.set_cons_zero, List.set_cons_succ]
          refine wpAnyH_ready (rs := [9]) (by kernel_rfl) (by simp) ?_
          refine AllReadyH.cons (o := _) rfl (fun K hK => ?_) AllReadyH.nil
          refine step_app_run rfl _ _ rfl rfl rfl rfl r3 ?_
          refine hK.out _ _ (HS2.out _ HB3.out) (fun _ => ?_)
          clear hK K
          try simp only [Act.put, List.setIfInBounds_toArray, List.set_cons_zero, List.set_cons_succ]
          refine wpAnyH_tk (i := 10) (oi := _) (v := ?vCx10) rfl rfl (by kernel_rfl) (by kernel_rfl) (by kernel_rfl) (fun _ _ _ h => h) (Or.inl ⟨by kernel_rfl, ?yCx10⟩) (by assumption) ?rCx10
          case yCx10 =>
            intro w hSw
            (try dsimp only at hSw)
            go_simp
            try with_reducible rfl
          try simp only [List.setIfInBounds_toArray, List.set_cons_zero, List.set_cons_succ]
          refine wpAnyH_done (by kernel_rfl) ?_ _
          have hd2 := (HS2.out w3 HB3.out).1
          have hg4 := (HB4.out.block g hgl2).trans HRA.out.heap
          rw [HN.out] at hg4
          have hf4 := freeOf hg4 2
          have hcc4 := cellOf hg4 (j := 2) (v := .slice none k c) rfl
          have HG5 := hide (heapSet (j := 2) hg4 (.slice A' (putG ((xs, ⟨xd, xa, xc⟩) : NV) P).length c'))
          obtain ⟨M, hM⟩ : ∃ m, (putG ((xs, ⟨xd, xa, xc⟩) : NV) P).length = m := ⟨_, rfl⟩
          rw [hM] at r4 HG5 HCP
          have HM := hide hM
          clear hg4 hM
          go_wp2_with (first | (at_builtin; refine wpList_app_run ?_ (.tmp 63) (.tmp 69) ?_ ?_ ?_ ?_ r4 ?_; exact rfl; exact rfl; exact rfl; exact rfl; exact rfl))
          go_end0
          have hsz : b ≤ wa.heap.size := by have := HBA.out.size; have := HBB.out; omega
          have hbb : Below b w w4 := below_up HBA.out HB4.out hsz
          refine ⟨rfl, A', c', ?_, ?_, ?_, ?_, ?_⟩
          · rw [HM.out]; exact HG5.out
          · rw [HM.out]; exact HCP.out
          · exact HRG.out.gb (gb_setCell (World.grownBy.refl w4 (some g)) 2 _) (fun a e h => by injection h with h; have := HA'.out a e; omega)
          · intro a e; have := HA'.out a e; have := HBB.out; omega
          · exact gb_setCell ⟨hbb.os, hbb.tape, hbb.output, hbb.size, fun i hi _ => hbb.block i (by have := HBB.out; omega)⟩ 2 _
        case Cway2 =>
          have HRB := hide (below_drewN (Below.refl wa.heap.size wa) (q + nq1 + nq + 1))
          obtain ⟨v2, w2, v3, w3, v4, w4, r2, r3, r4, ho4, hb2, hb3, hb4⟩ := putN_chain2 (wa.drewN (q + nq1 + nq + 1)) (none) (none) c (c - (k)) (P.take k) (P.drop (k)) (xs, ⟨xd, xa, xc⟩) #[.string xs, .bool xc.dir, .slice xd xc.data.length xa, .int .i64 xc.time] rfl (HDE.out _ _ HRB.out) (HTK.out _ HRB.out) (by simp only [List.length_take, List.length_drop]; have := HN.out; omega)
          rw [show (P.drop (k)).length = 0 by rw [List.length_drop, HN.out]; omega] at r4
          rw [show (P.take k).length = k by rw [List.length_take, HN.out]; omega] at r2
          have HB2 := hide (show Below wa.heap.size wa w2 from below_up HRB.out hb2 HRB.out.size)
          have HB3 := hide (show Below wa.heap.size wa w3 from below_up HRB.out hb3 HRB.out.size)
          have HB4 := hide (show Below wa.heap.size wa w4 from below_up HRB.out hb4 HRB.out.size)
          have ho5 := ho4.base (base' := wa.heap.size) (Nat.le_refl _)
          rw [← HQ.out] at ho5
          obtain ⟨A', c', rfl, hcp, hrg, hob, _⟩ := ho5.slice encE_len
          have HA' := hide (show ∀ a, A' = some a → wa.heap.size ≤ a.block from fun a e => (ho5.lt _ (hob a e)).1)
          have HCP := hide hcp
          have HRG := hide hrg
          clear ho4 ho5 hb2 hb3 hb4 hob hcp hrg
          rw [if_pos (by kernel_rfl)]
          go_simp
          refine hK.out _ _ (HS2.out _ (HRB.out.alloc HRB.out.size _)) (fun _ => ?_)
          clear hK K
          try simp only [Act.put, List.setIfInBounds_toArray, List.set_cons_zero, List.set_cons_succ]
          refine wpAnyH_ready (rs := [6]) (by kernel_rfl) (by simp) ?_
          refine AllReadyH.cons (o := _) rfl (fun K hK => ?_) AllReadyH.nil
          refine step_app_run rfl _ _ rfl rfl rfl rfl r2 ?_
          refine hK.out _ _ (HS2.out _ HB2.out) (fun _ => ?_)
          clear hK K
          try simp only [Act.put, List.setIfInBounds_toArray, List.set_cons_zero, List.set_cons_succ]
          refine wpAnyH_ready (rs := [9]) (by kernel_rfl) (by simp) ?_
          refine AllReadyH.cons (o := _) rfl (fun K hK => ?_) AllReadyH.nil
          refine step_app_run rfl _ _ rfl rfl rfl rfl r3 ?_
          refine hK.out _ _ (HS2.out _ HB3.out) (fun _ => ?_)
          clear hK K
          try simp only [Act.put, List.setIfInBounds_toArray, List.set_cons_zero, List.set_cons_succ]
          refine wpAnyH_tk (i := 10) (oi := _) (v := ?vCy10) rfl rfl (by kernel_rfl) (by kernel_rfl) (by kernel_rfl) (fun _ _ _ h => h) (Or.inl ⟨by kernel_rfl, ?yCy10⟩) (by assumption) ?rCy10
          case yCy10 =>
            intro w hSw
            (try dsimp only at hSw)
            go_simp
            try with_reducible rfl
          try simp only [List.setIfInBounds_toArray, List.set_cons_zero, List.set_cons_succ]
          refine wpAnyH_done (by kernel_rfl) ?_ _
          have hd2 := (HS2.out w3 HB3.out).1
          have hg4 := (HB4.out.block g hgl2).trans HRA.out.heap
          rw [HN.out] at hg4
          have hf4 := freeOf hg4 2
          have hcc4 := cellOf hg4 (j := 2) (v := .slice none k c) rfl
          have HG5 := hide (heapSet (j := 2) hg4 (.slice A' (putG ((xs, ⟨xd, xa, xc⟩) : NV) P).length c'))
          obtain ⟨M, hM⟩ : ∃ m, (putG ((xs, ⟨xd, xa, xc⟩) : NV) P).length = m := ⟨_, rfl⟩
          rw [hM] at r4 HG5 HCP
          have HM := hide hM
          clear hg4 hM
          go_wp2_with (first | (at_builtin; refine wpList_app_run ?_ (.tmp 63) (.tmp 69) ?_ ?_ ?_ ?_ r4 ?_; exact rfl; exact rfl; exact rfl; exact rfl; exact rfl))
          go_end0
          have hsz : b ≤ wa.heap.size := by have := HBA.out.size; have := HBB.out; omega
          have hbb : Below b w w4 := below_up HBA.out HB4.out hsz
          refine ⟨rfl, A', c', ?_, ?_, ?_, ?_, ?_⟩
          · rw [HM.out]; exact HG5.out
          · rw [HM.out]; exact HCP.out
          · exact HRG.out.gb (gb_setCell (World.grownBy.refl w4 (some g)) 2 _) (fun a e h => by injection h with h; have := HA'.out a e; omega)
          · intro a e; have := HA'.out a e; have := HBB.out; omega
          · exact gb_setCell ⟨hbb.os, hbb.tape, hbb.output, hbb.size, fun i hi _ => hbb.block i (by have := HBB.out; omega)⟩ 2 _
      · obtain ⟨gs, o, rfl⟩ := HA0.out a rfl
        by_cases hck : c = k
        · have HCK := hide hck
          clear hck
          go_wp2_with fail
          go_quiet (fail)
          obtain ⟨nq1, hnq1⟩ : ∃ z, z = nq := ⟨_, rfl⟩
          subst hnq1
          go_wp2_with fail
          go_quiet (fail)
          go_wp2_with fail
          have HRB := hide (show Below wa.heap.size wa ((((wa.drewN q).drewN nq1).drewN nq).drew) from (below_drewN (below_drewN (below_drewN (Below.refl wa.heap.size wa) _) _) _).drew)
          have hbl : b < wa.heap.size := (Array.getElem?_eq_some_iff.1 HNW.out).1
          have hgl2 : g < wa.heap.size := (Array.getElem?_eq_some_iff.1 HRA.out.heap).1
          have hx1 : wa.cell? ⟨b, 1, none⟩ = some (.bool xc.dir) := cellOf HNW.out (j := 1) rfl
          have hx2 : wa.cell? ⟨b, 2, none⟩ = some (.slice xd xc.data.length xa) := cellOf HNW.out (j := 2) rfl
          have hx3 : wa.cell? ⟨b, 3, none⟩ = some (.int .i64 xc.time) := cellOf HNW.out (j := 3) rfl
          have hs2 : ∀ W, Below wa.heap.size wa W → (fun w' => w'.cell? ⟨g, 2, none⟩ = some (.slice (some ⟨gs, o, none⟩) k c) ∧ w'.cell? ⟨b, 0, none⟩ = some (.string xs) ∧ w'.cell? ⟨b, 1, none⟩ = some (.bool xc.dir) ∧ w'.cell? ⟨b, 2, none⟩ = some (.slice xd xc.data.length xa) ∧ w'.cell? ⟨b, 3, none⟩ = some (.int .i64 xc.time)) W := fun W h => ⟨(h.cell (p := ⟨g, 2, none⟩) hgl2).trans hc2, (h.cell (p := ⟨b, 0, none⟩) hbl).trans hx0, (h.cell (p := ⟨b, 1, none⟩) hbl).trans hx1, (h.cell (p := ⟨b, 2, none⟩) hbl).trans hx2, (h.cell (p := ⟨b, 3, none⟩) hbl).trans hx3⟩
          have HS2 := hide hs2
          clear hs2
          refine wp_region_held_drew (S := fun w' => w'.cell? ⟨g, 2, none⟩ = some (.slice (some ⟨gs, o, none⟩) k c) ∧ w'.cell? ⟨b, 0, none⟩ = some (.string xs) ∧ w'.cell? ⟨b, 1, none⟩ = some (.bool xc.dir) ∧ w'.cell? ⟨b, 2, none⟩ = some (.slice xd xc.data.length xa) ∧ w'.cell? ⟨b, 3, none⟩ = some (.int .i64 xc.time)) (by kernel_rfl) (HS2.out _ HRB.out) (fun hHeld => ?_)
          refine wpAnyH_tk (i := 0) (oi := _) (v := ?vD0) rfl rfl (by kernel_rfl) (by kernel_rfl) (by kernel_rfl) (fun _ _ _ h => h) (Or.inl ⟨by kernel_rfl, ?yD0⟩) (by assumption) ?rD0
          case yD0 =>
            intro w hSw
            (try dsimp only at hSw)
            go_simp
            try with_reducible rfl
          try simp only [List.setIfInBounds_toArray, List.set_cons_zero, List.set_cons_succ]
          refine wpAnyH_tk (i := 1) (oi := _) (v := ?vD1) rfl rfl (by kernel_rfl) (by kernel_rfl) (by kernel_rfl) (fun _ _ _ h => h) (Or.inl ⟨by kernel_rfl, ?yD1⟩) (by assumption) ?rD1
          case yD1 =>
            intro w hSw
            (try dsimp only at hSw)
            go_simp
            try with_reducible rfl
          try simp only [List.setIfInBounds_toArray, List.set_cons_zero, List.set_cons_succ]
          refine wpAnyH_tk (i := 2) (oi := _) (v := ?vD2) rfl rfl (by kernel_rfl) (by kernel_rfl) (by kernel_rfl) (fun _ _ _ h => h) (Or.inl ⟨by kernel_rfl, ?yD2⟩) (by assumption) ?rD2
          case yD2 =>
            intro w hSw
            (try dsimp only at hSw)
            go_simp
            try with_reducible rfl
          try simp only [List.setIfInBounds_toArray, List.set_cons_zero, List.set_cons_succ]
          refine wpAnyH_tk (i := 3) (oi := _) (v := ?vD3) rfl rfl (by kernel_rfl) (by kernel_rfl) (by kernel_rfl) (fun _ _ _ h => h) (Or.inl ⟨by kernel_rfl, ?yD3⟩) (by assumption) ?rD3
          case yD3 =>
            intro w hSw
            (try dsimp only at hSw)
            go_simp
            try with_reducible rfl
          try simp only [List.setIfInBounds_toArray, List.set_cons_zero, List.set_cons_succ]
          refine wpAnyH_tk (i := 4) (oi := _) (v := ?vD4) rfl rfl (by kernel_rfl) (by kernel_rfl) (by kernel_rfl) (fun _ _ _ h => h) (Or.inl ⟨by kernel_rfl, ?yD4⟩) (by assumption) ?rD4
          case yD4 =>
            intro w hSw
            (try dsimp only at hSw)
            go_simp
            try with_reducible rfl
          try simp only [List.setIfInBounds_toArray, List.set_cons_zero, List.set_cons_succ]
          refine wpAnyH_tk (i := 5) (oi := _) (v := ?vD5) rfl rfl (by kernel_rfl) (by kernel_rfl) (by kernel_rfl) (fun _ _ _ h => h) (Or.inl ⟨by kernel_rfl, ?yD5⟩) (by assumption) ?rD5
          case yD5 =>
            intro w hSw
            (try dsimp only at hSw)
            go_simp
            try with_reducible rfl
          try simp only [List.setIfInBounds_toArray, List.set_cons_zero, List.set_cons_succ]
          refine wpAnyH_tk (i := 7) (oi := _) (v := ?vD7) rfl rfl (by kernel_rfl) (by kernel_rfl) (by kernel_rfl) (fun _ _ _ h => h) (Or.inl ⟨by kernel_rfl, ?yD7⟩) (by assumption) ?rD7
          case yD7 =>
            intro w hSw
            (try dsimp only at hSw)
            go_simp
            try with_reducible rfl
          try simp only [List.setIfInBounds_toArray, List.set_cons_zero, List.set_cons_succ]
          refine wpAnyH_ready (rs := [6, 8]) (by kernel_rfl) (by simp) ?_
          refine AllReadyH.cons (o := _) rfl (fun K hK => ?Dway1) (AllReadyH.cons (o := _) rfl (fun K hK => ?Dway2) AllReadyH.nil)
          case Dway1 =>
            obtain ⟨v2, w2, v3, w3, v4, w4, r2, r3, r4, ho4, hb2, hb3, hb4⟩ := putN_chain ((((wa.drewN q).drewN nq1).drewN nq).drew) (some ⟨gs, o, none⟩) (some ⟨gs, o, none⟩) c (c - (k)) (P.take k) (P.drop (k)) (xs, ⟨xd, xa, xc⟩) #[.string xs, .bool xc.dir, .slice xd xc.data.length xa, .int .i64 xc.time] rfl (HDE.out _ _ HRB.out) (HTK.out _ HRB.out) (by simp only [List.length_take, List.length_drop]; have := HN.out; omega)
            rw [show (P.drop (k)).length = 0 by rw [List.length_drop, HN.out]; omega] at r4
            rw [show (P.take k).length = k by rw [List.length_take, HN.out]; omega] at r2
            have HB2 := hide (show Below wa.heap.size wa w2 from below_up HRB.out hb2 HRB.out.size)
            have HB3 := hide (show Below wa.heap.size wa w3 from below_up HRB.out hb3 HRB.out.size)
            have HB4 := hide (show Below wa.heap.size wa w4 from below_up HRB.out hb4 HRB.out.size)
            have ho5 := ho4.base (base' := wa.heap.size) (Nat.le_refl _)
            rw [← HQ.out] at ho5
            obtain ⟨A', c', rfl, hcp, hrg, hob, _⟩ := ho5.slice encE_len
            have HA' := hide (show ∀ a, A' = some a → wa.heap.size ≤ a.block from fun a e => (ho5.lt _ (hob a e)).1)
            have HCP := hide hcp
            have HRG := hide hrg
            clear ho4 ho5 hb2 hb3 hb4 hob hcp hrg
            refine step_app_run rfl _ _ rfl rfl rfl rfl r2 ?_
            refine hK.out _ _ (HS2.out _ HB2.out) (fun _ => ?_)
            clear hK K
            try simp only [Act.put, List.setIfInBounds_toArray, List.set_cons_zero, List.set_cons_succ]
            refine wpAnyH_ready (rs := [8]) (by kernel_rfl) (by simp) ?_
            refine AllReadyH.cons (o := _) rfl (fun K hK => ?_) AllReadyH.nil
            rw [if_pos (by kernel_rfl)]
            go_simp
            refine hK.out _ _ (HS2.out _ (HB2.out.alloc HB2.out.size _)) (fun _ => ?_)
            clear hK K
            try simp only [Act.put, List.setIfInBounds_toArray, List.set_cons_zero, List.set_cons_succ]
            refine wpAnyH_ready (rs := [9]) (by kernel_rfl) (by simp) ?_
            refine AllReadyH.cons (o := _) rfl (fun K hK => ?_) AllReadyH.nil
            refine step_app_run rfl _ _ rfl rfl rfl rfl r3 ?_
            refine hK.out _ _ (HS2.out _ HB3.out) (fun _ => ?_)
            clear hK K
            try simp only [Act.put, List.setIfInBounds_toArray, List.set_cons_zero, List.set_cons_succ]
            refine wpAnyH_tk (i := 10) (oi := _) (v := ?vDx10) rfl rfl (by kernel_rfl) (by kernel_rfl) (by kernel_rfl) (fun _ _ _ h => h) (Or.inl ⟨by kernel_rfl, ?yDx10⟩) (by assumption) ?rDx10
            case yDx10 =>
              intro w hSw
              (try dsimp only at hSw)
              go_simp
              try with_reducible rfl
            try simp only [List.setIfInBounds_toArray, List.set_cons_zero, List.set_cons_succ]
            refine wpAnyH_done (by kernel_rfl) ?_ _
            have hck2 : (c = k) = True := eq_true HCK.out
            have hd2 := (HS2.out w3 HB3.out).1
            have hg4 := (HB4.out.block g hgl2).trans HRA.out.heap
            rw [HN.out] at hg4
            have hf4 := freeOf hg4 2
            have hcc4 := cellOf hg4 (j := 2) (v := .slice (some ⟨gs, o, none⟩) k c) rfl
            have HG5 := hide (heapSet (j := 2) hg4 (.slice A' (putG ((xs, ⟨xd, xa, xc⟩) : NV) P).length c'))
            obtain ⟨M, hM⟩ : ∃ m, (putG ((xs, ⟨xd, xa, xc⟩) : NV) P).length = m := ⟨_, rfl⟩
            rw [hM] at r4 HG5 HCP
            have HM := hide hM
            clear hg4 hM
            go_wp2_with (first | (at_builtin; refine wpList_app_run ?_ (.tmp 63) (.tmp 69) ?_ ?_ ?_ ?_ r4 ?_; exact rfl; exact rfl; exact rfl; exact rfl; exact rfl))
            go_end0
            have hsz : b ≤ wa.heap.size := by have := HBA.out.size; have := HBB.out; omega
            have hbb : Below b w w4 := below_up HBA.out HB4.out hsz
            refine ⟨rfl, A', c', ?_, ?_, ?_, ?_, ?_⟩
            · rw [HM.out]; exact HG5.out
            · rw [HM.out]; exact HCP.out
            · exact HRG.out.gb (gb_setCell (World.grownBy.refl w4 (some g)) 2 _) (fun a e h => by injection h with h; have := HA'.out a e; omega)
            · intro a e; have := HA'.out a e; have := HBB.out; omega
            · exact gb_setCell ⟨hbb.os, hbb.tape, hbb.output, hbb.size, fun i hi _ => hbb.block i (by have := HBB.out; omega)⟩ 2 _
          case Dway2 =>
            have HRB := hide (below_drewN (Below.refl wa.heap.size wa) (q + nq1 + nq + 1))
            obtain ⟨v2, w2, v3, w3, v4, w4, r2, r3, r4, ho4, hb2, hb3, hb4⟩ := putN_chain2 (wa.drewN (q + nq1 + nq + 1)) (some ⟨gs, o, none⟩) (some ⟨gs, o, none⟩) c (c - (k)) (P.take k) (P.drop (k)) (xs, ⟨xd, xa, xc⟩) #[.string xs, .bool xc.dir, .slice xd xc.data.length xa, .int .i64 xc.time] rfl (HDE.out _ _ HRB.out) (HTK.out _ HRB.out) (by simp only [List.length_take, List.length_drop]; have := HN.out; omega)
            rw [show (P.drop (k)).length = 0 by rw [List.length_drop, HN.out]; omega] at r4
            rw [show (P.take k).length = k by rw [List.length_take, HN.out]; omega] at r2
            have HB2 := hide (show Below wa.heap.size wa w2 from below_up HRB.out hb2 HRB.out.size)
            have HB3 := hide (show Below wa.heap.size wa w3 from below_up HRB.out hb3 HRB.out.size)
            have HB4 := hide (show Below wa.heap.size wa w4 from below_up HRB.out hb4 HRB.out.size)
            have ho5 := ho4.base (base' := wa.heap.size) (Nat.le_refl _)
            rw [← HQ.out] at ho5
            obtain ⟨A', c', rfl, hcp, hrg, hob, _⟩ := ho5.slice encE_len
            have HA' := hide (show ∀ a, A' = some a → wa.heap.size ≤ a.block from fun a e => (ho5.lt _ (hob a e)).1)
            have HCP := hide hcp
            have HRG := hide hrg
            clear ho4 ho5 hb2 hb3 hb4 hob hcp hrg
            rw [if_pos (by kernel_rfl)]
            go_simp
            refine hK.out _ _ (HS2.out _ (HRB.out.alloc HRB.out.size _)) (fun _ => ?_)
            clear hK K
            try simp only [Act.put, List.setIfInBounds_toArray, List.set_cons_zero, List.set_cons_succ]
            refine wpAnyH_ready (rs := [6]) (by kernel_rfl) (by simp) ?_
            refine AllReadyH.cons (o := _) rfl (fun K hK => ?_) AllReadyH.nil
            refine step_app_run rfl _ _ rfl rfl rfl rfl r2 ?_
            refine hK.out _ _ (HS2.out _ HB2.out) (fun _ => ?_)
            clear hK K
            try simp only [Act.put, List.setIfInBounds_toArray, List.set_cons_zero, List.set_cons_succ]
            refine wpAnyH_ready (rs := [9]) (by kernel_rfl) (by simp) ?_
            refine AllReadyH.cons (o := _) rfl (fun K hK => ?_) AllReadyH.nil
            refine step_app_run rfl _ _ rfl rfl rfl rfl r3 ?_
            refine hK.out _ _ (HS2.out _ HB3.out) (fun _ => ?_)
            clear hK K
            try simp only [Act.put, List.setIfInBounds_toArray, List.set_cons_zero, List.set_cons_succ]
            refine wpAnyH_tk (i := 10) (oi := _) (v := ?vDy10) rfl rfl (by kernel_rfl) (by kernel_rfl) (by kernel_rfl) (fun _ _ _ h => h) (Or.inl ⟨by kernel_rfl, ?yDy10⟩) (by assumption) ?rDy10
            case yDy10 =>
              intro w hSw
              (try dsimp only at hSw)
              go_simp
              try with_reducible rfl
            try simp only [List.setIfInBounds_toArray, List.set_cons_zero, List.set_cons_succ]
            refine wpAnyH_done (by kernel_rfl) ?_ _
            have hck2 : (c = k) = True := eq_true HCK.out
            have hd2 := (HS2.out w3 HB3.out).1
            have hg4 := (HB4.out.block g hgl2).trans HRA.out.heap
            rw [HN.out] at hg4
            have hf4 := freeOf hg4 2
            have hcc4 := cellOf hg4 (j := 2) (v := .slice (some ⟨gs, o, none⟩) k c) rfl
            have HG5 := hide (heapSet (j := 2) hg4 (.slice A' (putG ((xs, ⟨xd, xa, xc⟩) : NV) P).length c'))
            obtain ⟨M, hM⟩ : ∃ m, (putG ((xs, ⟨xd, xa, xc⟩) : NV) P).length = m := ⟨_, rfl⟩
            rw [hM] at r4 HG5 HCP
            have HM := hide hM
            clear hg4 hM
            go_wp2_with (first | (at_builtin; refine wpList_app_run ?_ (.tmp 63) (.tmp 69) ?_ ?_ ?_ ?_ r4 ?_; exact rfl; exact rfl; exact rfl; exact rfl; exact rfl))
            go_end0
            have hsz : b ≤ wa.heap.size := by have := HBA.out.size; have := HBB.out; omega
            have hbb : Below b w w4 := below_up HBA.out HB4.out hsz
            refine ⟨rfl, A', c', ?_, ?_, ?_, ?_, ?_⟩
            · rw [HM.out]; exact HG5.out
            · rw [HM.out]; exact HCP.out
            · exact HRG.out.gb (gb_setCell (World.grownBy.refl w4 (some g)) 2 _) (fun a e h => by injection h with h; have := HA'.out a e; omega)
            · intro a e; have := HA'.out a e; have := HBB.out; omega
            · exact gb_setCell ⟨hbb.os, hbb.tape, hbb.output, hbb.size, fun i hi _ => hbb.block i (by have := HBB.out; omega)⟩ 2 _
        · skip
          go_wp2_with fail
          go_quiet (fail)
          obtain ⟨nq1, hnq1⟩ : ∃ z, z = nq := ⟨_, rfl⟩
          subst hnq1
          go_wp2_with fail
          go_quiet (fail)
          go_wp2_with fail
          have HRB := hide (show Below wa.heap.size wa ((((wa.drewN q).drewN nq1).drewN nq).drew) from (below_drewN (below_drewN (below_drewN (Below.refl wa.heap.size wa) _) _) _).drew)
          have hbl : b < wa.heap.size := (Array.getElem?_eq_some_iff.1 HNW.out).1
          have hgl2 : g < wa.heap.size := (Array.getElem?_eq_some_iff.1 HRA.out.heap).1
          have hx1 : wa.cell? ⟨b, 1, none⟩ = some (.bool xc.dir) := cellOf HNW.out (j := 1) rfl
          have hx2 : wa.cell? ⟨b, 2, none⟩ = some (.slice xd xc.data.length xa) := cellOf HNW.out (j := 2) rfl
          have hx3 : wa.cell? ⟨b, 3, none⟩ = some (.int .i64 xc.time) := cellOf HNW.out (j := 3) rfl
          have hs2 : ∀ W, Below wa.heap.size wa W → (fun w' => w'.cell? ⟨g, 2, none⟩ = some (.slice (some ⟨gs, o, none⟩) k c) ∧ w'.cell? ⟨b, 0, none⟩ = some (.string xs) ∧ w'.cell? ⟨b, 1, none⟩ = some (.bool xc.dir) ∧ w'.cell? ⟨b, 2, none⟩ = some (.slice xd xc.data.length xa) ∧ w'.cell? ⟨b, 3, none⟩ = some (.int .i64 xc.time)) W := fun W h => ⟨(h.cell (p := ⟨g, 2, none⟩) hgl2).trans hc2, (h.cell (p := ⟨b, 0, none⟩) hbl).trans hx0, (h.cell (p := ⟨b, 1, none⟩) hbl).trans hx1, (h.cell (p := ⟨b, 2, none⟩) hbl).trans hx2, (h.cell (p := ⟨b, 3, none⟩) hbl).trans hx3⟩
          have HS2 := hide hs2
          clear hs2
          refine wp_region_held_drew (S := fun w' => w'.cell? ⟨g, 2, none⟩ = some (.slice (some ⟨gs, o, none⟩) k c) ∧ w'.cell? ⟨b, 0, none⟩ = some (.string xs) ∧ w'.cell? ⟨b, 1, none⟩ = some (.bool xc.dir) ∧ w'.cell? ⟨b, 2, none⟩ = some (.slice xd xc.data.length xa) ∧ w'.cell? ⟨b, 3, none⟩ = some (.int .i64 xc.time)) (by kernel_rfl) (HS2.out _ HRB.out) (fun hHeld => ?_)
          refine wpAnyH_tk (i := 0) (oi := _) (v := ?vE0) rfl rfl (by kernel_rfl) (by kernel_rfl) (by kernel_rfl) (fun _ _ _ h => h) (Or.inl ⟨by kernel_rfl, ?yE0⟩) (by assumption) ?rE0
          case yE0 =>
            intro w hSw
            (try dsimp only at hSw)
            go_simp
            try with_reducible rfl
          try simp only [List.setIfInBounds_toArray, List.set_cons_zero, List.set_cons_succ]
          refine wpAnyH_tk (i := 1) (oi := _) (v := ?vE1) rfl rfl (by kernel_rfl) (by kernel_rfl) (by kernel_rfl) (fun _ _ _ h => h) (Or.inl ⟨by kernel_rfl, ?yE1⟩) (by assumption) ?rE1
          case yE1 =>
            intro w hSw
            (try dsimp only at hSw)
            go_simp
            try with_reducible rfl
          try simp only [List.setIfInBounds_toArray, List.set_cons_zero, List.set_cons_succ]
          refine wpAnyH_tk (i := 2) (oi := _) (v := ?vE2) rfl rfl (by kernel_rfl) (by kernel_rfl) (by kernel_rfl) (fun _ _ _ h => h) (Or.inl ⟨by kernel_rfl, ?yE2⟩) (by assumption) ?rE2
          case yE2 =>
            intro w hSw
            (try dsimp only at hSw)
            go_simp
            try with_reducible rfl
          try simp only [List.setIfInBounds_toArray, List.set_cons_zero, List.set_cons_succ]
          refine wpAnyH_tk (i := 3) (oi := _) (v := ?vE3) rfl rfl (by kernel_rfl) (by kernel_rfl) (by kernel_rfl) (fun _ _ _ h => h) (Or.inl ⟨by kernel_rfl, ?yE3⟩) (by assumption) ?rE3
          case yE3 =>
            intro w hSw
            (try dsimp only at hSw)
            go_simp
            try with_reducible rfl
          try simp only [List.setIfInBounds_toArray, List.set_cons_zero, List.set_cons_succ]
          refine wpAnyH_tk (i := 4) (oi := _) (v := ?vE4) rfl rfl (by kernel_rfl) (by kernel_rfl) (by kernel_rfl) (fun _ _ _ h => h) (Or.inl ⟨by kernel_rfl, ?yE4⟩) (by assumption) ?rE4
          case yE4 =>
            intro w hSw
            (try dsimp only at hSw)
            go_simp
            try with_reducible rfl
          try simp only [List.setIfInBounds_toArray, List.set_cons_zero, List.set_cons_succ]
          refine wpAnyH_tk (i := 5) (oi := _) (v := ?vE5) rfl rfl (by kernel_rfl) (by kernel_rfl) (by kernel_rfl) (fun _ _ _ h => h) (Or.inl ⟨by kernel_rfl, ?yE5⟩) (by assumption) ?rE5
          case yE5 =>
            intro w hSw
            (try dsimp only at hSw)
            go_simp
            try with_reducible rfl
          try simp only [List.setIfInBounds_toArray, List.set_cons_zero, List.set_cons_succ]
          refine wpAnyH_tk (i := 7) (oi := _) (v := ?vE7) rfl rfl (by kernel_rfl) (by kernel_rfl) (by kernel_rfl) (fun _ _ _ h => h) (Or.inl ⟨by kernel_rfl, ?yE7⟩) (by assumption) ?rE7
          case yE7 =>
            intro w hSw
            (try dsimp only at hSw)
            go_simp
            try with_reducible rfl
          try simp only [List.setIfInBounds_toArray, List.set_cons_zero, List.set_cons_succ]
          refine wpAnyH_ready (rs := [6, 8]) (by kernel_rfl) (by simp) ?_
          refine AllReadyH.cons (o := _) rfl (fun K hK => ?Eway1) (AllReadyH.cons (o := _) rfl (fun K hK => ?Eway2) AllReadyH.nil)
          case Eway1 =>
            obtain ⟨v2, w2, v3, w3, v4, w4, r2, r3, r4, ho4, hb2, hb3, hb4⟩ := putN_chain ((((wa.drewN q).drewN nq1).drewN nq).drew) (some ⟨gs, o, none⟩) (some ⟨gs, o + k * 4, none⟩) c (c - (k)) (P.take k) (P.drop (k)) (xs, ⟨xd, xa, xc⟩) #[.string xs, .bool xc.dir, .slice xd xc.data.length xa, .int .i64 xc.time] rfl (HDE.out _ _ HRB.out) (HTK.out _ HRB.out) (by simp only [List.length_take, List.length_drop]; have := HN.out; omega)
            rw [show (P.drop (k)).length = 0 by rw [List.length_drop, HN.out]; omega] at r4
            rw [show (P.take k).length = k by rw [List.length_take, HN.out]; omega] at r2
            have HB2 := hide (show Below wa.heap.size wa w2 from below_up HRB.out hb2 HRB.out.size)
            have HB3 := hide (show Below wa.heap.size wa w3 from below_up HRB.out hb3 HRB.out.size)
            have HB4 := hide (show Below wa.heap.size wa w4 from below_up HRB.out hb4 HRB.out.size)
            have ho5 := ho4.base (base' := wa.heap.size) (Nat.le_refl _)
            rw [← HQ.out] at ho5
            obtain ⟨A', c', rfl, hcp, hrg, hob, _⟩ := ho5.slice encE_len
            have HA' := hide (show ∀ a, A' = some a → wa.heap.size ≤ a.block from fun a e => (ho5.lt _ (hob a e)).1)
            have HCP := hide hcp
            have HRG := hide hrg
            clear ho4 ho5 hb2 hb3 hb4 hob hcp hrg
            refine step_app_run rfl _ _ rfl rfl rfl rfl r2 ?_
            refine hK.out _ _ (HS2.out _ HB2.out) (fun _ => ?_)
            clear hK K
            try simp only [Act.put, List.setIfInBounds_toArray, List.set_cons_zero, List.set_cons_succ]
            refine wpAnyH_ready (rs := [8]) (by kernel_rfl) (by simp) ?_
            refine AllReadyH.cons (o := _) rfl (fun K hK => ?_) AllReadyH.nil
            rw [if_pos (by kernel_rfl)]
            go_simp
            refine hK.out _ _ (HS2.out _ (HB2.out.alloc HB2.out.size _)) (fun _ => ?_)
            clear hK K
            try simp only [Act.put, List.setIfInBounds_toArray, List.set_cons_zero, List.set_cons_succ]
            refine wpAnyH_ready (rs := [9]) (by kernel_rfl) (by simp) ?_
            refine AllReadyH.cons (o := _) rfl (fun K hK => ?_) AllReadyH.nil
            refine step_app_run rfl _ _ rfl rfl rfl rfl r3 ?_
            refine hK.out _ _ (HS2.out _ HB3.out) (fun _ => ?_)
            clear hK K
            try simp only [Act.put, List.setIfInBounds_toArray, List.set_cons_zero, List.set_cons_succ]
            refine wpAnyH_tk (i := 10) (oi := _) (v := ?vEx10) rfl rfl (by kernel_rfl) (by kernel_rfl) (by kernel_rfl) (fun _ _ _ h => h) (Or.inl ⟨by kernel_rfl, ?yEx10⟩) (by assumption) ?rEx10
            case yEx10 =>
              intro w hSw
              (try dsimp only at hSw)
              go_simp
              try with_reducible rfl
            try simp only [List.setIfInBounds_toArray, List.set_cons_zero, List.set_cons_succ]
            refine wpAnyH_done (by kernel_rfl) ?_ _
            have hd2 := (HS2.out w3 HB3.out).1
            have hg4 := (HB4.out.block g hgl2).trans HRA.out.heap
            rw [HN.out] at hg4
            have hf4 := freeOf hg4 2
            have hcc4 := cellOf hg4 (j := 2) (v := .slice (some ⟨gs, o, none⟩) k c) rfl
            have HG5 := hide (heapSet (j := 2) hg4 (.slice A' (putG ((xs, ⟨xd, xa, xc⟩) : NV) P).length c'))
            obtain ⟨M, hM⟩ : ∃ m, (putG ((xs, ⟨xd, xa, xc⟩) : NV) P).length = m := ⟨_, rfl⟩
            rw [hM] at r4 HG5 HCP
            have HM := hide hM
            clear hg4 hM
            go_wp2_with (first | (at_builtin; refine wpList_app_run ?_ (.tmp 63) (.tmp 69) ?_ ?_ ?_ ?_ r4 ?_; exact rfl; exact rfl; exact rfl; exact rfl; exact rfl))
            go_end0
            have hsz : b ≤ wa.heap.size := by have := HBA.out.size; have := HBB.out; omega
            have hbb : Below b w w4 := below_up HBA.out HB4.out hsz
            refine ⟨rfl, A', c', ?_, ?_, ?_, ?_, ?_⟩
            · rw [HM.out]; exact HG5.out
            · rw [HM.out]; exact HCP.out
            · exact HRG.out.gb (gb_setCell (World.grownBy.refl w4 (some g)) 2 _) (fun a e h => by injection h with h; have := HA'.out a e; omega)
            · intro a e; have := HA'.out a e; have := HBB.out; omega
            · exact gb_setCell ⟨hbb.os, hbb.tape, hbb.output, hbb.size, fun i hi _ => hbb.block i (by have := HBB.out; omega)⟩ 2 _
          case Eway2 =>
            have HRB := hide (below_drewN (Below.refl wa.heap.size wa) (q + nq1 + nq + 1))
            obtain ⟨v2, w2, v3, w3, v4, w4, r2, r3, r4, ho4, hb2, hb3, hb4⟩ := putN_chain2 (wa.drewN (q + nq1 + nq + 1)) (some ⟨gs, o, none⟩) (some ⟨gs, o + k * 4, none⟩) c (c - (k)) (P.take k) (P.drop (k)) (xs, ⟨xd, xa, xc⟩) #[.string xs, .bool xc.dir, .slice xd xc.data.length xa, .int .i64 xc.time] rfl (HDE.out _ _ HRB.out) (HTK.out _ HRB.out) (by simp only [List.length_take, List.length_drop]; have := HN.out; omega)
            rw [show (P.drop (k)).length = 0 by rw [List.length_drop, HN.out]; omega] at r4
            rw [show (P.take k).length = k by rw [List.length_take, HN.out]; omega] at r2
            have HB2 := hide (show Below wa.heap.size wa w2 from below_up HRB.out hb2 HRB.out.size)
            have HB3 := hide (show Below wa.heap.size wa w3 from below_up HRB.out hb3 HRB.out.size)
            have HB4 := hide (show Below wa.heap.size wa w4 from below_up HRB.out hb4 HRB.out.size)
            have ho5 := ho4.base (base' := wa.heap.size) (Nat.le_refl _)
            rw [← HQ.out] at ho5
            obtain ⟨A', c', rfl, hcp, hrg, hob, _⟩ := ho5.slice encE_len
            have HA' := hide (show ∀ a, A' = some a → wa.heap.size ≤ a.block from fun a e => (ho5.lt _ (hob a e)).1)
            have HCP := hide hcp
            have HRG := hide hrg
            clear ho4 ho5 hb2 hb3 hb4 hob hcp hrg
            rw [if_pos (by kernel_rfl)]
            go_simp
            refine hK.out _ _ (HS2.out _ (HRB.out.alloc HRB.out.size _)) (fun _ => ?_)
            clear hK K
            try simp only [Act.put, List.setIfInBounds_toArray, List.set_cons_zero, List.set_cons_succ]
            refine wpAnyH_ready (rs := [6]) (by kernel_rfl) (by simp) ?_
            refine AllReadyH.cons (o := _) rfl (fun K hK => ?_) AllReadyH.nil
            refine step_app_run rfl _ _ rfl rfl rfl rfl r2 ?_
            refine hK.out _ _ (HS2.out _ HB2.out) (fun _ => ?_)
            clear hK K
            try simp only [Act.put, List.setIfInBounds_toArray, List.set_cons_zero, List.set_cons_succ]
            refine wpAnyH_ready (rs := [9]) (by kernel_rfl) (by simp) ?_
            refine AllReadyH.cons (o := _) rfl (fun K hK => ?_) AllReadyH.nil
            refine step_app_run rfl _ _ rfl rfl rfl rfl r3 ?_
            refine hK.out _ _ (HS2.out _ HB3.out) (fun _ => ?_)
            clear hK K
            try simp only [Act.put, List.setIfInBounds_toArray, List.set_cons_zero, List.set_cons_succ]
            refine wpAnyH_tk (i := 10) (oi := _) (v := ?vEy10) rfl rfl (by kernel_rfl) (by kernel_rfl) (by kernel_rfl) (fun _ _ _ h => h) (Or.inl ⟨by kernel_rfl, ?yEy10⟩) (by assumption) ?rEy10
            case yEy10 =>
              intro w hSw
              (try dsimp only at hSw)
              go_simp
              try with_reducible rfl
            try simp only [List.setIfInBounds_toArray, List.set_cons_zero, List.set_cons_succ]
            refine wpAnyH_done (by kernel_rfl) ?_ _
            have hd2 := (HS2.out w3 HB3.out).1
            have hg4 := (HB4.out.block g hgl2).trans HRA.out.heap
            rw [HN.out] at hg4
            have hf4 := freeOf hg4 2
            have hcc4 := cellOf hg4 (j := 2) (v := .slice (some ⟨gs, o, none⟩) k c) rfl
            have HG5 := hide (heapSet (j := 2) hg4 (.slice A' (putG ((xs, ⟨xd, xa, xc⟩) : NV) P).length c'))
            obtain ⟨M, hM⟩ : ∃ m, (putG ((xs, ⟨xd, xa, xc⟩) : NV) P).length = m := ⟨_, rfl⟩
            rw [hM] at r4 HG5 HCP
            have HM := hide hM
            clear hg4 hM
            go_wp2_with (first | (at_builtin; refine wpList_app_run ?_ (.tmp 63) (.tmp 69) ?_ ?_ ?_ ?_ r4 ?_; exact rfl; exact rfl; exact rfl; exact rfl; exact rfl))
            go_end0
            have hsz : b ≤ wa.heap.size := by have := HBA.out.size; have := HBB.out; omega
            have hbb : Below b w w4 := below_up HBA.out HB4.out hsz
            refine ⟨rfl, A', c', ?_, ?_, ?_, ?_, ?_⟩
            · rw [HM.out]; exact HG5.out
            · rw [HM.out]; exact HCP.out
            · exact HRG.out.gb (gb_setCell (World.grownBy.refl w4 (some g)) 2 _) (fun a e h => by injection h with h; have := HA'.out a e; omega)
            · intro a e; have := HA'.out a e; have := HBB.out; omega
            · exact gb_setCell ⟨hbb.os, hbb.tape, hbb.output, hbb.size, fun i hi _ => hbb.block i (by have := HBB.out; omega)⟩ 2 _
end Go.Proofs.YtkajhdbcnmafcaaGreatDoor
