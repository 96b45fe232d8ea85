/- Texts of mine, joined (VfsRefE, VfsRefH, VfsRefI): walks and plain facts that the claim uses, each as its own comment says. -/
import Derived.Test.YtaajofojbhdgaaaGreatDoorPTraceTellsProof1
import Derived.BigQuiet
/- Walk of the reference's put. -/
namespace Go.Proofs.YtaajofojbhdgaaaGreatDoor
open Go.RowKit Go.Deep Go.Maps Ln Pth Vf
set_option linter.unusedSimpArgs false
set_option linter.unusedVariables false
attribute [local go_sem] bt_eq

def rowN : RowT Tryz.prog 101 135 4 := { z := .agg #[.string ⟨#[]⟩, .bool false, .slice none 0 0, .int .i64 0], bytes := 56, und := Tryz.underlying101, info := by kernel_rfl, zlen := rfl, pos := by omega, sb := by omega }
theorem putG_at {α : Type} {x : ByteArray × α} : ∀ (L : KV α) (k : Nat), k ≤ L.length → (∀ j y, j < k → L[j]? = some y → sLt y.1 x.1 = true) → (∀ y, L[k]? = some y → sLt y.1 x.1 = false) →
    putG x L = L.take k ++ [x] ++ L.drop (match L[k]? with | some y => if y.1 = x.1 then k + 1 else k | none => k)
  | [], k, hk, _, _ => by
    obtain rfl : k = 0 := by simpa using hk
    rfl
  | y :: L, 0, hk, h1, h2 => by
    have := h2 y rfl
    rw [putG, if_neg (by rw [this]; simp)]
    simp only [List.getElem?_cons_zero]
    split <;> simp
  | y :: L, k + 1, hk, h1, h2 => by
    rw [putG, if_pos (h1 0 y (by omega) rfl), putG_at L k (by simpa using hk) (fun j z hj hz => h1 (j + 1) z (by omega) (by simpa using hz)) (fun z hz => h2 z (by simpa using hz))]
    simp only [List.getElem?_cons_succ]
    cases L[k]? with
    | none => simp
    | some z => dsimp only; split <;> simp
theorem rg_newN (w : World) (x : NV) (cs : Array Value) (hcs : cs = (encE x).toArray) (t : TypeId) : RG encE 4 (w.alloc (.cells cs t)) (some ⟨w.heap.size, 0, none⟩) [x] := fun k y hk => by
  cases k with
  | zero =>
    simp at hk
    subst hk
    subst hcs
    refine ⟨_, _, rfl, by simp, fun j u hj => ?_⟩
    have hj4 := (List.getElem?_eq_some_iff.1 hj).1
    rw [World.cell?_alloc_at _ _ _ _ (by rfl)]
    simpa using hj
  | succ k => simp at hk
set_option maxRecDepth 100000 in
/-- three appends, one behind the other, in new rows -/
theorem putN_chain (w : World) (A1 A2 : Option Addr) (c1 c2 : Nat) (L1 L2 : List NV) (x : NV) (cs : Array Value) (hcs : cs = (encE x).toArray) (h1 : RG encE 4 w A2 L2) (h2 : RG encE 4 w A1 L1) (hl : L1.length + L2.length ≤ 100000) :
    ∃ v2 w2 v3 w3 v4 w4, (Builtin.append_ #[101, 101] 101 #[.slice none 0 0, .slice A1 L1.length c1]).run Tryz.prog w = .ok v2 w2 ∧
      (Builtin.append_ #[101, 101] 101 #[v2, .slice (some ⟨w2.heap.size, 0, none⟩) 1 1]).run Tryz.prog (w2.alloc (.cells cs 135)) = .ok v3 w3 ∧
      (Builtin.append_ #[101, 101] 101 #[v3, .slice A2 L2.length c2]).run Tryz.prog w3 = .ok v4 w4 ∧ OwnG encE 4 135 w4 w.heap.size v4 (L1 ++ [x] ++ L2) ∧ Below w.heap.size w w2 ∧ Below w.heap.size w w3 ∧ Below w.heap.size w w4 := by
  obtain ⟨v2, w2, r2, o2, g2, b2⟩ := run_appG rowN encE_len encE_one (OwnG.nil w w.heap.size) h2 (Nat.le_refl _) (by simp; omega)
  have hb2 : Below w.heap.size w w2 := Below.of_gb g2 (Nat.le_refl _) (fun k hk => by cases hk)
  have s2 := hb2.size
  simp only [List.nil_append] at o2
  have n2 : ∀ k, v2.ownBlock = some k → w.heap.size ≤ k := fun k hk => (o2.lt k hk).1
  obtain ⟨v3, w3, r3, o3, g3, b3⟩ := run_appG rowN encE_len encE_one (o2.alloc (.cells cs 135)) (rg_newN w2 x cs hcs _) (by simp; omega) (by simp; omega)
  have n3 : ∀ k, v3.ownBlock = some k → w.heap.size ≤ k := fun k hk => (o3.lt k hk).1
  have hb3 : Below w.heap.size w w3 := (hb2.alloc hb2.size _).trans (Below.of_gb g3 (by simp; omega) (fun k hk => n2 k hk))
  have s3 := hb3.size
  obtain ⟨v4, w4, r4, o4, g4, b4⟩ := run_appG rowN encE_len encE_one o3 (h1.below hb3) (by omega) (by simp; omega)
  exact ⟨v2, w2, v3, w3, v4, w4, r2, r3, r4, o4, hb2, hb3, hb3.trans (Below.of_gb g4 s3 n3)⟩
set_option maxRecDepth 100000 in
/-- the same, the new element's block made first -/
theorem putN_chain2 (w : World) (A1 A2 : Option Addr) (c1 c2 : Nat) (L1 L2 : List NV) (x : NV) (cs : Array Value) (hcs : cs = (encE x).toArray) (h1 : RG encE 4 w A2 L2) (h2 : RG encE 4 w A1 L1) (hl : L1.length + L2.length ≤ 100000) :
    ∃ v2 w2 v3 w3 v4 w4, (Builtin.append_ #[101, 101] 101 #[.slice none 0 0, .slice A1 L1.length c1]).run Tryz.prog (w.alloc (.cells cs 135)) = .ok v2 w2 ∧
      (Builtin.append_ #[101, 101] 101 #[v2, .slice (some ⟨w.heap.size, 0, none⟩) 1 1]).run Tryz.prog w2 = .ok v3 w3 ∧
      (Builtin.append_ #[101, 101] 101 #[v3, .slice A2 L2.length c2]).run Tryz.prog w3 = .ok v4 w4 ∧ OwnG encE 4 135 w4 w.heap.size v4 (L1 ++ [x] ++ L2) ∧ Below w.heap.size w w2 ∧ Below w.heap.size w w3 ∧ Below w.heap.size w w4 := by
  have hb1 : Below w.heap.size w (w.alloc (.cells cs 135)) := (Below.refl _ w).alloc (Nat.le_refl _) _
  have hx := rg_newN w x cs hcs 135
  have hz1 := hb1.size
  obtain ⟨w1, hw1⟩ : ∃ W, w.alloc (.cells cs 135) = W := ⟨_, rfl⟩
  rw [hw1] at hb1 hx hz1 ⊢
  obtain ⟨v2, w2, r2, o2, g2, b2⟩ := run_appG rowN encE_len encE_one (OwnG.nil w1 w1.heap.size) (h2.below hb1) (Nat.le_refl _) (by simp; omega)
  have hb12 : Below w1.heap.size w1 w2 := Below.of_gb g2 (Nat.le_refl _) (fun k hk => by cases hk)
  have hb2 : Below w.heap.size w w2 := below_up hb1 hb12 hb1.size
  have s2 := hb12.size
  simp only [List.nil_append] at o2
  have n2 : ∀ k, v2.ownBlock = some k → w.heap.size ≤ k := fun k hk => by have := (o2.lt k hk).1; omega
  obtain ⟨v3, w3, r3, o3, g3, b3⟩ := run_appG rowN encE_len encE_one (o2.base hz1) (hx.below hb12) (by omega) (by simp; omega)
  have n3 : ∀ k, v3.ownBlock = some k → w.heap.size ≤ k := fun k hk => (o3.lt k hk).1
  have hb3 : Below w.heap.size w w3 := hb2.trans (Below.of_gb g3 (by omega) (fun k hk => n2 k hk))
  have s3 := hb3.size
  obtain ⟨v4, w4, r4, o4, g4, b4⟩ := run_appG rowN encE_len encE_one o3 (h1.below hb3) (by omega) (by simp; omega)
  exact ⟨v2, w2, v3, w3, v4, w4, r2, r3, r4, o4, hb2, hb3, hb3.trans (Below.of_gb g4 s3 n3)⟩
theorem RSO.drewN {g : Nat} {S : St} {A : Option Addr} {c : Nat} {P : List NV} {w : World} (h : RSO g S A c P w) (n : Nat) : RSO g S A c P (w.drewN n) := ⟨h.heap, h.cap, h.rg, h.dat, h.eq, h.top, h.neA, h.neD, h.lt⟩
set_option maxRecDepth 100000 in
set_option maxHeartbeats 2000000 in
theorem rput_any (g : Nat) (S : St) (A : Option Addr) (c : Nat) (P : List NV) (x : NV) (w : World) (h : RSO g S A c P w) (hl : P.length ≤ 10000) :
    Calls Tryz.prog 92 #[.pointer (some ⟨g, 0, none⟩), .agg (encE x).toArray] w fun e w' => e = .returned (.tuple #[]) ∧ ∃ A' c', w'.heap[g]? = some (.cells #[.int .i64 S.nodes, .int .i64 S.bytes, .slice A' (putG x P).length c', .int .i64 S.clock] 103) ∧ (putG x P).length ≤ c' ∧ RG encE 4 w' A' (putG x P) ∧ (∀ a, A' = some a → w.heap.size ≤ a.block) ∧ w.grownBy w' (some g) := by
  obtain ⟨n, hn⟩ : ∃ n, P.length = n := ⟨_, rfl⟩
  have HN := hide hn
  have H := hide h
  have hln : n ≤ 10000 := by omega
  have hgl : g < w.heap.size := (Array.getElem?_eq_some_iff.1 h.heap).1
  obtain ⟨xs, xe⟩ := x
  obtain ⟨xd, xa, xc⟩ := xe
  have HA0 := hide h.top
  clear h hl hn
  simp only [encE]
  go_enter Tryz.func92, Tryz.ntmps92
  go_wp2
  obtain ⟨wa, hwa⟩ : ∃ W, w.alloc (.cells #[.string xs, .bool xc.dir, .slice xd xc.data.length xa, .int .i64 xc.time] 135) = W := ⟨_, rfl⟩
  have hnw := heapNew w (.cells #[.string xs, .bool xc.dir, .slice xd xc.data.length xa, .int .i64 xc.time] 135)
  have hba : Below w.heap.size w (w.alloc (.cells #[.string xs, .bool xc.dir, .slice xd xc.data.length xa, .int .i64 xc.time] 135)) := (Below.refl _ w).alloc (Nat.le_refl _) _
  rw [hwa] at hnw hba ⊢
  obtain ⟨b, hb⟩ : ∃ b, w.heap.size = b := ⟨_, rfl⟩
  rw [hb] at hnw hba hgl ⊢
  have hgb : g ≠ b := by omega
  have HNW := hide hnw
  have HBA := hide (show Below b w wa from hba)
  have HRA := hide (show RSO g S A c P wa from H.out.below (by rw [hb]; exact hba))
  have HBB := hide hb
  clear hwa hnw hba hb H
  go_wp2
  go_loopw [4] (fun v4 wr => ∃ k q : Nat, v4 = .int .i64 k ∧ k ≤ n ∧ Hid (∀ j y, j < k → P[j]? = some y → sLt y.1 xs = true) ∧ wr = wa.drewN q) (fun v4 _ => n - (intOf v4).toNat)
  case atStart => exact ⟨0, 0, rfl, by omega, (fun j y hj => by omega), rfl⟩
  case round =>
    obtain ⟨k, q, rfl, hk, HE, rfl⟩ := hrel
    have ho := HRA.out
    have hg := ho.heap
    rw [HN.out] at hg
    have hc2 := cellOf hg (j := 2) (v := .slice A n c) rfl
    have hx0 : wa.cell? ⟨b, 0, none⟩ = some (.string xs) := cellOf HNW.out (j := 0) rfl
    by_cases hlt : k < n
    · obtain ⟨y, hy⟩ : ∃ x, P[k]? = some x := ⟨P[k]'(by have := HN.out; omega), List.getElem?_eq_getElem _⟩
      obtain ⟨gs, o, rfl, hgs, hc⟩ := ho.rg k y hy
      have hc0 : wa.cell? ⟨gs, o + k * 4, none⟩ = some (.string y.1) := by have := hc 0 _ rfl; simpa using this
      have HY := hide hy
      have b1 : (k : Int) < (n : Int) := by omega
      have d1 : decide ((k : Int) < (n : Int)) = true := by simpa using b1
      obtain ⟨ys, hys⟩ : ∃ t, y.1 = t := ⟨_, rfl⟩
      rw [hys] at hc0
      have HYS := hide hys
      have hcl := ho.cap
      rw [HN.out] at hcl
      have HTK := hide (fun (W : World) (h : Below wa.heap.size wa W) => show RG encE 4 W (some ⟨gs, o, none⟩) (P.take k) from (HRA.out.below h).rg.take k)
      have HDR := hide (fun (j : Nat) (W : World) (h : Below wa.heap.size wa W) => show RG encE 4 W (some ⟨gs, o + j * 4, none⟩) (P.drop j) from (HRA.out.below h).rg.drop j)
      have hkc : k ≤ c := by omega
      have HDZ0 := hide (fun (h : c = k + 1) (W : World) (_ : Below wa.heap.size wa W) => show RG encE 4 W (some ⟨gs, o, none⟩) (P.drop (k + 1)) from fun j s hj => by
        rw [List.getElem?_drop, List.getElem?_eq_none (by have := HN.out; omega)] at hj
        cases hj)
      clear ho hg hc hy hys hgs
      cases hs : sLt ys xs with
      | true =>
        have hs2 : Op.bytesLess ys.toList xs.toList = true := hs
        have HS := hide hs
        clear hs
        go_wp2_with fail
        go_quiet (fail)
        go_wp2
        go_roundw
        case rel =>
          refine ⟨k + 1, _, by go_num, by omega, fun j z hj hz => ?_, rfl⟩
          by_cases e : j = k
          · subst e
            rw [HY.out] at hz
            injection hz with hz
            rw [← hz, HYS.out]
            exact HS.out
          · exact HE.out j z (by omega) hz
        case measure => simp [intOf]; omega
      | false =>
        have hs2 : Op.bytesLess ys.toList xs.toList = false := hs
        have HP := hide (putG_at (x := ((xs, ⟨xd, xa, xc⟩) : NV)) P k (by have := HN.out; omega) HE.out (fun z hz => by rw [HY.out] at hz; injection hz with hz; rw [← hz, HYS.out]; exact hs))
        clear hs
        by_cases he : ys = xs
        · have e1 : (ys.toList == xs.toList) = true := by rw [he]; simp
          have HQ := hide (show putG ((xs, ⟨xd, xa, xc⟩) : NV) P = P.take k ++ [(xs, ⟨xd, xa, xc⟩)] ++ P.drop (k + 1) by rw [HP.out, HY.out]; dsimp only; rw [HYS.out, if_pos he])
          clear he HP
          go_wp2_with fail
          go_quiet (fail)
          obtain ⟨nq1, hnq1⟩ : ∃ z, z = nq := ⟨_, rfl⟩
          subst hnq1
          go_wp2_with fail
          go_quiet (fail)
          go_wp2_with fail
          by_cases hck : c = k + 1
          · have HDZ := hide (HDZ0.out hck)
            have HCK := hide hck
            clear hck
            have HRB := hide (show Below wa.heap.size wa ((wa.drewN (q + nq1 + nq)).drew) from (below_drewN (Below.refl wa.heap.size wa) _).drew)
            have hbl : b < wa.heap.size := (Array.getElem?_eq_some_iff.1 HNW.out).1
            have hgl2 : g < wa.heap.size := (Array.getElem?_eq_some_iff.1 HRA.out.heap).1
            have hx1 : wa.cell? ⟨b, 1, none⟩ = some (.bool xc.dir) := cellOf HNW.out (j := 1) rfl
            have hx2 : wa.cell? ⟨b, 2, none⟩ = some (.slice xd xc.data.length xa) := cellOf HNW.out (j := 2) rfl
            have hx3 : wa.cell? ⟨b, 3, none⟩ = some (.int .i64 xc.time) := cellOf HNW.out (j := 3) rfl
            have hs2 : ∀ W, Below wa.heap.size wa W → (fun w' => w'.cell? ⟨g, 2, none⟩ = some (.slice (some ⟨gs, o, none⟩) n c) ∧ w'.cell? ⟨b, 0, none⟩ = some (.string xs) ∧ w'.cell? ⟨b, 1, none⟩ = some (.bool xc.dir) ∧ w'.cell? ⟨b, 2, none⟩ = some (.slice xd xc.data.length xa) ∧ w'.cell? ⟨b, 3, none⟩ = some (.int .i64 xc.time)) W := fun W h => ⟨(h.cell (p := ⟨g, 2, none⟩) hgl2).trans hc2, (h.cell (p := ⟨b, 0, none⟩) hbl).trans hx0, (h.cell (p := ⟨b, 1, none⟩) hbl).trans hx1, (h.cell (p := ⟨b, 2, none⟩) hbl).trans hx2, (h.cell (p := ⟨b, 3, none⟩) hbl).trans hx3⟩
            have HS2 := hide hs2
            clear hs2
            refine wp_region_held_drew (S := fun w' => w'.cell? ⟨g, 2, none⟩ = some (.slice (some ⟨gs, o, none⟩) n c) ∧ w'.cell? ⟨b, 0, none⟩ = some (.string xs) ∧ w'.cell? ⟨b, 1, none⟩ = some (.bool xc.dir) ∧ w'.cell? ⟨b, 2, none⟩ = some (.slice xd xc.data.length xa) ∧ w'.cell? ⟨b, 3, none⟩ = some (.int .i64 xc.time)) (by kernel_rfl) (HS2.out _ HRB.out) (fun hHeld => ?_)
            refine wpAnyH_tk (i := 0) (oi := _) (v := ?va0) rfl rfl (by kernel_rfl) (by kernel_rfl) (by kernel_rfl) (fun _ _ _ h => h) (Or.inl ⟨by kernel_rfl, ?ya0⟩) (by assumption) ?ra0
            case ya0 =>
              intro w hSw
              (try dsimp only at hSw)
              go_simp
              try with_reducible rfl
            try simp only [List.setIfInBounds_toArray, List.set_cons_zero, List.set_cons_succ]
            refine wpAnyH_tk (i := 1) (oi := _) (v := ?va1) rfl rfl (by kernel_rfl) (by kernel_rfl) (by kernel_rfl) (fun _ _ _ h => h) (Or.inl ⟨by kernel_rfl, ?ya1⟩) (by assumption) ?ra1
            case ya1 =>
              intro w hSw
              (try dsimp only at hSw)
              go_simp
              try with_reducible rfl
            try simp only [List.setIfInBounds_toArray, List.set_cons_zero, List.set_cons_succ]
            refine wpAnyH_tk (i := 2) (oi := _) (v := ?va2) rfl rfl (by kernel_rfl) (by kernel_rfl) (by kernel_rfl) (fun _ _ _ h => h) (Or.inl ⟨by kernel_rfl, ?ya2⟩) (by assumption) ?ra2
            case ya2 =>
              intro w hSw
              (try dsimp only at hSw)
              go_simp
              try with_reducible rfl
            try simp only [List.setIfInBounds_toArray, List.set_cons_zero, List.set_cons_succ]
            refine wpAnyH_tk (i := 3) (oi := _) (v := ?va3) rfl rfl (by kernel_rfl) (by kernel_rfl) (by kernel_rfl) (fun _ _ _ h => h) (Or.inl ⟨by kernel_rfl, ?ya3⟩) (by assumption) ?ra3
            case ya3 =>
              intro w hSw
              (try dsimp only at hSw)
              go_simp
              try with_reducible rfl
            try simp only [List.setIfInBounds_toArray, List.set_cons_zero, List.set_cons_succ]
            refine wpAnyH_tk (i := 4) (oi := _) (v := ?va4) rfl rfl (by kernel_rfl) (by kernel_rfl) (by kernel_rfl) (fun _ _ _ h => h) (Or.inl ⟨by kernel_rfl, ?ya4⟩) (by assumption) ?ra4
            case ya4 =>
              intro w hSw
              (try dsimp only at hSw)
              go_simp
              try with_reducible rfl
            try simp only [List.setIfInBounds_toArray, List.set_cons_zero, List.set_cons_succ]
            refine wpAnyH_tk (i := 5) (oi := _) (v := ?va5) rfl rfl (by kernel_rfl) (by kernel_rfl) (by kernel_rfl) (fun _ _ _ h => h) (Or.inl ⟨by kernel_rfl, ?ya5⟩) (by assumption) ?ra5
            case ya5 =>
              intro w hSw
              (try dsimp only at hSw)
              go_simp
              try with_reducible rfl
            try simp only [List.setIfInBounds_toArray, List.set_cons_zero, List.set_cons_succ]
            refine wpAnyH_tk (i := 7) (oi := _) (v := ?va7) rfl rfl (by kernel_rfl) (by kernel_rfl) (by kernel_rfl) (fun _ _ _ h => h) (Or.inl ⟨by kernel_rfl, ?ya7⟩) (by assumption) ?ra7
            case ya7 =>
              intro w hSw
              (try dsimp only at hSw)
              go_simp
              try with_reducible rfl
            try simp only [List.setIfInBounds_toArray, List.set_cons_zero, List.set_cons_succ]
            refine wpAnyH_ready (rs := [6, 8]) (by kernel_rfl) (by simp) ?_
            refine AllReadyH.cons (o := _) rfl (fun K hK => ?away1) (AllReadyH.cons (o := _) rfl (fun K hK => ?away2) AllReadyH.nil)
            case away1 =>
              obtain ⟨v2, w2, v3, w3, v4, w4, r2, r3, r4, ho4, hb2, hb3, hb4⟩ := putN_chain ((wa.drewN (q + nq1 + nq)).drew) (some ⟨gs, o, none⟩) (some ⟨gs, o, none⟩) c (c - (k + 1)) (P.take k) (P.drop (k + 1)) (xs, ⟨xd, xa, xc⟩) #[.string xs, .bool xc.dir, .slice xd xc.data.length xa, .int .i64 xc.time] rfl (HDZ.out _ HRB.out) (HTK.out _ HRB.out) (by simp only [List.length_take, List.length_drop]; have := HN.out; omega)
              rw [show (P.drop (k + 1)).length = n - (k + 1) by rw [List.length_drop, HN.out]] at r4
              rw [show (P.take k).length = k by rw [List.length_take, HN.out]; omega] at r2
              have HB2 := hide (show Below wa.heap.size wa w2 from below_up HRB.out hb2 HRB.out.size)
              have HB3 := hide (show Below wa.heap.size wa w3 from below_up HRB.out hb3 HRB.out.size)
              have HB4 := hide (show Below wa.heap.size wa w4 from below_up HRB.out hb4 HRB.out.size)
              have ho5 := ho4.base (base' := wa.heap.size) (Nat.le_refl _)
              rw [← HQ.out] at ho5
              obtain ⟨A', c', rfl, hcp, hrg, hob, _⟩ := ho5.slice encE_len
              have HA' := hide (show ∀ a, A' = some a → wa.heap.size ≤ a.block from fun a e => (ho5.lt _ (hob a e)).1)
              have HCP := hide hcp
              have HRG := hide hrg
              clear ho4 ho5 hb2 hb3 hb4 hob hcp hrg
              refine step_app_run rfl _ _ rfl rfl rfl rfl r2 ?_
              refine hK.out _ _ (HS2.out _ HB2.out) (fun _ => ?_)
              clear hK K
              try simp only [Act.put, List.setIfInBounds_toArray, List.set_cons_zero, List.set_cons_succ]
              refine wpAnyH_ready (rs := [8]) (by kernel_rfl) (by simp) ?_
              refine AllReadyH.cons (o := _) rfl (fun K hK => ?_) AllReadyH.nil
              rw [if_pos (by kernel_rfl)]
              go_simp
              refine hK.out _ _ (HS2.out _ (HB2.out.alloc HB2.out.size _)) (fun _ => ?_)
              clear hK K
              try simp only [Act.put, List.setIfInBounds_toArray, List.set_cons_zero, List.set_cons_succ]
              refine wpAnyH_ready (rs := [9]) (by kernel_rfl) (by simp) ?_
              refine AllReadyH.cons (o := _) rfl (fun K hK => ?_) AllReadyH.nil
              refine step_app_run rfl _ _ rfl rfl rfl rfl r3 ?_
              refine hK.out _ _ (HS2.out _ HB3.out) (fun _ => ?_)
              clear hK K
              try simp only [Act.put, List.setIfInBounds_toArray, List.set_cons_zero, List.set_cons_succ]
              refine wpAnyH_tk (i := 10) (oi := _) (v := ?vax10) rfl rfl (by kernel_rfl) (by kernel_rfl) (by kernel_rfl) (fun _ _ _ h => h) (Or.inl ⟨by kernel_rfl, ?yax10⟩) (by assumption) ?rax10
              case yax10 =>
                intro w hSw
                (try dsimp only at hSw)
                go_simp
                try with_reducible rfl
              try simp only [List.setIfInBounds_toArray, List.set_cons_zero, List.set_cons_succ]
              refine wpAnyH_done (by kernel_rfl) ?_ _
              have hck2 : (c = k + 1) = True := eq_true HCK.out
              have hd2 := (HS2.out w3 HB3.out).1
              have hg4 := (HB4.out.block g hgl2).trans HRA.out.heap
              rw [HN.out] at hg4
              have hf4 := freeOf hg4 2
              have hcc4 := cellOf hg4 (j := 2) (v := .slice (some ⟨gs, o, none⟩) n c) rfl
              have HG5 := hide (heapSet (j := 2) hg4 (.slice A' (putG ((xs, ⟨xd, xa, xc⟩) : NV) P).length c'))
              obtain ⟨M, hM⟩ : ∃ m, (putG ((xs, ⟨xd, xa, xc⟩) : NV) P).length = m := ⟨_, rfl⟩
              rw [hM] at r4 HG5 HCP
              have HM := hide hM
              clear hg4 hM
              go_wp2_with (first | (at_builtin; refine wpList_app_run ?_ (.tmp 63) (.tmp 69) ?_ ?_ ?_ ?_ r4 ?_; exact rfl; exact rfl; exact rfl; exact rfl; exact rfl))
              go_end0
              have hsz : b ≤ wa.heap.size := by have := HBA.out.size; have := HBB.out; omega
              have hbb : Below b w w4 := below_up HBA.out HB4.out hsz
              refine ⟨rfl, A', c', ?_, ?_, ?_, ?_, ?_⟩
              · rw [HM.out]; exact HG5.out
              · rw [HM.out]; exact HCP.out
              · exact HRG.out.gb (gb_setCell (World.grownBy.refl w4 (some g)) 2 _) (fun a e h => by injection h with h; have := HA'.out a e; omega)
              · intro a e; have := HA'.out a e; have := HBB.out; omega
              · exact gb_setCell ⟨hbb.os, hbb.tape, hbb.output, hbb.size, fun i hi _ => hbb.block i (by have := HBB.out; omega)⟩ 2 _
            case away2 =>
              have HRB := hide (below_drewN (Below.refl wa.heap.size wa) (q + nq1 + nq + 1))
              obtain ⟨v2, w2, v3, w3, v4, w4, r2, r3, r4, ho4, hb2, hb3, hb4⟩ := putN_chain2 (wa.drewN (q + nq1 + nq + 1)) (some ⟨gs, o, none⟩) (some ⟨gs, o, none⟩) c (c - (k + 1)) (P.take k) (P.drop (k + 1)) (xs, ⟨xd, xa, xc⟩) #[.string xs, .bool xc.dir, .slice xd xc.data.length xa, .int .i64 xc.time] rfl (HDZ.out _ HRB.out) (HTK.out _ HRB.out) (by simp only [List.length_take, List.length_drop]; have := HN.out; omega)
              rw [show (P.drop (k + 1)).length = n - (k + 1) by rw [List.length_drop, HN.out]] at r4
              rw [show (P.take k).length = k by rw [List.length_take, HN.out]; omega] at r2
              have HB2 := hide (show Below wa.heap.size wa w2 from below_up HRB.out hb2 HRB.out.size)
              have HB3 := hide (show Below wa.heap.size wa w3 from below_up HRB.out hb3 HRB.out.size)
              have HB4 := hide (show Below wa.heap.size wa w4 from below_up HRB.out hb4 HRB.out.size)
              have ho5 := ho4.base (base' := wa.heap.size) (Nat.le_refl _)
              rw [← HQ.out] at ho5
              obtain ⟨A', c', rfl, hcp, hrg, hob, _⟩ := ho5.slice encE_len
              have HA' := hide (show ∀ a, A' = some a → wa.heap.size ≤ a.block from fun a e => (ho5.lt _ (hob a e)).1)
              have HCP := hide hcp
              have HRG := hide hrg
              clear ho4 ho5 hb2 hb3 hb4 hob hcp hrg
              rw [if_pos (by kernel_rfl)]
              go_simp
              refine hK.out _ _ (HS2.out _ (HRB.out.alloc HRB.out.size _)) (fun _ => ?_)
              clear hK K
              try simp only [Act.put, List.setIfInBounds_toArray, List.set_cons_zero, List.set_cons_succ]
              refine wpAnyH_ready (rs := [6]) (by kernel_rfl) (by simp) ?_
              refine AllReadyH.cons (o := _) rfl (fun K hK => ?_) AllReadyH.nil
              refine step_app_run rfl _ _ rfl rfl rfl rfl r2 ?_
              refine hK.out _ _ (HS2.out _ HB2.out) (fun _ => ?_)
              clear hK K
              try simp only [Act.put, List.setIfInBounds_toArray, List.set_cons_zero, List.set_cons_succ]
              refine wpAnyH_ready (rs := [9]) (by kernel_rfl) (by simp) ?_
              refine AllReadyH.cons (o := _) rfl (fun K hK => ?_) AllReadyH.nil
              refine step_app_run rfl _ _ rfl rfl rfl rfl r3 ?_
              refine hK.out _ _ (HS2.out _ HB3.out) (fun _ => ?_)
              clear hK K
              try simp only [Act.put, List.setIfInBounds_toArray, List.set_cons_zero, List.set_cons_succ]
              refine wpAnyH_tk (i := 10) (oi := _) (v := ?vay10) rfl rfl (by kernel_rfl) (by kernel_rfl) (by kernel_rfl) (fun _ _ _ h => h) (Or.inl ⟨by kernel_rfl, ?yay10⟩) (by assumption) ?ray10
              case yay10 =>
                intro w hSw
                (try dsimp only at hSw)
                go_simp
                try with_reducible rfl
              try simp only [List.setIfInBounds_toArray, List.set_cons_zero, List.set_cons_succ]
              refine wpAnyH_done (by kernel_rfl) ?_ _
              have hck2 : (c = k + 1) = True := eq_true HCK.out
              have hd2 := (HS2.out w3 HB3.out).1
              have hg4 := (HB4.out.block g hgl2).trans HRA.out.heap
              rw [HN.out] at hg4
              have hf4 := freeOf hg4 2
              have hcc4 := cellOf hg4 (j := 2) (v := .slice (some ⟨gs, o, none⟩) n c) rfl
              have HG5 := hide (heapSet (j := 2) hg4 (.slice A' (putG ((xs, ⟨xd, xa, xc⟩) : NV) P).length c'))
              obtain ⟨M, hM⟩ : ∃ m, (putG ((xs, ⟨xd, xa, xc⟩) : NV) P).length = m := ⟨_, rfl⟩
              rw [hM] at r4 HG5 HCP
              have HM := hide hM
              clear hg4 hM
              go_wp2_with (first | (at_builtin; refine wpList_app_run ?_ (.tmp 63) (.tmp 69) ?_ ?_ ?_ ?_ r4 ?_; exact rfl; exact rfl; exact rfl; exact rfl; exact rfl))
              go_end0
              have hsz : b ≤ wa.heap.size := by have := HBA.out.size; have := HBB.out; omega
              have hbb : Below b w w4 := below_up HBA.out HB4.out hsz
              refine ⟨rfl, A', c', ?_, ?_, ?_, ?_, ?_⟩
              · rw [HM.out]; exact HG5.out
              · rw [HM.out]; exact HCP.out
              · exact HRG.out.gb (gb_setCell (World.grownBy.refl w4 (some g)) 2 _) (fun a e h => by injection h with h; have := HA'.out a e; omega)
              · intro a e; have := HA'.out a e; have := HBB.out; omega
              · exact gb_setCell ⟨hbb.os, hbb.tape, hbb.output, hbb.size, fun i hi _ => hbb.block i (by have := HBB.out; omega)⟩ 2 _
          · have HRB := hide (show Below wa.heap.size wa ((wa.drewN (q + nq1 + nq)).drew) from (below_drewN (Below.refl wa.heap.size wa) _).drew)
            have hbl : b < wa.heap.size := (Array.getElem?_eq_some_iff.1 HNW.out).1
            have hgl2 : g < wa.heap.size := (Array.getElem?_eq_some_iff.1 HRA.out.heap).1
            have hx1 : wa.cell? ⟨b, 1, none⟩ = some (.bool xc.dir) := cellOf HNW.out (j := 1) rfl
            have hx2 : wa.cell? ⟨b, 2, none⟩ = some (.slice xd xc.data.length xa) := cellOf HNW.out (j := 2) rfl
            have hx3 : wa.cell? ⟨b, 3, none⟩ = some (.int .i64 xc.time) := cellOf HNW.out (j := 3) rfl
            have hs2 : ∀ W, Below wa.heap.size wa W → (fun w' => w'.cell? ⟨g, 2, none⟩ = some (.slice (some ⟨gs, o, none⟩) n c) ∧ w'.cell? ⟨b, 0, none⟩ = some (.string xs) ∧ w'.cell? ⟨b, 1, none⟩ = some (.bool xc.dir) ∧ w'.cell? ⟨b, 2, none⟩ = some (.slice xd xc.data.length xa) ∧ w'.cell? ⟨b, 3, none⟩ = some (.int .i64 xc.time)) W := fun W h => ⟨(h.cell (p := ⟨g, 2, none⟩) hgl2).trans hc2, (h.cell (p := ⟨b, 0, none⟩) hbl).trans hx0, (h.cell (p := ⟨b, 1, none⟩) hbl).trans hx1, (h.cell (p := ⟨b, 2, none⟩) hbl).trans hx2, (h.cell (p := ⟨b, 3, none⟩) hbl).trans hx3⟩
            have HS2 := hide hs2
            clear hs2
            refine wp_region_held_drew (S := fun w' => w'.cell? ⟨g, 2, none⟩ = some (.slice (some ⟨gs, o, none⟩) n c) ∧ w'.cell? ⟨b, 0, none⟩ = some (.string xs) ∧ w'.cell? ⟨b, 1, none⟩ = some (.bool xc.dir) ∧ w'.cell? ⟨b, 2, none⟩ = some (.slice xd xc.data.length xa) ∧ w'.cell? ⟨b, 3, none⟩ = some (.int .i64 xc.time)) (by kernel_rfl) (HS2.out _ HRB.out) (fun hHeld => ?_)
            refine wpAnyH_tk (i := 0) (oi := _) (v := ?vA0) rfl rfl (by kernel_rfl) (by kernel_rfl) (by kernel_rfl) (fun _ _ _ h => h) (Or.inl ⟨by kernel_rfl, ?yA0⟩) (by assumption) ?rA0
            case yA0 =>
              intro w hSw
              (try dsimp only at hSw)
              go_simp
              try with_reducible rfl
            try simp only [List.setIfInBounds_toArray, List.set_cons_zero, List.set_cons_succ]
            refine wpAnyH_tk (i := 1) (oi := _) (v := ?vA1) rfl rfl (by kernel_rfl) (by kernel_rfl) (by kernel_rfl) (fun _ _ _ h => h) (Or.inl ⟨by kernel_rfl, ?yA1⟩) (by assumption) ?rA1
            case yA1 =>
              intro w hSw
              (try dsimp only at hSw)
              go_simp
              try with_reducible rfl
            try simp only [List.setIfInBounds_toArray, List.set_cons_zero, List.set_cons_succ]
            refine wpAnyH_tk (i := 2) (oi := _) (v := ?vA2) rfl rfl (by kernel_rfl) (by kernel_rfl) (by kernel_rfl) (fun _ _ _ h => h) (Or.inl ⟨by kernel_rfl, ?yA2⟩) (by assumption) ?rA2
            case yA2 =>
              intro w hSw
              (try dsimp only at hSw)
              go_simp
              try with_reducible rfl
            try simp only [List.setIfInBounds_toArray, List.set_cons_zero, List.set_cons_succ]
            refine wpAnyH_tk (i := 3) (oi := _) (v := ?vA3) rfl rfl (by kernel_rfl) (by kernel_rfl) (by kernel_rfl) (fun _ _ _ h => h) (Or.inl ⟨by kernel_rfl, ?yA3⟩) (by assumption) ?rA3
            case yA3 =>
              intro w hSw
              (try dsimp only at hSw)
              go_simp
              try with_reducible rfl
            try simp only [List.setIfInBounds_toArray, List.set_cons_zero, List.set_cons_succ]
            refine wpAnyH_tk (i := 4) (oi := _) (v := ?vA4) rfl rfl (by kernel_rfl) (by kernel_rfl) (by kernel_rfl) (fun _ _ _ h => h) (Or.inl ⟨by kernel_rfl, ?yA4⟩) (by assumption) ?rA4
            case yA4 =>
              intro w hSw
              (try dsimp only at hSw)
              go_simp
              try with_reducible rfl
            try simp only [List.setIfInBounds_toArray, List.set_cons_zero, List.set_cons_succ]
            refine wpAnyH_tk (i := 5) (oi := _) (v := ?vA5) rfl rfl (by kernel_rfl) (by kernel_rfl) (by kernel_rfl) (fun _ _ _ h => h) (Or.inl ⟨by kernel_rfl, ?yA5⟩) (by assumption) ?rA5
            case yA5 =>
              intro w hSw
              (try dsimp only at hSw)
              go_simp
              try with_reducible rfl
            try simp only [List.setIfInBounds_toArray, List.set_cons_zero, List.set_cons_succ]
            refine wpAnyH_tk (i := 7) (oi := _) (v := ?vA7) rfl rfl (by kernel_rfl) (by kernel_rfl) (by kernel_rfl) (fun _ _ _ h => h) (Or.inl ⟨by kernel_rfl, ?yA7⟩) (by assumption) ?rA7
            case yA7 =>
              intro w hSw
              (try dsimp only at hSw)
              go_simp
              try with_reducible rfl
            try simp only [List.setIfInBounds_toArray, List.set_cons_zero, List.set_cons_succ]
            refine wpAnyH_ready (rs := [6, 8]) (by kernel_rfl) (by simp) ?_
            refine AllReadyH.cons (o := _) rfl (fun K hK => ?Away1) (AllReadyH.cons (o := _) rfl (fun K hK => ?Away2) AllReadyH.nil)
            case Away1 =>
              obtain ⟨v2, w2, v3, w3, v4, w4, r2, r3, r4, ho4, hb2, hb3, hb4⟩ := putN_chain ((wa.drewN (q + nq1 + nq)).drew) (some ⟨gs, o, none⟩) (some ⟨gs, o + (k + 1) * 4, none⟩) c (c - (k + 1)) (P.take k) (P.drop (k + 1)) (xs, ⟨xd, xa, xc⟩) #[.string xs, .bool xc.dir, .slice xd xc.data.length xa, .int .i64 xc.time] rfl (HDR.out _ _ HRB.out) (HTK.out _ HRB.out) (by simp only [List.length_take, List.length_drop]; have := HN.out; omega)
              rw [show (P.drop (k + 1)).length = n - (k + 1) by rw [List.length_drop, HN.out]] at r4
              rw [show (P.take k).length = k by rw [List.length_take, HN.out]; omega] at r2
              have HB2 := hide (show Below wa.heap.size wa w2 from below_up HRB.out hb2 HRB.out.size)
              have HB3 := hide (show Below wa.heap.size wa w3 from below_up HRB.out hb3 HRB.out.size)
              have HB4 := hide (show Below wa.heap.size wa w4 from below_up HRB.out hb4 HRB.out.size)
              have ho5 := ho4.base (base' := wa.heap.size) (Nat.le_refl _)
              rw [← HQ.out] at ho5
              obtain ⟨A', c', rfl, hcp, hrg, hob, _⟩ := ho5.slice encE_len
              have HA' := hide (show ∀ a, A' = some a → wa.heap.size ≤ a.block from fun a e => (ho5.lt _ (hob a e)).1)
              have HCP := hide hcp
              have HRG := hide hrg
              clear ho4 ho5 hb2 hb3 hb4 hob hcp hrg
              refine step_app_run rfl _ _ rfl rfl rfl rfl r2 ?_
              refine hK.out _ _ (HS2.out _ HB2.out) (fun _ => ?_)
              clear hK K
              try simp only [Act.put, List.setIfInBounds_toArray, List.set_cons_zero, List.set_cons_succ]
              refine wpAnyH_ready (rs := [8]) (by kernel_rfl) (by simp) ?_
              refine AllReadyH.cons (o := _) rfl (fun K hK => ?_) AllReadyH.nil
              rw [if_pos (by kernel_rfl)]
              go_simp
              refine hK.out _ _ (HS2.out _ (HB2.out.alloc HB2.out.size _)) (fun _ => ?_)
              clear hK K
              try simp only [Act.put, List.setIfInBounds_toArray, List.set_cons_zero, List.set_cons_succ]
              refine wpAnyH_ready (rs := [9]) (by kernel_rfl) (by simp) ?_
              refine AllReadyH.cons (o := _) rfl (fun K hK => ?_) AllReadyH.nil
              refine step_app_run rfl _ _ rfl rfl rfl rfl r3 ?_
              refine hK.out _ _ (HS2.out _ HB3.out) (fun _ => ?_)
              clear hK K
              try simp only [Act.put, List.setIfInBounds_toArray, List.set_cons_zero, List.set_cons_succ]
              refine wpAnyH_tk (i := 10) (oi := _) (v := ?vAx10) rfl rfl (by kernel_rfl) (by kernel_rfl) (by kernel_rfl) (fun _ _ _ h => h) (Or.inl ⟨by kernel_rfl, ?yAx10⟩) (by assumption) ?rAx10
              case yAx10 =>
                intro w hSw
                (try dsimp only at hSw)
                go_simp
                try with_reducible rfl
              try simp only [List.setIfInBounds_toArray, List.set_cons_zero, List.set_cons_succ]
              refine wpAnyH_done (by kernel_rfl) ?_ _
              have hd2 := (HS2.out w3 HB3.out).1
              have hg4 := (HB4.out.block g hgl2).trans HRA.out.heap
              rw [HN.out] at hg4
              have hf4 := freeOf hg4 2
              have hcc4 := cellOf hg4 (j := 2) (v := .slice (some ⟨gs, o, none⟩) n c) rfl
              have HG5 := hide (heapSet (j := 2) hg4 (.slice A' (putG ((xs, ⟨xd, xa, xc⟩) : NV) P).length c'))
              obtain ⟨M, hM⟩ : ∃ m, (putG ((xs, ⟨xd, xa, xc⟩) : NV) P).length = m := ⟨_, rfl⟩
              rw [hM] at r4 HG5 HCP
              have HM := hide hM
              clear hg4 hM
              go_wp2_with (first | (at_builtin; refine wpList_app_run ?_ (.tmp 63) (.tmp 69) ?_ ?_ ?_ ?_ r4 ?_; exact rfl; exact rfl; exact rfl; exact rfl; exact rfl))
              go_end0
              have hsz : b ≤ wa.heap.size := by have := HBA.out.size; have := HBB.out; omega
              have hbb : Below b w w4 := below_up HBA.out HB4.out hsz
              refine ⟨rfl, A', c', ?_, ?_, ?_, ?_, ?_⟩
              · rw [HM.out]; exact HG5.out
              · rw [HM.out]; exact HCP.out
              · exact HRG.out.gb (gb_setCell (World.grownBy.refl w4 (some g)) 2 _) (fun a e h => by injection h with h; have := HA'.out a e; omega)
              · intro a e; have := HA'.out a e; have := HBB.out; omega
              · exact gb_setCell ⟨hbb.os, hbb.tape, hbb.output, hbb.size, fun i hi _ => hbb.block i (by have := HBB.out; omega)⟩ 2 _
            case Away2 =>
              have HRB := hide (below_drewN (Below.refl wa.heap.size wa) (q + nq1 + nq + 1))
              obtain ⟨v2, w2, v3, w3, v4, w4, r2, r3, r4, ho4, hb2, hb3, hb4⟩ := putN_chain2 (wa.drewN (q + nq1 + nq + 1)) (some ⟨gs, o, none⟩) (some ⟨gs, o + (k + 1) * 4, none⟩) c (c - (k + 1)) (P.take k) (P.drop (k + 1)) (xs, ⟨xd, xa, xc⟩) #[.string xs, .bool xc.dir, .slice xd xc.data.length xa, .int .i64 xc.time] rfl (HDR.out _ _ HRB.out) (HTK.out _ HRB.out) (by simp only [List.length_take, List.length_drop]; have := HN.out; omega)
              rw [show (P.drop (k + 1)).length = n - (k + 1) by rw [List.length_drop, HN.out]] at r4
              rw [show (P.take k).length = k by rw [List.length_take, HN.out]; omega] at r2
              have HB2 := hide (show Below wa.heap.size wa w2 from below_up HRB.out hb2 HRB.out.size)
              have HB3 := hide (show Below wa.heap.size wa w3 from below_up HRB.out hb3 HRB.out.size)
              have HB4 := hide (show Below wa.heap.size wa w4 from below_up HRB.out hb4 HRB.out.size)
              have ho5 := ho4.base (base' := wa.heap.size) (Nat.le_refl _)
              rw [← HQ.out] at ho5
              obtain ⟨A', c', rfl, hcp, hrg, hob, _⟩ := ho5.slice encE_len
              have HA' := hide (show ∀ a, A' = some a → wa.heap.size ≤ a.block from fun a e => (ho5.lt _ (hob a e)).1)
              have HCP := hide hcp
              have HRG := hide hrg
              clear ho4 ho5 hb2 hb3 hb4 hob hcp hrg
              rw [if_pos (by kernel_rfl)]
              go_simp
              refine hK.out _ _ (HS2.out _ (HRB.out.alloc HRB.out.size _)) (fun _ => ?_)
              clear hK K
              try simp only [Act.put, List.setIfInBounds_toArray, List.set_cons_zero, List.set_cons_succ]
              refine wpAnyH_ready (rs := [6]) (by kernel_rfl) (by simp) ?_
              refine AllReadyH.cons (o := _) rfl (fun K hK => ?_) AllReadyH.nil
              refine step_app_run rfl _ _ rfl rfl rfl rfl r2 ?_
              refine hK.out _ _ (HS2.out _ HB2.out) (fun _ => ?_)
              clear hK K
              try simp only [Act.put, List.setIfInBounds_toArray, List.set_cons_zero, List.set_cons_succ]
              refine wpAnyH_ready (rs := [9]) (by kernel_rfl) (by simp) ?_
              refine AllReadyH.cons (o := _) rfl (fun K hK => ?_) AllReadyH.nil
              refine step_app_run rfl _ _ rfl rfl rfl rfl r3 ?_
              refine hK.out _ _ (HS2.out _ HB3.out) (fun _ => ?_)
              clear hK K
              try simp only [Act.put, List.setIfInBounds_toArray, List.set_cons_zero, List.set_cons_succ]
              refine wpAnyH_tk (i := 10) (oi := _) (v := ?vAy10) rfl rfl (by kernel_rfl) (by kernel_rfl) (by kernel_rfl) (fun _ _ _ h => h) (Or.inl ⟨by kernel_rfl, ?yAy10⟩) (by assumption) ?rAy10
              case yAy10 =>
                intro w hSw
                (try dsimp only at hSw)
                go_simp
                try with_reducible rfl
              try simp only [List.setIfInBounds_toArray, List.set_cons_zero, List.set_cons_succ]
              refine wpAnyH_done (by kernel_rfl) ?_ _
              have hd2 := (HS2.out w3 HB3.out).1
              have hg4 := (HB4.out.block g hgl2).trans HRA.out.heap
              rw [HN.out] at hg4
              have hf4 := freeOf hg4 2
              have hcc4 := cellOf hg4 (j := 2) (v := .slice (some ⟨gs, o, none⟩) n c) rfl
              have HG5 := hide (heapSet (j := 2) hg4 (.slice A' (putG ((xs, ⟨xd, xa, xc⟩) : NV) P).length c'))
              obtain ⟨M, hM⟩ : ∃ m, (putG ((xs, ⟨xd, xa, xc⟩) : NV) P).length = m := ⟨_, rfl⟩
              rw [hM] at r4 HG5 HCP
              have HM := hide hM
              clear hg4 hM
              go_wp2_with (first | (at_builtin; refine wpList_app_run ?_ (.tmp 63) (.tmp 69) ?_ ?_ ?_ ?_ r4 ?_; exact rfl; exact rfl; exact rfl; exact rfl; exact rfl))
              go_end0
              have hsz : b ≤ wa.heap.size := by have := HBA.out.size; have := HBB.out; omega
              have hbb : Below b w w4 := below_up HBA.out HB4.out hsz
              refine ⟨rfl, A', c', ?_, ?_, ?_, ?_, ?_⟩
              · rw [HM.out]; exact HG5.out
              · rw [HM.out]; exact HCP.out
              · exact HRG.out.gb (gb_setCell (World.grownBy.refl w4 (some g)) 2 _) (fun a e h => by injection h with h; have := HA'.out a e; omega)
              · intro a e; have := HA'.out a e; have := HBB.out; omega
              · exact gb_setCell ⟨hbb.os, hbb.tape, hbb.output, hbb.size, fun i hi _ => hbb.block i (by have := HBB.out; omega)⟩ 2 _
        · have e1 : (ys.toList == xs.toList) = false := txt_ne he
          have HQ := hide (show putG ((xs, ⟨xd, xa, xc⟩) : NV) P = P.take k ++ [(xs, ⟨xd, xa, xc⟩)] ++ P.drop k by rw [HP.out, HY.out]; dsimp only; rw [HYS.out, if_neg he])
          clear he HP
          go_wp2_with fail
          go_quiet (fail)
          obtain ⟨nq1, hnq1⟩ : ∃ z, z = nq := ⟨_, rfl⟩
          subst hnq1
          go_wp2_with fail
          go_quiet (fail)
          go_wp2_with fail
          have HRB := hide (show Below wa.heap.size wa ((((wa.drewN q).drewN nq1).drewN nq).drew) from (below_drewN (below_drewN (below_drewN (Below.refl wa.heap.size wa) _) _) _).drew)
          have hbl : b < wa.heap.size := (Array.getElem?_eq_some_iff.1 HNW.out).1
          have hgl2 : g < wa.heap.size := (Array.getElem?_eq_some_iff.1 HRA.out.heap).1
          have hx1 : wa.cell? ⟨b, 1, none⟩ = some (.bool xc.dir) := cellOf HNW.out (j := 1) rfl
          have hx2 : wa.cell? ⟨b, 2, none⟩ = some (.slice xd xc.data.length xa) := cellOf HNW.out (j := 2) rfl
          have hx3 : wa.cell? ⟨b, 3, none⟩ = some (.int .i64 xc.time) := cellOf HNW.out (j := 3) rfl
          have hs2 : ∀ W, Below wa.heap.size wa W → (fun w' => w'.cell? ⟨g, 2, none⟩ = some (.slice (some ⟨gs, o, none⟩) n c) ∧ w'.cell? ⟨b, 0, none⟩ = some (.string xs) ∧ w'.cell? ⟨b, 1, none⟩ = some (.bool xc.dir) ∧ w'.cell? ⟨b, 2, none⟩ = some (.slice xd xc.data.length xa) ∧ w'.cell? ⟨b, 3, none⟩ = some (.int .i64 xc.time)) W := fun W h => ⟨(h.cell (p := ⟨g, 2, none⟩) hgl2).trans hc2, (h.cell (p := ⟨b, 0, none⟩) hbl).trans hx0, (h.cell (p := ⟨b, 1, none⟩) hbl).trans hx1, (h.cell (p := ⟨b, 2, none⟩) hbl).trans hx2, (h.cell (p := ⟨b, 3, none⟩) hbl).trans hx3⟩
          have HS2 := hide hs2
          clear hs2
          refine wp_region_held_drew (S := fun w' => w'.cell? ⟨g, 2, none⟩ = some (.slice (some ⟨gs, o, none⟩) n c) ∧ w'.cell? ⟨b, 0, none⟩ = some (.string xs) ∧ w'.cell? ⟨b, 1, none⟩ = some (.bool xc.dir) ∧ w'.cell? ⟨b, 2, none⟩ = some (.slice xd xc.data.length xa) ∧ w'.cell? ⟨b, 3, none⟩ = some (.int .i64 xc.time)) (by kernel_rfl) (HS2.out _ HRB.out) (fun hHeld => ?_)
          refine wpAnyH_tk (i := 0) (oi := _) (v := ?vB0) rfl rfl (by kernel_rfl) (by kernel_rfl) (by kernel_rfl) (fun _ _ _ h => h) (Or.inl ⟨by kernel_rfl, ?yB0⟩) (by assumption) ?rB0
          case yB0 =>
            intro w hSw
            (try dsimp only at hSw)
            go_simp
            try with_reducible rfl
          try simp only [List.setIfInBounds_toArray, List.set_cons_zero, List.set_cons_succ]
          refine wpAnyH_tk (i := 1) (oi := _) (v := ?vB1) rfl rfl (by kernel_rfl) (by kernel_rfl) (by kernel_rfl) (fun _ _ _ h => h) (Or.inl ⟨by kernel_rfl, ?yB1⟩) (by assumption) ?rB1
          case yB1 =>
            intro w hSw
            (try dsimp only at hSw)
            go_simp
            try with_reducible rfl
          try simp only [List.setIfInBounds_toArray, List.set_cons_zero, List.set_cons_succ]
          refine wpAnyH_tk (i := 2) (oi := _) (v := ?vB2) rfl rfl (by kernel_rfl) (by kernel_rfl) (by kernel_rfl) (fun _ _ _ h => h) (Or.inl ⟨by kernel_rfl, ?yB2⟩) (by assumption) ?rB2
          case yB2 =>
            intro w hSw
            (try dsimp only at hSw)
            go_simp
            try with_reducible rfl
          try simp only [List.setIfInBounds_toArray, List.set_cons_zero, List.set_cons_succ]
          refine wpAnyH_tk (i := 3) (oi := _) (v := ?vB3) rfl rfl (by kernel_rfl) (by kernel_rfl) (by kernel_rfl) (fun _ _ _ h => h) (Or.inl ⟨by kernel_rfl, ?yB3⟩) (by assumption) ?rB3
          case yB3 =>
            intro w hSw
            (try dsimp only at hSw)
            go_simp
            try with_reducible rfl
          try simp only [List.setIfInBounds_toArray, List.set_cons_zero, List.set_cons_succ]
          refine wpAnyH_tk (i := 4) (oi := _) (v := ?vB4) rfl rfl (by kernel_rfl) (by kernel_rfl) (by kernel_rfl) (fun _ _ _ h => h) (Or.inl ⟨by kernel_rfl, ?yB4⟩) (by assumption) ?rB4
          case yB4 =>
            intro w hSw
            (try dsimp only at hSw)
            go_simp
            try with_reducible rfl
          try simp only [List.setIfInBounds_toArray, List.set_cons_zero, List.set_cons_succ]
          refine wpAnyH_tk (i := 5) (oi := _) (v := ?vB5) rfl rfl (by kernel_rfl) (by kernel_rfl) (by kernel_rfl) (fun _ _ _ h => h) (Or.inl ⟨by kernel_rfl, ?yB5⟩) (by assumption) ?rB5
          case yB5 =>
            intro w hSw
            (try dsimp only at hSw)
            go_simp
            try with_reducible rfl
          try simp only [List.setIfInBounds_toArray, List.set_cons_zero, List.set_cons_succ]
          refine wpAnyH_tk (i := 7) (oi := _) (v := ?vB7) rfl rfl (by kernel_rfl) (by kernel_rfl) (by kernel_rfl) (fun _ _ _ h => h) (Or.inl ⟨by kernel_rfl, ?yB7⟩) (by assumption) ?rB7
          case yB7 =>
            intro w hSw
            (try dsimp only at hSw)
            go_simp
            try with_reducible rfl
          try simp only [List.setIfInBounds_toArray, List.set_cons_zero, List.set_cons_succ]
          refine wpAnyH_ready (rs := [6, 8]) (by kernel_rfl) (by simp) ?_
          refine AllReadyH.cons (o := _) rfl (fun K hK => ?Bway1) (AllReadyH.cons (o := _) rfl (fun K hK => ?Bway2) AllReadyH.nil)
          case Bway1 =>
            obtain ⟨v2, w2, v3, w3, v4, w4, r2, r3, r4, ho4, hb2, hb3, hb4⟩ := putN_chain ((((wa.drewN q).drewN nq1).drewN nq).drew) (some ⟨gs, o, none⟩) (some ⟨gs, o + k * 4, none⟩) c (c - (k)) (P.take k) (P.drop (k)) (xs, ⟨xd, xa, xc⟩) #[.string xs, .bool xc.dir, .slice xd xc.data.length xa, .int .i64 xc.time] rfl (HDR.out _ _ HRB.out) (HTK.out _ HRB.out) (by simp only [List.length_take, List.length_drop]; have := HN.out; omega)
            rw [show (P.drop (k)).length = n - (k) by rw [List.length_drop, HN.out]] at r4
            rw [show (P.take k).length = k by rw [List.length_take, HN.out]; omega] at r2
            have HB2 := hide (show Below wa.heap.size wa w2 from below_up HRB.out hb2 HRB.out.size)
            have HB3 := hide (show Below wa.heap.size wa w3 from below_up HRB.out hb3 HRB.out.size)
            have HB4 := hide (show Below wa.heap.size wa w4 from below_up HRB.out hb4 HRB.out.size)
            have ho5 := ho4.base (base' := wa.heap.size) (Nat.le_refl _)
            rw [← HQ.out] at ho5
            obtain ⟨A', c', rfl, hcp, hrg, hob, _⟩ := ho5.slice encE_len
            have HA' := hide (show ∀ a, A' = some a → wa.heap.size ≤ a.block from fun a e => (ho5.lt _ (hob a e)).1)
            have HCP := hide hcp
            have HRG := hide hrg
            clear ho4 ho5 hb2 hb3 hb4 hob hcp hrg
            refine step_app_run rfl _ _ rfl rfl rfl rfl r2 ?_
            refine hK.out _ _ (HS2.out _ HB2.out) (fun _ => ?_)
            clear hK K
            try simp only [Act.put, List.setIfInBounds_toArray, List.set_cons_zero, List.set_cons_succ]
            refine wpAnyH_ready (rs := [8]) (by kernel_rfl) (by simp) ?_
            refine AllReadyH.cons (o := _) rfl (fun K hK => ?_) AllReadyH.nil
            rw [if_pos (by kernel_rfl)]
            go_simp
            refine hK.out _ _ (HS2.out _ (HB2.out.alloc HB2.out.size _)) (fun _ => ?_)
            clear hK K
            try simp only [Act.put, List.setIfInBounds_toArray, List.set_cons_zero, List.set_cons_succ]
            refine wpAnyH_ready (rs := [9]) (by kernel_rfl) (by simp) ?_
            refine AllReadyH.cons (o := _) rfl (fun K hK => ?_) AllReadyH.nil
            refine step_app_run rfl _ _ rfl rfl rfl rfl r3 ?_
            refine hK.out _ _ (HS2.out _ HB3.out) (fun _ => ?_)
            clear hK K
            try simp only [Act.put, List.setIfInBounds_toArray, List.set_cons_zero, List.set_cons_succ]
            refine wpAnyH_tk (i := 10) (oi := _) (v := ?vBx10) rfl rfl (by kernel_rfl) (by kernel_rfl) (by kernel_rfl) (fun _ _ _ h => h) (Or.inl ⟨by kernel_rfl, ?yBx10⟩) (by assumption) ?rBx10
            case yBx10 =>
              intro w hSw
              (try dsimp only at hSw)
              go_simp
              try with_reducible rfl
            try simp only [List.setIfInBounds_toArray, List.set_cons_zero, List.set_cons_succ]
            refine wpAnyH_done (by kernel_rfl) ?_ _
            have hd2 := (HS2.out w3 HB3.out).1
            have hg4 := (HB4.out.block g hgl2).trans HRA.out.heap
            rw [HN.out] at hg4
            have hf4 := freeOf hg4 2
            have hcc4 := cellOf hg4 (j := 2) (v := .slice (some ⟨gs, o, none⟩) n c) rfl
            have HG5 := hide (heapSet (j := 2) hg4 (.slice A' (putG ((xs, ⟨xd, xa, xc⟩) : NV) P).length c'))
            obtain ⟨M, hM⟩ : ∃ m, (putG ((xs, ⟨xd, xa, xc⟩) : NV) P).length = m := ⟨_, rfl⟩
            rw [hM] at r4 HG5 HCP
            have HM := hide hM
            clear hg4 hM
            go_wp2_with (first | (at_builtin; refine wpList_app_run ?_ (.tmp 63) (.tmp 69) ?_ ?_ ?_ ?_ r4 ?_; exact rfl; exact rfl; exact rfl; exact rfl; exact rfl))
            go_end0
            have hsz : b ≤ wa.heap.size := by have := HBA.out.size; have := HBB.out; omega
            have hbb : Below b w w4 := below_up HBA.out HB4.out hsz
            refine ⟨rfl, A', c', ?_, ?_, ?_, ?_, ?_⟩
            · rw [HM.out]; exact HG5.out
            · rw [HM.out]; exact HCP.out
            · exact HRG.out.gb (gb_setCell (World.grownBy.refl w4 (some g)) 2 _) (fun a e h => by injection h with h; have := HA'.out a e; omega)
            · intro a e; have := HA'.out a e; have := HBB.out; omega
            · exact gb_setCell ⟨hbb.os, hbb.tape, hbb.output, hbb.size, fun i hi _ => hbb.block i (by have := HBB.out; omega)⟩ 2 _
          case Bway2 =>
            have HRB := hide (below_drewN (Below.refl wa.heap.size wa) (q + nq1 + nq + 1))
            obtain ⟨v2, w2, v3, w3, v4, w4, r2, r3, r4, ho4, hb2, hb3, hb4⟩ := putN_chain2 (wa.drewN (q + nq1 + nq + 1)) (some ⟨gs, o, none⟩) (some ⟨gs, o + k * 4, none⟩) c (c - (k)) (P.take k) (P.drop (k)) (xs, ⟨xd, xa, xc⟩) #[.string xs, .bool xc.dir, .slice xd xc.data.length xa, .int .i64 xc.time] rfl (HDR.out _ _ HRB.out) (HTK.out _ HRB.out) (by simp only [List.length_take, List.length_drop]; have := HN.out; omega)
            rw [show (P.drop (k)).length = n - (k) by rw [List.length_drop, HN.out]] at r4
            rw [show (P.take k).length = k by rw [List.length_take, HN.out]; omega] at r2
            have HB2 := hide (show Below wa.heap.size wa w2 from below_up HRB.out hb2 HRB.out.size)
            have HB3 := hide (show Below wa.heap.size wa w3 from below_up HRB.out hb3 HRB.out.size)
            have HB4 := hide (show Below wa.heap.size wa w4 from below_up HRB.out hb4 HRB.out.size)
            have ho5 := ho4.base (base' := wa.heap.size) (Nat.le_refl _)
            rw [← HQ.out] at ho5
            obtain ⟨A', c', rfl, hcp, hrg, hob, _⟩ := ho5.slice encE_len
            have HA' := hide (show ∀ a, A' = some a → wa.heap.size ≤ a.block from fun a e => (ho5.lt _ (hob a e)).1)
            have HCP := hide hcp
            have HRG := hide hrg
            clear ho4 ho5 hb2 hb3 hb4 hob hcp hrg
            rw [if_pos (by kernel_rfl)]
            go_simp
            refine hK.out _ _ (HS2.out _ (HRB.out.alloc HRB.out.size _)) (fun _ => ?_)
            clear hK K
            try simp only [Act.put, List.setIfInBounds_toArray, List.set_cons_zero, List.set_cons_succ]
            refine wpAnyH_ready (rs := [6]) (by kernel_rfl) (by simp) ?_
            refine AllReadyH.cons (o := _) rfl (fun K hK => ?_) AllReadyH.nil
            refine step_app_run rfl _ _ rfl rfl rfl rfl r2 ?_
            refine hK.out _ _ (HS2.out _ HB2.out) (fun _ => ?_)
            clear hK K
            try simp only [Act.put, List.setIfInBounds_toArray, List.set_cons_zero, List.set_cons_succ]
            refine wpAnyH_ready (rs := [9]) (by kernel_rfl) (by simp) ?_
            refine AllReadyH.cons (o := _) rfl (fun K hK => ?_) AllReadyH.nil
            refine step_app_run rfl _ _ rfl rfl rfl rfl r3 ?_
            refine hK.out _ _ (HS2.out _ HB3.out) (fun _ => ?_)
            clear hK K
            try simp only [Act.put, List.setIfInBounds_toArray, List.set_cons_zero, List.set_cons_succ]
            refine wpAnyH_tk (i := 10) (oi := _) (v := ?vBy10) rfl rfl (by kernel_rfl) (by kernel_rfl) (by kernel_rfl) (fun _ _ _ h => h) (Or.inl ⟨by kernel_rfl, ?yBy10⟩) (by assumption) ?rBy10
            case yBy10 =>
              intro w hSw
              (try dsimp only at hSw)
              go_simp
              try with_reducible rfl
            try simp only [List.setIfInBounds_toArray, List.set_cons_zero, List.set_cons_succ]
            refine wpAnyH_done (by kernel_rfl) ?_ _
            have hd2 := (HS2.out w3 HB3.out).1
            have hg4 := (HB4.out.block g hgl2).trans HRA.out.heap
            rw [HN.out] at hg4
            have hf4 := freeOf hg4 2
            have hcc4 := cellOf hg4 (j := 2) (v := .slice (some ⟨gs, o, none⟩) n c) rfl
            have HG5 := hide (heapSet (j := 2) hg4 (.slice A' (putG ((xs, ⟨xd, xa, xc⟩) : NV) P).length c'))
            obtain ⟨M, hM⟩ : ∃ m, (putG ((xs, ⟨xd, xa, xc⟩) : NV) P).length = m := ⟨_, rfl⟩
            rw [hM] at r4 HG5 HCP
            have HM := hide hM
            clear hg4 hM
            go_wp2_with (first | (at_builtin; refine wpList_app_run ?_ (.tmp 63) (.tmp 69) ?_ ?_ ?_ ?_ r4 ?_; exact rfl; exact rfl; exact rfl; exact rfl; exact rfl))
            go_end0
            have hsz : b ≤ wa.heap.size := by have := HBA.out.size; have := HBB.out; omega
            have hbb : Below b w w4 := below_up HBA.out HB4.out hsz
            refine ⟨rfl, A', c', ?_, ?_, ?_, ?_, ?_⟩
            · rw [HM.out]; exact HG5.out
            · rw [HM.out]; exact HCP.out
            · exact HRG.out.gb (gb_setCell (World.grownBy.refl w4 (some g)) 2 _) (fun a e h => by injection h with h; have := HA'.out a e; omega)
            · intro a e; have := HA'.out a e; have := HBB.out; omega
            · exact gb_setCell ⟨hbb.os, hbb.tape, hbb.output, hbb.size, fun i hi _ => hbb.block i (by have := HBB.out; omega)⟩ 2 _
    · obtain rfl : k = n := by omega
      have d1 : decide ((k : Int) < (k : Int)) = false := by simp
      have HQ := hide (show putG ((xs, ⟨xd, xa, xc⟩) : NV) P = P.take k ++ [(xs, ⟨xd, xa, xc⟩)] ++ P.drop k by
        rw [putG_at (x := ((xs, ⟨xd, xa, xc⟩) : NV)) P k (by have := HN.out; omega) HE.out (fun z hz => by rw [List.getElem?_eq_none (by have := HN.out; omega)] at hz; cases hz), List.getElem?_eq_none (by have := HN.out; omega)])
      have hkc : k ≤ c := by have := ho.cap; have := HN.out; omega
      have HTK := hide (fun (W : World) (h : Below wa.heap.size wa W) => show RG encE 4 W A (P.take k) from (HRA.out.below h).rg.take k)
      have HDE := hide (fun (A2 : Option Addr) (W : World) (_ : Below wa.heap.size wa W) => show RG encE 4 W A2 (P.drop k) from fun j s hj => by
        rw [List.getElem?_drop, List.getElem?_eq_none (by have := HN.out; omega)] at hj
        cases hj)
      clear ho hg
      rcases A with _ | a
      · have hz : k = 0 := by
          have hN := HN.out
          have hrg := HRA.out.rg
          rcases Nat.eq_zero_or_pos k with h | h
          · exact h
          · obtain ⟨_, _, e, _⟩ := hrg 0 (P[0]'(by omega)) (List.getElem?_eq_getElem _)
            cases e
        have HZ := hide hz
        clear hz
        go_wp2_with fail
        go_quiet (fail)
        obtain ⟨nq1, hnq1⟩ : ∃ z, z = nq := ⟨_, rfl⟩
        subst hnq1
        go_wp2_with fail
        go_quiet (fail)
        go_wp2_with fail
        have HRB := hide (show Below wa.heap.size wa ((((wa.drewN q).drewN nq1).drewN nq).drew) from (below_drewN (below_drewN (below_drewN (Below.refl wa.heap.size wa) _) _) _).drew)
        have hbl : b < wa.heap.size := (Array.getElem?_eq_some_iff.1 HNW.out).1
        have hgl2 : g < wa.heap.size := (Array.getElem?_eq_some_iff.1 HRA.out.heap).1
        have hx1 : wa.cell? ⟨b, 1, none⟩ = some (.bool xc.dir) := cellOf HNW.out (j := 1) rfl
        have hx2 : wa.cell? ⟨b, 2, none⟩ = some (.slice xd xc.data.length xa) := cellOf HNW.out (j := 2) rfl
        have hx3 : wa.cell? ⟨b, 3, none⟩ = some (.int .i64 xc.time) := cellOf HNW.out (j := 3) rfl
        have hs2 : ∀ W, Below wa.heap.size wa W → (fun w' => w'.cell? ⟨g, 2, none⟩ = some (.slice (none) k c) ∧ w'.cell? ⟨b, 0, none⟩ = some (.string xs) ∧ w'.cell? ⟨b, 1, none⟩ = some (.bool xc.dir) ∧ w'.cell? ⟨b, 2, none⟩ = some (.slice xd xc.data.length xa) ∧ w'.cell? ⟨b, 3, none⟩ = some (.int .i64 xc.time)) W := fun W h => ⟨(h.cell (p := ⟨g, 2, none⟩) hgl2).trans hc2, (h.cell (p := ⟨b, 0, none⟩) hbl).trans hx0, (h.cell (p := ⟨b, 1, none⟩) hbl).trans hx1, (h.cell (p := ⟨b, 2, none⟩) hbl).trans hx2, (h.cell (p := ⟨b, 3, none⟩) hbl).trans hx3⟩
        have HS2 := hide hs2
        clear hs2
        refine wp_region_held_drew (S := fun w' => w'.cell? ⟨g, 2, none⟩ = some (.slice (none) k c) ∧ w'.cell? ⟨b, 0, none⟩ = some (.string xs) ∧ w'.cell? ⟨b, 1, none⟩ = some (.bool xc.dir) ∧ w'.cell? ⟨b, 2, none⟩ = some (.slice xd xc.data.length xa) ∧ w'.cell? ⟨b, 3, none⟩ = some (.int .i64 xc.time)) (by kernel_rfl) (HS2.out _ HRB.out) (fun hHeld => ?_)
        refine wpAnyH_tk (i := 0) (oi := _) (v := ?vC0) rfl rfl (by kernel_rfl) (by kernel_rfl) (by kernel_rfl) (fun _ _ _ h => h) (Or.inl ⟨by kernel_rfl, ?yC0⟩) (by assumption) ?rC0
        case yC0 =>
          intro w hSw
          (try dsimp only at hSw)
          go_simp
          try with_reducible rfl
        try simp only [List.setIfInBounds_toArray, List.set_cons_zero, List.set_cons_succ]
        refine wpAnyH_tk (i := 1) (oi := _) (v := ?vC1) rfl rfl (by kernel_rfl) (by kernel_rfl) (by kernel_rfl) (fun _ _ _ h => h) (Or.inl ⟨by kernel_rfl, ?yC1⟩) (by assumption) ?rC1
        case yC1 =>
          intro w hSw
          (try dsimp only at hSw)
          go_simp
          try with_reducible rfl
        try simp only [List.setIfInBounds_toArray, List.set_cons_zero, List.set_cons_succ]
        refine wpAnyH_tk (i := 2) (oi := _) (v := ?vC2) rfl rfl (by kernel_rfl) (by kernel_rfl) (by kernel_rfl) (fun _ _ _ h => h) (Or.inl ⟨by kernel_rfl, ?yC2⟩) (by assumption) ?rC2
        case yC2 =>
          intro w hSw
          (try dsimp only at hSw)
          go_simp
          try with_reducible rfl
        try simp only [List.setIfInBounds_toArray, List.set_cons_zero, List.set_cons_succ]
        refine wpAnyH_tk (i := 3) (oi := _) (v := ?vC3) rfl rfl (by kernel_rfl) (by kernel_rfl) (by kernel_rfl) (fun _ _ _ h => h) (Or.inl ⟨by kernel_rfl, ?yC3⟩) (by assumption) ?rC3
        case yC3 =>
          intro w hSw
          (try dsimp only at hSw)
          go_simp
          try with_reducible rfl
        try simp only [List.setIfInBounds_toArray, List.set_cons_zero, List.set_cons_succ]
        refine wpAnyH_tk (i := 4) (oi := _) (v := ?vC4) rfl rfl (by kernel_rfl) (by kernel_rfl) (by kernel_rfl) (fun _ _ _ h => h) (Or.inl ⟨by kernel_rfl, ?yC4⟩) (by assumption) ?rC4
        case yC4 =>
          intro w hSw
          (try dsimp only at hSw)
          go_simp
          try with_reducible rfl
        try simp only [List.setIfInBounds_toArray, List.set_cons_zero, List.set_cons_succ]
        refine wpAnyH_tk (i := 5) (oi := _) (v := ?vC5) rfl rfl (by kernel_rfl) (by kernel_rfl) (by kernel_rfl) (fun _ _ _ h => h) (Or.inl ⟨by kernel_rfl, ?yC5⟩) (by assumption) ?rC5
        case yC5 =>
          intro w hSw
          (try dsimp only at hSw)
          go_simp
          try with_reducible rfl
        try simp only [List.setIfInBounds_toArray, List.set_cons_zero, List.set_cons_succ]
        refine wpAnyH_tk (i := 7) (oi := _) (v := ?vC7) rfl rfl (by kernel_rfl) (by kernel_rfl) (by kernel_rfl) (fun _ _ _ h => h) (Or.inl ⟨by kernel_rfl, ?yC7⟩) (by assumption) ?rC7
        case yC7 =>
          intro w hSw
          (try dsimp only at hSw)
          go_simp
          try with_reducible rfl
        try simp only [List.setIfInBounds_toArray, List.set_cons_zero, List.set_cons_succ]
        refine wpAnyH_ready (rs := [6, 8]) (by kernel_rfl) (by simp) ?_
        refine AllReadyH.cons (o := _) rfl (fun K hK => ?Cway1) (AllReadyH.cons (o := _) rfl (fun K hK => ?Cway2) AllReadyH.nil)
        case Cway1 =>
          obtain ⟨v2, w2, v3, w3, v4, w4, r2, r3, r4, ho4, hb2, hb3, hb4⟩ := putN_chain ((((wa.drewN q).drewN nq1).drewN nq).drew) (none) (none) c (c - (k)) (P.take k) (P.drop (k)) (xs, ⟨xd, xa, xc⟩) #[.string xs, .bool xc.dir, .slice xd xc.data.length xa, .int .i64 xc.time] rfl (HDE.out _ _ HRB.out) (HTK.out _ HRB.out) (by simp only [List.length_take, List.length_drop]; have := HN.out; omega)
          rw [show (P.drop (k)).length = 0 by rw [List.length_drop, HN.out]; omega] at r4
          rw [show (P.take k).length = k by rw [List.length_take, HN.out]; omega] at r2
          have HB2 := hide (show Below wa.heap.size wa w2 from below_up HRB.out hb2 HRB.out.size)
          have HB3 := hide (show Below wa.heap.size wa w3 from below_up HRB.out hb3 HRB.out.size)
          have HB4 := hide (show Below wa.heap.size wa w4 from below_up HRB.out hb4 HRB.out.size)
          have ho5 := ho4.base (base' := wa.heap.size) (Nat.le_refl _)
          rw [← HQ.out] at ho5
          obtain ⟨A', c', rfl, hcp, hrg, hob, _⟩ := ho5.slice encE_len
          have HA' := hide (show ∀ a, A' = some a → wa.heap.size ≤ a.block from fun a e => (ho5.lt _ (hob a e)).1)
          have HCP := hide hcp
          have HRG := hide hrg
          clear ho4 ho5 hb2 hb3 hb4 hob hcp hrg
          refine step_app_run rfl _ _ rfl rfl rfl rfl r2 ?_
          refine hK.out _ _ (HS2.out _ HB2.out) (fun _ => ?_)
          clear hK K
          try simp only [Act.put, List.setIfInBounds_toArray, List.set_cons_zero, List.set_cons_succ]
          refine wpAnyH_ready (rs := [8]) (by kernel_rfl) (by simp) ?_
          refine AllReadyH.cons (o := _) rfl (fun K hK => ?_) AllReadyH.nil
          rw [if_pos (by kernel_rfl)]
          go_simp
          refine hK.out _ _ (HS2.out _ (HB2.out.alloc HB2.out.size _)) (fun _ => ?_)
          clear hK K
          try simp only [Act.put, List.setIfInBounds_toArray, List.set_cons_zero, List.set_cons_succ]
          refine wpAnyH_ready (rs := [9]) (by kernel_rfl) (by simp) ?_
          refine AllReadyH.cons (o := _) rfl (fun K hK => ?_) AllReadyH.nil
          refine step_app_run rfl _ _ rfl rfl rfl rfl r3 ?_
          refine hK.out _ _ (HS2.out _ HB3.out) (fun _ => ?_)
          clear hK K
          try simp only [Act.put, List.setIfInBounds_toArray, List.set_cons_zero, List.set_cons_succ]
          refine wpAnyH_tk (i := 10) (oi := _) (v := ?vCx10) rfl rfl (by kernel_rfl) (by kernel_rfl) (by kernel_rfl) (fun _ _ _ h => h) (Or.inl ⟨by kernel_rfl, ?yCx10⟩) (by assumption) ?rCx10
          case yCx10 =>
            intro w hSw
            (try dsimp only at hSw)
            go_simp
            try with_reducible rfl
          try simp only [List.setIfInBounds_toArray, List.set_cons_zero, List.set_cons_succ]
          refine wpAnyH_done (by kernel_rfl) ?_ _
          have hd2 := (HS2.out w3 HB3.out).1
          have hg4 := (HB4.out.block g hgl2).trans HRA.out.heap
          rw [HN.out] at hg4
          have hf4 := freeOf hg4 2
          have hcc4 := cellOf hg4 (j := 2) (v := .slice none k c) rfl
          have HG5 := hide (heapSet (j := 2) hg4 (.slice A' (putG ((xs, ⟨xd, xa, xc⟩) : NV) P).length c'))
          obtain ⟨M, hM⟩ : ∃ m, (putG ((xs, ⟨xd, xa, xc⟩) : NV) P).length = m := ⟨_, rfl⟩
          rw [hM] at r4 HG5 HCP
          have HM := hide hM
          clear hg4 hM
          go_wp2_with (first | (at_builtin; refine wpList_app_run ?_ (.tmp 63) (.tmp 69) ?_ ?_ ?_ ?_ r4 ?_; exact rfl; exact rfl; exact rfl; exact rfl; exact rfl))
          go_end0
          have hsz : b ≤ wa.heap.size := by have := HBA.out.size; have := HBB.out; omega
          have hbb : Below b w w4 := below_up HBA.out HB4.out hsz
          refine ⟨rfl, A', c', ?_, ?_, ?_, ?_, ?_⟩
          · rw [HM.out]; exact HG5.out
          · rw [HM.out]; exact HCP.out
          · exact HRG.out.gb (gb_setCell (World.grownBy.refl w4 (some g)) 2 _) (fun a e h => by injection h with h; have := HA'.out a e; omega)
          · intro a e; have := HA'.out a e; have := HBB.out; omega
          · exact gb_setCell ⟨hbb.os, hbb.tape, hbb.output, hbb.size, fun i hi _ => hbb.block i (by have := HBB.out; omega)⟩ 2 _
        case Cway2 =>
          have HRB := hide (below_drewN (Below.refl wa.heap.size wa) (q + nq1 + nq + 1))
          obtain ⟨v2, w2, v3, w3, v4, w4, r2, r3, r4, ho4, hb2, hb3, hb4⟩ := putN_chain2 (wa.drewN (q + nq1 + nq + 1)) (none) (none) c (c - (k)) (P.take k) (P.drop (k)) (xs, ⟨xd, xa, xc⟩) #[.string xs, .bool xc.dir, .slice xd xc.data.length xa, .int .i64 xc.time] rfl (HDE.out _ _ HRB.out) (HTK.out _ HRB.out) (by simp only [List.length_take, List.length_drop]; have := HN.out; omega)
          rw [show (P.drop (k)).length = 0 by rw [List.length_drop, HN.out]; omega] at r4
          rw [show (P.take k).length = k by rw [List.length_take, HN.out]; omega] at r2
          have HB2 := hide (show Below wa.heap.size wa w2 from below_up HRB.out hb2 HRB.out.size)
          have HB3 := hide (show Below wa.heap.size wa w3 from below_up HRB.out hb3 HRB.out.size)
          have HB4 := hide (show Below wa.heap.size wa w4 from below_up HRB.out hb4 HRB.out.size)
          have ho5 := ho4.base (base' := wa.heap.size) (Nat.le_refl _)
          rw [← HQ.out] at ho5
          obtain ⟨A', c', rfl, hcp, hrg, hob, _⟩ := ho5.slice encE_len
          have HA' := hide (show ∀ a, A' = some a → wa.heap.size ≤ a.block from fun a e => (ho5.lt _ (hob a e)).1)
          have HCP := hide hcp
          have HRG := hide hrg
          clear ho4 ho5 hb2 hb3 hb4 hob hcp hrg
          rw [if_pos (by kernel_rfl)]
          go_simp
          refine hK.out _ _ (HS2.out _ (HRB.out.alloc HRB.out.size _)) (fun _ => ?_)
          clear hK K
          try simp only [Act.put, List.setIfInBounds_toArray, List.set_cons_zero, List.set_cons_succ]
          refine wpAnyH_ready (rs := [6]) (by kernel_rfl) (by simp) ?_
          refine AllReadyH.cons (o := _) rfl (fun K hK => ?_) AllReadyH.nil
          refine step_app_run rfl _ _ rfl rfl rfl rfl r2 ?_
          refine hK.out _ _ (HS2.out _ HB2.out) (fun _ => ?_)
          clear hK K
          try simp only [Act.put, List.setIfInBounds_toArray, List.set_cons_zero, List.set_cons_succ]
          refine wpAnyH_ready (rs := [9]) (by kernel_rfl) (by simp) ?_
          refine AllReadyH.cons (o := _) rfl (fun K hK => ?_) AllReadyH.nil
          refine step_app_run rfl _ _ rfl rfl rfl rfl r3 ?_
          refine hK.out _ _ (HS2.out _ HB3.out) (fun _ => ?_)
          clear hK K
          try simp only [Act.put, List.setIfInBounds_toArray, List.set_cons_zero, List.set_cons_succ]
          refine wpAnyH_tk (i := 10) (oi := _) (v := ?vCy10) rfl rfl (by kernel_rfl) (by kernel_rfl) (by kernel_rfl) (fun _ _ _ h => h) (Or.inl ⟨by kernel_rfl, ?yCy10⟩) (by assumption) ?rCy10
          case yCy10 =>
            intro w hSw
            (try dsimp only at hSw)
            go_simp
            try with_reducible rfl
          try simp only [List.setIfInBounds_toArray, List.set_cons_zero, List.set_cons_succ]
          refine wpAnyH_done (by kernel_rfl) ?_ _
          have hd2 := (HS2.out w3 HB3.out).1
          have hg4 := (HB4.out.block g hgl2).trans HRA.out.heap
          rw [HN.out] at hg4
          have hf4 := freeOf hg4 2
          have hcc4 := cellOf hg4 (j := 2) (v := .slice none k c) rfl
          have HG5 := hide (heapSet (j := 2) hg4 (.slice A' (putG ((xs, ⟨xd, xa, xc⟩) : NV) P).length c'))
          obtain ⟨M, hM⟩ : ∃ m, (putG ((xs, ⟨xd, xa, xc⟩) : NV) P).length = m := ⟨_, rfl⟩
          rw [hM] at r4 HG5 HCP
          have HM := hide hM
          clear hg4 hM
          go_wp2_with (first | (at_builtin; refine wpList_app_run ?_ (.tmp 63) (.tmp 69) ?_ ?_ ?_ ?_ r4 ?_; exact rfl; exact rfl; exact rfl; exact rfl; exact rfl))
          go_end0
          have hsz : b ≤ wa.heap.size := by have := HBA.out.size; have := HBB.out; omega
          have hbb : Below b w w4 := below_up HBA.out HB4.out hsz
          refine ⟨rfl, A', c', ?_, ?_, ?_, ?_, ?_⟩
          · rw [HM.out]; exact HG5.out
          · rw [HM.out]; exact HCP.out
          · exact HRG.out.gb (gb_setCell (World.grownBy.refl w4 (some g)) 2 _) (fun a e h => by injection h with h; have := HA'.out a e; omega)
          · intro a e; have := HA'.out a e; have := HBB.out; omega
          · exact gb_setCell ⟨hbb.os, hbb.tape, hbb.output, hbb.size, fun i hi _ => hbb.block i (by have := HBB.out; omega)⟩ 2 _
      · obtain ⟨gs, o, rfl⟩ := HA0.out a rfl
        by_cases hck : c = k
        · have HCK := hide hck
          clear hck
          go_wp2_with fail
          go_quiet (fail)
          obtain ⟨nq1, hnq1⟩ : ∃ z, z = nq := ⟨_, rfl⟩
          subst hnq1
          go_wp2_with fail
          go_quiet (fail)
          go_wp2_with fail
          have HRB := hide (show Below wa.heap.size wa ((((wa.drewN q).drewN nq1).drewN nq).drew) from (below_drewN (below_drewN (below_drewN (Below.refl wa.heap.size wa) _) _) _).drew)
          have hbl : b < wa.heap.size := (Array.getElem?_eq_some_iff.1 HNW.out).1
          have hgl2 : g < wa.heap.size := (Array.getElem?_eq_some_iff.1 HRA.out.heap).1
          have hx1 : wa.cell? ⟨b, 1, none⟩ = some (.bool xc.dir) := cellOf HNW.out (j := 1) rfl
          have hx2 : wa.cell? ⟨b, 2, none⟩ = some (.slice xd xc.data.length xa) := cellOf HNW.out (j := 2) rfl
          have hx3 : wa.cell? ⟨b, 3, none⟩ = some (.int .i64 xc.time) := cellOf HNW.out (j := 3) rfl
          have hs2 : ∀ W, Below wa.heap.size wa W → (fun w' => w'.cell? ⟨g, 2, none⟩ = some (.slice (some ⟨gs, o, none⟩) k c) ∧ w'.cell? ⟨b, 0, none⟩ = some (.string xs) ∧ w'.cell? ⟨b, 1, none⟩ = some (.bool xc.dir) ∧ w'.cell? ⟨b, 2, none⟩ = some (.slice xd xc.data.length xa) ∧ w'.cell? ⟨b, 3, none⟩ = some (.int .i64 xc.time)) W := fun W h => ⟨(h.cell (p := ⟨g, 2, none⟩) hgl2).trans hc2, (h.cell (p := ⟨b, 0, none⟩) hbl).trans hx0, (h.cell (p := ⟨b, 1, none⟩) hbl).trans hx1, (h.cell (p := ⟨b, 2, none⟩) hbl).trans hx2, (h.cell (p := ⟨b, 3, none⟩) hbl).trans hx3⟩
          have HS2 := hide hs2
          clear hs2
          refine wp_region_held_drew (S := fun w' => w'.cell? ⟨g, 2, none⟩ = some (.slice (some ⟨gs, o, none⟩) k c) ∧ w'.cell? ⟨b, 0, none⟩ = some (.string xs) ∧ w'.cell? ⟨b, 1, none⟩ = some (.bool xc.dir) ∧ w'.cell? ⟨b, 2, none⟩ = some (.slice xd xc.data.length xa) ∧ w'.cell? ⟨b, 3, none⟩ = some (.int .i64 xc.time)) (by kernel_rfl) (HS2.out _ HRB.out) (fun hHeld => ?_)
          refine wpAnyH_tk (i := 0) (oi := _) (v := ?vD0) rfl rfl (by kernel_rfl) (by kernel_rfl) (by kernel_rfl) (fun _ _ _ h => h) (Or.inl ⟨by kernel_rfl, ?yD0⟩) (by assumption) ?rD0
          case yD0 =>
            intro w hSw
            (try dsimp only at hSw)
            go_simp
            try with_reducible rfl
          try simp only [List.setIfInBounds_toArray, List.set_cons_zero, List.set_cons_succ]
          refine wpAnyH_tk (i := 1) (oi := _) (v := ?vD1) rfl rfl (by kernel_rfl) (by kernel_rfl) (by kernel_rfl) (fun _ _ _ h => h) (Or.inl ⟨by kernel_rfl, ?yD1⟩) (by assumption) ?rD1
          case yD1 =>
            intro w hSw
            (try dsimp only at hSw)
            go_simp
            try with_reducible rfl
          try simp only [List.setIfInBounds_toArray, List.set_cons_zero, List.set_cons_succ]
          refine wpAnyH_tk (i := 2) (oi := _) (v := ?vD2) rfl rfl (by kernel_rfl) (by kernel_rfl) (by kernel_rfl) (fun _ _ _ h => h) (Or.inl ⟨by kernel_rfl, ?yD2⟩) (by assumption) ?rD2
          case yD2 =>
            intro w hSw
            (try dsimp only at hSw)
            go_simp
            try with_reducible rfl
          try simp only [List.setIfInBounds_toArray, List.set_cons_zero, List.set_cons_succ]
          refine wpAnyH_tk (i := 3) (oi := _) (v := ?vD3) rfl rfl (by kernel_rfl) (by kernel_rfl) (by kernel_rfl) (fun _ _ _ h => h) (Or.inl ⟨by kernel_rfl, ?yD3⟩) (by assumption) ?rD3
          case yD3 =>
            intro w hSw
            (try dsimp only at hSw)
            go_simp
            try with_reducible rfl
          try simp only [List.setIfInBounds_toArray, List.set_cons_zero, List.set_cons_succ]
          refine wpAnyH_tk (i := 4) (oi := _) (v := ?vD4) rfl rfl (by kernel_rfl) (by kernel_rfl) (by kernel_rfl) (fun _ _ _ h => h) (Or.inl ⟨by kernel_rfl, ?yD4⟩) (by assumption) ?rD4
          case yD4 =>
            intro w hSw
            (try dsimp only at hSw)
            go_simp
            try with_reducible rfl
          try simp only [List.setIfInBounds_toArray, List.set_cons_zero, List.set_cons_succ]
          refine wpAnyH_tk (i := 5) (oi := _) (v := ?vD5) rfl rfl (by kernel_rfl) (by kernel_rfl) (by kernel_rfl) (fun _ _ _ h => h) (Or.inl ⟨by kernel_rfl, ?yD5⟩) (by assumption) ?rD5
          case yD5 =>
            intro w hSw
            (try dsimp only at hSw)
            go_simp
            try with_reducible rfl
          try simp only [List.setIfInBounds_toArray, List.set_cons_zero, List.set_cons_succ]
          refine wpAnyH_tk (i := 7) (oi := _) (v := ?vD7) rfl rfl (by kernel_rfl) (by kernel_rfl) (by kernel_rfl) (fun _ _ _ h => h) (Or.inl ⟨by kernel_rfl, ?yD7⟩) (by assumption) ?rD7
          case yD7 =>
            intro w hSw
            (try dsimp only at hSw)
            go_simp
            try with_reducible rfl
          try simp only [List.setIfInBounds_toArray, List.set_cons_zero, List.set_cons_succ]
          refine wpAnyH_ready (rs := [6, 8]) (by kernel_rfl) (by simp) ?_
          refine AllReadyH.cons (o := _) rfl (fun K hK => ?Dway1) (AllReadyH.cons (o := _) rfl (fun K hK => ?Dway2) AllReadyH.nil)
          case Dway1 =>
            obtain ⟨v2, w2, v3, w3, v4, w4, r2, r3, r4, ho4, hb2, hb3, hb4⟩ := putN_chain ((((wa.drewN q).drewN nq1).drewN nq).drew) (some ⟨gs, o, none⟩) (some ⟨gs, o, none⟩) c (c - (k)) (P.take k) (P.drop (k)) (xs, ⟨xd, xa, xc⟩) #[.string xs, .bool xc.dir, .slice xd xc.data.length xa, .int .i64 xc.time] rfl (HDE.out _ _ HRB.out) (HTK.out _ HRB.out) (by simp only [List.length_take, List.length_drop]; have := HN.out; omega)
            rw [show (P.drop (k)).length = 0 by rw [List.length_drop, HN.out]; omega] at r4
            rw [show (P.take k).length = k by rw [List.length_take, HN.out]; omega] at r2
            have HB2 := hide (show Below wa.heap.size wa w2 from below_up HRB.out hb2 HRB.out.size)
            have HB3 := hide (show Below wa.heap.size wa w3 from below_up HRB.out hb3 HRB.out.size)
            have HB4 := hide (show Below wa.heap.size wa w4 from below_up HRB.out hb4 HRB.out.size)
            have ho5 := ho4.base (base' := wa.heap.size) (Nat.le_refl _)
            rw [← HQ.out] at ho5
            obtain ⟨A', c', rfl, hcp, hrg, hob, _⟩ := ho5.slice encE_len
            have HA' := hide (show ∀ a, A' = some a → wa.heap.size ≤ a.block from fun a e => (ho5.lt _ (hob a e)).1)
            have HCP := hide hcp
            have HRG := hide hrg
            clear ho4 ho5 hb2 hb3 hb4 hob hcp hrg
            refine step_app_run rfl _ _ rfl rfl rfl rfl r2 ?_
            refine hK.out _ _ (HS2.out _ HB2.out) (fun _ => ?_)
            clear hK K
            try simp only [Act.put, List.setIfInBounds_toArray, List.set_cons_zero, List.set_cons_succ]
            refine wpAnyH_ready (rs := [8]) (by kernel_rfl) (by simp) ?_
            refine AllReadyH.cons (o := _) rfl (fun K hK => ?_) AllReadyH.nil
            rw [if_pos (by kernel_rfl)]
            go_simp
            refine hK.out _ _ (HS2.out _ (HB2.out.alloc HB2.out.size _)) (fun _ => ?_)
            clear hK K
            try simp only [Act.put, List.setIfInBounds_toArray, List.set_cons_zero, List.set_cons_succ]
            refine wpAnyH_ready (rs := [9]) (by kernel_rfl) (by simp) ?_
            refine AllReadyH.cons (o := _) rfl (fun K hK => ?_) AllReadyH.nil
            refine step_app_run rfl _ _ rfl rfl rfl rfl r3 ?_
            refine hK.out _ _ (HS2.out _ HB3.out) (fun _ => ?_)
            clear hK K
            try simp only [Act.put, List.setIfInBounds_toArray, List.set_cons_zero, List.set_cons_succ]
            refine wpAnyH_tk (i := 10) (oi := _) (v := ?vDx10) rfl rfl (by kernel_rfl) (by kernel_rfl) (by kernel_rfl) (fun _ _ _ h => h) (Or.inl ⟨by kernel_rfl, ?yDx10⟩) (by assumption) ?rDx10
            case yDx10 =>
              intro w hSw
              (try dsimp only at hSw)
              go_simp
              try with_reducible rfl
            try simp only [List.setIfInBounds_toArray, List.set_cons_zero, List.set_cons_succ]
            refine wpAnyH_done (by kernel_rfl) ?_ _
            have hck2 : (c = k) = True := eq_true HCK.out
            have hd2 := (HS2.out w3 HB3.out).1
            have hg4 := (HB4.out.block g hgl2).trans HRA.out.heap
            rw [HN.out] at hg4
            have hf4 := freeOf hg4 2
            have hcc4 := cellOf hg4 (j := 2) (v := .slice (some ⟨gs, o, none⟩) k c) rfl
            have HG5 := hide (heapSet (j := 2) hg4 (.slice A' (putG ((xs, ⟨xd, xa, xc⟩) : NV) P).length c'))
            obtain ⟨M, hM⟩ : ∃ m, (putG ((xs, ⟨xd, xa, xc⟩) : NV) P).length = m := ⟨_, rfl⟩
            rw [hM] at r4 HG5 HCP
            have HM := hide hM
            clear hg4 hM
            go_wp2_with (first | (at_builtin; refine wpList_app_run ?_ (.tmp 63) (.tmp 69) ?_ ?_ ?_ ?_ r4 ?_; exact rfl; exact rfl; exact rfl; exact rfl; exact rfl))
            go_end0
            have hsz : b ≤ wa.heap.size := by have := HBA.out.size; have := HBB.out; omega
            have hbb : Below b w w4 := below_up HBA.out HB4.out hsz
            refine ⟨rfl, A', c', ?_, ?_, ?_, ?_, ?_⟩
            · rw [HM.out]; exact HG5.out
            · rw [HM.out]; exact HCP.out
            · exact HRG.out.gb (gb_setCell (World.grownBy.refl w4 (some g)) 2 _) (fun a e h => by injection h with h; have := HA'.out a e; omega)
            · intro a e; have := HA'.out a e; have := HBB.out; omega
            · exact gb_setCell ⟨hbb.os, hbb.tape, hbb.output, hbb.size, fun i hi _ => hbb.block i (by have := HBB.out; omega)⟩ 2 _
          case Dway2 =>
            have HRB := hide (below_drewN (Below.refl wa.heap.size wa) (q + nq1 + nq + 1))
            obtain ⟨v2, w2, v3, w3, v4, w4, r2, r3, r4, ho4, hb2, hb3, hb4⟩ := putN_chain2 (wa.drewN (q + nq1 + nq + 1)) (some ⟨gs, o, none⟩) (some ⟨gs, o, none⟩) c (c - (k)) (P.take k) (P.drop (k)) (xs, ⟨xd, xa, xc⟩) #[.string xs, .bool xc.dir, .slice xd xc.data.length xa, .int .i64 xc.time] rfl (HDE.out _ _ HRB.out) (HTK.out _ HRB.out) (by simp only [List.length_take, List.length_drop]; have := HN.out; omega)
            rw [show (P.drop (k)).length = 0 by rw [List.length_drop, HN.out]; omega] at r4
            rw [show (P.take k).length = k by rw [List.length_take, HN.out]; omega] at r2
            have HB2 := hide (show Below wa.heap.size wa w2 from below_up HRB.out hb2 HRB.out.size)
            have HB3 := hide (show Below wa.heap.size wa w3 from below_up HRB.out hb3 HRB.out.size)
            have HB4 := hide (show Below wa.heap.size wa w4 from below_up HRB.out hb4 HRB.out.size)
            have ho5 := ho4.base (base' := wa.heap.size) (Nat.le_refl _)
            rw [← HQ.out] at ho5
            obtain ⟨A', c', rfl, hcp, hrg, hob, _⟩ := ho5.slice encE_len
            have HA' := hide (show ∀ a, A' = some a → wa.heap.size ≤ a.block from fun a e => (ho5.lt _ (hob a e)).1)
            have HCP := hide hcp
            have HRG := hide hrg
            clear ho4 ho5 hb2 hb3 hb4 hob hcp hrg
            rw [if_pos (by kernel_rfl)]
            go_simp
            refine hK.out _ _ (HS2.out _ (HRB.out.alloc HRB.out.size _)) (fun _ => ?_)
            clear hK K
            try simp only [Act.put, List.setIfInBounds_toArray, List.set_cons_zero, List.set_cons_succ]
            refine wpAnyH_ready (rs := [6]) (by kernel_rfl) (by simp) ?_
            refine AllReadyH.cons (o := _) rfl (fun K hK => ?_) AllReadyH.nil
            refine step_app_run rfl _ _ rfl rfl rfl rfl r2 ?_
            refine hK.out _ _ (HS2.out _ HB2.out) (fun _ => ?_)
            clear hK K
            try simp only [Act.put, List.setIfInBounds_toArray, List.set_cons_zero, List.set_cons_succ]
            refine wpAnyH_ready (rs := [9]) (by kernel_rfl) (by simp) ?_
            refine AllReadyH.cons (o := _) rfl (fun K hK => ?_) AllReadyH.nil
            refine step_app_run rfl _ _ rfl rfl rfl rfl r3 ?_
            refine hK.out _ _ (HS2.out _ HB3.out) (fun _ => ?_)
            clear hK K
            try simp only [Act.put, List.setIfInBounds_toArray, List.set_cons_zero, List.set_cons_succ]
            refine wpAnyH_tk (i := 10) (oi := _) (v := ?vDy10) rfl rfl (by kernel_rfl) (by kernel_rfl) (by kernel_rfl) (fun _ _ _ h => h) (Or.inl ⟨by kernel_rfl, ?yDy10⟩) (by assumption) ?rDy10
            case yDy10 =>
              intro w hSw
              (try dsimp only at hSw)
              go_simp
              try with_reducible rfl
            try simp only [List.setIfInBounds_toArray, List.set_cons_zero, List.set_cons_succ]
            refine wpAnyH_done (by kernel_rfl) ?_ _
            have hck2 : (c = k) = True := eq_true HCK.out
            have hd2 := (HS2.out w3 HB3.out).1
            have hg4 := (HB4.out.block g hgl2).trans HRA.out.heap
            rw [HN.out] at hg4
            have hf4 := freeOf hg4 2
            have hcc4 := cellOf hg4 (j := 2) (v := .slice (some ⟨gs, o, none⟩) k c) rfl
            have HG5 := hide (heapSet (j := 2) hg4 (.slice A' (putG ((xs, ⟨xd, xa, xc⟩) : NV) P).length c'))
            obtain ⟨M, hM⟩ : ∃ m, (putG ((xs, ⟨xd, xa, xc⟩) : NV) P).length = m := ⟨_, rfl⟩
            rw [hM] at r4 HG5 HCP
            have HM := hide hM
            clear hg4 hM
            go_wp2_with (first | (at_builtin; refine wpList_app_run ?_ (.tmp 63) (.tmp 69) ?_ ?_ ?_ ?_ r4 ?_; exact rfl; exact rfl; exact rfl; exact rfl; exact rfl))
            go_end0
            have hsz : b ≤ wa.heap.size := by have := HBA.out.size; have := HBB.out; omega
            have hbb : Below b w w4 := below_up HBA.out HB4.out hsz
            refine ⟨rfl, A', c', ?_, ?_, ?_, ?_, ?_⟩
            · rw [HM.out]; exact HG5.out
            · rw [HM.out]; exact HCP.out
            · exact HRG.out.gb (gb_setCell (World.grownBy.refl w4 (some g)) 2 _) (fun a e h => by injection h with h; have := HA'.out a e; omega)
            · intro a e; have := HA'.out a e; have := HBB.out; omega
            · exact gb_setCell ⟨hbb.os, hbb.tape, hbb.output, hbb.size, fun i hi _ => hbb.block i (by have := HBB.out; omega)⟩ 2 _
        · skip
          go_wp2_with fail
          go_quiet (fail)
          obtain ⟨nq1, hnq1⟩ : ∃ z, z = nq := ⟨_, rfl⟩
          subst hnq1
          go_wp2_with fail
          go_quiet (fail)
          go_wp2_with fail
          have HRB := hide (show Below wa.heap.size wa ((((wa.drewN q).drewN nq1).drewN nq).drew) from (below_drewN (below_drewN (below_drewN (Below.refl wa.heap.size wa) _) _) _).drew)
          have hbl : b < wa.heap.size := (Array.getElem?_eq_some_iff.1 HNW.out).1
          have hgl2 : g < wa.heap.size := (Array.getElem?_eq_some_iff.1 HRA.out.heap).1
          have hx1 : wa.cell? ⟨b, 1, none⟩ = some (.bool xc.dir) := cellOf HNW.out (j := 1) rfl
          have hx2 : wa.cell? ⟨b, 2, none⟩ = some (.slice xd xc.data.length xa) := cellOf HNW.out (j := 2) rfl
          have hx3 : wa.cell? ⟨b, 3, none⟩ = some (.int .i64 xc.time) := cellOf HNW.out (j := 3) rfl
          have hs2 : ∀ W, Below wa.heap.size wa W → (fun w' => w'.cell? ⟨g, 2, none⟩ = some (.slice (some ⟨gs, o, none⟩) k c) ∧ w'.cell? ⟨b, 0, none⟩ = some (.string xs) ∧ w'.cell? ⟨b, 1, none⟩ = some (.bool xc.dir) ∧ w'.cell? ⟨b, 2, none⟩ = some (.slice xd xc.data.length xa) ∧ w'.cell? ⟨b, 3, none⟩ = some (.int .i64 xc.time)) W := fun W h => ⟨(h.cell (p := ⟨g, 2, none⟩) hgl2).trans hc2, (h.cell (p := ⟨b, 0, none⟩) hbl).trans hx0, (h.cell (p := ⟨b, 1, none⟩) hbl).trans hx1, (h.cell (p := ⟨b, 2, none⟩) hbl).trans hx2, (h.cell (p := ⟨b, 3, none⟩) hbl).trans hx3⟩
          have HS2 := hide hs2
          clear hs2
          refine wp_region_held_drew (S := fun w' => w'.cell? ⟨g, 2, none⟩ = some (.slice (some ⟨gs, o, none⟩) k c) ∧ w'.cell? ⟨b, 0, none⟩ = some (.string xs) ∧ w'.cell? ⟨b, 1, none⟩ = some (.bool xc.dir) ∧ w'.cell? ⟨b, 2, none⟩ = some (.slice xd xc.data.length xa) ∧ w'.cell? ⟨b, 3, none⟩ = some (.int .i64 xc.time)) (by kernel_rfl) (HS2.out _ HRB.out) (fun hHeld => ?_)
          refine wpAnyH_tk (i := 0) (oi := _) (v := ?vE0) rfl rfl (by kernel_rfl) (by kernel_rfl) (by kernel_rfl) (fun _ _ _ h => h) (Or.inl ⟨by kernel_rfl, ?yE0⟩) (by assumption) ?rE0
          case yE0 =>
            intro w hSw
            (try dsimp only at hSw)
            go_simp
            try with_reducible rfl
          try simp only [List.setIfInBounds_toArray, List.set_cons_zero, List.set_cons_succ]
          refine wpAnyH_tk (i := 1) (oi := _) (v := ?vE1) rfl rfl (by kernel_rfl) (by kernel_rfl) (by kernel_rfl) (fun _ _ _ h => h) (Or.inl ⟨by kernel_rfl, ?yE1⟩) (by assumption) ?rE1
          case yE1 =>
            intro w hSw
            (try dsimp only at hSw)
            go_simp
            try with_reducible rfl
          try simp only [List.setIfInBounds_toArray, List.set_cons_zero, List.set_cons_succ]
          refine wpAnyH_tk (i := 2) (oi := _) (v := ?vE2) rfl rfl (by kernel_rfl) (by kernel_rfl) (by kernel_rfl) (fun _ _ _ h => h) (Or.inl ⟨by kernel_rfl, ?yE2⟩) (by assumption) ?rE2
          case yE2 =>
            intro w hSw
            (try dsimp only at hSw)
            go_simp
            try with_reducible rfl
          try simp only [List.setIfInBounds_toArray, List.set_cons_zero, List.set_cons_succ]
          refine wpAnyH_tk (i := 3) (oi := _) (v := ?vE3) rfl rfl (by kernel_rfl) (by kernel_rfl) (by kernel_rfl) (fun _ _ _ h => h) (Or.inl ⟨by kernel_rfl, ?yE3⟩) (by assumption) ?rE3
          case yE3 =>
            intro w hSw
            (try dsimp only at hSw)
            go_simp
            try with_reducible rfl
          try simp only [List.setIfInBounds_toArray, List.set_cons_zero, List.set_cons_succ]
          refine wpAnyH_tk (i := 4) (oi := _) (v := ?vE4) rfl rfl (by kernel_rfl) (by kernel_rfl) (by kernel_rfl) (fun _ _ _ h => h) (Or.inl ⟨by kernel_rfl, ?yE4⟩) (by assumption) ?rE4
          case yE4 =>
            intro w hSw
            (try dsimp only at hSw)
            go_simp
            try with_reducible rfl
          try simp only [List.setIfInBounds_toArray, List.set_cons_zero, List.set_cons_succ]
          refine wpAnyH_tk (i := 5) (oi := _) (v := ?vE5) rfl rfl (by kernel_rfl) (by kernel_rfl) (by kernel_rfl) (fun _ _ _ h => h) (Or.inl ⟨by kernel_rfl, ?yE5⟩) (by assumption) ?rE5
          case yE5 =>
            intro w hSw
            (try dsimp only at hSw)
            go_simp
            try with_reducible rfl
          try simp only [List.setIfInBounds_toArray, List.set_cons_zero, List.set_cons_succ]
          refine wpAnyH_tk (i := 7) (oi := _) (v := ?vE7) rfl rfl (by kernel_rfl) (by kernel_rfl) (by kernel_rfl) (fun _ _ _ h => h) (Or.inl ⟨by kernel_rfl, ?yE7⟩) (by assumption) ?rE7
          case yE7 =>
            intro w hSw
            (try dsimp only at hSw)
            go_simp
            try with_reducible rfl
          try simp only [List.setIfInBounds_toArray, List.set_cons_zero, List.set_cons_succ]
          refine wpAnyH_ready (rs := [6, 8]) (by kernel_rfl) (by simp) ?_
          refine AllReadyH.cons (o := _) rfl (fun K hK => ?Eway1) (AllReadyH.cons (o := _) rfl (fun K hK => ?Eway2) AllReadyH.nil)
          case Eway1 =>
            obtain ⟨v2, w2, v3, w3, v4, w4, r2, r3, r4, ho4, hb2, hb3, hb4⟩ := putN_chain ((((wa.drewN q).drewN nq1).drewN nq).drew) (some ⟨gs, o, none⟩) (some ⟨gs, o + k * 4, none⟩) c (c - (k)) (P.take k) (P.drop (k)) (xs, ⟨xd, xa, xc⟩) #[.string xs, .bool xc.dir, .slice xd xc.data.length xa, .int .i64 xc.time] rfl (HDE.out _ _ HRB.out) (HTK.out _ HRB.out) (by simp only [List.length_take, List.length_drop]; have := HN.out; omega)
            rw [show (P.drop (k)).length = 0 by rw [List.length_drop, HN.out]; omega] at r4
            rw [show (P.take k).length = k by rw [List.length_take, HN.out]; omega] at r2
            have HB2 := hide (show Below wa.heap.size wa w2 from below_up HRB.out hb2 HRB.out.size)
            have HB3 := hide (show Below wa.heap.size wa w3 from below_up HRB.out hb3 HRB.out.size)
            have HB4 := hide (show Below wa.heap.size wa w4 from below_up HRB.out hb4 HRB.out.size)
            have ho5 := ho4.base (base' := wa.heap.size) (Nat.le_refl _)
            rw [← HQ.out] at ho5
            obtain ⟨A', c', rfl, hcp, hrg, hob, _⟩ := ho5.slice encE_len
            have HA' := hide (show ∀ a, A' = some a → wa.heap.size ≤ a.block from fun a e => (ho5.lt _ (hob a e)).1)
            have HCP := hide hcp
            have HRG := hide hrg
            clear ho4 ho5 hb2 hb3 hb4 hob hcp hrg
            refine step_app_run rfl _ _ rfl rfl rfl rfl r2 ?_
            refine hK.out _ _ (HS2.out _ HB2.out) (fun _ => ?_)
            clear hK K
            try simp only [Act.put, List.setIfInBounds_toArray, List.set_cons_zero, List.set_cons_succ]
            refine wpAnyH_ready (rs := [8]) (by kernel_rfl) (by simp) ?_
            refine AllReadyH.cons (o := _) rfl (fun K hK => ?_) AllReadyH.nil
            rw [if_pos (by kernel_rfl)]
            go_simp
            refine hK.out _ _ (HS2.out _ (HB2.out.alloc HB2.out.size _)) (fun _ => ?_)
            clear hK K
            try simp only [Act.put, List.setIfInBounds_toArray, List.set_cons_zero, List.set_cons_succ]
            refine wpAnyH_ready (rs := [9]) (by kernel_rfl) (by simp) ?_
            refine AllReadyH.cons (o := _) rfl (fun K hK => ?_) AllReadyH.nil
            refine step_app_run rfl _ _ rfl rfl rfl rfl r3 ?_
            refine hK.out _ _ (HS2.out _ HB3.out) (fun _ => ?_)
            clear hK K
            try simp only [Act.put, List.setIfInBounds_toArray, List.set_cons_zero, List.set_cons_succ]
            refine wpAnyH_tk (i := 10) (oi := _) (v := ?vEx10) rfl rfl (by kernel_rfl) (by kernel_rfl) (by kernel_rfl) (fun _ _ _ h => h) (Or.inl ⟨by kernel_rfl, ?yEx10⟩) (by assumption) ?rEx10
            case yEx10 =>
              intro w hSw
              (try dsimp only at hSw)
              go_simp
              try with_reducible rfl
            try simp only [List.setIfInBounds_toArray, List.set_cons_zero, List.set_cons_succ]
            refine wpAnyH_done (by kernel_rfl) ?_ _
            have hd2 := (HS2.out w3 HB3.out).1
            have hg4 := (HB4.out.block g hgl2).trans HRA.out.heap
            rw [HN.out] at hg4
            have hf4 := freeOf hg4 2
            have hcc4 := cellOf hg4 (j := 2) (v := .slice (some ⟨gs, o, none⟩) k c) rfl
            have HG5 := hide (heapSet (j := 2) hg4 (.slice A' (putG ((xs, ⟨xd, xa, xc⟩) : NV) P).length c'))
            obtain ⟨M, hM⟩ : ∃ m, (putG ((xs, ⟨xd, xa, xc⟩) : NV) P).length = m := ⟨_, rfl⟩
            rw [hM] at r4 HG5 HCP
            have HM := hide hM
            clear hg4 hM
            go_wp2_with (first | (at_builtin; refine wpList_app_run ?_ (.tmp 63) (.tmp 69) ?_ ?_ ?_ ?_ r4 ?_; exact rfl; exact rfl; exact rfl; exact rfl; exact rfl))
            go_end0
            have hsz : b ≤ wa.heap.size := by have := HBA.out.size; have := HBB.out; omega
            have hbb : Below b w w4 := below_up HBA.out HB4.out hsz
            refine ⟨rfl, A', c', ?_, ?_, ?_, ?_, ?_⟩
            · rw [HM.out]; exact HG5.out
            · rw [HM.out]; exact HCP.out
            · exact HRG.out.gb (gb_setCell (World.grownBy.refl w4 (some g)) 2 _) (fun a e h => by injection h with h; have := HA'.out a e; omega)
            · intro a e; have := HA'.out a e; have := HBB.out; omega
            · exact gb_setCell ⟨hbb.os, hbb.tape, hbb.output, hbb.size, fun i hi _ => hbb.block i (by have := HBB.out; omega)⟩ 2 _
          case Eway2 =>
            have HRB := hide (below_drewN (Below.refl wa.heap.size wa) (q + nq1 + nq + 1))
            obtain ⟨v2, w2, v3, w3, v4, w4, r2, r3, r4, ho4, hb2, hb3, hb4⟩ := putN_chain2 (wa.drewN (q + nq1 + nq + 1)) (some ⟨gs, o, none⟩) (some ⟨gs, o + k * 4, none⟩) c (c - (k)) (P.take k) (P.drop (k)) (xs, ⟨xd, xa, xc⟩) #[.string xs, .bool xc.dir, .slice xd xc.data.length xa, .int .i64 xc.time] rfl (HDE.out _ _ HRB.out) (HTK.out _ HRB.out) (by simp only [List.length_take, List.length_drop]; have := HN.out; omega)
            rw [show (P.drop (k)).length = 0 by rw [List.length_drop, HN.out]; omega] at r4
            rw [show (P.take k).length = k by rw [List.length_take, HN.out]; omega] at r2
            have HB2 := hide (show Below wa.heap.size wa w2 from below_up HRB.out hb2 HRB.out.size)
            have HB3 := hide (show Below wa.heap.size wa w3 from below_up HRB.out hb3 HRB.out.size)
            have HB4 := hide (show Below wa.heap.size wa w4 from below_up HRB.out hb4 HRB.out.size)
            have ho5 := ho4.base (base' := wa.heap.size) (Nat.le_refl _)
            rw [← HQ.out] at ho5
            obtain ⟨A', c', rfl, hcp, hrg, hob, _⟩ := ho5.slice encE_len
            have HA' := hide (show ∀ a, A' = some a → wa.heap.size ≤ a.block from fun a e => (ho5.lt _ (hob a e)).1)
            have HCP := hide hcp
            have HRG := hide hrg
            clear ho4 ho5 hb2 hb3 hb4 hob hcp hrg
            rw [if_pos (by kernel_rfl)]
            go_simp
            refine hK.out _ _ (HS2.out _ (HRB.out.alloc HRB.out.size _)) (fun _ => ?_)
            clear hK K
            try simp only [Act.put, List.setIfInBounds_toArray, List.set_cons_zero, List.set_cons_succ]
            refine wpAnyH_ready (rs := [6]) (by kernel_rfl) (by simp) ?_
            refine AllReadyH.cons (o := _) rfl (fun K hK => ?_) AllReadyH.nil
            refine step_app_run rfl _ _ rfl rfl rfl rfl r2 ?_
            refine hK.out _ _ (HS2.out _ HB2.out) (fun _ => ?_)
            clear hK K
            try simp only [Act.put, List.setIfInBounds_toArray, List.set_cons_zero, List.set_cons_succ]
            refine wpAnyH_ready (rs := [9]) (by kernel_rfl) (by simp) ?_
            refine AllReadyH.cons (o := _) rfl (fun K hK => ?_) AllReadyH.nil
            refine step_app_run rfl _ _ rfl rfl rfl rfl r3 ?_
            refine hK.out _ _ (HS2.out _ HB3.out) (fun _ => ?_)
            clear hK K
            try simp only [Act.put, List.setIfInBounds_toArray, List.set_cons_zero, List.set_cons_succ]
            refine wpAnyH_tk (i := 10) (oi := _) (v := ?vEy10) rfl rfl (by kernel_rfl) (by kernel_rfl) (by kernel_rfl) (fun _ _ _ h => h) (Or.inl ⟨by kernel_rfl, ?yEy10⟩) (by assumption) ?rEy10
            case yEy10 =>
              intro w hSw
              (try dsimp only at hSw)
              go_simp
              try with_reducible rfl
            try simp only [List.setIfInBounds_toArray, List.set_cons_zero, List.set_cons_succ]
            refine wpAnyH_done (by kernel_rfl) ?_ _
            have hd2 := (HS2.out w3 HB3.out).1
            have hg4 := (HB4.out.block g hgl2).trans HRA.out.heap
            rw [HN.out] at hg4
            have hf4 := freeOf hg4 2
            have hcc4 := cellOf hg4 (j := 2) (v := .slice (some ⟨gs, o, none⟩) k c) rfl
            have HG5 := hide (heapSet (j := 2) hg4 (.slice A' (putG ((xs, ⟨xd, xa, xc⟩) : NV) P).length c'))
            obtain ⟨M, hM⟩ : ∃ m, (putG ((xs, ⟨xd, xa, xc⟩) : NV) P).length = m := ⟨_, rfl⟩
            rw [hM] at r4 HG5 HCP
            have HM := hide hM
            clear hg4 hM
            go_wp2_with (first | (at_builtin; refine wpList_app_run ?_ (.tmp 63) (.tmp 69) ?_ ?_ ?_ ?_ r4 ?_; exact rfl; exact rfl; exact rfl; exact rfl; exact rfl))
            go_end0
            have hsz : b ≤ wa.heap.size := by have := HBA.out.size; have := HBB.out; omega
            have hbb : Below b w w4 := below_up HBA.out HB4.out hsz
            refine ⟨rfl, A', c', ?_, ?_, ?_, ?_, ?_⟩
            · rw [HM.out]; exact HG5.out
            · rw [HM.out]; exact HCP.out
            · exact HRG.out.gb (gb_setCell (World.grownBy.refl w4 (some g)) 2 _) (fun a e h => by injection h with h; have := HA'.out a e; omega)
            · intro a e; have := HA'.out a e; have := HBB.out; omega
            · exact gb_setCell ⟨hbb.os, hbb.tape, hbb.output, hbb.size, fun i hi _ => hbb.block i (by have := HBB.out; omega)⟩ 2 _
end Go.Proofs.YtaajofojbhdgaaaGreatDoor
/- Walks of the reference's cut, New. Walk of the reference's Copy. The reference's file system behind a call that changes it: its own block alone is changed, all else is new. -/
namespace Go.Proofs.YtaajofojbhdgaaaGreatDoor
open Go.RowKit Go.Deep Go.Maps Ln Pth Vf
set_option linter.unusedSimpArgs false
set_option linter.unusedVariables false
attribute [local go_sem] bt_eq

set_option maxRecDepth 100000 in
set_option maxHeartbeats 1000000 in
theorem rcut_any (n m : Int) (w : World) (hm : 0 ≤ m) :
    Calls Tryz.prog 52 #[.int .i64 n, .int .i64 m] w fun e w' => e = .returned (.int .i64 (min (max 0 n) m)) ∧ w = w' := by
  by_cases h0 : n < 0
  · have d0 : decide (n < 0) = true := by simpa using h0
    have HE := hide (show min (max 0 n) m = 0 by omega)
    clear h0
    go_enter Tryz.func52, Tryz.ntmps52
    go_wp2
    go_ret
    rw [HE.out]
    exact ⟨rfl, rfl⟩
  · have d0 : decide (n < 0) = false := by simpa using h0
    by_cases h1 : n > m
    · have d1 : decide (m < n) = true := by simpa using h1
      have HE := hide (show min (max 0 n) m = m by omega)
      clear h0 h1
      go_enter Tryz.func52, Tryz.ntmps52
      go_wp2
      go_ret
      rw [HE.out]
      exact ⟨rfl, rfl⟩
    · have d1 : decide (m < n) = false := by simpa using h1
      have HE := hide (show min (max 0 n) m = n by omega)
      clear h0 h1
      go_enter Tryz.func52, Tryz.ntmps52
      go_wp2
      go_ret
      rw [HE.out]
      exact ⟨rfl, rfl⟩
set_option maxRecDepth 100000 in
set_option maxHeartbeats 1000000 in
theorem rnew_any (n b : Int) (w : World) :
    Calls Tryz.prog 29 #[.int .i64 n, .int .i64 b] w fun e w' => e = .returned (.pointer (some ⟨w.heap.size, 0, none⟩)) ∧ Below w.heap.size w w' ∧ RSO w.heap.size (newS n b) none 0 [] w' ∧ w'.heap.size = w.heap.size + 1 := by
  have e1 : min (max (0 : Int) n) 10000 = ((newS n b).nodes : Nat) := by simp only [newS]; omega
  have e2 : min (max (0 : Int) b) 1048576 = ((newS n b).bytes : Nat) := by simp only [newS]; omega
  have HC1 := hide (rcut_any n 10000 w (by omega))
  have HC2 := hide (rcut_any b 1048576 w (by omega))
  rw [e1] at HC1
  rw [e2] at HC2
  obtain ⟨S, hS⟩ : ∃ S, newS n b = S := ⟨_, rfl⟩
  rw [hS] at HC1 HC2 ⊢
  have HM := hide (show S.m = [] ∧ S.clock = 0 by rw [← hS]; exact ⟨rfl, rfl⟩)
  clear e1 e2 hS
  go_enter Tryz.func29, Tryz.ntmps29
  go_wp2_with fail
  refine HC1.out.mono ?_
  rintro e w' ⟨rfl, rfl⟩
  go_wp2_with fail
  refine HC2.out.mono ?_
  rintro e w' ⟨rfl, rfl⟩
  go_wp2
  go_ret
  refine ⟨rfl, (Below.refl _ _).alloc (Nat.le_refl _) _, ⟨?_, by simp, (fun k x hk => by simp at hk), (fun x hx => by cases hx), by rw [HM.out.1]; rfl, (fun a e => by cases e), (fun a e => by cases e), (fun x hx => by cases hx), (fun x hx => by cases hx)⟩, by simp⟩
  have := heapNew w (.cells #[.int .i64 S.nodes, .int .i64 S.bytes, .slice none 0 0, .int .i64 0] 103)
  rw [HM.out.2]
  simpa using this
end Go.Proofs.YtaajofojbhdgaaaGreatDoor
namespace Go.Proofs.YtaajofojbhdgaaaGreatDoor
open Go.RowKit Go.Deep Go.Maps Ln Pth Vf
set_option linter.unusedSimpArgs false
set_option linter.unusedVariables false
attribute [local go_sem] bt_eq

end Go.Proofs.YtaajofojbhdgaaaGreatDoor
namespace Go.Proofs.YtaajofojbhdgaaaGreatDoor
open Go.RowKit Go.Deep Go.Maps Ln Pth Vf
set_option linter.unusedVariables false

/-- a call changed the reference's file system alone -/
def RK (g : Nat) (S' : St) (w : World) (A : Option Addr) (P : List NV) (w' : World) : Prop :=
  ∃ A' c' P', RSO g S' A' c' P' w' ∧ Kp w w' (fun k => k = g) ∧ (∀ a, A' = some a → P' ≠ [] → w.heap.size ≤ a.block ∨ (A = some a ∧ P ≠ [])) ∧
    ∀ x ∈ P', ∀ a, x.2.A = some a → x.2.nd.data ≠ [] → w.heap.size ≤ a.block ∨ ∃ y ∈ P, y.2.A = some a ∧ y.2.nd.data ≠ []
theorem RK.stay {g : Nat} {S : St} {A : Option Addr} {c : Nat} {P : List NV} {w w' : World} (h : RSO g S A c P w) (hb : Below w.heap.size w w') : RK g S w A P w' :=
  ⟨A, c, P, h.below hb, Kp.of_below hb _, fun a e hn => .inr ⟨e, hn⟩, fun x hx a e hn => .inr ⟨x, hx, e, hn⟩⟩
theorem RG.block_lt {α : Type} {enc : α → List Value} {n : Nat} {w : World} {A : Option Addr} {L : List α} (h : RG enc n w A L) {a : Addr} (e : A = some a) (hn : L ≠ []) : a.block < w.heap.size := by
  obtain ⟨y, hy⟩ : ∃ y, L[0]? = some y := ⟨L[0]'(List.length_pos_iff.2 hn), List.getElem?_eq_getElem _⟩
  obtain ⟨g2, o2, e2, hg2, _⟩ := h 0 y hy
  rw [e] at e2
  injection e2 with e2
  rw [e2]
  exact hg2
/-- one behind the other -/
theorem RK.trans {g : Nat} {S' S'' : St} {w w' w'' : World} {A : Option Addr} {P : List NV} (h : RK g S' w A P w')
    (h' : ∀ A' c' P', RSO g S' A' c' P' w' → RK g S'' w' A' P' w'') : RK g S'' w A P w'' := by
  obtain ⟨A', c', P', o, hk, hA, hD⟩ := h
  obtain ⟨A2, c2, P2, o2, hk2, hA2, hD2⟩ := h' A' c' P' o
  refine ⟨A2, c2, P2, o2, hk.trans (hk2.mono fun k e => .inl e), fun a e hn => ?_, fun x hx a e hn => ?_⟩
  · rcases hA2 a e hn with h | ⟨h, h6⟩
    · exact .inl (Nat.le_trans hk.size h)
    · exact hA a h h6
  · rcases hD2 x hx a e hn with h | ⟨y, hy, h6, h7⟩
    · exact .inl (Nat.le_trans hk.size h)
    · exact hD y hy a h6 h7
/-- its four numbers change -/
theorem RSO.set {g : Nat} {S S' : St} {A A' : Option Addr} {c c' : Nat} {P P' : List NV} {w w' : World} (h : RSO g S A c P w) (hk : Kp w w' (fun k => k = g))
    (hg : w'.heap[g]? = some (.cells #[.int .i64 S'.nodes, .int .i64 S'.bytes, .slice A' P'.length c', .int .i64 S'.clock] 103)) (hc : P'.length ≤ c') (hm : S'.m = stripN P')
    (hA : RG encE 4 w' A' P') (hAg : ∀ a, A' = some a → P' ≠ [] → a.block ≠ g)
    (hD : ∀ x ∈ P', x.2.nd.data.length ≤ x.2.c ∧ RG encB 1 w' x.2.A x.2.nd.data ∧ (∀ a, x.2.A = some a → x.2.nd.data ≠ [] → a.block ≠ g)) (ht : ∀ a, A' = some a → ∃ g o, a = ⟨g, o, none⟩) : RSO g S' A' c' P' w' :=
  ⟨hg, hc, hA, fun x hx => (hD x hx).2.1, hm, ht, hAg, fun x hx => (hD x hx).2.2, fun x hx => (hD x hx).1⟩
theorem RG.kp {α : Type} {enc : α → List Value} {n : Nat} {w w' : World} {A : Option Addr} {L : List α} {g : Nat} (h : RG enc n w A L) (hk : Kp w w' (fun k => k = g)) (hg : ∀ a, A = some a → L ≠ [] → a.block ≠ g) : RG enc n w' A L :=
  h.ofB hk.size (fun a e hn => hk.block a.block (h.block_lt e hn) (hg a e hn))
theorem Kp.ofGb {w w' : World} {g : Nat} (h : w.grownBy w' (some g)) : Kp w w' (fun k => k = g) := ⟨h.os, h.tape, h.output, h.size, fun k hk hn => h.block k hk (fun e => hn (Option.some.inj e))⟩
theorem Kp.set (w : World) (g j : Nat) (v : Value) : Kp w (w.setCell ⟨g, j, none⟩ v) (fun k => k = g) := ⟨rfl, rfl, rfl, by simp, fun k hk hne => Below.heap_setCell _ _ _ _ (by simpa using hne)⟩
theorem Kp.then {w w' w'' : World} {S : Nat → Prop} (h : Kp w w' S) (h' : Kp w' w'' S) : Kp w w'' S := h.trans (h'.mono fun k e => .inl e)
/-- its clock -/
theorem RSO.tick {g : Nat} {S : St} {A : Option Addr} {c : Nat} {P : List NV} {w : World} (h : RSO g S A c P w) (n : Nat) : RSO g { S with clock := n } A c P (w.setCell ⟨g, 3, none⟩ (.int .i64 n)) := by
  have hk := Kp.set w g 3 (.int .i64 n)
  exact h.set hk ((heapSet (j := 3) h.heap (.int .i64 n)).trans rfl) h.cap h.eq (h.rg.kp hk h.neA) h.neA (fun x hx => ⟨h.lt x hx, (h.dat x hx).kp hk (h.neD x hx), h.neD x hx⟩) h.top
theorem putG_ne {α : Type} (x : ByteArray × α) (P : KV α) : putG x P ≠ [] := by
  cases P with
  | nil => simp [putG]
  | cons y P => rw [putG]; split; simp; split <;> simp
/-- behind put -/
theorem RSO.putted {g : Nat} {S S' : St} {A A' : Option Addr} {c c' : Nat} {P : List NV} {x : NV} {w w' : World} (h : RSO g S A c P w) (hm : S'.m = putG (x.1, x.2.nd) S.m)
    (hg : w'.heap[g]? = some (.cells #[.int .i64 S'.nodes, .int .i64 S'.bytes, .slice A' (putG x P).length c', .int .i64 S'.clock] 103)) (hc : (putG x P).length ≤ c') (hr : RG encE 4 w' A' (putG x P)) (hA : ∀ a, A' = some a → w.heap.size ≤ a.block)
    (hk : Kp w w' (fun k => k = g)) (hx : RG encB 1 w x.2.A x.2.nd.data) (hxg : ∀ a, x.2.A = some a → x.2.nd.data ≠ [] → a.block ≠ g) (hxl : x.2.nd.data.length ≤ x.2.c) : RSO g S' A' c' (putG x P) w' := by
  have hgl : g < w.heap.size := (Array.getElem?_eq_some_iff.1 h.heap).1
  refine h.set hk hg hc (by rw [hm, h.eq, ← strip_put]) hr (fun a e _ => by have := hA a e; omega) (fun y hy => ?_) (fun a e => ?_)
  · rcases mem_putG hy with rfl | hy
    · exact ⟨hxl, hx.kp hk hxg, hxg⟩
    · exact ⟨h.lt y hy, (h.dat y hy).kp hk (h.neD y hy), h.neD y hy⟩
  · have hne := putG_ne x P
    obtain ⟨y, hy⟩ : ∃ y, (putG x P)[0]? = some y := ⟨(putG x P)[0]'(List.length_pos_iff.2 hne), List.getElem?_eq_getElem _⟩
    obtain ⟨g2, o2, e2, _, _⟩ := hr 0 y hy
    rw [e] at e2
    injection e2 with e2
    exact ⟨g2, o2, e2⟩
theorem RK.pre {g : Nat} {S' : St} {w w1 w' : World} {A : Option Addr} {P : List NV} (hb : Below w.heap.size w w1) (h : RK g S' w1 A P w') : RK g S' w A P w' := by
  obtain ⟨A', c', P', o, hk, hA, hD⟩ := h
  exact ⟨A', c', P', o, (Kp.of_below hb _).then hk, fun a e hn => (hA a e hn).imp_left (Nat.le_trans hb.size), fun x hx a e hn => (hD x hx a e hn).imp_left (Nat.le_trans hb.size)⟩
end Go.Proofs.YtaajofojbhdgaaaGreatDoor
/- Walk of the reference's Write. -/
namespace Go.Proofs.YtaajofojbhdgaaaGreatDoor
open Go.RowKit Go.Deep Go.Maps Ln Pth Vf
set_option linter.unusedSimpArgs false
set_option linter.unusedVariables false
attribute [local go_sem] bt_eq

/-- two appends, and the node put -/
theorem write_put (g : Nat) (S : St) (A : Option Addr) (c : Nat) (P : List NV) (w1 : World) (h : RSO g S A c P w1) (hl : P.length ≤ 10000) (q : T) (B : Option Addr) (d : Nat) (was : T) (hB : RG encB 1 w1 B was) (hBg : ∀ a, B = some a → was ≠ [] → a.block ≠ g)
    (Bb : Option Addr) (cb : Nat) (b : T) (hb : RG encB 1 w1 Bb b) (hbg : ∀ a, Bb = some a → b ≠ [] → a.block ≠ g) (hsz : was.length + b.length ≤ 1000000) (S' : St) (hm : S'.m = putG (bs q, ⟨false, was ++ b, S.clock + 1⟩) S.m) (h1 : S'.nodes = S.nodes) (h2 : S'.bytes = S.bytes) (h3 : S'.clock = S.clock + 1) :
    ∃ v2 w2 A3 c3 w3, (Builtin.append_ #[66, 66] 66 #[.slice none 0 0, .slice B was.length d]).run Tryz.prog (w1.setCell ⟨g, 3, none⟩ (.int .i64 ((S.clock : Int) + 1))).drew = .ok v2 w2 ∧
      (Builtin.append_ #[66, 66] 66 #[v2, .slice Bb b.length cb]).run Tryz.prog w2 = .ok (.slice A3 (was ++ b).length c3) w3 ∧
      w2.cell? ⟨g, 3, none⟩ = some (.int .i64 ((S.clock : Int) + 1)) ∧ w3.cell? ⟨g, 3, none⟩ = some (.int .i64 ((S.clock : Int) + 1)) ∧
      Calls Tryz.prog 92 #[.pointer (some ⟨g, 0, none⟩), .agg #[.string (bs q), .bool false, .slice A3 (was ++ b).length c3, .int .i64 ((S.clock : Int) + 1)]] w3 fun e w' => e = .returned (.tuple #[]) ∧ RK g S' w1 A P w' ∧ w'.cell? ⟨g, 3, none⟩ = some (.int .i64 ((S.clock : Int) + 1)) := by
  have ht := h.tick (S.clock + 1)
  rw [show ((S.clock + 1 : Nat) : Int) = (S.clock : Int) + 1 from rfl] at ht
  have ht := ht.drew
  have hk : Kp w1 (w1.setCell ⟨g, 3, none⟩ (.int .i64 ((S.clock : Int) + 1))).drew (fun k => k = g) := (Kp.set w1 g 3 (.int .i64 ((S.clock : Int) + 1))).then (Kp.of_below (Below.refl _ _).drew _)
  have hBt := hB.kp hk hBg
  have hbt := hb.kp hk hbg
  obtain ⟨wt, hwt⟩ : ∃ W, (w1.setCell ⟨g, 3, none⟩ (.int .i64 ((S.clock : Int) + 1))).drew = W := ⟨_, rfl⟩
  rw [hwt] at ht hk hBt hbt ⊢
  obtain ⟨v2, w2, r2, o2, g2, b2⟩ := run_appY (c := d) (OwnG.nil wt wt.heap.size) hBt (Nat.le_refl _) (by simp; omega)
  have hb2 : Below wt.heap.size wt w2 := Below.of_gb g2 (Nat.le_refl _) (fun k hk => by cases hk)
  rw [List.nil_append] at o2
  have n2 : ∀ k, v2.ownBlock = some k → wt.heap.size ≤ k := fun k hk => (o2.lt k hk).1
  obtain ⟨v3, w3, r3, o3, g3, b3⟩ := run_appY (c := cb) o2 (hbt.below hb2) hb2.size (by omega)
  have hb3 : Below wt.heap.size wt w3 := hb2.trans (Below.of_gb g3 hb2.size n2)
  obtain ⟨A3, c3, rfl, hc3L, hr3, hob3, _⟩ := OwnG.slice encB_len o3
  have hA3 : ∀ a, A3 = some a → wt.heap.size ≤ a.block := fun a e => (o3.lt _ (hob3 a e)).1
  have hgl : g < wt.heap.size := (Array.getElem?_eq_some_iff.1 ht.heap).1
  have ho3 := ht.below hb3
  refine ⟨v2, w2, A3, c3, w3, r2, r3, cellOf (ht.below hb2).heap (j := 3) rfl, cellOf ho3.heap (j := 3) rfl, ?_⟩
  refine (rput_any g { S with clock := S.clock + 1 } A c P (bs q, ⟨A3, c3, ⟨false, was ++ b, S.clock + 1⟩⟩) w3 ho3 hl).mono ?_
  rintro e w' ⟨rfl, A', c', hg', hc', hr', hA', hgb⟩
  have hk3 : Kp w1 w3 (fun k => k = g) := hk.then (Kp.of_below hb3 _)
  have hk' := Kp.ofGb hgb
  have hc3 := cellOf hg' (j := 3) rfl
  refine ⟨rfl, ⟨A', c', _, RSO.putted (x := (bs q, ⟨A3, c3, ⟨false, was ++ b, S.clock + 1⟩⟩)) ho3 hm (by rw [hg', h1, h2, h3]) hc' hr' hA' hk' hr3 (fun a e _ => by have := hA3 a e; omega) hc3L, hk3.then hk', fun a e _ => .inl (by have := hA' a e; have := hk3.size; omega), fun x hx a e hn => ?_⟩, hc3⟩
  rcases mem_putG hx with rfl | hx
  · exact .inl (by have := hA3 a e; have := hk.size; omega)
  · exact .inr ⟨x, hx, e, hn⟩
/-- what Write makes, case by case -/
theorem writeS_bad {S : St} {p b : T} {more : Bool} (h : (absS S p).2 ≠ 0) : writeS S p b more = (S, (absS S p).2) := by
  unfold writeS
  rw [if_pos h]
theorem writeS_dir {S : St} {p b : T} {more : Bool} (h : (absS S p).2 = 0) (hk : kindM S.m (absS S p).1 = 2) : writeS S p b more = (S, 10) := by
  unfold writeS writeQ
  rw [if_neg (by simp [h]), if_pos hk]
theorem writeS_new {S : St} {p b : T} {more : Bool} (h : (absS S p).2 = 0) (hk : kindM S.m (absS S p).1 = 0) : writeS S p b more = if S.m.length + 1 ≤ S.nodes ∧ S.used + b.length ≤ S.bytes then ({ Vf.putS S (absS S p).1 false b with used := S.used + b.length }, 0) else (S, 13) := by
  have hd : dataM S.m (absS S p).1 = [] := by unfold dataM; rw [getG_kind hk]
  unfold writeS writeQ
  rw [if_neg (by simp [h]), if_neg (by omega), if_pos hk, hd]
  cases more <;> simp
theorem writeS_old {S : St} {p b : T} {more : Bool} (hS : WfS S) (h : (absS S p).2 = 0) (hk : kindM S.m (absS S p).1 = 1) : writeS S p b more = if S.used + ((if more = true then dataM S.m (absS S p).1 else []).length + b.length) ≤ S.bytes + (dataM S.m (absS S p).1).length then ({ Vf.putS S (absS S p).1 false ((if more = true then dataM S.m (absS S p).1 else []) ++ b) with used := S.used + ((if more = true then dataM S.m (absS S p).1 else []).length + b.length) - (dataM S.m (absS S p).1).length }, 0) else (S, 13) := by
  unfold writeS writeQ
  have hn := hS.nodes
  rw [if_neg (by simp [h]), if_neg (by omega), if_neg (show ¬ kindM S.m (absS S p).1 = 0 by omega)]
  dsimp only
  generalize (if more = true then dataM S.m (absS S p).1 else []) = was
  by_cases hc : S.used + (was.length + b.length) ≤ S.bytes + (dataM S.m (absS S p).1).length
  · rw [if_pos ⟨by omega, hc⟩, if_pos hc]
  · rw [if_neg (fun h => hc h.2), if_neg hc]
set_option maxRecDepth 100000 in
set_option maxHeartbeats 4000000 in
theorem rwrite4_any (g : Nat) (S : St) (A : Option Addr) (c : Nat) (P : List NV) (p : T) (Bb : Option Addr) (cb : Nat) (b : T) (more : Bool) (w : World) (h : RSO g S A c P w) (hS : WfS S) (hp : p.length ≤ 100000) (hby : S.bytes ≤ 400000) (hck : S.clock ≤ 1000000000) (hbl : b.length ≤ 400000) (hbb : RG encB 1 w Bb b) (hbg : ∀ a, Bb = some a → b ≠ [] → a.block ≠ g) :
    Calls Tryz.prog 54 #[.pointer (some ⟨g, 0, none⟩), .string (bs p), .slice Bb b.length cb, .bool more] w fun e w' => e = .returned (.int .i64 (writeS S p b more).2) ∧ RK g (writeS S p b more).1 w A P w' := by
  have hl := row_len hS h.eq
  have HF := hide (rfind_abs g S A c P p w h (by omega) hp)
  have H := hide h
  have HKD0 := hide (fun (q : T) (W : World) (hb : Below w.heap.size w W) => rkind_any g S A c P q W (h.below hb) (by omega))
  have hml : S.m.length = P.length := by rw [h.eq, stripN_len]
  have hnl := hS.nodes
  have hn10 := hS.n10
  have hus := hS.bytes
  have hsz := sizeR_eq h.eq hS
  have HSZ := hide (fun (W : World) (hb : Below w.heap.size w W) => rsize_any g S A c P W (h.below hb) (by omega) (by omega))
  have HAT1 := hide (fun (q : T) (W : World) (hb : Below w.heap.size w W) => rat4_any g S A c P (bs q) W (h.below hb) (by omega))
  have HFN := hide (fun (q : T) (hk : kindM S.m q = 1) => file_node h.eq hk)
  have HR1 := hide (writeS_bad (S := S) (p := p) (b := b) (more := more))
  have HR2 := hide (writeS_dir (S := S) (p := p) (b := b) (more := more))
  have HR3 := hide (writeS_new (S := S) (p := p) (b := b) (more := more))
  have HR4 := hide (writeS_old (S := S) (p := p) (b := b) (more := more) hS)
  have HWP := hide (fun (q : T) (B : Option Addr) (d : Nat) (was : T) (W : World) (hb : Below w.heap.size w W) => write_put g S A c P W (h.below hb) (by omega) q B d was)
  have HBB := hide (fun (W : World) (hb : Below w.heap.size w W) => hbb.below hb)
  have HBG := hide hbg
  have hdl0 := fun q => dataM_len hS q
  have HDL := hide hdl0
  rw [hsz] at HSZ
  obtain ⟨r, hr⟩ : ∃ r, absS S p = r := ⟨_, rfl⟩
  obtain ⟨q0, e⟩ := r
  rw [hr] at HF HR1 HR2 HR3 HR4
  dsimp only at HF HR1 HR2 HR3 HR4
  obtain ⟨R, hR⟩ : ∃ R, writeS S p b more = R := ⟨_, rfl⟩
  rw [hR] at HR1 HR2 HR3 HR4 ⊢
  obtain ⟨n, hn⟩ : ∃ n, P.length = n := ⟨_, rfl⟩
  rw [hml, hn] at HR3
  rw [hn] at hl hml
  have HN := hide hn
  obtain ⟨bl, hbln⟩ : ∃ n, b.length = n := ⟨_, rfl⟩
  rw [hbln] at HR3 HR4 hbl ⊢
  have HBL := hide hbln
  obtain ⟨us, husn⟩ : ∃ n, S.used = n := ⟨_, rfl⟩
  obtain ⟨by_, hbyn⟩ : ∃ n, S.bytes = n := ⟨_, rfl⟩
  rw [husn] at HR3 HR4 HSZ hus
  have HUS := hide husn
  have HBY := hide hbyn
  rw [hbyn] at HR3 HR4 hus hby
  have hci : (S.clock : Int) ≤ 1000000000 := by omega
  have hni : (n : Int) ≤ 10000 := by omega
  have hnd : (S.nodes : Int) ≤ 10000 := by omega
  have hbli : (bl : Int) ≤ 400000 := by omega
  have hbyi : (by_ : Int) ≤ 400000 := by omega
  have husi : (us : Int) ≤ 400000 := by omega
  clear hr hR h hp hS hbb hbg hsz hn hbln husn hbyn hdl0
  go_enter Tryz.func54, Tryz.ntmps54
  go_wp2_with fail
  refine HF.out.mono ?_
  rintro e1 w1 ⟨q, rfl, hq, hql, hb⟩
  have HB := hide hb
  clear hb hql
  by_cases c1 : e = 0
  case neg =>
    obtain ⟨t1, t2⟩ := ne0 c1
    have HE := hide (HR1.out c1)
    clear c1 hq
    go_wp2
    go_ret
    rw [HE.out]
    exact ⟨rfl, RK.stay H.out HB.out⟩
  subst c1
  have hq1 := hq rfl
  subst hq1
  have hkl := kind_le S.m q
  have HKD := hide (HKD0.out q)
  have HAT0 := hide (HAT1.out q)
  have HDQ := hide (HDL.out q)
  clear hq HF
  by_cases k2 : kindM S.m q = 2
  · have HE := hide (HR2.out rfl k2)
    rw [k2] at HKD
    clear hkl k2
    go_wp2_with fail
    refine (HKD.out w1 HB.out).mono ?_
    rintro e w' ⟨rfl, rfl⟩
    go_wp2
    go_ret
    rw [HE.out]
    exact ⟨rfl, RK.stay H.out HB.out⟩
  by_cases k0 : kindM S.m q = 0
  · have HE := hide (HR3.out rfl k0)
    rw [k0] at HKD
    clear hkl k2 k0
    by_cases c3 : S.nodes ≤ n
    · have hni2 : (S.nodes : Int) ≤ (n : Int) := by omega
      have HE := hide (HE.out.trans (if_neg (by omega)))
      go_wp2_with fail
      refine (HKD.out w1 HB.out).mono ?_
      rintro e w' ⟨rfl, rfl⟩
      have ho := H.out.below HB.out
      have hg := ho.heap
      rw [HN.out] at hg
      have hc2 := cellOf hg (j := 2) (v := .slice A n c) rfl
      have hc0 := cellOf hg (j := 0) (v := .int .i64 S.nodes) rfl
      clear ho hg
      go_wp2_with fail
      go_quiet (fail)
      go_wp2
      go_ret
      rw [HE.out]
      exact ⟨rfl, RK.stay H.out (below_drewN HB.out _)⟩
    have hni2 : ¬ (S.nodes : Int) ≤ (n : Int) := by omega
    have HFULL := hide (fun (h : by_ < bl ∨ by_ < us + bl) => HE.out.trans (if_neg (by omega)))
    have HOK := hide (fun (h1 : bl ≤ by_) (h : us + bl ≤ by_) => HE.out.trans (if_pos ⟨by omega, by omega⟩))
    have HPUT := hide (fun (h1 : bl ≤ by_) (h : us + bl ≤ by_) (W : World) (hb : Below w.heap.size w W) => HWP.out q none 0 [] W hb (fun k x hk => by simp at hk) (fun a e => by cases e) Bb cb b (HBB.out W hb) HBG.out (by simp; have := HBL.out; omega) { Vf.putS S q false b with used := us + bl } rfl rfl rfl rfl)
    rw [List.nil_append, HBL.out, List.length_nil] at HPUT
    clear HE
    cases more with
    | true =>
      go_wp2_with fail
      refine (HKD.out w1 HB.out).mono ?_
      rintro e w' ⟨rfl, rfl⟩
      have ho := H.out.below HB.out
      have hg := ho.heap
      rw [HN.out] at hg
      have hc2 := cellOf hg (j := 2) (v := .slice A n c) rfl
      have hc0 := cellOf hg (j := 0) (v := .int .i64 S.nodes) rfl
      clear ho hg
      go_wp2_with fail
      go_quiet (fail)
      have HBW := hide (below_drewN HB.out nq)
      clear hc2 hc0
      obtain ⟨W, hW⟩ : ∃ W, w1.drewN nq = W := ⟨_, rfl⟩
      rw [hW] at HBW ⊢
      clear hW
      go_wp2_with fail
      refine (HSZ.out W HBW.out).mono ?_
      rintro e w' ⟨rfl, rfl⟩
      have hgW := (H.out.below HBW.out).heap
      rw [HN.out] at hgW
      have hc1 := cellOf hgW (j := 1) (v := .int .i64 S.bytes) rfl
      rw [HBY.out] at hc1
      have hc3 := cellOf hgW (j := 3) (v := .int .i64 S.clock) rfl
      have hf3 := freeOf hgW 3
      clear hgW
      by_cases t1 : by_ < bl
      · have HE := hide (HFULL.out (.inl t1))
        have t1i : (by_ : Int) < (bl : Int) := by omega
        go_wp2
        go_ret
        rw [HE.out]
        exact ⟨rfl, RK.stay H.out HBW.out⟩
      have t1i : ¬ (by_ : Int) < (bl : Int) := by omega
      by_cases t2 : by_ < us + bl
      · have HE := hide (HFULL.out (.inr t2))
        have t2i : (by_ : Int) < (us : Int) + (bl : Int) := by omega
        go_wp2
        go_ret
        rw [HE.out]
        exact ⟨rfl, RK.stay H.out HBW.out⟩
      have t2i : ¬ (by_ : Int) < (us : Int) + (bl : Int) := by omega
      have HE := hide (HOK.out (by omega) (by omega))
      obtain ⟨v2, w2, A3, c3, w3, r2, r3, hs2, hs3, hput⟩ := HPUT.out (by omega) (by omega) W HBW.out
      have HPT := hide hput
      have hs1 : (W.setCell ⟨g, 3, none⟩ (.int .i64 ((S.clock : Int) + 1))).drew.cell? ⟨g, 3, none⟩ = some (.int .i64 ((S.clock : Int) + 1)) := World.cell?_setCell_same' W _ _ (by rw [hc3]; rfl)
      clear hput t1 t2
      go_wp2_with fail
      refine wp_region_held_drew (S := (fun W => W.cell? ⟨g, 3, none⟩ = some (.int .i64 ((S.clock : Int) + 1)))) (by kernel_rfl) hs1 (fun hHeld => ?_)
      refine wpAnyH_tk (i := 0) (oi := _) (v := ?vKt0) rfl rfl (by kernel_rfl) (by kernel_rfl) (by kernel_rfl) (fun _ _ _ h => h) (Or.inl ⟨by kernel_rfl, ?yKt0⟩) (by assumption) ?rKt0
      case yKt0 =>
        intro w hSw
        (try dsimp only at hSw)
        go_simp
        try with_reducible rfl
      try simp only [List.setIfInBounds_toArray, List.set_cons_zero, List.set_cons_succ]
      refine wpAnyH_tk (i := 1) (oi := _) (v := ?vKt1) rfl rfl (by kernel_rfl) (by kernel_rfl) (by kernel_rfl) (fun _ _ _ h => h) (Or.inl ⟨by kernel_rfl, ?yKt1⟩) (by assumption) ?rKt1
      case yKt1 =>
        intro w hSw
        (try dsimp only at hSw)
        go_simp
        try with_reducible rfl
      try simp only [List.setIfInBounds_toArray, List.set_cons_zero, List.set_cons_succ]
      refine wpAnyH_tk (i := 2) (oi := _) (v := ?vKt2) rfl rfl (by kernel_rfl) (by kernel_rfl) (by kernel_rfl) (fun _ _ _ h => h) (Or.inl ⟨by kernel_rfl, ?yKt2⟩) (by assumption) ?rKt2
      case yKt2 =>
        intro w hSw
        (try dsimp only at hSw)
        go_simp
        try with_reducible rfl
      try simp only [List.setIfInBounds_toArray, List.set_cons_zero, List.set_cons_succ]
      refine wpAnyH_tk (i := 4) (oi := _) (v := ?vKt4) rfl rfl (by kernel_rfl) (by kernel_rfl) (by kernel_rfl) (fun _ _ _ h => h) (Or.inl ⟨by kernel_rfl, ?yKt4⟩) (by assumption) ?rKt4
      case yKt4 =>
        intro w hSw
        (try dsimp only at hSw)
        go_simp
        try with_reducible rfl
      try simp only [List.setIfInBounds_toArray, List.set_cons_zero, List.set_cons_succ]
      refine wpAnyH_tk (i := 6) (oi := _) (v := ?vKt6) rfl rfl (by kernel_rfl) (by kernel_rfl) (by kernel_rfl) (fun _ _ _ h => h) (Or.inl ⟨by kernel_rfl, ?yKt6⟩) (by assumption) ?rKt6
      case yKt6 =>
        intro w hSw
        (try dsimp only at hSw)
        go_simp
        try with_reducible rfl
      try simp only [List.setIfInBounds_toArray, List.set_cons_zero, List.set_cons_succ]
      refine wpAnyH_tk (i := 7) (oi := _) (v := ?vKt7) rfl rfl (by kernel_rfl) (by kernel_rfl) (by kernel_rfl) (fun _ _ _ h => h) (Or.inl ⟨by kernel_rfl, ?yKt7⟩) (by assumption) ?rKt7
      case yKt7 =>
        intro w hSw
        (try dsimp only at hSw)
        go_simp
        try with_reducible rfl
      try simp only [List.setIfInBounds_toArray, List.set_cons_zero, List.set_cons_succ]
      refine wpAnyH_tk (i := 8) (oi := _) (v := ?vKt8) rfl rfl (by kernel_rfl) (by kernel_rfl) (by kernel_rfl) (fun _ _ _ h => h) (Or.inl ⟨by kernel_rfl, ?yKt8⟩) (by assumption) ?rKt8
      case yKt8 =>
        intro w hSw
        (try dsimp only at hSw)
        go_simp
        try with_reducible rfl
      try simp only [List.setIfInBounds_toArray, List.set_cons_zero, List.set_cons_succ]
      refine wpAnyH_tk (i := 9) (oi := _) (v := ?vKt9) rfl rfl (by kernel_rfl) (by kernel_rfl) (by kernel_rfl) (fun _ _ _ h => h) (Or.inl ⟨by kernel_rfl, ?yKt9⟩) (by assumption) ?rKt9
      case yKt9 =>
        intro w hSw
        (try dsimp only at hSw)
        go_simp
        try with_reducible rfl
      try simp only [List.setIfInBounds_toArray, List.set_cons_zero, List.set_cons_succ]
      refine wpAnyH_ready (rs := [3]) (by kernel_rfl) (by simp) ?_
      refine AllReadyH.cons (o := _) rfl (fun K hK => ?_) AllReadyH.nil
      refine step_app_run rfl _ _ rfl rfl rfl rfl r2 ?_
      refine hK.out _ _ hs2 (fun _ => ?_)
      clear hK K
      try simp only [Act.put, List.setIfInBounds_toArray, List.set_cons_zero, List.set_cons_succ]
      refine wpAnyH_ready (rs := [5]) (by kernel_rfl) (by simp) ?_
      refine AllReadyH.cons (o := _) rfl (fun K hK => ?_) AllReadyH.nil
      refine step_app_run rfl _ _ rfl rfl rfl rfl r3 ?_
      refine hK.out _ _ hs3 (fun _ => ?_)
      clear hK K
      try simp only [Act.put, List.setIfInBounds_toArray, List.set_cons_zero, List.set_cons_succ]
      refine wpAnyH_tk (i := 10) (oi := _) (v := ?vKt10) rfl rfl (by kernel_rfl) (by kernel_rfl) (by kernel_rfl) (fun _ _ _ h => h) (Or.inl ⟨by kernel_rfl, ?yKt10⟩) (by assumption) ?rKt10
      case yKt10 =>
        intro w hSw
        (try dsimp only at hSw)
        go_simp
        try with_reducible rfl
      try simp only [List.setIfInBounds_toArray, List.set_cons_zero, List.set_cons_succ]
      refine wpAnyH_ready (rs := [11]) (by kernel_rfl) (by simp) ?_
      refine AllReadyH.cons (o := _) rfl (fun K hK => ?_) AllReadyH.nil
      rw [if_pos (by kernel_rfl)]
      go_simp
      refine HPT.out.mono ?_
      rintro e w' ⟨rfl, hrk, hlast⟩
      have HRK := hide hrk
      clear hrk
      refine hK.out _ _ hlast (fun _ => ?_)
      clear hK K
      try simp only [Act.put, List.setIfInBounds_toArray, List.set_cons_zero, List.set_cons_succ]
      refine wpAnyH_done (by kernel_rfl) ?_ _
      go_wp2
      go_ret
      rw [HE.out]
      exact ⟨rfl, RK.pre HBW.out HRK.out⟩
    | false =>
      go_wp2_with fail
      refine (HKD.out w1 HB.out).mono ?_
      rintro e w' ⟨rfl, rfl⟩
      have ho := H.out.below HB.out
      have hg := ho.heap
      rw [HN.out] at hg
      have hc2 := cellOf hg (j := 2) (v := .slice A n c) rfl
      have hc0 := cellOf hg (j := 0) (v := .int .i64 S.nodes) rfl
      clear ho hg
      go_wp2_with fail
      go_quiet (fail)
      have HBW := hide (below_drewN HB.out nq)
      clear hc2 hc0
      obtain ⟨W, hW⟩ : ∃ W, w1.drewN nq = W := ⟨_, rfl⟩
      rw [hW] at HBW ⊢
      clear hW
      go_wp2_with fail
      refine (HSZ.out W HBW.out).mono ?_
      rintro e w' ⟨rfl, rfl⟩
      have hgW := (H.out.below HBW.out).heap
      rw [HN.out] at hgW
      have hc1 := cellOf hgW (j := 1) (v := .int .i64 S.bytes) rfl
      rw [HBY.out] at hc1
      have hc3 := cellOf hgW (j := 3) (v := .int .i64 S.clock) rfl
      have hf3 := freeOf hgW 3
      clear hgW
      by_cases t1 : by_ < bl
      · have HE := hide (HFULL.out (.inl t1))
        have t1i : (by_ : Int) < (bl : Int) := by omega
        go_wp2
        go_ret
        rw [HE.out]
        exact ⟨rfl, RK.stay H.out HBW.out⟩
      have t1i : ¬ (by_ : Int) < (bl : Int) := by omega
      by_cases t2 : by_ < us + bl
      · have HE := hide (HFULL.out (.inr t2))
        have t2i : (by_ : Int) < (us : Int) + (bl : Int) := by omega
        go_wp2
        go_ret
        rw [HE.out]
        exact ⟨rfl, RK.stay H.out HBW.out⟩
      have t2i : ¬ (by_ : Int) < (us : Int) + (bl : Int) := by omega
      have HE := hide (HOK.out (by omega) (by omega))
      obtain ⟨v2, w2, A3, c3, w3, r2, r3, hs2, hs3, hput⟩ := HPUT.out (by omega) (by omega) W HBW.out
      have HPT := hide hput
      have hs1 : (W.setCell ⟨g, 3, none⟩ (.int .i64 ((S.clock : Int) + 1))).drew.cell? ⟨g, 3, none⟩ = some (.int .i64 ((S.clock : Int) + 1)) := World.cell?_setCell_same' W _ _ (by rw [hc3]; rfl)
      clear hput t1 t2
      go_wp2_with fail
      refine wp_region_held_drew (S := (fun W => W.cell? ⟨g, 3, none⟩ = some (.int .i64 ((S.clock : Int) + 1)))) (by kernel_rfl) hs1 (fun hHeld => ?_)
      refine wpAnyH_tk (i := 0) (oi := _) (v := ?vKf0) rfl rfl (by kernel_rfl) (by kernel_rfl) (by kernel_rfl) (fun _ _ _ h => h) (Or.inl ⟨by kernel_rfl, ?yKf0⟩) (by assumption) ?rKf0
      case yKf0 =>
        intro w hSw
        (try dsimp only at hSw)
        go_simp
        try with_reducible rfl
      try simp only [List.setIfInBounds_toArray, List.set_cons_zero, List.set_cons_succ]
      refine wpAnyH_tk (i := 1) (oi := _) (v := ?vKf1) rfl rfl (by kernel_rfl) (by kernel_rfl) (by kernel_rfl) (fun _ _ _ h => h) (Or.inl ⟨by kernel_rfl, ?yKf1⟩) (by assumption) ?rKf1
      case yKf1 =>
        intro w hSw
        (try dsimp only at hSw)
        go_simp
        try with_reducible rfl
      try simp only [List.setIfInBounds_toArray, List.set_cons_zero, List.set_cons_succ]
      refine wpAnyH_tk (i := 2) (oi := _) (v := ?vKf2) rfl rfl (by kernel_rfl) (by kernel_rfl) (by kernel_rfl) (fun _ _ _ h => h) (Or.inl ⟨by kernel_rfl, ?yKf2⟩) (by assumption) ?rKf2
      case yKf2 =>
        intro w hSw
        (try dsimp only at hSw)
        go_simp
        try with_reducible rfl
      try simp only [List.setIfInBounds_toArray, List.set_cons_zero, List.set_cons_succ]
      refine wpAnyH_tk (i := 4) (oi := _) (v := ?vKf4) rfl rfl (by kernel_rfl) (by kernel_rfl) (by kernel_rfl) (fun _ _ _ h => h) (Or.inl ⟨by kernel_rfl, ?yKf4⟩) (by assumption) ?rKf4
      case yKf4 =>
        intro w hSw
        (try dsimp only at hSw)
        go_simp
        try with_reducible rfl
      try simp only [List.setIfInBounds_toArray, List.set_cons_zero, List.set_cons_succ]
      refine wpAnyH_tk (i := 6) (oi := _) (v := ?vKf6) rfl rfl (by kernel_rfl) (by kernel_rfl) (by kernel_rfl) (fun _ _ _ h => h) (Or.inl ⟨by kernel_rfl, ?yKf6⟩) (by assumption) ?rKf6
      case yKf6 =>
        intro w hSw
        (try dsimp only at hSw)
        go_simp
        try with_reducible rfl
      try simp only [List.setIfInBounds_toArray, List.set_cons_zero, List.set_cons_succ]
      refine wpAnyH_tk (i := 7) (oi := _) (v := ?vKf7) rfl rfl (by kernel_rfl) (by kernel_rfl) (by kernel_rfl) (fun _ _ _ h => h) (Or.inl ⟨by kernel_rfl, ?yKf7⟩) (by assumption) ?rKf7
      case yKf7 =>
        intro w hSw
        (try dsimp only at hSw)
        go_simp
        try with_reducible rfl
      try simp only [List.setIfInBounds_toArray, List.set_cons_zero, List.set_cons_succ]
      refine wpAnyH_tk (i := 8) (oi := _) (v := ?vKf8) rfl rfl (by kernel_rfl) (by kernel_rfl) (by kernel_rfl) (fun _ _ _ h => h) (Or.inl ⟨by kernel_rfl, ?yKf8⟩) (by assumption) ?rKf8
      case yKf8 =>
        intro w hSw
        (try dsimp only at hSw)
        go_simp
        try with_reducible rfl
      try simp only [List.setIfInBounds_toArray, List.set_cons_zero, List.set_cons_succ]
      refine wpAnyH_tk (i := 9) (oi := _) (v := ?vKf9) rfl rfl (by kernel_rfl) (by kernel_rfl) (by kernel_rfl) (fun _ _ _ h => h) (Or.inl ⟨by kernel_rfl, ?yKf9⟩) (by assumption) ?rKf9
      case yKf9 =>
        intro w hSw
        (try dsimp only at hSw)
        go_simp
        try with_reducible rfl
      try simp only [List.setIfInBounds_toArray, List.set_cons_zero, List.set_cons_succ]
      refine wpAnyH_ready (rs := [3]) (by kernel_rfl) (by simp) ?_
      refine AllReadyH.cons (o := _) rfl (fun K hK => ?_) AllReadyH.nil
      refine step_app_run rfl _ _ rfl rfl rfl rfl r2 ?_
      refine hK.out _ _ hs2 (fun _ => ?_)
      clear hK K
      try simp only [Act.put, List.setIfInBounds_toArray, List.set_cons_zero, List.set_cons_succ]
      refine wpAnyH_ready (rs := [5]) (by kernel_rfl) (by simp) ?_
      refine AllReadyH.cons (o := _) rfl (fun K hK => ?_) AllReadyH.nil
      refine step_app_run rfl _ _ rfl rfl rfl rfl r3 ?_
      refine hK.out _ _ hs3 (fun _ => ?_)
      clear hK K
      try simp only [Act.put, List.setIfInBounds_toArray, List.set_cons_zero, List.set_cons_succ]
      refine wpAnyH_tk (i := 10) (oi := _) (v := ?vKf10) rfl rfl (by kernel_rfl) (by kernel_rfl) (by kernel_rfl) (fun _ _ _ h => h) (Or.inl ⟨by kernel_rfl, ?yKf10⟩) (by assumption) ?rKf10
      case yKf10 =>
        intro w hSw
        (try dsimp only at hSw)
        go_simp
        try with_reducible rfl
      try simp only [List.setIfInBounds_toArray, List.set_cons_zero, List.set_cons_succ]
      refine wpAnyH_ready (rs := [11]) (by kernel_rfl) (by simp) ?_
      refine AllReadyH.cons (o := _) rfl (fun K hK => ?_) AllReadyH.nil
      rw [if_pos (by kernel_rfl)]
      go_simp
      refine HPT.out.mono ?_
      rintro e w' ⟨rfl, hrk, hlast⟩
      have HRK := hide hrk
      clear hrk
      refine hK.out _ _ hlast (fun _ => ?_)
      clear hK K
      try simp only [Act.put, List.setIfInBounds_toArray, List.set_cons_zero, List.set_cons_succ]
      refine wpAnyH_done (by kernel_rfl) ?_ _
      go_wp2
      go_ret
      rw [HE.out]
      exact ⟨rfl, RK.pre HBW.out HRK.out⟩
  obtain ⟨k, x, hat, hx, hdt⟩ := HFN.out q (by omega)
  have HE := hide (HR4.out rfl (by omega))
  rw [hat] at HAT0
  rw [show kindM S.m q = 1 by omega] at HKD
  rw [hdt] at HDQ HE
  have HX := hide hx
  obtain ⟨D, hD⟩ : ∃ b, x.2.nd.data = b := ⟨_, rfl⟩
  rw [hD] at HDQ HE
  obtain ⟨m, hm⟩ : ∃ m, D.length = m := ⟨_, rfl⟩
  rw [hm, HUS.out] at HDQ
  rw [hm] at HE
  obtain ⟨B, hB⟩ : ∃ b, x.2.A = b := ⟨_, rfl⟩
  obtain ⟨d, hd⟩ : ∃ b, x.2.c = b := ⟨_, rfl⟩
  have HXD := hide hD
  have HM := hide hm
  have HXA := hide hB
  have HXC := hide hd
  have hmu := HDQ.out
  have hmi : (m : Int) ≤ (us : Int) := by omega
  have hkn : k < n := by rw [← HN.out]; exact (List.getElem?_eq_some_iff.1 hx).1
  have hki : (k : Int) < (n : Int) := by omega
  have hk0 : (0 : Int) ≤ (k : Int) := by omega
  have HDA := hide (fun (W : World) (hb : Below w.heap.size w W) => show RG encB 1 W B D by
    rw [← hD, ← hB]
    exact (H.out.below hb).dat x (List.mem_of_getElem? hx))
  have HDG := hide (show ∀ a, B = some a → D ≠ [] → a.block ≠ g by
    rw [← hD, ← hB]
    exact H.out.neD x (List.mem_of_getElem? hx))
  clear hkl k2 k0 hat hx hdt hD hm hB hd
  cases more with
  | true =>
    have hE := HE.out
    simp only [if_true, Bool.false_eq_true, if_false, HM.out, List.length_nil, List.nil_append, Nat.zero_add] at hE
    have HFULL := hide (fun (h : by_ < bl ∨ by_ < us + bl) => hE.trans (if_neg (by omega)))
    have HOK := hide (fun (h1 : bl ≤ by_) (h : us + bl ≤ by_) => hE.trans (if_pos (by omega)))
    clear hE HE
    have HPUT := hide (fun (h1 : bl ≤ by_) (h : us + bl ≤ by_) (W : World) (hb : Below w.heap.size w W) => HWP.out q B d D W hb (HDA.out W hb) HDG.out Bb cb b (HBB.out W hb) HBG.out (by have := HBL.out; have := HM.out; omega) { Vf.putS S q false (D ++ b) with used := us + (m + bl) - m } rfl rfl rfl rfl)
    rw [HBL.out, HM.out] at HPUT
    have HLL := hide (show (D ++ b).length = m + bl by rw [List.length_append, HBL.out, HM.out])
    rw [HLL.out] at HPUT
    go_wp2_with fail
    refine (HKD.out w1 HB.out).mono ?_
    rintro e w' ⟨rfl, rfl⟩
    have ho := H.out.below HB.out
    have hg := ho.heap
    rw [HN.out] at hg
    have hc2 := cellOf hg (j := 2) (v := .slice A n c) rfl
    obtain ⟨gs, o, rfl, hgs, hc⟩ := ho.rg k x HX.out
    have hc3 : w1.cell? ⟨gs, o + k * 4 + 2, none⟩ = some (.slice x.2.A x.2.nd.data.length x.2.c) := hc 2 _ rfl
    rw [HXD.out, HM.out, HXA.out, HXC.out] at hc3
    have HAT := hide (HAT0.out w1.drew (HB.out.drew))
    clear hc hg ho hgs
    go_wp2_with fail
    go_region_held3 (fun w' => w'.cell? ⟨g, 2, none⟩ = some (.slice (some ⟨gs, o, none⟩) n c) ∧ w'.cell? ⟨gs, o + k * 4 + 2, none⟩ = some (.slice B m d))
      (exact ⟨hc2, hc3⟩)
      ((go_at_call 90; refine HAT.out.mono ?_; rintro e w' ⟨rfl, rfl⟩))
    have HBW := hide HB.out.drew
    clear hc2 hc3
    obtain ⟨W, hW⟩ : ∃ W, w1.drew = W := ⟨_, rfl⟩
    rw [hW] at HBW ⊢
    clear hW
    go_wp2_with fail
    refine (HSZ.out W HBW.out).mono ?_
    rintro e w' ⟨rfl, rfl⟩
    have hgW := (H.out.below HBW.out).heap
    rw [HN.out] at hgW
    have hc1 := cellOf hgW (j := 1) (v := .int .i64 S.bytes) rfl
    rw [HBY.out] at hc1
    have hc3 := cellOf hgW (j := 3) (v := .int .i64 S.clock) rfl
    have hf3 := freeOf hgW 3
    clear hgW
    by_cases t1 : by_ < bl
    · have HE := hide (HFULL.out (.inl t1))
      have t1i : (by_ : Int) < (bl : Int) := by omega
      go_wp2
      go_ret
      rw [HE.out]
      exact ⟨rfl, RK.stay H.out HBW.out⟩
    have t1i : ¬ (by_ : Int) < (bl : Int) := by omega
    by_cases t2 : by_ < us + bl
    · have HE := hide (HFULL.out (.inr t2))
      have t2i : (by_ : Int) < (us : Int) + (bl : Int) := by omega
      have t2j : (by_ : Int) < (us : Int) - (m : Int) + (m : Int) + (bl : Int) := by omega
      go_wp2
      go_ret
      rw [HE.out]
      exact ⟨rfl, RK.stay H.out HBW.out⟩
    have t2i : ¬ (by_ : Int) < (us : Int) + (bl : Int) := by omega
    have t2j : ¬ (by_ : Int) < (us : Int) - (m : Int) + (m : Int) + (bl : Int) := by omega
    have HE := hide (HOK.out (by omega) (by omega))
    obtain ⟨v2, w2, A3, c3, w3, r2, r3, hs2, hs3, hput⟩ := HPUT.out (by omega) (by omega) W HBW.out
    have HPT := hide hput
    have hs1 : (W.setCell ⟨g, 3, none⟩ (.int .i64 ((S.clock : Int) + 1))).drew.cell? ⟨g, 3, none⟩ = some (.int .i64 ((S.clock : Int) + 1)) := World.cell?_setCell_same' W _ _ (by rw [hc3]; rfl)
    clear hput t1 t2
    go_wp2_with fail
    refine wp_region_held_drew (S := (fun W => W.cell? ⟨g, 3, none⟩ = some (.int .i64 ((S.clock : Int) + 1)))) (by kernel_rfl) hs1 (fun hHeld => ?_)
    refine wpAnyH_tk (i := 0) (oi := _) (v := ?vOt0) rfl rfl (by kernel_rfl) (by kernel_rfl) (by kernel_rfl) (fun _ _ _ h => h) (Or.inl ⟨by kernel_rfl, ?yOt0⟩) (by assumption) ?rOt0
    case yOt0 =>
      intro w hSw
      (try dsimp only at hSw)
      go_simp
      try with_reducible rfl
    try simp only [List.setIfInBounds_toArray, List.set_cons_zero, List.set_cons_succ]
    refine wpAnyH_tk (i := 1) (oi := _) (v := ?vOt1) rfl rfl (by kernel_rfl) (by kernel_rfl) (by kernel_rfl) (fun _ _ _ h => h) (Or.inl ⟨by kernel_rfl, ?yOt1⟩) (by assumption) ?rOt1
    case yOt1 =>
      intro w hSw
      (try dsimp only at hSw)
      go_simp
      try with_reducible rfl
    try simp only [List.setIfInBounds_toArray, List.set_cons_zero, List.set_cons_succ]
    refine wpAnyH_tk (i := 2) (oi := _) (v := ?vOt2) rfl rfl (by kernel_rfl) (by kernel_rfl) (by kernel_rfl) (fun _ _ _ h => h) (Or.inl ⟨by kernel_rfl, ?yOt2⟩) (by assumption) ?rOt2
    case yOt2 =>
      intro w hSw
      (try dsimp only at hSw)
      go_simp
      try with_reducible rfl
    try simp only [List.setIfInBounds_toArray, List.set_cons_zero, List.set_cons_succ]
    refine wpAnyH_tk (i := 4) (oi := _) (v := ?vOt4) rfl rfl (by kernel_rfl) (by kernel_rfl) (by kernel_rfl) (fun _ _ _ h => h) (Or.inl ⟨by kernel_rfl, ?yOt4⟩) (by assumption) ?rOt4
    case yOt4 =>
      intro w hSw
      (try dsimp only at hSw)
      go_simp
      try with_reducible rfl
    try simp only [List.setIfInBounds_toArray, List.set_cons_zero, List.set_cons_succ]
    refine wpAnyH_tk (i := 6) (oi := _) (v := ?vOt6) rfl rfl (by kernel_rfl) (by kernel_rfl) (by kernel_rfl) (fun _ _ _ h => h) (Or.inl ⟨by kernel_rfl, ?yOt6⟩) (by assumption) ?rOt6
    case yOt6 =>
      intro w hSw
      (try dsimp only at hSw)
      go_simp
      try with_reducible rfl
    try simp only [List.setIfInBounds_toArray, List.set_cons_zero, List.set_cons_succ]
    refine wpAnyH_tk (i := 7) (oi := _) (v := ?vOt7) rfl rfl (by kernel_rfl) (by kernel_rfl) (by kernel_rfl) (fun _ _ _ h => h) (Or.inl ⟨by kernel_rfl, ?yOt7⟩) (by assumption) ?rOt7
    case yOt7 =>
      intro w hSw
      (try dsimp only at hSw)
      go_simp
      try with_reducible rfl
    try simp only [List.setIfInBounds_toArray, List.set_cons_zero, List.set_cons_succ]
    refine wpAnyH_tk (i := 8) (oi := _) (v := ?vOt8) rfl rfl (by kernel_rfl) (by kernel_rfl) (by kernel_rfl) (fun _ _ _ h => h) (Or.inl ⟨by kernel_rfl, ?yOt8⟩) (by assumption) ?rOt8
    case yOt8 =>
      intro w hSw
      (try dsimp only at hSw)
      go_simp
      try with_reducible rfl
    try simp only [List.setIfInBounds_toArray, List.set_cons_zero, List.set_cons_succ]
    refine wpAnyH_tk (i := 9) (oi := _) (v := ?vOt9) rfl rfl (by kernel_rfl) (by kernel_rfl) (by kernel_rfl) (fun _ _ _ h => h) (Or.inl ⟨by kernel_rfl, ?yOt9⟩) (by assumption) ?rOt9
    case yOt9 =>
      intro w hSw
      (try dsimp only at hSw)
      go_simp
      try with_reducible rfl
    try simp only [List.setIfInBounds_toArray, List.set_cons_zero, List.set_cons_succ]
    refine wpAnyH_ready (rs := [3]) (by kernel_rfl) (by simp) ?_
    refine AllReadyH.cons (o := _) rfl (fun K hK => ?_) AllReadyH.nil
    refine step_app_run rfl _ _ rfl rfl rfl rfl r2 ?_
    refine hK.out _ _ hs2 (fun _ => ?_)
    clear hK K
    try simp only [Act.put, List.setIfInBounds_toArray, List.set_cons_zero, List.set_cons_succ]
    refine wpAnyH_ready (rs := [5]) (by kernel_rfl) (by simp) ?_
    refine AllReadyH.cons (o := _) rfl (fun K hK => ?_) AllReadyH.nil
    refine step_app_run rfl _ _ rfl rfl rfl rfl r3 ?_
    refine hK.out _ _ hs3 (fun _ => ?_)
    clear hK K
    try simp only [Act.put, List.setIfInBounds_toArray, List.set_cons_zero, List.set_cons_succ]
    refine wpAnyH_tk (i := 10) (oi := _) (v := ?vOt10) rfl rfl (by kernel_rfl) (by kernel_rfl) (by kernel_rfl) (fun _ _ _ h => h) (Or.inl ⟨by kernel_rfl, ?yOt10⟩) (by assumption) ?rOt10
    case yOt10 =>
      intro w hSw
      (try dsimp only at hSw)
      go_simp
      try with_reducible rfl
    try simp only [List.setIfInBounds_toArray, List.set_cons_zero, List.set_cons_succ]
    refine wpAnyH_ready (rs := [11]) (by kernel_rfl) (by simp) ?_
    refine AllReadyH.cons (o := _) rfl (fun K hK => ?_) AllReadyH.nil
    rw [if_pos (by kernel_rfl)]
    go_simp
    refine HPT.out.mono ?_
    rintro e w' ⟨rfl, hrk, hlast⟩
    have HRK := hide hrk
    clear hrk
    refine hK.out _ _ hlast (fun _ => ?_)
    clear hK K
    try simp only [Act.put, List.setIfInBounds_toArray, List.set_cons_zero, List.set_cons_succ]
    refine wpAnyH_done (by kernel_rfl) ?_ _
    go_wp2
    go_ret
    rw [HE.out]
    exact ⟨rfl, RK.pre HBW.out HRK.out⟩
  | false =>
    have hE := HE.out
    simp only [if_true, Bool.false_eq_true, if_false, HM.out, List.length_nil, List.nil_append, Nat.zero_add] at hE
    have HFULL := hide (fun (h : by_ < bl ∨ by_ < us - m + bl) => hE.trans (if_neg (by omega)))
    have HOK := hide (fun (h1 : bl ≤ by_) (h : us - m + bl ≤ by_) => hE.trans (if_pos (by omega)))
    clear hE HE
    have HPUT := hide (fun (h1 : bl ≤ by_) (h : us - m + bl ≤ by_) (W : World) (hb : Below w.heap.size w W) => HWP.out q none 0 [] W hb (fun k x hk => by simp at hk) (fun a e => by cases e) Bb cb b (HBB.out W hb) HBG.out (by simp; have := HBL.out; omega) { Vf.putS S q false b with used := us + bl - m } rfl rfl rfl rfl)
    rw [List.nil_append, HBL.out, List.length_nil] at HPUT
    go_wp2_with fail
    refine (HKD.out w1 HB.out).mono ?_
    rintro e w' ⟨rfl, rfl⟩
    have ho := H.out.below HB.out
    have hg := ho.heap
    rw [HN.out] at hg
    have hc2 := cellOf hg (j := 2) (v := .slice A n c) rfl
    obtain ⟨gs, o, rfl, hgs, hc⟩ := ho.rg k x HX.out
    have hc3 : w1.cell? ⟨gs, o + k * 4 + 2, none⟩ = some (.slice x.2.A x.2.nd.data.length x.2.c) := hc 2 _ rfl
    rw [HXD.out, HM.out, HXA.out, HXC.out] at hc3
    have HAT := hide (HAT0.out w1.drew (HB.out.drew))
    clear hc hg ho hgs
    go_wp2_with fail
    go_region_held3 (fun w' => w'.cell? ⟨g, 2, none⟩ = some (.slice (some ⟨gs, o, none⟩) n c) ∧ w'.cell? ⟨gs, o + k * 4 + 2, none⟩ = some (.slice B m d))
      (exact ⟨hc2, hc3⟩)
      ((go_at_call 90; refine HAT.out.mono ?_; rintro e w' ⟨rfl, rfl⟩))
    have HBW := hide HB.out.drew
    clear hc2 hc3
    obtain ⟨W, hW⟩ : ∃ W, w1.drew = W := ⟨_, rfl⟩
    rw [hW] at HBW ⊢
    clear hW
    go_wp2_with fail
    refine (HSZ.out W HBW.out).mono ?_
    rintro e w' ⟨rfl, rfl⟩
    have hgW := (H.out.below HBW.out).heap
    rw [HN.out] at hgW
    have hc1 := cellOf hgW (j := 1) (v := .int .i64 S.bytes) rfl
    rw [HBY.out] at hc1
    have hc3 := cellOf hgW (j := 3) (v := .int .i64 S.clock) rfl
    have hf3 := freeOf hgW 3
    clear hgW
    by_cases t1 : by_ < bl
    · have HE := hide (HFULL.out (.inl t1))
      have t1i : (by_ : Int) < (bl : Int) := by omega
      go_wp2
      go_ret
      rw [HE.out]
      exact ⟨rfl, RK.stay H.out HBW.out⟩
    have t1i : ¬ (by_ : Int) < (bl : Int) := by omega
    by_cases t2 : by_ < us - m + bl
    · have HE := hide (HFULL.out (.inr t2))
      have t2i : (by_ : Int) < (us : Int) - (m : Int) + (bl : Int) := by omega
      go_wp2
      go_ret
      rw [HE.out]
      exact ⟨rfl, RK.stay H.out HBW.out⟩
    have t2i : ¬ (by_ : Int) < (us : Int) - (m : Int) + (bl : Int) := by omega
    have HE := hide (HOK.out (by omega) (by omega))
    obtain ⟨v2, w2, A3, c3, w3, r2, r3, hs2, hs3, hput⟩ := HPUT.out (by omega) (by omega) W HBW.out
    have HPT := hide hput
    have hs1 : (W.setCell ⟨g, 3, none⟩ (.int .i64 ((S.clock : Int) + 1))).drew.cell? ⟨g, 3, none⟩ = some (.int .i64 ((S.clock : Int) + 1)) := World.cell?_setCell_same' W _ _ (by rw [hc3]; rfl)
    clear hput t1 t2
    go_wp2_with fail
    refine wp_region_held_drew (S := (fun W => W.cell? ⟨g, 3, none⟩ = some (.int .i64 ((S.clock : Int) + 1)))) (by kernel_rfl) hs1 (fun hHeld => ?_)
    refine wpAnyH_tk (i := 0) (oi := _) (v := ?vOf0) rfl rfl (by kernel_rfl) (by kernel_rfl) (by kernel_rfl) (fun _ _ _ h => h) (Or.inl ⟨by kernel_rfl, ?yOf0⟩) (by assumption) ?rOf0
    case yOf0 =>
      intro w hSw
      (try dsimp only at hSw)
      go_simp
      try with_reducible rfl
    try simp only [List.setIfInBounds_toArray, List.set_cons_zero, List.set_cons_succ]
    refine wpAnyH_tk (i := 1) (oi := _) (v := ?vOf1) rfl rfl (by kernel_rfl) (by kernel_rfl) (by kernel_rfl) (fun _ _ _ h => h) (Or.inl ⟨by kernel_rfl, ?yOf1⟩) (by assumption) ?rOf1
    case yOf1 =>
      intro w hSw
      (try dsimp only at hSw)
      go_simp
      try with_reducible rfl
    try simp only [List.setIfInBounds_toArray, List.set_cons_zero, List.set_cons_succ]
    refine wpAnyH_tk (i := 2) (oi := _) (v := ?vOf2) rfl rfl (by kernel_rfl) (by kernel_rfl) (by kernel_rfl) (fun _ _ _ h => h) (Or.inl ⟨by kernel_rfl, ?yOf2⟩) (by assumption) ?rOf2
    case yOf2 =>
      intro w hSw
      (try dsimp only at hSw)
      go_simp
      try with_reducible rfl
    try simp only [List.setIfInBounds_toArray, List.set_cons_zero, List.set_cons_succ]
    refine wpAnyH_tk (i := 4) (oi := _) (v := ?vOf4) rfl rfl (by kernel_rfl) (by kernel_rfl) (by kernel_rfl) (fun _ _ _ h => h) (Or.inl ⟨by kernel_rfl, ?yOf4⟩) (by assumption) ?rOf4
    case yOf4 =>
      intro w hSw
      (try dsimp only at hSw)
      go_simp
      try with_reducible rfl
    try simp only [List.setIfInBounds_toArray, List.set_cons_zero, List.set_cons_succ]
    refine wpAnyH_tk (i := 6) (oi := _) (v := ?vOf6) rfl rfl (by kernel_rfl) (by kernel_rfl) (by kernel_rfl) (fun _ _ _ h => h) (Or.inl ⟨by kernel_rfl, ?yOf6⟩) (by assumption) ?rOf6
    case yOf6 =>
      intro w hSw
      (try dsimp only at hSw)
      go_simp
      try with_reducible rfl
    try simp only [List.setIfInBounds_toArray, List.set_cons_zero, List.set_cons_succ]
    refine wpAnyH_tk (i := 7) (oi := _) (v := ?vOf7) rfl rfl (by kernel_rfl) (by kernel_rfl) (by kernel_rfl) (fun _ _ _ h => h) (Or.inl ⟨by kernel_rfl, ?yOf7⟩) (by assumption) ?rOf7
    case yOf7 =>
      intro w hSw
      (try dsimp only at hSw)
      go_simp
      try with_reducible rfl
    try simp only [List.setIfInBounds_toArray, List.set_cons_zero, List.set_cons_succ]
    refine wpAnyH_tk (i := 8) (oi := _) (v := ?vOf8) rfl rfl (by kernel_rfl) (by kernel_rfl) (by kernel_rfl) (fun _ _ _ h => h) (Or.inl ⟨by kernel_rfl, ?yOf8⟩) (by assumption) ?rOf8
    case yOf8 =>
      intro w hSw
      (try dsimp only at hSw)
      go_simp
      try with_reducible rfl
    try simp only [List.setIfInBounds_toArray, List.set_cons_zero, List.set_cons_succ]
    refine wpAnyH_tk (i := 9) (oi := _) (v := ?vOf9) rfl rfl (by kernel_rfl) (by kernel_rfl) (by kernel_rfl) (fun _ _ _ h => h) (Or.inl ⟨by kernel_rfl, ?yOf9⟩) (by assumption) ?rOf9
    case yOf9 =>
      intro w hSw
      (try dsimp only at hSw)
      go_simp
      try with_reducible rfl
    try simp only [List.setIfInBounds_toArray, List.set_cons_zero, List.set_cons_succ]
    refine wpAnyH_ready (rs := [3]) (by kernel_rfl) (by simp) ?_
    refine AllReadyH.cons (o := _) rfl (fun K hK => ?_) AllReadyH.nil
    refine step_app_run rfl _ _ rfl rfl rfl rfl r2 ?_
    refine hK.out _ _ hs2 (fun _ => ?_)
    clear hK K
    try simp only [Act.put, List.setIfInBounds_toArray, List.set_cons_zero, List.set_cons_succ]
    refine wpAnyH_ready (rs := [5]) (by kernel_rfl) (by simp) ?_
    refine AllReadyH.cons (o := _) rfl (fun K hK => ?_) AllReadyH.nil
    refine step_app_run rfl _ _ rfl rfl rfl rfl r3 ?_
    refine hK.out _ _ hs3 (fun _ => ?_)
    clear hK K
    try simp only [Act.put, List.setIfInBounds_toArray, List.set_cons_zero, List.set_cons_succ]
    refine wpAnyH_tk (i := 10) (oi := _) (v := ?vOf10) rfl rfl (by kernel_rfl) (by kernel_rfl) (by kernel_rfl) (fun _ _ _ h => h) (Or.inl ⟨by kernel_rfl, ?yOf10⟩) (by assumption) ?rOf10
    case yOf10 =>
      intro w hSw
      (try dsimp only at hSw)
      go_simp
      try with_reducible rfl
    try simp only [List.setIfInBounds_toArray, List.set_cons_zero, List.set_cons_succ]
    refine wpAnyH_ready (rs := [11]) (by kernel_rfl) (by simp) ?_
    refine AllReadyH.cons (o := _) rfl (fun K hK => ?_) AllReadyH.nil
    rw [if_pos (by kernel_rfl)]
    go_simp
    refine HPT.out.mono ?_
    rintro e w' ⟨rfl, hrk, hlast⟩
    have HRK := hide hrk
    clear hrk
    refine hK.out _ _ hlast (fun _ => ?_)
    clear hK K
    try simp only [Act.put, List.setIfInBounds_toArray, List.set_cons_zero, List.set_cons_succ]
    refine wpAnyH_done (by kernel_rfl) ?_ _
    go_wp2
    go_ret
    rw [HE.out]
    exact ⟨rfl, RK.pre HBW.out HRK.out⟩
end Go.Proofs.YtaajofojbhdgaaaGreatDoor
