/- Walks and plain facts that the claim uses. -/
import Derived.Test.YtmcophlmcloooaaGreatDoorFP4
import Derived.BigQuiet
set_option maxRecDepth 100000
set_option maxHeartbeats 16000000
set_option linter.unusedSimpArgs false
set_option linter.unusedVariables false
namespace Go.Proofs.YtmcophlmcloooaaGreatDoor
section
open Go.RowKit Go.Deep Go.Maps Ln Pth Vf
attribute [local go_sem] bt_eq
def rowN : RowT Tryz.prog 70 172 4 := { z := .agg #[.string ⟨#[]⟩, .bool false, .slice none 0 0, .int .i64 0], bytes := 56, und := Tryz.underlying70, info := by kernel_rfl, zlen := rfl, pos := by omega, sb := by omega }
theorem putG_at {α : Type} {x : ByteArray × α} : ∀ (L : KV α) (k : Nat), k ≤ L.length → (∀ j y, j < k → L[j]? = some y → sLt y.1 x.1 = true) → (∀ y, L[k]? = some y → sLt y.1 x.1 = false) →
   putG x L = L.take k ++ [x] ++ L.drop (match L[k]? with | some y => if y.1 = x.1 then k + 1 else k | none => k)
 | [], k, hk, _, _ => by
   obtain rfl : k = 0 := by simpa using hk
   rfl
 | y :: L, 0, hk, h1, h2 => by
   have := h2 y rfl
   rw [putG, if_neg (by rw [this]; simp)]
   simp only [List.getElem?_cons_zero]
   split <;> simp
 | y :: L, k + 1, hk, h1, h2 => by
   rw [putG, if_pos (h1 0 y (by omega) rfl), putG_at L k (by simpa using hk) (fun j z hj hz => h1 (j + 1) z (by omega) (by simpa using hz)) (fun z hz => h2 z (by simpa using hz))]
   simp only [List.getElem?_cons_succ]
   cases L[k]? with
   | none => simp
   | some z => dsimp only; split <;> simp
theorem rg_newN (w : World) (x : NV) (cs : Array Value) (hcs : cs = (encE x).toArray) (t : TypeId) : RG encE 4 (w.alloc (.cells cs t)) (some ⟨w.heap.size, 0, none⟩) [x] := fun k y hk => by
 cases k with
 | zero =>
   simp at hk
   subst hk
   subst hcs
   refine ⟨_, _, rfl, by simp, fun j u hj => ?_⟩
   have hj4 := (List.getElem?_eq_some_iff.1 hj).1
   rw [World.cell?_alloc_at _ _ _ _ (by rfl)]
   simpa using hj
 | succ k => simp at hk
theorem putN_chain (w : World) (A1 A2 : Option Addr) (c1 c2 : Nat) (L1 L2 : List NV) (x : NV) (cs : Array Value) (hcs : cs = (encE x).toArray) (h1 : RG encE 4 w A2 L2) (h2 : RG encE 4 w A1 L1) (hl : L1.length + L2.length ≤ 100000) :
   ∃ v2 w2 v3 w3 v4 w4, (Builtin.append_ #[70, 70] 70 #[.slice none 0 0, .slice A1 L1.length c1]).run Tryz.prog w = .ok v2 w2 ∧
     (Builtin.append_ #[70, 70] 70 #[v2, .slice (some ⟨w2.heap.size, 0, none⟩) 1 1]).run Tryz.prog (w2.alloc (.cells cs 172)) = .ok v3 w3 ∧
     (Builtin.append_ #[70, 70] 70 #[v3, .slice A2 L2.length c2]).run Tryz.prog w3 = .ok v4 w4 ∧ OwnG encE 4 172 w4 w.heap.size v4 (L1 ++ [x] ++ L2) ∧ Below w.heap.size w w2 ∧ Below w.heap.size w w3 ∧ Below w.heap.size w w4 := by
 obtain ⟨v2, w2, r2, o2, g2, b2⟩ := run_appG rowN encE_len encE_one (OwnG.nil w w.heap.size) h2 (Nat.le_refl _) (by simp; omega)
 have hb2 : Below w.heap.size w w2 := Below.of_gb g2 (Nat.le_refl _) (fun k hk => by cases hk)
 have s2 := hb2.size
 simp only [List.nil_append] at o2
 have n2 : ∀ k, v2.ownBlock = some k → w.heap.size ≤ k := fun k hk => (o2.lt k hk).1
 obtain ⟨v3, w3, r3, o3, g3, b3⟩ := run_appG rowN encE_len encE_one (o2.alloc (.cells cs 172)) (rg_newN w2 x cs hcs _) (by simp; omega) (by simp; omega)
 have n3 : ∀ k, v3.ownBlock = some k → w.heap.size ≤ k := fun k hk => (o3.lt k hk).1
 have hb3 : Below w.heap.size w w3 := (hb2.alloc hb2.size _).trans (Below.of_gb g3 (by simp; omega) (fun k hk => n2 k hk))
 have s3 := hb3.size
 obtain ⟨v4, w4, r4, o4, g4, b4⟩ := run_appG rowN encE_len encE_one o3 (h1.below hb3) (by omega) (by simp; omega)
 exact ⟨v2, w2, v3, w3, v4, w4, r2, r3, r4, o4, hb2, hb3, hb3.trans (Below.of_gb g4 s3 n3)⟩
theorem putN_chain2 (w : World) (A1 A2 : Option Addr) (c1 c2 : Nat) (L1 L2 : List NV) (x : NV) (cs : Array Value) (hcs : cs = (encE x).toArray) (h1 : RG encE 4 w A2 L2) (h2 : RG encE 4 w A1 L1) (hl : L1.length + L2.length ≤ 100000) :
   ∃ v2 w2 v3 w3 v4 w4, (Builtin.append_ #[70, 70] 70 #[.slice none 0 0, .slice A1 L1.length c1]).run Tryz.prog (w.alloc (.cells cs 172)) = .ok v2 w2 ∧
     (Builtin.append_ #[70, 70] 70 #[v2, .slice (some ⟨w.heap.size, 0, none⟩) 1 1]).run Tryz.prog w2 = .ok v3 w3 ∧
     (Builtin.append_ #[70, 70] 70 #[v3, .slice A2 L2.length c2]).run Tryz.prog w3 = .ok v4 w4 ∧ OwnG encE 4 172 w4 w.heap.size v4 (L1 ++ [x] ++ L2) ∧ Below w.heap.size w w2 ∧ Below w.heap.size w w3 ∧ Below w.heap.size w w4 := by
 have hb1 : Below w.heap.size w (w.alloc (.cells cs 172)) := (Below.refl _ w).alloc (Nat.le_refl _) _
 have hx := rg_newN w x cs hcs 172
 have hz1 := hb1.size
 obtain ⟨w1, hw1⟩ : ∃ W, w.alloc (.cells cs 172) = W := ⟨_, rfl⟩
 rw [hw1] at hb1 hx hz1 ⊢
 obtain ⟨v2, w2, r2, o2, g2, b2⟩ := run_appG rowN encE_len encE_one (OwnG.nil w1 w1.heap.size) (h2.below hb1) (Nat.le_refl _) (by simp; omega)
 have hb12 : Below w1.heap.size w1 w2 := Below.of_gb g2 (Nat.le_refl _) (fun k hk => by cases hk)
 have hb2 : Below w.heap.size w w2 := below_up hb1 hb12 hb1.size
 have s2 := hb12.size
 simp only [List.nil_append] at o2
 have n2 : ∀ k, v2.ownBlock = some k → w.heap.size ≤ k := fun k hk => by have := (o2.lt k hk).1; omega
 obtain ⟨v3, w3, r3, o3, g3, b3⟩ := run_appG rowN encE_len encE_one (o2.base hz1) (hx.below hb12) (by omega) (by simp; omega)
 have n3 : ∀ k, v3.ownBlock = some k → w.heap.size ≤ k := fun k hk => (o3.lt k hk).1
 have hb3 : Below w.heap.size w w3 := hb2.trans (Below.of_gb g3 (by omega) (fun k hk => n2 k hk))
 have s3 := hb3.size
 obtain ⟨v4, w4, r4, o4, g4, b4⟩ := run_appG rowN encE_len encE_one o3 (h1.below hb3) (by omega) (by simp; omega)
 exact ⟨v2, w2, v3, w3, v4, w4, r2, r3, r4, o4, hb2, hb3, hb3.trans (Below.of_gb g4 s3 n3)⟩
theorem rput_any (g : Nat) (S : St) (A : Option Addr) (c : Nat) (P : List NV) (x : NV) (w : World) (h : RSO g S A c P w) (hl : P.length ≤ 10000) :
   Calls Tryz.prog 115 #[.pointer (some ⟨g, 0, none⟩), .agg (encE x).toArray] w fun e w' => e = .returned (.tuple #[]) ∧ ∃ A' c', w'.heap[g]? = some (.cells #[.int .i64 S.nodes, .int .i64 S.bytes, .slice A' (putG x P).length c', .int .i64 S.clock] 72) ∧ (putG x P).length ≤ c' ∧ RG encE 4 w' A' (putG x P) ∧ (∀ a, A' = some a → w.heap.size ≤ a.block) ∧ w.grownBy w' (some g) := by
 obtain ⟨n, hn⟩ : ∃ n, P.length = n := ⟨_, rfl⟩
 have HN := hide hn
 have H := hide h
 have hln : n ≤ 10000 := by omega
 have hgl : g < w.heap.size := (Array.getElem?_eq_some_iff.1 h.heap).1
 obtain ⟨xs, xe⟩ := x
 obtain ⟨xd, xa, xc⟩ := xe
 have HA0 := hide h.top
 clear h hl hn
 simp only [encE]
 go_enter Tryz.func115, Tryz.ntmps115
 go_wp2
 obtain ⟨wa, hwa⟩ : ∃ W, w.alloc (.cells #[.string xs, .bool xc.dir, .slice xd xc.data.length xa, .int .i64 xc.time] 172) = W := ⟨_, rfl⟩
 have hnw := heapNew w (.cells #[.string xs, .bool xc.dir, .slice xd xc.data.length xa, .int .i64 xc.time] 172)
 have hba : Below w.heap.size w (w.alloc (.cells #[.string xs, .bool xc.dir, .slice xd xc.data.length xa, .int .i64 xc.time] 172)) := (Below.refl _ w).alloc (Nat.le_refl _) _
 rw [hwa] at hnw hba ⊢
 obtain ⟨b, hb⟩ : ∃ b, w.heap.size = b := ⟨_, rfl⟩
 rw [hb] at hnw hba hgl ⊢
 have hgb : g ≠ b := by omega
 have HNW := hide hnw
 have HBA := hide (show Below b w wa from hba)
 have HRA := hide (show RSO g S A c P wa from H.out.below (by rw [hb]; exact hba))
 have HBB := hide hb
 clear hwa hnw hba hb H
 go_wp2
 go_loopw [4] (fun v4 wr => ∃ k q : Nat, v4 = .int .i64 k ∧ k ≤ n ∧ Hid (∀ j y, j < k → P[j]? = some y → sLt y.1 xs = true) ∧ wr = wa.drewN q) (fun v4 _ => n - (intOf v4).toNat)
 case atStart => exact ⟨0, 0, rfl, by omega, (fun j y hj => by omega), rfl⟩
 case round =>
   obtain ⟨k, q, rfl, hk, HE, rfl⟩ := hrel
   have ho := HRA.out
   have hg := ho.heap
   rw [HN.out] at hg
   have hc2 := cellOf hg (j := 2) (v := .slice A n c) rfl
   have hx0 : wa.cell? ⟨b, 0, none⟩ = some (.string xs) := cellOf HNW.out (j := 0) rfl
   by_cases hlt : k < n
   · obtain ⟨y, hy⟩ : ∃ x, P[k]? = some x := ⟨P[k]'(by have := HN.out; omega), gE _⟩
     obtain ⟨gs, o, rfl, hgs, hc⟩ := ho.rg k y hy
     have hc0 : wa.cell? ⟨gs, o + k * 4, none⟩ = some (.string y.1) := by have := hc 0 _ rfl; simpa using this
     have HY := hide hy
     have b1 : (k : Int) < (n : Int) := by omega
     have d1 : decide ((k : Int) < (n : Int)) = true := by simpa using b1
     obtain ⟨ys, hys⟩ : ∃ t, y.1 = t := ⟨_, rfl⟩
     rw [hys] at hc0
     have HYS := hide hys
     have hcl := ho.cap
     rw [HN.out] at hcl
     have HTK := hide (fun (W : World) (h : Below wa.heap.size wa W) => show RG encE 4 W (some ⟨gs, o, none⟩) (P.take k) from (HRA.out.below h).rg.take k)
     have HDR := hide (fun (j : Nat) (W : World) (h : Below wa.heap.size wa W) => show RG encE 4 W (some ⟨gs, o + j * 4, none⟩) (P.drop j) from (HRA.out.below h).rg.drop j)
     have hkc : k ≤ c := by omega
     have HDZ0 := hide (fun (h : c = k + 1) (W : World) (_ : Below wa.heap.size wa W) => show RG encE 4 W (some ⟨gs, o, none⟩) (P.drop (k + 1)) from fun j s hj => by
       rw [List.getElem?_drop, List.getElem?_eq_none (by have := HN.out; omega)] at hj
       cases hj)
     clear ho hg hc hy hys hgs
     cases hs : sLt ys xs with
     | true =>
       have hs2 : Op.bytesLess ys.toList xs.toList = true := hs
       have HS := hide hs
       clear hs
       go_wp2_with fail
       go_quiet (fail)
       go_wp2
       go_roundw
       case rel =>
         refine ⟨k + 1, _, by go_num, by omega, fun j z hj hz => ?_, rfl⟩
         by_cases e : j = k
         · subst e
           rw [HY.out] at hz
           injection hz with hz
           rw [← hz, HYS.out]
           exact HS.out
         · exact HE.out j z (by omega) hz
       case measure => simp [intOf]; omega
     | false =>
       have hs2 : Op.bytesLess ys.toList xs.toList = false := hs
       have HP := hide (putG_at (x := ((xs, ⟨xd, xa, xc⟩) : NV)) P k (by have := HN.out; omega) HE.out (fun z hz => by rw [HY.out] at hz; injection hz with hz; rw [← hz, HYS.out]; exact hs))
       clear hs
       by_cases he : ys = xs
       · have e1 : (ys.toList == xs.toList) = true := by rw [he]; simp
         have HQ := hide (show putG ((xs, ⟨xd, xa, xc⟩) : NV) P = P.take k ++ [(xs, ⟨xd, xa, xc⟩)] ++ P.drop (k + 1) by rw [HP.out, HY.out]; dsimp only; rw [HYS.out, if_pos he])
         clear he HP
         go_wp2_with fail
         go_quiet (fail)
         obtain ⟨nq1, hnq1⟩ : ∃ z, z = nq := ⟨_, rfl⟩
         subst hnq1
         go_wp2_with fail
         go_quiet (fail)
         go_wp2_with fail
         by_cases hck : c = k + 1
         · have HDZ := hide (HDZ0.out hck)
           have HCK := hide hck
           clear hck
           have HRB := hide (show Below wa.heap.size wa ((wa.drewN (q + nq1 + nq)).drew) from (below_drewN (Below.refl wa.heap.size wa) _).drew)
           have hbl : b < wa.heap.size := (Array.getElem?_eq_some_iff.1 HNW.out).1
           have hgl2 : g < wa.heap.size := (Array.getElem?_eq_some_iff.1 HRA.out.heap).1
           have hx1 : wa.cell? ⟨b, 1, none⟩ = some (.bool xc.dir) := cellOf HNW.out (j := 1) rfl
           have hx2 : wa.cell? ⟨b, 2, none⟩ = some (.slice xd xc.data.length xa) := cellOf HNW.out (j := 2) rfl
           have hx3 : wa.cell? ⟨b, 3, none⟩ = some (.int .i64 xc.time) := cellOf HNW.out (j := 3) rfl
           have hs2 : ∀ W, Below wa.heap.size wa W → (fun w' => w'.cell? ⟨g, 2, none⟩ = some (.slice (some ⟨gs, o, none⟩) n c) ∧ w'.cell? ⟨b, 0, none⟩ = some (.string xs) ∧ w'.cell? ⟨b, 1, none⟩ = some (.bool xc.dir) ∧ w'.cell? ⟨b, 2, none⟩ = some (.slice xd xc.data.length xa) ∧ w'.cell? ⟨b, 3, none⟩ = some (.int .i64 xc.time)) W := fun W h => ⟨(h.cell (p := ⟨g, 2, none⟩) hgl2).trans hc2, (h.cell (p := ⟨b, 0, none⟩) hbl).trans hx0, (h.cell (p := ⟨b, 1, none⟩) hbl).trans hx1, (h.cell (p := ⟨b, 2, none⟩) hbl).trans hx2, (h.cell (p := ⟨b, 3, none⟩) hbl).trans hx3⟩
           have HS2 := hide hs2
           clear hs2
           refine wp_region_held_drew (S := fun w' => w'.cell? ⟨g, 2, none⟩ = some (.slice (some ⟨gs, o, none⟩) n c) ∧ w'.cell? ⟨b, 0, none⟩ = some (.string xs) ∧ w'.cell? ⟨b, 1, none⟩ = some (.bool xc.dir) ∧ w'.cell? ⟨b, 2, none⟩ = some (.slice xd xc.data.length xa) ∧ w'.cell? ⟨b, 3, none⟩ = some (.int .i64 xc.time)) (by kernel_rfl) (HS2.out _ HRB.out) (fun hHeld => ?_)
           refine tq (i := 0) (v := ?va0) rfl rfl (by kernel_rfl) (fun _ _ _ h => h) ?ya0 (by assumption) ?ra0
           case ya0 => intro w h; (try dsimp only at h); go_simp; try with_reducible rfl
           try simp only [sA, sB, sC]
           refine tq (i := 1) (v := ?va1) rfl rfl (by kernel_rfl) (fun _ _ _ h => h) ?ya1 (by assumption) ?ra1
           case ya1 => intro w h; (try dsimp only at h); go_simp; try with_reducible rfl
           try simp only [sA, sB, sC]
           refine tq (i := 2) (v := ?va2) rfl rfl (by kernel_rfl) (fun _ _ _ h => h) ?ya2 (by assumption) ?ra2
           case ya2 => intro w h; (try dsimp only at h); go_simp; try with_reducible rfl
           try simp only [sA, sB, sC]
           refine tq (i := 3) (v := ?va3) rfl rfl (by kernel_rfl) (fun _ _ _ h => h) ?ya3 (by assumption) ?ra3
           case ya3 => intro w h; (try dsimp only at h); go_simp; try with_reducible rfl
           try simp only [sA, sB, sC]
           refine tq (i := 4) (v := ?va4) rfl rfl (by kernel_rfl) (fun _ _ _ h => h) ?ya4 (by assumption) ?ra4
           case ya4 => intro w h; (try dsimp only at h); go_simp; try with_reducible rfl
           try simp only [sA, sB, sC]
           refine tq (i := 5) (v := ?va5) rfl rfl (by kernel_rfl) (fun _ _ _ h => h) ?ya5 (by assumption) ?ra5
           case ya5 => intro w h; (try dsimp only at h); go_simp; try with_reducible rfl
           try simp only [sA, sB, sC]
           refine tq (i := 7) (v := ?va7) rfl rfl (by kernel_rfl) (fun _ _ _ h => h) ?ya7 (by assumption) ?ra7
           case ya7 => intro w h; (try dsimp only at h); go_simp; try with_reducible rfl
           try simp only [sA, sB, sC]
           refine wpAnyH_ready (rs := [6, 8]) (by kernel_rfl) (by simp) ?_
           refine AllReadyH.cons (o := _) rfl (fun K hK => ?away1) (AllReadyH.cons (o := _) rfl (fun K hK => ?away2) AllReadyH.nil)
           case away1 =>
             obtain ⟨v2, w2, v3, w3, v4, w4, r2, r3, r4, ho4, hb2, hb3, hb4⟩ := putN_chain ((wa.drewN (q + nq1 + nq)).drew) (some ⟨gs, o, none⟩) (some ⟨gs, o, none⟩) c (c - (k + 1)) (P.take k) (P.drop (k + 1)) (xs, ⟨xd, xa, xc⟩) #[.string xs, .bool xc.dir, .slice xd xc.data.length xa, .int .i64 xc.time] rfl (HDZ.out _ HRB.out) (HTK.out _ HRB.out) (by simp only [List.length_take, List.length_drop]; have := HN.out; omega)
             rw [show (P.drop (k + 1)).length = n - (k + 1) by rw [List.length_drop, HN.out]] at r4
             rw [show (P.take k).length = k by rw [List.length_take, HN.out]; omega] at r2
             have HB2 := hide (show Below wa.heap.size wa w2 from below_up HRB.out hb2 HRB.out.size)
             have HB3 := hide (show Below wa.heap.size wa w3 from below_up HRB.out hb3 HRB.out.size)
             have HB4 := hide (show Below wa.heap.size wa w4 from below_up HRB.out hb4 HRB.out.size)
             have ho5 := ho4.base (base' := wa.heap.size) (Nat.le_refl _)
             rw [← HQ.out] at ho5
             obtain ⟨A', c', rfl, hcp, hrg, hob, _⟩ := ho5.slice encE_len
             have HA' := hide (show ∀ a, A' = some a → wa.heap.size ≤ a.block from fun a e => (ho5.lt _ (hob a e)).1)
             have HCP := hide hcp
             have HRG := hide hrg
             clear ho4 ho5 hb2 hb3 hb4 hob hcp hrg
             refine step_app_run rfl _ _ rfl rfl rfl rfl r2 ?_
             refine hK.out _ _ (HS2.out _ HB2.out) (fun _ => ?_)
             clear hK K
             try simp only [Act.put, sA, sB, sC]
             refine rq (k := 8) rfl (by kernel_rfl) (by kernel_rfl) (fun K hK => ?_)
             go_simp
             refine hK.out _ _ (HS2.out _ (HB2.out.alloc HB2.out.size _)) (fun _ => ?_)
             clear hK K
             try simp only [Act.put, sA, sB, sC]
             refine wpAnyH_ready (rs := [9]) (by kernel_rfl) (by simp) ?_
             refine AllReadyH.cons (o := _) rfl (fun K hK => ?_) AllReadyH.nil
             refine step_app_run rfl _ _ rfl rfl rfl rfl r3 ?_
             refine hK.out _ _ (HS2.out _ HB3.out) (fun _ => ?_)
             clear hK K
             try simp only [Act.put, sA, sB, sC]
             refine tq (i := 10) (v := ?vax10) rfl rfl (by kernel_rfl) (fun _ _ _ h => h) ?yax10 (by assumption) ?rax10
             case yax10 => intro w h; (try dsimp only at h); go_simp; try with_reducible rfl
             try simp only [sA, sB, sC]
             refine wpAnyH_done (by kernel_rfl) ?_ _
             have hck2 : (c = k + 1) = True := eq_true HCK.out
             have hd2 := (HS2.out w3 HB3.out).1
             have hg4 := (HB4.out.block g hgl2).trans HRA.out.heap
             rw [HN.out] at hg4
             have hf4 := freeOf hg4 2
             have hcc4 := cellOf hg4 (j := 2) (v := .slice (some ⟨gs, o, none⟩) n c) rfl
             have HG5 := hide (heapSet (j := 2) hg4 (.slice A' (putG ((xs, ⟨xd, xa, xc⟩) : NV) P).length c'))
             obtain ⟨M, hM⟩ : ∃ m, (putG ((xs, ⟨xd, xa, xc⟩) : NV) P).length = m := ⟨_, rfl⟩
             rw [hM] at r4 HG5 HCP
             have HM := hide hM
             clear hg4 hM
             go_wp2_with (first | (at_builtin; refine wpList_app_run ?_ (.tmp 63) (.tmp 69) ?_ ?_ ?_ ?_ r4 ?_; exact rfl; exact rfl; exact rfl; exact rfl; exact rfl))
             go_end0
             have hsz : b ≤ wa.heap.size := by have := HBA.out.size; have := HBB.out; omega
             have hbb : Below b w w4 := below_up HBA.out HB4.out hsz
             refine ⟨rfl, A', c', ?_, ?_, ?_, ?_, ?_⟩
             · rw [HM.out]; exact HG5.out
             · rw [HM.out]; exact HCP.out
             · exact HRG.out.gb (gb_setCell (World.grownBy.refl w4 (some g)) 2 _) (fun a e h => by injection h with h; have := HA'.out a e; omega)
             · intro a e; have := HA'.out a e; have := HBB.out; omega
             · exact gb_setCell ⟨hbb.os, hbb.tape, hbb.output, hbb.size, fun i hi _ => hbb.block i (by have := HBB.out; omega)⟩ 2 _
           case away2 =>
             have HRB := hide (below_drewN (Below.refl wa.heap.size wa) (q + nq1 + nq + 1))
             obtain ⟨v2, w2, v3, w3, v4, w4, r2, r3, r4, ho4, hb2, hb3, hb4⟩ := putN_chain2 (wa.drewN (q + nq1 + nq + 1)) (some ⟨gs, o, none⟩) (some ⟨gs, o, none⟩) c (c - (k + 1)) (P.take k) (P.drop (k + 1)) (xs, ⟨xd, xa, xc⟩) #[.string xs, .bool xc.dir, .slice xd xc.data.length xa, .int .i64 xc.time] rfl (HDZ.out _ HRB.out) (HTK.out _ HRB.out) (by simp only [List.length_take, List.length_drop]; have := HN.out; omega)
             rw [show (P.drop (k + 1)).length = n - (k + 1) by rw [List.length_drop, HN.out]] at r4
             rw [show (P.take k).length = k by rw [List.length_take, HN.out]; omega] at r2
             have HB2 := hide (show Below wa.heap.size wa w2 from below_up HRB.out hb2 HRB.out.size)
             have HB3 := hide (show Below wa.heap.size wa w3 from below_up HRB.out hb3 HRB.out.size)
             have HB4 := hide (show Below wa.heap.size wa w4 from below_up HRB.out hb4 HRB.out.size)
             have ho5 := ho4.base (base' := wa.heap.size) (Nat.le_refl _)
             rw [← HQ.out] at ho5
             obtain ⟨A', c', rfl, hcp, hrg, hob, _⟩ := ho5.slice encE_len
             have HA' := hide (show ∀ a, A' = some a → wa.heap.size ≤ a.block from fun a e => (ho5.lt _ (hob a e)).1)
             have HCP := hide hcp
             have HRG := hide hrg
             clear ho4 ho5 hb2 hb3 hb4 hob hcp hrg
             rw [if_pos (by kernel_rfl)]
             go_simp
             refine hK.out _ _ (HS2.out _ (HRB.out.alloc HRB.out.size _)) (fun _ => ?_)
             clear hK K
             try simp only [Act.put, sA, sB, sC]
             refine wpAnyH_ready (rs := [6]) (by kernel_rfl) (by simp) ?_
             refine AllReadyH.cons (o := _) rfl (fun K hK => ?_) AllReadyH.nil
             refine step_app_run rfl _ _ rfl rfl rfl rfl r2 ?_
             refine hK.out _ _ (HS2.out _ HB2.out) (fun _ => ?_)
             clear hK K
             try simp only [Act.put, sA, sB, sC]
             refine wpAnyH_ready (rs := [9]) (by kernel_rfl) (by simp) ?_
             refine AllReadyH.cons (o := _) rfl (fun K hK => ?_) AllReadyH.nil
             refine step_app_run rfl _ _ rfl rfl rfl rfl r3 ?_
             refine hK.out _ _ (HS2.out _ HB3.out) (fun _ => ?_)
             clear hK K
             try simp only [Act.put, sA, sB, sC]
             refine tq (i := 10) (v := ?vay10) rfl rfl (by kernel_rfl) (fun _ _ _ h => h) ?yay10 (by assumption) ?ray10
             case yay10 => intro w h; (try dsimp only at h); go_simp; try with_reducible rfl
             try simp only [sA, sB, sC]
             refine wpAnyH_done (by kernel_rfl) ?_ _
             have hck2 : (c = k + 1) = True := eq_true HCK.out
             have hd2 := (HS2.out w3 HB3.out).1
             have hg4 := (HB4.out.block g hgl2).trans HRA.out.heap
             rw [HN.out] at hg4
             have hf4 := freeOf hg4 2
             have hcc4 := cellOf hg4 (j := 2) (v := .slice (some ⟨gs, o, none⟩) n c) rfl
             have HG5 := hide (heapSet (j := 2) hg4 (.slice A' (putG ((xs, ⟨xd, xa, xc⟩) : NV) P).length c'))
             obtain ⟨M, hM⟩ : ∃ m, (putG ((xs, ⟨xd, xa, xc⟩) : NV) P).length = m := ⟨_, rfl⟩
             rw [hM] at r4 HG5 HCP
             have HM := hide hM
             clear hg4 hM
             go_wp2_with (first | (at_builtin; refine wpList_app_run ?_ (.tmp 63) (.tmp 69) ?_ ?_ ?_ ?_ r4 ?_; exact rfl; exact rfl; exact rfl; exact rfl; exact rfl))
             go_end0
             have hsz : b ≤ wa.heap.size := by have := HBA.out.size; have := HBB.out; omega
             have hbb : Below b w w4 := below_up HBA.out HB4.out hsz
             refine ⟨rfl, A', c', ?_, ?_, ?_, ?_, ?_⟩
             · rw [HM.out]; exact HG5.out
             · rw [HM.out]; exact HCP.out
             · exact HRG.out.gb (gb_setCell (World.grownBy.refl w4 (some g)) 2 _) (fun a e h => by injection h with h; have := HA'.out a e; omega)
             · intro a e; have := HA'.out a e; have := HBB.out; omega
             · exact gb_setCell ⟨hbb.os, hbb.tape, hbb.output, hbb.size, fun i hi _ => hbb.block i (by have := HBB.out; omega)⟩ 2 _
         · have HRB := hide (show Below wa.heap.size wa ((wa.drewN (q + nq1 + nq)).drew) from (below_drewN (Below.refl wa.heap.size wa) _).drew)
           have hbl : b < wa.heap.size := (Array.getElem?_eq_some_iff.1 HNW.out).1
           have hgl2 : g < wa.heap.size := (Array.getElem?_eq_some_iff.1 HRA.out.heap).1
           have hx1 : wa.cell? ⟨b, 1, none⟩ = some (.bool xc.dir) := cellOf HNW.out (j := 1) rfl
           have hx2 : wa.cell? ⟨b, 2, none⟩ = some (.slice xd xc.data.length xa) := cellOf HNW.out (j := 2) rfl
           have hx3 : wa.cell? ⟨b, 3, none⟩ = some (.int .i64 xc.time) := cellOf HNW.out (j := 3) rfl
           have hs2 : ∀ W, Below wa.heap.size wa W → (fun w' => w'.cell? ⟨g, 2, none⟩ = some (.slice (some ⟨gs, o, none⟩) n c) ∧ w'.cell? ⟨b, 0, none⟩ = some (.string xs) ∧ w'.cell? ⟨b, 1, none⟩ = some (.bool xc.dir) ∧ w'.cell? ⟨b, 2, none⟩ = some (.slice xd xc.data.length xa) ∧ w'.cell? ⟨b, 3, none⟩ = some (.int .i64 xc.time)) W := fun W h => ⟨(h.cell (p := ⟨g, 2, none⟩) hgl2).trans hc2, (h.cell (p := ⟨b, 0, none⟩) hbl).trans hx0, (h.cell (p := ⟨b, 1, none⟩) hbl).trans hx1, (h.cell (p := ⟨b, 2, none⟩) hbl).trans hx2, (h.cell (p := ⟨b, 3, none⟩) hbl).trans hx3⟩
           have HS2 := hide hs2
           clear hs2
           refine wp_region_held_drew (S := fun w' => w'.cell? ⟨g, 2, none⟩ = some (.slice (some ⟨gs, o, none⟩) n c) ∧ w'.cell? ⟨b, 0, none⟩ = some (.string xs) ∧ w'.cell? ⟨b, 1, none⟩ = some (.bool xc.dir) ∧ w'.cell? ⟨b, 2, none⟩ = some (.slice xd xc.data.length xa) ∧ w'.cell? ⟨b, 3, none⟩ = some (.int .i64 xc.time)) (by kernel_rfl) (HS2.out _ HRB.out) (fun hHeld => ?_)
           refine tq (i := 0) (v := ?vA0) rfl rfl (by kernel_rfl) (fun _ _ _ h => h) ?yA0 (by assumption) ?rA0
           case yA0 => intro w h; (try dsimp only at h); go_simp; try with_reducible rfl
           try simp only [sA, sB, sC]
           refine tq (i := 1) (v := ?vA1) rfl rfl (by kernel_rfl) (fun _ _ _ h => h) ?yA1 (by assumption) ?rA1
           case yA1 => intro w h; (try dsimp only at h); go_simp; try with_reducible rfl
           try simp only [sA, sB, sC]
           refine tq (i := 2) (v := ?vA2) rfl rfl (by kernel_rfl) (fun _ _ _ h => h) ?yA2 (by assumption) ?rA2
           case yA2 => intro w h; (try dsimp only at h); go_simp; try with_reducible rfl
           try simp only [sA, sB, sC]
           refine tq (i := 3) (v := ?vA3) rfl rfl (by kernel_rfl) (fun _ _ _ h => h) ?yA3 (by assumption) ?rA3
           case yA3 => intro w h; (try dsimp only at h); go_simp; try with_reducible rfl
           try simp only [sA, sB, sC]
           refine tq (i := 4) (v := ?vA4) rfl rfl (by kernel_rfl) (fun _ _ _ h => h) ?yA4 (by assumption) ?rA4
           case yA4 => intro w h; (try dsimp only at h); go_simp; try with_reducible rfl
           try simp only [sA, sB, sC]
           refine tq (i := 5) (v := ?vA5) rfl rfl (by kernel_rfl) (fun _ _ _ h => h) ?yA5 (by assumption) ?rA5
           case yA5 => intro w h; (try dsimp only at h); go_simp; try with_reducible rfl
           try simp only [sA, sB, sC]
           refine tq (i := 7) (v := ?vA7) rfl rfl (by kernel_rfl) (fun _ _ _ h => h) ?yA7 (by assumption) ?rA7
           case yA7 => intro w h; (try dsimp only at h); go_simp; try with_reducible rfl
           try simp only [sA, sB, sC]
           refine wpAnyH_ready (rs := [6, 8]) (by kernel_rfl) (by simp) ?_
           refine AllReadyH.cons (o := _) rfl (fun K hK => ?Away1) (AllReadyH.cons (o := _) rfl (fun K hK => ?Away2) AllReadyH.nil)
           case Away1 =>
             obtain ⟨v2, w2, v3, w3, v4, w4, r2, r3, r4, ho4, hb2, hb3, hb4⟩ := putN_chain ((wa.drewN (q + nq1 + nq)).drew) (some ⟨gs, o, none⟩) (some ⟨gs, o + (k + 1) * 4, none⟩) c (c - (k + 1)) (P.take k) (P.drop (k + 1)) (xs, ⟨xd, xa, xc⟩) #[.string xs, .bool xc.dir, .slice xd xc.data.length xa, .int .i64 xc.time] rfl (HDR.out _ _ HRB.out) (HTK.out _ HRB.out) (by simp only [List.length_take, List.length_drop]; have := HN.out; omega)
             rw [show (P.drop (k + 1)).length = n - (k + 1) by rw [List.length_drop, HN.out]] at r4
             rw [show (P.take k).length = k by rw [List.length_take, HN.out]; omega] at r2
             have HB2 := hide (show Below wa.heap.size wa w2 from below_up HRB.out hb2 HRB.out.size)
             have HB3 := hide (show Below wa.heap.size wa w3 from below_up HRB.out hb3 HRB.out.size)
             have HB4 := hide (show Below wa.heap.size wa w4 from below_up HRB.out hb4 HRB.out.size)
             have ho5 := ho4.base (base' := wa.heap.size) (Nat.le_refl _)
             rw [← HQ.out] at ho5
             obtain ⟨A', c', rfl, hcp, hrg, hob, _⟩ := ho5.slice encE_len
             have HA' := hide (show ∀ a, A' = some a → wa.heap.size ≤ a.block from fun a e => (ho5.lt _ (hob a e)).1)
             have HCP := hide hcp
             have HRG := hide hrg
             clear ho4 ho5 hb2 hb3 hb4 hob hcp hrg
             refine step_app_run rfl _ _ rfl rfl rfl rfl r2 ?_
             refine hK.out _ _ (HS2.out _ HB2.out) (fun _ => ?_)
             clear hK K
             try simp only [Act.put, sA, sB, sC]
             refine rq (k := 8) rfl (by kernel_rfl) (by kernel_rfl) (fun K hK => ?_)
             go_simp
             refine hK.out _ _ (HS2.out _ (HB2.out.alloc HB2.out.size _)) (fun _ => ?_)
             clear hK K
             try simp only [Act.put, sA, sB, sC]
             refine wpAnyH_ready (rs := [9]) (by kernel_rfl) (by simp) ?_
             refine AllReadyH.cons (o := _) rfl (fun K hK => ?_) AllReadyH.nil
             refine step_app_run rfl _ _ rfl rfl rfl rfl r3 ?_
             refine hK.out _ _ (HS2.out _ HB3.out) (fun _ => ?_)
             clear hK K
             try simp only [Act.put, sA, sB, sC]
             refine tq (i := 10) (v := ?vAx10) rfl rfl (by kernel_rfl) (fun _ _ _ h => h) ?yAx10 (by assumption) ?rAx10
             case yAx10 => intro w h; (try dsimp only at h); go_simp; try with_reducible rfl
             try simp only [sA, sB, sC]
             refine wpAnyH_done (by kernel_rfl) ?_ _
             have hd2 := (HS2.out w3 HB3.out).1
             have hg4 := (HB4.out.block g hgl2).trans HRA.out.heap
             rw [HN.out] at hg4
             have hf4 := freeOf hg4 2
             have hcc4 := cellOf hg4 (j := 2) (v := .slice (some ⟨gs, o, none⟩) n c) rfl
             have HG5 := hide (heapSet (j := 2) hg4 (.slice A' (putG ((xs, ⟨xd, xa, xc⟩) : NV) P).length c'))
             obtain ⟨M, hM⟩ : ∃ m, (putG ((xs, ⟨xd, xa, xc⟩) : NV) P).length = m := ⟨_, rfl⟩
             rw [hM] at r4 HG5 HCP
             have HM := hide hM
             clear hg4 hM
             go_wp2_with (first | (at_builtin; refine wpList_app_run ?_ (.tmp 63) (.tmp 69) ?_ ?_ ?_ ?_ r4 ?_; exact rfl; exact rfl; exact rfl; exact rfl; exact rfl))
             go_end0
             have hsz : b ≤ wa.heap.size := by have := HBA.out.size; have := HBB.out; omega
             have hbb : Below b w w4 := below_up HBA.out HB4.out hsz
             refine ⟨rfl, A', c', ?_, ?_, ?_, ?_, ?_⟩
             · rw [HM.out]; exact HG5.out
             · rw [HM.out]; exact HCP.out
             · exact HRG.out.gb (gb_setCell (World.grownBy.refl w4 (some g)) 2 _) (fun a e h => by injection h with h; have := HA'.out a e; omega)
             · intro a e; have := HA'.out a e; have := HBB.out; omega
             · exact gb_setCell ⟨hbb.os, hbb.tape, hbb.output, hbb.size, fun i hi _ => hbb.block i (by have := HBB.out; omega)⟩ 2 _
           case Away2 =>
             have HRB := hide (below_drewN (Below.refl wa.heap.size wa) (q + nq1 + nq + 1))
             obtain ⟨v2, w2, v3, w3, v4, w4, r2, r3, r4, ho4, hb2, hb3, hb4⟩ := putN_chain2 (wa.drewN (q + nq1 + nq + 1)) (some ⟨gs, o, none⟩) (some ⟨gs, o + (k + 1) * 4, none⟩) c (c - (k + 1)) (P.take k) (P.drop (k + 1)) (xs, ⟨xd, xa, xc⟩) #[.string xs, .bool xc.dir, .slice xd xc.data.length xa, .int .i64 xc.time] rfl (HDR.out _ _ HRB.out) (HTK.out _ HRB.out) (by simp only [List.length_take, List.length_drop]; have := HN.out; omega)
             rw [show (P.drop (k + 1)).length = n - (k + 1) by rw [List.length_drop, HN.out]] at r4
             rw [show (P.take k).length = k by rw [List.length_take, HN.out]; omega] at r2
             have HB2 := hide (show Below wa.heap.size wa w2 from below_up HRB.out hb2 HRB.out.size)
             have HB3 := hide (show Below wa.heap.size wa w3 from below_up HRB.out hb3 HRB.out.size)
             have HB4 := hide (show Below wa.heap.size wa w4 from below_up HRB.out hb4 HRB.out.size)
             have ho5 := ho4.base (base' := wa.heap.size) (Nat.le_refl _)
             rw [← HQ.out] at ho5
             obtain ⟨A', c', rfl, hcp, hrg, hob, _⟩ := ho5.slice encE_len
             have HA' := hide (show ∀ a, A' = some a → wa.heap.size ≤ a.block from fun a e => (ho5.lt _ (hob a e)).1)
             have HCP := hide hcp
             have HRG := hide hrg
             clear ho4 ho5 hb2 hb3 hb4 hob hcp hrg
             rw [if_pos (by kernel_rfl)]
             go_simp
             refine hK.out _ _ (HS2.out _ (HRB.out.alloc HRB.out.size _)) (fun _ => ?_)
             clear hK K
             try simp only [Act.put, sA, sB, sC]
             refine wpAnyH_ready (rs := [6]) (by kernel_rfl) (by simp) ?_
             refine AllReadyH.cons (o := _) rfl (fun K hK => ?_) AllReadyH.nil
             refine step_app_run rfl _ _ rfl rfl rfl rfl r2 ?_
             refine hK.out _ _ (HS2.out _ HB2.out) (fun _ => ?_)
             clear hK K
             try simp only [Act.put, sA, sB, sC]
             refine wpAnyH_ready (rs := [9]) (by kernel_rfl) (by simp) ?_
             refine AllReadyH.cons (o := _) rfl (fun K hK => ?_) AllReadyH.nil
             refine step_app_run rfl _ _ rfl rfl rfl rfl r3 ?_
             refine hK.out _ _ (HS2.out _ HB3.out) (fun _ => ?_)
             clear hK K
             try simp only [Act.put, sA, sB, sC]
             refine tq (i := 10) (v := ?vAy10) rfl rfl (by kernel_rfl) (fun _ _ _ h => h) ?yAy10 (by assumption) ?rAy10
             case yAy10 => intro w h; (try dsimp only at h); go_simp; try with_reducible rfl
             try simp only [sA, sB, sC]
             refine wpAnyH_done (by kernel_rfl) ?_ _
             have hd2 := (HS2.out w3 HB3.out).1
             have hg4 := (HB4.out.block g hgl2).trans HRA.out.heap
             rw [HN.out] at hg4
             have hf4 := freeOf hg4 2
             have hcc4 := cellOf hg4 (j := 2) (v := .slice (some ⟨gs, o, none⟩) n c) rfl
             have HG5 := hide (heapSet (j := 2) hg4 (.slice A' (putG ((xs, ⟨xd, xa, xc⟩) : NV) P).length c'))
             obtain ⟨M, hM⟩ : ∃ m, (putG ((xs, ⟨xd, xa, xc⟩) : NV) P).length = m := ⟨_, rfl⟩
             rw [hM] at r4 HG5 HCP
             have HM := hide hM
             clear hg4 hM
             go_wp2_with (first | (at_builtin; refine wpList_app_run ?_ (.tmp 63) (.tmp 69) ?_ ?_ ?_ ?_ r4 ?_; exact rfl; exact rfl; exact rfl; exact rfl; exact rfl))
             go_end0
             have hsz : b ≤ wa.heap.size := by have := HBA.out.size; have := HBB.out; omega
             have hbb : Below b w w4 := below_up HBA.out HB4.out hsz
             refine ⟨rfl, A', c', ?_, ?_, ?_, ?_, ?_⟩
             · rw [HM.out]; exact HG5.out
             · rw [HM.out]; exact HCP.out
             · exact HRG.out.gb (gb_setCell (World.grownBy.refl w4 (some g)) 2 _) (fun a e h => by injection h with h; have := HA'.out a e; omega)
             · intro a e; have := HA'.out a e; have := HBB.out; omega
             · exact gb_setCell ⟨hbb.os, hbb.tape, hbb.output, hbb.size, fun i hi _ => hbb.block i (by have := HBB.out; omega)⟩ 2 _
       · have e1 : (ys.toList == xs.toList) = false := txt_ne he
         have HQ := hide (show putG ((xs, ⟨xd, xa, xc⟩) : NV) P = P.take k ++ [(xs, ⟨xd, xa, xc⟩)] ++ P.drop k by rw [HP.out, HY.out]; dsimp only; rw [HYS.out, if_neg he])
         clear he HP
         go_wp2_with fail
         go_quiet (fail)
         obtain ⟨nq1, hnq1⟩ : ∃ z, z = nq := ⟨_, rfl⟩
         subst hnq1
         go_wp2_with fail
         go_quiet (fail)
         go_wp2_with fail
         have HRB := hide (show Below wa.heap.size wa ((((wa.drewN q).drewN nq1).drewN nq).drew) from (below_drewN (below_drewN (below_drewN (Below.refl wa.heap.size wa) _) _) _).drew)
         have hbl : b < wa.heap.size := (Array.getElem?_eq_some_iff.1 HNW.out).1
         have hgl2 : g < wa.heap.size := (Array.getElem?_eq_some_iff.1 HRA.out.heap).1
         have hx1 : wa.cell? ⟨b, 1, none⟩ = some (.bool xc.dir) := cellOf HNW.out (j := 1) rfl
         have hx2 : wa.cell? ⟨b, 2, none⟩ = some (.slice xd xc.data.length xa) := cellOf HNW.out (j := 2) rfl
         have hx3 : wa.cell? ⟨b, 3, none⟩ = some (.int .i64 xc.time) := cellOf HNW.out (j := 3) rfl
         have hs2 : ∀ W, Below wa.heap.size wa W → (fun w' => w'.cell? ⟨g, 2, none⟩ = some (.slice (some ⟨gs, o, none⟩) n c) ∧ w'.cell? ⟨b, 0, none⟩ = some (.string xs) ∧ w'.cell? ⟨b, 1, none⟩ = some (.bool xc.dir) ∧ w'.cell? ⟨b, 2, none⟩ = some (.slice xd xc.data.length xa) ∧ w'.cell? ⟨b, 3, none⟩ = some (.int .i64 xc.time)) W := fun W h => ⟨(h.cell (p := ⟨g, 2, none⟩) hgl2).trans hc2, (h.cell (p := ⟨b, 0, none⟩) hbl).trans hx0, (h.cell (p := ⟨b, 1, none⟩) hbl).trans hx1, (h.cell (p := ⟨b, 2, none⟩) hbl).trans hx2, (h.cell (p := ⟨b, 3, none⟩) hbl).trans hx3⟩
         have HS2 := hide hs2
         clear hs2
         refine wp_region_held_drew (S := fun w' => w'.cell? ⟨g, 2, none⟩ = some (.slice (some ⟨gs, o, none⟩) n c) ∧ w'.cell? ⟨b, 0, none⟩ = some (.string xs) ∧ w'.cell? ⟨b, 1, none⟩ = some (.bool xc.dir) ∧ w'.cell? ⟨b, 2, none⟩ = some (.slice xd xc.data.length xa) ∧ w'.cell? ⟨b, 3, none⟩ = some (.int .i64 xc.time)) (by kernel_rfl) (HS2.out _ HRB.out) (fun hHeld => ?_)
         refine tq (i := 0) (v := ?vB0) rfl rfl (by kernel_rfl) (fun _ _ _ h => h) ?yB0 (by assumption) ?rB0
         case yB0 => intro w h; (try dsimp only at h); go_simp; try with_reducible rfl
         try simp only [sA, sB, sC]
         refine tq (i := 1) (v := ?vB1) rfl rfl (by kernel_rfl) (fun _ _ _ h => h) ?yB1 (by assumption) ?rB1
         case yB1 => intro w h; (try dsimp only at h); go_simp; try with_reducible rfl
         try simp only [sA, sB, sC]
         refine tq (i := 2) (v := ?vB2) rfl rfl (by kernel_rfl) (fun _ _ _ h => h) ?yB2 (by assumption) ?rB2
         case yB2 => intro w h; (try dsimp only at h); go_simp; try with_reducible rfl
         try simp only [sA, sB, sC]
         refine tq (i := 3) (v := ?vB3) rfl rfl (by kernel_rfl) (fun _ _ _ h => h) ?yB3 (by assumption) ?rB3
         case yB3 => intro w h; (try dsimp only at h); go_simp; try with_reducible rfl
         try simp only [sA, sB, sC]
         refine tq (i := 4) (v := ?vB4) rfl rfl (by kernel_rfl) (fun _ _ _ h => h) ?yB4 (by assumption) ?rB4
         case yB4 => intro w h; (try dsimp only at h); go_simp; try with_reducible rfl
         try simp only [sA, sB, sC]
         refine tq (i := 5) (v := ?vB5) rfl rfl (by kernel_rfl) (fun _ _ _ h => h) ?yB5 (by assumption) ?rB5
         case yB5 => intro w h; (try dsimp only at h); go_simp; try with_reducible rfl
         try simp only [sA, sB, sC]
         refine tq (i := 7) (v := ?vB7) rfl rfl (by kernel_rfl) (fun _ _ _ h => h) ?yB7 (by assumption) ?rB7
         case yB7 => intro w h; (try dsimp only at h); go_simp; try with_reducible rfl
         try simp only [sA, sB, sC]
         refine wpAnyH_ready (rs := [6, 8]) (by kernel_rfl) (by simp) ?_
         refine AllReadyH.cons (o := _) rfl (fun K hK => ?Bway1) (AllReadyH.cons (o := _) rfl (fun K hK => ?Bway2) AllReadyH.nil)
         case Bway1 =>
           obtain ⟨v2, w2, v3, w3, v4, w4, r2, r3, r4, ho4, hb2, hb3, hb4⟩ := putN_chain ((((wa.drewN q).drewN nq1).drewN nq).drew) (some ⟨gs, o, none⟩) (some ⟨gs, o + k * 4, none⟩) c (c - (k)) (P.take k) (P.drop (k)) (xs, ⟨xd, xa, xc⟩) #[.string xs, .bool xc.dir, .slice xd xc.data.length xa, .int .i64 xc.time] rfl (HDR.out _ _ HRB.out) (HTK.out _ HRB.out) (by simp only [List.length_take, List.length_drop]; have := HN.out; omega)
           rw [show (P.drop (k)).length = n - (k) by rw [List.length_drop, HN.out]] at r4
           rw [show (P.take k).length = k by rw [List.length_take, HN.out]; omega] at r2
           have HB2 := hide (show Below wa.heap.size wa w2 from below_up HRB.out hb2 HRB.out.size)
           have HB3 := hide (show Below wa.heap.size wa w3 from below_up HRB.out hb3 HRB.out.size)
           have HB4 := hide (show Below wa.heap.size wa w4 from below_up HRB.out hb4 HRB.out.size)
           have ho5 := ho4.base (base' := wa.heap.size) (Nat.le_refl _)
           rw [← HQ.out] at ho5
           obtain ⟨A', c', rfl, hcp, hrg, hob, _⟩ := ho5.slice encE_len
           have HA' := hide (show ∀ a, A' = some a → wa.heap.size ≤ a.block from fun a e => (ho5.lt _ (hob a e)).1)
           have HCP := hide hcp
           have HRG := hide hrg
           clear ho4 ho5 hb2 hb3 hb4 hob hcp hrg
           refine step_app_run rfl _ _ rfl rfl rfl rfl r2 ?_
           refine hK.out _ _ (HS2.out _ HB2.out) (fun _ => ?_)
           clear hK K
           try simp only [Act.put, sA, sB, sC]
           refine rq (k := 8) rfl (by kernel_rfl) (by kernel_rfl) (fun K hK => ?_)
           go_simp
           refine hK.out _ _ (HS2.out _ (HB2.out.alloc HB2.out.size _)) (fun _ => ?_)
           clear hK K
           try simp only [Act.put, sA, sB, sC]
           refine wpAnyH_ready (rs := [9]) (by kernel_rfl) (by simp) ?_
           refine AllReadyH.cons (o := _) rfl (fun K hK => ?_) AllReadyH.nil
           refine step_app_run rfl _ _ rfl rfl rfl rfl r3 ?_
           refine hK.out _ _ (HS2.out _ HB3.out) (fun _ => ?_)
           clear hK K
           try simp only [Act.put, sA, sB, sC]
           refine tq (i := 10) (v := ?vBx10) rfl rfl (by kernel_rfl) (fun _ _ _ h => h) ?yBx10 (by assumption) ?rBx10
           case yBx10 => intro w h; (try dsimp only at h); go_simp; try with_reducible rfl
           try simp only [sA, sB, sC]
           refine wpAnyH_done (by kernel_rfl) ?_ _
           have hd2 := (HS2.out w3 HB3.out).1
           have hg4 := (HB4.out.block g hgl2).trans HRA.out.heap
           rw [HN.out] at hg4
           have hf4 := freeOf hg4 2
           have hcc4 := cellOf hg4 (j := 2) (v := .slice (some ⟨gs, o, none⟩) n c) rfl
           have HG5 := hide (heapSet (j := 2) hg4 (.slice A' (putG ((xs, ⟨xd, xa, xc⟩) : NV) P).length c'))
           obtain ⟨M, hM⟩ : ∃ m, (putG ((xs, ⟨xd, xa, xc⟩) : NV) P).length = m := ⟨_, rfl⟩
           rw [hM] at r4 HG5 HCP
           have HM := hide hM
           clear hg4 hM
           go_wp2_with (first | (at_builtin; refine wpList_app_run ?_ (.tmp 63) (.tmp 69) ?_ ?_ ?_ ?_ r4 ?_; exact rfl; exact rfl; exact rfl; exact rfl; exact rfl))
           go_end0
           have hsz : b ≤ wa.heap.size := by have := HBA.out.size; have := HBB.out; omega
           have hbb : Below b w w4 := below_up HBA.out HB4.out hsz
           refine ⟨rfl, A', c', ?_, ?_, ?_, ?_, ?_⟩
           · rw [HM.out]; exact HG5.out
           · rw [HM.out]; exact HCP.out
           · exact HRG.out.gb (gb_setCell (World.grownBy.refl w4 (some g)) 2 _) (fun a e h => by injection h with h; have := HA'.out a e; omega)
           · intro a e; have := HA'.out a e; have := HBB.out; omega
           · exact gb_setCell ⟨hbb.os, hbb.tape, hbb.output, hbb.size, fun i hi _ => hbb.block i (by have := HBB.out; omega)⟩ 2 _
         case Bway2 =>
           have HRB := hide (below_drewN (Below.refl wa.heap.size wa) (q + nq1 + nq + 1))
           obtain ⟨v2, w2, v3, w3, v4, w4, r2, r3, r4, ho4, hb2, hb3, hb4⟩ := putN_chain2 (wa.drewN (q + nq1 + nq + 1)) (some ⟨gs, o, none⟩) (some ⟨gs, o + k * 4, none⟩) c (c - (k)) (P.take k) (P.drop (k)) (xs, ⟨xd, xa, xc⟩) #[.string xs, .bool xc.dir, .slice xd xc.data.length xa, .int .i64 xc.time] rfl (HDR.out _ _ HRB.out) (HTK.out _ HRB.out) (by simp only [List.length_take, List.length_drop]; have := HN.out; omega)
           rw [show (P.drop (k)).length = n - (k) by rw [List.length_drop, HN.out]] at r4
           rw [show (P.take k).length = k by rw [List.length_take, HN.out]; omega] at r2
           have HB2 := hide (show Below wa.heap.size wa w2 from below_up HRB.out hb2 HRB.out.size)
           have HB3 := hide (show Below wa.heap.size wa w3 from below_up HRB.out hb3 HRB.out.size)
           have HB4 := hide (show Below wa.heap.size wa w4 from below_up HRB.out hb4 HRB.out.size)
           have ho5 := ho4.base (base' := wa.heap.size) (Nat.le_refl _)
           rw [← HQ.out] at ho5
           obtain ⟨A', c', rfl, hcp, hrg, hob, _⟩ := ho5.slice encE_len
           have HA' := hide (show ∀ a, A' = some a → wa.heap.size ≤ a.block from fun a e => (ho5.lt _ (hob a e)).1)
           have HCP := hide hcp
           have HRG := hide hrg
           clear ho4 ho5 hb2 hb3 hb4 hob hcp hrg
           rw [if_pos (by kernel_rfl)]
           go_simp
           refine hK.out _ _ (HS2.out _ (HRB.out.alloc HRB.out.size _)) (fun _ => ?_)
           clear hK K
           try simp only [Act.put, sA, sB, sC]
           refine wpAnyH_ready (rs := [6]) (by kernel_rfl) (by simp) ?_
           refine AllReadyH.cons (o := _) rfl (fun K hK => ?_) AllReadyH.nil
           refine step_app_run rfl _ _ rfl rfl rfl rfl r2 ?_
           refine hK.out _ _ (HS2.out _ HB2.out) (fun _ => ?_)
           clear hK K
           try simp only [Act.put, sA, sB, sC]
           refine wpAnyH_ready (rs := [9]) (by kernel_rfl) (by simp) ?_
           refine AllReadyH.cons (o := _) rfl (fun K hK => ?_) AllReadyH.nil
           refine step_app_run rfl _ _ rfl rfl rfl rfl r3 ?_
           refine hK.out _ _ (HS2.out _ HB3.out) (fun _ => ?_)
           clear hK K
           try simp only [Act.put, sA, sB, sC]
           refine tq (i := 10) (v := ?vBy10) rfl rfl (by kernel_rfl) (fun _ _ _ h => h) ?yBy10 (by assumption) ?rBy10
           case yBy10 => intro w h; (try dsimp only at h); go_simp; try with_reducible rfl
           try simp only [sA, sB, sC]
           refine wpAnyH_done (by kernel_rfl) ?_ _
           have hd2 := (HS2.out w3 HB3.out).1
           have hg4 := (HB4.out.block g hgl2).trans HRA.out.heap
           rw [HN.out] at hg4
           have hf4 := freeOf hg4 2
           have hcc4 := cellOf hg4 (j := 2) (v := .slice (some ⟨gs, o, none⟩) n c) rfl
           have HG5 := hide (heapSet (j := 2) hg4 (.slice A' (putG ((xs, ⟨xd, xa, xc⟩) : NV) P).length c'))
           obtain ⟨M, hM⟩ : ∃ m, (putG ((xs, ⟨xd, xa, xc⟩) : NV) P).length = m := ⟨_, rfl⟩
           rw [hM] at r4 HG5 HCP
           have HM := hide hM
           clear hg4 hM
           go_wp2_with (first | (at_builtin; refine wpList_app_run ?_ (.tmp 63) (.tmp 69) ?_ ?_ ?_ ?_ r4 ?_; exact rfl; exact rfl; exact rfl; exact rfl; exact rfl))
           go_end0
           have hsz : b ≤ wa.heap.size := by have := HBA.out.size; have := HBB.out; omega
           have hbb : Below b w w4 := below_up HBA.out HB4.out hsz
           refine ⟨rfl, A', c', ?_, ?_, ?_, ?_, ?_⟩
           · rw [HM.out]; exact HG5.out
           · rw [HM.out]; exact HCP.out
           · exact HRG.out.gb (gb_setCell (World.grownBy.refl w4 (some g)) 2 _) (fun a e h => by injection h with h; have := HA'.out a e; omega)
           · intro a e; have := HA'.out a e; have := HBB.out; omega
           · exact gb_setCell ⟨hbb.os, hbb.tape, hbb.output, hbb.size, fun i hi _ => hbb.block i (by have := HBB.out; omega)⟩ 2 _
   · obtain rfl : k = n := by omega
     have d1 : decide ((k : Int) < (k : Int)) = false := by simp
     have HQ := hide (show putG ((xs, ⟨xd, xa, xc⟩) : NV) P = P.take k ++ [(xs, ⟨xd, xa, xc⟩)] ++ P.drop k by
       rw [putG_at (x := ((xs, ⟨xd, xa, xc⟩) : NV)) P k (by have := HN.out; omega) HE.out (fun z hz => by rw [List.getElem?_eq_none (by have := HN.out; omega)] at hz; cases hz), List.getElem?_eq_none (by have := HN.out; omega)])
     have hkc : k ≤ c := by have := ho.cap; have := HN.out; omega
     have HTK := hide (fun (W : World) (h : Below wa.heap.size wa W) => show RG encE 4 W A (P.take k) from (HRA.out.below h).rg.take k)
     have HDE := hide (fun (A2 : Option Addr) (W : World) (_ : Below wa.heap.size wa W) => show RG encE 4 W A2 (P.drop k) from fun j s hj => by
       rw [List.getElem?_drop, List.getElem?_eq_none (by have := HN.out; omega)] at hj
       cases hj)
     clear ho hg
     rcases A with _ | a
     · have hz : k = 0 := by
         have hN := HN.out
         have hrg := HRA.out.rg
         rcases Nat.eq_zero_or_pos k with h | h
         · exact h
         · obtain ⟨_, _, e, _⟩ := hrg 0 (P[0]'(by omega)) (gE _)
           cases e
       have HZ := hide hz
       clear hz
       go_wp2_with fail
       go_quiet (fail)
       obtain ⟨nq1, hnq1⟩ : ∃ z, z = nq := ⟨_, rfl⟩
       subst hnq1
       go_wp2_with fail
       go_quiet (fail)
       go_wp2_with fail
       have HRB := hide (show Below wa.heap.size wa ((((wa.drewN q).drewN nq1).drewN nq).drew) from (below_drewN (below_drewN (below_drewN (Below.refl wa.heap.size wa) _) _) _).drew)
       have hbl : b < wa.heap.size := (Array.getElem?_eq_some_iff.1 HNW.out).1
       have hgl2 : g < wa.heap.size := (Array.getElem?_eq_some_iff.1 HRA.out.heap).1
       have hx1 : wa.cell? ⟨b, 1, none⟩ = some (.bool xc.dir) := cellOf HNW.out (j := 1) rfl
       have hx2 : wa.cell? ⟨b, 2, none⟩ = some (.slice xd xc.data.length xa) := cellOf HNW.out (j := 2) rfl
       have hx3 : wa.cell? ⟨b, 3, none⟩ = some (.int .i64 xc.time) := cellOf HNW.out (j := 3) rfl
       have hs2 : ∀ W, Below wa.heap.size wa W → (fun w' => w'.cell? ⟨g, 2, none⟩ = some (.slice (none) k c) ∧ w'.cell? ⟨b, 0, none⟩ = some (.string xs) ∧ w'.cell? ⟨b, 1, none⟩ = some (.bool xc.dir) ∧ w'.cell? ⟨b, 2, none⟩ = some (.slice xd xc.data.length xa) ∧ w'.cell? ⟨b, 3, none⟩ = some (.int .i64 xc.time)) W := fun W h => ⟨(h.cell (p := ⟨g, 2, none⟩) hgl2).trans hc2, (h.cell (p := ⟨b, 0, none⟩) hbl).trans hx0, (h.cell (p := ⟨b, 1, none⟩) hbl).trans hx1, (h.cell (p := ⟨b, 2, none⟩) hbl).trans hx2, (h.cell (p := ⟨b, 3, none⟩) hbl).trans hx3⟩
       have HS2 := hide hs2
       clear hs2
       refine wp_region_held_drew (S := fun w' => w'.cell? ⟨g, 2, none⟩ = some (.slice (none) k c) ∧ w'.cell? ⟨b, 0, none⟩ = some (.string xs) ∧ w'.cell? ⟨b, 1, none⟩ = some (.bool xc.dir) ∧ w'.cell? ⟨b, 2, none⟩ = some (.slice xd xc.data.length xa) ∧ w'.cell? ⟨b, 3, none⟩ = some (.int .i64 xc.time)) (by kernel_rfl) (HS2.out _ HRB.out) (fun hHeld => ?_)
       refine tq (i := 0) (v := ?vC0) rfl rfl (by kernel_rfl) (fun _ _ _ h => h) ?yC0 (by assumption) ?rC0
       case yC0 => intro w h; (try dsimp only at h); go_simp; try with_reducible rfl
       try simp only [sA, sB, sC]
       refine tq (i := 1) (v := ?vC1) rfl rfl (by kernel_rfl) (fun _ _ _ h => h) ?yC1 (by assumption) ?rC1
       case yC1 => intro w h; (try dsimp only at h); go_simp; try with_reducible rfl
       try simp only [sA, sB, sC]
       refine tq (i := 2) (v := ?vC2) rfl rfl (by kernel_rfl) (fun _ _ _ h => h) ?yC2 (by assumption) ?rC2
       case yC2 => intro w h; (try dsimp only at h); go_simp; try with_reducible rfl
       try simp only [sA, sB, sC]
       refine tq (i := 3) (v := ?vC3) rfl rfl (by kernel_rfl) (fun _ _ _ h => h) ?yC3 (by assumption) ?rC3
       case yC3 => intro w h; (try dsimp only at h); go_simp; try with_reducible rfl
       try simp only [sA, sB, sC]
       refine tq (i := 4) (v := ?vC4) rfl rfl (by kernel_rfl) (fun _ _ _ h => h) ?yC4 (by assumption) ?rC4
       case yC4 => intro w h; (try dsimp only at h); go_simp; try with_reducible rfl
       try simp only [sA, sB, sC]
       refine tq (i := 5) (v := ?vC5) rfl rfl (by kernel_rfl) (fun _ _ _ h => h) ?yC5 (by assumption) ?rC5
       case yC5 => intro w h; (try dsimp only at h); go_simp; try with_reducible rfl
       try simp only [sA, sB, sC]
       refine tq (i := 7) (v := ?vC7) rfl rfl (by kernel_rfl) (fun _ _ _ h => h) ?yC7 (by assumption) ?rC7
       case yC7 => intro w h; (try dsimp only at h); go_simp; try with_reducible rfl
       try simp only [sA, sB, sC]
       refine wpAnyH_ready (rs := [6, 8]) (by kernel_rfl) (by simp) ?_
       refine AllReadyH.cons (o := _) rfl (fun K hK => ?Cway1) (AllReadyH.cons (o := _) rfl (fun K hK => ?Cway2) AllReadyH.nil)
       case Cway1 =>
         obtain ⟨v2, w2, v3, w3, v4, w4, r2, r3, r4, ho4, hb2, hb3, hb4⟩ := putN_chain ((((wa.drewN q).drewN nq1).drewN nq).drew) (none) (none) c (c - (k)) (P.take k) (P.drop (k)) (xs, ⟨xd, xa, xc⟩) #[.string xs, .bool xc.dir, .slice xd xc.data.length xa, .int .i64 xc.time] rfl (HDE.out _ _ HRB.out) (HTK.out _ HRB.out) (by simp only [List.length_take, List.length_drop]; have := HN.out; omega)
         rw [show (P.drop (k)).length = 0 by rw [List.length_drop, HN.out]; omega] at r4
         rw [show (P.take k).length = k by rw [List.length_take, HN.out]; omega] at r2
         have HB2 := hide (show Below wa.heap.size wa w2 from below_up HRB.out hb2 HRB.out.size)
         have HB3 := hide (show Below wa.heap.size wa w3 from below_up HRB.out hb3 HRB.out.size)
         have HB4 := hide (show Below wa.heap.size wa w4 from below_up HRB.out hb4 HRB.out.size)
         have ho5 := ho4.base (base' := wa.heap.size) (Nat.le_refl _)
         rw [← HQ.out] at ho5
         obtain ⟨A', c', rfl, hcp, hrg, hob, _⟩ := ho5.slice encE_len
         have HA' := hide (show ∀ a, A' = some a → wa.heap.size ≤ a.block from fun a e => (ho5.lt _ (hob a e)).1)
         have HCP := hide hcp
         have HRG := hide hrg
         clear ho4 ho5 hb2 hb3 hb4 hob hcp hrg
         refine step_app_run rfl _ _ rfl rfl rfl rfl r2 ?_
         refine hK.out _ _ (HS2.out _ HB2.out) (fun _ => ?_)
         clear hK K
         try simp only [Act.put, sA, sB, sC]
         refine rq (k := 8) rfl (by kernel_rfl) (by kernel_rfl) (fun K hK => ?_)
         go_simp
         refine hK.out _ _ (HS2.out _ (HB2.out.alloc HB2.out.size _)) (fun _ => ?_)
         clear hK K
         try simp only [Act.put, sA, sB, sC]
         refine wpAnyH_ready (rs := [9]) (by kernel_rfl) (by simp) ?_
         refine AllReadyH.cons (o := _) rfl (fun K hK => ?_) AllReadyH.nil
         refine step_app_run rfl _ _ rfl rfl rfl rfl r3 ?_
         refine hK.out _ _ (HS2.out _ HB3.out) (fun _ => ?_)
         clear hK K
         try simp only [Act.put, sA, sB, sC]
         refine tq (i := 10) (v := ?vCx10) rfl rfl (by kernel_rfl) (fun _ _ _ h => h) ?yCx10 (by assumption) ?rCx10
         case yCx10 => intro w h; (try dsimp only at h); go_simp; try with_reducible rfl
         try simp only [sA, sB, sC]
         refine wpAnyH_done (by kernel_rfl) ?_ _
         have hd2 := (HS2.out w3 HB3.out).1
         have hg4 := (HB4.out.block g hgl2).trans HRA.out.heap
         rw [HN.out] at hg4
         have hf4 := freeOf hg4 2
         have hcc4 := cellOf hg4 (j := 2) (v := .slice none k c) rfl
         have HG5 := hide (heapSet (j := 2) hg4 (.slice A' (putG ((xs, ⟨xd, xa, xc⟩) : NV) P).length c'))
         obtain ⟨M, hM⟩ : ∃ m, (putG ((xs, ⟨xd, xa, xc⟩) : NV) P).length = m := ⟨_, rfl⟩
         rw [hM] at r4 HG5 HCP
         have HM := hide hM
         clear hg4 hM
         go_wp2_with (first | (at_builtin; refine wpList_app_run ?_ (.tmp 63) (.tmp 69) ?_ ?_ ?_ ?_ r4 ?_; exact rfl; exact rfl; exact rfl; exact rfl; exact rfl))
         go_end0
         have hsz : b ≤ wa.heap.size := by have := HBA.out.size; have := HBB.out; omega
         have hbb : Below b w w4 := below_up HBA.out HB4.out hsz
         refine ⟨rfl, A', c', ?_, ?_, ?_, ?_, ?_⟩
         · rw [HM.out]; exact HG5.out
         · rw [HM.out]; exact HCP.out
         · exact HRG.out.gb (gb_setCell (World.grownBy.refl w4 (some g)) 2 _) (fun a e h => by injection h with h; have := HA'.out a e; omega)
         · intro a e; have := HA'.out a e; have := HBB.out; omega
         · exact gb_setCell ⟨hbb.os, hbb.tape, hbb.output, hbb.size, fun i hi _ => hbb.block i (by have := HBB.out; omega)⟩ 2 _
       case Cway2 =>
         have HRB := hide (below_drewN (Below.refl wa.heap.size wa) (q + nq1 + nq + 1))
         obtain ⟨v2, w2, v3, w3, v4, w4, r2, r3, r4, ho4, hb2, hb3, hb4⟩ := putN_chain2 (wa.drewN (q + nq1 + nq + 1)) (none) (none) c (c - (k)) (P.take k) (P.drop (k)) (xs, ⟨xd, xa, xc⟩) #[.string xs, .bool xc.dir, .slice xd xc.data.length xa, .int .i64 xc.time] rfl (HDE.out _ _ HRB.out) (HTK.out _ HRB.out) (by simp only [List.length_take, List.length_drop]; have := HN.out; omega)
         rw [show (P.drop (k)).length = 0 by rw [List.length_drop, HN.out]; omega] at r4
         rw [show (P.take k).length = k by rw [List.length_take, HN.out]; omega] at r2
         have HB2 := hide (show Below wa.heap.size wa w2 from below_up HRB.out hb2 HRB.out.size)
         have HB3 := hide (show Below wa.heap.size wa w3 from below_up HRB.out hb3 HRB.out.size)
         have HB4 := hide (show Below wa.heap.size wa w4 from below_up HRB.out hb4 HRB.out.size)
         have ho5 := ho4.base (base' := wa.heap.size) (Nat.le_refl _)
         rw [← HQ.out] at ho5
         obtain ⟨A', c', rfl, hcp, hrg, hob, _⟩ := ho5.slice encE_len
         have HA' := hide (show ∀ a, A' = some a → wa.heap.size ≤ a.block from fun a e => (ho5.lt _ (hob a e)).1)
         have HCP := hide hcp
         have HRG := hide hrg
         clear ho4 ho5 hb2 hb3 hb4 hob hcp hrg
         rw [if_pos (by kernel_rfl)]
         go_simp
         refine hK.out _ _ (HS2.out _ (HRB.out.alloc HRB.out.size _)) (fun _ => ?_)
         clear hK K
         try simp only [Act.put, sA, sB, sC]
         refine wpAnyH_ready (rs := [6]) (by kernel_rfl) (by simp) ?_
         refine AllReadyH.cons (o := _) rfl (fun K hK => ?_) AllReadyH.nil
         refine step_app_run rfl _ _ rfl rfl rfl rfl r2 ?_
         refine hK.out _ _ (HS2.out _ HB2.out) (fun _ => ?_)
         clear hK K
         try simp only [Act.put, sA, sB, sC]
         refine wpAnyH_ready (rs := [9]) (by kernel_rfl) (by simp) ?_
         refine AllReadyH.cons (o := _) rfl (fun K hK => ?_) AllReadyH.nil
         refine step_app_run rfl _ _ rfl rfl rfl rfl r3 ?_
         refine hK.out _ _ (HS2.out _ HB3.out) (fun _ => ?_)
         clear hK K
         try simp only [Act.put, sA, sB, sC]
         refine tq (i := 10) (v := ?vCy10) rfl rfl (by kernel_rfl) (fun _ _ _ h => h) ?yCy10 (by assumption) ?rCy10
         case yCy10 => intro w h; (try dsimp only at h); go_simp; try with_reducible rfl
         try simp only [sA, sB, sC]
         refine wpAnyH_done (by kernel_rfl) ?_ _
         have hd2 := (HS2.out w3 HB3.out).1
         have hg4 := (HB4.out.block g hgl2).trans HRA.out.heap
         rw [HN.out] at hg4
         have hf4 := freeOf hg4 2
         have hcc4 := cellOf hg4 (j := 2) (v := .slice none k c) rfl
         have HG5 := hide (heapSet (j := 2) hg4 (.slice A' (putG ((xs, ⟨xd, xa, xc⟩) : NV) P).length c'))
         obtain ⟨M, hM⟩ : ∃ m, (putG ((xs, ⟨xd, xa, xc⟩) : NV) P).length = m := ⟨_, rfl⟩
         rw [hM] at r4 HG5 HCP
         have HM := hide hM
         clear hg4 hM
         go_wp2_with (first | (at_builtin; refine wpList_app_run ?_ (.tmp 63) (.tmp 69) ?_ ?_ ?_ ?_ r4 ?_; exact rfl; exact rfl; exact rfl; exact rfl; exact rfl))
         go_end0
         have hsz : b ≤ wa.heap.size := by have := HBA.out.size; have := HBB.out; omega
         have hbb : Below b w w4 := below_up HBA.out HB4.out hsz
         refine ⟨rfl, A', c', ?_, ?_, ?_, ?_, ?_⟩
         · rw [HM.out]; exact HG5.out
         · rw [HM.out]; exact HCP.out
         · exact HRG.out.gb (gb_setCell (World.grownBy.refl w4 (some g)) 2 _) (fun a e h => by injection h with h; have := HA'.out a e; omega)
         · intro a e; have := HA'.out a e; have := HBB.out; omega
         · exact gb_setCell ⟨hbb.os, hbb.tape, hbb.output, hbb.size, fun i hi _ => hbb.block i (by have := HBB.out; omega)⟩ 2 _
     · obtain ⟨gs, o, rfl⟩ := HA0.out a rfl
       by_cases hck : c = k
       · have HCK := hide hck
         clear hck
         go_wp2_with fail
         go_quiet (fail)
         obtain ⟨nq1, hnq1⟩ : ∃ z, z = nq := ⟨_, rfl⟩
         subst hnq1
         go_wp2_with fail
         go_quiet (fail)
         go_wp2_with fail
         have HRB := hide (show Below wa.heap.size wa ((((wa.drewN q).drewN nq1).drewN nq).drew) from (below_drewN (below_drewN (below_drewN (Below.refl wa.heap.size wa) _) _) _).drew)
         have hbl : b < wa.heap.size := (Array.getElem?_eq_some_iff.1 HNW.out).1
         have hgl2 : g < wa.heap.size := (Array.getElem?_eq_some_iff.1 HRA.out.heap).1
         have hx1 : wa.cell? ⟨b, 1, none⟩ = some (.bool xc.dir) := cellOf HNW.out (j := 1) rfl
         have hx2 : wa.cell? ⟨b, 2, none⟩ = some (.slice xd xc.data.length xa) := cellOf HNW.out (j := 2) rfl
         have hx3 : wa.cell? ⟨b, 3, none⟩ = some (.int .i64 xc.time) := cellOf HNW.out (j := 3) rfl
         have hs2 : ∀ W, Below wa.heap.size wa W → (fun w' => w'.cell? ⟨g, 2, none⟩ = some (.slice (some ⟨gs, o, none⟩) k c) ∧ w'.cell? ⟨b, 0, none⟩ = some (.string xs) ∧ w'.cell? ⟨b, 1, none⟩ = some (.bool xc.dir) ∧ w'.cell? ⟨b, 2, none⟩ = some (.slice xd xc.data.length xa) ∧ w'.cell? ⟨b, 3, none⟩ = some (.int .i64 xc.time)) W := fun W h => ⟨(h.cell (p := ⟨g, 2, none⟩) hgl2).trans hc2, (h.cell (p := ⟨b, 0, none⟩) hbl).trans hx0, (h.cell (p := ⟨b, 1, none⟩) hbl).trans hx1, (h.cell (p := ⟨b, 2, none⟩) hbl).trans hx2, (h.cell (p := ⟨b, 3, none⟩) hbl).trans hx3⟩
         have HS2 := hide hs2
         clear hs2
         refine wp_region_held_drew (S := fun w' => w'.cell? ⟨g, 2, none⟩ = some (.slice (some ⟨gs, o, none⟩) k c) ∧ w'.cell? ⟨b, 0, none⟩ = some (.string xs) ∧ w'.cell? ⟨b, 1, none⟩ = some (.bool xc.dir) ∧ w'.cell? ⟨b, 2, none⟩ = some (.slice xd xc.data.length xa) ∧ w'.cell? ⟨b, 3, none⟩ = some (.int .i64 xc.time)) (by kernel_rfl) (HS2.out _ HRB.out) (fun hHeld => ?_)
         refine tq (i := 0) (v := ?vD0) rfl rfl (by kernel_rfl) (fun _ _ _ h => h) ?yD0 (by assumption) ?rD0
         case yD0 => intro w h; (try dsimp only at h); go_simp; try with_reducible rfl
         try simp only [sA, sB, sC]
         refine tq (i := 1) (v := ?vD1) rfl rfl (by kernel_rfl) (fun _ _ _ h => h) ?yD1 (by assumption) ?rD1
         case yD1 => intro w h; (try dsimp only at h); go_simp; try with_reducible rfl
         try simp only [sA, sB, sC]
         refine tq (i := 2) (v := ?vD2) rfl rfl (by kernel_rfl) (fun _ _ _ h => h) ?yD2 (by assumption) ?rD2
         case yD2 => intro w h; (try dsimp only at h); go_simp; try with_reducible rfl
         try simp only [sA, sB, sC]
         refine tq (i := 3) (v := ?vD3) rfl rfl (by kernel_rfl) (fun _ _ _ h => h) ?yD3 (by assumption) ?rD3
         case yD3 => intro w h; (try dsimp only at h); go_simp; try with_reducible rfl
         try simp only [sA, sB, sC]
         refine tq (i := 4) (v := ?vD4) rfl rfl (by kernel_rfl) (fun _ _ _ h => h) ?yD4 (by assumption) ?rD4
         case yD4 => intro w h; (try dsimp only at h); go_simp; try with_reducible rfl
         try simp only [sA, sB, sC]
         refine tq (i := 5) (v := ?vD5) rfl rfl (by kernel_rfl) (fun _ _ _ h => h) ?yD5 (by assumption) ?rD5
         case yD5 => intro w h; (try dsimp only at h); go_simp; try with_reducible rfl
         try simp only [sA, sB, sC]
         refine tq (i := 7) (v := ?vD7) rfl rfl (by kernel_rfl) (fun _ _ _ h => h) ?yD7 (by assumption) ?rD7
         case yD7 => intro w h; (try dsimp only at h); go_simp; try with_reducible rfl
         try simp only [sA, sB, sC]
         refine wpAnyH_ready (rs := [6, 8]) (by kernel_rfl) (by simp) ?_
         refine AllReadyH.cons (o := _) rfl (fun K hK => ?Dway1) (AllReadyH.cons (o := _) rfl (fun K hK => ?Dway2) AllReadyH.nil)
         case Dway1 =>
           obtain ⟨v2, w2, v3, w3, v4, w4, r2, r3, r4, ho4, hb2, hb3, hb4⟩ := putN_chain ((((wa.drewN q).drewN nq1).drewN nq).drew) (some ⟨gs, o, none⟩) (some ⟨gs, o, none⟩) c (c - (k)) (P.take k) (P.drop (k)) (xs, ⟨xd, xa, xc⟩) #[.string xs, .bool xc.dir, .slice xd xc.data.length xa, .int .i64 xc.time] rfl (HDE.out _ _ HRB.out) (HTK.out _ HRB.out) (by simp only [List.length_take, List.length_drop]; have := HN.out; omega)
           rw [show (P.drop (k)).length = 0 by rw [List.length_drop, HN.out]; omega] at r4
           rw [show (P.take k).length = k by rw [List.length_take, HN.out]; omega] at r2
           have HB2 := hide (show Below wa.heap.size wa w2 from below_up HRB.out hb2 HRB.out.size)
           have HB3 := hide (show Below wa.heap.size wa w3 from below_up HRB.out hb3 HRB.out.size)
           have HB4 := hide (show Below wa.heap.size wa w4 from below_up HRB.out hb4 HRB.out.size)
           have ho5 := ho4.base (base' := wa.heap.size) (Nat.le_refl _)
           rw [← HQ.out] at ho5
           obtain ⟨A', c', rfl, hcp, hrg, hob, _⟩ := ho5.slice encE_len
           have HA' := hide (show ∀ a, A' = some a → wa.heap.size ≤ a.block from fun a e => (ho5.lt _ (hob a e)).1)
           have HCP := hide hcp
           have HRG := hide hrg
           clear ho4 ho5 hb2 hb3 hb4 hob hcp hrg
           refine step_app_run rfl _ _ rfl rfl rfl rfl r2 ?_
           refine hK.out _ _ (HS2.out _ HB2.out) (fun _ => ?_)
           clear hK K
           try simp only [Act.put, sA, sB, sC]
           refine rq (k := 8) rfl (by kernel_rfl) (by kernel_rfl) (fun K hK => ?_)
           go_simp
           refine hK.out _ _ (HS2.out _ (HB2.out.alloc HB2.out.size _)) (fun _ => ?_)
           clear hK K
           try simp only [Act.put, sA, sB, sC]
           refine wpAnyH_ready (rs := [9]) (by kernel_rfl) (by simp) ?_
           refine AllReadyH.cons (o := _) rfl (fun K hK => ?_) AllReadyH.nil
           refine step_app_run rfl _ _ rfl rfl rfl rfl r3 ?_
           refine hK.out _ _ (HS2.out _ HB3.out) (fun _ => ?_)
           clear hK K
           try simp only [Act.put, sA, sB, sC]
           refine tq (i := 10) (v := ?vDx10) rfl rfl (by kernel_rfl) (fun _ _ _ h => h) ?yDx10 (by assumption) ?rDx10
           case yDx10 => intro w h; (try dsimp only at h); go_simp; try with_reducible rfl
           try simp only [sA, sB, sC]
           refine wpAnyH_done (by kernel_rfl) ?_ _
           have hck2 : (c = k) = True := eq_true HCK.out
           have hd2 := (HS2.out w3 HB3.out).1
           have hg4 := (HB4.out.block g hgl2).trans HRA.out.heap
           rw [HN.out] at hg4
           have hf4 := freeOf hg4 2
           have hcc4 := cellOf hg4 (j := 2) (v := .slice (some ⟨gs, o, none⟩) k c) rfl
           have HG5 := hide (heapSet (j := 2) hg4 (.slice A' (putG ((xs, ⟨xd, xa, xc⟩) : NV) P).length c'))
           obtain ⟨M, hM⟩ : ∃ m, (putG ((xs, ⟨xd, xa, xc⟩) : NV) P).length = m := ⟨_, rfl⟩
           rw [hM] at r4 HG5 HCP
           have HM := hide hM
           clear hg4 hM
           go_wp2_with (first | (at_builtin; refine wpList_app_run ?_ (.tmp 63) (.tmp 69) ?_ ?_ ?_ ?_ r4 ?_; exact rfl; exact rfl; exact rfl; exact rfl; exact rfl))
           go_end0
           have hsz : b ≤ wa.heap.size := by have := HBA.out.size; have := HBB.out; omega
           have hbb : Below b w w4 := below_up HBA.out HB4.out hsz
           refine ⟨rfl, A', c', ?_, ?_, ?_, ?_, ?_⟩
           · rw [HM.out]; exact HG5.out
           · rw [HM.out]; exact HCP.out
           · exact HRG.out.gb (gb_setCell (World.grownBy.refl w4 (some g)) 2 _) (fun a e h => by injection h with h; have := HA'.out a e; omega)
           · intro a e; have := HA'.out a e; have := HBB.out; omega
           · exact gb_setCell ⟨hbb.os, hbb.tape, hbb.output, hbb.size, fun i hi _ => hbb.block i (by have := HBB.out; omega)⟩ 2 _
         case Dway2 =>
           have HRB := hide (below_drewN (Below.refl wa.heap.size wa) (q + nq1 + nq + 1))
           obtain ⟨v2, w2, v3, w3, v4, w4, r2, r3, r4, ho4, hb2, hb3, hb4⟩ := putN_chain2 (wa.drewN (q + nq1 + nq + 1)) (some ⟨gs, o, none⟩) (some ⟨gs, o, none⟩) c (c - (k)) (P.take k) (P.drop (k)) (xs, ⟨xd, xa, xc⟩) #[.string xs, .bool xc.dir, .slice xd xc.data.length xa, .int .i64 xc.time] rfl (HDE.out _ _ HRB.out) (HTK.out _ HRB.out) (by simp only [List.length_take, List.length_drop]; have := HN.out; omega)
           rw [show (P.drop (k)).length = 0 by rw [List.length_drop, HN.out]; omega] at r4
           rw [show (P.take k).length = k by rw [List.length_take, HN.out]; omega] at r2
           have HB2 := hide (show Below wa.heap.size wa w2 from below_up HRB.out hb2 HRB.out.size)
           have HB3 := hide (show Below wa.heap.size wa w3 from below_up HRB.out hb3 HRB.out.size)
           have HB4 := hide (show Below wa.heap.size wa w4 from below_up HRB.out hb4 HRB.out.size)
           have ho5 := ho4.base (base' := wa.heap.size) (Nat.le_refl _)
           rw [← HQ.out] at ho5
           obtain ⟨A', c', rfl, hcp, hrg, hob, _⟩ := ho5.slice encE_len
           have HA' := hide (show ∀ a, A' = some a → wa.heap.size ≤ a.block from fun a e => (ho5.lt _ (hob a e)).1)
           have HCP := hide hcp
           have HRG := hide hrg
           clear ho4 ho5 hb2 hb3 hb4 hob hcp hrg
           rw [if_pos (by kernel_rfl)]
           go_simp
           refine hK.out _ _ (HS2.out _ (HRB.out.alloc HRB.out.size _)) (fun _ => ?_)
           clear hK K
           try simp only [Act.put, sA, sB, sC]
           refine wpAnyH_ready (rs := [6]) (by kernel_rfl) (by simp) ?_
           refine AllReadyH.cons (o := _) rfl (fun K hK => ?_) AllReadyH.nil
           refine step_app_run rfl _ _ rfl rfl rfl rfl r2 ?_
           refine hK.out _ _ (HS2.out _ HB2.out) (fun _ => ?_)
           clear hK K
           try simp only [Act.put, sA, sB, sC]
           refine wpAnyH_ready (rs := [9]) (by kernel_rfl) (by simp) ?_
           refine AllReadyH.cons (o := _) rfl (fun K hK => ?_) AllReadyH.nil
           refine step_app_run rfl _ _ rfl rfl rfl rfl r3 ?_
           refine hK.out _ _ (HS2.out _ HB3.out) (fun _ => ?_)
           clear hK K
           try simp only [Act.put, sA, sB, sC]
           refine tq (i := 10) (v := ?vDy10) rfl rfl (by kernel_rfl) (fun _ _ _ h => h) ?yDy10 (by assumption) ?rDy10
           case yDy10 => intro w h; (try dsimp only at h); go_simp; try with_reducible rfl
           try simp only [sA, sB, sC]
           refine wpAnyH_done (by kernel_rfl) ?_ _
           have hck2 : (c = k) = True := eq_true HCK.out
           have hd2 := (HS2.out w3 HB3.out).1
           have hg4 := (HB4.out.block g hgl2).trans HRA.out.heap
           rw [HN.out] at hg4
           have hf4 := freeOf hg4 2
           have hcc4 := cellOf hg4 (j := 2) (v := .slice (some ⟨gs, o, none⟩) k c) rfl
           have HG5 := hide (heapSet (j := 2) hg4 (.slice A' (putG ((xs, ⟨xd, xa, xc⟩) : NV) P).length c'))
           obtain ⟨M, hM⟩ : ∃ m, (putG ((xs, ⟨xd, xa, xc⟩) : NV) P).length = m := ⟨_, rfl⟩
           rw [hM] at r4 HG5 HCP
           have HM := hide hM
           clear hg4 hM
           go_wp2_with (first | (at_builtin; refine wpList_app_run ?_ (.tmp 63) (.tmp 69) ?_ ?_ ?_ ?_ r4 ?_; exact rfl; exact rfl; exact rfl; exact rfl; exact rfl))
           go_end0
           have hsz : b ≤ wa.heap.size := by have := HBA.out.size; have := HBB.out; omega
           have hbb : Below b w w4 := below_up HBA.out HB4.out hsz
           refine ⟨rfl, A', c', ?_, ?_, ?_, ?_, ?_⟩
           · rw [HM.out]; exact HG5.out
           · rw [HM.out]; exact HCP.out
           · exact HRG.out.gb (gb_setCell (World.grownBy.refl w4 (some g)) 2 _) (fun a e h => by injection h with h; have := HA'.out a e; omega)
           · intro a e; have := HA'.out a e; have := HBB.out; omega
           · exact gb_setCell ⟨hbb.os, hbb.tape, hbb.output, hbb.size, fun i hi _ => hbb.block i (by have := HBB.out; omega)⟩ 2 _
       · skip
         go_wp2_with fail
         go_quiet (fail)
         obtain ⟨nq1, hnq1⟩ : ∃ z, z = nq := ⟨_, rfl⟩
         subst hnq1
         go_wp2_with fail
         go_quiet (fail)
         go_wp2_with fail
         have HRB := hide (show Below wa.heap.size wa ((((wa.drewN q).drewN nq1).drewN nq).drew) from (below_drewN (below_drewN (below_drewN (Below.refl wa.heap.size wa) _) _) _).drew)
         have hbl : b < wa.heap.size := (Array.getElem?_eq_some_iff.1 HNW.out).1
         have hgl2 : g < wa.heap.size := (Array.getElem?_eq_some_iff.1 HRA.out.heap).1
         have hx1 : wa.cell? ⟨b, 1, none⟩ = some (.bool xc.dir) := cellOf HNW.out (j := 1) rfl
         have hx2 : wa.cell? ⟨b, 2, none⟩ = some (.slice xd xc.data.length xa) := cellOf HNW.out (j := 2) rfl
         have hx3 : wa.cell? ⟨b, 3, none⟩ = some (.int .i64 xc.time) := cellOf HNW.out (j := 3) rfl
         have hs2 : ∀ W, Below wa.heap.size wa W → (fun w' => w'.cell? ⟨g, 2, none⟩ = some (.slice (some ⟨gs, o, none⟩) k c) ∧ w'.cell? ⟨b, 0, none⟩ = some (.string xs) ∧ w'.cell? ⟨b, 1, none⟩ = some (.bool xc.dir) ∧ w'.cell? ⟨b, 2, none⟩ = some (.slice xd xc.data.length xa) ∧ w'.cell? ⟨b, 3, none⟩ = some (.int .i64 xc.time)) W := fun W h => ⟨(h.cell (p := ⟨g, 2, none⟩) hgl2).trans hc2, (h.cell (p := ⟨b, 0, none⟩) hbl).trans hx0, (h.cell (p := ⟨b, 1, none⟩) hbl).trans hx1, (h.cell (p := ⟨b, 2, none⟩) hbl).trans hx2, (h.cell (p := ⟨b, 3, none⟩) hbl).trans hx3⟩
         have HS2 := hide hs2
         clear hs2
         refine wp_region_held_drew (S := fun w' => w'.cell? ⟨g, 2, none⟩ = some (.slice (some ⟨gs, o, none⟩) k c) ∧ w'.cell? ⟨b, 0, none⟩ = some (.string xs) ∧ w'.cell? ⟨b, 1, none⟩ = some (.bool xc.dir) ∧ w'.cell? ⟨b, 2, none⟩ = some (.slice xd xc.data.length xa) ∧ w'.cell? ⟨b, 3, none⟩ = some (.int .i64 xc.time)) (by kernel_rfl) (HS2.out _ HRB.out) (fun hHeld => ?_)
         refine tq (i := 0) (v := ?vE0) rfl rfl (by kernel_rfl) (fun _ _ _ h => h) ?yE0 (by assumption) ?rE0
         case yE0 => intro w h; (try dsimp only at h); go_simp; try with_reducible rfl
         try simp only [sA, sB, sC]
         refine tq (i := 1) (v := ?vE1) rfl rfl (by kernel_rfl) (fun _ _ _ h => h) ?yE1 (by assumption) ?rE1
         case yE1 => intro w h; (try dsimp only at h); go_simp; try with_reducible rfl
         try simp only [sA, sB, sC]
         refine tq (i := 2) (v := ?vE2) rfl rfl (by kernel_rfl) (fun _ _ _ h => h) ?yE2 (by assumption) ?rE2
         case yE2 => intro w h; (try dsimp only at h); go_simp; try with_reducible rfl
         try simp only [sA, sB, sC]
         refine tq (i := 3) (v := ?vE3) rfl rfl (by kernel_rfl) (fun _ _ _ h => h) ?yE3 (by assumption) ?rE3
         case yE3 => intro w h; (try dsimp only at h); go_simp; try with_reducible rfl
         try simp only [sA, sB, sC]
         refine tq (i := 4) (v := ?vE4) rfl rfl (by kernel_rfl) (fun _ _ _ h => h) ?yE4 (by assumption) ?rE4
         case yE4 => intro w h; (try dsimp only at h); go_simp; try with_reducible rfl
         try simp only [sA, sB, sC]
         refine tq (i := 5) (v := ?vE5) rfl rfl (by kernel_rfl) (fun _ _ _ h => h) ?yE5 (by assumption) ?rE5
         case yE5 => intro w h; (try dsimp only at h); go_simp; try with_reducible rfl
         try simp only [sA, sB, sC]
         refine tq (i := 7) (v := ?vE7) rfl rfl (by kernel_rfl) (fun _ _ _ h => h) ?yE7 (by assumption) ?rE7
         case yE7 => intro w h; (try dsimp only at h); go_simp; try with_reducible rfl
         try simp only [sA, sB, sC]
         refine wpAnyH_ready (rs := [6, 8]) (by kernel_rfl) (by simp) ?_
         refine AllReadyH.cons (o := _) rfl (fun K hK => ?Eway1) (AllReadyH.cons (o := _) rfl (fun K hK => ?Eway2) AllReadyH.nil)
         case Eway1 =>
           obtain ⟨v2, w2, v3, w3, v4, w4, r2, r3, r4, ho4, hb2, hb3, hb4⟩ := putN_chain ((((wa.drewN q).drewN nq1).drewN nq).drew) (some ⟨gs, o, none⟩) (some ⟨gs, o + k * 4, none⟩) c (c - (k)) (P.take k) (P.drop (k)) (xs, ⟨xd, xa, xc⟩) #[.string xs, .bool xc.dir, .slice xd xc.data.length xa, .int .i64 xc.time] rfl (HDE.out _ _ HRB.out) (HTK.out _ HRB.out) (by simp only [List.length_take, List.length_drop]; have := HN.out; omega)
           rw [show (P.drop (k)).length = 0 by rw [List.length_drop, HN.out]; omega] at r4
           rw [show (P.take k).length = k by rw [List.length_take, HN.out]; omega] at r2
           have HB2 := hide (show Below wa.heap.size wa w2 from below_up HRB.out hb2 HRB.out.size)
           have HB3 := hide (show Below wa.heap.size wa w3 from below_up HRB.out hb3 HRB.out.size)
           have HB4 := hide (show Below wa.heap.size wa w4 from below_up HRB.out hb4 HRB.out.size)
           have ho5 := ho4.base (base' := wa.heap.size) (Nat.le_refl _)
           rw [← HQ.out] at ho5
           obtain ⟨A', c', rfl, hcp, hrg, hob, _⟩ := ho5.slice encE_len
           have HA' := hide (show ∀ a, A' = some a → wa.heap.size ≤ a.block from fun a e => (ho5.lt _ (hob a e)).1)
           have HCP := hide hcp
           have HRG := hide hrg
           clear ho4 ho5 hb2 hb3 hb4 hob hcp hrg
           refine step_app_run rfl _ _ rfl rfl rfl rfl r2 ?_
           refine hK.out _ _ (HS2.out _ HB2.out) (fun _ => ?_)
           clear hK K
           try simp only [Act.put, sA, sB, sC]
           refine rq (k := 8) rfl (by kernel_rfl) (by kernel_rfl) (fun K hK => ?_)
           go_simp
           refine hK.out _ _ (HS2.out _ (HB2.out.alloc HB2.out.size _)) (fun _ => ?_)
           clear hK K
           try simp only [Act.put, sA, sB, sC]
           refine wpAnyH_ready (rs := [9]) (by kernel_rfl) (by simp) ?_
           refine AllReadyH.cons (o := _) rfl (fun K hK => ?_) AllReadyH.nil
           refine step_app_run rfl _ _ rfl rfl rfl rfl r3 ?_
           refine hK.out _ _ (HS2.out _ HB3.out) (fun _ => ?_)
           clear hK K
           try simp only [Act.put, sA, sB, sC]
           refine tq (i := 10) (v := ?vEx10) rfl rfl (by kernel_rfl) (fun _ _ _ h => h) ?yEx10 (by assumption) ?rEx10
           case yEx10 => intro w h; (try dsimp only at h); go_simp; try with_reducible rfl
           try simp only [sA, sB, sC]
           refine wpAnyH_done (by kernel_rfl) ?_ _
           have hd2 := (HS2.out w3 HB3.out).1
           have hg4 := (HB4.out.block g hgl2).trans HRA.out.heap
           rw [HN.out] at hg4
           have hf4 := freeOf hg4 2
           have hcc4 := cellOf hg4 (j := 2) (v := .slice (some ⟨gs, o, none⟩) k c) rfl
           have HG5 := hide (heapSet (j := 2) hg4 (.slice A' (putG ((xs, ⟨xd, xa, xc⟩) : NV) P).length c'))
           obtain ⟨M, hM⟩ : ∃ m, (putG ((xs, ⟨xd, xa, xc⟩) : NV) P).length = m := ⟨_, rfl⟩
           rw [hM] at r4 HG5 HCP
           have HM := hide hM
           clear hg4 hM
           go_wp2_with (first | (at_builtin; refine wpList_app_run ?_ (.tmp 63) (.tmp 69) ?_ ?_ ?_ ?_ r4 ?_; exact rfl; exact rfl; exact rfl; exact rfl; exact rfl))
           go_end0
           have hsz : b ≤ wa.heap.size := by have := HBA.out.size; have := HBB.out; omega
           have hbb : Below b w w4 := below_up HBA.out HB4.out hsz
           refine ⟨rfl, A', c', ?_, ?_, ?_, ?_, ?_⟩
           · rw [HM.out]; exact HG5.out
           · rw [HM.out]; exact HCP.out
           · exact HRG.out.gb (gb_setCell (World.grownBy.refl w4 (some g)) 2 _) (fun a e h => by injection h with h; have := HA'.out a e; omega)
           · intro a e; have := HA'.out a e; have := HBB.out; omega
           · exact gb_setCell ⟨hbb.os, hbb.tape, hbb.output, hbb.size, fun i hi _ => hbb.block i (by have := HBB.out; omega)⟩ 2 _
         case Eway2 =>
           have HRB := hide (below_drewN (Below.refl wa.heap.size wa) (q + nq1 + nq + 1))
           obtain ⟨v2, w2, v3, w3, v4, w4, r2, r3, r4, ho4, hb2, hb3, hb4⟩ := putN_chain2 (wa.drewN (q + nq1 + nq + 1)) (some ⟨gs, o, none⟩) (some ⟨gs, o + k * 4, none⟩) c (c - (k)) (P.take k) (P.drop (k)) (xs, ⟨xd, xa, xc⟩) #[.string xs, .bool xc.dir, .slice xd xc.data.length xa, .int .i64 xc.time] rfl (HDE.out _ _ HRB.out) (HTK.out _ HRB.out) (by simp only [List.length_take, List.length_drop]; have := HN.out; omega)
           rw [show (P.drop (k)).length = 0 by rw [List.length_drop, HN.out]; omega] at r4
           rw [show (P.take k).length = k by rw [List.length_take, HN.out]; omega] at r2
           have HB2 := hide (show Below wa.heap.size wa w2 from below_up HRB.out hb2 HRB.out.size)
           have HB3 := hide (show Below wa.heap.size wa w3 from below_up HRB.out hb3 HRB.out.size)
           have HB4 := hide (show Below wa.heap.size wa w4 from below_up HRB.out hb4 HRB.out.size)
           have ho5 := ho4.base (base' := wa.heap.size) (Nat.le_refl _)
           rw [← HQ.out] at ho5
           obtain ⟨A', c', rfl, hcp, hrg, hob, _⟩ := ho5.slice encE_len
           have HA' := hide (show ∀ a, A' = some a → wa.heap.size ≤ a.block from fun a e => (ho5.lt _ (hob a e)).1)
           have HCP := hide hcp
           have HRG := hide hrg
           clear ho4 ho5 hb2 hb3 hb4 hob hcp hrg
           rw [if_pos (by kernel_rfl)]
           go_simp
           refine hK.out _ _ (HS2.out _ (HRB.out.alloc HRB.out.size _)) (fun _ => ?_)
           clear hK K
           try simp only [Act.put, sA, sB, sC]
           refine wpAnyH_ready (rs := [6]) (by kernel_rfl) (by simp) ?_
           refine AllReadyH.cons (o := _) rfl (fun K hK => ?_) AllReadyH.nil
           refine step_app_run rfl _ _ rfl rfl rfl rfl r2 ?_
           refine hK.out _ _ (HS2.out _ HB2.out) (fun _ => ?_)
           clear hK K
           try simp only [Act.put, sA, sB, sC]
           refine wpAnyH_ready (rs := [9]) (by kernel_rfl) (by simp) ?_
           refine AllReadyH.cons (o := _) rfl (fun K hK => ?_) AllReadyH.nil
           refine step_app_run rfl _ _ rfl rfl rfl rfl r3 ?_
           refine hK.out _ _ (HS2.out _ HB3.out) (fun _ => ?_)
           clear hK K
           try simp only [Act.put, sA, sB, sC]
           refine tq (i := 10) (v := ?vEy10) rfl rfl (by kernel_rfl) (fun _ _ _ h => h) ?yEy10 (by assumption) ?rEy10
           case yEy10 => intro w h; (try dsimp only at h); go_simp; try with_reducible rfl
           try simp only [sA, sB, sC]
           refine wpAnyH_done (by kernel_rfl) ?_ _
           have hd2 := (HS2.out w3 HB3.out).1
           have hg4 := (HB4.out.block g hgl2).trans HRA.out.heap
           rw [HN.out] at hg4
           have hf4 := freeOf hg4 2
           have hcc4 := cellOf hg4 (j := 2) (v := .slice (some ⟨gs, o, none⟩) k c) rfl
           have HG5 := hide (heapSet (j := 2) hg4 (.slice A' (putG ((xs, ⟨xd, xa, xc⟩) : NV) P).length c'))
           obtain ⟨M, hM⟩ : ∃ m, (putG ((xs, ⟨xd, xa, xc⟩) : NV) P).length = m := ⟨_, rfl⟩
           rw [hM] at r4 HG5 HCP
           have HM := hide hM
           clear hg4 hM
           go_wp2_with (first | (at_builtin; refine wpList_app_run ?_ (.tmp 63) (.tmp 69) ?_ ?_ ?_ ?_ r4 ?_; exact rfl; exact rfl; exact rfl; exact rfl; exact rfl))
           go_end0
           have hsz : b ≤ wa.heap.size := by have := HBA.out.size; have := HBB.out; omega
           have hbb : Below b w w4 := below_up HBA.out HB4.out hsz
           refine ⟨rfl, A', c', ?_, ?_, ?_, ?_, ?_⟩
           · rw [HM.out]; exact HG5.out
           · rw [HM.out]; exact HCP.out
           · exact HRG.out.gb (gb_setCell (World.grownBy.refl w4 (some g)) 2 _) (fun a e h => by injection h with h; have := HA'.out a e; omega)
           · intro a e; have := HA'.out a e; have := HBB.out; omega
           · exact gb_setCell ⟨hbb.os, hbb.tape, hbb.output, hbb.size, fun i hi _ => hbb.block i (by have := HBB.out; omega)⟩ 2 _
end
section
open Go.RowKit Go.Deep Go.Maps Ln Pth Vf
attribute [local go_sem] bt_eq
theorem r4cut_any (n m : Int) (w : World) (hm : 0 ≤ m) :
   Calls Tryz.prog 28 #[.int .i64 n, .int .i64 m] w fun e w' => e = .returned (.int .i64 (min (max 0 n) m)) ∧ w = w' := by
 by_cases h0 : n < 0
 · have d0 : decide (n < 0) = true := by simpa using h0
   have HE := hide (show min (max 0 n) m = 0 by omega)
   clear h0
   go_enter Tryz.func28, Tryz.ntmps28
   go_wp2
   go_ret
   rw [HE.out]
   exact ⟨rfl, rfl⟩
 · have d0 : decide (n < 0) = false := by simpa using h0
   by_cases h1 : n > m
   · have d1 : decide (m < n) = true := by simpa using h1
     have HE := hide (show min (max 0 n) m = m by omega)
     clear h0 h1
     go_enter Tryz.func28, Tryz.ntmps28
     go_wp2
     go_ret
     rw [HE.out]
     exact ⟨rfl, rfl⟩
   · have d1 : decide (m < n) = false := by simpa using h1
     have HE := hide (show min (max 0 n) m = n by omega)
     clear h0 h1
     go_enter Tryz.func28, Tryz.ntmps28
     go_wp2
     go_ret
     rw [HE.out]
     exact ⟨rfl, rfl⟩
theorem rnew_any (n b : Int) (w : World) :
   Calls Tryz.prog 9 #[.int .i64 n, .int .i64 b] w fun e w' => e = .returned (.pointer (some ⟨w.heap.size, 0, none⟩)) ∧ Below w.heap.size w w' ∧ RSO w.heap.size (newS n b) none 0 [] w' ∧ w'.heap.size = w.heap.size + 1 := by
 have e1 : min (max (0 : Int) n) 10000 = ((newS n b).nodes : Nat) := by simp only [newS]; omega
 have e2 : min (max (0 : Int) b) 1048576 = ((newS n b).bytes : Nat) := by simp only [newS]; omega
 have HC1 := hide (r4cut_any n 10000 w (by omega))
 have HC2 := hide (r4cut_any b 1048576 w (by omega))
 rw [e1] at HC1
 rw [e2] at HC2
 obtain ⟨S, hS⟩ : ∃ S, newS n b = S := ⟨_, rfl⟩
 rw [hS] at HC1 HC2 ⊢
 have HM := hide (show S.m = [] ∧ S.clock = 0 by rw [← hS]; exact ⟨rfl, rfl⟩)
 clear e1 e2 hS
 go_enter Tryz.func9, Tryz.ntmps9
 go_wp2_with fail
 refine HC1.out.mono ?_
 rintro e w' ⟨rfl, rfl⟩
 go_wp2_with fail
 refine HC2.out.mono ?_
 rintro e w' ⟨rfl, rfl⟩
 go_wp2
 go_ret
 refine ⟨rfl, (Below.refl _ _).alloc (Nat.le_refl _) _, ⟨?_, by simp, (fun k x hk => by simp at hk), (fun x hx => by cases hx), by rw [HM.out.1]; rfl, (fun a e => by cases e), (fun a e => by cases e), (fun x hx => by cases hx), (fun x hx => by cases hx)⟩, by simp⟩
 have := heapNew w (.cells #[.int .i64 S.nodes, .int .i64 S.bytes, .slice none 0 0, .int .i64 0] 72)
 rw [HM.out.2]
 simpa using this
end
section
open Go.RowKit Go.Deep Go.Maps Ln Pth Vf
attribute [local go_sem] bt_eq
end
section
open Go.RowKit Go.Deep Go.Maps Ln Pth Vf
def RK (g : Nat) (S' : St) (w : World) (A : Option Addr) (P : List NV) (w' : World) : Prop :=
 ∃ A' c' P', RSO g S' A' c' P' w' ∧ Kp w w' (fun k => k = g) ∧ (∀ a, A' = some a → P' ≠ [] → w.heap.size ≤ a.block ∨ (A = some a ∧ P ≠ [])) ∧
   ∀ x ∈ P', ∀ a, x.2.A = some a → x.2.nd.data ≠ [] → w.heap.size ≤ a.block ∨ ∃ y ∈ P, y.2.A = some a ∧ y.2.nd.data ≠ []
theorem RK.stay {g : Nat} {S : St} {A : Option Addr} {c : Nat} {P : List NV} {w w' : World} (h : RSO g S A c P w) (hb : Below w.heap.size w w') : RK g S w A P w' :=
 ⟨A, c, P, h.below hb, Kp.of_below hb _, fun a e hn => .inr ⟨e, hn⟩, fun x hx a e hn => .inr ⟨x, hx, e, hn⟩⟩
theorem RG.block_lt {α : Type} {enc : α → List Value} {n : Nat} {w : World} {A : Option Addr} {L : List α} (h : RG enc n w A L) {a : Addr} (e : A = some a) (hn : L ≠ []) : a.block < w.heap.size := by
 obtain ⟨y, hy⟩ : ∃ y, L[0]? = some y := ⟨L[0]'(List.length_pos_iff.2 hn), gE _⟩
 obtain ⟨g2, o2, e2, hg2, _⟩ := h 0 y hy
 rw [e] at e2
 injection e2 with e2
 rw [e2]
 exact hg2
theorem RSO.set {g : Nat} {S S' : St} {A A' : Option Addr} {c c' : Nat} {P P' : List NV} {w w' : World} (h : RSO g S A c P w) (hk : Kp w w' (fun k => k = g))
   (hg : w'.heap[g]? = some (.cells #[.int .i64 S'.nodes, .int .i64 S'.bytes, .slice A' P'.length c', .int .i64 S'.clock] 72)) (hc : P'.length ≤ c') (hm : S'.m = stripN P')
   (hA : RG encE 4 w' A' P') (hAg : ∀ a, A' = some a → P' ≠ [] → a.block ≠ g)
   (hD : ∀ x ∈ P', x.2.nd.data.length ≤ x.2.c ∧ RG encB 1 w' x.2.A x.2.nd.data ∧ (∀ a, x.2.A = some a → x.2.nd.data ≠ [] → a.block ≠ g)) (ht : ∀ a, A' = some a → ∃ g o, a = ⟨g, o, none⟩) : RSO g S' A' c' P' w' :=
 ⟨hg, hc, hA, fun x hx => (hD x hx).2.1, hm, ht, hAg, fun x hx => (hD x hx).2.2, fun x hx => (hD x hx).1⟩
theorem RG.kp {α : Type} {enc : α → List Value} {n : Nat} {w w' : World} {A : Option Addr} {L : List α} {g : Nat} (h : RG enc n w A L) (hk : Kp w w' (fun k => k = g)) (hg : ∀ a, A = some a → L ≠ [] → a.block ≠ g) : RG enc n w' A L :=
 h.ofB hk.size (fun a e hn => hk.block a.block (h.block_lt e hn) (hg a e hn))
theorem Kp.ofGb {w w' : World} {g : Nat} (h : w.grownBy w' (some g)) : Kp w w' (fun k => k = g) := ⟨h.os, h.tape, h.output, h.size, fun k hk hn => h.block k hk (fun e => hn (Option.some.inj e))⟩
theorem Kp.set (w : World) (g j : Nat) (v : Value) : Kp w (w.setCell ⟨g, j, none⟩ v) (fun k => k = g) := ⟨rfl, rfl, rfl, by simp, fun k hk hne => Below.heap_setCell _ _ _ _ (by simpa using hne)⟩
theorem Kp.then {w w' w'' : World} {S : Nat → Prop} (h : Kp w w' S) (h' : Kp w' w'' S) : Kp w w'' S := h.trans (h'.mono fun k e => .inl e)
theorem RSO.tick {g : Nat} {S : St} {A : Option Addr} {c : Nat} {P : List NV} {w : World} (h : RSO g S A c P w) (n : Nat) : RSO g { S with clock := n } A c P (w.setCell ⟨g, 3, none⟩ (.int .i64 n)) := by
 have hk := Kp.set w g 3 (.int .i64 n)
 exact h.set hk ((heapSet (j := 3) h.heap (.int .i64 n)).trans rfl) h.cap h.eq (h.rg.kp hk h.neA) h.neA (fun x hx => ⟨h.lt x hx, (h.dat x hx).kp hk (h.neD x hx), h.neD x hx⟩) h.top
theorem putG_ne {α : Type} (x : ByteArray × α) (P : KV α) : putG x P ≠ [] := by
 cases P with
 | nil => simp [putG]
 | cons y P => rw [putG]; split; simp; split <;> simp
theorem RSO.putted {g : Nat} {S S' : St} {A A' : Option Addr} {c c' : Nat} {P : List NV} {x : NV} {w w' : World} (h : RSO g S A c P w) (hm : S'.m = putG (x.1, x.2.nd) S.m)
   (hg : w'.heap[g]? = some (.cells #[.int .i64 S'.nodes, .int .i64 S'.bytes, .slice A' (putG x P).length c', .int .i64 S'.clock] 72)) (hc : (putG x P).length ≤ c') (hr : RG encE 4 w' A' (putG x P)) (hA : ∀ a, A' = some a → w.heap.size ≤ a.block)
   (hk : Kp w w' (fun k => k = g)) (hx : RG encB 1 w x.2.A x.2.nd.data) (hxg : ∀ a, x.2.A = some a → x.2.nd.data ≠ [] → a.block ≠ g) (hxl : x.2.nd.data.length ≤ x.2.c) : RSO g S' A' c' (putG x P) w' := by
 have hgl : g < w.heap.size := (Array.getElem?_eq_some_iff.1 h.heap).1
 refine h.set hk hg hc (by rw [hm, h.eq, ← strip_put]) hr (fun a e _ => by have := hA a e; omega) (fun y hy => ?_) (fun a e => ?_)
 · rcases mem_putG hy with rfl | hy
   · exact ⟨hxl, hx.kp hk hxg, hxg⟩
   · exact ⟨h.lt y hy, (h.dat y hy).kp hk (h.neD y hy), h.neD y hy⟩
 · have hne := putG_ne x P
   obtain ⟨y, hy⟩ : ∃ y, (putG x P)[0]? = some y := ⟨(putG x P)[0]'(List.length_pos_iff.2 hne), gE _⟩
   obtain ⟨g2, o2, e2, _, _⟩ := hr 0 y hy
   rw [e] at e2
   injection e2 with e2
   exact ⟨g2, o2, e2⟩
theorem RK.pre {g : Nat} {S' : St} {w w1 w' : World} {A : Option Addr} {P : List NV} (hb : Below w.heap.size w w1) (h : RK g S' w1 A P w') : RK g S' w A P w' := by
 obtain ⟨A', c', P', o, hk, hA, hD⟩ := h
 exact ⟨A', c', P', o, (Kp.of_below hb _).then hk, fun a e hn => (hA a e hn).imp_left (Nat.le_trans hb.size), fun x hx a e hn => (hD x hx a e hn).imp_left (Nat.le_trans hb.size)⟩
end
section
open Go.RowKit Go.Deep Go.Maps Ln Pth Vf
attribute [local go_sem] bt_eq
theorem write_put (g : Nat) (S : St) (A : Option Addr) (c : Nat) (P : List NV) (w1 : World) (h : RSO g S A c P w1) (hl : P.length ≤ 10000) (q : T) (B : Option Addr) (d : Nat) (was : T) (hB : RG encB 1 w1 B was) (hBg : ∀ a, B = some a → was ≠ [] → a.block ≠ g)
   (Bb : Option Addr) (cb : Nat) (b : T) (hb : RG encB 1 w1 Bb b) (hbg : ∀ a, Bb = some a → b ≠ [] → a.block ≠ g) (hsz : was.length + b.length ≤ 1000000) (S' : St) (hm : S'.m = putG (bs q, ⟨false, was ++ b, S.clock + 1⟩) S.m) (h1 : S'.nodes = S.nodes) (h2 : S'.bytes = S.bytes) (h3 : S'.clock = S.clock + 1) :
   ∃ v2 w2 A3 c3 w3, (Builtin.append_ #[29, 29] 29 #[.slice none 0 0, .slice B was.length d]).run Tryz.prog (w1.setCell ⟨g, 3, none⟩ (.int .i64 ((S.clock : Int) + 1))).drew = .ok v2 w2 ∧
     (Builtin.append_ #[29, 29] 29 #[v2, .slice Bb b.length cb]).run Tryz.prog w2 = .ok (.slice A3 (was ++ b).length c3) w3 ∧
     w2.cell? ⟨g, 3, none⟩ = some (.int .i64 ((S.clock : Int) + 1)) ∧ w3.cell? ⟨g, 3, none⟩ = some (.int .i64 ((S.clock : Int) + 1)) ∧
     Calls Tryz.prog 115 #[.pointer (some ⟨g, 0, none⟩), .agg #[.string (bs q), .bool false, .slice A3 (was ++ b).length c3, .int .i64 ((S.clock : Int) + 1)]] w3 fun e w' => e = .returned (.tuple #[]) ∧ RK g S' w1 A P w' ∧ w'.cell? ⟨g, 3, none⟩ = some (.int .i64 ((S.clock : Int) + 1)) := by
 have ht := h.tick (S.clock + 1)
 rw [show ((S.clock + 1 : Nat) : Int) = (S.clock : Int) + 1 from rfl] at ht
 have ht := ht.drew
 have hk : Kp w1 (w1.setCell ⟨g, 3, none⟩ (.int .i64 ((S.clock : Int) + 1))).drew (fun k => k = g) := (Kp.set w1 g 3 (.int .i64 ((S.clock : Int) + 1))).then (Kp.of_below (Below.refl _ _).drew _)
 have hBt := hB.kp hk hBg
 have hbt := hb.kp hk hbg
 obtain ⟨wt, hwt⟩ : ∃ W, (w1.setCell ⟨g, 3, none⟩ (.int .i64 ((S.clock : Int) + 1))).drew = W := ⟨_, rfl⟩
 rw [hwt] at ht hk hBt hbt ⊢
 obtain ⟨v2, w2, r2, o2, g2, b2⟩ := run_appY (c := d) (OwnG.nil wt wt.heap.size) hBt (Nat.le_refl _) (by simp; omega)
 have hb2 : Below wt.heap.size wt w2 := Below.of_gb g2 (Nat.le_refl _) (fun k hk => by cases hk)
 rw [List.nil_append] at o2
 have n2 : ∀ k, v2.ownBlock = some k → wt.heap.size ≤ k := fun k hk => (o2.lt k hk).1
 obtain ⟨v3, w3, r3, o3, g3, b3⟩ := run_appY (c := cb) o2 (hbt.below hb2) hb2.size (by omega)
 have hb3 : Below wt.heap.size wt w3 := hb2.trans (Below.of_gb g3 hb2.size n2)
 obtain ⟨A3, c3, rfl, hc3L, hr3, hob3, _⟩ := OwnG.slice encB_len o3
 have hA3 : ∀ a, A3 = some a → wt.heap.size ≤ a.block := fun a e => (o3.lt _ (hob3 a e)).1
 have hgl : g < wt.heap.size := (Array.getElem?_eq_some_iff.1 ht.heap).1
 have ho3 := ht.below hb3
 refine ⟨v2, w2, A3, c3, w3, r2, r3, cellOf (ht.below hb2).heap (j := 3) rfl, cellOf ho3.heap (j := 3) rfl, ?_⟩
 refine (rput_any g { S with clock := S.clock + 1 } A c P (bs q, ⟨A3, c3, ⟨false, was ++ b, S.clock + 1⟩⟩) w3 ho3 hl).mono ?_
 rintro e w' ⟨rfl, A', c', hg', hc', hr', hA', hgb⟩
 have hk3 : Kp w1 w3 (fun k => k = g) := hk.then (Kp.of_below hb3 _)
 have hk' := Kp.ofGb hgb
 have hc3 := cellOf hg' (j := 3) rfl
 refine ⟨rfl, ⟨A', c', _, RSO.putted (x := (bs q, ⟨A3, c3, ⟨false, was ++ b, S.clock + 1⟩⟩)) ho3 hm (by rw [hg', h1, h2, h3]) hc' hr' hA' hk' hr3 (fun a e _ => by have := hA3 a e; omega) hc3L, hk3.then hk', fun a e _ => .inl (by have := hA' a e; have := hk3.size; omega), fun x hx a e hn => ?_⟩, hc3⟩
 rcases mem_putG hx with rfl | hx
 · exact .inl (by have := hA3 a e; have := hk.size; omega)
 · exact .inr ⟨x, hx, e, hn⟩
theorem writeS_bad {S : St} {p b : T} {more : Bool} (h : (absS S p).2 ≠ 0) : writeS S p b more = (S, (absS S p).2) := by
 unfold writeS
 rw [if_pos h]
theorem writeS_dir {S : St} {p b : T} {more : Bool} (h : (absS S p).2 = 0) (hk : kindM S.m (absS S p).1 = 2) : writeS S p b more = (S, 10) := by
 unfold writeS writeQ
 rw [if_neg (by simp [h]), if_pos hk]
theorem writeS_new {S : St} {p b : T} {more : Bool} (h : (absS S p).2 = 0) (hk : kindM S.m (absS S p).1 = 0) : writeS S p b more = if S.m.length + 1 ≤ S.nodes ∧ S.used + b.length ≤ S.bytes then ({ Vf.putS S (absS S p).1 false b with used := S.used + b.length }, 0) else (S, 13) := by
 have hd : dataM S.m (absS S p).1 = [] := by unfold dataM; rw [getG_kind hk]
 unfold writeS writeQ
 rw [if_neg (by simp [h]), if_neg (by omega), if_pos hk, hd]
 cases more <;> simp
theorem writeS_old {S : St} {p b : T} {more : Bool} (hS : WfS S) (h : (absS S p).2 = 0) (hk : kindM S.m (absS S p).1 = 1) : writeS S p b more = if S.used + ((if more = true then dataM S.m (absS S p).1 else []).length + b.length) ≤ S.bytes + (dataM S.m (absS S p).1).length then ({ Vf.putS S (absS S p).1 false ((if more = true then dataM S.m (absS S p).1 else []) ++ b) with used := S.used + ((if more = true then dataM S.m (absS S p).1 else []).length + b.length) - (dataM S.m (absS S p).1).length }, 0) else (S, 13) := by
 unfold writeS writeQ
 have hn := hS.nodes
 rw [if_neg (by simp [h]), if_neg (by omega), if_neg (show ¬ kindM S.m (absS S p).1 = 0 by omega)]
 dsimp only
 generalize (if more = true then dataM S.m (absS S p).1 else []) = was
 by_cases hc : S.used + (was.length + b.length) ≤ S.bytes + (dataM S.m (absS S p).1).length
 · rw [if_pos ⟨by omega, hc⟩, if_pos hc]
 · rw [if_neg (fun h => hc h.2), if_neg hc]
theorem rwrite4_any (g : Nat) (S : St) (A : Option Addr) (c : Nat) (P : List NV) (p : T) (Bb : Option Addr) (cb : Nat) (b : T) (more : Bool) (w : World) (h : RSO g S A c P w) (hS : WfS S) (hp : p.length ≤ 100000) (hby : S.bytes ≤ 400000) (hck : S.clock ≤ 1000000000) (hbl : b.length ≤ 400000) (hbb : RG encB 1 w Bb b) (hbg : ∀ a, Bb = some a → b ≠ [] → a.block ≠ g) :
   Calls Tryz.prog 61 #[.pointer (some ⟨g, 0, none⟩), .string (bs p), .slice Bb b.length cb, .bool more] w fun e w' => e = .returned (.int .i64 (writeS S p b more).2) ∧ RK g (writeS S p b more).1 w A P w' := by
 have hl := row_len hS h.eq
 have HF := hide (rfind_abs g S A c P p w h (by omega) hp)
 have H := hide h
 have HKD0 := hide (fun (q : T) (W : World) (hb : Below w.heap.size w W) => rkind_any g S A c P q W (h.below hb) (by omega))
 have hml : S.m.length = P.length := by rw [h.eq, stripN_len]
 have hnl := hS.nodes
 have hn10 := hS.n10
 have hus := hS.bytes
 have hsz := sizeR_eq h.eq hS
 have HSZ := hide (fun (W : World) (hb : Below w.heap.size w W) => rsize_any g S A c P W (h.below hb) (by omega) (by omega))
 have HAT1 := hide (fun (q : T) (W : World) (hb : Below w.heap.size w W) => rat4_any g S A c P (bs q) W (h.below hb) (by omega))
 have HFN := hide (fun (q : T) (hk : kindM S.m q = 1) => file_node h.eq hk)
 have HR1 := hide (writeS_bad (S := S) (p := p) (b := b) (more := more))
 have HR2 := hide (writeS_dir (S := S) (p := p) (b := b) (more := more))
 have HR3 := hide (writeS_new (S := S) (p := p) (b := b) (more := more))
 have HR4 := hide (writeS_old (S := S) (p := p) (b := b) (more := more) hS)
 have HWP := hide (fun (q : T) (B : Option Addr) (d : Nat) (was : T) (W : World) (hb : Below w.heap.size w W) => write_put g S A c P W (h.below hb) (by omega) q B d was)
 have HBB := hide (fun (W : World) (hb : Below w.heap.size w W) => hbb.below hb)
 have HBG := hide hbg
 have hdl0 := fun q => dataM_len hS q
 have HDL := hide hdl0
 rw [hsz] at HSZ
 obtain ⟨r, hr⟩ : ∃ r, absS S p = r := ⟨_, rfl⟩
 obtain ⟨q0, e⟩ := r
 rw [hr] at HF HR1 HR2 HR3 HR4
 dsimp only at HF HR1 HR2 HR3 HR4
 obtain ⟨R, hR⟩ : ∃ R, writeS S p b more = R := ⟨_, rfl⟩
 rw [hR] at HR1 HR2 HR3 HR4 ⊢
 obtain ⟨n, hn⟩ : ∃ n, P.length = n := ⟨_, rfl⟩
 rw [hml, hn] at HR3
 rw [hn] at hl hml
 have HN := hide hn
 obtain ⟨bl, hbln⟩ : ∃ n, b.length = n := ⟨_, rfl⟩
 rw [hbln] at HR3 HR4 hbl ⊢
 have HBL := hide hbln
 obtain ⟨us, husn⟩ : ∃ n, S.used = n := ⟨_, rfl⟩
 obtain ⟨by_, hbyn⟩ : ∃ n, S.bytes = n := ⟨_, rfl⟩
 rw [husn] at HR3 HR4 HSZ hus
 have HUS := hide husn
 have HBY := hide hbyn
 rw [hbyn] at HR3 HR4 hus hby
 have hci : (S.clock : Int) ≤ 1000000000 := by omega
 have hni : (n : Int) ≤ 10000 := by omega
 have hnd : (S.nodes : Int) ≤ 10000 := by omega
 have hbli : (bl : Int) ≤ 400000 := by omega
 have hbyi : (by_ : Int) ≤ 400000 := by omega
 have husi : (us : Int) ≤ 400000 := by omega
 clear hr hR h hp hS hbb hbg hsz hn hbln husn hbyn hdl0
 go_enter Tryz.func61, Tryz.ntmps61
 go_wp2_with fail
 refine HF.out.mono ?_
 rintro e1 w1 ⟨q, rfl, hq, hql, hb⟩
 have HB := hide hb
 clear hb hql
 by_cases c1 : e = 0
 case neg =>
   obtain ⟨t1, t2⟩ := ne0 c1
   have HE := hide (HR1.out c1)
   clear c1 hq
   go_wp2
   go_ret
   rw [HE.out]
   exact ⟨rfl, RK.stay H.out HB.out⟩
 subst c1
 have hq1 := hq rfl
 subst hq1
 have hkl := kind_le S.m q
 have HKD := hide (HKD0.out q)
 have HAT0 := hide (HAT1.out q)
 have HDQ := hide (HDL.out q)
 clear hq HF
 by_cases k2 : kindM S.m q = 2
 · have HE := hide (HR2.out rfl k2)
   rw [k2] at HKD
   clear hkl k2
   go_wp2_with fail
   refine (HKD.out w1 HB.out).mono ?_
   rintro e w' ⟨rfl, rfl⟩
   go_wp2
   go_ret
   rw [HE.out]
   exact ⟨rfl, RK.stay H.out HB.out⟩
 by_cases k0 : kindM S.m q = 0
 · have HE := hide (HR3.out rfl k0)
   rw [k0] at HKD
   clear hkl k2 k0
   by_cases c3 : S.nodes ≤ n
   · have hni2 : (S.nodes : Int) ≤ (n : Int) := by omega
     have HE := hide (HE.out.trans (if_neg (by omega)))
     go_wp2_with fail
     refine (HKD.out w1 HB.out).mono ?_
     rintro e w' ⟨rfl, rfl⟩
     have ho := H.out.below HB.out
     have hg := ho.heap
     rw [HN.out] at hg
     have hc2 := cellOf hg (j := 2) (v := .slice A n c) rfl
     have hc0 := cellOf hg (j := 0) (v := .int .i64 S.nodes) rfl
     clear ho hg
     go_wp2_with fail
     go_quiet (fail)
     go_wp2
     go_ret
     rw [HE.out]
     exact ⟨rfl, RK.stay H.out (below_drewN HB.out _)⟩
   have hni2 : ¬ (S.nodes : Int) ≤ (n : Int) := by omega
   have HFULL := hide (fun (h : by_ < bl ∨ by_ < us + bl) => HE.out.trans (if_neg (by omega)))
   have HOK := hide (fun (h1 : bl ≤ by_) (h : us + bl ≤ by_) => HE.out.trans (if_pos ⟨by omega, by omega⟩))
   have HPUT := hide (fun (h1 : bl ≤ by_) (h : us + bl ≤ by_) (W : World) (hb : Below w.heap.size w W) => HWP.out q none 0 [] W hb (fun k x hk => by simp at hk) (fun a e => by cases e) Bb cb b (HBB.out W hb) HBG.out (by simp; have := HBL.out; omega) { Vf.putS S q false b with used := us + bl } rfl rfl rfl rfl)
   rw [List.nil_append, HBL.out, List.length_nil] at HPUT
   clear HE
   cases more with
   | true =>
     go_wp2_with fail
     refine (HKD.out w1 HB.out).mono ?_
     rintro e w' ⟨rfl, rfl⟩
     have ho := H.out.below HB.out
     have hg := ho.heap
     rw [HN.out] at hg
     have hc2 := cellOf hg (j := 2) (v := .slice A n c) rfl
     have hc0 := cellOf hg (j := 0) (v := .int .i64 S.nodes) rfl
     clear ho hg
     go_wp2_with fail
     go_quiet (fail)
     have HBW := hide (below_drewN HB.out nq)
     clear hc2 hc0
     obtain ⟨W, hW⟩ : ∃ W, w1.drewN nq = W := ⟨_, rfl⟩
     rw [hW] at HBW ⊢
     clear hW
     go_wp2_with fail
     refine (HSZ.out W HBW.out).mono ?_
     rintro e w' ⟨rfl, rfl⟩
     have hgW := (H.out.below HBW.out).heap
     rw [HN.out] at hgW
     have hc1 := cellOf hgW (j := 1) (v := .int .i64 S.bytes) rfl
     rw [HBY.out] at hc1
     have hc3 := cellOf hgW (j := 3) (v := .int .i64 S.clock) rfl
     have hf3 := freeOf hgW 3
     clear hgW
     by_cases t1 : by_ < bl
     · have HE := hide (HFULL.out (.inl t1))
       have t1i : (by_ : Int) < (bl : Int) := by omega
       go_wp2
       go_ret
       rw [HE.out]
       exact ⟨rfl, RK.stay H.out HBW.out⟩
     have t1i : ¬ (by_ : Int) < (bl : Int) := by omega
     by_cases t2 : by_ < us + bl
     · have HE := hide (HFULL.out (.inr t2))
       have t2i : (by_ : Int) < (us : Int) + (bl : Int) := by omega
       go_wp2
       go_ret
       rw [HE.out]
       exact ⟨rfl, RK.stay H.out HBW.out⟩
     have t2i : ¬ (by_ : Int) < (us : Int) + (bl : Int) := by omega
     have HE := hide (HOK.out (by omega) (by omega))
     obtain ⟨v2, w2, A3, c3, w3, r2, r3, hs2, hs3, hput⟩ := HPUT.out (by omega) (by omega) W HBW.out
     have HPT := hide hput
     have hs1 : (W.setCell ⟨g, 3, none⟩ (.int .i64 ((S.clock : Int) + 1))).drew.cell? ⟨g, 3, none⟩ = some (.int .i64 ((S.clock : Int) + 1)) := World.cell?_setCell_same' W _ _ (by rw [hc3]; rfl)
     clear hput t1 t2
     go_wp2_with fail
     refine wp_region_held_drew (S := (fun W => W.cell? ⟨g, 3, none⟩ = some (.int .i64 ((S.clock : Int) + 1)))) (by kernel_rfl) hs1 (fun hHeld => ?_)
     refine tq (i := 0) (v := ?vKt0) rfl rfl (by kernel_rfl) (fun _ _ _ h => h) ?yKt0 (by assumption) ?rKt0
     case yKt0 => intro w h; (try dsimp only at h); go_simp; try with_reducible rfl
     try simp only [sA, sB, sC]
     refine tq (i := 1) (v := ?vKt1) rfl rfl (by kernel_rfl) (fun _ _ _ h => h) ?yKt1 (by assumption) ?rKt1
     case yKt1 => intro w h; (try dsimp only at h); go_simp; try with_reducible rfl
     try simp only [sA, sB, sC]
     refine tq (i := 2) (v := ?vKt2) rfl rfl (by kernel_rfl) (fun _ _ _ h => h) ?yKt2 (by assumption) ?rKt2
     case yKt2 => intro w h; (try dsimp only at h); go_simp; try with_reducible rfl
     try simp only [sA, sB, sC]
     refine tq (i := 4) (v := ?vKt4) rfl rfl (by kernel_rfl) (fun _ _ _ h => h) ?yKt4 (by assumption) ?rKt4
     case yKt4 => intro w h; (try dsimp only at h); go_simp; try with_reducible rfl
     try simp only [sA, sB, sC]
     refine tq (i := 6) (v := ?vKt6) rfl rfl (by kernel_rfl) (fun _ _ _ h => h) ?yKt6 (by assumption) ?rKt6
     case yKt6 => intro w h; (try dsimp only at h); go_simp; try with_reducible rfl
     try simp only [sA, sB, sC]
     refine tq (i := 7) (v := ?vKt7) rfl rfl (by kernel_rfl) (fun _ _ _ h => h) ?yKt7 (by assumption) ?rKt7
     case yKt7 => intro w h; (try dsimp only at h); go_simp; try with_reducible rfl
     try simp only [sA, sB, sC]
     refine tq (i := 8) (v := ?vKt8) rfl rfl (by kernel_rfl) (fun _ _ _ h => h) ?yKt8 (by assumption) ?rKt8
     case yKt8 => intro w h; (try dsimp only at h); go_simp; try with_reducible rfl
     try simp only [sA, sB, sC]
     refine tq (i := 9) (v := ?vKt9) rfl rfl (by kernel_rfl) (fun _ _ _ h => h) ?yKt9 (by assumption) ?rKt9
     case yKt9 => intro w h; (try dsimp only at h); go_simp; try with_reducible rfl
     try simp only [sA, sB, sC]
     refine wpAnyH_ready (rs := [3]) (by kernel_rfl) (by simp) ?_
     refine AllReadyH.cons (o := _) rfl (fun K hK => ?_) AllReadyH.nil
     refine step_app_run rfl _ _ rfl rfl rfl rfl r2 ?_
     refine hK.out _ _ hs2 (fun _ => ?_)
     clear hK K
     try simp only [Act.put, sA, sB, sC]
     refine wpAnyH_ready (rs := [5]) (by kernel_rfl) (by simp) ?_
     refine AllReadyH.cons (o := _) rfl (fun K hK => ?_) AllReadyH.nil
     refine step_app_run rfl _ _ rfl rfl rfl rfl r3 ?_
     refine hK.out _ _ hs3 (fun _ => ?_)
     clear hK K
     try simp only [Act.put, sA, sB, sC]
     refine tq (i := 10) (v := ?vKt10) rfl rfl (by kernel_rfl) (fun _ _ _ h => h) ?yKt10 (by assumption) ?rKt10
     case yKt10 => intro w h; (try dsimp only at h); go_simp; try with_reducible rfl
     try simp only [sA, sB, sC]
     refine rq (k := 11) rfl (by kernel_rfl) (by kernel_rfl) (fun K hK => ?_)
     go_simp
     refine HPT.out.mono ?_
     rintro e w' ⟨rfl, hrk, hlast⟩
     have HRK := hide hrk
     clear hrk
     refine hK.out _ _ hlast (fun _ => ?_)
     clear hK K
     try simp only [Act.put, sA, sB, sC]
     refine wpAnyH_done (by kernel_rfl) ?_ _
     go_wp2
     go_ret
     rw [HE.out]
     exact ⟨rfl, RK.pre HBW.out HRK.out⟩
   | false =>
     go_wp2_with fail
     refine (HKD.out w1 HB.out).mono ?_
     rintro e w' ⟨rfl, rfl⟩
     have ho := H.out.below HB.out
     have hg := ho.heap
     rw [HN.out] at hg
     have hc2 := cellOf hg (j := 2) (v := .slice A n c) rfl
     have hc0 := cellOf hg (j := 0) (v := .int .i64 S.nodes) rfl
     clear ho hg
     go_wp2_with fail
     go_quiet (fail)
     have HBW := hide (below_drewN HB.out nq)
     clear hc2 hc0
     obtain ⟨W, hW⟩ : ∃ W, w1.drewN nq = W := ⟨_, rfl⟩
     rw [hW] at HBW ⊢
     clear hW
     go_wp2_with fail
     refine (HSZ.out W HBW.out).mono ?_
     rintro e w' ⟨rfl, rfl⟩
     have hgW := (H.out.below HBW.out).heap
     rw [HN.out] at hgW
     have hc1 := cellOf hgW (j := 1) (v := .int .i64 S.bytes) rfl
     rw [HBY.out] at hc1
     have hc3 := cellOf hgW (j := 3) (v := .int .i64 S.clock) rfl
     have hf3 := freeOf hgW 3
     clear hgW
     by_cases t1 : by_ < bl
     · have HE := hide (HFULL.out (.inl t1))
       have t1i : (by_ : Int) < (bl : Int) := by omega
       go_wp2
       go_ret
       rw [HE.out]
       exact ⟨rfl, RK.stay H.out HBW.out⟩
     have t1i : ¬ (by_ : Int) < (bl : Int) := by omega
     by_cases t2 : by_ < us + bl
     · have HE := hide (HFULL.out (.inr t2))
       have t2i : (by_ : Int) < (us : Int) + (bl : Int) := by omega
       go_wp2
       go_ret
       rw [HE.out]
       exact ⟨rfl, RK.stay H.out HBW.out⟩
     have t2i : ¬ (by_ : Int) < (us : Int) + (bl : Int) := by omega
     have HE := hide (HOK.out (by omega) (by omega))
     obtain ⟨v2, w2, A3, c3, w3, r2, r3, hs2, hs3, hput⟩ := HPUT.out (by omega) (by omega) W HBW.out
     have HPT := hide hput
     have hs1 : (W.setCell ⟨g, 3, none⟩ (.int .i64 ((S.clock : Int) + 1))).drew.cell? ⟨g, 3, none⟩ = some (.int .i64 ((S.clock : Int) + 1)) := World.cell?_setCell_same' W _ _ (by rw [hc3]; rfl)
     clear hput t1 t2
     go_wp2_with fail
     refine wp_region_held_drew (S := (fun W => W.cell? ⟨g, 3, none⟩ = some (.int .i64 ((S.clock : Int) + 1)))) (by kernel_rfl) hs1 (fun hHeld => ?_)
     refine tq (i := 0) (v := ?vKf0) rfl rfl (by kernel_rfl) (fun _ _ _ h => h) ?yKf0 (by assumption) ?rKf0
     case yKf0 => intro w h; (try dsimp only at h); go_simp; try with_reducible rfl
     try simp only [sA, sB, sC]
     refine tq (i := 1) (v := ?vKf1) rfl rfl (by kernel_rfl) (fun _ _ _ h => h) ?yKf1 (by assumption) ?rKf1
     case yKf1 => intro w h; (try dsimp only at h); go_simp; try with_reducible rfl
     try simp only [sA, sB, sC]
     refine tq (i := 2) (v := ?vKf2) rfl rfl (by kernel_rfl) (fun _ _ _ h => h) ?yKf2 (by assumption) ?rKf2
     case yKf2 => intro w h; (try dsimp only at h); go_simp; try with_reducible rfl
     try simp only [sA, sB, sC]
     refine tq (i := 4) (v := ?vKf4) rfl rfl (by kernel_rfl) (fun _ _ _ h => h) ?yKf4 (by assumption) ?rKf4
     case yKf4 => intro w h; (try dsimp only at h); go_simp; try with_reducible rfl
     try simp only [sA, sB, sC]
     refine tq (i := 6) (v := ?vKf6) rfl rfl (by kernel_rfl) (fun _ _ _ h => h) ?yKf6 (by assumption) ?rKf6
     case yKf6 => intro w h; (try dsimp only at h); go_simp; try with_reducible rfl
     try simp only [sA, sB, sC]
     refine tq (i := 7) (v := ?vKf7) rfl rfl (by kernel_rfl) (fun _ _ _ h => h) ?yKf7 (by assumption) ?rKf7
     case yKf7 => intro w h; (try dsimp only at h); go_simp; try with_reducible rfl
     try simp only [sA, sB, sC]
     refine tq (i := 8) (v := ?vKf8) rfl rfl (by kernel_rfl) (fun _ _ _ h => h) ?yKf8 (by assumption) ?rKf8
     case yKf8 => intro w h; (try dsimp only at h); go_simp; try with_reducible rfl
     try simp only [sA, sB, sC]
     refine tq (i := 9) (v := ?vKf9) rfl rfl (by kernel_rfl) (fun _ _ _ h => h) ?yKf9 (by assumption) ?rKf9
     case yKf9 => intro w h; (try dsimp only at h); go_simp; try with_reducible rfl
     try simp only [sA, sB, sC]
     refine wpAnyH_ready (rs := [3]) (by kernel_rfl) (by simp) ?_
     refine AllReadyH.cons (o := _) rfl (fun K hK => ?_) AllReadyH.nil
     refine step_app_run rfl _ _ rfl rfl rfl rfl r2 ?_
     refine hK.out _ _ hs2 (fun _ => ?_)
     clear hK K
     try simp only [Act.put, sA, sB, sC]
     refine wpAnyH_ready (rs := [5]) (by kernel_rfl) (by simp) ?_
     refine AllReadyH.cons (o := _) rfl (fun K hK => ?_) AllReadyH.nil
     refine step_app_run rfl _ _ rfl rfl rfl rfl r3 ?_
     refine hK.out _ _ hs3 (fun _ => ?_)
     clear hK K
     try simp only [Act.put, sA, sB, sC]
     refine tq (i := 10) (v := ?vKf10) rfl rfl (by kernel_rfl) (fun _ _ _ h => h) ?yKf10 (by assumption) ?rKf10
     case yKf10 => intro w h; (try dsimp only at h); go_simp; try with_reducible rfl
     try simp only [sA, sB, sC]
     refine rq (k := 11) rfl (by kernel_rfl) (by kernel_rfl) (fun K hK => ?_)
     go_simp
     refine HPT.out.mono ?_
     rintro e w' ⟨rfl, hrk, hlast⟩
     have HRK := hide hrk
     clear hrk
     refine hK.out _ _ hlast (fun _ => ?_)
     clear hK K
     try simp only [Act.put, sA, sB, sC]
     refine wpAnyH_done (by kernel_rfl) ?_ _
     go_wp2
     go_ret
     rw [HE.out]
     exact ⟨rfl, RK.pre HBW.out HRK.out⟩
 obtain ⟨k, x, hat, hx, hdt⟩ := HFN.out q (by omega)
 have HE := hide (HR4.out rfl (by omega))
 rw [hat] at HAT0
 rw [show kindM S.m q = 1 by omega] at HKD
 rw [hdt] at HDQ HE
 have HX := hide hx
 obtain ⟨D, hD⟩ : ∃ b, x.2.nd.data = b := ⟨_, rfl⟩
 rw [hD] at HDQ HE
 obtain ⟨m, hm⟩ : ∃ m, D.length = m := ⟨_, rfl⟩
 rw [hm, HUS.out] at HDQ
 rw [hm] at HE
 obtain ⟨B, hB⟩ : ∃ b, x.2.A = b := ⟨_, rfl⟩
 obtain ⟨d, hd⟩ : ∃ b, x.2.c = b := ⟨_, rfl⟩
 have HXD := hide hD
 have HM := hide hm
 have HXA := hide hB
 have HXC := hide hd
 have hmu := HDQ.out
 have hmi : (m : Int) ≤ (us : Int) := by omega
 have hkn : k < n := by rw [← HN.out]; exact (List.getElem?_eq_some_iff.1 hx).1
 have hki : (k : Int) < (n : Int) := by omega
 have hk0 : (0 : Int) ≤ (k : Int) := by omega
 have HDA := hide (fun (W : World) (hb : Below w.heap.size w W) => show RG encB 1 W B D by
   rw [← hD, ← hB]
   exact (H.out.below hb).dat x (List.mem_of_getElem? hx))
 have HDG := hide (show ∀ a, B = some a → D ≠ [] → a.block ≠ g by
   rw [← hD, ← hB]
   exact H.out.neD x (List.mem_of_getElem? hx))
 clear hkl k2 k0 hat hx hdt hD hm hB hd
 cases more with
 | true =>
   have hE := HE.out
   simp only [if_true, Bool.false_eq_true, if_false, HM.out, List.length_nil, List.nil_append, Nat.zero_add] at hE
   have HFULL := hide (fun (h : by_ < bl ∨ by_ < us + bl) => hE.trans (if_neg (by omega)))
   have HOK := hide (fun (h1 : bl ≤ by_) (h : us + bl ≤ by_) => hE.trans (if_pos (by omega)))
   clear hE HE
   have HPUT := hide (fun (h1 : bl ≤ by_) (h : us + bl ≤ by_) (W : World) (hb : Below w.heap.size w W) => HWP.out q B d D W hb (HDA.out W hb) HDG.out Bb cb b (HBB.out W hb) HBG.out (by have := HBL.out; have := HM.out; omega) { Vf.putS S q false (D ++ b) with used := us + (m + bl) - m } rfl rfl rfl rfl)
   rw [HBL.out, HM.out] at HPUT
   have HLL := hide (show (D ++ b).length = m + bl by rw [List.length_append, HBL.out, HM.out])
   rw [HLL.out] at HPUT
   go_wp2_with fail
   refine (HKD.out w1 HB.out).mono ?_
   rintro e w' ⟨rfl, rfl⟩
   have ho := H.out.below HB.out
   have hg := ho.heap
   rw [HN.out] at hg
   have hc2 := cellOf hg (j := 2) (v := .slice A n c) rfl
   obtain ⟨gs, o, rfl, hgs, hc⟩ := ho.rg k x HX.out
   have hc3 : w1.cell? ⟨gs, o + k * 4 + 2, none⟩ = some (.slice x.2.A x.2.nd.data.length x.2.c) := hc 2 _ rfl
   rw [HXD.out, HM.out, HXA.out, HXC.out] at hc3
   have HAT := hide (HAT0.out w1.drew (HB.out.drew))
   clear hc hg ho hgs
   go_wp2_with fail
   go_region_held3 (fun w' => w'.cell? ⟨g, 2, none⟩ = some (.slice (some ⟨gs, o, none⟩) n c) ∧ w'.cell? ⟨gs, o + k * 4 + 2, none⟩ = some (.slice B m d))
     (exact ⟨hc2, hc3⟩)
     ((go_at_call 113; refine HAT.out.mono ?_; rintro e w' ⟨rfl, rfl⟩))
   have HBW := hide HB.out.drew
   clear hc2 hc3
   obtain ⟨W, hW⟩ : ∃ W, w1.drew = W := ⟨_, rfl⟩
   rw [hW] at HBW ⊢
   clear hW
   go_wp2_with fail
   refine (HSZ.out W HBW.out).mono ?_
   rintro e w' ⟨rfl, rfl⟩
   have hgW := (H.out.below HBW.out).heap
   rw [HN.out] at hgW
   have hc1 := cellOf hgW (j := 1) (v := .int .i64 S.bytes) rfl
   rw [HBY.out] at hc1
   have hc3 := cellOf hgW (j := 3) (v := .int .i64 S.clock) rfl
   have hf3 := freeOf hgW 3
   clear hgW
   by_cases t1 : by_ < bl
   · have HE := hide (HFULL.out (.inl t1))
     have t1i : (by_ : Int) < (bl : Int) := by omega
     go_wp2
     go_ret
     rw [HE.out]
     exact ⟨rfl, RK.stay H.out HBW.out⟩
   have t1i : ¬ (by_ : Int) < (bl : Int) := by omega
   by_cases t2 : by_ < us + bl
   · have HE := hide (HFULL.out (.inr t2))
     have t2i : (by_ : Int) < (us : Int) + (bl : Int) := by omega
     have t2j : (by_ : Int) < (us : Int) - (m : Int) + (m : Int) + (bl : Int) := by omega
     go_wp2
     go_ret
     rw [HE.out]
     exact ⟨rfl, RK.stay H.out HBW.out⟩
   have t2i : ¬ (by_ : Int) < (us : Int) + (bl : Int) := by omega
   have t2j : ¬ (by_ : Int) < (us : Int) - (m : Int) + (m : Int) + (bl : Int) := by omega
   have HE := hide (HOK.out (by omega) (by omega))
   obtain ⟨v2, w2, A3, c3, w3, r2, r3, hs2, hs3, hput⟩ := HPUT.out (by omega) (by omega) W HBW.out
   have HPT := hide hput
   have hs1 : (W.setCell ⟨g, 3, none⟩ (.int .i64 ((S.clock : Int) + 1))).drew.cell? ⟨g, 3, none⟩ = some (.int .i64 ((S.clock : Int) + 1)) := World.cell?_setCell_same' W _ _ (by rw [hc3]; rfl)
   clear hput t1 t2
   go_wp2_with fail
   refine wp_region_held_drew (S := (fun W => W.cell? ⟨g, 3, none⟩ = some (.int .i64 ((S.clock : Int) + 1)))) (by kernel_rfl) hs1 (fun hHeld => ?_)
   refine tq (i := 0) (v := ?vOt0) rfl rfl (by kernel_rfl) (fun _ _ _ h => h) ?yOt0 (by assumption) ?rOt0
   case yOt0 => intro w h; (try dsimp only at h); go_simp; try with_reducible rfl
   try simp only [sA, sB, sC]
   refine tq (i := 1) (v := ?vOt1) rfl rfl (by kernel_rfl) (fun _ _ _ h => h) ?yOt1 (by assumption) ?rOt1
   case yOt1 => intro w h; (try dsimp only at h); go_simp; try with_reducible rfl
   try simp only [sA, sB, sC]
   refine tq (i := 2) (v := ?vOt2) rfl rfl (by kernel_rfl) (fun _ _ _ h => h) ?yOt2 (by assumption) ?rOt2
   case yOt2 => intro w h; (try dsimp only at h); go_simp; try with_reducible rfl
   try simp only [sA, sB, sC]
   refine tq (i := 4) (v := ?vOt4) rfl rfl (by kernel_rfl) (fun _ _ _ h => h) ?yOt4 (by assumption) ?rOt4
   case yOt4 => intro w h; (try dsimp only at h); go_simp; try with_reducible rfl
   try simp only [sA, sB, sC]
   refine tq (i := 6) (v := ?vOt6) rfl rfl (by kernel_rfl) (fun _ _ _ h => h) ?yOt6 (by assumption) ?rOt6
   case yOt6 => intro w h; (try dsimp only at h); go_simp; try with_reducible rfl
   try simp only [sA, sB, sC]
   refine tq (i := 7) (v := ?vOt7) rfl rfl (by kernel_rfl) (fun _ _ _ h => h) ?yOt7 (by assumption) ?rOt7
   case yOt7 => intro w h; (try dsimp only at h); go_simp; try with_reducible rfl
   try simp only [sA, sB, sC]
   refine tq (i := 8) (v := ?vOt8) rfl rfl (by kernel_rfl) (fun _ _ _ h => h) ?yOt8 (by assumption) ?rOt8
   case yOt8 => intro w h; (try dsimp only at h); go_simp; try with_reducible rfl
   try simp only [sA, sB, sC]
   refine tq (i := 9) (v := ?vOt9) rfl rfl (by kernel_rfl) (fun _ _ _ h => h) ?yOt9 (by assumption) ?rOt9
   case yOt9 => intro w h; (try dsimp only at h); go_simp; try with_reducible rfl
   try simp only [sA, sB, sC]
   refine wpAnyH_ready (rs := [3]) (by kernel_rfl) (by simp) ?_
   refine AllReadyH.cons (o := _) rfl (fun K hK => ?_) AllReadyH.nil
   refine step_app_run rfl _ _ rfl rfl rfl rfl r2 ?_
   refine hK.out _ _ hs2 (fun _ => ?_)
   clear hK K
   try simp only [Act.put, sA, sB, sC]
   refine wpAnyH_ready (rs := [5]) (by kernel_rfl) (by simp) ?_
   refine AllReadyH.cons (o := _) rfl (fun K hK => ?_) AllReadyH.nil
   refine step_app_run rfl _ _ rfl rfl rfl rfl r3 ?_
   refine hK.out _ _ hs3 (fun _ => ?_)
   clear hK K
   try simp only [Act.put, sA, sB, sC]
   refine tq (i := 10) (v := ?vOt10) rfl rfl (by kernel_rfl) (fun _ _ _ h => h) ?yOt10 (by assumption) ?rOt10
   case yOt10 => intro w h; (try dsimp only at h); go_simp; try with_reducible rfl
   try simp only [sA, sB, sC]
   refine rq (k := 11) rfl (by kernel_rfl) (by kernel_rfl) (fun K hK => ?_)
   go_simp
   refine HPT.out.mono ?_
   rintro e w' ⟨rfl, hrk, hlast⟩
   have HRK := hide hrk
   clear hrk
   refine hK.out _ _ hlast (fun _ => ?_)
   clear hK K
   try simp only [Act.put, sA, sB, sC]
   refine wpAnyH_done (by kernel_rfl) ?_ _
   go_wp2
   go_ret
   rw [HE.out]
   exact ⟨rfl, RK.pre HBW.out HRK.out⟩
 | false =>
   have hE := HE.out
   simp only [if_true, Bool.false_eq_true, if_false, HM.out, List.length_nil, List.nil_append, Nat.zero_add] at hE
   have HFULL := hide (fun (h : by_ < bl ∨ by_ < us - m + bl) => hE.trans (if_neg (by omega)))
   have HOK := hide (fun (h1 : bl ≤ by_) (h : us - m + bl ≤ by_) => hE.trans (if_pos (by omega)))
   clear hE HE
   have HPUT := hide (fun (h1 : bl ≤ by_) (h : us - m + bl ≤ by_) (W : World) (hb : Below w.heap.size w W) => HWP.out q none 0 [] W hb (fun k x hk => by simp at hk) (fun a e => by cases e) Bb cb b (HBB.out W hb) HBG.out (by simp; have := HBL.out; omega) { Vf.putS S q false b with used := us + bl - m } rfl rfl rfl rfl)
   rw [List.nil_append, HBL.out, List.length_nil] at HPUT
   go_wp2_with fail
   refine (HKD.out w1 HB.out).mono ?_
   rintro e w' ⟨rfl, rfl⟩
   have ho := H.out.below HB.out
   have hg := ho.heap
   rw [HN.out] at hg
   have hc2 := cellOf hg (j := 2) (v := .slice A n c) rfl
   obtain ⟨gs, o, rfl, hgs, hc⟩ := ho.rg k x HX.out
   have hc3 : w1.cell? ⟨gs, o + k * 4 + 2, none⟩ = some (.slice x.2.A x.2.nd.data.length x.2.c) := hc 2 _ rfl
   rw [HXD.out, HM.out, HXA.out, HXC.out] at hc3
   have HAT := hide (HAT0.out w1.drew (HB.out.drew))
   clear hc hg ho hgs
   go_wp2_with fail
   go_region_held3 (fun w' => w'.cell? ⟨g, 2, none⟩ = some (.slice (some ⟨gs, o, none⟩) n c) ∧ w'.cell? ⟨gs, o + k * 4 + 2, none⟩ = some (.slice B m d))
     (exact ⟨hc2, hc3⟩)
     ((go_at_call 113; refine HAT.out.mono ?_; rintro e w' ⟨rfl, rfl⟩))
   have HBW := hide HB.out.drew
   clear hc2 hc3
   obtain ⟨W, hW⟩ : ∃ W, w1.drew = W := ⟨_, rfl⟩
   rw [hW] at HBW ⊢
   clear hW
   go_wp2_with fail
   refine (HSZ.out W HBW.out).mono ?_
   rintro e w' ⟨rfl, rfl⟩
   have hgW := (H.out.below HBW.out).heap
   rw [HN.out] at hgW
   have hc1 := cellOf hgW (j := 1) (v := .int .i64 S.bytes) rfl
   rw [HBY.out] at hc1
   have hc3 := cellOf hgW (j := 3) (v := .int .i64 S.clock) rfl
   have hf3 := freeOf hgW 3
   clear hgW
   by_cases t1 : by_ < bl
   · have HE := hide (HFULL.out (.inl t1))
     have t1i : (by_ : Int) < (bl : Int) := by omega
     go_wp2
     go_ret
     rw [HE.out]
     exact ⟨rfl, RK.stay H.out HBW.out⟩
   have t1i : ¬ (by_ : Int) < (bl : Int) := by omega
   by_cases t2 : by_ < us - m + bl
   · have HE := hide (HFULL.out (.inr t2))
     have t2i : (by_ : Int) < (us : Int) - (m : Int) + (bl : Int) := by omega
     go_wp2
     go_ret
     rw [HE.out]
     exact ⟨rfl, RK.stay H.out HBW.out⟩
   have t2i : ¬ (by_ : Int) < (us : Int) - (m : Int) + (bl : Int) := by omega
   have HE := hide (HOK.out (by omega) (by omega))
   obtain ⟨v2, w2, A3, c3, w3, r2, r3, hs2, hs3, hput⟩ := HPUT.out (by omega) (by omega) W HBW.out
   have HPT := hide hput
   have hs1 : (W.setCell ⟨g, 3, none⟩ (.int .i64 ((S.clock : Int) + 1))).drew.cell? ⟨g, 3, none⟩ = some (.int .i64 ((S.clock : Int) + 1)) := World.cell?_setCell_same' W _ _ (by rw [hc3]; rfl)
   clear hput t1 t2
   go_wp2_with fail
   refine wp_region_held_drew (S := (fun W => W.cell? ⟨g, 3, none⟩ = some (.int .i64 ((S.clock : Int) + 1)))) (by kernel_rfl) hs1 (fun hHeld => ?_)
   refine tq (i := 0) (v := ?vOf0) rfl rfl (by kernel_rfl) (fun _ _ _ h => h) ?yOf0 (by assumption) ?rOf0
   case yOf0 => intro w h; (try dsimp only at h); go_simp; try with_reducible rfl
   try simp only [sA, sB, sC]
   refine tq (i := 1) (v := ?vOf1) rfl rfl (by kernel_rfl) (fun _ _ _ h => h) ?yOf1 (by assumption) ?rOf1
   case yOf1 => intro w h; (try dsimp only at h); go_simp; try with_reducible rfl
   try simp only [sA, sB, sC]
   refine tq (i := 2) (v := ?vOf2) rfl rfl (by kernel_rfl) (fun _ _ _ h => h) ?yOf2 (by assumption) ?rOf2
   case yOf2 => intro w h; (try dsimp only at h); go_simp; try with_reducible rfl
   try simp only [sA, sB, sC]
   refine tq (i := 4) (v := ?vOf4) rfl rfl (by kernel_rfl) (fun _ _ _ h => h) ?yOf4 (by assumption) ?rOf4
   case yOf4 => intro w h; (try dsimp only at h); go_simp; try with_reducible rfl
   try simp only [sA, sB, sC]
   refine tq (i := 6) (v := ?vOf6) rfl rfl (by kernel_rfl) (fun _ _ _ h => h) ?yOf6 (by assumption) ?rOf6
   case yOf6 => intro w h; (try dsimp only at h); go_simp; try with_reducible rfl
   try simp only [sA, sB, sC]
   refine tq (i := 7) (v := ?vOf7) rfl rfl (by kernel_rfl) (fun _ _ _ h => h) ?yOf7 (by assumption) ?rOf7
   case yOf7 => intro w h; (try dsimp only at h); go_simp; try with_reducible rfl
   try simp only [sA, sB, sC]
   refine tq (i := 8) (v := ?vOf8) rfl rfl (by kernel_rfl) (fun _ _ _ h => h) ?yOf8 (by assumption) ?rOf8
   case yOf8 => intro w h; (try dsimp only at h); go_simp; try with_reducible rfl
   try simp only [sA, sB, sC]
   refine tq (i := 9) (v := ?vOf9) rfl rfl (by kernel_rfl) (fun _ _ _ h => h) ?yOf9 (by assumption) ?rOf9
   case yOf9 => intro w h; (try dsimp only at h); go_simp; try with_reducible rfl
   try simp only [sA, sB, sC]
   refine wpAnyH_ready (rs := [3]) (by kernel_rfl) (by simp) ?_
   refine AllReadyH.cons (o := _) rfl (fun K hK => ?_) AllReadyH.nil
   refine step_app_run rfl _ _ rfl rfl rfl rfl r2 ?_
   refine hK.out _ _ hs2 (fun _ => ?_)
   clear hK K
   try simp only [Act.put, sA, sB, sC]
   refine wpAnyH_ready (rs := [5]) (by kernel_rfl) (by simp) ?_
   refine AllReadyH.cons (o := _) rfl (fun K hK => ?_) AllReadyH.nil
   refine step_app_run rfl _ _ rfl rfl rfl rfl r3 ?_
   refine hK.out _ _ hs3 (fun _ => ?_)
   clear hK K
   try simp only [Act.put, sA, sB, sC]
   refine tq (i := 10) (v := ?vOf10) rfl rfl (by kernel_rfl) (fun _ _ _ h => h) ?yOf10 (by assumption) ?rOf10
   case yOf10 => intro w h; (try dsimp only at h); go_simp; try with_reducible rfl
   try simp only [sA, sB, sC]
   refine rq (k := 11) rfl (by kernel_rfl) (by kernel_rfl) (fun K hK => ?_)
   go_simp
   refine HPT.out.mono ?_
   rintro e w' ⟨rfl, hrk, hlast⟩
   have HRK := hide hrk
   clear hrk
   refine hK.out _ _ hlast (fun _ => ?_)
   clear hK K
   try simp only [Act.put, sA, sB, sC]
   refine wpAnyH_done (by kernel_rfl) ?_ _
   go_wp2
   go_ret
   rw [HE.out]
   exact ⟨rfl, RK.pre HBW.out HRK.out⟩
end
section
open Go.RowKit Go.Deep Go.Maps Ln Pth Vf
attribute [local go_sem] bt_eq
theorem put_rk (g : Nat) (S1 : St) (A : Option Addr) (c : Nat) (P : List NV) (x : NV) (w3 : World) (h : RSO g S1 A c P w3) (hl : P.length ≤ 10000) (S' : St) (hm : S'.m = putG (x.1, x.2.nd) S1.m) (h1 : S'.nodes = S1.nodes) (h2 : S'.bytes = S1.bytes) (h3 : S'.clock = S1.clock)
   (hx : RG encB 1 w3 x.2.A x.2.nd.data) (hxg : ∀ a, x.2.A = some a → x.2.nd.data ≠ [] → a.block ≠ g) (hxl : x.2.nd.data.length ≤ x.2.c) :
   Calls Tryz.prog 115 #[.pointer (some ⟨g, 0, none⟩), .agg (encE x).toArray] w3 fun e w' => e = .returned (.tuple #[]) ∧ ∃ A' c', RSO g S' A' c' (putG x P) w' ∧ Kp w3 w' (fun k => k = g) ∧ ∀ a, A' = some a → w3.heap.size ≤ a.block := by
 refine (rput_any g S1 A c P x w3 h hl).mono ?_
 rintro e w' ⟨rfl, A', c', hg', hc', hr', hA', hgb⟩
 have hk' := Kp.ofGb hgb
 exact ⟨rfl, A', c', RSO.putted h hm (by rw [hg', h1, h2, h3]) hc' hr' hA' hk' hx hxg hxl, hk', hA'⟩
theorem mkdirS_bad {S : St} {p : T} (h : (absS S p).2 ≠ 0) : mkdirS S p = (S, (absS S p).2) := by
 unfold mkdirS
 rw [if_pos h]
theorem mkdirS_there {S : St} {p : T} (h : (absS S p).2 = 0) (hk : kindM S.m (absS S p).1 ≠ 0) : mkdirS S p = (S, 12) := by
 unfold mkdirS
 rw [if_neg (by simp [h]), if_pos hk]
theorem mkdirS_new {S : St} {p : T} (hS : WfS S) (h : (absS S p).2 = 0) (hk : kindM S.m (absS S p).1 = 0) : mkdirS S p = if S.m.length + 1 ≤ S.nodes then (Vf.putS S (absS S p).1 true [], 0) else (S, 13) := by
 unfold mkdirS
 have hb := hS.bytes
 rw [if_neg (by simp [h]), if_neg (by simp [hk])]
 by_cases hc : S.m.length + 1 ≤ S.nodes
 · rw [if_pos ⟨hc, hb⟩, if_pos hc]
 · rw [if_neg (fun h => hc h.1), if_neg hc]
theorem rmkdir4_any (g : Nat) (S : St) (A : Option Addr) (c : Nat) (P : List NV) (p : T) (w : World) (h : RSO g S A c P w) (hS : WfS S) (hp : p.length ≤ 100000) (hck : S.clock ≤ 1000000000) :
   Calls Tryz.prog 62 #[.pointer (some ⟨g, 0, none⟩), .string (bs p)] w fun e w' => e = .returned (.int .i64 (mkdirS S p).2) ∧ RK g (mkdirS S p).1 w A P w' := by
 have hl := row_len hS h.eq
 have HF := hide (rfind_abs g S A c P p w h (by omega) hp)
 have H := hide h
 have HKD0 := hide (fun (q : T) (W : World) (hb : Below w.heap.size w W) => rkind_any g S A c P q W (h.below hb) (by omega))
 have hml : S.m.length = P.length := by rw [h.eq, stripN_len]
 have hn10 := hS.n10
 have HR1 := hide (mkdirS_bad (S := S) (p := p))
 have HR2 := hide (mkdirS_there (S := S) (p := p))
 have HR3 := hide (mkdirS_new (S := S) (p := p) hS)
 have HPUT := hide (fun (q : T) (W : World) (hb : Below w.heap.size w W) => put_rk g { S with clock := S.clock + 1 } A c P (bs q, ⟨none, 0, ⟨true, [], S.clock + 1⟩⟩) (W.setCell ⟨g, 3, none⟩ (.int .i64 ((S.clock : Int) + 1))) ((h.below hb).tick (S.clock + 1)) hl (Vf.putS S q true []) rfl rfl rfl rfl (RG.nil _ _) (fun a e _ => by cases e) (Nat.le_refl _))
 obtain ⟨r, hr⟩ : ∃ r, absS S p = r := ⟨_, rfl⟩
 obtain ⟨q0, e⟩ := r
 rw [hr] at HF HR1 HR2 HR3
 dsimp only at HF HR1 HR2 HR3
 obtain ⟨R, hR⟩ : ∃ R, mkdirS S p = R := ⟨_, rfl⟩
 rw [hR] at HR1 HR2 HR3 ⊢
 obtain ⟨n, hn⟩ : ∃ n, P.length = n := ⟨_, rfl⟩
 rw [hml, hn] at HR3
 rw [hn] at hl
 have HN := hide hn
 have hci : (S.clock : Int) ≤ 1000000000 := by omega
 have hni : (n : Int) ≤ 10000 := by omega
 have hnd : (S.nodes : Int) ≤ 10000 := by omega
 clear hr hR h hp hS hn hml
 go_enter Tryz.func62, Tryz.ntmps62
 go_wp2_with fail
 refine HF.out.mono ?_
 rintro e1 w1 ⟨q, rfl, hq, hql, hb⟩
 have HB := hide hb
 clear hb hql
 by_cases c1 : e = 0
 case neg =>
   obtain ⟨t1, t2⟩ := ne0 c1
   have HE := hide (HR1.out c1)
   clear c1 hq
   go_wp2
   go_ret
   rw [HE.out]
   exact ⟨rfl, RK.stay H.out HB.out⟩
 subst c1
 have hq1 := hq rfl
 subst hq1
 have HKD := hide (HKD0.out q)
 clear hq HF
 obtain ⟨y, hy⟩ : ∃ y, kindM S.m q = y := ⟨_, rfl⟩
 rw [hy] at HKD HR2 HR3
 clear hy
 by_cases k0 : y = 0
 case neg =>
   have HE := hide (HR2.out rfl k0)
   have hyi : (0 : Int) < (y : Int) := by omega
   obtain ⟨t1, t2⟩ := ne0 k0
   clear k0
   go_wp2_with fail
   refine (HKD.out w1 HB.out).mono ?_
   rintro e w' ⟨rfl, rfl⟩
   go_wp2
   go_ret
   rw [HE.out]
   exact ⟨rfl, RK.stay H.out HB.out⟩
 subst k0
 have HE0 := hide (HR3.out rfl rfl)
 have ho := H.out.below HB.out
 have hg := ho.heap
 rw [HN.out] at hg
 have hc2 := cellOf hg (j := 2) (v := .slice A n c) rfl
 have hc0 := cellOf hg (j := 0) (v := .int .i64 S.nodes) rfl
 clear ho hg
 by_cases c3 : S.nodes ≤ n
 · have hni2 : (S.nodes : Int) ≤ (n : Int) := by omega
   have HE := hide (HE0.out.trans (if_neg (by omega)))
   go_wp2_with fail
   refine (HKD.out w1 HB.out).mono ?_
   rintro e w' ⟨rfl, rfl⟩
   go_wp2_with fail
   go_quiet (fail)
   go_wp2
   go_ret
   rw [HE.out]
   exact ⟨rfl, RK.stay H.out (below_drewN HB.out _)⟩
 · have hni2 : ¬ (S.nodes : Int) ≤ (n : Int) := by omega
   have HE := hide (HE0.out.trans (if_pos (by omega)))
   go_wp2_with fail
   refine (HKD.out w1 HB.out).mono ?_
   rintro e w' ⟨rfl, rfl⟩
   go_wp2_with fail
   go_quiet (fail)
   have HBW := hide (below_drewN HB.out nq)
   clear hc2 hc0
   obtain ⟨W, hW⟩ : ∃ W, w1.drewN nq = W := ⟨_, rfl⟩
   rw [hW] at HBW ⊢
   have hgW := (H.out.below HBW.out).heap
   have hc3 := cellOf hgW (j := 3) (v := .int .i64 S.clock) rfl
   have hf3 := freeOf hgW 3
   have hs1 : (W.setCell ⟨g, 3, none⟩ (.int .i64 ((S.clock : Int) + 1))).cell? ⟨g, 3, none⟩ = some (.int .i64 ((S.clock : Int) + 1)) := World.cell?_setCell_same' _ _ _ (by rw [hc3]; rfl)
   have HPT := hide (HPUT.out q W HBW.out)
   clear hgW hW
   go_wp2_with fail
   refine HPT.out.mono ?_
   rintro e w' ⟨rfl, A', c', ho', hk', hA'⟩
   have HO := hide ho'
   have HK := hide hk'
   have HA := hide hA'
   clear ho' hk' hA'
   go_wp2
   go_ret
   rw [HE.out]
   have hk1 : Kp w W (fun k => k = g) := Kp.of_below HBW.out _
   have hk2 : Kp w (W.setCell ⟨g, 3, none⟩ (.int .i64 ((S.clock : Int) + 1))) (fun k => k = g) := hk1.then (Kp.set W g 3 _)
   refine ⟨rfl, A', c', _, HO.out, hk2.then HK.out, fun a e _ => .inl (by have := HA.out a e; have := hk2.size; omega), fun x hx a e hn => ?_⟩
   rcases mem_putG hx with rfl | hx
   · cases e
   · exact .inr ⟨x, hx, e, hn⟩
theorem touchS_bad {S : St} {p : T} (h : (absS S p).2 ≠ 0) : touchS S p = (S, (absS S p).2) := by
 unfold touchS
 rw [if_pos h]
theorem touchS_root {S : St} {p : T} (h : (absS S p).2 = 0) (hr : (absS S p).1 = [47]) : touchS S p = (S, 0) := by
 unfold touchS
 rw [if_neg (by simp [h]), if_pos hr]
theorem touchS_new {S : St} {p : T} (h : (absS S p).2 = 0) (hr : (absS S p).1 ≠ [47]) (hg : getG S.m (bs (absS S p).1) = none) : touchS S p = writeS S p [] false := by
 unfold touchS
 rw [if_neg (by simp [h]), if_neg hr, hg]
theorem touchS_old {S : St} {p : T} (h : (absS S p).2 = 0) (hr : (absS S p).1 ≠ [47]) {n : Nd} (hg : getG S.m (bs (absS S p).1) = some n) : touchS S p = (Vf.putS S (absS S p).1 n.dir n.data, 0) := by
 unfold touchS
 rw [if_neg (by simp [h]), if_neg hr, hg]
theorem putG_set {α : Type} {P : KV α} (hr : RiseG P) {k : Nat} {x y : ByteArray × α} (hk : P[k]? = some y) (he : y.1 = x.1) : putG x P = P.set k x := by
 have hlt := (List.getElem?_eq_some_iff.1 hk).1
 rw [putG_at P k (by omega) (fun j z hj hz => ?_) (fun z hz => ?_), hk]
 · dsimp only
   rw [if_pos he, List.set_eq_take_append_cons_drop, if_pos hlt, List.append_assoc]
   rfl
 · have hj2 := (List.getElem?_eq_some_iff.1 hz).2
   have hk2 := (List.getElem?_eq_some_iff.1 hk).2
   have := List.pairwise_iff_getElem.1 hr j k (by omega) hlt hj
   rw [hj2, hk2, he] at this
   exact this
 · rw [hk] at hz
   injection hz with hz
   rw [← hz, he, sLt_irr]
theorem RG.setT {w : World} {P : List NV} {ga : Nat} (h : RG encE 4 w (some ⟨ga, 0, none⟩) P) {k : Nat} {x : NV} (hk : P[k]? = some x) (t : Nat) :
   RG encE 4 (w.setCell ⟨ga, k * 4 + 3, none⟩ (.int .i64 t)) (some ⟨ga, 0, none⟩) (P.set k (x.1, ⟨x.2.A, x.2.c, ⟨x.2.nd.dir, x.2.nd.data, t⟩⟩)) := by
 have hx3 : w.cell? ⟨ga, k * 4 + 3, none⟩ = some (.int .i64 x.2.nd.time) := by
   obtain ⟨g, o, e, _, h1⟩ := h k x hk
   injection e with e
   injection e with e1 e2
   subst e1 e2
   have := h1 3 _ rfl
   simpa using this
 intro j y hj
 rw [List.getElem?_set] at hj
 by_cases e : k = j
 · subst e
   rw [if_pos rfl] at hj
   split at hj
   · injection hj with hj
     subst hj
     obtain ⟨g, o, e, hg, h1⟩ := h k x hk
     injection e with e
     injection e with e1 e2
     subst e1 e2
     refine ⟨ga, 0, rfl, by simpa using hg, fun i v hi => ?_⟩
     have hi4 := (List.getElem?_eq_some_iff.1 hi).1
     rw [encE_len] at hi4
     by_cases e3 : i = 3
     · subst e3
       have hv : v = .int .i64 t := by simpa [encE] using hi.symm
       subst hv
       rw [Nat.zero_add]
       exact World.cell?_setCell_same' _ _ _ (by rw [hx3]; rfl)
     · rw [World.cell?_setCell_other w _ _ _ (by intro e; injection e; omega)]
       refine h1 i v ?_
       rw [← hi]
       rcases i with _ | _ | _ | _ | i
       · rfl
       · rfl
       · rfl
       · exact absurd rfl e3
       · omega
   · cases hj
 · rw [if_neg e] at hj
   obtain ⟨g, o, e2, hg, h1⟩ := h j y hj
   refine ⟨g, o, e2, by simpa using hg, fun i v hi => ?_⟩
   have hi4 := (List.getElem?_eq_some_iff.1 hi).1
   rw [encE_len] at hi4
   injection e2 with e2
   injection e2 with e1 e3
   subst e1 e3
   rw [World.cell?_setCell_other w _ _ _ (by intro e4; injection e4; omega)]
   exact h1 i v hi
theorem strip_set (P : List NV) (k : Nat) (x : NV) : stripN (P.set k x) = (stripN P).set k (x.1, x.2.nd) := by
 unfold stripN
 rw [List.map_set]
theorem rtouch4_any (g : Nat) (S : St) (A : Option Addr) (c : Nat) (P : List NV) (p : T) (w : World) (h : RSO g S A c P w) (hS : WfS S) (hp : p.length ≤ 100000) (hby : S.bytes ≤ 400000) (hck : S.clock ≤ 1000000000) :
   Calls Tryz.prog 66 #[.pointer (some ⟨g, 0, none⟩), .string (bs p)] w fun e w' => e = .returned (.int .i64 (touchS S p).2) ∧ RK g (touchS S p).1 w A P w' := by
 have hl := row_len hS h.eq
 have HF := hide (rfind_abs g S A c P p w h (by omega) hp)
 have H := hide h
 have HAT0 := hide (fun (q : T) (W : World) (hb : Below w.heap.size w W) => rat4_any g S A c P (bs q) W (h.below hb) (by omega))
 have HWR := hide (fun (W : World) (hb : Below w.heap.size w W) => rwrite4_any g S A c P p none 0 [] false W (h.below hb) hS hp hby hck (by simp) (RG.nil _ _) (fun a e => by cases e))
 have HCS := hide (fun (q : T) => atN_cases P (bs q))
 have hrise : RiseG P := strip_rise.1 (h.eq ▸ hS.rise)
 have HRI := hide hrise
 have HR1 := hide (touchS_bad (S := S) (p := p))
 have HR2 := hide (touchS_root (S := S) (p := p))
 have HR3 := hide (touchS_new (S := S) (p := p))
 have HR4 := hide (fun h1 h2 n h3 => touchS_old (S := S) (p := p) h1 h2 (n := n) h3)
 obtain ⟨r, hr⟩ : ∃ r, absS S p = r := ⟨_, rfl⟩
 obtain ⟨q0, e⟩ := r
 rw [hr] at HF HR1 HR2 HR3 HR4
 dsimp only at HF HR1 HR2 HR3 HR4
 obtain ⟨R, hR⟩ : ∃ R, touchS S p = R := ⟨_, rfl⟩
 rw [hR] at HR1 HR2 HR3 HR4 ⊢
 obtain ⟨n, hn⟩ : ∃ n, P.length = n := ⟨_, rfl⟩
 rw [hn] at hl
 have HN := hide hn
 have hci : (S.clock : Int) ≤ 1000000000 := by omega
 have hni : (n : Int) ≤ 10000 := by omega
 clear hr hR h hS hn hrise hp hby
 go_enter Tryz.func66, Tryz.ntmps66
 go_wp2_with fail
 refine HF.out.mono ?_
 rintro e1 w1 ⟨q, rfl, hq, hql, hb⟩
 have HB := hide hb
 clear hb hql
 by_cases c1 : e = 0
 case neg =>
   obtain ⟨t1, t2⟩ := ne0 c1
   have HE := hide (HR1.out c1)
   clear c1 hq
   go_wp2
   go_ret
   rw [HE.out]
   exact ⟨rfl, RK.stay H.out HB.out⟩
 subst c1
 have hq1 := hq rfl
 subst hq1
 have HAT := hide (HAT0.out q)
 clear hq HF
 by_cases q1 : q = [47]
 · have ht : ((bs q).toList == [47]) = true := by rw [bs_toList, q1]; rfl
   have HE := hide (HR2.out rfl q1)
   clear q1
   go_wp2_with fail
   refine (HAT.out w1 HB.out).mono ?_
   rintro e w' ⟨rfl, rfl⟩
   go_wp2
   go_ret
   rw [HE.out]
   exact ⟨rfl, RK.stay H.out HB.out⟩
 have ht : ((bs q).toList == [47]) = false := by rw [bs_toList]; simpa using q1
 rcases HCS.out q with ⟨ha, hgt⟩ | ⟨k, x, ha, hx, hxq, hgt⟩
 · rw [ha] at HAT
   have HE := hide (HR3.out rfl q1 (by rw [H.out.eq]; exact hgt))
   clear q1 ha hgt
   go_wp2_with fail
   refine (HAT.out w1 HB.out).mono ?_
   rintro e w' ⟨rfl, rfl⟩
   go_wp2_with fail
   refine (HWR.out w1 HB.out).mono ?_
   rintro e w2 ⟨rfl, hrk⟩
   have HRK := hide hrk
   clear hrk
   go_wp2
   go_ret
   rw [HE.out]
   exact ⟨rfl, RK.pre HB.out HRK.out⟩
 · rw [ha] at HAT
   have HE := hide (HR4.out rfl q1 x.2.nd (by rw [H.out.eq]; exact hgt))
   have hkn : k < n := by rw [← HN.out]; exact (List.getElem?_eq_some_iff.1 hx).1
   have hki : (k : Int) < (n : Int) := by omega
   have hk0 : (0 : Int) ≤ (k : Int) := by omega
   have d0 : ¬ (k : Int) < 0 := by omega
   have hgW := (H.out.below HB.out).heap
   rw [HN.out] at hgW
   have hgl := (Array.getElem?_eq_some_iff.1 hgW).1
   have hc3 := cellOf hgW (j := 3) (v := .int .i64 S.clock) rfl
   have hf3 := freeOf hgW 3
   have hwt := (H.out.below HB.out).tick (S.clock + 1)
   rw [show ((S.clock + 1 : Nat) : Int) = (S.clock : Int) + 1 from rfl] at hwt
   obtain ⟨wt, hwte⟩ : ∃ W, w1.setCell ⟨g, 3, none⟩ (.int .i64 ((S.clock : Int) + 1)) = W := ⟨_, rfl⟩
   have hkt : Kp w1 wt (fun k => k = g) := hwte ▸ Kp.set w1 g 3 _
   rw [hwte] at hwt
   obtain ⟨v2, w2, r2, o2, g2, b2⟩ := run_appG rowN encE_len encE_one (c := c) (OwnG.nil wt wt.heap.size) hwt.rg (Nat.le_refl _) (by simp; have := HN.out; omega)
   have hb2 : Below wt.heap.size wt w2 := Below.of_gb g2 (Nat.le_refl _) (fun k hk => by cases hk)
   rw [List.nil_append] at o2
   have ho2 := hwt.below hb2
   obtain ⟨ga, cap, cur, e2, hga, hh, hcp, _⟩ := o2.2.resolve_left (fun h => by have := h.2; have := HN.out; omega)
   subst e2
   have hro : RG encE 4 w2 (some ⟨ga, 0, none⟩) P := by
     obtain ⟨A', c', e, hc, hr, _, _⟩ := o2.slice encE_len
     injection e with e1 e2 e3
     rw [e1]
     exact hr
   have hgne : ga ≠ g := by
     have := (Array.getElem?_eq_some_iff.1 hwt.heap).1
     omega
   have hgt2 := ho2.heap
   rw [HN.out] at hgt2
   have hd3 := cellOf hgt2 (j := 3) (v := .int .i64 ((S.clock : Int) + 1)) rfl
   have hd2 := cellOf hgt2 (j := 2) (v := .slice A n c) rfl
   have hwc2 := cellOf (HN.out ▸ hwt.heap) (j := 2) (v := .slice A n c) rfl
   have hx3 : w2.cell? ⟨ga, k * 4 + 3, none⟩ = some (.int .i64 x.2.nd.time) := by
     obtain ⟨g', o', e, _, h1⟩ := hro k x hx
     injection e with e
     injection e with e1 e2
     subst e1 e2
     have := h1 3 _ rfl
     simpa using this
   have hxf : w2.frozen? ⟨ga, k * 4 + 3, none⟩ = false := freeOf hh _
   have hset := hro.setT hx (S.clock + 1)
   rw [show ((S.clock + 1 : Nat) : Int) = (S.clock : Int) + 1 from rfl] at hset
   have hk3 : Kp w2 (w2.setCell ⟨ga, k * 4 + 3, none⟩ (.int .i64 ((S.clock : Int) + 1))) (fun k => k = ga) := Kp.set w2 ga _ _
   have hb3 : Below wt.heap.size wt (w2.setCell ⟨ga, k * 4 + 3, none⟩ (.int .i64 ((S.clock : Int) + 1))) := hb2.setCell (p := ⟨ga, k * 4 + 3, none⟩) hga _
   obtain ⟨w3, hw3⟩ : ∃ W, w2.setCell ⟨ga, k * 4 + 3, none⟩ (.int .i64 ((S.clock : Int) + 1)) = W := ⟨_, rfl⟩
   rw [hw3] at hset hk3 hb3
   have ho3 := hwt.below hb3
   have hgt3 := ho3.heap
   rw [HN.out] at hgt3
   have hq2 := cellOf hgt3 (j := 2) (v := .slice A n c) rfl
   have hqf := freeOf hgt3 2
   have hk4 : Kp w3 (w3.setCell ⟨g, 2, none⟩ (.slice (some ⟨ga, 0, none⟩) n cap)) (fun k => k = g) := Kp.set w3 g 2 _
   have hkk : Kp w (w3.setCell ⟨g, 2, none⟩ (.slice (some ⟨ga, 0, none⟩) n cap)) (fun k => k = g) := (((Kp.of_below HB.out _).then hkt).then (Kp.of_below hb3 _)).then hk4
   have hgs : w.heap.size ≤ ga := by have := HB.out.size; have := hkt.size; omega
   rw [HN.out] at r2
   have hpl : (P.set k (x.1, ⟨x.2.A, x.2.c, ⟨x.2.nd.dir, x.2.nd.data, S.clock + 1⟩⟩)).length = n := by rw [List.length_set, HN.out]
   have hmem : ∀ z ∈ P.set k (x.1, ⟨x.2.A, x.2.c, ⟨x.2.nd.dir, x.2.nd.data, S.clock + 1⟩⟩), ∃ y ∈ P, y.2.A = z.2.A ∧ y.2.nd.data = z.2.nd.data ∧ y.2.c = z.2.c := fun z hz => by
     rcases List.mem_or_eq_of_mem_set hz with hz | rfl
     · exact ⟨z, hz, rfl, rfl, rfl⟩
     · exact ⟨x, List.mem_of_getElem? hx, rfl, rfl, rfl⟩
   have HFIN := hide (show RK g (Vf.putS S q x.2.nd.dir x.2.nd.data) w A P (w3.setCell ⟨g, 2, none⟩ (.slice (some ⟨ga, 0, none⟩) n cap)) from by
     refine ⟨some ⟨ga, 0, none⟩, cap, _, H.out.set hkk ?_ (by rw [hpl]; have := HN.out; omega) ?_ (hset.kp hk4 (fun a e _ => by injection e with e; subst e; exact hgne)) (fun a e _ => by injection e with e; subst e; exact hgne) (fun z hz => ?_) (fun a e => ⟨ga, 0, by injection e with e; exact e.symm⟩), hkk, fun a e _ => .inl (by injection e with e; subst e; exact hgs), fun z hz a e hn => .inr ?_⟩
     · rw [hpl]
       exact (heapSet (j := 2) hgt3 (.slice (some ⟨ga, 0, none⟩) n cap)).trans rfl
     · rw [strip_set, ← H.out.eq]
       have hps := putG_set (P := S.m) (k := k) (x := (bs q, (⟨x.2.nd.dir, x.2.nd.data, S.clock + 1⟩ : Nd))) (y := (x.1, x.2.nd)) (by rw [H.out.eq]; exact strip_rise.2 HRI.out) (by rw [H.out.eq]; unfold stripN; rw [List.getElem?_map, hx]; rfl) hxq
       rw [hxq]
       exact hps
     · obtain ⟨y, hy, e1, e2, e3⟩ := hmem z hz
       rw [← e1, ← e2, ← e3]
       exact ⟨H.out.lt y hy, (H.out.dat y hy).kp hkk (H.out.neD y hy), H.out.neD y hy⟩
     · obtain ⟨y, hy, e1, e2, _⟩ := hmem z hz
       exact ⟨y, hy, e1.trans e, by rw [e2]; exact hn⟩)
   have hnc : (n : Int) ≤ (cap : Int) := by have := HN.out; omega
   clear q1 ha hgt hx hxq hgW hwt hkt o2 g2 b2 hb2 ho2 hh hro hgt2 hset hk3 hb3 ho3 hgt3 hk4 hkk hpl hmem
   go_wp2_with fail
   refine (HAT.out w1 HB.out).mono ?_
   rintro e w' ⟨rfl, rfl⟩
   go_wp2_with (first | (at_builtin; refine wpList_app_run ?_ (.const (.slice none 0 0)) (.tmp 40) ?_ ?_ ?_ ?_ r2 ?_; exact rfl; exact rfl; exact rfl; exact rfl; exact rfl))
   go_ret
   rw [HE.out]
   exact ⟨rfl, HFIN.out⟩
end
section
open Go.RowKit Go.Deep Go.Maps Ln Pth Vf
attribute [local go_sem] bt_eq
def outF (q : T) (z : NV) : Bool := !withinF q z.1.data.toList
theorem strip_filter (p : ByteArray → Bool) (P : List NV) : stripN (P.filter fun z => p z.1) = (stripN P).filter fun z => p z.1 := by
 unfold stripN
 rw [List.filter_map]
 rfl
theorem filter_take {α : Type} {p : α → Bool} {P : List α} {k : Nat} {x : α} (h : P[k]? = some x) : (P.take (k + 1)).filter p = (P.take k).filter p ++ if p x = true then [x] else [] := by
 rw [List.take_add_one, h, List.filter_append]
 congr 1
 simp [List.filter_cons]
theorem push_node {w : World} {base : Nat} {v : Value} {L : List NV} (h : OwnG encE 4 172 w base v L) (hbase : base ≤ w.heap.size) (hl : L.length ≤ 100000) (x : NV) (cs : Array Value) (hcs : cs = (encE x).toArray) :
   ∃ v' w', (Builtin.append_ #[70, 70] 70 #[v, .slice (some ⟨w.heap.size, 0, none⟩) 1 1]).run Tryz.prog (w.alloc (.cells cs 172)) = .ok v' w' ∧ OwnG encE 4 172 w' base v' (L ++ [x]) ∧ Below base w w' := by
 obtain ⟨v3, w3, r3, o3, g3, b3⟩ := run_appG rowN encE_len encE_one (c := 1) (h.alloc (.cells cs 172)) (rg_newN w x cs hcs _) (by simp; omega) (by simp; omega)
 exact ⟨v3, w3, r3, o3, ((Below.refl base w).alloc hbase _).trans (Below.of_gb g3 (by simp; omega) (fun k hk => (h.lt k hk).1))⟩
theorem OwnG.rso {w : World} {base g : Nat} {A : Option Addr} {n c : Nat} {L : List NV} (h : OwnG encE 4 172 w base (.slice A n c) L) : RG encE 4 w A L ∧ n = L.length ∧ L.length ≤ c ∧ (∀ a, A = some a → base ≤ a.block) ∧ (∀ a, A = some a → ∃ g o, a = ⟨g, o, none⟩) := by
 obtain ⟨A', c', e, hc, hr, ho, ht⟩ := h.slice encE_len
 injection e with e1 e2 e3
 subst e1 e2 e3
 exact ⟨hr, rfl, hc, fun a e => (h.lt _ (ho a e)).1, fun a e => by obtain ⟨g, e⟩ := ht a e; exact ⟨g, 0, e⟩⟩
theorem OwnG.keptB {α : Type} {enc : α → List Value} {n : Nat} {E : TypeId} {w w' : World} {base : Nat} {v : Value} {L : List α} (h : OwnG enc n E w base v L) (hb : Below w.heap.size w w') : OwnG enc n E w' base v L := by
 refine ⟨h.1, ?_⟩
 rcases h.2 with h2 | ⟨g, cap, cur, rfl, hg, hh, r⟩
 · exact .inl h2
 · exact .inr ⟨g, cap, cur, rfl, hg, (hb.block g (h.lt g rfl).2).trans hh, r⟩
theorem rdrop_any (g : Nat) (S : St) (A : Option Addr) (c : Nat) (P : List NV) (q : T) (w : World) (h : RSO g S A c P w) (hl : P.length ≤ 10000) (hk : ∀ x ∈ P, ∃ t : T, x.1 = bs t ∧ t.length ≤ 1000) (hq : q.length ≤ 1000) :
   Calls Tryz.prog 117 #[.pointer (some ⟨g, 0, none⟩), .string (bs q)] w fun e w' => e = .returned (.tuple #[]) ∧ ∃ A' c', RSO g { S with m := S.m.filter fun z => !withinF q z.1.data.toList } A' c' (P.filter (outF q)) w' ∧ Kp w w' (fun k => k = g) ∧ ∀ a, A' = some a → w.heap.size ≤ a.block := by
 have H := hide h
 have HK := hide hk
 have HQ := hide hq
 have hgl : g < w.heap.size := (Array.getElem?_eq_some_iff.1 h.heap).1
 obtain ⟨n, hn⟩ : ∃ n, P.length = n := ⟨_, rfl⟩
 have HN := hide hn
 have hln : n ≤ 10000 := by omega
 clear h hk hl hn hq
 go_enter Tryz.func117, Tryz.ntmps117
 go_wp2
 go_loopw [4, 5] (fun v4 v5 wr => ∃ (k m : Nat) (A' : Option Addr) (c' : Nat), v5 = .int .i64 k ∧ k ≤ n ∧ v4 = .slice A' m c' ∧ m ≤ k ∧ Hid (OwnG encE 4 172 wr w.heap.size (.slice A' m c') ((P.take k).filter (outF q))) ∧ Hid (Below w.heap.size w wr)) (fun _ v5 _ => n - (intOf v5).toNat)
 case atStart => exact ⟨0, 0, none, 0, rfl, by omega, rfl, by omega, OwnG.nil _ _, Below.refl _ _⟩
 case round =>
   obtain ⟨k, m, A', c', rfl, hk, rfl, hmk, HO, HB⟩ := hrel
   have ho := H.out.below HB.out
   have hg := ho.heap
   rw [HN.out] at hg
   have hc2 := cellOf hg (j := 2) (v := .slice A n c) rfl
   by_cases hlt : k < n
   · obtain ⟨x, hx⟩ : ∃ x, P[k]? = some x := ⟨P[k]'(by have := HN.out; omega), gE _⟩
     obtain ⟨gs, o, rfl, hgs, hc⟩ := ho.rg k x hx
     have hc0 : wr.cell? ⟨gs, o + k * 4, none⟩ = some (.string x.1) := by have := hc 0 _ rfl; simpa using this
     have hc1 : wr.cell? ⟨gs, o + k * 4 + 1, none⟩ = some (.bool x.2.nd.dir) := hc 1 _ rfl
     have hc22 : wr.cell? ⟨gs, o + k * 4 + 2, none⟩ = some (.slice x.2.A x.2.nd.data.length x.2.c) := hc 2 _ rfl
     have hc3 : wr.cell? ⟨gs, o + k * 4 + 3, none⟩ = some (.int .i64 x.2.nd.time) := hc 3 _ rfl
     obtain ⟨t, hxt, htl⟩ := HK.out x (List.mem_of_getElem? hx)
     have hft := filter_take (p := outF q) hx
     have hfx : outF q x = !withinF q t := by unfold outF; rw [hxt, bs_list]
     rw [hfx] at hft
     have b1 : (k : Int) < (n : Int) := by omega
     have HWI := hide (rwithin_any q t wr (by have := HQ.out; omega) (by omega))
     have hgb : g < wr.heap.size := by have := HB.out.size; omega
     have HX := hide hx
     have HG0 := hide hgs
     have hrl : ((P.take k).filter (outF q)).length ≤ 100000 := by
       refine Nat.le_trans (List.length_filter_le _ _) ?_
       rw [List.length_take]
       omega
     have HRL := hide hrl
     clear ho hg hc hx hgs hfx hrl
     cases hw : withinF q t with
     | true =>
       rw [hw] at HWI hft
       have HFT := hide hft
       rw [hxt] at hc0
       clear hft hxt hw
       go_wp2_with fail
       refine HWI.out.mono ?_
       rintro e w1 ⟨rfl, hb1⟩
       have HB1 := hide hb1
       clear hb1
       go_wp2
       go_roundw
       case rel =>
         refine ⟨k + 1, m, A', c', by go_num, by omega, rfl, by omega, ?_, below_up HB.out HB1.out HB.out.size⟩
         show OwnG _ _ _ _ _ _ _
         rw [HFT.out]
         simp only [Bool.not_true, Bool.false_eq_true, if_false, List.append_nil]
         exact OwnG.keptB HO.out HB1.out
       case measure => simp [intOf]; omega
     | false =>
       rw [hw] at HWI hft
       have HFT := hide hft
       rw [hxt] at hc0
       have HXT := hide hxt
       clear hft hw hxt
       go_wp2_with fail
       refine HWI.out.mono ?_
       rintro e w1 ⟨rfl, hb1⟩
       have hc2' := (hb1.cell (p := ⟨g, 2, none⟩) hgb).trans hc2
       have hd0 := (hb1.cell (p := ⟨gs, o + k * 4, none⟩) HG0.out).trans hc0
       have hd1 := (hb1.cell (p := ⟨gs, o + k * 4 + 1, none⟩) HG0.out).trans hc1
       have hd2 := (hb1.cell (p := ⟨gs, o + k * 4 + 2, none⟩) HG0.out).trans hc22
       have hd3 := (hb1.cell (p := ⟨gs, o + k * 4 + 3, none⟩) HG0.out).trans hc3
       have hos : OwnG encE 4 172 w1 w.heap.size (.slice A' m c') ((P.take k).filter (outF q)) := OwnG.keptB HO.out hb1
       have hb2 := below_up HB.out hb1 HB.out.size
       obtain ⟨v', w', r', o', hb3⟩ := push_node hos hb2.size HRL.out x #[.string (bs t), .bool x.2.nd.dir, .slice x.2.A x.2.nd.data.length x.2.c, .int .i64 x.2.nd.time] (by rw [← HXT.out]; rfl)
       obtain ⟨A2, c2, rfl, hcl, _, _, _⟩ := o'.slice encE_len
       have HO2 := hide o'
       have HB2 := hide (hb2.trans hb3)
       have HRUN := hide r'
       have hll : (List.filter (outF q) (List.take k P) ++ [x]).length ≤ k + 1 := by
         rw [List.length_append, List.length_singleton]
         have := List.length_filter_le (outF q) (List.take k P)
         rw [List.length_take] at this
         omega
       obtain ⟨M, hM⟩ : ∃ m, (List.filter (outF q) (List.take k P) ++ [x]).length = m := ⟨_, rfl⟩
       rw [hM] at HO2 HRUN hll
       obtain ⟨D, hD⟩ : ∃ m, x.2.nd.data.length = m := ⟨_, rfl⟩
       rw [hD] at HRUN hd2
       clear hb1 hos hb2 r' o' hb3 hc0 hc1 hc22 hc3 hc2 hcl HXT hM hD
       go_wp2_with (first | (at_builtin; refine wpList_app_run ?_ (.tmp 26) (.tmp 34) ?_ ?_ ?_ ?_ HRUN.out ?_; exact rfl; exact rfl; exact rfl; exact rfl; exact rfl))
       go_roundw
       case rel =>
         refine ⟨k + 1, M, A2, c2, by go_num, by omega, rfl, by omega, ?_, HB2.out⟩
         show OwnG _ _ _ _ _ _ _
         rw [HFT.out]
         exact HO2.out
       case measure => simp [intOf]; omega
   · obtain rfl : n = k := by omega
     have htk : P.take n = P := List.take_of_length_le (by have := HN.out; omega)
     rw [htk] at HO
     obtain ⟨hr, hm, hcl, hA, ht⟩ := OwnG.rso (g := g) HO.out
     have HR := hide (And.intro hr (And.intro hm (And.intro hcl (And.intro hA ht))))
     have hf2 := freeOf hg 2
     have HG5 := hide (heapSet (j := 2) hg (.slice A' m c'))
     clear htk ho hg hr hcl hA ht hm
     go_wp2
     go_end0
     obtain ⟨hr, hm, hcl, hA, ht⟩ := HR.out
     have hk : Kp w (wr.setCell ⟨g, 2, none⟩ (.slice A' m c')) (fun k => k = g) := (Kp.of_below HB.out _).then (Kp.set wr g 2 _)
     refine ⟨rfl, A', c', H.out.set hk (by rw [HG5.out, hm]; rfl) hcl ?_ (hr.kp (Kp.set wr g 2 _) (fun a e _ => by have := hA a e; omega)) (fun a e _ => by have := hA a e; omega) (fun x hx => ?_) ht, hk, hA⟩
     · show List.filter _ S.m = _
       rw [H.out.eq]
       exact (strip_filter (fun k => !withinF q k.data.toList) P).symm
     · have hx := (List.mem_filter.1 hx).1
       exact ⟨H.out.lt x hx, (H.out.dat x hx).kp hk (H.out.neD x hx), H.out.neD x hx⟩
theorem removeS_bad {S : St} {p : T} (h : (absS S p).2 ≠ 0) : removeS S p = (S, (absS S p).2) := by
 have hf : (foundS S p).2 = (absS S p).2 := by unfold foundS; dsimp only; rw [if_neg (fun h2 => h h2.1)]
 unfold removeS
 rw [hf, if_pos h]
theorem removeS_none {S : St} {p : T} (h : (absS S p).2 = 0) (hk : kindM S.m (absS S p).1 = 0) : removeS S p = (S, 6) := by
 have hf : (foundS S p).2 = 6 := by unfold foundS; dsimp only; rw [if_pos ⟨h, hk⟩]
 unfold removeS
 rw [hf, if_pos (by omega)]
theorem removeS_at {S : St} {p : T} (h : (absS S p).2 = 0) (hk : kindM S.m (absS S p).1 ≠ 0) : removeS S p = if (absS S p).1 = [47] then (S, 1) else if belowM S.m (absS S p).1 ≠ [] then (S, 14) else ({ S with m := delG (bs (absS S p).1) S.m, used := S.used - (dataM S.m (absS S p).1).length, clock := S.clock + 1 }, 0) := by
 have hf : (foundS S p).2 = 0 := by unfold foundS; dsimp only; rw [if_neg (fun h2 => hk h2.2), h]
 have hf1 : (foundS S p).1 = (absS S p).1 := rfl
 unfold removeS
 rw [hf, hf1, if_neg (by omega)]
theorem drop_del {S : St} (hS : WfS S) {l : List T} (hl : GoodP l) (hne : l ≠ []) (hb : belowM S.m (joinF l) = []) : (S.m.filter fun z => !withinF (joinF l) z.1.data.toList) = delG (bs (joinF l)) S.m := by
 unfold delG
 refine List.filter_congr (fun z hz => ?_)
 congr 1
 by_cases h : withinF (joinF l) z.1.data.toList = true
 · obtain ⟨r, e, hg⟩ := (within_mem hS hl hz).1 h
   have hr : r = [] := by
     apply Classical.byContradiction
     intro hr
     have : joinF (l ++ r) ∈ belowM S.m (joinF l) := (below_names hS hl.ok hne).2 ⟨r, hr, rfl, hg, by rw [← e, mem_getG hS.rise hz]; simp⟩
     rw [hb] at this
     cases this
   subst hr
   rw [List.append_nil] at e
   rw [h]
   simp [e]
 · have h2 : ¬ z.1 = bs (joinF l) := fun e => h ((within_mem hS hl hz).2 ⟨[], by rw [List.append_nil]; exact e, by rw [List.append_nil]; exact hl⟩)
   rw [decide_eq_false h2]
   simpa using h
theorem rremove4_any (g : Nat) (S : St) (A : Option Addr) (c : Nat) (P : List NV) (p : T) (w : World) (h : RSO g S A c P w) (hS : WfS S) (t : HangS S) (hp : p.length ≤ 100000) (hck : S.clock ≤ 1000000000) :
   Calls Tryz.prog 64 #[.pointer (some ⟨g, 0, none⟩), .string (bs p)] w fun e w' => e = .returned (.int .i64 (removeS S p).2) ∧ RK g (removeS S p).1 w A P w' := by
 have hl := row_len hS h.eq
 have HF := hide (rfind_abs g S A c P p w h (by omega) hp)
 have H := hide h
 have HKD0 := hide (fun (q : T) (W : World) (hb : Below w.heap.size w W) => rkind_any g S A c P q W (h.below hb) (by omega))
 have hks := keys_short hS h.eq
 have HNM0 := hide (fun (q : T) (W : World) (hb : Below w.heap.size w W) => rnames4_any g S A c P q W (h.below hb) hl hks)
 have HDR := hide (fun (q : T) (hq : q.length ≤ 1000) (W : World) (hb : Below w.heap.size w W) => rdrop_any g S A c P q W (h.below hb) hl hks hq)
 have HR1 := hide (removeS_bad (S := S) (p := p))
 have HR2 := hide (removeS_none (S := S) (p := p))
 have HR3 := hide (removeS_at (S := S) (p := p))
 have hgd := fun h => absS_good (S := S) (p := p) h
 have HNB := hide (fun (q : T) (hq : (absS S p).2 = 0) (h2 : q = (absS S p).1) (h3 : q ≠ [47]) => show (nmR q (keysN P) = [] ↔ belowM S.m q = []) ∧ (belowM S.m q = [] → (S.m.filter fun z => !withinF q z.1.data.toList) = delG (bs q) S.m) from by
   obtain ⟨l, gl, e, _⟩ := hgd hq
   have e2 : q = joinF l := h2.trans e
   have hne : l ≠ [] := good_ne e2 h3
   rw [e2, ← keysN_eq h.eq, nmR_names hS gl]
   exact ⟨names_nil hS t gl hne, drop_del hS gl hne⟩)
 obtain ⟨r, hr⟩ : ∃ r, absS S p = r := ⟨_, rfl⟩
 obtain ⟨q0, e⟩ := r
 rw [hr] at HF HR1 HR2 HR3 HNB
 dsimp only at HF HR1 HR2 HR3 HNB
 obtain ⟨R, hR⟩ : ∃ R, removeS S p = R := ⟨_, rfl⟩
 rw [hR] at HR1 HR2 HR3 ⊢
 obtain ⟨n, hn⟩ : ∃ n, P.length = n := ⟨_, rfl⟩
 rw [hn] at hl
 have HN := hide hn
 have hci : (S.clock : Int) ≤ 1000000000 := by omega
 clear hr hR h hp hS hn hks hgd t
 go_enter Tryz.func64, Tryz.ntmps64
 go_wp2_with fail
 refine HF.out.mono ?_
 rintro e1 w1 ⟨q, rfl, hq, hql, hb⟩
 have HB := hide hb
 clear hb
 by_cases c1 : e = 0
 case neg =>
   obtain ⟨t1, t2⟩ := ne0 c1
   have HE := hide (HR1.out c1)
   clear c1 hq
   go_wp2
   go_ret
   rw [HE.out]
   exact ⟨rfl, RK.stay H.out HB.out⟩
 subst c1
 have hq1 := hq rfl
 subst hq1
 have HKD := hide (HKD0.out q)
 have HNM := hide (HNM0.out q)
 clear hq HF
 by_cases q1 : q = [47]
 · have ht : ((bs q).toList == [47]) = true := by rw [bs_toList, q1]; rfl
   have HE := hide ((HR3.out rfl (by rw [q1, show kindM S.m [47] = 2 from rfl]; omega)).trans (if_pos q1))
   clear q1
   go_wp2
   go_ret
   rw [HE.out]
   exact ⟨rfl, RK.stay H.out HB.out⟩
 have ht : ((bs q).toList == [47]) = false := by rw [bs_toList]; simpa using q1
 obtain ⟨hnb, hdd⟩ := HNB.out q rfl rfl q1
 have HE0 := hide (fun (hk : kindM S.m q ≠ 0) => (HR3.out rfl hk).trans (if_neg q1))
 obtain ⟨y, hy⟩ : ∃ y, kindM S.m q = y := ⟨_, rfl⟩
 rw [hy] at HKD HE0 HR2
 clear hy q1
 by_cases k0 : y = 0
 · subst k0
   have HE := hide (HR2.out rfl rfl)
   go_wp2_with fail
   refine (HKD.out w1 HB.out).mono ?_
   rintro e w' ⟨rfl, rfl⟩
   go_wp2
   go_ret
   rw [HE.out]
   exact ⟨rfl, RK.stay H.out HB.out⟩
 have HE1 := hide (HE0.out k0)
 obtain ⟨t1, t2⟩ := ne0 k0
 have hyi : (0 : Int) < (y : Int) := by omega
 have hy0 : ((y : Int) == 0) = false := by simp; omega
 obtain ⟨m, hm⟩ : ∃ m, (nmR q (keysN P)).length = m := ⟨_, rfl⟩
 rw [hm] at HNM
 have hm0 : m = 0 ↔ belowM S.m q = [] := by rw [← hm, List.length_eq_zero_iff]; exact hnb
 clear hm hnb k0
 by_cases m0 : m = 0
 case neg =>
   have HE := hide (HE1.out.trans (if_pos (fun h => m0 (hm0.2 h))))
   have hmi : (0 : Int) < (m : Int) := by omega
   clear hm0 hdd
   go_wp2_with fail
   refine (HKD.out w1 HB.out).mono ?_
   rintro e w' ⟨rfl, rfl⟩
   go_wp2_with fail
   refine (HNM.out w1 HB.out).mono ?_
   rintro e w2 ⟨⟨A5, c5, rfl, _, _⟩, hb2⟩
   have HB2 := hide (below_up HB.out hb2 HB.out.size)
   clear hb2
   go_wp2
   go_ret
   rw [HE.out]
   exact ⟨rfl, RK.stay H.out HB2.out⟩
 have hbl := hm0.1 m0
 have HE := hide (HE1.out.trans (if_neg (fun h => h hbl)))
 have HDD := hide (hdd hbl)
 subst m0
 have hql2 : q.length ≤ 1000 := by omega
 have HD := hide (HDR.out q hql2)
 rw [HDD.out] at HD
 clear hm0 hdd hbl
 go_wp2_with fail
 refine (HKD.out w1 HB.out).mono ?_
 rintro e w' ⟨rfl, rfl⟩
 go_wp2_with fail
 refine (HNM.out w1 HB.out).mono ?_
 rintro e w2 ⟨⟨A5, c5, rfl, _, _⟩, hb2⟩
 have HB2 := hide (below_up HB.out hb2 HB.out.size)
 clear hb2
 go_wp2_with fail
 refine (HD.out w2 HB2.out).mono ?_
 rintro e w3 ⟨rfl, A', c', ho', hk', hA'⟩
 have hg3 := ho'.heap
 have hc3 := cellOf hg3 (j := 3) (v := .int .i64 S.clock) rfl
 have hf3 := freeOf hg3 3
 have HO := hide ho'
 have HK := hide hk'
 have HA := hide hA'
 clear ho' hk' hA' hg3
 go_wp2
 go_ret
 rw [HE.out]
 have hk2 : Kp w w3 (fun k => k = g) := (Kp.of_below HB2.out _).then HK.out
 have ht := HO.out.tick (S.clock + 1)
 refine ⟨rfl, A', c', _, ⟨ht.heap, ht.cap, ht.rg, ht.dat, ht.eq, ht.top, ht.neA, ht.neD, ht.lt⟩, hk2.then (Kp.set w3 g 3 _), fun a e _ => .inl (by have := HA.out a e; have := HB2.out.size; omega), fun x hx a e hn => .inr ⟨x, (List.mem_filter.1 hx).1, e, hn⟩⟩
end
section
open Go.RowKit Go.Deep Go.Maps Ln Pth Vf
attribute [local go_sem] bt_eq
def inF (x : T) (z : NV) : Bool := withinF x z.1.data.toList
def mvN (x y : T) (z : NV) : NV := (bs (tgt x y z.1.data.toList), z.2)
def rmvN (x y : T) (P : List NV) : List NV := (P.filter (inF x)).map (mvN x y)
def rvalN (y : T) (t : Nat) (z : NV) : NV := (z.1, ⟨z.2.A, z.2.c, rvalM y t (z.1, z.2.nd)⟩)
def rfoldN (y : T) (t : Nat) (M Q : List NV) : List NV := M.foldl (fun Q z => putG (rvalN y t z) Q) Q
theorem strip_fold (y : T) (t : Nat) : ∀ (M Q : List NV), stripN (rfoldN y t M Q) = (stripN M).foldl (fun Q z => putG (z.1, rvalM y t z) Q) (stripN Q)
 | [], Q => rfl
 | z :: M, Q => by
   have ih := strip_fold y t M (putG (rvalN y t z) Q)
   rw [strip_put] at ih
   exact ih
theorem strip_rmv (x y : T) (P : List NV) : stripN (rmvN x y P) = rmvL (stripN P) x y := by
 unfold rmvN rmvL
 have := strip_filter (fun k => withinF x k.data.toList) P
 rw [← this]
 unfold stripN
 rw [List.map_map, List.map_map]
 rfl
theorem strip_out (x y : T) (P : List NV) : stripN ((P.filter (outF x)).filter (outF y)) = routM (stripN P) x y := by
 unfold routM
 have h1 := strip_filter (fun k => !withinF x k.data.toList) P
 have h2 := strip_filter (fun k => !withinF y k.data.toList) (P.filter (outF x))
 rw [← h1]
 exact h2
theorem rmove_strip (x y : T) (t : Nat) (P : List NV) : stripN (rfoldN y t (rmvN x y P) ((P.filter (outF x)).filter (outF y))) = rmoveM (stripN P) x y t := by
 rw [strip_fold, strip_rmv, strip_out]
 rfl
theorem rfold_take {y : T} {t : Nat} {M Q : List NV} {i : Nat} {z : NV} (h : M[i]? = some z) : rfoldN y t (M.take (i + 1)) Q = putG (rvalN y t z) (rfoldN y t (M.take i) Q) := by
 rw [List.take_add_one, h]
 unfold rfoldN
 rw [List.foldl_append]
 rfl
theorem putG_lenL {α : Type} (x : ByteArray × α) : ∀ P : KV α, (putG x P).length ≤ P.length + 1
 | [] => by simp [putG]
 | y :: P => by
   have := putG_lenL x P
   rw [putG]
   split
   · simp only [List.length_cons]; omega
   · split <;> simp
theorem rfold_len (y : T) (t : Nat) : ∀ M Q : List NV, (rfoldN y t M Q).length ≤ Q.length + M.length
 | [], Q => by simp [rfoldN]
 | z :: M, Q => by
   have h1 := rfold_len y t M (putG (rvalN y t z) Q)
   have h2 := putG_lenL (rvalN y t z) Q
   show (rfoldN y t M (putG (rvalN y t z) Q)).length ≤ _
   rw [List.length_cons]
   omega
theorem filt_both {α : Type} (p : α → Bool) : ∀ P : List α, (P.filter p).length + (P.filter fun z => !p z).length = P.length
 | [] => rfl
 | x :: P => by
   have := filt_both p P
   rw [List.filter_cons, List.filter_cons]
   cases p x <;> simp <;> omega
theorem parts_len {x y : T} {P : List NV} : ((P.filter (outF x)).filter (outF y)).length + (rmvN x y P).length ≤ P.length := by
 have h1 := filt_both (inF x) P
 have h2 := List.length_filter_le (outF y) (P.filter (outF x))
 unfold rmvN
 rw [List.length_map]
 have h3 : (P.filter (outF x)).length = (P.filter fun z => !inF x z).length := rfl
 omega
theorem rmv_take {x y : T} {P : List NV} {k : Nat} {z : NV} (h : P[k]? = some z) : rmvN x y (P.take (k + 1)) = rmvN x y (P.take k) ++ if inF x z = true then [mvN x y z] else [] := by
 unfold rmvN
 rw [filter_take h, List.map_append]
 congr 1
 split <;> rfl
theorem rmv_src {x y : T} {P : List NV} {z : NV} (h : z ∈ rmvN x y P) : ∃ u ∈ P, u.2 = z.2 := by
 unfold rmvN at h
 obtain ⟨u, hu, rfl⟩ := List.mem_map.1 h
 exact ⟨u, (List.mem_filter.1 hu).1, rfl⟩
theorem rvalM_data (y : T) (t : Nat) (z : ByteArray × Nd) : (rvalM y t z).data = z.2.data := by
 unfold rvalM
 split <;> rfl
theorem rfold_src {y : T} {t : Nat} : ∀ (M Q : List NV) {P : List NV}, (∀ z ∈ Q, ∃ u ∈ P, u.2.A = z.2.A ∧ u.2.nd.data = z.2.nd.data ∧ u.2.c = z.2.c) → (∀ z ∈ M, ∃ u ∈ P, u.2 = z.2) → ∀ z ∈ rfoldN y t M Q, ∃ u ∈ P, u.2.A = z.2.A ∧ u.2.nd.data = z.2.nd.data ∧ u.2.c = z.2.c
 | [], Q, P, h1, _ => h1
 | m :: M, Q, P, h1, h2 => by
   refine rfold_src M (putG (rvalN y t m) Q) (fun z hz => ?_) (fun z hz => h2 z (by simp [hz]))
   rcases mem_putG hz with rfl | hz
   · obtain ⟨u, hu, e⟩ := h2 m (by simp)
     exact ⟨u, hu, by rw [e]; rfl, by rw [e]; exact (rvalM_data y t (m.1, m.2.nd)).symm, by rw [e]; rfl⟩
   · exact h1 z hz
theorem RSO.keep {g : Nat} {S : St} {A : Option Addr} {c : Nat} {P : List NV} {w w' : World} {X : Nat → Prop} (h : RSO g S A c P w) (hk : Kp w w' X) (hg : ¬ X g) (hA : ∀ a, A = some a → P ≠ [] → ¬ X a.block) (hD : ∀ x ∈ P, ∀ a, x.2.A = some a → x.2.nd.data ≠ [] → ¬ X a.block) : RSO g S A c P w' :=
 ⟨(hk.block g (Array.getElem?_eq_some_iff.1 h.heap).1 hg).trans h.heap, h.cap, h.rg.ofB hk.size (fun a e hn => hk.block a.block (h.rg.block_lt e hn) (hA a e hn)), fun x hx => (h.dat x hx).ofB hk.size (fun a e hn => hk.block a.block ((h.dat x hx).block_lt e hn) (hD x hx a e hn)), h.eq, h.top, h.neA, h.neD, h.lt⟩
theorem moveS_chain {S : St} {p q x y : T} (hp : absF [47] p = (x, 0)) (hq : absF [47] q = (y, 0)) : moveS S p q = if wayM S.m x ≠ 0 then (S, wayM S.m x) else if kindM S.m x = 0 then (S, 6) else if x = [47] then (S, 1) else if wayM S.m y ≠ 0 then (S, wayM S.m y) else if x = y then (S, 0) else
   if mayS S.m x y ≠ 0 then (S, mayS S.m x y) else (moveQ S x y, 0) := by
 unfold moveS foundS absS
 rw [hp, hq]
 simp only [ne_eq, not_true_eq_false, if_false]
 by_cases h1 : wayM S.m x = 0
 · simp only [h1, not_true_eq_false, if_false, true_and]
   by_cases h2 : kindM S.m x = 0
   · simp [h2]
   · simp only [h2, if_false, not_true_eq_false]
     by_cases h3 : x = [47]
     · simp [h3]
     · simp only [h3, if_false]
       by_cases h4 : wayM S.m y = 0
       · simp [h4]
       · simp [h4]
 · simp [h1]
theorem moveS_bad1 {S : St} {p q : T} (h : (absF [47] p).2 ≠ 0) : moveS S p q = (S, (absF [47] p).2) := by
 unfold moveS
 rw [if_pos h]
theorem moveS_bad2 {S : St} {p q : T} (h1 : (absF [47] p).2 = 0) (h : (absF [47] q).2 ≠ 0) : moveS S p q = (S, (absF [47] q).2) := by
 unfold moveS
 rw [if_neg (by simp [h1]), if_pos h]
open Classical in
theorem may_doc {S : St} {P : List NV} (hS : WfS S) (t : HangS S) (hP : S.m = stripN P) {a b : List T} (ga : GoodP a) (gb : GoodP b) (nea : a ≠ []) (hk : kindM S.m (joinF a) ≠ 0) : mayS S.m (joinF a) (joinF b) =
   if joinF b = [47] then 1 else if withinF (joinF a) (joinF b) = true then 1 else if kindM S.m (joinF b) = 2 ∧ kindM S.m (joinF a) = 1 then 10 else if kindM S.m (joinF b) = 1 ∧ kindM S.m (joinF a) = 2 then 11 else
     if kindM S.m (joinF b) = 2 ∧ nmR (joinF b) (keysN P) ≠ [] then 14 else if ∃ z ∈ P, inF (joinF a) z = true ∧ badT (joinF a) (joinF b) z.1.data.toList then 3 else 0 := by
 have hka := kind_le S.m (joinF a)
 unfold mayS
 by_cases h1 : joinF b = [47]
 · rw [if_pos (.inl h1), if_pos h1]
 rw [if_neg h1]
 by_cases h2 : withinF (joinF a) (joinF b) = true
 · rw [if_pos (.inr h2), if_pos h2]
 rw [if_neg (by rintro (h | h); exact h1 h; exact h2 h), if_neg h2]
 have neb : b ≠ [] := fun e => h1 (by rw [e]; rfl)
 by_cases h3 : kindM S.m (joinF b) = 2 ∧ kindM S.m (joinF a) = 1
 · rw [if_pos ⟨h3.1, by omega⟩, if_pos h3]
 rw [if_neg (fun h => h3 ⟨h.1, by omega⟩), if_neg h3]
 split
 · rfl
 · have hnn : nmR (joinF b) (keysN P) ≠ [] ↔ belowM S.m (joinF b) ≠ [] := by rw [← keysN_eq hP, nmR_names hS gb]; exact not_congr (names_nil hS t gb neb)
   have hx : (kindM S.m (joinF b) = 2 ∧ belowM S.m (joinF b) ≠ []) ↔ (kindM S.m (joinF b) = 2 ∧ nmR (joinF b) (keysN P) ≠ []) := and_congr Iff.rfl hnn.symm
   by_cases h5 : kindM S.m (joinF b) = 2 ∧ belowM S.m (joinF b) ≠ []
   · rw [if_pos h5, if_pos (hx.1 h5)]
   rw [if_neg h5, if_neg (fun h => h5 (hx.2 h))]
   · have := bad_iff hS ga gb nea neb
     rw [hP] at this
     have e : (∃ z ∈ stripN P, withinF (joinF a) z.1.data.toList = true ∧ badT (joinF a) (joinF b) z.1.data.toList) ↔ ∃ z ∈ P, inF (joinF a) z = true ∧ badT (joinF a) (joinF b) z.1.data.toList := by
       unfold stripN
       constructor
       · rintro ⟨z, hz, h⟩
         obtain ⟨u, hu, rfl⟩ := List.mem_map.1 hz
         exact ⟨u, hu, h⟩
       · rintro ⟨u, hu, h⟩
         exact ⟨_, List.mem_map.2 ⟨u, hu, rfl⟩, h⟩
     rw [e] at this
     rw [← hP] at this
     by_cases h6 : ∃ z ∈ P, inF (joinF a) z = true ∧ badT (joinF a) (joinF b) z.1.data.toList
     · rw [if_pos (this.1 h6), if_pos h6]
     · rw [if_neg (fun h => h6 (this.2 h)), if_neg h6]
structure MRow (w : World) (b0 : Nat) (gm : Nat) (L : List NV) : Prop where
 rg : RG encE 4 w (some ⟨gm, 0, none⟩) L
 blk : ∃ cur, w.heap[gm]? = some (.cells cur 172)
 ge : b0 ≤ gm
theorem MRow.kp {w w' : World} {b0 gm g : Nat} {L : List NV} (h : MRow w b0 gm L) (hk : Kp w w' (fun k => k = g)) (hg : gm ≠ g) : MRow w' b0 gm L := by
 obtain ⟨cur, hc⟩ := h.blk
 exact ⟨h.rg.kp hk (fun a e _ => by injection e with e; subst e; exact hg), ⟨cur, (hk.block gm (Array.getElem?_eq_some_iff.1 hc).1 hg).trans hc⟩, h.ge⟩
theorem MRow.setT {w : World} {b0 gm : Nat} {L : List NV} (h : MRow w b0 gm L) {k : Nat} {x : NV} (hk : L[k]? = some x) (t : Nat) : MRow (w.setCell ⟨gm, k * 4 + 3, none⟩ (.int .i64 t)) b0 gm (L.set k (x.1, ⟨x.2.A, x.2.c, ⟨x.2.nd.dir, x.2.nd.data, t⟩⟩)) := by
 obtain ⟨cur, hc⟩ := h.blk
 exact ⟨h.rg.setT hk t, ⟨_, heapSet hc _⟩, h.ge⟩
theorem MRow.of {w : World} {b0 : Nat} {A : Option Addr} {n c : Nat} {L : List NV} (h : OwnG encE 4 172 w b0 (.slice A n c) L) (hn : L ≠ []) : ∃ gm, A = some ⟨gm, 0, none⟩ ∧ n = L.length ∧ L.length ≤ c ∧ gm < w.heap.size ∧ MRow w b0 gm L := by
 obtain ⟨hr, hm, hcl, _, _⟩ := OwnG.rso (g := 0) h
 rcases h.2 with ⟨_, h0⟩ | ⟨gm, cap, cur, e, hg, hh, _⟩
 · exact absurd (List.eq_nil_of_length_eq_zero h0) hn
 · injection e with e1 e2 e3
   subst e1
   exact ⟨gm, rfl, hm, hcl, (Array.getElem?_eq_some_iff.1 hh).1, hr, ⟨cur, hh⟩, hg⟩
theorem absS_fst {S : St} {p x q : T} (h : absF [47] p = (x, 0)) (h2 : absS S p = (q, 0)) (hq : q ≠ []) : q = x := by
 unfold absS at h2
 rw [h] at h2
 simp only [ne_eq, not_true_eq_false, if_false] at h2
 split at h2
 · injection h2 with h3 h4
   exact absurd h3.symm hq
 · injection h2 with h3 h4
   exact h3.symm
def SQ (S : St) (Q : List NV) : St := { S with m := stripN Q, clock := S.clock + 1 }
end
section
open Go.RowKit Go.Deep Go.Maps Ln Pth Vf
attribute [local go_sem] bt_eq
theorem rmove4_k0 (g : Nat) (S : St) (A : Option Addr) (c : Nat) (P : List NV) (p q : T) (w : World) (h : RSO g S A c P w) (hS : WfS S) (t : HangS S) (hp : p.length ≤ 50000) (hq : q.length ≤ 50000) (hck : S.clock ≤ 1000000000) (hkq : kindM S.m (absF [47] q).1 = 0) :
   Calls Tryz.prog 68 #[.pointer (some ⟨g, 0, none⟩), .string (bs p), .string (bs q)] w fun e w' => e = .returned (.int .i64 (moveS S p q).2) ∧ RK g (moveS S p q).1 w A P w' := by
 have hl := row_len hS h.eq
 have hks := keys_short hS h.eq
 have H := hide h
 have HA1 := hide (rabs_any [47] p w (by simp) (by omega))
 have HA2 := hide (fun W => rabs_any [47] q W (by simp) (by omega))
 have HC1 := absF_cases [47] p
 have HC2 := absF_cases [47] q
 have HB1 := hide (fun h1 => moveS_bad1 (S := S) (p := p) (q := q) h1)
 have HB2 := hide (fun h1 h2 => moveS_bad2 (S := S) (p := p) (q := q) h1 h2)
 have HCH := hide (fun x y h1 h2 => moveS_chain (S := S) (p := p) (q := q) (x := x) (y := y) h1 h2)
 have HCS := hide (moveS_cases hS t p q)
 have HMD := hide (fun (a b : List T) ga gb nea hk => may_doc hS t h.eq (a := a) (b := b) ga gb nea hk)
 have HWY := hide (fun (l : List T) (gl : GoodP l) (W : World) (hb : Below w.heap.size w W) => rway_any g S A c P l W (h.below hb) (by omega) gl.ok (by have := gl.len; omega))
 have HKD := hide (fun (q : T) (W : World) (hb : Below w.heap.size w W) => rkind_any g S A c P q W (h.below hb) (by omega))
 have HNM := hide (fun (q : T) (W : World) (hb : Below w.heap.size w W) => rnames4_any g S A c P q W (h.below hb) hl hks)
 have HKS := hide hks
 have HL := hide hl
 unfold AbsPost at HA1 HA2
 rw [show bs [47] = (⟨#[47]⟩ : ByteArray) from rfl] at HA1 HA2
 obtain ⟨R, hR⟩ : ∃ R, moveS S p q = R := ⟨_, rfl⟩
 rw [hR] at HB1 HB2 HCH HCS ⊢
 obtain ⟨r1, hr1⟩ : ∃ r, absF [47] p = r := ⟨_, rfl⟩
 obtain ⟨x, e1⟩ := r1
 obtain ⟨r2, hr2⟩ : ∃ r, absF [47] q = r := ⟨_, rfl⟩
 obtain ⟨y, e2⟩ := r2
 rw [hr1] at HA1 HB1 HB2 HC1 HCH
 rw [hr2] at HA2 HB2 HC2 HCH hkq
 dsimp only at HA1 HA2 HB1 HB2 HC1 HC2
 clear hR h hks hl hp hq t
 go_enter Tryz.func68, Tryz.ntmps68
 go_wp2_with fail
 refine HA1.out.mono ?_
 rintro e w1 ⟨rfl, hb1⟩
 have HW1 := hide hb1
 clear hb1 HA1
 by_cases c1 : e1 = 0
 case neg =>
   obtain ⟨t1, t2⟩ := ne0 c1
   have HE := hide (HB1.out c1)
   clear c1 HC1 HC2
   go_wp2
   go_ret
   rw [HE.out]
   exact ⟨rfl, RK.stay H.out HW1.out⟩
 subst c1
 go_wp2_with fail
 refine (HA2.out w1).mono ?_
 rintro e w2 ⟨rfl, hb2⟩
 have HW2 := hide (below_up HW1.out hb2 HW1.out.size)
 clear hb2 HA2 HW1
 by_cases c2 : e2 = 0
 case neg =>
   obtain ⟨t1, t2⟩ := ne0 c2
   have HE := hide (HB2.out trivial c2)
   clear c2 HC1 HC2
   go_wp2
   go_ret
   rw [HE.out]
   exact ⟨rfl, RK.stay H.out HW2.out⟩
 subst c2
 obtain ⟨a, ga, ea⟩ : ∃ a, GoodP a ∧ x = joinF a := by
   rcases HC1 with ⟨a, ga, e, _⟩ | ⟨_, e⟩
   · exact ⟨a, ga, congrArg Prod.fst e⟩
   · omega
 obtain ⟨b, gb, eb⟩ : ∃ b, GoodP b ∧ y = joinF b := by
   rcases HC2 with ⟨b, gb, e, _⟩ | ⟨_, e⟩
   · exact ⟨b, gb, congrArg Prod.fst e⟩
   · omega
 have HR := hide (HCH.out x y rfl rfl)
 have HWX := hide (HWY.out a ga)
 have HWYY := hide (HWY.out b gb)
 rw [← ea] at HWX
 rw [← eb] at HWYY
 have hxl : x.length ≤ 200 := by rw [ea]; exact ga.len
 have hyl : y.length ≤ 200 := by rw [eb]; exact gb.len
 have HMY := hide (fun h1 h2 => HMD.out a b ga gb h1 h2)
 rw [← ea, ← eb] at HMY
 have HXR := hide (show a ≠ [] ↔ x ≠ [47] by rw [ea]; exact not_congr (joinF_root ga.ok).symm)
 have hxr := HXR.out
 have EA := hide ea
 have EB := hide eb
 clear HC1 HC2 HWY HMD HCH HB1 HB2 ea eb
 obtain ⟨wx, hwx⟩ : ∃ k, wayM S.m x = k := ⟨_, rfl⟩
 obtain ⟨wy, hwy⟩ : ∃ k, wayM S.m y = k := ⟨_, rfl⟩
 rw [hwx] at HWX HR
 rw [hwy] at HWYY HR
 by_cases c3 : wx = 0
 case neg =>
   obtain ⟨t1, t2⟩ := ne0 c3
   have HE := hide (HR.out.trans (if_pos c3))
   clear c3 hwx hwy
   go_wp2_with fail
   refine (HWX.out w2 HW2.out).mono ?_
   rintro e w3 ⟨rfl, hb3⟩
   have HW3 := hide (below_up HW2.out hb3 HW2.out.size)
   clear hb3
   go_wp2_with fail
   refine (HWX.out w3 HW3.out).mono ?_
   rintro e w4 ⟨rfl, hb4⟩
   have HW4 := hide (below_up HW3.out hb4 HW3.out.size)
   clear hb4
   go_wp2
   go_ret
   rw [HE.out]
   exact ⟨rfl, RK.stay H.out HW4.out⟩
 subst c3
 have HR1 := hide (HR.out.trans (if_neg (by simp)))
 clear HR hwx hwy
 go_wp2_with fail
 refine (HWX.out w2 HW2.out).mono ?_
 rintro e w3 ⟨rfl, hb3⟩
 have HW3 := hide (below_up HW2.out hb3 HW2.out.size)
 clear hb3 HW2
 have HKX := hide (HKD.out x w3 HW3.out)
 have hkx := kind_le S.m x
 have hky := kind_le S.m y
 obtain ⟨kx, hkxe⟩ : ∃ k, kindM S.m x = k := ⟨_, rfl⟩
 obtain ⟨ky, hkye⟩ : ∃ k, kindM S.m y = k := ⟨_, rfl⟩
 have HKY := hide (fun W hb => HKD.out y W hb)
 rw [hkxe] at HKX HR1 hkx HMY
 have hkq' : ky = 0 := hkye.symm.trans hkq
 rw [hkye] at HKY hky HMY
 clear HKD hkxe hkye hkq
 by_cases c4 : kx = 0
 · subst c4
   have HE := hide (HR1.out.trans (if_pos rfl))
   go_wp2_with fail
   refine HKX.out.mono ?_
   rintro e w' ⟨rfl, rfl⟩
   go_wp2
   go_ret
   rw [HE.out]
   exact ⟨rfl, RK.stay H.out HW3.out⟩
 have HR2 := hide (HR1.out.trans (if_neg c4))
 obtain ⟨tk1, tk2⟩ := ne0 c4
 go_wp2_with fail
 refine HKX.out.mono ?_
 rintro e w' ⟨rfl, rfl⟩
 clear HKX HR1
 by_cases c5 : x = [47]
 · have ht : ((bs x).toList == [47]) = true := by rw [bs_toList, c5]; rfl
   have HE := hide (HR2.out.trans (if_pos c5))
   clear c5 c4
   go_wp2
   go_ret
   rw [HE.out]
   exact ⟨rfl, RK.stay H.out HW3.out⟩
 have ht : ((bs x).toList == [47]) = false := by rw [bs_toList]; simpa using c5
 have HR3 := hide (HR2.out.trans (if_neg c5))
 have HM0 := hide (HMY.out (hxr.2 c5) c4)
 clear HR2 c5 HMY hxr
 by_cases c6 : wy = 0
 case neg =>
   obtain ⟨t1, t2⟩ := ne0 c6
   have HE := hide (HR3.out.trans (if_pos c6))
   clear c6 c4
   go_wp2_with fail
   refine (HWYY.out w3 HW3.out).mono ?_
   rintro e w4 ⟨rfl, hb4⟩
   have HW4 := hide (below_up HW3.out hb4 HW3.out.size)
   clear hb4
   go_wp2_with fail
   refine (HWYY.out w4 HW4.out).mono ?_
   rintro e w5 ⟨rfl, hb5⟩
   have HW5 := hide (below_up HW4.out hb5 HW4.out.size)
   clear hb5
   go_wp2
   go_ret
   rw [HE.out]
   exact ⟨rfl, RK.stay H.out HW5.out⟩
 subst c6
 have HR4 := hide (HR3.out.trans (if_neg (by simp)))
 clear HR3
 go_wp2_with fail
 refine (HWYY.out w3 HW3.out).mono ?_
 rintro e w4 ⟨rfl, hb4⟩
 have HW4 := hide (below_up HW3.out hb4 HW3.out.size)
 clear hb4 HW3
 by_cases c7 : x = y
 · have ht2 : ((bs x).toList == (bs y).toList) = true := by rw [c7]; simp
   have HE := hide (HR4.out.trans (if_pos c7))
   clear c7 c4
   go_wp2
   go_ret
   rw [HE.out]
   exact ⟨rfl, RK.stay H.out HW4.out⟩
 have ht2 : ((bs x).toList == (bs y).toList) = false := by rw [bs_toList, bs_toList]; simpa using c7
 have HR5 := hide (HR4.out.trans (if_neg c7))
 clear HR4 c7
 obtain ⟨my, hmy⟩ : ∃ k, mayS S.m x y = k := ⟨_, rfl⟩
 rw [hmy] at HM0 HR5
 have HER := hide (fun (h : my ≠ 0) => HR5.out.trans (if_pos h))
 by_cases c8 : y = [47]
 · have ht3 : ((bs y).toList == [47]) = true := by rw [bs_toList, c8]; rfl
   have hmy1 := HM0.out.trans (if_pos c8)
   have HE := hide (HER.out (by omega))
   rw [hmy1] at HE
   clear c8 c4 hmy hmy1
   go_wp2
   go_ret
   rw [HE.out]
   exact ⟨rfl, RK.stay H.out HW4.out⟩
 have ht3 : ((bs y).toList == [47]) = false := by rw [bs_toList]; simpa using c8
 have HM1 := hide (HM0.out.trans (if_neg c8))
 have HWI := hide (rwithin_any x y w4 (by omega) (by omega))
 obtain ⟨wi, hwi⟩ : ∃ b, withinF x y = b := ⟨_, rfl⟩
 rw [hwi] at HWI HM1
 clear HM0 c8 hwi
 cases wi with
 | true =>
   have hmy1 := HM1.out.trans (if_pos rfl)
   have HE := hide (HER.out (by omega))
   rw [hmy1] at HE
   clear c4 hmy hmy1
   go_wp2_with fail
   refine HWI.out.mono ?_
   rintro e w5 ⟨rfl, hb5⟩
   have HW5 := hide (below_up HW4.out hb5 HW4.out.size)
   clear hb5
   go_wp2
   go_ret
   rw [HE.out]
   exact ⟨rfl, RK.stay H.out HW5.out⟩
 | false =>
 have HM2 := hide (HM1.out.trans (if_neg (by simp)))
 clear HM1
 go_wp2_with fail
 refine HWI.out.mono ?_
 rintro e w5 ⟨rfl, hb5⟩
 have HW5 := hide (below_up HW4.out hb5 HW4.out.size)
 clear hb5 HWI HW4
 go_wp2_with fail
 refine (HKY.out w5 HW5.out).mono ?_
 rintro e w' ⟨rfl, rfl⟩
 have c9 : ¬ (ky = 2 ∧ kx = 1) := by omega
 have HM3 := hide (HM2.out.trans (if_neg c9))
 clear HM2
 have c10 : ¬ (ky = 1 ∧ kx = 2) := by omega
 have HM4 := hide (HM3.out.trans (if_neg c10))
 clear HM3
 subst hkq'
 have HPX := hide (fun (z : NV) (hz : z ∈ P) (t : T) (hzt : z.1 = bs t) (h : withinF x t = true) => show x.length ≤ t.length from by
   obtain ⟨l, gl, _, e⟩ := hS.good (z.1, z.2.nd) (by rw [H.out.eq]; exact List.mem_map.2 ⟨z, hz, rfl⟩)
   have e2 : t = joinF l := bs_inj (hzt.symm.trans e)
   rw [EA.out, e2] at h ⊢
   obtain ⟨r, rfl⟩ := (within_join ga.ok gl.ok).1 h
   by_cases h0 : a = []
   · subst h0
     have := List.length_pos_iff.2 (joinF_ne ([] ++ r))
     rw [joinF_nil]
     exact this
   · rw [slashed_join h0, slashed_join (by simp [h0]), slashed_app, List.length_append]
     omega)
 clear c9 c10 c4 hmy
 have HM5 := hide (HM4.out.trans (if_neg (by omega)))
 clear HM4
 have HW6 := hide HW5.out
 obtain ⟨w6, hw6⟩ : ∃ W, W = w5 := ⟨_, rfl⟩
 rw [← hw6] at HW6 ⊢
 clear hw6
 obtain ⟨n, hn⟩ : ∃ n, P.length = n := ⟨_, rfl⟩
 have HN := hide hn
 have hln : n ≤ 10000 := by have := HL.out; omega
 have hgl : g < w.heap.size := (Array.getElem?_eq_some_iff.1 H.out.heap).1
 clear hn HWX HWYY HKY HW5
 go_wp2
 go_loopw [13, 14, 15] (fun v13 v14 _ wr => ∃ (k m : Nat) (A' : Option Addr) (c' : Nat), v14 = .int .i64 k ∧ k ≤ n ∧ v13 = .slice A' m c' ∧ m ≤ k ∧ Hid (OwnG encE 4 172 wr w.heap.size (.slice A' m c') (rmvN x y (P.take k))) ∧ Hid (∀ z ∈ P.take k, inF x z = true → ¬ badT x y z.1.data.toList) ∧ Hid (Below w.heap.size w wr)) (fun _ v14 _ _ => n - (intOf v14).toNat)
 case atStart => exact ⟨0, 0, none, 0, rfl, by omega, rfl, by omega, OwnG.nil _ _, (fun z hz => by simp at hz), HW6.out⟩
 case round =>
   obtain ⟨k, m, A', c', rfl, hk, rfl, hmk, HO, HBD, HB⟩ := hrel
   have ho := H.out.below HB.out
   have hg := ho.heap
   rw [HN.out] at hg
   have hc2 := cellOf hg (j := 2) (v := .slice A n c) rfl
   by_cases hlt : k < n
   · obtain ⟨z, hz⟩ : ∃ x, P[k]? = some x := ⟨P[k]'(by have := HN.out; omega), gE _⟩
     obtain ⟨gs, o, rfl, hgs, hc⟩ := ho.rg k z hz
     obtain ⟨t, hzt, htl⟩ := HKS.out z (List.mem_of_getElem? hz)
     have hc0 : wr.cell? ⟨gs, o + k * 4, none⟩ = some (.string z.1) := by have := hc 0 _ rfl; simpa using this
     rw [hzt] at hc0
     have hc1 : wr.cell? ⟨gs, o + k * 4 + 1, none⟩ = some (.bool z.2.nd.dir) := hc 1 _ rfl
     have hc22 : wr.cell? ⟨gs, o + k * 4 + 2, none⟩ = some (.slice z.2.A z.2.nd.data.length z.2.c) := hc 2 _ rfl
     have hc3 : wr.cell? ⟨gs, o + k * 4 + 3, none⟩ = some (.int .i64 z.2.nd.time) := hc 3 _ rfl
     have hrt := rmv_take (x := x) (y := y) hz
     have hix : inF x z = withinF x t := by unfold inF; rw [hzt, bs_list]
     rw [hix] at hrt
     have HMV := hide (show mvN x y z = (bs (tgt x y t), z.2) by unfold mvN; rw [hzt, bs_list])
     have HIX := hide hix
     have HZT := hide hzt
     have HZ := hide hz
     have b1 : (k : Int) < (n : Int) := by omega
     have hrl : (rmvN x y (P.take k)).length ≤ 100000 := by
       unfold rmvN
       rw [List.length_map]
       refine Nat.le_trans (List.length_filter_le _ _) ?_
       rw [List.length_take]
       omega
     have HRL := hide hrl
     obtain ⟨D, hD⟩ : ∃ m, z.2.nd.data.length = m := ⟨_, rfl⟩
     rw [hD] at hc22
     have HD := hide hD
     clear ho hg hc hz hgs hix hzt hrl hD
     go_wp2_with fail
     obtain ⟨wa, hwa⟩ : ∃ W, wr.alloc (.cells #[.string (bs t), .bool z.2.nd.dir, .slice z.2.A D z.2.c, .int .i64 z.2.nd.time] 172) = W := ⟨_, rfl⟩
     have hnw := heapNew wr (.cells #[.string (bs t), .bool z.2.nd.dir, .slice z.2.A D z.2.c, .int .i64 z.2.nd.time] 172)
     have hba : Below w.heap.size wr (wr.alloc (.cells #[.string (bs t), .bool z.2.nd.dir, .slice z.2.A D z.2.c, .int .i64 z.2.nd.time] 172)) := (Below.refl _ wr).alloc HB.out.size _
     have hba2 : Below wr.heap.size wr (wr.alloc (.cells #[.string (bs t), .bool z.2.nd.dir, .slice z.2.A D z.2.c, .int .i64 z.2.nd.time] 172)) := (Below.refl _ wr).alloc (Nat.le_refl _) _
     have hoa := OwnG.keptB HO.out hba2
     rw [hwa] at hnw hba hba2 hoa ⊢
     obtain ⟨nb, hnb⟩ : ∃ b, wr.heap.size = b := ⟨_, rfl⟩
     have HNBE := hide hnb
     have hnbw : w.heap.size ≤ nb := by have := HB.out.size; omega
     rw [hnb] at hnw hba2 ⊢
     have HNW := hide hnw
     have HBA := hide (HB.out.trans hba)
     have HOA := hide hoa
     have hx0 := cellOf hnw (j := 0) (v := .string (bs t)) rfl
     have hnl : nb < wa.heap.size := (Array.getElem?_eq_some_iff.1 hnw).1
     have HWI := hide (rwithin_any x t wa (by omega) (by omega))
     clear hwa hnw hba hba2 hoa hnb hc0 hc1 hc22 hc3
     cases hw : withinF x t with
     | false =>
       rw [hw] at HWI hrt HIX
       have HRT := hide hrt
       clear hrt hw
       go_wp2_with fail
       refine HWI.out.mono ?_
       rintro e w7 ⟨rfl, hb7⟩
       have HB7 := hide (below_up HBA.out hb7 HBA.out.size)
       have HO7 := hide (OwnG.keptB HOA.out hb7)
       clear hb7
       go_wp2
       go_roundw
       case rel =>
         refine ⟨k + 1, m, A', c', by go_num, by omega, rfl, by omega, ?_, ?_, HB7.out⟩
         · show OwnG _ _ _ _ _ _ _
           rw [HRT.out]
           simp only [Bool.false_eq_true, if_false, List.append_nil]
           exact HO7.out
         · show ∀ z ∈ P.take (k + 1), _
           intro u hu hin
           rw [List.take_add_one, HZ.out] at hu
           rcases List.mem_append.1 hu with hu | hu
           · exact HBD.out u hu hin
           · simp at hu
             rw [hu, HIX.out] at hin
             cases hin
       case measure => simp [intOf]; omega
     | true =>
       rw [hw] at HWI hrt HIX
       have HRT := hide hrt
       have hxt : x.length ≤ t.length := by
         exact HPX.out z (List.mem_of_getElem? HZ.out) t HZT.out hw
       have zt : (bs t).size = t.length := bs_size t
       have zx : (bs x).size = x.length := bs_size x
       have zy : (bs y).size = y.length := bs_size y
       have HEX := hide (show (bs t).extract x.length (bs t).size = bs (t.drop x.length) by rw [ext_bs, bs_size, List.take_of_length_le (by rw [List.length_drop]; omega)])
       have HAP := hide (show bs y ++ bs (t.drop x.length) = bs (tgt x y t) from bs_app y (t.drop x.length))
       have zd : (bs (t.drop x.length)).size = t.length - x.length := by rw [bs_size, List.length_drop]
       have htgl : (tgt x y t).length = y.length + (t.length - x.length) := by unfold tgt; rw [List.length_append, List.length_drop]
       have ztg : (bs (tgt x y t)).size = y.length + (t.length - x.length) := by rw [bs_size, htgl]
       obtain ⟨xl, hxl'⟩ : ∃ n, x.length = n := ⟨_, rfl⟩
       obtain ⟨tl, htl'⟩ : ∃ n, t.length = n := ⟨_, rfl⟩
       obtain ⟨yl, hyl'⟩ : ∃ n, y.length = n := ⟨_, rfl⟩
       have HTG := hide htgl
       rw [hxl'] at zd hxt zx HEX ztg hxl HTG HAP
       rw [htl'] at zd hxt htl zt ztg HTG
       rw [hyl'] at zy hyl ztg HTG
       rw [zt] at HEX
       have HX2 := hide hxl'
       rw [← HEX.out] at zd HAP
       clear hrt hw htgl hxl' htl' hyl'
       go_wp2_with fail
       refine HWI.out.mono ?_
       rintro e w7 ⟨rfl, hb7⟩
       have hnw7 := (hb7.block nb hnl).trans HNW.out
       have HB7 := hide (below_up HBA.out hb7 HBA.out.size)
       have HO7 := hide (OwnG.keptB HOA.out hb7)
       have hx7 := cellOf hnw7 (j := 0) (v := .string (bs t)) rfl
       have hf7 := freeOf hnw7 0
       have hnl7 : nb < w7.heap.size := (Array.getElem?_eq_some_iff.1 hnw7).1
       have HNW8 := hide (heapSet (j := 0) hnw7 (.string (bs (tgt x y t))))
       obtain ⟨w8, hw8⟩ : ∃ W, w7.setCell ⟨nb, 0, none⟩ (.string (bs (tgt x y t))) = W := ⟨_, rfl⟩
       have hb8 : Below w.heap.size w w8 := hw8 ▸ HB7.out.setCell (p := ⟨nb, 0, none⟩) hnbw _
       rw [hw8] at HNW8
       have HB8 := hide hb8
       have HK8 := hide (show Kp w7 w8 (fun k => k = nb) from hw8 ▸ Kp.set w7 nb 0 _)
       have hy0 := cellOf HNW8.out (j := 0) (v := .string (bs (tgt x y t))) rfl
       clear hb7 hnw7 hb8
       have hap := HAP.out
       by_cases b200 : 200 < yl + (tl - xl)
       · have bi : (200 : Int) < ((yl + (tl - xl) : Nat) : Int) := by omega
         have hmy1 := HM5.out.trans (if_pos ⟨z, List.mem_of_getElem? HZ.out, HIX.out, by
           rw [HZT.out, bs_list]
           unfold badT
           rw [HTG.out]
           exact .inl b200⟩)
         have HE := hide (HER.out (by omega))
         rw [hmy1] at HE
         clear hmy1
         go_wp2
         go_ret
         rw [HE.out]
         exact ⟨rfl, RK.stay H.out HB8.out⟩
       have bi : ¬ (200 : Int) < ((yl + (tl - xl) : Nat) : Int) := by omega
       have HPA := hide (rparts_any [47] (tgt x y t) w8 (by simp) (by rw [HTG.out]; omega))
       rw [show bs [47] = (⟨#[47]⟩ : ByteArray) from rfl] at HPA
       obtain ⟨pl, hpl⟩ : ∃ n, (partsF [47] (tgt x y t)).length = n := ⟨_, rfl⟩
       have HPL := hide hpl
       have hpl3 : pl ≤ 100000 := by
         have := partsF_len [47] (tgt x y t)
         rw [hpl, HTG.out] at this
         simp at this
         omega
       clear hpl
       by_cases b20 : 20 < pl
       · have hmy1 := HM5.out.trans (if_pos ⟨z, List.mem_of_getElem? HZ.out, HIX.out, by
           rw [HZT.out, bs_list]
           unfold badT
           rw [HPL.out]
           exact .inr b20⟩)
         have HE := hide (HER.out (by omega))
         rw [hmy1] at HE
         have bpi : (20 : Int) < (pl : Int) := by omega
         clear hmy1
         go_wp2_with fail
         refine HPA.out.mono ?_
         rintro e w9 ⟨⟨v, rfl, ho9⟩, hb9⟩
         obtain ⟨A9, c9, rfl, hc9, _, _⟩ := OwnS.slice ho9
         have HB9 := hide (below_up HB8.out hb9 HB8.out.size)
         clear ho9 hb9
         rw [List.length_map, HPL.out]
         go_wp2
         go_ret
         rw [HE.out]
         exact ⟨rfl, RK.stay H.out HB9.out⟩
       have bpi : ¬ (20 : Int) < (pl : Int) := by omega
       have HNB := hide (show ¬ badT x y z.1.data.toList by
         rw [HZT.out, bs_list]
         unfold badT
         rw [HPL.out, HTG.out]
         omega)
       have HO8 := hide (show OwnG encE 4 172 w8 w.heap.size (.slice A' m c') (rmvN x y (P.take k)) from by
         refine ⟨HO7.out.1, ?_⟩
         rcases HO7.out.2 with h2 | ⟨g2, cap, cur, e2, hg2, hh2, r2⟩
         · exact .inl h2
         · refine .inr ⟨g2, cap, cur, e2, hg2, (HK8.out.block g2 (Array.getElem?_eq_some_iff.1 hh2).1 ?_).trans hh2, r2⟩
           have h3 := (HO.out.lt g2 (by rw [e2]; rfl)).2
           have := HNBE.out
           omega)
       go_wp2_with fail
       refine HPA.out.mono ?_
       rintro e w9 ⟨⟨v, rfl, ho9⟩, hb9⟩
       obtain ⟨A9, c9, rfl, hc9, _, _⟩ := OwnS.slice ho9
       rw [List.length_map, HPL.out]
       have hnw9 := (hb9.block nb (Array.getElem?_eq_some_iff.1 HNW8.out).1).trans HNW8.out
       have hr0 := cellOf hnw9 (j := 0) (v := .string (bs (tgt x y t))) rfl
       have hr1 := cellOf hnw9 (j := 1) (v := .bool z.2.nd.dir) rfl
       have hr2 := cellOf hnw9 (j := 2) (v := .slice z.2.A D z.2.c) rfl
       have hr3 := cellOf hnw9 (j := 3) (v := .int .i64 z.2.nd.time) rfl
       have hb9w := below_up HB8.out hb9 HB8.out.size
       have ho9' := OwnG.keptB HO8.out hb9
       obtain ⟨v', w', r', o', hb10⟩ := push_node ho9' hb9w.size HRL.out (mvN x y z) #[.string (bs (tgt x y t)), .bool z.2.nd.dir, .slice z.2.A D z.2.c, .int .i64 z.2.nd.time] (by rw [HMV.out]; unfold encE; rw [← HD.out])
       obtain ⟨A2, c2, rfl, hcl, _, _, _⟩ := o'.slice encE_len
       have HO2 := hide o'
       have HB2 := hide (hb9w.trans hb10)
       have HRUN := hide r'
       have hll : (rmvN x y (P.take k) ++ [mvN x y z]).length ≤ k + 1 := by
         rw [List.length_append, List.length_singleton]
         have h1 : (rmvN x y (P.take k)).length ≤ (P.take k).length := by
           unfold rmvN
           rw [List.length_map]
           exact List.length_filter_le _ _
         rw [List.length_take] at h1
         omega
       obtain ⟨M, hM⟩ : ∃ m, (rmvN x y (P.take k) ++ [mvN x y z]).length = m := ⟨_, rfl⟩
       rw [hM] at HO2 HRUN hll
       clear ho9 hb9 hnw9 hb9w ho9' r' o' hb10 hcl hM hx0 hx7 hy0
       go_wp2_with (first | (at_builtin; refine wpList_app_run ?_ (.tmp 135) (.tmp 137) ?_ ?_ ?_ ?_ HRUN.out ?_; exact rfl; exact rfl; exact rfl; exact rfl; exact rfl))
       go_roundw
       case rel =>
         refine ⟨k + 1, M, A2, c2, by go_num, by omega, rfl, by omega, ?_, ?_, HB2.out⟩
         · show OwnG _ _ _ _ _ _ _
           rw [HRT.out]
           exact HO2.out
         · show ∀ z ∈ P.take (k + 1), _
           intro u hu hin
           rw [List.take_add_one, HZ.out] at hu
           rcases List.mem_append.1 hu with hu | hu
           · exact HBD.out u hu hin
           · simp at hu
             rw [hu]
             exact HNB.out
       case measure => simp [intOf]; omega
   · obtain ⟨wq, hwq⟩ : ∃ X, X = wr := ⟨_, rfl⟩
     subst hwq
     obtain rfl : n = k := by omega
     have htk : P.take n = P := List.take_of_length_le (by have := HN.out; omega)
     rw [htk] at HO HBD
     have hmy0 : my = 0 := HM5.out.trans (if_neg (by
       rintro ⟨z, hz, h1, h2⟩
       exact HBD.out z hz h1 h2))
     have hRE := HR5.out.trans (if_neg (by rw [hmy0]; simp))
     have hMv : (moveQ S x y).m = rmoveM S.m x y (S.clock + 1) ∧ ∃ nd, getG S.m (bs x) = some nd := by
       rcases HCS.out with h1 | ⟨a', b', hmv, _, h2, h3⟩
       · exfalso
         rw [hRE] at h1
         have := congrArg St.clock h1
         change S.clock + 1 = S.clock at this
         omega
       · have e1 := absS_fst hr1 h2 (joinF_ne _)
         have e2 := absS_fst hr2 h3 (joinF_ne _)
         rw [← e1, ← e2]
         exact ⟨hmv.rsame, hmv.node⟩
     obtain ⟨hMQ, nd, hnd⟩ := hMv
     have hM0 : rmvN x y P ≠ [] := by
       rw [H.out.eq] at hnd
       have := getG_mem hnd
       unfold stripN at this
       obtain ⟨u, hu, e⟩ := List.mem_map.1 this
       have hu1 : u.1 = bs x := congrArg Prod.fst e
       have hin : inF x u = true := by
         unfold inF
         rw [hu1, bs_list, EA.out]
         exact (within_join ga.ok ga.ok).2 List.prefix_rfl
       intro h0
       have : mvN x y u ∈ rmvN x y P := List.mem_map.2 ⟨u, List.mem_filter.2 ⟨hu, hin⟩, rfl⟩
       rw [h0] at this
       cases this
     obtain ⟨gm, rfl, hml, hmc, hgmw, hmr⟩ := MRow.of HO.out hM0
     have hpl := parts_len (x := x) (y := y) (P := P)
     have hPl := HL.out
     have HD1 := hide (rdrop_any g S A c P x wq (H.out.below HB.out) HL.out HKS.out (by omega))
     have HMR := hide hmr
     have hgmg : gm ≠ g := by have := hmr.ge; omega
     have HRE := hide hRE
     have HMQ := hide hMQ
     have HSRC := hide (fun z (h : z ∈ rmvN x y P) => rmv_src h)
     obtain ⟨M, hM⟩ : ∃ M, rmvN x y P = M := ⟨_, rfl⟩
     have HMD := hide hM
     rw [hM] at hml hmc hpl HMR HSRC
     clear htk hmy0 hRE hMQ hnd hM0 hmr hM ho hg HO HBD
     subst hml
     have hmI : (M.length : Int) ≤ 10000 := by omega
     go_wp2_with fail
     refine HD1.out.mono ?_
     rintro e w8 ⟨rfl, A1, c1, ho1, hk1, hA1⟩
     have HD2 := hide (rdrop_any g _ A1 c1 _ y w8 ho1 (Nat.le_trans (List.length_filter_le _ _) HL.out) (fun z hz => HKS.out z (List.mem_filter.1 hz).1) (by omega))
     have HK1 := hide hk1
     clear ho1 hk1 HD1
     go_wp2_with fail
     refine HD2.out.mono ?_
     rintro e w9 ⟨rfl, A2, c2, ho2, hk2, hA2⟩
     have hg9 := ho2.heap
     have hc3 := cellOf hg9 (j := 3) (v := .int .i64 S.clock) rfl
     have hf3 := freeOf hg9 3
     have ht := ho2.tick (S.clock + 1)
     rw [show ((S.clock + 1 : Nat) : Int) = (S.clock : Int) + 1 from rfl] at ht
     have hkt := Kp.set w9 g 3 (.int .i64 ((S.clock : Int) + 1))
     obtain ⟨W0, hW0⟩ : ∃ W, w9.setCell ⟨g, 3, none⟩ (.int .i64 ((S.clock : Int) + 1)) = W := ⟨_, rfl⟩
     rw [hW0] at ht hkt
     have hkw : Kp wq W0 (fun k => k = g) := (HK1.out.then hk2).then hkt
     have HM0 := hide (HMR.out.kp hkw hgmg)
     have HWS := hide hkw.size
     have HKW := hide (show Kp w W0 (fun k => k = g) from (Kp.of_below HB.out _).then hkw)
     obtain ⟨P2, hP2⟩ : ∃ Q, (P.filter (outF x)).filter (outF y) = Q := ⟨_, rfl⟩
     have HP2 := hide hP2
     change RSO g _ A2 c2 ((P.filter (outF x)).filter (outF y)) W0 at ht
     rw [hP2] at ht hpl
     have HQ0 := hide (show RSO g (SQ S P2) A2 c2 P2 W0 from ⟨ht.heap, ht.cap, ht.rg, ht.dat, rfl, ht.top, ht.neA, ht.neD, ht.lt⟩)
     have HA0 := hide (show ∀ a, A2 = some a → wq.heap.size ≤ a.block from fun a e => by have := hA2 a e; have := HK1.out.size; omega)
     have HSQ := hide (show ∀ z ∈ P2, ∃ u ∈ P, u.2.A = z.2.A ∧ u.2.nd.data = z.2.nd.data ∧ u.2.c = z.2.c from fun z hz => by
       rw [← hP2] at hz
       exact ⟨z, (List.mem_filter.1 (List.mem_filter.1 hz).1).1, rfl, rfl, rfl⟩)
     clear ho2 hk2 hg9 ht hkt hkw hP2 hA2 hA1 HD2 HMR
     go_wp2
     go_loopw [16] (fun v16 wr => ∃ i : Nat, v16 = .int .i64 i ∧ i ≤ M.length ∧ Hid (∃ Ai ci, RSO g (SQ S (rfoldN y (S.clock + 1) (M.take i) P2)) Ai ci (rfoldN y (S.clock + 1) (M.take i) P2) wr ∧ ∀ a, Ai = some a → wq.heap.size ≤ a.block) ∧ Hid (∃ L', MRow wr w.heap.size gm L' ∧ L'.length = M.length ∧ L'.drop i = M.drop i) ∧ Hid (Kp w wr (fun k => k = g)) ∧ Hid (wq.heap.size ≤ wr.heap.size)) (fun v16 _ => M.length - (intOf v16).toNat)
     case atStart => exact ⟨0, rfl, Nat.zero_le _, ⟨A2, c2, HQ0.out, HA0.out⟩, ⟨M, HM0.out, rfl, rfl⟩, HKW.out, HWS.out⟩
     case round =>
       obtain ⟨W, hWr⟩ : ∃ X, X = wr := ⟨_, rfl⟩
       subst hWr
       obtain ⟨i, rfl, hi, HQI, HMI, HKI, HAI⟩ := hrel
       obtain ⟨Ai, ci, hoi, hAi⟩ := HQI.out
       by_cases hlt2 : i < M.length
       · obtain ⟨z, hz⟩ : ∃ z, M[i]? = some z := ⟨M[i], gE _⟩
         obtain ⟨L', hmr, hLl, hLd⟩ := HMI.out
         have hLz : L'[i]? = some z := by
           have h1 : (L'.drop i)[0]? = (M.drop i)[0]? := by rw [hLd]
           rw [List.getElem?_drop, List.getElem?_drop, Nat.add_zero, hz] at h1
           exact h1
         obtain ⟨ge, oe, ee, hgel, hcz⟩ := hmr.rg i z hLz
         injection ee with ee
         injection ee with ee1 ee2
         subst ee1 ee2
         rw [Nat.zero_add] at hcz
         have hz0 : W.cell? ⟨gm, i * 4, none⟩ = some (.string z.1) := by have := hcz 0 _ rfl; simpa using this
         have hz1 : W.cell? ⟨gm, i * 4 + 1, none⟩ = some (.bool z.2.nd.dir) := hcz 1 _ rfl
         have hz2 : W.cell? ⟨gm, i * 4 + 2, none⟩ = some (.slice z.2.A z.2.nd.data.length z.2.c) := hcz 2 _ rfl
         have hz3 : W.cell? ⟨gm, i * 4 + 3, none⟩ = some (.int .i64 z.2.nd.time) := hcz 3 _ rfl
         obtain ⟨cur, hcur⟩ := hmr.blk
         have hzf := freeOf hcur (i * 4 + 3)
         have hgi := hoi.heap
         have hgc3 := cellOf hgi (j := 3) (v := .int .i64 ((S.clock : Int) + 1)) rfl
         have hit := rfold_take (y := y) (t := S.clock + 1) (Q := P2) hz
         have hil := rfold_len y (S.clock + 1) (M.take i) P2
         rw [List.length_take] at hil
         have hi10 : (rfoldN y (S.clock + 1) (M.take i) P2).length ≤ 10000 := by omega
         have hsrcQ := rfold_src (y := y) (t := S.clock + 1) (M.take i) P2 (P := P) HSQ.out (fun z hz => HSRC.out z (List.mem_of_mem_take hz))
         obtain ⟨u, hu, hue⟩ := HSRC.out z (List.mem_of_getElem? hz)
         have bi2 : (i : Int) < (M.length : Int) := by omega
         have hgeo := hmr.ge
         obtain ⟨Qi, hQi⟩ : ∃ Q, rfoldN y (S.clock + 1) (M.take i) P2 = Q := ⟨_, rfl⟩
         rw [hQi] at hoi hit hi10 hsrcQ
         have hicc : (M.length : Int) ≤ (c' : Int) := by omega
         have hzdat : RG encB 1 W z.2.A z.2.nd.data := by
           rw [← hue]
           exact (H.out.dat u hu).kp HKI.out (H.out.neD u hu)
         have hzne : ∀ a, z.2.A = some a → z.2.nd.data ≠ [] → a.block ≠ g := by rw [← hue]; exact H.out.neD u hu
         have hzlt : z.2.nd.data.length ≤ z.2.c := by rw [← hue]; exact H.out.lt u hu
         have hzlo : ∀ a, z.2.A = some a → z.2.nd.data ≠ [] → a.block < w.heap.size := by
           rw [← hue]
           exact fun a e hn => (H.out.dat u hu).block_lt e hn
         by_cases he : z.1 = bs y
         · have e1 : (z.1.toList == (bs y).toList) = true := by rw [he]; simp
           have hk3 : Kp W (W.setCell ⟨gm, i * 4 + 3, none⟩ (.int .i64 ((S.clock : Int) + 1))) (fun k => k = gm) := Kp.set W gm _ _
           have hob := hoi.keep hk3 (fun e => hgmg e.symm) (fun a e _ => by have := hAi a e; omega) (fun v hv a e hn => by
             obtain ⟨u', hu', q1, q2, _⟩ := hsrcQ v hv
             have := (H.out.dat u' hu').block_lt (q1.trans e) (by rw [q2]; exact hn)
             omega)
           have hmrb := hmr.setT hLz (S.clock + 1)
           rw [show ((S.clock + 1 : Nat) : Int) = (S.clock : Int) + 1 from rfl] at hmrb
           have hzv : rvalN y (S.clock + 1) z = (z.1, ⟨z.2.A, z.2.c, ⟨z.2.nd.dir, z.2.nd.data, S.clock + 1⟩⟩) := by
             unfold rvalN rvalM
             rw [if_pos he]
           rw [hzv] at hit
           have hput := put_rk g (SQ S Qi) Ai ci Qi (z.1, ⟨z.2.A, z.2.c, ⟨z.2.nd.dir, z.2.nd.data, S.clock + 1⟩⟩) _ hob hi10 (SQ S (putG (z.1, ⟨z.2.A, z.2.c, ⟨z.2.nd.dir, z.2.nd.data, S.clock + 1⟩⟩) Qi)) (strip_put _ _) rfl rfl rfl (hzdat.ofB hk3.size (fun a e hn => hk3.block a.block (hzdat.block_lt e hn) (by have := hzlo a e hn; omega))) hzne hzlt
           have HPT := hide (show Calls Tryz.prog 115 #[.pointer (some ⟨g, 0, none⟩), .agg #[.string z.1, .bool z.2.nd.dir, .slice z.2.A z.2.nd.data.length z.2.c, .int .i64 ((S.clock : Int) + 1)]] _ _ from hput)
           have hs3 := World.cell?_setCell_same' W ⟨gm, i * 4 + 3, none⟩ (.int .i64 ((S.clock : Int) + 1)) (by rw [hz3]; rfl)
           have hs0 : (W.setCell ⟨gm, i * 4 + 3, none⟩ (.int .i64 ((S.clock : Int) + 1))).cell? ⟨gm, i * 4, none⟩ = some (.string z.1) := (World.cell?_setCell_other W _ _ _ (by intro e; injection e; omega)).trans hz0
           have hs1 : (W.setCell ⟨gm, i * 4 + 3, none⟩ (.int .i64 ((S.clock : Int) + 1))).cell? ⟨gm, i * 4 + 1, none⟩ = some (.bool z.2.nd.dir) := (World.cell?_setCell_other W _ _ _ (by intro e; injection e; omega)).trans hz1
           have hs2 : (W.setCell ⟨gm, i * 4 + 3, none⟩ (.int .i64 ((S.clock : Int) + 1))).cell? ⟨gm, i * 4 + 2, none⟩ = some (.slice z.2.A z.2.nd.data.length z.2.c) := (World.cell?_setCell_other W _ _ _ (by intro e; injection e; omega)).trans hz2
           obtain ⟨WB, hWB⟩ : ∃ X, W.setCell ⟨gm, i * 4 + 3, none⟩ (.int .i64 ((S.clock : Int) + 1)) = X := ⟨_, rfl⟩
           rw [hWB] at hk3 hmrb HPT hs0 hs1 hs2 hs3
           have HMRB := hide hmrb
           have HIT := hide (hit.trans rfl)
           have HLD := hide (show (L'.set i (z.1, ⟨z.2.A, z.2.c, ⟨z.2.nd.dir, z.2.nd.data, S.clock + 1⟩⟩)).length = M.length ∧ (L'.set i (z.1, ⟨z.2.A, z.2.c, ⟨z.2.nd.dir, z.2.nd.data, S.clock + 1⟩⟩)).drop (i + 1) = M.drop (i + 1) from ⟨by rw [List.length_set, hLl], by
             rw [List.drop_set_of_lt (by omega), ← List.drop_drop, ← List.drop_drop, hLd]⟩)
           have HKB := hide (show Kp w WB (fun k => k = g) from HKI.out.trans (hk3.mono fun k e => .inr (by omega)))
           have hwbs : wq.heap.size ≤ WB.heap.size := by
             have h1 := hk3.size
             have h2 := HAI.out
             omega
           clear hoi hAi hz hmr hLl hLd hLz hcz hcur hgi hit hil hsrcQ hu hue hgeo hzdat hzne hzlt hzlo he hk3 hob hmrb hput hz1 hz2 hzv hQi
           go_wp2_with fail
           refine HPT.out.mono ?_
           rintro e W2 ⟨rfl, A3, c3, ho3, hk3, hA3⟩
           have HO3 := hide ho3
           have HK3 := hide hk3
           have HA3 := hide hA3
           clear ho3 hk3 hA3
           go_wp2
           go_roundw
           case rel =>
             refine ⟨i + 1, by go_num, by omega, ⟨A3, c3, ?_, fun a e => ?_⟩, ⟨_, HMRB.out.kp HK3.out hgmg, HLD.out.1, HLD.out.2⟩, HKB.out.then HK3.out, Nat.le_trans hwbs HK3.out.size⟩
             · rw [HIT.out]
               exact HO3.out
             · have := HA3.out a e
               omega
           case measure => simp [intOf]; omega
         · have e1 : (z.1.toList == (bs y).toList) = false := txt_ne he
           have hzv : rvalN y (S.clock + 1) z = z := by
             unfold rvalN rvalM
             rw [if_neg he]
           rw [hzv] at hit
           have hput := put_rk g (SQ S Qi) Ai ci Qi z _ hoi hi10 (SQ S (putG z Qi)) (strip_put _ _) rfl rfl rfl hzdat hzne hzlt
           have HPT := hide (show Calls Tryz.prog 115 #[.pointer (some ⟨g, 0, none⟩), .agg #[.string z.1, .bool z.2.nd.dir, .slice z.2.A z.2.nd.data.length z.2.c, .int .i64 z.2.nd.time]] _ _ from hput)
           have HMRB := hide hmr
           have HIT := hide (hit.trans rfl)
           have HLD := hide (show L'.length = M.length ∧ L'.drop (i + 1) = M.drop (i + 1) from ⟨hLl, by rw [← List.drop_drop, ← List.drop_drop, hLd]⟩)
           have hwbs : wq.heap.size ≤ W.heap.size := HAI.out
           clear hoi hAi hz hmr hLl hLd hLz hcz hcur hgi hit hil hsrcQ hu hue hgeo hzdat hzne hzlt hzlo he hput hzv hQi
           go_wp2_with fail
           refine HPT.out.mono ?_
           rintro e W2 ⟨rfl, A3, c3, ho3, hk3, hA3⟩
           have HO3 := hide ho3
           have HK3 := hide hk3
           have HA3 := hide hA3
           clear ho3 hk3 hA3
           go_wp2
           go_roundw
           case rel =>
             refine ⟨i + 1, by go_num, by omega, ⟨A3, c3, ?_, fun a e => ?_⟩, ⟨_, HMRB.out.kp HK3.out hgmg, HLD.out.1, HLD.out.2⟩, HKI.out.then HK3.out, Nat.le_trans hwbs HK3.out.size⟩
             · rw [HIT.out]
               exact HO3.out
             · have := HA3.out a e
               omega
           case measure => simp [intOf]; omega
       · obtain rfl : i = M.length := by omega
         rw [List.take_of_length_le (Nat.le_refl _)] at hoi
         have hsrcQ := rfold_src (y := y) (t := S.clock + 1) M P2 (P := P) HSQ.out HSRC.out
         have HFIN := hide (show RK g (moveQ S x y) w A P W from by
           refine ⟨Ai, ci, _, ⟨hoi.heap, hoi.cap, hoi.rg, hoi.dat, ?_, hoi.top, hoi.neA, hoi.neD, hoi.lt⟩, HKI.out, fun a e _ => .inl (by have := hAi a e; have := HB.out.size; omega), fun v hv a e hn => ?_⟩
           · rw [HMQ.out, H.out.eq, ← rmove_strip, ← HP2.out, ← HMD.out]
           · obtain ⟨u, hu, q1, q2, _⟩ := hsrcQ v hv
             exact .inr ⟨u, hu, q1.trans e, by rw [q2]; exact hn⟩)
         clear hoi hAi hsrcQ
         go_wp2
         go_ret
         rw [HRE.out]
         exact ⟨rfl, HFIN.out⟩
end
end Go.Proofs.YtmcophlmcloooaaGreatDoor
