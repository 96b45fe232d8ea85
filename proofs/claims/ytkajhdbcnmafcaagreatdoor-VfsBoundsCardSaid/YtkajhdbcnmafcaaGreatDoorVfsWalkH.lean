/- Walks of the file system's Read, Remove and Copy. -/
import Derived.Test.YtkajhdbcnmafcaaGreatDoorVfsWalkG
import Derived.Test.YtkajhdbcnmafcaaGreatDoorVfsWalkD
import Derived.Test.YtkajhdbcnmafcaaGreatDoorShelf
import Derived.Test.YtkajhdbcnmafcaaGreatDoorShelfH
namespace Go.Proofs.YtkajhdbcnmafcaaGreatDoor
open Go.RowKit Go.Deep Go.Maps Ln Pth Vf
attribute [local go_sem] bt_eq fld0 fld1 fld2 mkMap

theorem valsB (D : List UInt8) : valsG encB D = (D.map fun b => (b.toNat : Int)).map (Value.int .u8) := by
  unfold valsG encB
  rw [List.map_map]
  induction D with
  | nil => rfl
  | cons x D ih => rw [List.flatMap_cons, List.map_cons, ih]; rfl
/-- bytes.Clone: a row of the call's own -/
theorem bclone_any (A : Option Addr) (c : Nat) (D : List UInt8) (w : World) (hA : RG encB 1 w A D) (hl : D.length ≤ 10000000) :
    Calls Tryz.prog 58 #[.slice A D.length c] w fun e w' => (∃ v, e = .returned v ∧ OwnY w' w.heap.size v D) ∧ Below w.heap.size w w' := by
  cases A with
  | none =>
    have hD : D = [] := by
      cases D with
      | nil => rfl
      | cons b l =>
        obtain ⟨g, o, e, _⟩ := hA 0 b rfl
        cases e
    subst hD
    refine (Tryz.bytes_Clone_nil 0 c w).mono ?_
    rintro e w' ⟨rfl, rfl⟩
    exact ⟨⟨_, rfl, OwnG.nil _ _⟩, Below.refl _ _⟩
  | some a =>
    refine (Tryz.bytes_Clone_at a D.length c (D.map fun b => (b.toNat : Int)) w (by simp) (by omega) (fun i hi => ?_)).mono ?_
    · obtain ⟨g, o, e, _, h1⟩ := hA i D[i] (List.getElem?_eq_getElem hi)
      injection e with e
      subst e
      have h2 := h1 0 _ rfl
      rw [Nat.mul_one, Nat.add_zero] at h2
      have e2 : (Addr.mk g o none).add i = ⟨g, o + i, none⟩ := by
        unfold Addr.add
        split
        · rename_i h0; subst h0; rfl
        · rfl
      rw [e2, h2]
      simp [hi]
    · rintro e w' ⟨v, rfl, ho, _, hb⟩
      refine ⟨⟨v, rfl, ?_⟩, hb⟩
      show World.ownsRow _ _ _ _ _ _ _
      rw [valsB]
      exact ho
/-- what Read tells -/
def ReadPost (r : T × Nat) (w : World) (e : Ending) (w' : World) : Prop := (∃ v, e = .returned (.tuple #[v, .int .i64 r.2]) ∧ OwnY w' w.heap.size v r.1) ∧ Below w.heap.size w w'
set_option maxRecDepth 100000 in
set_option maxHeartbeats 1000000 in
theorem read_any (g : Nat) (S : St) (hS : WfS S) (p : T) (w : World) (h : Hs (VS g S) w) (hm : MX w) (hp : p.length ≤ 50000) :
    Calls Tryz.prog 82 #[.pointer (some ⟨g, 0, none⟩), .string (bs p)] w (ReadPost (readS S p) w) := by
  have HA := hide (vfound_any g S p w h hm hp)
  have hl : (foundS S p).1.length ≤ 200 := absS_len S p
  have HK := hide (fun W (hb : Below w.heap.size w W) => kind_any g S (foundS S p).1 W (h.below (VS.fr g S) hb) (by omega))
  have HND := hide (fun W (hb : Below w.heap.size w W) => node_at (h.below (VS.fr g S) hb) (foundS S p).1 (by omega))
  have hdl := dataM_len hS (foundS S p).1
  have hus := hS.bytes
  have hb20 := hS.b20
  have hR : readS S p = if (foundS S p).2 ≠ 0 then ([], (foundS S p).2) else if kindM S.m (foundS S p).1 = 2 then ([], 10) else (dataM S.m (foundS S p).1, 0) := rfl
  unfold AbsPost at HA
  obtain ⟨q, hq⟩ : ∃ q, (foundS S p).1 = q := ⟨_, rfl⟩
  obtain ⟨e, he⟩ : ∃ q, (foundS S p).2 = q := ⟨_, rfl⟩
  rw [hq] at HA HK HND hR hl hdl
  rw [he] at HA hR
  obtain ⟨y, hy⟩ : ∃ y, kindM S.m q = y := ⟨_, rfl⟩
  rw [hy] at HK hR
  have HR := hide hR
  clear hR hq he hy h hm
  by_cases c1 : e = 0
  case neg =>
    obtain ⟨t1, t2⟩ := ne0 c1
    have HE := hide (HR.out.trans (if_pos c1))
    clear c1
    go_enter Tryz.func82, Tryz.ntmps82
    go_wp2_with fail
    refine HA.out.mono ?_
    rintro e w1 ⟨rfl, hb⟩
    have HB := hide hb
    clear hb
    go_wp2
    go_ret2
    unfold ReadPost
    rw [HE.out]
    exact ⟨⟨_, rfl, OwnG.nil _ _⟩, HB.out⟩
  subst c1
  have hRQ := HR.out.trans (if_neg (by simp))
  by_cases c2 : y = 2
  · subst c2
    have HE := hide (hRQ.trans (if_pos rfl))
    clear hRQ
    go_enter Tryz.func82, Tryz.ntmps82
    go_wp2_with fail
    refine HA.out.mono ?_
    rintro e w1 ⟨rfl, hb⟩
    have HB := hide hb
    clear hb
    go_wp2_with fail
    refine (HK.out w1 HB.out).mono ?_
    rintro e w2 ⟨rfl, hb⟩
    have HB2 := hide (below_up HB.out hb HB.out.size)
    clear hb
    go_wp2
    go_ret2
    unfold ReadPost
    rw [HE.out]
    exact ⟨⟨_, rfl, OwnG.nil _ _⟩, HB2.out⟩
  · have c2' : ((y : Int) == 2) = false := by simp; omega
    have HE := hide (hRQ.trans (if_neg c2))
    clear hRQ c2
    obtain ⟨D, hD⟩ : ∃ D, dataM S.m q = D := ⟨_, rfl⟩
    rw [hD] at HE HND hdl
    clear hD
    go_enter Tryz.func82, Tryz.ntmps82
    go_wp2_with fail
    refine HA.out.mono ?_
    rintro e w1 ⟨rfl, hb⟩
    have HB := hide hb
    clear hb
    go_wp2_with fail
    refine (HK.out w1 HB.out).mono ?_
    rintro e w2 ⟨rfl, hb⟩
    have HB2 := hide (below_up HB.out hb HB.out.size)
    clear hb
    obtain ⟨bm, db, A0, c0, tm, hc0, hlk, hr0, _, _⟩ := HND.out w2 HB2.out
    have HC := hide (bclone_any A0 c0 D w2 hr0 (by omega))
    clear hr0
    go_wp2_with fail
    refine HC.out.mono ?_
    rintro e w3 ⟨⟨v, rfl, ho⟩, hb⟩
    have HB3 := hide (below_up HB2.out hb HB2.out.size)
    have HO := hide (ho.base HB2.out.size)
    clear hb ho
    go_wp2
    go_ret2
    unfold ReadPost
    rw [HE.out]
    exact ⟨⟨_, rfl, HO.out⟩, HB3.out⟩
set_option maxRecDepth 100000 in
set_option maxHeartbeats 2000000 in
theorem copy_any (g : Nat) (S : St) (T N : Nat → Prop) (w : World) (h : VS g S T N w) (ok : OkTN T N w) :
    Calls Tryz.prog 38 #[.pointer (some ⟨g, 0, none⟩)] w fun e w' => ∃ g', e = .returned (.pointer (some ⟨g', 0, none⟩)) ∧ VS g' S (fun k => w.heap.size ≤ k ∧ k < w'.heap.size) N w' ∧ Below w.heap.size w w' := by
  obtain ⟨b, P, h1, h2, hgb, hg, hmap, hsm, hx⟩ := h
  have hbl := (ok.1 b h2).1
  have hc0 := cellOf hg (j := 0) (v := .map (some b)) rfl
  have hc1 := cellOf hg (j := 1) (v := .int .i64 S.nodes) rfl
  have hc2 := cellOf hg (j := 2) (v := .int .i64 S.bytes) rfl
  have hc3 := cellOf hg (j := 3) (v := .int .i64 S.used) rfl
  have hc4 := cellOf hg (j := 4) (v := .int .i64 S.clock) rfl
  have hba := (Below.refl w.heap.size w).alloc (Nat.le_refl _) (.cells #[.map (some b), .int .i64 S.nodes, .int .i64 S.bytes, .int .i64 S.used, .int .i64 S.clock] 86)
  have hca0 := (hba.cell (p := ⟨g, 0, none⟩) (World.block_lt_of_cell? _ _ hc0)).trans hc0
  have HC := hide (Go.Proofs.AnyW.maps_Clone_owns Tryz.clone81 9 hR b P.length (datG fN P) _ (hmap.of (hba.block b hbl)))
  have HX := hide (And.intro hsm (And.intro hx ok))
  have HBA := hide hba
  clear hg hmap hsm hx ok hba h1 h2 hgb
  go_enter Tryz.func38, Tryz.ntmps38
  go_wp2_with fail
  refine HC.out.mono ?_
  rintro e w2 ⟨rfl, hn, ho, hb2⟩
  have hsz : (w.alloc (.cells #[.map (some b), .int .i64 S.nodes, .int .i64 S.bytes, .int .i64 S.used, .int .i64 S.clock] 86)).heap.size = w.heap.size + 1 := by simp
  rw [hsz] at hn ⊢
  have hg2 := (hb2.block w.heap.size (by simp)).trans (heapNew w (.cells #[.map (some b), .int .i64 S.nodes, .int .i64 S.bytes, .int .i64 S.used, .int .i64 S.clock] 86))
  have hz0 := freeOf hg2 0
  have hy0 := cellOf hg2 (j := 0) (v := .map (some b)) rfl
  have hb3 := below_up HBA.out hb2 HBA.out.size
  have HN := hide (show MapN w2 (w.heap.size + 1) P from hn)
  have HG2 := hide hg2
  have HB3 := hide hb3
  clear hn ho hb2 hg2 hb3 hsz
  go_wp2
  go_ret
  have hnl := HN.out.lt
  have hbf : Below w.heap.size w (w2.setCell ⟨w.heap.size, 0, none⟩ (.map (some (w.heap.size + 1)))) := HB3.out.setCell (Nat.le_refl _) _
  refine ⟨w.heap.size, rfl, ⟨w.heap.size + 1, P, ⟨Nat.le_refl _, by simp; omega⟩, ⟨by omega, by simpa using hnl⟩, by omega, ?_, HN.out.of (Below.heap_setCell _ _ _ _ (by simp)), HX.out.1, fun x hx => ⟨?_, fun a e => ?_⟩⟩, hbf⟩
  · rw [heapSet HG2.out]
    rfl
  · exact (HX.out.2.1 x hx).1.of hbf.size (fun a e hl => hbf.block a.block hl)
  · exact (HX.out.2.1 x hx).2 a e
set_option maxRecDepth 100000 in
set_option maxHeartbeats 2000000 in
theorem remove_any (g : Nat) (S : St) (p : T) (T N : Nat → Prop) (w : World) (h : VS g S T N w) (ok : OkTN T N w) (hS : WfS S) (hm : MX w) (hp : p.length ≤ 50000) (hck : S.clock ≤ 1000000000) :
    Calls Tryz.prog 21 #[.pointer (some ⟨g, 0, none⟩), .string (bs p)] w (FsPost g (removeS S p) T N w) := by
  have HH : Hs (VS g S) w := ⟨T, N, h, ok⟩
  have HA := hide (vfound_any g S p w HH hm hp)
  have hl : (foundS S p).1.length ≤ 200 := absS_len S p
  have hR : removeS S p = if (foundS S p).2 ≠ 0 then (S, (foundS S p).2) else if (foundS S p).1 = [47] then (S, 1) else if belowM S.m (foundS S p).1 ≠ [] then (S, 14) else ({ S with m := delG (bs (foundS S p).1) S.m, used := S.used - (dataM S.m (foundS S p).1).length, clock := S.clock + 1 }, 0) := rfl
  unfold AbsPost at HA
  have hdl := dataM_len hS (foundS S p).1
  have hus := hS.bytes
  have hb20 := hS.b20
  obtain ⟨q, hq⟩ : ∃ q, (foundS S p).1 = q := ⟨_, rfl⟩
  obtain ⟨e, he⟩ : ∃ q, (foundS S p).2 = q := ⟨_, rfl⟩
  rw [hq] at HA hR hl hdl
  rw [he] at HA hR
  have HBL := hide (fun W (hb : Below w.heap.size w W) => below_any g S hS q W (HH.below (VS.fr g S) hb) (by omega))
  have HR := hide hR
  have H := hide h
  have OK := hide ok
  have HWF := hide hS
  clear hR he h ok hS HH hq hm
  by_cases c1 : e = 0
  case neg =>
    obtain ⟨t1, t2⟩ := ne0 c1
    have HE := hide (HR.out.trans (if_pos c1))
    clear c1
    go_enter Tryz.func21, Tryz.ntmps21
    go_wp2_with fail
    refine HA.out.mono ?_
    rintro e w1 ⟨rfl, hb⟩
    have HB := hide hb
    clear hb
    go_wp2
    go_ret
    rw [HE.out]
    exact FsPost.stay H.out OK.out HB.out
  subst c1
  have hRQ := HR.out.trans (if_neg (by simp))
  by_cases q1 : q = [47]
  · have ht : ((bs q).toList == [47]) = true := by rw [bs_toList, q1]; rfl
    have HE := hide (hRQ.trans (if_pos q1))
    clear hRQ q1
    go_enter Tryz.func21, Tryz.ntmps21
    go_wp2_with fail
    refine HA.out.mono ?_
    rintro e w1 ⟨rfl, hb⟩
    have HB := hide hb
    clear hb
    go_wp2
    go_ret
    rw [HE.out]
    exact FsPost.stay H.out OK.out HB.out
  have ht : ((bs q).toList == [47]) = false := by rw [bs_toList]; simpa using q1
  have hRR := hRQ.trans (if_neg q1)
  clear hRQ
  obtain ⟨n, hn⟩ : ∃ n, (belowM S.m q).length = n := ⟨_, rfl⟩
  have hbn : belowM S.m q ≠ [] ↔ n ≠ 0 := by rw [← hn, Ne, Ne, List.length_eq_zero_iff]
  by_cases n0 : n = 0
  case neg =>
    have HE := hide (hRR.trans (if_pos (hbn.2 n0)))
    have hn1 : (0 : Int) < (n : Int) := by omega
    have HN := hide hn
    clear hRR q1 hn hbn n0
    go_enter Tryz.func21, Tryz.ntmps21
    go_wp2_with fail
    refine HA.out.mono ?_
    rintro e w1 ⟨rfl, hb⟩
    have HB := hide hb
    clear hb
    go_wp2_with fail
    refine (HBL.out w1 HB.out).mono ?_
    rintro e w2 ⟨⟨v, rfl, ho⟩, hb⟩
    obtain ⟨A5, c5, rfl, _, _, _⟩ := ho.slice
    rw [List.length_map, HN.out]
    have HB2 := hide (below_up HB.out hb HB.out.size)
    clear hb ho
    go_wp2
    go_ret
    rw [HE.out]
    exact FsPost.stay H.out OK.out HB2.out
  subst n0
  have HE := hide (hRR.trans (if_neg (fun h => hbn.1 h rfl)))
  have HN := hide hn
  obtain ⟨m, hmm⟩ : ∃ n, (dataM S.m q).length = n := ⟨_, rfl⟩
  rw [hmm] at hdl HE
  have HMM := hide hmm
  clear hRR q1 hn hbn hmm
  go_enter Tryz.func21, Tryz.ntmps21
  go_wp2_with fail
  refine HA.out.mono ?_
  rintro e w1 ⟨rfl, hb⟩
  have HB := hide hb
  clear hb
  go_wp2_with fail
  refine (HBL.out w1 HB.out).mono ?_
  rintro e w2 ⟨⟨v, rfl, ho⟩, hb⟩
  obtain ⟨A5, c5, rfl, _, _, _⟩ := ho.slice
  rw [List.length_map, HN.out]
  have HB2 := hide (below_up HB.out hb HB.out.size)
  clear hb ho
  have HBD := hide HB2.out.drew
  obtain ⟨hv2, ok2⟩ := H.out.stay OK.out HBD.out
  obtain ⟨b', db, A0, c0, tm, hc0', hlk, _, _, _⟩ := node_at ⟨T, N, hv2, ok2⟩ q (by omega)
  obtain ⟨b, P, h1, h2, hgb, hg, hmp, hsm, hx⟩ := hv2
  have hc0 := cellOf hg (j := 0) (v := .map (some b)) rfl
  have e := hc0.symm.trans hc0'
  injection e with e
  injection e with e
  injection e with e
  subst e
  clear hc0'
  rw [HMM.out] at hlk
  have hg' : w2.heap[g]? = some (.cells #[.map (some b), .int .i64 S.nodes, .int .i64 S.bytes, .int .i64 S.used, .int .i64 S.clock] 86) := hg
  have hq0 : w2.cell? ⟨g, 0, none⟩ = some (.map (some b)) := cellOf hg' (j := 0) rfl
  have hq3 : w2.cell? ⟨g, 3, none⟩ = some (.int .i64 S.used) := cellOf hg' (j := 3) rfl
  have hf3 := freeOf hg' 3
  have hg3 : (w2.drew.setCell ⟨g, 3, none⟩ (.int .i64 ((S.used : Int) - (m : Int)))).heap[g]? = some (.cells #[.map (some b), .int .i64 S.nodes, .int .i64 S.bytes, .int .i64 ((S.used : Int) - (m : Int)), .int .i64 S.clock] 86) := by
    rw [heapSet hg]
    rfl
  obtain ⟨w4, hrun, hm4, hk4, hsz4⟩ := ndrop (hmp.of (w' := w2.drew.setCell ⟨g, 3, none⟩ (.int .i64 ((S.used : Int) - (m : Int)))) (Below.heap_setCell _ _ _ _ (by simpa using fun e => hgb e.symm))) (s := bs q) (by rw [bs_size]; omega) 0
  have hq30 := cellOf hg3 (j := 0) (v := .map (some b)) rfl
  have hgl := (ok2.1 g h1).1
  have hg4 := (hk4.block g (by simpa using hgl) hgb).trans hg3
  have hq44 : w4.cell? ⟨g, 4, none⟩ = some (.int .i64 S.clock) := cellOf hg4 (j := 4) rfl
  have hf44 := freeOf hg4 4
  have hk3 : Kp w w4 T := ((Kp.of_below HBD.out T).trans (Kp.mono (S' := fun k => T k ∨ w.heap.size ≤ k) (⟨rfl, rfl, rfl, by simp, fun k hk hne => Below.heap_setCell _ _ _ _ (by simpa using hne)⟩ : Kp w2.drew (w2.drew.setCell ⟨g, 3, none⟩ (.int .i64 ((S.used : Int) - (m : Int)))) (fun k => k = g)) (fun k e => .inl (e ▸ h1)))).trans (hk4.mono fun k e => .inl (e ▸ h2))
  have hk5 : Kp w (w4.setCell ⟨g, 4, none⟩ (.int .i64 ((S.clock : Int) + 1))) T := hk3.trans (Kp.mono (⟨rfl, rfl, rfl, by simp, fun k hk hne => Below.heap_setCell _ _ _ _ (by simpa using hne)⟩ : Kp w4 (w4.setCell ⟨g, 4, none⟩ (.int .i64 ((S.clock : Int) + 1))) (fun k => k = g)) (fun k e => .inl (e ▸ h1)))
  have hg5 : (w4.setCell ⟨g, 4, none⟩ (.int .i64 ((S.clock : Int) + 1))).heap[g]? = some (.cells #[.map (some b), .int .i64 S.nodes, .int .i64 S.bytes, .int .i64 ((S.used : Int) - (m : Int)), .int .i64 ((S.clock : Int) + 1)] 86) := by
    rw [heapSet hg4]
    rfl
  have hm5 : MapN (w4.setCell ⟨g, 4, none⟩ (.int .i64 ((S.clock : Int) + 1))) b (delG (bs q) P) := hm4.of (Below.heap_setCell _ _ _ _ (by simpa using fun e => hgb e.symm))
  have HFS := hide (show FsPost g ({ S with m := delG (bs q) S.m, used := S.used - m, clock := S.clock + 1 }, 0) T N w (.returned (.int .i64 0)) (w4.setCell ⟨g, 4, none⟩ (.int .i64 ((S.clock : Int) + 1))) from by
    refine ⟨rfl, N, ⟨b, delG (bs q) P, h1, h2, hgb, ?_, hm5, ?_, fun x hxm => ?_⟩, GrowN.refl OK.out hk5.size, hk5⟩
    · rw [hg5]
      have e1 : (S.used : Int) - (m : Int) = ((S.used - m : Nat) : Int) := by omega
      rw [e1]
      rfl
    · show delG (bs q) S.m = _
      rw [strip_del, hsm]
    · have hxp : x ∈ P := by
        unfold delG at hxm
        exact (List.mem_filter.1 hxm).1
      have h0 := hx x hxp
      exact ⟨h0.1.of (show w2.drew.heap.size ≤ _ from by have := hk4.size; simp at this ⊢; omega) (fun a ea hl => by
        have hN := h0.2 a ea
        have hT : ¬ T a.block := fun ht => (ok2.1 _ ht).2 hN
        rw [Below.heap_setCell _ _ _ _ (by simp; exact fun e => hT (e ▸ h1)), hk4.block a.block (by simpa using hl) (fun e => hT (e ▸ h2)), Below.heap_setCell _ _ _ _ (by simp; exact fun e => hT (e ▸ h1))]), h0.2⟩)
  have wr1 : IntKind.i64.wrap ((S.used : Int) - (m : Int)) = (S.used : Int) - (m : Int) := IntWalk.i64_in _ (by omega)
  have hckI : (S.clock : Int) ≤ 1000000000 := by omega
  have hrun' : (Builtin.delete_ #[84, 9] 0 #[.map (some b), .string (bs q)]).run Tryz.prog (w2.setCell ⟨g, 3, none⟩ (.int .i64 ((S.used : Int) - (m : Int)))).drew = .ok (.tuple #[]) w4 := hrun
  clear hrun hg hmp hsm hx hg3 hm4 hk4 hg4 hk3 hk5 hg5 hm5 ok2 hsz4 hc0 hg'
  go_wp2_with fail
  go_region
  go_wp2
  go_ret
  rw [HE.out]
  exact HFS.out
end Go.Proofs.YtkajhdbcnmafcaaGreatDoor
