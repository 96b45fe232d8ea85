/- Walks and plain facts that the claim uses. -/
import Derived.Test.YtpheeheikigenaaGreatDoorFB0
import Derived.Deep.CutRange
import Derived.Deep.LoopGhost
import Derived.Deep.RegionHeld3
import Derived.Lib.SplitLaws
import Derived.Lib.Hide
import Derived.Maps.OwnSet
import Derived.Maps.StringElems
import Derived.Maps.Views
import Derived.StringKeys
import Derived.Lib.Bytealg
import Derived.Shelf.Strings.Split
import Derived.Lib.Join
import Derived.Laws.IdiomStrings
import Derived.BigQuiet
import Derived.Deep.QuietTactic
import Derived.StillTailTactics
import Derived.Test.YtpheeheikigenaaGreatDoorProg
import Derived.Ground.SlsfProg
import Derived.Shelf.SlSortCmp.NoneTotal
import Derived.Shelf.Spec.SlicesGrow
import Derived.Ground.Names8Prog
import Derived.Lib.SlBytesConst
import Derived.Deep.CutBlock
import Derived.Deep.SlicePairs
import Derived.OpenShut
import Derived.ProofKit
import Derived.SliceStrings
import Derived.Lib.SlicesS
import Derived.SizedLaws
set_option maxRecDepth 100000
set_option maxHeartbeats 16000000
set_option linter.unusedSimpArgs false
set_option linter.unusedVariables false
namespace Go.Proofs.YtpheeheikigenaaGreatDoor
section
open Go.RowKit Go.Deep
attribute [local go_sem] bt_eq
def SplitP (R : List (List Pt)) (w : World) (e : Ending) (w' : World) : Prop := ∃ (out : List FR) (A : Option Addr) (c : Nat), e = .returned (.slice A out.length c) ∧ out.map FR.L = R ∧ RG encFR 1 w' A out ∧ (∀ r ∈ out, RG encPt 6 w' r.A r.L ∧ r.L.length ≤ r.c ∧ r.L ≠ []) ∧ Below w.heap.size w w'
theorem SpI.made (w : World) : SpI w w.heap.size (w.heap.size + 1) [] [] (.slice none 0 0) (.slice none 0 0) ((w.alloc (.cells #[.slice none 0 0] tyF)).alloc (.cells #[.slice none 0 0] tyN)) := by
 have h1 := heapNew w (.cells #[.slice none 0 0] tyF)
 have h2 := heapNew (w.alloc (.cells #[.slice none 0 0] tyF)) (.cells #[.slice none 0 0] tyN)
 simp only [World.size_alloc] at h2
 exact ⟨((Below.refl _ _).alloc (Nat.le_refl _) _).alloc (by simp) _, ⟨Nat.le_refl _, by omega, by omega⟩, (Below.heap_alloc _ _ _ (by simp)).trans h1, h2, OwnG.nil _ _, OwnG.nil _ _, fun k e => by simp [Value.ownBlock] at e, fun k e => by simp [Value.ownBlock] at e, fun r hr => by cases hr⟩
theorem flush_len (s : Sp) : (flushS s).2.length = 0 := by
 unfold flushS
 split
 · rename_i h; rw [h]; rfl
 · rfl
theorem SpP.mono {w0 w : World} {po pn : Nat} {s : Sp} {m m' : Nat} (h : SpP w0 po pn s m w) (hm : m ≤ m') : SpP w0 po pn s m' w := by
 obtain ⟨out, vo, vn, h1, h2, h3⟩ := h
 exact ⟨out, vo, vn, h1, Nat.le_trans h2 hm, h3⟩
theorem SpP.step {w0 w w' : World} {po pn : Nat} {s : Sp} {m : Nat} (h : SpP w0 po pn s m w) (hb : Below w.heap.size w w') : SpP w0 po pn s m w' := by
 obtain ⟨out, vo, vn, h1, h2, h3⟩ := h
 exact ⟨out, vo, vn, h1, h2, h3.step hb⟩
theorem ownB_len {A : Option Addr} {n m c k : Nat} (h : (Value.slice A n c).ownBlock = some k) : (Value.slice A m c).ownBlock = some k := by
 cases A with
 | none => exact h
 | some a => exact h
theorem push_pack {w0 W : World} {po pn : Nat} {s : Sp} {m : Nat} (h : SpP w0 po pn s m W) (hl : s.2.length ≤ 1000000) (x : Pt) :
   ∃ (A : Option Addr) (n c g c' : Nat) (w4 : World), n = s.2.length ∧ W.cell? ⟨pn, 0, none⟩ = some (.slice A n c) ∧
     (W.alloc (.cells #[.int .i64 0, .string ⟨#[]⟩, .string ⟨#[]⟩, .string ⟨#[]⟩, .slice none 0 0, .bool false] tyP)).cell? ⟨pn, 0, none⟩ = some (.slice A n c) ∧
     (Builtin.append_ #[tyN, tyN] tyN #[.slice A n c, .slice (some ⟨W.heap.size, 0, none⟩) 1 1]).run Tryz.prog (W.drew.alloc (.cells #[.int .i64 0, .string ⟨#[]⟩, .string ⟨#[]⟩, .string ⟨#[]⟩, .slice none 0 0, .bool false] tyP)) = .ok (.slice (some ⟨g, 0, none⟩) (n + 1) c') w4 ∧
     (w4.cell? ⟨pn, 0, none⟩ = some (.slice A n c) ∧ w4.frozen? ⟨pn, 0, none⟩ = false) ∧ Can6 w4 g (n * 6) x ∧
     ((set6 w4 g (n * 6) x).cell? ⟨pn, 0, none⟩ = some (.slice A n c) ∧ (set6 w4 g (n * 6) x).frozen? ⟨pn, 0, none⟩ = false) ∧
     Can6 (w4.setCell ⟨pn, 0, none⟩ (.slice (some ⟨g, 0, none⟩) (n + 1) c')) g (n * 6) x ∧
     SpP w0 po pn (s.1, s.2 ++ [x]) m ((set6 w4 g (n * 6) x).setCell ⟨pn, 0, none⟩ (.slice (some ⟨g, 0, none⟩) (n + 1) c')) ∧
     SpP w0 po pn (s.1, s.2 ++ [x]) m (set6 (w4.setCell ⟨pn, 0, none⟩ (.slice (some ⟨g, 0, none⟩) (n + 1) c')) g (n * 6) x) := by
 obtain ⟨out, vo, vn, ho1, ho2, hi⟩ := h
 obtain ⟨A, c, rfl, _, _, _, _⟩ := hi.on.slice encPt_len
 have hid := hi.step (Below.refl _ _).drew
 obtain ⟨g, c', w4, hrun, hp, k1, hp2, k3, hcm, _, hfin⟩ := hid.push hl x
 have hcn := cellOfF hi.hn (j := 0) (v := .slice A s.2.length c) rfl
 have hpn := (Array.getElem?_eq_some_iff.1 hi.hn).1
 refine ⟨A, s.2.length, c, g, c', w4, rfl, hcn, ?_, hrun, hp, k1, hp2, k3, ⟨out, vo, _, ho1, ho2, hfin⟩, ?_⟩
 · rw [World.cell?_of_block (Below.heap_alloc W _ pn hpn)]
   exact hcn
 · rw [hcm]
   exact ⟨out, vo, _, ho1, ho2, hfin⟩
theorem fsplit_any (A : Option Addr) (c : Nat) (L : List Pt) (w : World) (hA : RG encPt 6 w A L) (hl : L.length ≤ 100) (hz : ∀ p ∈ L, p.text.size ≤ 5000) :
   Calls Tryz.prog 40 #[.slice A L.length c] w (SplitP (splitS L) w) := by
 have HA := hide hA
 have HZ := hide hz
 obtain ⟨n, hn⟩ : ∃ n, L.length = n := ⟨_, rfl⟩
 have HN := hide hn
 rw [hn] at hl ⊢
 have hni : (n : Int) ≤ 100 := by omega
 have HI0 := hide (show SpP w w.heap.size (w.heap.size + 1) ([], []) 0 _ from ⟨[], _, _, rfl, Nat.le_refl _, SpI.made w⟩)
 clear hA hz hn
 go_enter Tryz.func40, Tryz.ntmps40
 go_wp2
 go_loopw [7, 8, 9, 13] (fun _ _ _ v13 wr => ∃ k : Nat, v13 = .int .i64 k ∧ k ≤ n ∧ Hid (SpP w w.heap.size (w.heap.size + 1) ((L.take k).foldl stS ([], [])) (k * 5001) wr) ∧ Hid (((L.take k).foldl stS ([], [])).2.length ≤ k * 5001)) (fun _ _ _ v13 _ => n - (intOf v13).toNat)
 case atStart => exact ⟨0, rfl, by omega, by simpa using HI0, hide (by simp)⟩
 case round =>
   obtain ⟨wo, hwo⟩ : ∃ Z, Z = wr := ⟨_, rfl⟩
   subst hwo
   obtain ⟨k, rfl, hk, HSP, HLN⟩ := hrel
   obtain ⟨out, vo, vn, ho1, ho2, hi⟩ := HSP.out
   have HI := hide hi
   by_cases hlt : k < n
   case neg =>
     obtain rfl : k = n := by omega
     have htk : L.take k = L := List.take_of_length_le (by have := HN.out; omega)
     have hsp := HSP.out
     have hln := HLN.out
     rw [htk] at hsp hln
     have HEN := hide (end_any w w.heap.size (w.heap.size + 1) _ _ wo hsp (by omega) (by omega))
     clear hsp hln htk hi
     go_wp2_with fail
     refine HEN.out.mono ?_
     rintro e wf ⟨rfl, hsp⟩
     obtain ⟨out2, vo2, vn2, ho3, ho4, hi2⟩ := hsp
     obtain ⟨A2, c2, rfl, _, hrg, _, _⟩ := hi2.oo.slice encFR_len
     have hco := cellOfF hi2.ho (j := 0) (v := .slice A2 out2.length c2) rfl
     have HF := hide (show SplitP (splitS L) w (.returned (.slice A2 out2.length c2)) wf from ⟨out2, A2, c2, rfl, ho3, hrg, fun r hr => ⟨(hi2.rows r hr).1, (hi2.rows r hr).2.1, (hi2.rows r hr).2.2.1⟩, hi2.below⟩)
     clear ho3 hrg hi2
     go_wp2
     go_ret
     exact HF.out
   obtain ⟨x, hx⟩ : ∃ x, L[k]? = some x := ⟨L[k]'(by have := HN.out; omega), gE _⟩
   obtain ⟨g, o, rfl, hg, hc⟩ := HA.out.below hi.below k x hx
   have hc0 : wo.cell? ⟨g, o + k * 6, none⟩ = some (.int .i64 x.kind) := by have := hc 0 _ rfl; simpa using this
   have hc1 : wo.cell? ⟨g, o + k * 6 + 1, none⟩ = some (.string x.text) := hc 1 _ rfl
   have hc2 : wo.cell? ⟨g, o + k * 6 + 2, none⟩ = some (.string x.name) := hc 2 _ rfl
   have hc3 : wo.cell? ⟨g, o + k * 6 + 3, none⟩ = some (.string x.op) := hc 3 _ rfl
   have hc4 : wo.cell? ⟨g, o + k * 6 + 4, none⟩ = some (.slice x.wA x.wn x.wc) := hc 4 _ rfl
   have hc5 : wo.cell? ⟨g, o + k * 6 + 5, none⟩ = some (.bool x.q) := hc 5 _ rfl
   have b1 : (k : Int) < (n : Int) := by omega
   have hz := HZ.out x (List.mem_of_getElem? hx)
   have hst : (L.take (k + 1)).foldl stS ([], []) = stS ((L.take k).foldl stS ([], [])) x := by rw [List.take_add_one, hx, List.foldl_append]; rfl
   have HST := hide hst
   obtain ⟨sk, hsk⟩ : ∃ s, (L.take k).foldl stS ([], []) = s := ⟨_, rfl⟩
   rw [hsk] at HSP HLN HST ho1 HI
   obtain ⟨kd, tx, nm, op, wA, wn, wk, q⟩ := x
   dsimp only at hc0 hc1 hc2 hc3 hc4 hc5 hz
   have HBX := hide (heapNew wo (.cells #[.int .i64 kd, .string tx, .string nm, .string op, .slice wA wn wk, .bool q] tyP))
   have HI1 := hide (HI.out.step ((Below.refl _ _).alloc (Nat.le_refl _) (.cells #[.int .i64 kd, .string tx, .string nm, .string op, .slice wA wn wk, .bool q] tyP)))
   clear hi hc hx hst hsk
   by_cases hkd : kd = 1
   case neg =>
     have t1 : (kd != 1) = true := by simpa using hkd
     have t2 : ¬ kd = 1 := hkd
     go_wp2_with fail
     go_step3
     go_upto_region 8 with (fail)
     obtain ⟨A1, c1, rfl, _, _, _, _⟩ := HI1.out.on.slice encPt_len
     obtain ⟨gp, hgp⟩ : ∃ g, wo.heap.size = g := ⟨_, rfl⟩
     obtain ⟨w1, hw1⟩ : ∃ W, wo.alloc (.cells #[.int .i64 kd, .string tx, .string nm, .string op, .slice wA wn wk, .bool q] tyP) = W := ⟨_, rfl⟩
     rw [hw1, hgp] at HBX
     rw [hw1] at HI1
     have HID := hide (HI1.out.step (Below.refl _ _).drew)
     obtain ⟨pn, hpn⟩ : ∃ k, w.heap.size + 1 = k := ⟨_, rfl⟩
     obtain ⟨g9, c9, w4, hrun, ⟨p1, p2⟩, k1, ⟨p3, p4⟩, k3, hcm, hall, hfin⟩ := HID.out.push (by have := HLN.out; omega) ⟨kd, tx, nm, op, wA, wn, wk, q⟩
     have hnw := HLN.out
     obtain ⟨nw, hnw2⟩ : ∃ m, sk.2.length = m := ⟨_, rfl⟩
     rw [hnw2] at hrun p1 p3 k1 k3 hcm hall hfin
     rw [hpn] at p1 p2 p3 p4 k3 hcm hall
     have hwn : wo.heap.size < w1.heap.size := by rw [← hw1]; simp
     have hw1n : w.heap.size + 1 < wo.heap.size := (Array.getElem?_eq_some_iff.1 HI.out.hn).1
     have hgq := hall gp (by rw [← hgp]; exact hwn) (by rw [← hgp, ← hpn]; omega) (fun e => by have := (HI.out.on.lt gp (ownB_len e)).2; omega)
     have HQ := hide (fun (Z : World) (e : Z.heap[gp]? = some (.cells #[.int .i64 kd, .string tx, .string nm, .string op, .slice wA wn wk, .bool q] tyP)) => show (fun Z => Z.cell? ⟨gp, 0, none⟩ = some (.int .i64 kd) ∧ Z.cell? ⟨gp, 1, none⟩ = some (.string tx) ∧ Z.cell? ⟨gp, 2, none⟩ = some (.string nm) ∧ Z.cell? ⟨gp, 3, none⟩ = some (.string op) ∧ Z.cell? ⟨gp, 4, none⟩ = some (.slice wA wn wk) ∧ Z.cell? ⟨gp, 5, none⟩ = some (.bool q)) Z from ⟨cellOfF e (j := 0) rfl, cellOfF e (j := 1) rfl, cellOfF e (j := 2) rfl, cellOfF e (j := 3) rfl, cellOfF e (j := 4) rfl, cellOfF e (j := 5) rfl⟩)
     have hgd : w1.drew.heap[gp]? = some (.cells #[.int .i64 kd, .string tx, .string nm, .string op, .slice wA wn wk, .bool q] tyP) := HBX.out
     have HGD := hide hgd
     have HGA := hide ((Below.heap_alloc w1.drew (.cells #[.int .i64 0, .string ⟨#[]⟩, .string ⟨#[]⟩, .string ⟨#[]⟩, .slice none 0 0, .bool false] tyP) gp (by rw [← hgp]; exact hwn)).trans hgd)
     have HG4 := hide (hgq.1.trans hgd)
     have HG6 := hide (hgq.2.1.trans hgd)
     have HGN := hide (hgq.2.2.1.trans hgd)
     have HGF := hide (hgq.2.2.2.trans hgd)
     have HGF2 := hide (show (set6 (w4.setCell ⟨pn, 0, none⟩ (.slice (some ⟨g9, 0, none⟩) (nw + 1) c9)) g9 (nw * 6) ⟨kd, tx, nm, op, wA, wn, wk, q⟩).heap[gp]? = some (.cells #[.int .i64 kd, .string tx, .string nm, .string op, .slice wA wn wk, .bool q] tyP) from by rw [hcm]; exact hgq.2.2.2.trans hgd)
     have HFIN := hide (show SpP w w.heap.size (w.heap.size + 1) (sk.1, sk.2 ++ [⟨kd, tx, nm, op, wA, wn, wk, q⟩]) (k * 5001) ((set6 w4 g9 (nw * 6) ⟨kd, tx, nm, op, wA, wn, wk, q⟩).setCell ⟨pn, 0, none⟩ (.slice (some ⟨g9, 0, none⟩) (nw + 1) c9)) from by rw [← hpn]; exact ⟨out, vo, _, ho1, ho2, hfin⟩)
     have HFIN2 := hide (show SpP w w.heap.size (w.heap.size + 1) (sk.1, sk.2 ++ [⟨kd, tx, nm, op, wA, wn, wk, q⟩]) (k * 5001) (set6 (w4.setCell ⟨pn, 0, none⟩ (.slice (some ⟨g9, 0, none⟩) (nw + 1) c9)) g9 (nw * 6) ⟨kd, tx, nm, op, wA, wn, wk, q⟩) from by rw [hcm]; exact HFIN.out)
     have hcn := cellOfF HID.out.hn (j := 0) (v := .slice A1 sk.2.length c1) rfl
     rw [hnw2, hpn] at hcn
     have hcnA : (w1.alloc (.cells #[.int .i64 0, .string ⟨#[]⟩, .string ⟨#[]⟩, .string ⟨#[]⟩, .slice none 0 0, .bool false] tyP)).cell? ⟨pn, 0, none⟩ = some (.slice A1 nw c1) := by
       rw [World.cell?_of_block (Below.heap_alloc w1 _ pn (by rw [← hpn]; show w.heap.size + 1 < w1.heap.size; omega))]
       exact hcn
     unfold Can6 at k1 k3
     dsimp only at k1 k3
     unfold set6 at p3 p4
     dsimp only at p3 p4
     obtain ⟨⟨⟨_, a0⟩, a1⟩, ⟨⟨_, a2⟩, a3⟩, ⟨⟨_, a4⟩, a5⟩, ⟨⟨_, a6⟩, a7⟩, ⟨⟨_, a8⟩, a9⟩, ⟨⟨_, a10⟩, a11⟩⟩ := k1
     obtain ⟨⟨⟨_, d0⟩, d1⟩, ⟨⟨_, d2⟩, d3⟩, ⟨⟨_, d4⟩, d5⟩, ⟨⟨_, d6⟩, d7⟩, ⟨⟨_, d8⟩, d9⟩, ⟨⟨_, d10⟩, d11⟩⟩ := k3
     have HRW := hide hpn
     have HW1 := hide hw1
     have HGP := hide hgp
     have nwi : (nw : Int) ≤ 600000 := by omega
     have bnw : (nw : Int) < (nw : Int) + 1 := by omega
     clear hall hfin hcm hgq hgd hw1n hwn hnw hnw2
     rw [HW1.out, HGP.out, HRW.out]
     go_cut [25] from 20 to 25 (fun _ w' => SpP w w.heap.size (w.heap.size + 1) (sk.1, sk.2 ++ [⟨kd, tx, nm, op, wA, wn, wk, q⟩]) (k * 5001) w')
     case first =>
       refine wp_region_held_drew (S := (fun Z => Z.cell? ⟨gp, 0, none⟩ = some (.int .i64 kd) ∧ Z.cell? ⟨gp, 1, none⟩ = some (.string tx) ∧ Z.cell? ⟨gp, 2, none⟩ = some (.string nm) ∧ Z.cell? ⟨gp, 3, none⟩ = some (.string op) ∧ Z.cell? ⟨gp, 4, none⟩ = some (.slice wA wn wk) ∧ Z.cell? ⟨gp, 5, none⟩ = some (.bool q))) (by kernel_rfl) (HQ.out _ HGD.out) (fun hHeld => ?_)
       refine tq (i := 1) (v := ?vP1) rfl rfl (by kernel_rfl) (fun _ _ _ h => h) ?yP1 (by assumption) ?rP1
       case yP1 => intro w h; (try dsimp only at h); go_simp; try with_reducible rfl
       try simp only [sA, sB, sC]
       refine wpAnyH_ready (rs := [0, 3]) (by kernel_rfl) (by simp) ?_
       refine AllReadyH.cons (o := _) rfl (fun K hK => ?way1) (AllReadyH.cons (o := _) rfl (fun K hK => ?way2) AllReadyH.nil)
       case way1 =>
         rw [if_pos (by kernel_rfl)]
         go_simp
         refine hK.out _ _ (HQ.out _ HGD.out) (fun _ => ?_)
         clear hK K
         try simp only [Act.put, sA, sB, sC]
         refine tq (i := 2) (v := ?vP1b2) rfl rfl (by kernel_rfl) (fun _ _ _ h => h) ?yP1b2 (by assumption) ?rP1b2
         case yP1b2 => intro w h; (try dsimp only at h); go_simp; try with_reducible rfl
         try simp only [sA, sB, sC]
         refine rq (k := 3) rfl (by kernel_rfl) (by kernel_rfl) (fun K hK => ?_)
         go_simp
         refine hK.out _ _ (HQ.out _ HGA.out) (fun _ => ?_)
         clear hK K
         try simp only [Act.put, sA, sB, sC]
         refine wpAnyH_ready (rs := [4]) (by kernel_rfl) (by simp) ?_
         refine AllReadyH.cons (o := _) rfl (fun K hK => ?_) AllReadyH.nil
         refine step_app_run rfl _ _ rfl rfl rfl rfl hrun ?_
         refine hK.out _ _ (HQ.out _ HG4.out) (fun _ => ?_)
         clear hK K
         try simp only [Act.put, sA, sB, sC]
         refine tq (i := 5) (v := ?vP1b5) rfl rfl (by kernel_rfl) (fun _ _ _ h => h) ?yP1b5 (by assumption) ?rP1b5
         case yP1b5 => intro w h; (try dsimp only at h); go_simp; try with_reducible rfl
         try simp only [sA, sB, sC]
         refine wpAnyH_ready (rs := [6, 7]) (by kernel_rfl) (by simp) ?_
         refine AllReadyH.cons (o := _) rfl (fun K hK => ?wa) (AllReadyH.cons (o := _) rfl (fun K hK => ?wb) AllReadyH.nil)
         case wa =>
           rw [if_pos (by kernel_rfl)]
           go_simp
           refine hK.out _ _ (HQ.out _ HG6.out) (fun _ => ?_)
           clear hK K
           try simp only [Act.put, sA, sB, sC]
           refine rq (k := 7) rfl (by kernel_rfl) (by kernel_rfl) (fun K hK => ?_)
           go_simp
           refine hK.out _ _ (HQ.out _ HGF.out) (fun _ => ?_)
           clear hK K
           try simp only [Act.put, sA, sB, sC]
           refine wpAnyH_done (by kernel_rfl) ?_ _
           go_wp2
           go_meet
           exact HFIN.out
         case wb =>
           rw [if_pos (by kernel_rfl)]
           go_simp
           refine hK.out _ _ (HQ.out _ HGN.out) (fun _ => ?_)
           clear hK K
           try simp only [Act.put, sA, sB, sC]
           refine rq (k := 6) rfl (by kernel_rfl) (by kernel_rfl) (fun K hK => ?_)
           go_simp
           refine hK.out _ _ (HQ.out _ HGF2.out) (fun _ => ?_)
           clear hK K
           try simp only [Act.put, sA, sB, sC]
           refine wpAnyH_done (by kernel_rfl) ?_ _
           go_wp2
           go_meet
           exact HFIN2.out
       case way2 =>
         rw [if_pos (by kernel_rfl)]
         go_simp
         refine hK.out _ _ (HQ.out _ HGA.out) (fun _ => ?_)
         clear hK K
         try simp only [Act.put, sA, sB, sC]
         refine rq (k := 0) rfl (by kernel_rfl) (by kernel_rfl) (fun K hK => ?_)
         go_simp
         refine hK.out _ _ (HQ.out _ HGA.out) (fun _ => ?_)
         clear hK K
         try simp only [Act.put, sA, sB, sC]
         refine tq (i := 2) (v := ?vP2b2) rfl rfl (by kernel_rfl) (fun _ _ _ h => h) ?yP2b2 (by assumption) ?rP2b2
         case yP2b2 => intro w h; (try dsimp only at h); go_simp; try with_reducible rfl
         try simp only [sA, sB, sC]
         refine wpAnyH_ready (rs := [4]) (by kernel_rfl) (by simp) ?_
         refine AllReadyH.cons (o := _) rfl (fun K hK => ?_) AllReadyH.nil
         refine step_app_run rfl _ _ rfl rfl rfl rfl hrun ?_
         refine hK.out _ _ (HQ.out _ HG4.out) (fun _ => ?_)
         clear hK K
         try simp only [Act.put, sA, sB, sC]
         refine tq (i := 5) (v := ?vP2b5) rfl rfl (by kernel_rfl) (fun _ _ _ h => h) ?yP2b5 (by assumption) ?rP2b5
         case yP2b5 => intro w h; (try dsimp only at h); go_simp; try with_reducible rfl
         try simp only [sA, sB, sC]
         refine wpAnyH_ready (rs := [6, 7]) (by kernel_rfl) (by simp) ?_
         refine AllReadyH.cons (o := _) rfl (fun K hK => ?wa) (AllReadyH.cons (o := _) rfl (fun K hK => ?wb) AllReadyH.nil)
         case wa =>
           rw [if_pos (by kernel_rfl)]
           go_simp
           refine hK.out _ _ (HQ.out _ HG6.out) (fun _ => ?_)
           clear hK K
           try simp only [Act.put, sA, sB, sC]
           refine rq (k := 7) rfl (by kernel_rfl) (by kernel_rfl) (fun K hK => ?_)
           go_simp
           refine hK.out _ _ (HQ.out _ HGF.out) (fun _ => ?_)
           clear hK K
           try simp only [Act.put, sA, sB, sC]
           refine wpAnyH_done (by kernel_rfl) ?_ _
           go_wp2
           go_meet
           exact HFIN.out
         case wb =>
           rw [if_pos (by kernel_rfl)]
           go_simp
           refine hK.out _ _ (HQ.out _ HGN.out) (fun _ => ?_)
           clear hK K
           try simp only [Act.put, sA, sB, sC]
           refine rq (k := 6) rfl (by kernel_rfl) (by kernel_rfl) (fun K hK => ?_)
           go_simp
           refine hK.out _ _ (HQ.out _ HGF2.out) (fun _ => ?_)
           clear hK K
           try simp only [Act.put, sA, sB, sC]
           refine wpAnyH_done (by kernel_rfl) ?_ _
           go_wp2
           go_meet
           exact HFIN2.out
     case rest =>
     obtain ⟨wz, hwz⟩ : ∃ Z, Z = wc := ⟨_, rfl⟩
     have HC := hide hcut
     have hst : stS sk ⟨kd, tx, nm, op, wA, wn, wk, q⟩ = (sk.1, sk.2 ++ [⟨kd, tx, nm, op, wA, wn, wk, q⟩]) := by unfold stS; rw [if_neg t2]
     have HS2 := hide (HST.out.trans hst)
     have hpn := HRW.out
     have hgp := HGP.out
     subst hpn
     subst hgp
     clear hcut hst HQ HGD HGA HG4 HG6 HGN HGF HGF2 HFIN HFIN2 HBX HI1 HID hrun p1 p2 p3 p4 hcn hcnA a0 a1 a2 a3 a4 a5 a6 a7 a8 a9 a10 a11 d0 d1 d2 d3 d4 d5 d6 d7 d8 d9 d10 d11
     go_wp2
     refine ⟨⟨k + 1, by go_num, by omega, hide ?_, hide ?_⟩, by simp [intOf]; omega⟩
     · rw [HS2.out]; exact HC.out.mono (by omega)
     · rw [HS2.out]
       have := HLN.out
       show (sk.2 ++ [_]).length ≤ _
       rw [List.length_append, List.length_singleton]
       omega
   subst hkd
   have t1 : ((1 : Int) != 1) = false := rfl
   go_wp2_with fail
   go_step3
   go_wp2_with fail
   go_step3
   go_wp2_with fail
   have HS0 := hide (show SpP w w.heap.size (w.heap.size + 1) sk (k * 5001) (wo.alloc (.cells #[.int .i64 1, .string tx, .string nm, .string op, .slice wA wn wk, .bool q] tyP)) from ⟨out, vo, vn, ho1, ho2, HI1.out⟩)
   clear HI1 HBX HI hc0 hc1 hc2 hc3 hc4 hc5
   go_loopg [8, 9] tx.size (fun g8 v8 _ wr => ∃ (rest : ByteArray) (s : Sp) (m : Nat), v8 = .string rest ∧ g8 = rest.size ∧ rest.size ≤ tx.size ∧ Hid (txS [] rest.data.toList s = txS [] tx.data.toList sk) ∧ Hid (SpP w w.heap.size (w.heap.size + 1) s m wr) ∧ m + rest.size ≤ k * 5001 + 5000 ∧ Hid (s.2.length ≤ k * 5001))
   case atStart => exact ⟨tx, sk, k * 5001, rfl, rfl, Nat.le_refl _, hide rfl, HS0, by omega, HLN⟩
   case round =>
     obtain ⟨wq, hwq⟩ : ∃ Z, Z = wr := ⟨_, rfl⟩
     subst hwq
     obtain ⟨rest, s, m, rfl, hg8, hrt, HTX, HSQ, hm, HSL⟩ := hrel
     have hbel := HSQ.out
     by_cases hr0 : rest.size = 0
     · have hre : rest.data.toList = [] := List.length_eq_zero_iff.1 (by rw [← Lib.size_eq]; exact hr0)
       have hem : rest.toList.isEmpty = true := by rw [Lib.toList_data, hre]; rfl
       have htx := HTX.out
       rw [hre] at htx
       have HE := hide (show stS sk ⟨1, tx, nm, op, wA, wn, wk, q⟩ = s from by unfold stS; rw [if_pos rfl]; exact htx.symm)
       clear hbel htx hre hr0
       go_wp2
       rw [Exit.noGoto_normal]
       go_wp2
       refine ⟨⟨k + 1, by go_num, by omega, hide ?_, hide ?_⟩, by simp [intOf]; omega⟩
       · rw [HST.out, HE.out]; exact HSQ.out.mono (by omega)
       · rw [HST.out, HE.out]
         have := HSL.out
         omega
     have hem : rest.toList.isEmpty = false := by
       rw [Lib.toList_data]
       cases h : rest.data.toList with
       | nil => exact absurd (by rw [Lib.size_eq, h]; rfl) hr0
       | cons _ _ => rfl
     have hrz : rest.size ≤ 5000 := by omega
     have HIA := hide (iany_any rest wq (by omega))
     have HB0 := HSQ.out
     rcases ixB_cases rest.data.toList with ⟨hx, hno⟩ | ⟨a, b, r2, hsp, hx, hna, hbb⟩
     · rw [hx] at HIA
       have HE := hide (show stS sk ⟨1, tx, nm, op, wA, wn, wk, q⟩ = (s.1, s.2 ++ [⟨1, rest, ⟨#[]⟩, ⟨#[]⟩, none, 0, 0, false⟩]) from by
         unfold stS
         rw [if_pos rfl]
         have h1 := HTX.out
         rw [txS_no _ _ _ hno, List.nil_append] at h1
         rw [← h1]
         unfold pushS
         rw [if_neg (by intro e; rw [Lib.size_eq, e] at hr0; exact hr0 rfl)]
         rfl)
       clear hbel HB0 hx hno hr0
       go_wp2_with fail
       refine HIA.out.mono ?_
       rintro e w9 ⟨rfl, hb9⟩
       have HS9 := hide (HSQ.out.step hb9)
       clear hb9
       go_upto_region 13 with (fail)
       obtain ⟨A1, nw, c1, g9, c9, w4, hnw, hcn, hcnA, hrun, ⟨p1, p2⟩, k1, ⟨p3, p4⟩, k3, hfin, hfin2⟩ := push_pack HS9.out (by have := HSL.out; omega) ⟨1, rest, ⟨#[]⟩, ⟨#[]⟩, none, 0, 0, false⟩
       unfold Can6 at k1 k3
       dsimp only at k1 k3
       have HFIN := hide hfin
       have HFIN2 := hide hfin2
       unfold set6 at p3 p4
       dsimp only at p3 p4
       obtain ⟨⟨⟨_, a0⟩, a1⟩, ⟨⟨_, a2⟩, a3⟩, ⟨⟨_, a4⟩, a5⟩, ⟨⟨_, a6⟩, a7⟩, ⟨⟨_, a8⟩, a9⟩, ⟨⟨_, a10⟩, a11⟩⟩ := k1
       obtain ⟨⟨⟨_, d0⟩, d1⟩, ⟨⟨_, d2⟩, d3⟩, ⟨⟨_, d4⟩, d5⟩, ⟨⟨_, d6⟩, d7⟩, ⟨⟨_, d8⟩, d9⟩, ⟨⟨_, d10⟩, d11⟩⟩ := k3
       have nwi : (nw : Int) ≤ 600000 := by have := HSL.out; omega
       have bnw : (nw : Int) < (nw : Int) + 1 := by omega
       clear hfin hfin2 hnw
       go_cut [40] from 34 to 40 (fun _ w' => SpP w w.heap.size (w.heap.size + 1) (s.1, s.2 ++ [⟨1, rest, ⟨#[]⟩, ⟨#[]⟩, none, 0, 0, false⟩]) m w')
       case first =>
         refine wp_region_held_drew (S := (fun _ => True)) (by kernel_rfl) trivial (fun hHeld => ?_)
         refine tq (i := 1) (v := ?vQ1) rfl rfl (by kernel_rfl) (fun _ _ _ h => h) ?yQ1 (by assumption) ?rQ1
         case yQ1 => intro w h; (try dsimp only at h); go_simp; try with_reducible rfl
         try simp only [sA, sB, sC]
         refine tq (i := 2) (v := ?vQ2) rfl rfl (by kernel_rfl) (fun _ _ _ h => h) ?yQ2 (by assumption) ?rQ2
         case yQ2 => intro w h; (try dsimp only at h); go_simp; try with_reducible rfl
         try simp only [sA, sB, sC]
         refine wpAnyH_ready (rs := [0, 4]) (by kernel_rfl) (by simp) ?_
         refine AllReadyH.cons (o := _) rfl (fun K hK => ?way1) (AllReadyH.cons (o := _) rfl (fun K hK => ?way2) AllReadyH.nil)
         case way1 =>
           rw [if_pos (by kernel_rfl)]
           go_simp
           refine hK.out _ _ trivial (fun _ => ?_)
           clear hK K
           try simp only [Act.put, sA, sB, sC]
           refine tq (i := 3) (v := ?vQ1b3) rfl rfl (by kernel_rfl) (fun _ _ _ h => h) ?yQ1b3 (by assumption) ?rQ1b3
           case yQ1b3 => intro w h; (try dsimp only at h); go_simp; try with_reducible rfl
           try simp only [sA, sB, sC]
           refine rq (k := 4) rfl (by kernel_rfl) (by kernel_rfl) (fun K hK => ?_)
           go_simp
           refine hK.out _ _ trivial (fun _ => ?_)
           clear hK K
           try simp only [Act.put, sA, sB, sC]
           refine wpAnyH_ready (rs := [5]) (by kernel_rfl) (by simp) ?_
           refine AllReadyH.cons (o := _) rfl (fun K hK => ?_) AllReadyH.nil
           refine step_app_run rfl _ _ rfl rfl rfl rfl hrun ?_
           refine hK.out _ _ trivial (fun _ => ?_)
           clear hK K
           try simp only [Act.put, sA, sB, sC]
           refine tq (i := 6) (v := ?vQ1b6) rfl rfl (by kernel_rfl) (fun _ _ _ h => h) ?yQ1b6 (by assumption) ?rQ1b6
           case yQ1b6 => intro w h; (try dsimp only at h); go_simp; try with_reducible rfl
           try simp only [sA, sB, sC]
           refine wpAnyH_ready (rs := [7, 8]) (by kernel_rfl) (by simp) ?_
           refine AllReadyH.cons (o := _) rfl (fun K hK => ?wa) (AllReadyH.cons (o := _) rfl (fun K hK => ?wb) AllReadyH.nil)
           case wa =>
             rw [if_pos (by kernel_rfl)]
             go_simp
             refine hK.out _ _ trivial (fun _ => ?_)
             clear hK K
             try simp only [Act.put, sA, sB, sC]
             refine rq (k := 8) rfl (by kernel_rfl) (by kernel_rfl) (fun K hK => ?_)
             go_simp
             refine hK.out _ _ trivial (fun _ => ?_)
             clear hK K
             try simp only [Act.put, sA, sB, sC]
             refine wpAnyH_done (by kernel_rfl) ?_ _
             go_wp2
             go_meet
             exact HFIN.out
           case wb =>
             rw [if_pos (by kernel_rfl)]
             go_simp
             refine hK.out _ _ trivial (fun _ => ?_)
             clear hK K
             try simp only [Act.put, sA, sB, sC]
             refine rq (k := 7) rfl (by kernel_rfl) (by kernel_rfl) (fun K hK => ?_)
             go_simp
             refine hK.out _ _ trivial (fun _ => ?_)
             clear hK K
             try simp only [Act.put, sA, sB, sC]
             refine wpAnyH_done (by kernel_rfl) ?_ _
             go_wp2
             go_meet
             exact HFIN2.out
         case way2 =>
           rw [if_pos (by kernel_rfl)]
           go_simp
           refine hK.out _ _ trivial (fun _ => ?_)
           clear hK K
           try simp only [Act.put, sA, sB, sC]
           refine rq (k := 0) rfl (by kernel_rfl) (by kernel_rfl) (fun K hK => ?_)
           go_simp
           refine hK.out _ _ trivial (fun _ => ?_)
           clear hK K
           try simp only [Act.put, sA, sB, sC]
           refine tq (i := 3) (v := ?vQ2b3) rfl rfl (by kernel_rfl) (fun _ _ _ h => h) ?yQ2b3 (by assumption) ?rQ2b3
           case yQ2b3 => intro w h; (try dsimp only at h); go_simp; try with_reducible rfl
           try simp only [sA, sB, sC]
           refine wpAnyH_ready (rs := [5]) (by kernel_rfl) (by simp) ?_
           refine AllReadyH.cons (o := _) rfl (fun K hK => ?_) AllReadyH.nil
           refine step_app_run rfl _ _ rfl rfl rfl rfl hrun ?_
           refine hK.out _ _ trivial (fun _ => ?_)
           clear hK K
           try simp only [Act.put, sA, sB, sC]
           refine tq (i := 6) (v := ?vQ2b6) rfl rfl (by kernel_rfl) (fun _ _ _ h => h) ?yQ2b6 (by assumption) ?rQ2b6
           case yQ2b6 => intro w h; (try dsimp only at h); go_simp; try with_reducible rfl
           try simp only [sA, sB, sC]
           refine wpAnyH_ready (rs := [7, 8]) (by kernel_rfl) (by simp) ?_
           refine AllReadyH.cons (o := _) rfl (fun K hK => ?wa) (AllReadyH.cons (o := _) rfl (fun K hK => ?wb) AllReadyH.nil)
           case wa =>
             rw [if_pos (by kernel_rfl)]
             go_simp
             refine hK.out _ _ trivial (fun _ => ?_)
             clear hK K
             try simp only [Act.put, sA, sB, sC]
             refine rq (k := 8) rfl (by kernel_rfl) (by kernel_rfl) (fun K hK => ?_)
             go_simp
             refine hK.out _ _ trivial (fun _ => ?_)
             clear hK K
             try simp only [Act.put, sA, sB, sC]
             refine wpAnyH_done (by kernel_rfl) ?_ _
             go_wp2
             go_meet
             exact HFIN.out
           case wb =>
             rw [if_pos (by kernel_rfl)]
             go_simp
             refine hK.out _ _ trivial (fun _ => ?_)
             clear hK K
             try simp only [Act.put, sA, sB, sC]
             refine rq (k := 7) rfl (by kernel_rfl) (by kernel_rfl) (fun K hK => ?_)
             go_simp
             refine hK.out _ _ trivial (fun _ => ?_)
             clear hK K
             try simp only [Act.put, sA, sB, sC]
             refine wpAnyH_done (by kernel_rfl) ?_ _
             go_wp2
             go_meet
             exact HFIN2.out
       case rest =>
       have HC := hide hcut
       clear hcut HFIN HFIN2 hrun p1 p2 p3 p4 hcn hcnA a0 a1 a2 a3 a4 a5 a6 a7 a8 a9 a10 a11 d0 d1 d2 d3 d4 d5 d6 d7 d8 d9 d10 d11
       go_wp2
       rw [Exit.noGoto_normal]
       go_wp2
       refine ⟨⟨k + 1, by go_num, by omega, hide ?_, hide ?_⟩, by simp [intOf]; omega⟩
       · rw [HST.out, HE.out]; exact HC.out.mono (by omega)
       · rw [HST.out, HE.out]
         have := HSL.out
         show (s.2 ++ [_]).length ≤ _
         rw [List.length_append, List.length_singleton]
         omega
     · rw [hx] at HIA
       have hlen : rest.size = a.length + 1 + r2.length := by rw [Lib.size_eq, hsp, List.length_append, List.length_cons]; omega
       have hex : (rest.extract (a.length + 1) rest.size).data.toList = r2 := by
         rw [Lib.extract_data, hsp, List.take_of_length_le (by rw [List.length_drop, List.length_append, List.length_cons]; omega)]
         rw [show a ++ b :: r2 = (a ++ [b]) ++ r2 by simp, List.drop_left' (by simp)]
       have HTX2 := hide (show txS [] (rest.extract (a.length + 1) rest.size).data.toList (flushS (pushS a s)) = txS [] tx.data.toList sk from by
         rw [hex, ← HTX.out, hsp, txS_at a [] b r2 s hna hbb, List.nil_append])
       have hez : (rest.extract (a.length + 1) rest.size).size = r2.length := by rw [Lib.size_eq, hex]
       have hea : rest.extract 0 a.length = bsF a := by
         rw [Lib.extract_eq, hsp, List.drop_zero, Nat.sub_zero, List.take_left' rfl]; rfl
       have HEZ := hide hez
       obtain ⟨an, han⟩ : ∃ n, a.length = n := ⟨_, rfl⟩
       rw [han] at HIA HTX2 HEZ hlen hea
       have HPS := hide (show pushS a s = if an = 0 then s else (s.1, s.2 ++ [⟨1, rest.extract 0 an, ⟨#[]⟩, ⟨#[]⟩, none, 0, 0, false⟩]) from by
         unfold pushS
         by_cases h0 : a = []
         · rw [if_pos h0, if_pos (by rw [← han, h0]; rfl)]
         · rw [if_neg h0, if_neg (by rw [← han]; intro e; exact h0 (List.length_eq_zero_iff.1 e)), hea]
           rfl)
       have hl1 : an + 1 ≤ rest.size := by omega
       have HLR := hide (show r2.length + an + 1 = rest.size by omega)
       have hl2 : (an : Int) + 1 ≤ (rest.size : Int) := by omega
       have hl3 : (an : Int) ≤ (rest.size : Int) := by omega
       have hl4 : ¬ (an : Int) < 0 := by omega
       have hl5 : an ≤ rest.size := by omega
       have hani : (an : Int) ≤ 5000 := by omega
       clear hbel HB0 hx hna hbb hsp hex hez hea hr0 hlen
       by_cases ha0 : an = 0
       · subst ha0
         have hps := HPS.out
         rw [if_pos rfl] at hps
         go_wp2_with fail
         refine HIA.out.mono ?_
         rintro e w9 ⟨rfl, hb9⟩
         have HS9 := hide (HSQ.out.step hb9)
         have HEN := hide (end_any w w.heap.size (w.heap.size + 1) s m w9 HS9.out (by omega) (by have := HSL.out; omega))
         rw [hps] at HTX2
         clear hb9 hps HPS
         go_wp2_with fail
         refine HEN.out.mono ?_
         rintro e wf ⟨rfl, hsp⟩
         have HSP2 := hide hsp
         clear hsp HEN
         go_wp2
         go_roundg (rest.extract 1 rest.size).size
         case measure => have := HEZ.out; have := HLR.out; simp only [Nat.zero_add] at *; omega
         case rel => exact ⟨rest.extract 1 rest.size, flushS s, m + 1, rfl, rfl, by have := HEZ.out; have := HLR.out; simp only [Nat.zero_add] at *; omega, HTX2, HSP2, by have := HEZ.out; have := HLR.out; simp only [Nat.zero_add] at *; omega, hide (by rw [flush_len]; omega)⟩
       · have hps := HPS.out
         rw [if_neg ha0] at hps
         rw [hps] at HTX2
         have hap : (0 : Int) < (an : Int) := by omega
         clear hps HPS
         go_wp2_with fail
         refine HIA.out.mono ?_
         rintro e w9 ⟨rfl, hb9⟩
         have HS9 := hide (HSQ.out.step hb9)
         clear hb9
         go_upto_region 15 with (fail)
         obtain ⟨A1, nw, c1, g9, c9, w4, hnw, hcn, hcnA, hrun, ⟨p1, p2⟩, k1, ⟨p3, p4⟩, k3, hfin, hfin2⟩ := push_pack HS9.out (by have := HSL.out; omega) ⟨1, rest.extract 0 an, ⟨#[]⟩, ⟨#[]⟩, none, 0, 0, false⟩
         unfold Can6 at k1 k3
         dsimp only at k1 k3
         have HFIN := hide hfin
         have HFIN2 := hide hfin2
         unfold set6 at p3 p4
         dsimp only at p3 p4
         obtain ⟨⟨⟨_, a0⟩, a1⟩, ⟨⟨_, a2⟩, a3⟩, ⟨⟨_, a4⟩, a5⟩, ⟨⟨_, a6⟩, a7⟩, ⟨⟨_, a8⟩, a9⟩, ⟨⟨_, a10⟩, a11⟩⟩ := k1
         obtain ⟨⟨⟨_, d0⟩, d1⟩, ⟨⟨_, d2⟩, d3⟩, ⟨⟨_, d4⟩, d5⟩, ⟨⟨_, d6⟩, d7⟩, ⟨⟨_, d8⟩, d9⟩, ⟨⟨_, d10⟩, d11⟩⟩ := k3
         have nwi : (nw : Int) ≤ 600000 := by have := HSL.out; omega
         have bnw : (nw : Int) < (nw : Int) + 1 := by omega
         clear hfin hfin2 hnw
         go_cut [51] from 42 to 51 (fun _ w' => SpP w w.heap.size (w.heap.size + 1) (s.1, s.2 ++ [⟨1, rest.extract 0 an, ⟨#[]⟩, ⟨#[]⟩, none, 0, 0, false⟩]) m w')
         case first =>
           refine wp_region_held_drew (S := (fun _ => True)) (by kernel_rfl) trivial (fun hHeld => ?_)
           refine tq (i := 1) (v := ?vR1) rfl rfl (by kernel_rfl) (fun _ _ _ h => h) ?yR1 (by assumption) ?rR1
           case yR1 => intro w h; (try dsimp only at h); go_simp; try with_reducible rfl
           try simp only [sA, sB, sC]
           refine tq (i := 2) (v := ?vR2) rfl rfl (by kernel_rfl) (fun _ _ _ h => h) ?yR2 (by assumption) ?rR2
           case yR2 => intro w h; (try dsimp only at h); go_simp; try with_reducible rfl
           try simp only [sA, sB, sC]
           refine tq (i := 3) (v := ?vR3) rfl rfl (by kernel_rfl) (fun _ _ _ h => h) ?yR3 (by assumption) ?rR3
           case yR3 => intro w h; (try dsimp only at h); go_simp; try with_reducible rfl
           try simp only [sA, sB, sC]
           refine tq (i := 4) (v := ?vR4) rfl rfl (by kernel_rfl) (fun _ _ _ h => h) ?yR4 (by assumption) ?rR4
           case yR4 => intro w h; (try dsimp only at h); go_simp; try with_reducible rfl
           try simp only [sA, sB, sC]
           refine wpAnyH_ready (rs := [0, 6]) (by kernel_rfl) (by simp) ?_
           refine AllReadyH.cons (o := _) rfl (fun K hK => ?way1) (AllReadyH.cons (o := _) rfl (fun K hK => ?way2) AllReadyH.nil)
           case way1 =>
             rw [if_pos (by kernel_rfl)]
             go_simp
             refine hK.out _ _ trivial (fun _ => ?_)
             clear hK K
             try simp only [Act.put, sA, sB, sC]
             refine tq (i := 5) (v := ?vR1b5) rfl rfl (by kernel_rfl) (fun _ _ _ h => h) ?yR1b5 (by assumption) ?rR1b5
             case yR1b5 => intro w h; (try dsimp only at h); go_simp; try with_reducible rfl
             try simp only [sA, sB, sC]
             refine rq (k := 6) rfl (by kernel_rfl) (by kernel_rfl) (fun K hK => ?_)
             go_simp
             refine hK.out _ _ trivial (fun _ => ?_)
             clear hK K
             try simp only [Act.put, sA, sB, sC]
             refine wpAnyH_ready (rs := [7]) (by kernel_rfl) (by simp) ?_
             refine AllReadyH.cons (o := _) rfl (fun K hK => ?_) AllReadyH.nil
             refine step_app_run rfl _ _ rfl rfl rfl rfl hrun ?_
             refine hK.out _ _ trivial (fun _ => ?_)
             clear hK K
             try simp only [Act.put, sA, sB, sC]
             refine tq (i := 8) (v := ?vR1b8) rfl rfl (by kernel_rfl) (fun _ _ _ h => h) ?yR1b8 (by assumption) ?rR1b8
             case yR1b8 => intro w h; (try dsimp only at h); go_simp; try with_reducible rfl
             try simp only [sA, sB, sC]
             refine wpAnyH_ready (rs := [9, 10]) (by kernel_rfl) (by simp) ?_
             refine AllReadyH.cons (o := _) rfl (fun K hK => ?wa) (AllReadyH.cons (o := _) rfl (fun K hK => ?wb) AllReadyH.nil)
             case wa =>
               rw [if_pos (by kernel_rfl)]
               go_simp
               refine hK.out _ _ trivial (fun _ => ?_)
               clear hK K
               try simp only [Act.put, sA, sB, sC]
               refine rq (k := 10) rfl (by kernel_rfl) (by kernel_rfl) (fun K hK => ?_)
               go_simp
               refine hK.out _ _ trivial (fun _ => ?_)
               clear hK K
               try simp only [Act.put, sA, sB, sC]
               refine wpAnyH_done (by kernel_rfl) ?_ _
               go_wp2
               go_meet
               exact HFIN.out
             case wb =>
               rw [if_pos (by kernel_rfl)]
               go_simp
               refine hK.out _ _ trivial (fun _ => ?_)
               clear hK K
               try simp only [Act.put, sA, sB, sC]
               refine rq (k := 9) rfl (by kernel_rfl) (by kernel_rfl) (fun K hK => ?_)
               go_simp
               refine hK.out _ _ trivial (fun _ => ?_)
               clear hK K
               try simp only [Act.put, sA, sB, sC]
               refine wpAnyH_done (by kernel_rfl) ?_ _
               go_wp2
               go_meet
               exact HFIN2.out
           case way2 =>
             rw [if_pos (by kernel_rfl)]
             go_simp
             refine hK.out _ _ trivial (fun _ => ?_)
             clear hK K
             try simp only [Act.put, sA, sB, sC]
             refine rq (k := 0) rfl (by kernel_rfl) (by kernel_rfl) (fun K hK => ?_)
             go_simp
             refine hK.out _ _ trivial (fun _ => ?_)
             clear hK K
             try simp only [Act.put, sA, sB, sC]
             refine tq (i := 5) (v := ?vR2b5) rfl rfl (by kernel_rfl) (fun _ _ _ h => h) ?yR2b5 (by assumption) ?rR2b5
             case yR2b5 => intro w h; (try dsimp only at h); go_simp; try with_reducible rfl
             try simp only [sA, sB, sC]
             refine wpAnyH_ready (rs := [7]) (by kernel_rfl) (by simp) ?_
             refine AllReadyH.cons (o := _) rfl (fun K hK => ?_) AllReadyH.nil
             refine step_app_run rfl _ _ rfl rfl rfl rfl hrun ?_
             refine hK.out _ _ trivial (fun _ => ?_)
             clear hK K
             try simp only [Act.put, sA, sB, sC]
             refine tq (i := 8) (v := ?vR2b8) rfl rfl (by kernel_rfl) (fun _ _ _ h => h) ?yR2b8 (by assumption) ?rR2b8
             case yR2b8 => intro w h; (try dsimp only at h); go_simp; try with_reducible rfl
             try simp only [sA, sB, sC]
             refine wpAnyH_ready (rs := [9, 10]) (by kernel_rfl) (by simp) ?_
             refine AllReadyH.cons (o := _) rfl (fun K hK => ?wa) (AllReadyH.cons (o := _) rfl (fun K hK => ?wb) AllReadyH.nil)
             case wa =>
               rw [if_pos (by kernel_rfl)]
               go_simp
               refine hK.out _ _ trivial (fun _ => ?_)
               clear hK K
               try simp only [Act.put, sA, sB, sC]
               refine rq (k := 10) rfl (by kernel_rfl) (by kernel_rfl) (fun K hK => ?_)
               go_simp
               refine hK.out _ _ trivial (fun _ => ?_)
               clear hK K
               try simp only [Act.put, sA, sB, sC]
               refine wpAnyH_done (by kernel_rfl) ?_ _
               go_wp2
               go_meet
               exact HFIN.out
             case wb =>
               rw [if_pos (by kernel_rfl)]
               go_simp
               refine hK.out _ _ trivial (fun _ => ?_)
               clear hK K
               try simp only [Act.put, sA, sB, sC]
               refine rq (k := 9) rfl (by kernel_rfl) (by kernel_rfl) (fun K hK => ?_)
               go_simp
               refine hK.out _ _ trivial (fun _ => ?_)
               clear hK K
               try simp only [Act.put, sA, sB, sC]
               refine wpAnyH_done (by kernel_rfl) ?_ _
               go_wp2
               go_meet
               exact HFIN2.out
         case rest =>
         obtain ⟨wv, hwv⟩ : ∃ Z, Z = wc := ⟨_, rfl⟩
         subst hwv
         have HEN := hide (end_any w w.heap.size (w.heap.size + 1) _ m wv hcut (by omega) (by
           have := HSL.out
           show (s.2 ++ [_]).length ≤ _
           rw [List.length_append, List.length_singleton]
           omega))
         clear hcut HFIN HFIN2 hrun p1 p2 p3 p4 hcn hcnA a0 a1 a2 a3 a4 a5 a6 a7 a8 a9 a10 a11 d0 d1 d2 d3 d4 d5 d6 d7 d8 d9 d10 d11
         go_wp2_with fail
         refine HEN.out.mono ?_
         rintro e wf ⟨rfl, hsp⟩
         have HSP2 := hide hsp
         clear hsp HEN
         go_wp2
         go_roundg (rest.extract (an + 1) rest.size).size
         case measure => have := HEZ.out; have := HLR.out; omega
         case rel => exact ⟨rest.extract (an + 1) rest.size, _, m + 1, rfl, rfl, by have := HEZ.out; have := HLR.out; omega, HTX2, HSP2, by have := HEZ.out; have := HLR.out; omega, hide (by rw [flush_len]; omega)⟩
end
section
open Go.RowKit Go.Deep
theorem alive12_any (w : World) : Calls Tryz.prog 21 #[] w fun e w' => e = .returned (.bool true) ∧ Below w.heap.size w w' := by
 have hrow : RG encPt 6 (w.alloc (.cells #[.int .i64 1, .string ⟨#[97, 32, 98]⟩, .string ⟨#[]⟩, .string ⟨#[]⟩, .slice none 0 0, .bool false] tyP)) (some ⟨w.heap.size, 0, none⟩) [ptT [97, 32, 98]] := rg_new (enc := encPt) w (ptT [97, 32, 98]) tyP
 have HSP := hide (fsplit_any (some ⟨w.heap.size, 0, none⟩) 1 [ptT [97, 32, 98]] _ hrow (by decide) (by intro p hp; simp at hp; subst hp; decide))
 have HB := hide ((Below.refl w.heap.size w).alloc (Nat.le_refl _) (.cells #[.int .i64 1, .string ⟨#[97, 32, 98]⟩, .string ⟨#[]⟩, .string ⟨#[]⟩, .slice none 0 0, .bool false] tyP))
 have hsl : (splitS [ptT [97, 32, 98]]).length = 2 := by decide
 have HSL := hide hsl
 clear hrow hsl
 go_enter Tryz.func21, Tryz.ntmps21
 go_wp2_with fail
 refine HSP.out.mono ?_
 rintro e wf hp
 obtain ⟨out, A, c, rfl, ho, _, _, hb⟩ := hp
 have hol : out.length = 2 := by rw [← HSL.out, ← ho, List.length_map]
 rw [hol]
 have HF := hide (HB.out.trans (hb.mono HB.out.size))
 clear hb ho hol
 go_wp2
 go_ret
 exact ⟨rfl, HF.out⟩
end
end Go.Proofs.YtpheeheikigenaaGreatDoor
namespace Go.Proofs.YtpheeheikigenaaGreatDoor.Ln
abbrev T := List UInt8
def spl (c : UInt8) : T → List T
 | [] => [[]]
 | b :: l => if b = c then [] :: spl c l else match spl c l with
   | [] => [[b]]
   | h :: t => (b :: h) :: t
theorem spl_ne (c : UInt8) (l : T) : spl c l ≠ [] := by
 cases l with
 | nil => simp [spl]
 | cons b l =>
   rw [spl]
   split
   · simp
   · split <;> simp
theorem spl_cons_ne {c b : UInt8} (h : b ≠ c) (l : T) : ∃ x t, spl c l = x :: t ∧ spl c (b :: l) = (b :: x) :: t := by
 cases hs : spl c l with
 | nil => exact absurd hs (spl_ne c l)
 | cons x t => exact ⟨x, t, rfl, by rw [spl, if_neg h, hs]⟩
theorem spl_none {c : UInt8} : ∀ {l : T}, c ∉ l → spl c l = [l]
 | [], _ => rfl
 | b :: l, h => by
   have h1 : b ≠ c := fun e => h (by simp [e])
   rw [spl, if_neg h1, spl_none (fun hc => h (by simp [hc]))]
theorem spl_app {c : UInt8} : ∀ {a : T} (b : T), c ∉ a → spl c (a ++ c :: b) = a :: spl c b
 | [], b, _ => by rw [List.nil_append, spl, if_pos rfl]
 | x :: a, b, h => by
   have h1 : x ≠ c := fun e => h (by simp [e])
   rw [List.cons_append, spl, if_neg h1, spl_app b (fun hc => h (by simp [hc]))]
end Go.Proofs.YtpheeheikigenaaGreatDoor.Ln
namespace Go.Proofs.YtpheeheikigenaaGreatDoor.Pth
open Ln
def stepP (out : List T) (s : T) : List T := if s = [] ∨ s = [46] then out else if s = [46, 46] then out.dropLast else out ++ [s]
def partsF (cwd p : T) : List T := (if p.head? = some 47 then spl 47 p else spl 47 cwd ++ spl 47 p).foldl stepP []
def slashed (l : List T) : T := l.flatMap (47 :: ·)
def joinF (l : List T) : T := if l = [] then [47] else slashed l
def longF (l : List T) : Bool := l.any fun s => decide (60 < s.length)
def absF (cwd p : T) : T × Nat := if p = [] ∨ 0 ∈ cwd ∨ 0 ∈ p then ([], 1) else
 if longF (partsF cwd p) = false ∧ (partsF cwd p).length ≤ 20 ∧ (joinF (partsF cwd p)).length ≤ 200 then (joinF (partsF cwd p), 0) else ([], 3)
def okN (s : T) : Prop := s ≠ [] ∧ s ≠ [46] ∧ s ≠ [46, 46] ∧ 47 ∉ s
theorem spl_noslash (c : UInt8) : ∀ (l : T) (s : T), s ∈ spl c l → c ∉ s
 | [], s, h => by rw [spl] at h; simp at h; subst h; simp
 | b :: l, s, h => by
   rw [spl] at h
   split at h
   · rcases List.mem_cons.1 h with rfl | h
     · simp
     · exact spl_noslash c l s h
   · rename_i hb
     cases hs : spl c l with
     | nil => rw [hs] at h; simp at h; subst h; simpa using fun e => hb e.symm
     | cons x t =>
       rw [hs] at h
       rcases List.mem_cons.1 h with rfl | h
       · have := spl_noslash c l x (by rw [hs]; simp)
         intro hc
         rcases List.mem_cons.1 hc with e | e
         · exact hb e.symm
         · exact this e
       · exact spl_noslash c l s (by rw [hs]; simp [h])
theorem foldl_okN : ∀ (L out : List T), (∀ s ∈ L, 47 ∉ s) → (∀ s ∈ out, okN s) → ∀ s ∈ L.foldl stepP out, okN s
 | [], _, _, ho => ho
 | x :: L, out, hL, ho => by
   rw [List.foldl_cons]
   refine foldl_okN L _ (fun s hs => hL s (by simp [hs])) (fun s hs => ?_)
   unfold stepP at hs
   split at hs
   · exact ho s hs
   · split at hs
     · exact ho s (List.dropLast_subset _ hs)
     · rename_i h1 h2
       rcases List.mem_append.1 hs with hs | hs
       · exact ho s hs
       · obtain rfl : s = x := by simpa using hs
         exact ⟨fun e => h1 (.inl e), fun e => h1 (.inr e), h2, hL _ (by simp)⟩
theorem partsF_ok (cwd p : T) : ∀ s ∈ partsF cwd p, okN s := by
 unfold partsF
 refine foldl_okN _ _ (fun s hs => ?_) (by simp)
 split at hs
 · exact spl_noslash _ _ _ hs
 · rcases List.mem_append.1 hs with hs | hs <;> exact spl_noslash _ _ _ hs
theorem slashed_len (l : List T) : (slashed l).length = (l.map (·.length + 1)).sum := by
 induction l with
 | nil => rfl
 | cons s l ih => rw [show slashed (s :: l) = (47 :: s) ++ slashed l by simp [slashed], List.length_append, ih]; simp
theorem foldl_len : ∀ (L out : List T), (L.foldl stepP out).length ≤ out.length + L.length
 | [], out => by simp
 | x :: L, out => by
   rw [List.foldl_cons]
   have := foldl_len L (stepP out x)
   have h2 : (stepP out x).length ≤ out.length + 1 := by
     unfold stepP
     split
     · omega
     · split
       · rw [List.length_dropLast]; omega
       · simp
   simp only [List.length_cons]
   omega
theorem spl_len (c : UInt8) : ∀ l : T, (spl c l).length ≤ l.length + 1
 | [] => by simp [spl]
 | b :: l => by
   have := spl_len c l
   rw [spl]
   split
   · simp; omega
   · split
     · simp
     · rename_i h; rw [h] at this; simp at this ⊢; omega
theorem partsF_len (cwd p : T) : (partsF cwd p).length ≤ cwd.length + p.length + 2 := by
 unfold partsF
 refine Nat.le_trans (foldl_len _ _) ?_
 have h1 := spl_len 47 cwd
 have h2 := spl_len 47 p
 split
 · simp; omega
 · simp; omega
theorem sum_spl (c : UInt8) : ∀ l : T, ((spl c l).map (·.length + 1)).sum = l.length + 1
 | [] => rfl
 | b :: l => by
   have := sum_spl c l
   by_cases h : b = c
   · rw [spl, if_pos h]; simp at this ⊢; omega
   · obtain ⟨x, t, h1, h2⟩ := spl_cons_ne h l
     rw [h1] at this
     rw [h2]
     simp at this ⊢
     omega
theorem sum_fold : ∀ (L out : List T), ((L.foldl stepP out).map (·.length + 1)).sum ≤ (out.map (·.length + 1)).sum + (L.map (·.length + 1)).sum
 | [], out => by simp
 | x :: L, out => by
   rw [List.foldl_cons]
   have := sum_fold L (stepP out x)
   have h2 : ((stepP out x).map (·.length + 1)).sum ≤ (out.map (·.length + 1)).sum + (x.length + 1) := by
     unfold stepP
     split
     · omega
     · split
       · rw [List.dropLast_eq_take, List.map_take]
         refine Nat.le_trans ?_ (Nat.le_add_right _ _)
         conv => rhs; rw [← List.take_append_drop (out.length - 1) (out.map (·.length + 1)), List.sum_append]
         omega
       · simp
   rw [List.map_cons, List.sum_cons]
   omega
theorem joinF_len (cwd p : T) : (joinF (partsF cwd p)).length ≤ cwd.length + p.length + 3 ∧ ∀ s ∈ partsF cwd p, s.length ≤ cwd.length + p.length + 3 := by
 have h : ((partsF cwd p).map (·.length + 1)).sum ≤ cwd.length + p.length + 2 := by
   unfold partsF
   refine Nat.le_trans (sum_fold _ _) ?_
   have h1 := sum_spl 47 cwd
   have h2 := sum_spl 47 p
   split
   · simp only [List.map_nil, List.sum_nil]; omega
   · simp only [List.map_nil, List.sum_nil, List.map_append, List.sum_append]; omega
 refine ⟨?_, fun s hs => ?_⟩
 · unfold joinF
   split
   · simp
   · rw [slashed_len]; omega
 · have : ∀ L : List T, s ∈ L → s.length + 1 ≤ (L.map (·.length + 1)).sum := by
     intro L
     induction L with
     | nil => intro h; cases h
     | cons y L ih =>
       intro h
       rw [List.map_cons, List.sum_cons]
       rcases List.mem_cons.1 h with rfl | h
       · omega
       · have := ih h; omega
   have := this _ hs
   omega
structure GoodP (l : List T) : Prop where
 ok : ∀ s ∈ l, okN s
 long : ∀ s ∈ l, s.length ≤ 60
 zero : ∀ s ∈ l, 0 ∉ s
 deep : l.length ≤ 20
 len : (joinF l).length ≤ 200
theorem longF_iff (l : List T) : longF l = false ↔ ∀ s ∈ l, s.length ≤ 60 := by
 unfold longF
 rw [List.any_eq_false]
 simp
theorem spl_mem_sub (c : UInt8) : ∀ (l : T) (s : T), s ∈ spl c l → ∀ x ∈ s, x ∈ l
 | [], s, h, x, hx => by rw [spl] at h; simp at h; subst h; cases hx
 | b :: l, s, h, x, hx => by
   rw [spl] at h
   split at h
   · rcases List.mem_cons.1 h with rfl | h
     · cases hx
     · exact List.mem_cons_of_mem _ (spl_mem_sub c l s h x hx)
   · cases hs : spl c l with
     | nil => rw [hs] at h; simp at h; subst h; simp at hx; simp [hx]
     | cons y t =>
       rw [hs] at h
       rcases List.mem_cons.1 h with rfl | h
       · rcases List.mem_cons.1 hx with rfl | hx
         · simp
         · exact List.mem_cons_of_mem _ (spl_mem_sub c l y (by rw [hs]; simp) x hx)
       · exact List.mem_cons_of_mem _ (spl_mem_sub c l s (by rw [hs]; simp [h]) x hx)
theorem foldl_zero : ∀ (L out : List T), (∀ s ∈ L, 0 ∉ s) → (∀ s ∈ out, 0 ∉ s) → ∀ s ∈ L.foldl stepP out, 0 ∉ s
 | [], _, _, ho => ho
 | x :: L, out, hL, ho => by
   rw [List.foldl_cons]
   refine foldl_zero L _ (fun s hs => hL s (by simp [hs])) (fun s hs => ?_)
   unfold stepP at hs
   split at hs
   · exact ho s hs
   · split at hs
     · exact ho s (List.dropLast_subset _ hs)
     · rcases List.mem_append.1 hs with hs | hs
       · exact ho s hs
       · obtain rfl : s = x := by simpa using hs
         exact hL _ (by simp)
theorem partsF_zero {cwd p : T} (h1 : 0 ∉ cwd) (h2 : 0 ∉ p) : ∀ s ∈ partsF cwd p, 0 ∉ s := by
 unfold partsF
 refine foldl_zero _ _ (fun s hs h0 => ?_) (by simp)
 split at hs
 · exact h2 (spl_mem_sub _ _ _ hs 0 h0)
 · rcases List.mem_append.1 hs with hs | hs
   · exact h1 (spl_mem_sub _ _ _ hs 0 h0)
   · exact h2 (spl_mem_sub _ _ _ hs 0 h0)
theorem absF_cases (cwd p : T) : (∃ l, GoodP l ∧ absF cwd p = (joinF l, 0) ∧ partsF cwd p = l) ∨ ((absF cwd p).1 = [] ∧ ((absF cwd p).2 = 1 ∨ (absF cwd p).2 = 3)) := by
 unfold absF
 split
 · exact .inr ⟨rfl, .inl rfl⟩
 · rename_i h
   split
   · rename_i h2
     refine .inl ⟨_, ⟨partsF_ok _ _, (longF_iff _).1 h2.1, partsF_zero (fun c => h (.inr (.inl c))) (fun c => h (.inr (.inr c))), h2.2.1, h2.2.2⟩, rfl, rfl⟩
   · exact .inr ⟨rfl, .inr rfl⟩
end Go.Proofs.YtpheeheikigenaaGreatDoor.Pth
namespace Go.Proofs.YtpheeheikigenaaGreatDoor.Vf
open Ln Pth
structure Nd where
 dir : Bool
 data : T
 time : Nat
abbrev Mp := KV Nd
def kindM (m : Mp) (q : T) : Nat := if q = [47] then 2 else match getG m (bs q) with
 | none => 0
 | some n => if n.dir = true then 2 else 1
def wayB (m : Mp) (q : T) : Nat → Nat → Nat
 | 0, _ => 0
 | f + 1, i => if q.length ≤ i then 0 else if q.getD i 0 ≠ 47 ∨ i = 0 then wayB m q f (i + 1) else
   if kindM m (q.take i) = 0 then 6 else if kindM m (q.take i) = 1 then 11 else wayB m q f (i + 1)
def wayM (m : Mp) (q : T) : Nat := wayB m q q.length 0
structure St where
 m : Mp
 nodes : Nat
 bytes : Nat
 used : Nat
 clock : Nat
def newS (nodes bytes : Int) : St := ⟨[], (min (max 0 nodes) 10000).toNat, (min (max 0 bytes) 1048576).toNat, 0, 0⟩
def absS (S : St) (p : T) : T × Nat := if (absF [47] p).2 ≠ 0 then ([], (absF [47] p).2) else if wayM S.m (absF [47] p).1 ≠ 0 then ([], wayM S.m (absF [47] p).1) else ((absF [47] p).1, 0)
def dataM (m : Mp) (q : T) : T := match getG m (bs q) with
 | none => []
 | some n => n.data
def timeM (m : Mp) (q : T) : Nat := match getG m (bs q) with
 | none => 0
 | some n => n.time
def frontF (q : T) : T := (if q.getLast? = some 47 then q.dropLast else q) ++ [47]
def preB (fr : T) (s : T) : Bool := fr.isPrefixOf s
def belowM (m : Mp) (q : T) : List T := (m.map fun x => x.1.data.toList).filter (preB (frontF q))
def namesM (m : Mp) (q : T) : List T := ((belowM m q).map (List.drop (frontF q).length)).filter fun s => decide (47 ∉ s)
def putS (S : St) (q : T) (dir : Bool) (data : T) : St := { S with clock := S.clock + 1, m := putG (bs q, ⟨dir, data, S.clock + 1⟩) S.m }
def writeQ (S : St) (q b : T) (more : Bool) : St × Nat := if kindM S.m q = 2 then (S, 10) else
 let old := dataM S.m q
 let was := if more = true then old else []
 if S.m.length + (if kindM S.m q = 0 then 1 else 0) ≤ S.nodes ∧ S.used + (was.length + b.length) ≤ S.bytes + old.length then
   ({ putS S q false (was ++ b) with used := S.used + (was.length + b.length) - old.length }, 0) else (S, 13)
def writeS (S : St) (p b : T) (more : Bool) : St × Nat := if (absS S p).2 ≠ 0 then (S, (absS S p).2) else writeQ S (absS S p).1 b more
structure WfS (S : St) : Prop where
 rise : RiseG S.m
 good : ∀ x ∈ S.m, ∃ l, GoodP l ∧ l ≠ [] ∧ x.1 = bs (joinF l)
 sum : S.used = (S.m.map fun x => x.2.data.length).sum
 nodes : S.m.length ≤ S.nodes
 bytes : S.used ≤ S.bytes
 n10 : S.nodes ≤ 10000
 b20 : S.bytes ≤ 1048576
theorem newS_wf (n b : Int) : WfS (newS n b) := ⟨RiseG.nil, by simp [newS], rfl, Nat.zero_le _, Nat.zero_le _, by simp only [newS]; omega, by simp only [newS]; omega⟩
theorem sum_mem {m : Mp} {x : ByteArray × Nd} (h : x ∈ m) : x.2.data.length ≤ (m.map fun x => x.2.data.length).sum := by
 induction m with
 | nil => cases h
 | cons y m ih =>
   rw [List.map_cons, List.sum_cons]
   rcases List.mem_cons.1 h with rfl | h
   · omega
   · have := ih h; omega
theorem dataM_len {S : St} (h : WfS S) (q : T) : (dataM S.m q).length ≤ S.used := by
 unfold dataM
 cases hg : getG S.m (bs q) with
 | none => simp
 | some n => rw [h.sum]; exact sum_mem (getG_mem hg)
end Go.Proofs.YtpheeheikigenaaGreatDoor.Vf
namespace Go.Proofs.YtpheeheikigenaaGreatDoor.Vf
open Ln Pth
end Go.Proofs.YtpheeheikigenaaGreatDoor.Vf
namespace Go.Proofs.YtpheeheikigenaaGreatDoor.Vf
open Ln Pth
end Go.Proofs.YtpheeheikigenaaGreatDoor.Vf
namespace Go.Proofs.YtpheeheikigenaaGreatDoor.Vf
open Ln Pth
end Go.Proofs.YtpheeheikigenaaGreatDoor.Vf
namespace Go.Proofs.YtpheeheikigenaaGreatDoor.Vf
open Ln Pth
end Go.Proofs.YtpheeheikigenaaGreatDoor.Vf
namespace Go.Proofs.YtpheeheikigenaaGreatDoor.Vf
open Ln Pth
structure GoodN (s : T) : Prop where
 ok : okN s
 len : s.length ≤ 60
 zero : 0 ∉ s
structure LI (S : St) (want : List T) (i : Nat) : Prop where
 wf : WfS S
 nodes : S.nodes = 50
 bytes : S.bytes = 50
 clock : S.clock ≤ 2 + i
 len : S.m.length ≤ 2 + i
 dir : kindM S.m [47, 100] = 2
 names : namesM S.m [47, 100] = want
end Go.Proofs.YtpheeheikigenaaGreatDoor.Vf
namespace Qm.Base
end Qm.Base
namespace Go.Proofs.YtpheeheikigenaaGreatDoor
open Go.RowKit Go.Deep Qm.Base
def ds (l : List Nat) : ByteArray := strOfNums (l.map fun n : Nat => (n : Int))
end Go.Proofs.YtpheeheikigenaaGreatDoor
namespace Go.Proofs.YtpheeheikigenaaGreatDoor
section
open Go.RowKit Go.Deep
end
section
open Go.RowKit Go.Deep
def encB (c : UInt8) : List Value := [.int .u8 c.toNat]
theorem encB_len (c : UInt8) : (encB c).length = 1 := rfl
theorem encB_one (c : UInt8) : ∀ u ∈ encB c, u.oneCell' = true := by
 intro u hu
 simp [encB] at hu
 subst hu; rfl
def rowB : RowT Tryz.prog 55 5 1 := { z := .int .u8 0, bytes := 1, und := Tryz.underlying55, info := by kernel_rfl, zlen := rfl, pos := by omega, sb := by omega }
abbrev OwnY (w : World) (base : Nat) (v : Value) (l : List UInt8) : Prop := OwnG encB 1 5 w base v l
theorem run_appY {w : World} {base : Nat} {v : Value} {L N : List UInt8} {A : Option Addr} {c : Nat} (h : OwnY w base v L) (hn : RG encB 1 w A N) (hbase : base ≤ w.heap.size) (hl : L.length + N.length ≤ 1000000) :
   ∃ v' w', (Builtin.append_ #[55, 55] 55 #[v, .slice A N.length c]).run Tryz.prog w = .ok v' w' ∧ OwnY w' base v' (L ++ N) ∧ w.grownBy w' v.ownBlock ∧ (v'.ownBlock = v.ownBlock ∨ v'.ownBlock = some w.heap.size) := run_appG rowB encB_len encB_one h hn hbase (by omega)
end
section
open Go.RowKit Go.Deep Go.Maps Ln Pth Vf
structure En where
 A : Option Addr
 c : Nat
 nd : Nd
def hR (v : Value) : Option (DataW Value × List MemPlace) := some (.held v, [])
def encN (e : En) : Value := .agg #[.bool e.nd.dir, .slice e.A e.nd.data.length e.c, .int .i64 e.nd.time]
def fN (e : En) : DataW Value := .held (encN e)
def zN : Value := .agg #[.bool false, .slice none 0 0, .int .i64 0]
def valN : Option En → Value
 | none => zN
 | some e => encN e
def MapN (w : World) (b : Nat) (P : KV En) : Prop := w.ownsMap Tryz.prog 9 hR b P.length (datG fN P)
theorem nkeyed : Keyed Tryz.prog 9 := string_keyed Tryz.underlying9
theorem nzero (w : World) : (zeroValue 96).run Tryz.prog w = .ok zN w := by kernel_rfl
theorem nkey {s : ByteArray} (h : s.size ≤ 9223372036854775807) : keyOf Tryz.prog 9 (.string s) = some (kLit s) := Go.WideMaps.keyOf_string_mk Tryz.underlying9 (by unfold maxLen; omega)
theorem own_tightN {w : World} {b n : Nat} {P : KV En} (h : w.ownsMap Tryz.prog 9 hR b n (datG fN P)) : MapN w b P := by
 obtain ⟨es, clock, h1, h2, h3, h4⟩ := h
 refine ⟨es, clock, h1, h2, ?_, h4⟩
 have := congrArg Maps.size h4
 rw [datG_size] at this
 rw [this]
 simp [Maps.size, length_sorted]
theorem MapN.of {w w' : World} {b : Nat} {P : KV En} (h : MapN w b P) (hb : w'.heap[b]? = w.heap[b]?) : MapN w' b P := by
 obtain ⟨es, clock, h1, h2⟩ := h
 exact ⟨es, clock, hb.trans h1, h2⟩
theorem nat_val {P : KV En} {s : ByteArray} {v : Value} {ps : List MemPlace} (h : hR v = some ((datG fN P).atKey (kLit s) (.held zN), ps)) : v = valN (getG P s) := by
 unfold hR at h
 rw [datG_at] at h
 cases hg : getG P s with
 | none => rw [hg] at h; injection h with h; injection h with h1 h2; injection h1
 | some e => rw [hg] at h; injection h with h; injection h with h1 h2; unfold fN at h1; injection h1
theorem nlook {w : World} {b : Nat} {P : KV En} (h : MapN w b P) {s : ByteArray} (hs : s.size ≤ 9223372036854775807) :
   (Instr.lookup 86 (.map (some b)) (.string s) true).run Tryz.prog w = .ok (.tuple #[valN (getG P s), .bool (getG P s).isSome]) w := by
 obtain ⟨v, ps, hrun, hv⟩ := h.look_ok nkeyed Tryz.underlying86 (nzero w) (zd := .held zN) (zp := []) rfl (nkey hs)
 rw [hrun, nat_val hv, datG_has]
theorem nlook1 {w : World} {b : Nat} {P : KV En} (h : MapN w b P) {s : ByteArray} (hs : s.size ≤ 9223372036854775807) :
   (Instr.lookup 86 (.map (some b)) (.string s) false).run Tryz.prog w = .ok (valN (getG P s)) w := by
 obtain ⟨v, ps, hrun, hv⟩ := h.lookup nkeyed Tryz.underlying86 (nzero w) (zd := .held zN) (zp := []) rfl (nkey hs)
 rw [hrun, nat_val hv]
theorem nlen {w : World} {b : Nat} {P : KV En} (h : MapN w b P) (ty : TypeId) : (Builtin.len_ #[86] ty #[.map (some b)]).run Tryz.prog w = .ok (.int .i64 P.length) w := by
 rw [h.len Tryz.underlying86 ty, datG_size]
theorem turnedN {w w' : World} {b : Nat} (h : w.mapTurned w' b) : Kp w w' (fun k => k = b) :=
 ⟨h.grown.os, h.grown.tape, h.grown.output, h.grown.size, fun k hk hne => h.grown.block k hk (by intro e; injection e with e; exact hne e)⟩
theorem nstore {w : World} {b : Nat} {P : KV En} (h : MapN w b P) (hr : RiseG P) (hl : P.length ≤ 1000000) {s : ByteArray} (hs : s.size ≤ 9223372036854775807) (e : En) :
   ∃ w', (Instr.mapUpdate 86 (.map (some b)) (.string s) (encN e)).run Tryz.prog w = .ok () w' ∧ MapN w' b (putG (s, e) P) ∧ Kp w w' (fun k => k = b) ∧ w'.heap.size = w.heap.size := by
 obtain ⟨w', h1, h2, h3⟩ := h.store nkeyed Tryz.underlying86 (by unfold maxLen; omega) (nkey hs) (val := encN e) (d := fN e) (ps := []) rfl
 rw [datG_put fN hr] at h2
 refine ⟨w', h1, own_tightN h2, turnedN h3, ?_⟩
 obtain ⟨es, clock, es', clock', hb, rfl⟩ := h3
 simp [ChangeMaps.setBlock]
def stripN (P : KV En) : Mp := P.map fun x => (x.1, x.2.nd)
theorem strip_get (P : KV En) (n : ByteArray) : getG (stripN P) n = (getG P n).map (·.nd) := by
 unfold stripN
 induction P with
 | nil => rfl
 | cons y P ih => rw [List.map_cons, getG_cons, getG_cons, ih]; split <;> rfl
theorem strip_put (x : ByteArray × En) : ∀ P : KV En, stripN (putG x P) = putG (x.1, x.2.nd) (stripN P)
 | [] => rfl
 | y :: P => by
   have ih := strip_put x P
   unfold stripN at ih ⊢
   rw [putG, List.map_cons, putG]
   split
   · rw [List.map_cons, ih]
   · split
     · rfl
     · rfl
theorem strip_rise {P : KV En} : RiseG (stripN P) ↔ RiseG P := by
 unfold stripN RiseG
 rw [List.pairwise_map]
theorem strip_len (P : KV En) : (stripN P).length = P.length := by unfold stripN; simp
def VS (g : Nat) (S : St) : AsnN := fun T N w => ∃ (b : Nat) (P : KV En), T g ∧ T b ∧ g ≠ b ∧
 w.heap[g]? = some (.cells #[.map (some b), .int .i64 S.nodes, .int .i64 S.bytes, .int .i64 S.used, .int .i64 S.clock] 88) ∧
 MapN w b P ∧ S.m = stripN P ∧ ∀ x ∈ P, RG encB 1 w x.2.A x.2.nd.data ∧ ∀ a, x.2.A = some a → N a.block
theorem VS.fr (g : Nat) (S : St) : FrN (VS g S) := by
 rintro T N N' w w' ⟨b, P, h1, h2, h3, h4, h5, h6, h7⟩ hb hn hs
 exact ⟨b, P, h1, h2, h3, (hb g (.inl h1)).trans h4, h5.of (hb b (.inl h2)), h6, fun x hx => ⟨(h7 x hx).1.of hs (fun a e _ => hb a.block (.inr ((h7 x hx).2 a e))), fun a e => hn _ ((h7 x hx).2 a e)⟩⟩
def Hs (A : AsnN) (w : World) : Prop := ∃ T N, A T N w ∧ OkTN T N w
theorem Hs.below {A : AsnN} (hA : FrN A) {w w' : World} (h : Hs A w) (hb : Below w.heap.size w w') : Hs A w' := by
 obtain ⟨T, N, a, ok⟩ := h
 exact ⟨T, N, hA T N N w w' a (fun k hk => hb.block k (hk.elim (fun h => (ok.1 k h).1) (ok.2 k))) (fun _ h => h) hb.size, (GrowN.refl ok hb.size).2.2.2⟩
theorem VS.opn {g : Nat} {S : St} {w : World} (h : Hs (VS g S) w) : ∃ (b : Nat) (P : KV En), g ≠ b ∧
   w.heap[g]? = some (.cells #[.map (some b), .int .i64 S.nodes, .int .i64 S.bytes, .int .i64 S.used, .int .i64 S.clock] 88) ∧ MapN w b P ∧ S.m = stripN P ∧ ∀ x ∈ P, RG encB 1 w x.2.A x.2.nd.data := by
 obtain ⟨T, N, ⟨b, P, h1, h2, h3, h4, h5, h6, h7⟩, ok⟩ := h
 exact ⟨b, P, h3, h4, h5, h6, fun x hx => (h7 x hx).1⟩
theorem cellOf {w : World} {g : Nat} {cs : Array Value} {t : TypeId} (h : w.heap[g]? = some (.cells cs t)) {j : Nat} {v : Value} (hj : cs[j]? = some v) : w.cell? ⟨g, j, none⟩ = some v := by
 simpa [World.cell?, h] using hj
theorem freeOf {w : World} {g : Nat} {cs : Array Value} {t : TypeId} (h : w.heap[g]? = some (.cells cs t)) (j : Nat) : w.frozen? ⟨g, j, none⟩ = false := by
 simp [World.frozen?, h]
end
section
open Go.RowKit Ln
theorem splitK_spl (c : UInt8) : ∀ (k : Nat) (s : T), s.count c = k → Lib.splitK [c] 0 k s = spl c s
 | 0, s, h => by
   rw [Lib.splitK, spl_none (by rw [← List.count_eq_zero]; exact h)]
 | k + 1, s, h => by
   have hm : c ∈ s := List.count_pos_iff.1 (by omega)
   obtain ⟨a, b, rfl, ha⟩ := List.eq_append_cons_of_mem hm
   have hi : Lib.indexByte (a ++ c :: b) c = (a.length : Int) := by
     clear h hm
     induction a with
     | nil => simp [Lib.indexByte]
     | cons x a ih =>
       have hx : x ≠ c := fun e => ha (by simp [e])
       have ih := ih (fun hc => ha (by simp [hc]))
       rw [List.cons_append, Lib.indexByte, if_neg (by simpa using hx), ih]
       have : ((a.length : Int) == -1) = false := by simp
       rw [this]
       simp
   have hne : ((a.length : Int) == -1) = false := by simp
   have hcnt : b.count c = k := by
     rw [List.count_append, List.count_cons_self, List.count_eq_zero.2 ha] at h
     omega
   rw [Lib.splitK, Lib.index_one, hi, hne]
   simp only [Bool.false_eq_true, if_false, Int.toNat_natCast, Nat.add_zero, List.length_cons, List.length_nil]
   rw [spl_app b ha, List.take_left, show (a ++ c :: b).drop (a.length + (0 + 1)) = b from by rw [← List.drop_drop]; simp, splitK_spl c k b hcnt]
theorem split_bs (c : UInt8) (l : T) : Lib.splitB ⟨#[c]⟩ 0 (Lib.countB (bs l) ⟨#[c]⟩) (bs l) = (spl c l).map bs := by
 have h := Lib.splitB_data ⟨#[c]⟩ 0 (Lib.countB (bs l) ⟨#[c]⟩) (bs l)
 rw [bs_list] at h
 have hc : Lib.countB (bs l) ⟨#[c]⟩ = l.count c := by
   show Lib.count (bs l).data.toList [c] = _
   rw [bs_list]
   exact Lib.count_one c l
 rw [hc] at h ⊢
 rw [show (⟨#[c]⟩ : ByteArray).data.toList = [c] from rfl, splitK_spl c _ l rfl] at h
 rw [← h, List.map_map]
 conv => lhs; rw [← List.map_id (Lib.splitB _ _ _ _)]
 apply List.map_congr_left
 intro x _
 exact (bs_of x).symm
def MX (w : World) : Prop := ∃ m, w.cell? ⟨0, 0, none⟩ = some (.int .i64 m)
theorem MX.below {w w' : World} (h : MX w) (hb : Below w.heap.size w w') : MX w' := by
 obtain ⟨m, hm⟩ := h
 exact ⟨m, (hb.cell (p := ⟨0, 0, none⟩) (World.block_lt_of_cell? w _ hm)).trans hm⟩
end
section
open Go.RowKit Go.Deep
def IdxPost (p : ByteArray → Bool) (L : List ByteArray) (w : World) (e : Ending) (w' : World) : Prop := ∃ i : Int, e = .returned (.int .i64 i) ∧ decide (0 ≤ i) = L.any p ∧ Below w.heap.size w w'
theorem idxf_any (p : ByteArray → Bool) (g : Nat) (lb : Array Value) (eg : ∀ args w, (callFunc g args).run Tryz.prog w = .ok (.enter g args) w) (A : Option Addr) (c : Nat) (L : List ByteArray) (w : World) (hl : L.length ≤ 100000000) (hA : SR w A L)
   (hf : ∀ (W : World) (x : ByteArray), x ∈ L → Below w.heap.size w W → Calls Tryz.prog g (#[.string x] ++ lb) W fun e w' => e = .returned (.bool (p x)) ∧ Below w.heap.size w w') :
   Calls Tryz.prog 106 #[.slice A L.length c, .func (.func g) #[] lb] w (IdxPost p L w) := by
 have HA := hide hA
 have HF := hide hf
 clear hA hf
 obtain ⟨n, hn⟩ : ∃ n, L.length = n := ⟨_, rfl⟩
 have HN := hide hn
 rw [hn] at hl ⊢
 clear hn
 have hn1 : (n : Int) ≤ 100000000 := by omega
 go_enter Tryz.func106, Tryz.ntmps106
 go_wp2
 go_loopw [5, 8] (fun _v5 v8 wr => ∃ k : Nat, v8 = .int .i64 k ∧ k ≤ n ∧ Hid ((L.take k).any p = false) ∧ Below w.heap.size w wr) (fun _ v8 _ => n - (intOf v8).toNat)
 case atStart => exact ⟨0, rfl, by omega, rfl, Below.refl _ _⟩
 case round =>
   obtain ⟨k, rfl, hk, HP, hb⟩ := hrel
   have HB := hide hb
   have HAR := hide (HA.out.below hb)
   clear hb
   by_cases hlt : k < n
   · obtain ⟨x, hx⟩ : ∃ x, L[k]? = some x := ⟨L[k]'(by have := HN.out; omega), gE _⟩
     obtain ⟨gs, o, rfl, hg, hc⟩ := HAR.out k x hx
     have hcall := HF.out wr x (List.mem_of_getElem? hx) HB.out
     have b1 : (k : Int) < (n : Int) := by omega
     have HX := hide hx
     clear hx
     obtain ⟨pb, hpb⟩ : ∃ b, p x = b := ⟨_, rfl⟩
     rw [hpb] at hcall
     have HPB := hide hpb
     clear hpb
     have HC := hide hcall
     clear hcall
     go_wp2_with fail
     refine HC.out.mono ?_
     rintro e w' ⟨rfl, hb'⟩
     have HB' := hide hb'
     clear hb'
     cases pb with
     | true =>
       go_wp2
       go_ret
       refine ⟨_, rfl, ?_, HB'.out⟩
       have : L.any p = true := List.any_eq_true.2 ⟨x, List.mem_of_getElem? HX.out, HPB.out⟩
       rw [this]
       simp
     | false =>
       go_wp2
       go_roundw
       case rel =>
         refine ⟨k + 1, by go_num, by omega, ?_, HB'.out⟩
         show (L.take (k + 1)).any p = false
         rw [List.take_add_one, List.any_append, HP.out, HX.out]
         simpa using HPB.out
       case measure => simp [intOf]; omega
   · obtain rfl : k = n := by omega
     have HE := hide (show L.any p = false by
       have := HP.out
       rwa [List.take_of_length_le (by have := HN.out; omega)] at this)
     go_wp2
     go_ret
     exact ⟨_, rfl, by rw [HE.out]; rfl, HB.out⟩
theorem contf_any (p : ByteArray → Bool) (g : Nat) (lb : Array Value) (eg : ∀ args w, (callFunc g args).run Tryz.prog w = .ok (.enter g args) w) (A : Option Addr) (c : Nat) (L : List ByteArray) (w : World) (hl : L.length ≤ 100000000) (hA : SR w A L)
   (hf : ∀ (W : World) (x : ByteArray), x ∈ L → Below w.heap.size w W → Calls Tryz.prog g (#[.string x] ++ lb) W fun e w' => e = .returned (.bool (p x)) ∧ Below w.heap.size w w') :
   Calls Tryz.prog 103 #[.slice A L.length c, .func (.func g) #[] lb] w fun e w' => e = .returned (.bool (L.any p)) ∧ Below w.heap.size w w' := by
 have HI := hide (idxf_any p g lb eg A c L w hl hA hf)
 clear hA hf
 obtain ⟨n, hn⟩ : ∃ n, L.length = n := ⟨_, rfl⟩
 rw [hn] at HI ⊢
 clear hn hl
 obtain ⟨b, hb⟩ : ∃ b, L.any p = b := ⟨_, rfl⟩
 unfold IdxPost at HI
 rw [hb] at HI ⊢
 clear hb
 go_enter Tryz.func103, Tryz.ntmps103
 go_wp2_with fail
 refine HI.out.mono ?_
 rintro e w' ⟨i, rfl, hi, hb'⟩
 have HI2 := hide hi
 have HB := hide hb'
 clear hi hb'
 go_wp2
 go_ret
 refine ⟨?_, HB.out⟩
 rw [← HI2.out]
 rfl
end
section
open Go.RowKit Go.Deep Ln Pth
attribute [local go_sem] bt_eq
theorem OwnS.take {w : World} {base : Nat} {A : Option Addr} {n c : Nat} {L : List ByteArray} (h : OwnS w base (.slice A n c) L) {k : Nat} (hk : k ≤ L.length) : OwnS w base (.slice A k c) (L.take k) := by
 obtain ⟨h1, h2⟩ := h
 have hl : (L.take k).length = k := by rw [List.length_take]; omega
 refine ⟨by unfold strVals; simp, ?_⟩
 rw [hl]
 rcases h2 with ⟨h3, h4⟩ | ⟨g, cap, cur, h3, h4, h5, h6, h7, h8, h9⟩
 · injection h3 with e1 e2 e3
   subst e1 e3
   obtain rfl : k = 0 := by omega
   exact .inl ⟨rfl, rfl⟩
 · injection h3 with e1 e2 e3
   subst e1 e3
   refine .inr ⟨g, c, cur, rfl, h4, h5, by omega, h7, h8, ?_⟩
   unfold strVals at h9 ⊢
   rw [List.map_take, ← h9, List.take_take]
   congr 1
   omega
theorem OwnS.base {w : World} {base base' : Nat} {v : Value} {L : List ByteArray} (h : OwnS w base v L) (hb : base' ≤ base) : OwnS w base' v L :=
 ⟨h.1, h.2.imp id fun ⟨g, cap, cur, e, hg, r⟩ => ⟨g, cap, cur, e, by omega, r⟩⟩
theorem SR.newL (w : World) (L : List ByteArray) (t : TypeId) : SR (w.alloc (.cells (L.map Value.string).toArray t)) (some ⟨w.heap.size, 0, none⟩) L := fun k x hk => by
 refine ⟨_, _, rfl, by simp, ?_⟩
 have h := heapNew w (.cells (L.map Value.string).toArray t)
 unfold World.cell?
 rw [h]
 simp [hk]
theorem OwnS.newL (w : World) (L : List ByteArray) {base : Nat} (hb : base ≤ w.heap.size) (hl : L.length ≤ 66000000) : OwnS (w.alloc (.cells (L.map Value.string).toArray 9)) base (.slice (some ⟨w.heap.size, 0, none⟩) L.length L.length) L := by
 refine ⟨by unfold strVals; simp, .inr ⟨_, _, _, rfl, hb, heapNew w _, Nat.le_refl _, by unfold maxLen; omega, by simp, ?_⟩⟩
 unfold strVals
 rw [Nat.mul_one, List.take_of_length_le (by simp)]
theorem split_cnt (l : T) (c : UInt8) : Lib.countB (bs l) ⟨#[c]⟩ + 1 = ((spl c l).map bs).length := by
 have := congrArg List.length (split_bs c l)
 rw [Lib.splitB_all _ (by simp [ByteArray.size]) 0 _ _ rfl] at this
 exact this
theorem split_any (l : T) (c : UInt8) (w : World) (hm : MX w) (h : l.length ≤ 66000000) :
   Calls Tryz.prog 51 #[.string (bs l), .string ⟨#[c]⟩] w fun e w' => e = .returned (.slice (some ⟨w.heap.size, 0, none⟩) ((spl c l).map bs).length ((spl c l).map bs).length) ∧ w.alloc (.cells (((spl c l).map bs).map Value.string).toArray 9) = w' := by
 obtain ⟨mx, hmx⟩ := hm
 have := Tryz.strings_Split (bs l) ⟨#[c]⟩ mx w (by rw [bs_size]; omega) hmx (by simp [ByteArray.size])
 rw [split_cnt, split_bs] at this
 exact this.mono fun e w' ⟨h1, h2⟩ => ⟨h1, h2.symm⟩
theorem pre_slash (p : T) : Lib.hasPrefix (bs p).data.toList [47] = decide (p.head? = some 47) := by
 rw [bs_list]
 unfold Lib.hasPrefix
 cases p with
 | nil => rfl
 | cons c p =>
   rw [Bool.eq_iff_iff]
   simp only [List.isPrefixOf, List.head?_cons, Option.some.injEq, decide_eq_true_eq, Bool.and_eq_true, beq_iff_eq, and_true]
   exact eq_comm
theorem foldl_take {k : Nat} {L : List T} {x : T} (h : L[k]? = some x) : (L.take (k + 1)).foldl stepP [] = stepP ((L.take k).foldl stepP []) x := by
 rw [List.take_add_one, h, List.foldl_append]; rfl
theorem parts_any (cwd p : T) (w : World) (hm : MX w) (h1 : cwd.length ≤ 6600000) (h2 : p.length ≤ 6600000) :
   Calls Tryz.prog 102 #[.string (bs cwd), .string (bs p)] w fun e w' => (∃ v, e = .returned v ∧ OwnS w' w.heap.size v ((partsF cwd p).map bs)) ∧ Below w.heap.size w w' := by
 have HSP := hide (fun W h => split_any p 47 W h (by omega))
 have HSC := hide (fun W h => split_any cwd 47 W h (by omega))
 have HPR := hide (fun W => (Tryz.strings_HasPrefix (bs p) ⟨#[47]⟩ W).mono fun e w' ⟨h1, h2⟩ => (⟨h1, h2.symm⟩ : _ ∧ W = w'))
 rw [show (⟨#[47]⟩ : ByteArray).data.toList = [47] from rfl, pre_slash] at HPR
 have hl1 := spl_len 47 p
 have hl2 := spl_len 47 cwd
 have HM := hide hm
 obtain ⟨R, hR⟩ : ∃ R, partsF cwd p = R := ⟨_, rfl⟩
 have HRR := hide hR
 unfold partsF at hR
 obtain ⟨LP, hLP⟩ : ∃ L, (spl 47 p).map bs = L := ⟨_, rfl⟩
 obtain ⟨LC, hLC⟩ : ∃ L, (spl 47 cwd).map bs = L := ⟨_, rfl⟩
 have hlp : LP.length ≤ 6600001 := by rw [← hLP, List.length_map]; omega
 have hlc : LC.length ≤ 6600001 := by rw [← hLC, List.length_map]; omega
 have HLP := hide hLP
 have HLC := hide hLC
 rw [hLP] at HSP
 rw [hLC] at HSC
 clear hm hl1 hl2 hLP hLC
 by_cases hh : p.head? = some 47
 all_goals first
   | (rw [decide_eq_true hh] at HPR
      rw [if_pos hh] at hR
      have HR := hide hR
      clear hR hh
      go_enter Tryz.func102, Tryz.ntmps102
      go_wp2_with fail
      refine (HSP.out w HM.out).mono ?_
      rintro e w1 ⟨rfl, rfl⟩
      go_wp2_with fail
      refine (HPR.out _).mono ?_
      rintro e w' ⟨rfl, rfl⟩
      have HA := hide (SR.newL w LP 9)
      have HB := hide ((Below.refl w.heap.size w).alloc (Nat.le_refl _) (.cells (LP.map Value.string).toArray 9))
      have HFULL := hide (show ∃ M : List T, M.map bs = LP ∧ M.foldl stepP [] = R from ⟨_, HLP.out, HR.out⟩)
      obtain ⟨n, hn⟩ : ∃ n, LP.length = n := ⟨_, rfl⟩
      have hn2 : n ≤ 19800000 := by omega
      have HN := hide hn
      rw [hn]
      go_wp2
      generalize (some ⟨w.heap.size, 0, none⟩ : Option Addr) = A at HA ⊢
      generalize w.alloc (.cells (LP.map Value.string).toArray 9) = W at HA HB ⊢
      generalize LP = LL at HA HFULL HN)
   | (rw [decide_eq_false hh] at HPR
      rw [if_neg hh] at hR
      have HR := hide hR
      clear hR hh
      go_enter Tryz.func102, Tryz.ntmps102
      go_wp2_with fail
      refine (HSP.out w HM.out).mono ?_
      rintro e w1 ⟨rfl, rfl⟩
      have HA0 := hide (SR.newL w LP 9)
      have hb0 := (Below.refl w.heap.size w).alloc (Nat.le_refl _) (.cells (LP.map Value.string).toArray 9)
      have HB0 := hide hb0
      have HM0 := hide (HM.out.below hb0)
      clear hb0
      go_wp2_with fail
      refine (HPR.out _).mono ?_
      rintro e w' ⟨rfl, rfl⟩
      generalize (some ⟨w.heap.size, 0, none⟩ : Option Addr) = A0 at HA0 ⊢
      generalize w.alloc (.cells (LP.map Value.string).toArray 9) = W0 at HA0 HB0 HM0 ⊢
      go_wp2_with fail
      refine (HSC.out W0 HM0.out).mono ?_
      rintro e w' ⟨rfl, rfl⟩
      have hb1 := (Below.refl W0.heap.size W0).alloc (Nat.le_refl _) (.cells (LC.map Value.string).toArray 9)
      obtain ⟨v, W, hrun, ho, hg, hv⟩ := run_appS (c := LP.length) (OwnS.newL W0 LC (Nat.le_refl _) (by omega)) (HA0.out.below hb1) (by simp) (by omega)
      obtain ⟨A, c, rfl, hlc2, hsr, _⟩ := OwnS.slice ho
      have HA := hide hsr
      have HB := hide (below_up HB0.out (hb1.trans ((Below.refl W0.heap.size _).grown hg (by simp) (fun q hq => by
        injection hq with hq; rw [← hq]; exact Nat.le_refl _))) HB0.out.size)
      have HFULL := hide (show ∃ M : List T, M.map bs = LC ++ LP ∧ M.foldl stepP [] = R from ⟨_, by rw [List.map_append, HLC.out, HLP.out], HR.out⟩)
      have hn2 : (LC ++ LP).length ≤ 19800000 := by rw [List.length_append]; omega
      generalize LC ++ LP = LL at HA HFULL hrun hn2 hlc2
      clear ho hg hv hsr hb1
      go_wp2_with (at_builtin; refine wpList_app_run ?_ (.tmp 15) (.tmp 16) ?_ ?_ ?_ ?_ hrun ?_; exact rfl; exact rfl; exact rfl; exact rfl; exact rfl)
      obtain ⟨n, hn⟩ : ∃ n, LL.length = n := ⟨_, rfl⟩
      rw [hn] at hn2 ⊢
      have HN := hide hn
      clear hrun hlc2 hn)
 all_goals
   clear HSP HSC HPR HM HLP HLC
   obtain ⟨M, hM, hfull⟩ := HFULL.out
   have HFL := hide hfull
   have HMM := hide hM
   clear hM hfull HFULL
   have hn3 : (n : Int) ≤ 19800000 := by omega
   have HML := hide (show M.length = n by have := HN.out; rw [← HMM.out, List.length_map] at this; exact this)
   go_loopw [6, 20] (fun v6 v20 wr => ∃ k : Nat, v20 = .int .i64 k ∧ k ≤ n ∧ OwnS wr W.heap.size v6 (((M.take k).foldl stepP []).map bs) ∧ Below W.heap.size W wr) (fun _ v20 _ => n - (intOf v20).toNat)
   case atStart => exact ⟨0, rfl, by omega, OwnS.nil _ _, Below.refl _ _⟩
   case round =>
     obtain ⟨k, rfl, hk, ho, hbw⟩ := hrel
     have HO := hide ho
     have HAR := hide (HA.out.below hbw)
     have HBW := hide hbw
     clear ho hbw
     by_cases hlt : k < n
     · obtain ⟨x, hx⟩ : ∃ x, M[k]? = some x := ⟨M[k]'(by have := HML.out; omega), gE _⟩
       obtain ⟨g, o, rfl, hg, hc⟩ := HAR.out k (bs x) (by rw [← HMM.out, List.getElem?_map, hx]; rfl)
       have HT := hide (foldl_take hx)
       have b1 : (k : Int) < (n : Int) := by omega
       have hql : ((M.take k).foldl stepP []).length ≤ 19800000 := by
         have := foldl_len (M.take k) []
         rw [List.length_take, List.length_nil] at this
         omega
       clear hx
       generalize (M.take k).foldl stepP [] = Q at HO HT hql
       by_cases e1 : x = []
       · subst e1
         have hem : (bs ([] : T)).toList.isEmpty = true := by rw [bs_toList]; rfl
         go_wp2
         go_roundw
         case rel => exact ⟨k + 1, by go_num, by omega, by rw [HT.out, stepP, if_pos (.inl rfl)]; exact HO.out, HBW.out⟩
         case measure => simp [intOf]; omega
       by_cases e2 : x = [46]
       · subst e2
         have hem : (bs ([46] : T)).toList.isEmpty = false := by rw [bs_toList]; rfl
         have h46 : ((bs ([46] : T)).toList == [46]) = true := by rw [bs_toList]; rfl
         go_wp2
         go_roundw
         case rel => exact ⟨k + 1, by go_num, by omega, by rw [HT.out, stepP, if_pos (.inr rfl)]; exact HO.out, HBW.out⟩
         case measure => simp [intOf]; omega
       have hem : (bs x).toList.isEmpty = false := by rw [bs_toList]; cases x; exact absurd rfl e1; rfl
       have h46 : ((bs x).toList == [46]) = false := by rw [bs_toList]; simpa using e2
       by_cases e3 : x = [46, 46]
       · subst e3
         have h4646 : ((bs ([46, 46] : T)).toList == [46, 46]) = true := by rw [bs_toList]; rfl
         obtain ⟨A2, c2, rfl, hc2, hs2, _⟩ := HO.out.slice
         rw [List.length_map] at hc2 HO ⊢
         have hdl : (Q.dropLast.map bs) = (Q.map bs).take (Q.length - 1) := by rw [List.dropLast_eq_take, List.map_take]
         have HO2 := hide (HO.out.take (k := Q.length - 1) (by simp))
         rw [← hdl] at HO2
         clear hs2 hdl
         obtain ⟨m, hm⟩ : ∃ m, Q.length = m := ⟨_, rfl⟩
         rw [hm] at hc2 HO HO2 hql ⊢
         clear hm HO
         cases m with
         | zero =>
           go_wp2
           go_roundw
           case rel => exact ⟨k + 1, by go_num, by omega, by rw [HT.out, stepP, if_neg (by simp), if_pos rfl]; exact HO2.out, HBW.out⟩
           case measure => simp [intOf]; omega
         | succ m =>
           have hm1 : (m : Int) ≤ 19800000 := by omega
           have hm2 : max (0 : Int) (m : Int) = m := by omega
           go_wp2
           go_roundw
           case rel => exact ⟨k + 1, by go_num, by omega, by rw [HT.out, stepP, if_neg (by simp), if_pos rfl]; exact HO2.out, HBW.out⟩
           case measure => simp [intOf]; omega
       · have h4646 : ((bs x).toList == [46, 46]) = false := by rw [bs_toList]; simpa using e3
         have hb0 : W.heap.size ≤ wr.heap.size := HBW.out.size
         obtain ⟨v4, w4, r4, o4, g4, b4⟩ := run_appS (c := 1) (OwnS.alloc HO.out (.cells #[.string (bs x)] 9)) (sr_new wr (bs x)) (by simp; omega) (by simp; omega)
         have HO4 := hide o4
         have HB4 := hide ((HBW.out.alloc hb0 (.cells #[.string (bs x)] 9)).trans ((Below.refl W.heap.size _).grown g4 (by simp; omega) (fun q hq => (World.ownsRow.lt HO.out q hq).1)))
         clear o4 g4 b4
         go_wp2_with (at_builtin; refine wpList_app_run ?_ (.tmp 25) (.tmp 27) ?_ ?_ ?_ ?_ r4 ?_; exact rfl; exact rfl; exact rfl; exact rfl; exact rfl)
         go_roundw
         case rel => exact ⟨k + 1, by go_num, by omega, by rw [HT.out, stepP, if_neg (by simp [e1, e2]), if_neg e3, List.map_append]; exact HO4.out, HB4.out⟩
         case measure => simp [intOf]; omega
     · obtain rfl : k = n := by omega
       have HF := hide (show (M.take k).foldl stepP [] = R by rw [List.take_of_length_le (by have := HML.out; omega)]; exact HFL.out)
       rw [HF.out] at HO
       go_wp2
       go_ret
       refine ⟨⟨_, rfl, ?_⟩, below_up HB.out HBW.out HB.out.size⟩
       rw [HRR.out]
       exact HO.out.base HB.out.size
end
section
open Go.RowKit Go.Deep Ln Pth
attribute [local go_sem] bt_eq
theorem join_slashed : ∀ l : List T, 47 :: Lib.join l [47] = joinF l
 | [] => rfl
 | s :: l => by
   rw [joinF, if_neg (by simp)]
   induction l generalizing s with
   | nil => rw [Lib.join_one]; simp [slashed]
   | cons t l ih =>
     have := ih t
     rw [slashed_cons' , ← this]
     simp [Lib.join, List.intercalate]
where
 slashed_cons' {s : T} {r : List T} : slashed (s :: r) = 47 :: (s ++ slashed r) := by simp [slashed]
theorem pjoin_any (A : Option Addr) (c : Nat) (l : List T) (w : World) (hA : SR w A (l.map bs)) (hc : l.length ≤ c) (hn : l.length ≤ 66000000) (hl : (joinF l).length ≤ 66000000) :
   Calls Tryz.prog 105 #[.slice A l.length c] w fun e w' => e = .returned (.string (bs (joinF l))) ∧ Below w.heap.size w w' := by
 have hjl : (Lib.join l [47]).length ≤ 66000000 := by
   have := join_slashed l
   have h2 := congrArg List.length this
   simp only [List.length_cons] at h2
   omega
 have HJ : Hid (Calls Tryz.prog 160 #[.slice A l.length c, .string ⟨#[47]⟩] w fun e w' => e = .returned (.string (bs (Lib.join l [47]))) ∧ Below w.heap.size w w') := by
   cases l with
   | nil => exact hide ((Tryz.strings_Join_none A c ⟨#[47]⟩ w).mono fun e w' ⟨h1, h2⟩ => ⟨h1, h2 ▸ Below.refl _ _⟩)
   | cons s l =>
     obtain ⟨g, o, rfl, hg, _⟩ := hA 0 (bs s) rfl
     have hm : ((s :: l).map bs).map (·.data.toList) = s :: l := by
       rw [List.map_map]
       conv => rhs; rw [← List.map_id (s :: l)]
       apply List.map_congr_left
       intro x _
       exact bs_list x
     have := Tryz.strings_Join g o c ((s :: l).map bs) ⟨#[47]⟩ w (fun j x hj => by
       obtain ⟨g', o', e, _, hc'⟩ := hA j x hj
       injection e with e
       injection e with e1 e2
       subst e1 e2
       exact hc') hg (by rw [List.length_map]; omega) (by rw [List.length_map]; exact hc) (by rw [hm]; show (Lib.join (s :: l) [47]).length ≤ _; omega)
     rw [hm, List.length_map] at this
     exact hide this
 have HE := hide (show (⟨#[47]⟩ : ByteArray) ++ bs (Lib.join l [47]) = bs (joinF l) by rw [← join_slashed l]; exact bs_app [47] _)
 have z1 : (bs (Lib.join l [47])).size ≤ 66000000 := by rw [bs_size]; exact hjl
 generalize bs (Lib.join l [47]) = s1 at HJ HE z1
 generalize bs (joinF l) = s2 at HE ⊢
 obtain ⟨n, hn⟩ : ∃ n, l.length = n := ⟨_, rfl⟩
 rw [hn] at HJ ⊢
 clear hA hc hl hjl hn
 go_enter Tryz.func105, Tryz.ntmps105
 go_wp2_with fail
 refine HJ.out.mono ?_
 rintro e w' ⟨rfl, hb⟩
 have HB := hide hb
 clear hb
 go_wp2
 go_ret
 refine ⟨?_, HB.out⟩
 rw [← HE.out]
 rfl
theorem has0_any (l : T) (w : World) : Calls Tryz.prog 101 #[.string (bs l), .string ⟨#[0]⟩] w fun e w' => e = .returned (.bool (decide (0 ∈ l))) ∧ w = w' := by
 have := Tryz.strings_Contains_one (bs l) 0 w
 rw [bs_list, show decide (0 ≤ Lib.indexByte l 0) = decide ((0 : UInt8) ∈ l) from decide_eq_decide.2 (ixb_mem 0 l)] at this
 exact this.mono fun e w' ⟨h1, h2⟩ => ⟨h1, h2.symm⟩
theorem abs1_any (s : ByteArray) (w : World) (h : s.size ≤ 9223372036854775807) : Calls Tryz.prog 104 #[.string s] w fun e w' => e = .returned (.bool (decide (60 < s.size))) ∧ w = w' := by
 have h1 : (s.size : Int) ≤ 9223372036854775807 := by omega
 by_cases hs : 60 < s.size
 · have h2 : (60 : Int) < (s.size : Int) := by omega
   rw [decide_eq_true hs]
   clear hs
   go_enter Tryz.func104, Tryz.ntmps104
   go_wp2
   go_ret
   exact ⟨rfl, rfl⟩
 · have h2 : decide (60 < (s.size : Int)) = false := by simp; omega
   rw [decide_eq_false hs]
   clear hs
   go_enter Tryz.func104, Tryz.ntmps104
   go_wp2
   go_ret
   exact ⟨rfl, rfl⟩
def AbsPost (a : T × Nat) (w : World) (e : Ending) (w' : World) : Prop := e = .returned (.tuple #[.string (bs a.1), .int .i64 a.2]) ∧ Below w.heap.size w w'
theorem abs_any (cwd p : T) (w : World) (hm : MX w) (h1 : cwd.length ≤ 6600000) (h2 : p.length ≤ 6600000) :
   Calls Tryz.prog 49 #[.string (bs cwd), .string (bs p)] w (AbsPost (absF cwd p) w) := by
 have HC0 := hide (fun W => has0_any cwd W)
 have HP0 := hide (fun W => has0_any p W)
 have HPA := hide (fun W h => parts_any cwd p W h h1 h2)
 have HM := hide hm
 clear hm
 by_cases c1 : p = []
 · subst c1
   have hem : (bs ([] : T)).toList.isEmpty = true := by rw [bs_toList]; rfl
   have HR := hide (show absF cwd [] = ([], 1) from if_pos (.inl rfl))
   go_enter Tryz.func49, Tryz.ntmps49
   go_wp2
   go_ret2
   unfold AbsPost
   rw [HR.out]
   exact ⟨rfl, Below.refl _ _⟩
 have hem : (bs p).toList.isEmpty = false := by rw [bs_toList]; cases p; exact absurd rfl c1; rfl
 by_cases c2 : 0 ∈ cwd
 · rw [decide_eq_true c2] at HC0
   have HR := hide (show absF cwd p = ([], 1) from if_pos (.inr (.inl c2)))
   clear c2
   go_enter Tryz.func49, Tryz.ntmps49
   go_wp2_with fail
   refine (HC0.out _).mono ?_
   rintro e w' ⟨rfl, rfl⟩
   go_wp2
   go_ret2
   unfold AbsPost
   rw [HR.out]
   exact ⟨rfl, Below.refl _ _⟩
 rw [decide_eq_false c2] at HC0
 by_cases c3 : 0 ∈ p
 · rw [decide_eq_true c3] at HP0
   have HR := hide (show absF cwd p = ([], 1) from if_pos (.inr (.inr c3)))
   clear c3 c2
   go_enter Tryz.func49, Tryz.ntmps49
   go_wp2_with fail
   refine (HC0.out _).mono ?_
   rintro e w' ⟨rfl, rfl⟩
   go_wp2_with fail
   refine (HP0.out _).mono ?_
   rintro e w' ⟨rfl, rfl⟩
   go_wp2
   go_ret2
   unfold AbsPost
   rw [HR.out]
   exact ⟨rfl, Below.refl _ _⟩
 rw [decide_eq_false c3] at HP0
 have hR : absF cwd p = if longF (partsF cwd p) = false ∧ (partsF cwd p).length ≤ 20 ∧ (joinF (partsF cwd p)).length ≤ 200 then (joinF (partsF cwd p), 0) else ([], 3) := by
   unfold absF
   rw [if_neg (by rintro (h | h | h); exact c1 h; exact c2 h; exact c3 h)]
 have hpl := partsF_len cwd p
 have hjl := joinF_len cwd p
 obtain ⟨L, hL⟩ : ∃ L, partsF cwd p = L := ⟨_, rfl⟩
 rw [hL] at hR HPA hpl hjl
 have HR := hide hR
 clear c1 c2 c3 hL hR
 go_enter Tryz.func49, Tryz.ntmps49
 go_wp2_with fail
 refine (HC0.out _).mono ?_
 rintro e w' ⟨rfl, rfl⟩
 go_wp2_with fail
 refine (HP0.out _).mono ?_
 rintro e w' ⟨rfl, rfl⟩
 go_wp2_with fail
 refine (HPA.out w HM.out).mono ?_
 rintro e w1 ⟨⟨v, rfl, ho⟩, hb1⟩
 obtain ⟨A, c, rfl, hc, hsr, _⟩ := OwnS.slice ho
 have HA := hide hsr
 have HB1 := hide hb1
 rw [List.length_map] at hc ⊢
 have hln : L.any (fun s => decide (60 < s.length)) = longF L := rfl
 have HCF := hide (contf_any (fun s => decide (60 < s.size)) 104 #[] (fun _ _ => by kernel_rfl) A c (L.map bs) w1 (by rw [List.length_map]; omega) HA.out (fun W x hx hb => by
   obtain ⟨y, hy, rfl⟩ := List.mem_map.1 hx
   refine (abs1_any (bs y) W (by rw [bs_size]; have := hjl.2 y hy; omega)).mono ?_
   rintro e w' ⟨h1, rfl⟩
   exact ⟨h1, hb⟩))
 have hany : (L.map bs).any (fun s => decide (60 < s.size)) = longF L := by
   unfold longF
   rw [List.any_map]
   congr 1
 rw [hany, List.length_map] at HCF
 clear hany hln ho hb1 hsr
 have HPJ := hide (fun W (h : Below w1.heap.size w1 W) => pjoin_any A c L W (HA.out.below h) hc (by omega) (by omega))
 obtain ⟨n, hn⟩ : ∃ n, L.length = n := ⟨_, rfl⟩
 have zj : (bs (joinF L)).size = (joinF L).length := bs_size _
 obtain ⟨J, hJ⟩ : ∃ J, joinF L = J := ⟨_, rfl⟩
 obtain ⟨lg, hlg⟩ : ∃ b, longF L = b := ⟨_, rfl⟩
 obtain ⟨sj, hsj⟩ : ∃ s, bs J = s := ⟨_, rfl⟩
 obtain ⟨jn, hjn⟩ : ∃ s, J.length = s := ⟨_, rfl⟩
 rw [hJ, hjn, hsj] at zj
 rw [hJ, hjn] at hjl
 rw [hn] at HPJ HCF hpl ⊢
 rw [hJ, hsj] at HPJ
 rw [hlg] at HCF
 have hR := HR.out
 rw [hJ, hn, hlg, hjn] at hR
 have HRR := hide hR
 have HSJ := hide hsj
 have hjl1 := hjl.1
 clear hR HR hJ hlg hsj hjn hn hjl hc
 have hn1 : (n : Int) ≤ 19800000 := by omega
 go_wp2_with fail
 refine HCF.out.mono ?_
 rintro e w2 ⟨rfl, hb2⟩
 have HB2 := hide (below_up HB1.out hb2 HB1.out.size)
 have HBJ := hide hb2
 clear hb2
 go_wp2_with fail
 refine (HPJ.out w2 HBJ.out).mono ?_
 rintro e w3 ⟨rfl, hb3⟩
 have HB3 := hide (below_up HB2.out hb3 HB2.out.size)
 clear hb3
 cases lg with
 | true =>
   have HE := hide (show absF cwd p = ([], 3) by rw [HRR.out, if_neg (by simp)])
   go_wp2
   go_ret2
   unfold AbsPost
   rw [HE.out]
   exact ⟨rfl, HB3.out⟩
 | false =>
   by_cases d1 : n ≤ 20
   · by_cases d2 : jn ≤ 200
     · have HE := hide (show absF cwd p = (J, 0) by rw [HRR.out, if_pos ⟨rfl, d1, d2⟩])
       have e1 : (n : Int) ≤ 20 := by omega
       have e2 : (jn : Int) ≤ 200 := by omega
       go_wp2
       go_ret2
       unfold AbsPost
       rw [HE.out, HSJ.out]
       exact ⟨rfl, HB3.out⟩
     · have HE := hide (show absF cwd p = ([], 3) by rw [HRR.out, if_neg (by rintro ⟨_, _, h⟩; exact d2 h)])
       have e1 : (n : Int) ≤ 20 := by omega
       have e2 : decide ((jn : Int) ≤ 200) = false := by simp; omega
       go_wp2
       go_ret2
       unfold AbsPost
       rw [HE.out]
       exact ⟨rfl, HB3.out⟩
   · have HE := hide (show absF cwd p = ([], 3) by rw [HRR.out, if_neg (by rintro ⟨_, h, _⟩; exact d1 h)])
     have e1 : decide ((n : Int) ≤ 20) = false := by simp; omega
     go_wp2
     go_ret2
     unfold AbsPost
     rw [HE.out]
     exact ⟨rfl, HB3.out⟩
end
section
open Go.RowKit Go.Deep Ln Pth
attribute [local go_sem] bt_eq
end
section
open Go.RowKit
theorem conv_SB (w : World) (l : List UInt8) (hl : l.length ≤ 1000000) : ∃ c w', (convert 9 55 (.string (bs l))).run Tryz.prog w = .ok (.slice (some ⟨w.heap.size, 0, none⟩) l.length c) w' ∧ RG encB 1 w' (some ⟨w.heap.size, 0, none⟩) l ∧ Below w.heap.size w w' ∧ l.length ≤ c ∧ c ≤ 9223372036854775807 ∧ w.heap.size < w'.heap.size := by
 have h := run_bytes_of_string (P := Tryz.prog) w 9 55 5 (bs l) Tryz.underlying9 Tryz.underlying55 Tryz.underlying5
 have h1 := grownCap_ge w (bs l).size 0 5
 have h2 := grownCap_le_maxLen w (bs l).size 0 5 (by rw [bs_size]; unfold maxLen; omega)
 rw [bs_size] at h h1 h2
 generalize grownCap w l.length 0 5 = C at h h1 h2
 refine ⟨C, _, h, ?_, ?_, h1, by unfold maxLen at h2; omega, by simp⟩
 · intro k x hk
   have hkl := (List.getElem?_eq_some_iff.1 hk).1
   refine ⟨_, _, rfl, by simp, fun j u hj => ?_⟩
   cases j with
   | succ j => simp [encB] at hj
   | zero =>
     have hu : u = .int .u8 x.toNat := by simpa [encB] using hj.symm
     have hx : (bs l).data[k]'(by simpa [bs] using hkl) = x := by
       have := (List.getElem?_eq_some_iff.1 hk).2
       simpa [bs] using this
     have hb := bytesRow_at (bs l) C k (by simpa [bs] using hkl)
     rw [hx] at hb
     rw [hu]
     have hp := heapNewO w.drew (.cells (bytesRow (bs l) C) 5 ((bytesRow (bs l) C).size, (bytesRow (bs l) C).size + 1))
     unfold World.cell?
     rw [show (w.drew).heap.size = w.heap.size from rfl] at hp
     simp only [hp, Nat.zero_add, Nat.mul_one, Nat.add_zero]
     exact hb
 · exact (Below.refl _ _).drew.alloc (Nat.le_refl _) _
where
 heapNewO (w : World) (o : Obj) : (w.alloc o).heap[w.heap.size]? = some o := by
   show (w.heap.push o)[w.heap.size]? = some o
   simp
end
section
open Go.RowKit Go.Deep Go.Maps Ln Pth Vf
attribute [local go_sem] bt_eq
theorem kind_any (g : Nat) (S : St) (q : T) (w : World) (h : Hs (VS g S) w) (hq : q.length ≤ 100000) :
   Calls Tryz.prog 42 #[.pointer (some ⟨g, 0, none⟩), .string (bs q)] w fun e w' => e = .returned (.int .i64 (kindM S.m q)) ∧ Below w.heap.size w w' := by
 obtain ⟨b, P, hgb, hg, hm, hS, _⟩ := VS.opn h
 have hl := nlook hm (s := bs q) (by rw [bs_size]; omega)
 have hc0 := cellOf hg (j := 0) rfl
 have hk : kindM S.m q = if q = [47] then 2 else match getG P (bs q) with
     | none => 0
     | some e => if e.nd.dir = true then 2 else 1 := by
   unfold kindM
   rw [hS, strip_get]
   cases getG P (bs q) <;> rfl
 clear h hg hm hS
 by_cases h1 : q = [47]
 · have ht : ((bs q).toList == [47]) = true := by rw [bs_toList, h1]; rfl
   rw [if_pos h1] at hk
   have HK := hide hk
   clear hk h1
   cases hgp : getG P (bs q) with
   | none =>
     rw [hgp] at hl
     unfold valN zN at hl
     clear hgp
     simp only [Option.isSome_none] at hl
     go_enter Tryz.func42, Tryz.ntmps42
     go_wp2
     go_ret
     refine ⟨?_, (Below.refl _ _).alloc (Nat.le_refl _) _⟩
     rw [HK.out]; rfl
   | some e =>
     rw [hgp] at hl
     unfold valN encN at hl
     clear hgp
     simp only [Option.isSome_some] at hl
     go_enter Tryz.func42, Tryz.ntmps42
     go_wp2
     go_ret
     refine ⟨?_, (Below.refl _ _).alloc (Nat.le_refl _) _⟩
     rw [HK.out]; rfl
 · have ht : ((bs q).toList == [47]) = false := by rw [bs_toList]; simpa using h1
   rw [if_neg h1] at hk
   clear h1
   cases hgp : getG P (bs q) with
   | none =>
     rw [hgp] at hl hk
     unfold valN zN at hl
     have HK := hide hk
     clear hgp hk
     simp only [Option.isSome_none] at hl
     go_enter Tryz.func42, Tryz.ntmps42
     go_wp2
     go_ret
     refine ⟨?_, (Below.refl _ _).alloc (Nat.le_refl _) _⟩
     rw [HK.out]; rfl
   | some e =>
     rw [hgp] at hl hk
     unfold valN encN at hl
     clear hgp
     simp only [Option.isSome_some] at hl hk
     obtain ⟨db, hdb⟩ : ∃ d, e.nd.dir = d := ⟨_, rfl⟩
     rw [hdb] at hl hk
     have HK := hide hk
     clear hk hdb
     cases db with
     | true =>
       go_enter Tryz.func42, Tryz.ntmps42
       go_wp2
       go_ret
       refine ⟨?_, (Below.refl _ _).alloc (Nat.le_refl _) _⟩
       rw [HK.out]; rfl
     | false =>
       go_enter Tryz.func42, Tryz.ntmps42
       go_wp2
       go_ret
       refine ⟨?_, (Below.refl _ _).alloc (Nat.le_refl _) _⟩
       rw [HK.out]; rfl
theorem way_any (g : Nat) (S : St) (q : T) (w : World) (h : Hs (VS g S) w) (hq : q.length ≤ 100000) :
   Calls Tryz.prog 96 #[.pointer (some ⟨g, 0, none⟩), .string (bs q)] w fun e w' => e = .returned (.int .i64 (wayM S.m q)) ∧ Below w.heap.size w w' := by
 have H := hide h
 clear h
 have HK := hide (fun k W (hb : Below w.heap.size w W) => kind_any g S (q.take k) W (H.out.below (VS.fr g S) hb) (by rw [List.length_take]; omega))
 obtain ⟨R, hR⟩ : ∃ R, wayM S.m q = R := ⟨_, rfl⟩
 have HR := hide hR
 rw [hR]
 clear hR
 have hz : (bs q).size = q.length := bs_size q
 obtain ⟨n, hn⟩ : ∃ n, q.length = n := ⟨_, rfl⟩
 have HN := hide hn
 rw [hn] at hq hz
 clear hn
 have hn1 : (n : Int) ≤ 100000 := by omega
 obtain ⟨cp, W, hcv, hrg, hbw, hcp, hcp2, hsz⟩ := conv_SB w q (by rw [HN.out]; omega)
 rw [HN.out] at hcv hcp
 have HRG := hide hrg
 have HBW := hide hbw
 clear hrg hbw hcp hcp2
 go_enter Tryz.func96, Tryz.ntmps96
 go_wp2
 go_loopw [10] (fun v10 wr => ∃ k : Nat, v10 = .int .i64 k ∧ k ≤ n ∧ Hid (wayB S.m q (n - k) k = R) ∧ Below W.heap.size W wr) (fun v10 _ => n - (intOf v10).toNat)
 case atStart => exact ⟨0, rfl, by omega, by have := HR.out; unfold wayM at this; rwa [HN.out] at this, Below.refl _ _⟩
 case round =>
   obtain ⟨k, rfl, hk, HWB, hb⟩ := hrel
   have HB := hide hb
   have HBR := hide (below_up HBW.out hb HBW.out.size)
   have HRR := hide (HRG.out.below hb)
   clear hb
   by_cases hlt : k < n
   · obtain ⟨x, hx⟩ : ∃ x, q[k]? = some x := ⟨q[k]'(by have := HN.out; omega), gE _⟩
     obtain ⟨gs, o, e, hg, hc⟩ := HRR.out k x hx
     injection e with e
     injection e with e1 e2
     subst e1 e2
     have hc1 : wr.cell? ⟨w.heap.size, 0 + k, none⟩ = some (.int .u8 x.toNat) := by
       have := hc 0 _ rfl
       simpa using this
     rw [Nat.zero_add] at hc1
     clear hc
     have b1 : (k : Int) < (n : Int) := by omega
     have hstep : wayB S.m q (n - k) k = if q.getD k 0 ≠ 47 ∨ k = 0 then wayB S.m q (n - (k + 1)) (k + 1) else if kindM S.m (q.take k) = 0 then 6 else if kindM S.m (q.take k) = 1 then 11 else wayB S.m q (n - (k + 1)) (k + 1) := by
       rw [show n - k = (n - (k + 1)) + 1 by omega, wayB, if_neg (by have := HN.out; omega)]
     have hxg : q.getD k 0 = x := by simp [hx]
     rw [hxg, HWB.out] at hstep
     have HST := hide hstep
     clear hx hxg hstep HWB
     have hx256 : x.toNat < 256 := x.toNat_lt
     by_cases e1 : x = 47
     · have hx47 : ((x.toNat : Int) == 47) = true := by rw [e1]; rfl
       have hx47' : ((x.toNat : Int) != 47) = false := by rw [e1]; rfl
       by_cases e2 : k = 0
       · subst e2
         have HN2 := hide (show wayB S.m q (n - (0 + 1)) (0 + 1) = R by rw [HST.out, if_pos (.inr rfl)])
         clear HST
         go_wp2
         go_roundw
         case rel => exact ⟨1, by go_num, by omega, HN2.out, HB.out⟩
         case measure => simp [intOf]; omega
       · have hk0 : ((k : Int) == 0) = false := by simpa using e2
         have HEX := hide (show (bs q).extract 0 k = bs (q.take k) by rw [ext_bs]; simp)
         have HKK := hide (HK.out k wr HBR.out)
         have hst := HST.out
         rw [if_neg (by rintro (h | h); exact h e1; exact e2 h)] at hst
         have HS2 := hide hst
         obtain ⟨kk, hkk⟩ : ∃ kk, kindM S.m (q.take k) = kk := ⟨_, rfl⟩
         rw [hkk] at HKK HS2
         clear hst HST hkk
         rw [← HEX.out] at HKK
         go_wp2_with fail
         refine HKK.out.mono ?_
         rintro e w' ⟨rfl, hb'⟩
         have HB' := hide (below_up HB.out hb' HB.out.size)
         have HBR' := hide (below_up HBR.out hb' HBR.out.size)
         clear hb'
         by_cases k0 : kk = 0
         · subst k0
           have HF := hide (show R = 6 by rw [HS2.out, if_pos rfl])
           go_wp2
           go_ret
           refine ⟨?_, HBR'.out⟩
           rw [HF.out]
           rfl
         by_cases k1 : kk = 1
         · subst k1
           have HF := hide (show R = 11 by rw [HS2.out]; rfl)
           go_wp2
           go_ret
           refine ⟨?_, HBR'.out⟩
           rw [HF.out]
           rfl
         have k0' : ((kk : Int) == 0) = false := by simp; omega
         have k1' : ((kk : Int) == 1) = false := by simp; omega
         have HF := hide (show wayB S.m q (n - (k + 1)) (k + 1) = R by rw [HS2.out, if_neg k0, if_neg k1])
         clear HS2 k0 k1
         go_wp2
         go_roundw
         case rel => exact ⟨k + 1, by go_num, by omega, HF.out, HB'.out⟩
         case measure => simp [intOf]; omega
     · have hx47 : ((x.toNat : Int) == 47) = false := by
         simp only [beq_eq_false_iff_ne]
         intro h
         apply e1
         have h2 : x.toNat = (47 : UInt8).toNat := by have : (47 : UInt8).toNat = 47 := rfl; omega
         exact UInt8.toNat_inj.1 h2
       have hx47' : ((x.toNat : Int) != 47) = true := by simpa using hx47
       have HN2 := hide (show wayB S.m q (n - (k + 1)) (k + 1) = R by rw [HST.out, if_pos (.inl e1)])
       clear HST e1
       go_wp2
       go_roundw
       case rel => exact ⟨k + 1, by go_num, by omega, HN2.out, HB.out⟩
       case measure => simp [intOf]; omega
   · obtain rfl : k = n := by omega
     have HE := hide (show (0 : Nat) = R by rw [← HWB.out, Nat.sub_self]; rfl)
     go_wp2
     go_ret
     refine ⟨?_, HBR.out⟩
     rw [← HE.out]
     rfl
end
section
open Go.RowKit Go.Deep Go.Maps Ln Pth Vf
attribute [local go_sem] bt_eq
theorem absF_len (p : T) : (absF [47] p).1.length ≤ 200 := by
 rcases absF_cases [47] p with ⟨l, g, e, _⟩ | ⟨e, _⟩
 · rw [e]; exact g.len
 · rw [e]; simp
theorem absS_len (S : St) (p : T) : (absS S p).1.length ≤ 200 := by
 unfold absS
 split
 · simp
 · split
   · simp
   · exact absF_len p
theorem fld0 (x y z : Value) (w : World) : (Instr.field 96 (.agg #[x, y, z]) 0).run Tryz.prog w = .ok x w := by kernel_rfl
theorem fld1 (x y z : Value) (w : World) : (Instr.field 96 (.agg #[x, y, z]) 1).run Tryz.prog w = .ok y w := by kernel_rfl
theorem fld2 (x y z : Value) (w : World) : (Instr.field 96 (.agg #[x, y, z]) 2).run Tryz.prog w = .ok z w := by kernel_rfl
theorem mkMap (w : World) : (Instr.makeMap 86 none).run Tryz.prog w = .ok (.map (some w.heap.size)) (w.alloc (.map #[] 0)) := by kernel_rfl
attribute [local go_sem] fld0 fld1 fld2 mkMap
theorem ne0 {n : Nat} (h : n ≠ 0) : ((n : Int) != 0) = true ∧ ((n : Int) == 0) = false := by
 constructor
 · simpa using h
 · simpa using h
theorem vabs_any (g : Nat) (S : St) (p : T) (w : World) (h : Hs (VS g S) w) (hm : MX w) (hp : p.length ≤ 50000) :
   Calls Tryz.prog 41 #[.pointer (some ⟨g, 0, none⟩), .string (bs p)] w (AbsPost (absS S p) w) := by
 have HA := hide (abs_any [47] p w hm (by simp) (by omega))
 have hl := absF_len p
 have HW := hide (fun W (hb : Below w.heap.size w W) => way_any g S (absF [47] p).1 W (h.below (VS.fr g S) hb) (by omega))
 have hR : absS S p = if (absF [47] p).2 ≠ 0 then ([], (absF [47] p).2) else if wayM S.m (absF [47] p).1 ≠ 0 then ([], wayM S.m (absF [47] p).1) else ((absF [47] p).1, 0) := rfl
 unfold AbsPost at HA
 obtain ⟨q, hq⟩ : ∃ q, (absF [47] p).1 = q := ⟨_, rfl⟩
 obtain ⟨e, he⟩ : ∃ q, (absF [47] p).2 = q := ⟨_, rfl⟩
 rw [hq] at HA HW hR hl
 rw [he] at HA hR
 obtain ⟨y, hy⟩ : ∃ y, wayM S.m q = y := ⟨_, rfl⟩
 rw [hy] at HW hR
 have HR := hide hR
 clear hR hq he hy h hm
 by_cases c1 : e = 0
 · subst c1
   go_enter Tryz.func41, Tryz.ntmps41
   go_wp2_with fail
   refine HA.out.mono ?_
   rintro e w1 ⟨rfl, hb⟩
   have HB := hide hb
   clear hb
   go_wp2_with fail
   refine (HW.out w1 HB.out).mono ?_
   rintro e w2 ⟨rfl, hb⟩
   have HB2 := hide (below_up HB.out hb HB.out.size)
   clear hb
   by_cases c2 : y = 0
   · subst c2
     have HE := hide (show absS S p = (q, 0) from HR.out)
     go_wp2
     go_ret2
     unfold AbsPost
     rw [HE.out]
     exact ⟨rfl, HB2.out⟩
   · obtain ⟨t1, t2⟩ := ne0 c2
     have HE := hide (show absS S p = ([], y) by rw [HR.out, if_neg (by simp), if_pos c2])
     clear c2
     go_wp2
     go_ret2
     unfold AbsPost
     rw [HE.out]
     exact ⟨rfl, HB2.out⟩
 · obtain ⟨t1, t2⟩ := ne0 c1
   have HE := hide (show absS S p = ([], e) by rw [HR.out, if_pos c1])
   clear c1
   go_enter Tryz.func41, Tryz.ntmps41
   go_wp2_with fail
   refine HA.out.mono ?_
   rintro e w1 ⟨rfl, hb⟩
   have HB := hide hb
   clear hb
   go_wp2
   go_ret2
   unfold AbsPost
   rw [HE.out]
   exact ⟨rfl, HB.out⟩
theorem vnew_any (n b : Int) (w : World) (h1 : -9223372036854775808 ≤ n) (h2 : n ≤ 9223372036854775807) (h3 : -9223372036854775808 ≤ b) (h4 : b ≤ 9223372036854775807) :
   Calls Tryz.prog 14 #[.int .i64 n, .int .i64 b] w fun e w' => e = .returned (.pointer (some ⟨w.heap.size + 1, 0, none⟩)) ∧ Below w.heap.size w w' ∧ VS (w.heap.size + 1) (newS n b) (fun k => w.heap.size ≤ k ∧ k < w'.heap.size) (fun _ => False) w' ∧ w'.heap.size = w.heap.size + 2 := by
 have ho := World.ownsMap_made w Tryz.prog 9 hR
 have e1 : min (max (0 : Int) n) 10000 = ((newS n b).nodes : Nat) := by simp only [newS]; omega
 have e2 : min (max (0 : Int) b) 1048576 = ((newS n b).bytes : Nat) := by simp only [newS]; omega
 have E1 := hide e1
 have E2 := hide e2
 have HO := hide ho
 clear e1 e2 ho
 go_enter Tryz.func14, Tryz.ntmps14
 go_wp2
 go_ret
 have hb1 : Below w.heap.size w (w.alloc (.map #[] 0)) := (Below.refl _ _).alloc (Nat.le_refl _) _
 refine ⟨by simp, hb1.alloc (by simp) _, ?_, by simp⟩
 refine ⟨w.heap.size, [], ⟨by omega, by simp⟩, ⟨Nat.le_refl _, by simp; omega⟩, by omega, ?_, ?_, rfl, fun x hx => by cases hx⟩
 · have := heapNew (w.alloc (.map #[] 0)) (.cells #[.map (some w.heap.size), .int .i64 (min (max 0 n) 10000), .int .i64 (min (max 0 b) 1048576), .int .i64 0, .int .i64 0] 88)
   rw [← E1.out, ← E2.out, show ((newS n b).used : Int) = 0 from rfl, show ((newS n b).clock : Int) = 0 from rfl]
   simpa using this
 · exact MapN.of (w := w.alloc (.map #[] 0)) (own_tightN (P := []) HO.out) (Below.heap_alloc _ _ _ (by simp))
end
section
open Go.RowKit Go.Deep Go.Maps Ln Pth Vf
attribute [local go_sem] bt_eq fld0 fld1 fld2 mkMap
theorem room_any (g : Nat) (S : St) (hS : WfS S) (nodes : Nat) (grows : Int) (w : World) (h : Hs (VS g S) w) (hn : nodes ≤ 10) (h1 : -4000000 ≤ grows) (h2 : grows ≤ 4000000) :
   Calls Tryz.prog 43 #[.pointer (some ⟨g, 0, none⟩), .int .i64 nodes, .int .i64 grows] w fun e w' => e = .returned (.bool (decide ((S.m.length + nodes : Nat) ≤ S.nodes ∧ (S.used : Int) + grows ≤ (S.bytes : Int)))) ∧ Drew w w' := by
 obtain ⟨b, P, hgb, hg, hm, hsm, _⟩ := VS.opn h
 have hlen := nlen (hm.of (w' := w.drew) rfl) 3
 have hc0 := cellOf hg (j := 0) rfl
 have hc1 := cellOf hg (j := 1) rfl
 have hc2 := cellOf hg (j := 2) rfl
 have hc3 := cellOf hg (j := 3) rfl
 have b1 := hS.nodes
 have b2 := hS.bytes
 have b3 := hS.n10
 have b4 := hS.b20
 have hpl : S.m.length = P.length := by rw [hsm, strip_len]
 rw [hpl] at b1 ⊢
 obtain ⟨m, hm'⟩ : ∃ m, P.length = m := ⟨_, rfl⟩
 obtain ⟨sn, hsn⟩ : ∃ m, S.nodes = m := ⟨_, rfl⟩
 obtain ⟨sb, hsb⟩ : ∃ m, S.bytes = m := ⟨_, rfl⟩
 obtain ⟨su, hsu⟩ : ∃ m, S.used = m := ⟨_, rfl⟩
 rw [hm'] at hlen b1 ⊢
 rw [hsn] at hc1 b1 b3 ⊢
 rw [hsb] at hc2 b2 b4 ⊢
 rw [hsu] at hc3 b2 ⊢
 clear h hS hg hm hsm hpl hm' hsn hsb hsu
 have hn1 : (nodes : Int) ≤ 10 := by omega
 have hm1 : (m : Int) ≤ 10000 := by omega
 have hu1 : (su : Int) ≤ 1048576 := by omega
 have k1 : (m : Int) + (nodes : Int) = ((m + nodes : Nat) : Int) := by omega
 have w1 : IntKind.i64.wrap ((m : Int) + (nodes : Int)) = (m : Int) + (nodes : Int) := IntWalk.i64_in _ (by omega)
 have w2 : IntKind.i64.wrap ((su : Int) + grows) = (su : Int) + grows := IntWalk.i64_in _ (by omega)
 by_cases c1 : m + nodes ≤ sn
 · have d1 : (m : Int) + (nodes : Int) ≤ (sn : Int) := by omega
   by_cases c2 : (su : Int) + grows ≤ (sb : Int)
   · have HE := hide (show decide (m + nodes ≤ sn ∧ (su : Int) + grows ≤ (sb : Int)) = true from decide_eq_true ⟨c1, c2⟩)
     clear c1 k1
     go_enter Tryz.func43, Tryz.ntmps43
     go_wp2
     go_region
     go_wp2
     go_ret
     rw [HE.out]
     exact ⟨rfl, ⟨_, rfl⟩⟩
   · have HE := hide (show decide (m + nodes ≤ sn ∧ (su : Int) + grows ≤ (sb : Int)) = false from decide_eq_false (fun h => c2 h.2))
     have d2 : decide ((su : Int) + grows ≤ (sb : Int)) = false := by simp; omega
     clear c1 k1 c2
     go_enter Tryz.func43, Tryz.ntmps43
     go_wp2
     go_region
     go_wp2
     go_ret
     rw [HE.out]
     exact ⟨rfl, ⟨_, rfl⟩⟩
 · have d1 : decide ((m : Int) + (nodes : Int) ≤ (sn : Int)) = false := by simp; omega
   have HE := hide (show decide (m + nodes ≤ sn ∧ (su : Int) + grows ≤ (sb : Int)) = false from decide_eq_false (fun h => c1 h.1))
   clear c1 k1
   go_enter Tryz.func43, Tryz.ntmps43
   go_wp2
   go_region
   go_wp2
   go_ret
   rw [HE.out]
   exact ⟨rfl, ⟨_, rfl⟩⟩
theorem heapSet {w : World} {g j : Nat} {cs : Array Value} {t : TypeId} (h : w.heap[g]? = some (.cells cs t)) (v : Value) : (w.setCell ⟨g, j, none⟩ v).heap[g]? = some (.cells (cs.setIfInBounds j v) t) := by
 unfold World.setCell
 simp [Array.getElem?_modify, h]
theorem put_any (g : Nat) (S : St) (q : T) (e : En) (T N : Nat → Prop) (w : World) (h : VS g S T N w) (ok : OkTN T N w) (hr : RiseG S.m) (hl : S.m.length ≤ 100000) (hq : q.length ≤ 100000) (hc : S.clock ≤ 1000000000) (hd : RG encB 1 w e.A e.nd.data) (hN : ∀ a, e.A = some a → N a.block) :
   Calls Tryz.prog 44 #[.pointer (some ⟨g, 0, none⟩), .string (bs q), encN e] w fun e' w' => e' = .returned (.tuple #[]) ∧ VS g (Vf.putS S q e.nd.dir e.nd.data) T N w' ∧ Kp w w' T := by
 obtain ⟨b, P, h1, h2, hgb, hg, hm, hsm, hx⟩ := h
 have hc0 := cellOf hg (j := 0) rfl
 have hc4 := cellOf hg (j := 4) rfl
 have hf4 := freeOf hg 4
 have hgl := (ok.1 g h1).1
 have hbl := (ok.1 b h2).1
 have hck : (S.clock : Int) ≤ 1000000000 := by omega
 unfold encN
 go_enter Tryz.func44, Tryz.ntmps44
 go_wp2
 obtain ⟨W3, hW3⟩ : ∃ W, (w.setCell ⟨g, 4, none⟩ (.int .i64 ((S.clock : Int) + 1))).alloc (.cells #[.bool e.nd.dir, .slice e.A e.nd.data.length e.c, .int .i64 ((S.clock : Int) + 1)] 96) = W := ⟨_, rfl⟩
 have hsz3 : W3.heap.size = w.heap.size + 1 := by rw [← hW3]; simp
 have hk3 : Kp w W3 (fun k => k = g) := by
   rw [← hW3]
   refine ⟨rfl, rfl, rfl, by simp, fun k hk hne => ?_⟩
   rw [Below.heap_alloc _ _ _ (by simpa using hk)]
   exact Below.heap_setCell _ _ _ _ (by simpa using hne)
 have hg3 : W3.heap[g]? = some (.cells #[.map (some b), .int .i64 S.nodes, .int .i64 S.bytes, .int .i64 S.used, .int .i64 ((S.clock : Int) + 1)] 88) := by
   rw [← hW3, Below.heap_alloc _ _ _ (by simpa using hgl)]
   exact heapSet hg _
 have hb3 : W3.heap[b]? = w.heap[b]? := hk3.block b hbl (fun e => hgb e.symm)
 have hn3 := heapNew (w.setCell ⟨g, 4, none⟩ (.int .i64 ((S.clock : Int) + 1))) (.cells #[.bool e.nd.dir, .slice e.A e.nd.data.length e.c, .int .i64 ((S.clock : Int) + 1)] 96)
 rw [hW3, World.size_setCell] at hn3
 rw [hW3]
 have hc30 := cellOf hg3 (j := 0) rfl
 have hx0 := cellOf hn3 (j := 0) rfl
 have hx1 := cellOf hn3 (j := 1) rfl
 have hx2 := cellOf hn3 (j := 2) rfl
 have hrP : RiseG P := strip_rise.1 (hsm ▸ hr)
 have hlP : P.length ≤ 100000 := by rw [← strip_len, ← hsm]; exact hl
 obtain ⟨w4, hrun, hm4, hk4, hsz4⟩ := nstore (w := W3.drew) (hm.of (hb3.trans rfl)) hrP (by omega) (s := bs q) (by rw [bs_size]; omega) ⟨e.A, e.c, ⟨e.nd.dir, e.nd.data, S.clock + 1⟩⟩
 unfold encN at hrun
 simp only at hrun
 rw [show ((S.clock + 1 : Nat) : Int) = (S.clock : Int) + 1 by omega] at hrun
 have HM4 := hide hm4
 have HK4 := hide hk4
 have HG3 := hide hg3
 have HK3 := hide hk3
 have HSM := hide hsm
 have HX := hide hx
 clear hm4 hk4 hg3 hk3 hsm hx hm hg hb3 hn3 hW3 hc0 hc4
 go_region
 go_end0
 have hkT : Kp w w4 T := by
   have h3 : Kp w W3.drew (fun k => k = g) := ⟨HK3.out.os, HK3.out.tape, HK3.out.output, HK3.out.size, HK3.out.block⟩
   have h4 := (h3.mono (S' := T) (fun k e => by subst e; exact h1)).trans (HK4.out.mono (fun k e => by subst e; exact .inl h2))
   exact h4
 refine ⟨rfl, ⟨b, putG (bs q, ⟨e.A, e.c, ⟨e.nd.dir, e.nd.data, S.clock + 1⟩⟩) P, h1, h2, hgb, ?_, HM4.out, ?_, ?_⟩, hkT⟩
 · have := (HK4.out.block g (show g < W3.heap.size by omega) (fun e => hgb e)).trans HG3.out
   rw [this]
   rfl
 · show putG (bs q, _) S.m = _
   rw [strip_put, HSM.out]
 · intro x hx
   have hdk : ∀ (A : Option Addr) (D : List UInt8), RG encB 1 w A D → (∀ a, A = some a → N a.block) → RG encB 1 w4 A D := fun A D h hn => h.of hkT.size (fun a ea hlt => hkT.block a.block hlt (fun ht => (ok.1 _ ht).2 (hn a ea)))
   rcases mem_putG hx with rfl | hx
   · exact ⟨hdk _ _ hd hN, hN⟩
   · exact ⟨hdk _ _ (HX.out x hx).1 (HX.out x hx).2, (HX.out x hx).2⟩
end
end Go.Proofs.YtpheeheikigenaaGreatDoor
namespace Go.Proofs
open Go.Shelf
def Tryz.grow97_ren : Go.Shelf.Ren := ⟨fun | 4 => 97 | n => n, fun | 22 => 55 | 25 => 5 | 3 => 3 | 4 => 4 | 9 => 9 | 20 => 20 | 0 => 0 | n => n, fun | n => n⟩
theorem Tryz.grow97 : Go.Proofs.Lays8.n4 Tryz.prog Tryz.grow97_ren := {
 mixed := by kernel_rfl
 f4 := ⟨Tryz.f97.name, by decide, Tryz.func97.trans (congrArg some (by kernel_rfl))⟩
 t0 := Tryz.underlying0
 a0 := Tryz.isAgg0
 z0 := Tryz.sizeOf0
 v0 := Tryz.zeroValue0
 t3 := Tryz.underlying3
 a3 := Tryz.isAgg3
 z3 := Tryz.sizeOf3
 v3 := Tryz.zeroValue3
 t4 := Tryz.underlying4
 a4 := Tryz.isAgg4
 z4 := Tryz.sizeOf4
 v4 := Tryz.zeroValue4
 t9 := Tryz.underlying9
 a9 := Tryz.isAgg9
 z9 := Tryz.sizeOf9
 v9 := Tryz.zeroValue9
 t20 := Tryz.underlying20
 a20 := Tryz.isAgg20
 z20 := Tryz.sizeOf20
 v20 := Tryz.zeroValue20
 t22 := Tryz.underlying55
 a22 := Tryz.isAgg55
 z22 := Tryz.sizeOf55
 v22 := Tryz.zeroValue55 }
end Go.Proofs
namespace Go.Proofs.YtpheeheikigenaaGreatDoor
section
open Go.RowKit Go.Deep
abbrev BRow := Option Addr × Nat × List UInt8
def SLB (w : World) (B : Option Addr) (L : List BRow) : Prop := ∀ (k : Nat) (x : BRow), L[k]? = some x → ∃ g o, B = some ⟨g, o, none⟩ ∧ g < w.heap.size ∧ w.cell? ⟨g, o + k, none⟩ = some (.slice x.1 x.2.2.length x.2.1) ∧ RG encB 1 w x.1 x.2.2
theorem SLB.below {w w' : World} {B : Option Addr} {L : List BRow} (h : SLB w B L) (hb : Below w.heap.size w w') : SLB w' B L := fun k x hx => by
 obtain ⟨g, o, e, hg, hc, hr⟩ := h k x hx
 exact ⟨g, o, e, Nat.lt_of_lt_of_le hg hb.size, (hb.cell (p := ⟨g, o + k, none⟩) hg).trans hc, hr.below hb⟩
theorem zeros_len (n : Nat) : (Builtin.zeroCells #[Value.int .u8 0] n).size = n := by
 unfold Builtin.zeroCells
 simp
theorem grow_any (n : Nat) (w : World) (hn : n ≤ 10000000) :
   Calls Tryz.prog 97 #[.slice none 0 0, .int .i64 n] w fun e w' => ∃ v, e = .returned v ∧ OwnG encB 1 5 w' w.heap.size v [] ∧ Below w.heap.size w w' := by
 by_cases h : n = 0
 · subst h
   refine (Any8.slices_Grow_room Tryz.grow97 none 0 0 0 w (by omega) (by omega) (by omega) (by omega)).mono ?_
   rintro e w' ⟨rfl, rfl⟩
   exact ⟨_, rfl, OwnG.nil _ _, Below.refl _ _⟩
 · obtain ⟨i0, hi, hz0, hz1, hz2⟩ := info_parts (rowB.info)
   have := Any8.slices_Grow_grow Tryz.grow97 i0 (.int .u8 0) hi hz0 (by rw [hz1]; omega) none 0 0 n [] w (by omega) (by omega) (by rw [hz2]; show (0 + n) * 1 ≤ _; omega) (by omega) (by simp) (fun _ => rfl) (fun a e => by cases e)
   refine this.mono ?_
   rintro e w' ⟨rfl, rfl⟩
   have g1 := grownCap_ge w (0 + n) 0 (Tryz.grow97_ren.t 25)
   have g2 := grownCap_le_maxLen w (0 + n) 0 (Tryz.grow97_ren.t 25) (by unfold maxLen; omega)
   refine ⟨_, rfl, ⟨rfl, .inr ⟨w.heap.size, _, _, rfl, Nat.le_refl _, heapNewC _ _, by simp, g2, ?_, by simp [valsG]⟩⟩, (Below.refl _ _).drew.alloc (Nat.le_refl _) _⟩
   show (#[] ++ Builtin.zeroCells #[Value.int .u8 0] (0 + n - 0) ++ Builtin.zeroCells #[Value.int .u8 0] (grownCap w (0 + n) 0 (Tryz.grow97_ren.t 25) - (0 + n))).size = _
   rw [Array.size_append, Array.size_append, zeros_len, zeros_len]
   simp only [List.size_toArray, List.length_nil]
   omega
where
 heapNewC (w : World) (o : Obj) : (w.alloc o).heap[w.heap.size]? = some o := by
   show (w.heap.push o)[w.heap.size]? = some o
   simp
def sumB (L : List BRow) : Nat := (L.map fun x => x.2.2.length).sum
def catB (L : List BRow) : List UInt8 := L.flatMap fun x => x.2.2
theorem sumB_take {L : List BRow} {k : Nat} {x : BRow} (h : L[k]? = some x) : sumB (L.take (k + 1)) = sumB (L.take k) + x.2.2.length := by
 unfold sumB
 rw [List.take_add_one, h]
 simp
theorem catB_take {L : List BRow} {k : Nat} {x : BRow} (h : L[k]? = some x) : catB (L.take (k + 1)) = catB (L.take k) ++ x.2.2 := by
 unfold catB
 rw [List.take_add_one, h]
 simp
theorem sumB_le (L : List BRow) (k : Nat) : sumB (L.take k) ≤ sumB L := by
 unfold sumB
 rw [List.map_take]
 conv => rhs; rw [← List.take_append_drop k (L.map _), List.sum_append]
 omega
theorem catB_len (L : List BRow) : (catB L).length = sumB L := by
 unfold catB sumB
 induction L with
 | nil => rfl
 | cons x L ih => simp [ih]
theorem concat_any (B : Option Addr) (c : Nat) (L : List BRow) (w : World) (hA : SLB w B L) (hl : L.length ≤ 1000) (hs : sumB L ≤ 900000) :
   Calls Tryz.prog 45 #[.slice B L.length c] w fun e w' => (∃ v, e = .returned v ∧ OwnG encB 1 5 w' w.heap.size v (catB L)) ∧ Below w.heap.size w w' := by
 have HA := hide hA
 clear hA
 obtain ⟨n, hn⟩ : ∃ n, L.length = n := ⟨_, rfl⟩
 have HN := hide hn
 rw [hn] at hl ⊢
 clear hn
 have hn1 : (n : Int) ≤ 1000 := by omega
 go_enter Tryz.func45, Tryz.ntmps45
 go_wp2
 go_loop [3, 5, 11] (fun v3 _ v11 => ∃ k s : Nat, v11 = .int .i64 k ∧ k ≤ n ∧ v3 = .int .i64 s ∧ Hid (s = sumB (L.take k)) ∧ s ≤ 900000) (fun _ _ v11 => n - (intOf v11).toNat)
 case atStart => exact ⟨0, 0, rfl, by omega, rfl, rfl, by omega⟩
 case round =>
   obtain ⟨k, s, rfl, hk, rfl, HS, hs2⟩ := hrel
   by_cases hlt : k < n
   · obtain ⟨x, hx⟩ : ∃ x, L[k]? = some x := ⟨L[k]'(by have := HN.out; omega), gE _⟩
     obtain ⟨g, o, rfl, hg, hc, hr⟩ := HA.out k x hx
     have HT := hide (sumB_take hx)
     have hle := sumB_le L (k + 1)
     rw [HT.out, ← HS.out] at hle
     have b1 : (k : Int) < (n : Int) := by omega
     obtain ⟨m, hm⟩ : ∃ m, x.2.2.length = m := ⟨_, rfl⟩
     rw [hm] at hc hle HT
     clear hx hr hm
     have b2 : (s : Int) ≤ 900000 := by omega
     have b3 : (m : Int) ≤ 900000 := by omega
     go_wp2
     go_round
     case rel => exact ⟨k + 1, s + m, by go_num, by omega, by go_num, show s + m = sumB (L.take (k + 1)) by rw [HT.out, ← HS.out], by omega⟩
     case measure => simp [intOf]; omega
   · obtain rfl : k = n := by omega
     have HS3 := hide (show s = sumB L by rw [HS.out, List.take_of_length_le (by have := HN.out; omega)])
     have HG := hide (grow_any s w (by omega))
     clear HS
     go_wp2_with fail
     refine HG.out.mono ?_
     rintro e w1 ⟨v, rfl, ho, hb⟩
     have HO1 := hide ho
     have HB1 := hide hb
     clear ho hb
     go_wp2
     go_loopw [6, 8, 27] (fun v6 _ v27 wr => ∃ j : Nat, v27 = .int .i64 j ∧ j ≤ k ∧ OwnG encB 1 5 wr w.heap.size v6 (catB (L.take j)) ∧ Below w.heap.size w wr) (fun _ _ v27 _ => k - (intOf v27).toNat)
     case atStart => exact ⟨0, rfl, by omega, HO1.out, HB1.out⟩
     case round =>
       obtain ⟨j, rfl, hj, ho, hb⟩ := hrel
       have HO := hide ho
       have HB := hide hb
       have HAR := hide (HA.out.below hb)
       clear ho hb
       by_cases hlt2 : j < k
       · obtain ⟨x, hx⟩ : ∃ x, L[j]? = some x := ⟨L[j]'(by have := HN.out; omega), gE _⟩
         obtain ⟨g, o, rfl, hg, hc, hr⟩ := HAR.out j x hx
         have hbw : w.heap.size ≤ wr.heap.size := HB.out.size
         have hlen : (catB (L.take j)).length + x.2.2.length ≤ 1000000 := by
           have h1 := sumB_take hx
           have h2 := sumB_le L (j + 1)
           rw [catB_len]
           omega
         obtain ⟨v', w4, r4, o4, g4, b4⟩ := run_appY (c := x.2.1) HO.out hr hbw hlen
         have HO4 := hide o4
         have HT := hide (catB_take hx)
         have HB4 := hide (HB.out.trans ((Below.refl w.heap.size _).grown g4 hbw (fun q hq => (HO.out.lt q hq).1)))
         have b1 : (j : Int) < (k : Int) := by omega
         clear o4 g4 b4 hx hr
         go_wp2_with (at_builtin; refine wpList_app_run ?_ (.tmp 31) (.tmp 32) ?_ ?_ ?_ ?_ r4 ?_; exact rfl; exact rfl; exact rfl; exact rfl; exact rfl)
         go_roundw
         case rel => exact ⟨j + 1, by go_num, by omega, by rw [HT.out]; exact HO4.out, HB4.out⟩
         case measure => simp [intOf]; omega
       · obtain rfl : j = k := by omega
         have HF := hide (show catB (L.take j) = catB L by rw [List.take_of_length_le (by have := HN.out; omega)])
         rw [HF.out] at HO
         go_wp2
         go_ret
         exact ⟨⟨_, rfl, HO.out⟩, HB.out⟩
end
section
open Go.RowKit Go.Deep Go.Maps Ln Pth Vf
attribute [local go_sem] bt_eq fld0 fld1 fld2 mkMap
def FsPost (g : Nat) (r : St × Nat) (T N : Nat → Prop) (w : World) (e : Ending) (w' : World) : Prop := e = .returned (.int .i64 r.2) ∧ ∃ N', VS g r.1 T N' w' ∧ GrowN w w' T N T N' ∧ Kp w w' T
theorem VS.stay {g : Nat} {S : St} {T N : Nat → Prop} {w w' : World} (h : VS g S T N w) (ok : OkTN T N w) (hb : Below w.heap.size w w') : VS g S T N w' ∧ OkTN T N w' :=
 ⟨VS.fr g S T N N w w' h (fun k hk => hb.block k (hk.elim (fun h => (ok.1 k h).1) (ok.2 k))) (fun _ h => h) hb.size, (GrowN.refl ok hb.size).2.2.2⟩
theorem FsPost.stay {g : Nat} {S : St} {n : Nat} {T N : Nat → Prop} {w w' : World} (h : VS g S T N w) (ok : OkTN T N w) (hb : Below w.heap.size w w') : FsPost g (S, n) T N w (.returned (.int .i64 n)) w' :=
 ⟨rfl, N, (h.stay ok hb).1, GrowN.refl ok hb.size, Kp.of_below hb T⟩
theorem VS.used {g : Nat} {S : St} {T N : Nat → Prop} {w : World} (h : VS g S T N w) (ok : OkTN T N w) (u : Nat) (hk : Kp w (w.setCell ⟨g, 3, none⟩ (.int .i64 u)) (fun k => k = g)) : VS g { S with used := u } T N (w.setCell ⟨g, 3, none⟩ (.int .i64 u)) ∧ OkTN T N (w.setCell ⟨g, 3, none⟩ (.int .i64 u)) := by
 obtain ⟨b, P, h1, h2, hgb, hg, hm, hsm, hx⟩ := h
 refine ⟨⟨b, P, h1, h2, hgb, heapSet hg _, hm.of (hk.block b (ok.1 b h2).1 (fun e => hgb e.symm)), hsm, fun x hx' => ⟨(hx x hx').1.of hk.size (fun a ea hlt => hk.block a.block hlt (fun e => (ok.1 g h1).2 (by rw [← e]; exact (hx x hx').2 a ea))), (hx x hx').2⟩⟩, (GrowN.refl ok hk.size).2.2.2⟩
theorem kpSet (w : World) (g j : Nat) (v : Value) : Kp w (w.setCell ⟨g, j, none⟩ v) (fun k => k = g) :=
 ⟨rfl, rfl, rfl, by simp, fun k _ hne => Below.heap_setCell _ _ _ _ (by simpa using hne)⟩
theorem node_at {g : Nat} {S : St} {w : World} (h : Hs (VS g S) w) (q : T) (hq : q.length ≤ 100000) : ∃ (b : Nat) (db : Bool) (A : Option Addr) (c tm : Nat), w.cell? ⟨g, 0, none⟩ = some (.map (some b)) ∧
   (Instr.lookup 86 (.map (some b)) (.string (bs q)) false).run Tryz.prog w = .ok (.agg #[.bool db, .slice A (dataM S.m q).length c, .int .i64 tm]) w ∧ RG encB 1 w A (dataM S.m q) ∧ tm = timeM S.m q ∧ (∀ n, getG S.m (bs q) = some n → db = n.dir) := by
 obtain ⟨b, P, hgb, hg, hm, hS, hx⟩ := VS.opn h
 have hlk := nlook1 hm (s := bs q) (by rw [bs_size]; omega)
 unfold dataM timeM
 rw [hS, strip_get]
 cases hgp : getG P (bs q) with
 | none =>
   rw [hgp] at hlk
   exact ⟨b, false, none, 0, 0, cellOf hg (j := 0) rfl, hlk, RG.nil _ _, rfl, fun n hn => by cases hn⟩
 | some e =>
   rw [hgp] at hlk
   exact ⟨b, e.nd.dir, e.A, e.c, e.nd.time, cellOf hg (j := 0) rfl, hlk, hx _ (getG_mem hgp), rfl, fun n hn => by injection hn with hn; rw [← hn]⟩
theorem rg_set {w : World} {g : Nat} {mb : Option Nat} {a b c d : Int} {t : TypeId} (hg : w.heap[g]? = some (.cells #[.map mb, .int .i64 a, .int .i64 b, .int .i64 c, .int .i64 d] t)) {A : Option Addr} {D : List UInt8} (h : RG encB 1 w A D) (j : Nat) (v : Value) : RG encB 1 (w.setCell ⟨g, j, none⟩ v) A D := by
 intro k x hk
 obtain ⟨g', o, e, hlt, hc⟩ := h k x hk
 refine ⟨g', o, e, by simpa using hlt, fun i u hu => ?_⟩
 have h1 := hc i u hu
 by_cases e2 : g' = g
 · subst e2
   exfalso
   cases i with
   | succ i => simp [encB] at hu
   | zero =>
     have hu2 : u = .int .u8 x.toNat := by simpa [encB] using hu.symm
     subst hu2
     unfold World.cell? at h1
     simp only [hg] at h1
     generalize o + k * 1 + 0 = z at h1
     match z, h1 with
     | 0, h1 => simp at h1
     | 1, h1 => simp at h1
     | 2, h1 => simp at h1
     | 3, h1 => simp at h1
     | 4, h1 => simp at h1
     | z + 5, h1 => simp at h1
 · exact (World.cell?_of_block (a := ⟨g', o + k * 1 + i, none⟩) (Below.heap_setCell _ _ _ _ (by simpa using e2))).trans h1
theorem slb_two (w : World) {A1 A2 : Option Addr} {c1 c2 : Nat} {D1 D2 : List UInt8} (h1 : RG encB 1 w A1 D1) (h2 : RG encB 1 w A2 D2) (t : TypeId) :
   SLB (w.alloc (.cells #[.slice A1 D1.length c1, .slice A2 D2.length c2] t)) (some ⟨w.heap.size, 0, none⟩) [(A1, c1, D1), (A2, c2, D2)] := by
 have hb : Below w.heap.size w (w.alloc (.cells #[.slice A1 D1.length c1, .slice A2 D2.length c2] t)) := (Below.refl _ _).alloc (Nat.le_refl _) _
 have hn := heapNew w (.cells #[.slice A1 D1.length c1, .slice A2 D2.length c2] t)
 intro k x hk
 match k, hk with
 | 0, hk =>
   simp at hk
   subst hk
   exact ⟨_, _, rfl, by simp, cellOf hn rfl, h1.below hb⟩
 | 1, hk =>
   simp at hk
   subst hk
   exact ⟨_, _, rfl, by simp, cellOf hn rfl, h2.below hb⟩
 | k + 2, hk => simp at hk
theorem room_int (g : Nat) (S : St) (hS : WfS S) (nodes grows : Int) (w : World) (h : Hs (VS g S) w) (h0 : 0 ≤ nodes) (hn : nodes ≤ 10) (h1 : -4000000 ≤ grows) (h2 : grows ≤ 4000000) :
   Calls Tryz.prog 43 #[.pointer (some ⟨g, 0, none⟩), .int .i64 nodes, .int .i64 grows] w fun e w' => e = .returned (.bool (decide ((S.m.length : Int) + nodes ≤ S.nodes ∧ (S.used : Int) + grows ≤ (S.bytes : Int)))) ∧ Drew w w' := by
 obtain ⟨k, rfl⟩ := Int.eq_ofNat_of_zero_le h0
 have := room_any g S hS k grows w h (by omega) h1 h2
 rwa [show decide ((S.m.length + k : Nat) ≤ S.nodes ∧ (S.used : Int) + grows ≤ (S.bytes : Int)) = decide ((S.m.length : Int) + (k : Int) ≤ S.nodes ∧ (S.used : Int) + grows ≤ (S.bytes : Int)) from decide_eq_decide.2 (by omega)] at this
def moreN (N : Nat → Prop) (A : Option Addr) (k : Nat) : Prop := N k ∨ ∃ a, A = some a ∧ k = a.block
theorem VS.more {g : Nat} {S : St} {T N : Nat → Prop} {w w' : World} (h : VS g S T N w) (ok : OkTN T N w) (hb : Below w.heap.size w w') {A : Option Addr} (hn : ∀ a, A = some a → w.heap.size ≤ a.block ∧ a.block < w'.heap.size) :
   VS g S T (moreN N A) w' ∧ GrowN w w' T N T (moreN N A) := by
 have hs := hb.size
 refine ⟨VS.fr g S T N _ w w' h (fun k hk => hb.block k (hk.elim (fun h => (ok.1 k h).1) (ok.2 k))) (fun k h => .inl h) hs, fun k h => .inl h, fun k h => .inl h, ?_, ?_, ?_⟩
 · rintro k (h | ⟨a, e, rfl⟩)
   · exact .inl h
   · exact .inr (hn a e).1
 · intro k hk
   refine ⟨Nat.lt_of_lt_of_le (ok.1 k hk).1 hs, ?_⟩
   rintro (h | ⟨a, e, rfl⟩)
   · exact (ok.1 k hk).2 h
   · have := (hn a e).1; have := (ok.1 _ hk).1; omega
 · rintro k (h | ⟨a, e, rfl⟩)
   · exact Nat.lt_of_lt_of_le (ok.2 k h) hs
   · exact (hn a e).2
theorem concat_two (g : Nat) (A1 A2 : Option Addr) (c1 c2 : Nat) (D1 D2 : List UInt8) (w : World) (h : SLB w (some ⟨g, 0, none⟩) [(A1, c1, D1), (A2, c2, D2)]) (h1 : D1.length ≤ 400000) (h2 : D2.length ≤ 400000) :
   Calls Tryz.prog 45 #[.slice (some ⟨g, 0, none⟩) 2 2] w fun e w' => (∃ A c, e = .returned (.slice A (D1 ++ D2).length c) ∧ RG encB 1 w' A (D1 ++ D2) ∧ ∀ a, A = some a → w.heap.size ≤ a.block ∧ a.block < w'.heap.size) ∧ Below w.heap.size w w' := by
 have hc : catB [(A1, c1, D1), (A2, c2, D2)] = D1 ++ D2 := by simp [catB]
 have := concat_any (some ⟨g, 0, none⟩) 2 [(A1, c1, D1), (A2, c2, D2)] w h (by simp) (by simp [sumB]; omega)
 rw [hc] at this
 refine this.mono ?_
 rintro e w' ⟨⟨v, rfl, ho⟩, hb⟩
 obtain ⟨A, c, rfl, _, hr, ha, _⟩ := ho.slice encB_len
 exact ⟨⟨A, c, rfl, hr, fun a e => ho.lt _ (ha a e)⟩, hb⟩
theorem write_any (g : Nat) (S : St) (p b : T) (more : Bool) (A : Option Addr) (c : Nat) (T N : Nat → Prop) (w : World) (h : VS g S T N w) (ok : OkTN T N w) (hS : WfS S) (hm : MX w) (hp : p.length ≤ 50000) (hby : S.bytes ≤ 400000) (hbl : b.length ≤ 400000) (hck : S.clock ≤ 1000000000) (hr : RG encB 1 w A b) :
   Calls Tryz.prog 22 #[.pointer (some ⟨g, 0, none⟩), .string (bs p), .slice A b.length c, .bool more] w (FsPost g (writeS S p b more) T N w) := by
 have HH : Hs (VS g S) w := ⟨T, N, h, ok⟩
 have HA := hide (vabs_any g S p w HH hm hp)
 have hl := absS_len S p
 have hR : writeS S p b more = if (absS S p).2 ≠ 0 then (S, (absS S p).2) else writeQ S (absS S p).1 b more := rfl
 unfold AbsPost at HA
 obtain ⟨q, hq⟩ : ∃ q, (absS S p).1 = q := ⟨_, rfl⟩
 obtain ⟨e, he⟩ : ∃ q, (absS S p).2 = q := ⟨_, rfl⟩
 rw [hq] at HA hR hl
 rw [he] at HA hR
 have HR := hide hR
 have H := hide h
 have OK := hide ok
 have HRG := hide hr
 have HWF := hide hS
 have HHS := hide HH
 have d2 := dataM_len hS q
 have u1 := hS.bytes
 obtain ⟨n, hn⟩ : ∃ n, b.length = n := ⟨_, rfl⟩
 have HN := hide hn
 rw [hn] at hbl ⊢
 clear hR he h ok hr hS HH hn hq hm
 by_cases c1 : e = 0
 case neg =>
   obtain ⟨t1, t2⟩ := ne0 c1
   have HE := hide (show writeS S p b more = (S, e) by rw [HR.out, if_pos c1])
   clear c1
   go_enter Tryz.func22, Tryz.ntmps22
   go_wp2_with fail
   refine HA.out.mono ?_
   rintro e w1 ⟨rfl, hb⟩
   have HB := hide hb
   clear hb
   go_wp2
   go_ret
   rw [HE.out]
   exact FsPost.stay H.out OK.out HB.out
 subst c1
 have hRQ := HR.out
 rw [if_neg (by simp)] at hRQ
 unfold writeQ at hRQ
 have HK := hide (fun W (hb : Below w.heap.size w W) => kind_any g S q W (HHS.out.below (VS.fr g S) hb) (by omega))
 obtain ⟨kk, hkk⟩ : ∃ y, kindM S.m q = y := ⟨_, rfl⟩
 rw [hkk] at HK hRQ
 by_cases k2 : kk = 2
 · subst k2
   have HE := hide (show writeS S p b more = (S, 10) by rw [hRQ]; rfl)
   clear hRQ hkk
   go_enter Tryz.func22, Tryz.ntmps22
   go_wp2_with fail
   refine HA.out.mono ?_
   rintro e w1 ⟨rfl, hb⟩
   have HB := hide hb
   clear hb
   go_wp2_with fail
   refine (HK.out w1 HB.out).mono ?_
   rintro e w2 ⟨rfl, hb⟩
   have HB2 := hide (below_up HB.out hb HB.out.size)
   clear hb
   go_wp2
   go_ret
   rw [HE.out]
   exact FsPost.stay H.out OK.out HB2.out
 have k2' : ((kk : Int) == 2) = false := by simp; omega
 rw [if_neg k2] at hRQ
 simp only at hRQ
 obtain ⟨m, hmm⟩ : ∃ n, (dataM S.m q).length = n := ⟨_, rfl⟩
 rw [hmm] at hRQ d2
 obtain ⟨nd, hnd⟩ : ∃ nd : Nat, (if kk = 0 then 1 else 0) = nd := ⟨_, rfl⟩
 obtain ⟨was, hwas⟩ : ∃ x, (if more = true then dataM S.m q else []) = x := ⟨_, rfl⟩
 rw [hnd, hwas] at hRQ
 have HRQ := hide hRQ
 have HMM := hide hmm
 clear hRQ hkk k2 hmm
 have hbl1 : (n : Int) ≤ 400000 := by omega
 have hm1 : (m : Int) ≤ 400000 := by omega
 go_enter Tryz.func22, Tryz.ntmps22
 go_wp2_with fail
 refine HA.out.mono ?_
 rintro e w1 ⟨rfl, hb⟩
 have HB := hide hb
 clear hb
 go_wp2_with fail
 refine (HK.out w1 HB.out).mono ?_
 rintro e w2 ⟨rfl, hb⟩
 have HB2 := hide (below_up HB.out hb HB.out.size)
 clear hb
 obtain ⟨bm, db, A0, c0, tm, hc0, hlk, hr0, _, _⟩ := node_at (HHS.out.below (VS.fr g S) HB2.out) q (by omega)
 rw [HMM.out] at hlk
 have HR0 := hide hr0
 clear hr0
 have HWAS := hide hwas
 have HND := hide hnd
 clear hnd hwas
 by_cases k0 : kk = 0
 all_goals
   first
     | (subst k0
        have hnd : nd = 1 := by rw [← HND.out]; rfl)
     | (have k0' : ((kk : Int) == 0) = false := by simp; omega
        have hnd : nd = 0 := by rw [← HND.out, if_neg k0])
   cases more
 all_goals
   have hwl := congrArg List.length HWAS.out
   first
     | rw [if_pos rfl, HMM.out] at hwl
     | (rw [if_neg (by simp)] at hwl
        simp only [List.length_nil] at hwl)
   have HROOM := hide (show ∀ (W : World) (hb : Below w.heap.size w W) (nodes grows : Int) (h1 : nodes = nd) (h2 : grows = (was.length : Int) + n - m), Calls Tryz.prog 43 #[.pointer (some ⟨g, 0, none⟩), .int .i64 nodes, .int .i64 grows] W fun e w' => ∃ rb, e = .returned (.bool rb) ∧ (rb = true ↔ (S.m.length + nd ≤ S.nodes ∧ S.used + (was.length + b.length) ≤ S.bytes + m)) ∧ Drew W w' from by
     intro W hb nodes grows h1 h2
     refine (room_int g S HWF.out nodes grows W (HHS.out.below (VS.fr g S) hb) (by omega) (by omega) (by omega) (by omega)).mono ?_
     rintro e w' ⟨rfl, h⟩
     refine ⟨_, rfl, ?_, h⟩
     rw [decide_eq_true_iff]
     have := HN.out
     omega)
   have HND2 := hide hnd
   have HWL := hide hwl
   clear hnd hwl
   go_wp2_with fail
   refine Calls.mono (HROOM.out _ HB2.out _ _ ?h1 ?h2) ?_
   case h1 => have := HND2.out; omega
   case h2 => have := HWL.out; omega
   rintro e w3 ⟨rb, rfl, hrb, hd3⟩
   have HB3 := hide (below_up HB2.out hd3.below HB2.out.size)
   have HRB := hide hrb
   have HD3 := hide hd3
   clear hd3 hrb
   cases rb with
   | false =>
     have HE := hide (HRQ.out.trans (if_neg (fun h => by have := HRB.out.2 h; cases this)))
     go_wp2
     go_ret
     rw [HE.out]
     exact FsPost.stay H.out OK.out HB3.out
   | true =>
     obtain ⟨hv3, ok3⟩ := H.out.stay OK.out HB3.out
     have HV3 := hide hv3
     have OK3 := hide ok3
     obtain ⟨b3, P3, _, _, _, hg3, _⟩ := hv3
     have hc3 := cellOf hg3 (j := 3) rfl
     have hf3 := freeOf hg3 3
     have hgl := World.block_lt_of_cell? _ _ hc3
     clear ok3
     have hg3' := hg3
     have HG3 := hide hg3
     clear hg3
     have hbb := HN.out
     obtain ⟨u, hu⟩ : ∃ u, S.used + (was.length + b.length) - m = u := ⟨_, rfl⟩
     have HU := hide hu
     have HRA := hide (rg_set hg3' (HRG.out.below HB3.out) 3 (.int .i64 (u : Int)))
     have hr03 := HR0.out.drew HD3.out
     have HRO := hide (rg_set hg3' hr03 3 (.int .i64 (u : Int)))
     have hcond := HRB.out.1 rfl
     have huz : u ≤ 400000 := by omega
     have HE := hide (HRQ.out.trans (if_pos hcond))
     rw [hu] at HE
     have humi : (u : Int) = (S.used : Int) + (was.length + n) - m := by omega
     have HUM := hide humi
     clear hg3' hr03 hbb hcond hu humi
     go_wp2_with fail
     first
       | (have hw : was = [] := by have h := HWAS.out; simp at h; first | exact h | exact h.symm
          subst hw
          have HSL := hide (slb_two (w3.setCell ⟨g, 3, none⟩ (.int .i64 (u : Int))) (A1 := none) (c1 := 0) (D1 := []) (c2 := c) (RG.nil _ _) HRA.out 55)
          rw [show (S.used : Int) + ((n : Int) - (m : Int)) = (u : Int) by have := HUM.out; simp only [List.length_nil] at this; omega])
       | (have hw : was = dataM S.m q := by have h := HWAS.out; simp at h; exact h.symm
          have HSL := hide (slb_two (w3.setCell ⟨g, 3, none⟩ (.int .i64 (u : Int))) (c1 := c0) (c2 := c) HRO.out HRA.out 55)
          rw [← hw, ← HWL.out] at HSL
          clear hw
          rw [show (S.used : Int) + (n : Int) = (u : Int) by have := HUM.out; have := HWL.out; omega])
     all_goals
       rw [HN.out] at HSL
       have hsz4 : (w3.setCell ⟨g, 3, none⟩ (.int .i64 (u : Int))).heap.size = w3.heap.size := by simp
       rw [hsz4] at HSL
       obtain ⟨hv4, ok4⟩ := VS.used HV3.out OK3.out u (kpSet w3 g 3 (.int .i64 (u : Int)))
       have hk4 : Kp w (w3.setCell ⟨g, 3, none⟩ (.int .i64 (u : Int))) T := (Kp.of_below HB3.out T).trans ((kpSet w3 g 3 (.int .i64 (u : Int))).mono (fun k e => by subst e; exact .inl (by obtain ⟨_, _, h1, _⟩ := H.out; exact h1)))
       have HV4 := hide hv4
       have OK4 := hide ok4
       have HK4 := hide hk4
       clear hv4 ok4 hk4
       generalize hW4 : (World.setCell w3 ⟨g, 3, none⟩ (.int .i64 (u : Int))).alloc _ = W4 at HSL ⊢
       have hb4 : Below (World.setCell w3 ⟨g, 3, none⟩ (.int .i64 (u : Int))).heap.size (World.setCell w3 ⟨g, 3, none⟩ (.int .i64 (u : Int))) W4 := by rw [← hW4]; exact (Below.refl _ _).alloc (Nat.le_refl _) _
       have HB4 := hide hb4
       clear hb4 hW4
       have HCC := hide (concat_two w3.heap.size _ _ _ _ _ _ W4 HSL.out (by first | (simp; done) | (have := HWL.out; omega)) (by have := HN.out; omega))
       generalize hD5 : _ ++ b = D5 at HCC
       have HD5 := hide hD5
       obtain ⟨n5, hn5'⟩ : ∃ n, D5.length = n := ⟨_, rfl⟩
       rw [hn5'] at HCC
       have HN5' := hide hn5'
       clear hD5 hn5'
       go_wp2_with fail
       refine HCC.out.mono ?_
       rintro e w5 ⟨⟨A5, c5, rfl, hr5, hn5⟩, hb5⟩
       have HR5 := hide hr5
       have HN5 := hide hn5
       have HB5 := hide (below_up HB4.out hb5 HB4.out.size)
       clear hr5 hn5 hb5 HCC HSL
       obtain ⟨hv5, hgr5⟩ := HV4.out.more OK4.out HB5.out (A := A5) (fun a e => ⟨Nat.le_trans HB4.out.size (HN5.out a e).1, (HN5.out a e).2⟩)
       have HP := put_any g { S with used := u } q ⟨A5, c5, ⟨false, D5, 0⟩⟩ T _ w5 hv5 hgr5.2.2.2 HWF.out.rise (by show S.m.length ≤ 100000; have := HWF.out.nodes; have := HWF.out.n10; omega) (by omega) hck HR5.out (fun a e => .inr ⟨a, e, rfl⟩)
       unfold encN at HP
       simp only at HP
       rw [show ((0 : Nat) : Int) = 0 from rfl, HN5'.out] at HP
       have HPP := hide HP
       have HGR := hide hgr5
       clear HP hv5 hgr5
       go_wp2_with fail
       have h9 := HPP.out
       with_reducible refine Calls.mono h9 ?_
       rintro e w6 ⟨rfl, hv6, hk6⟩
       have HV6 := hide hv6
       have HK6 := hide hk6
       clear hv6 hk6
       go_wp2
       go_ret
       rw [HE.out, HD5.out]
       refine ⟨rfl, _, HV6.out, ?_, ?_⟩
       · have g1 := HGR.out
         have s1 := HK4.out.size
         have s2 := HK6.out.size
         exact ⟨fun k h => .inl h, g1.2.1, fun k h => (g1.2.2.1 k h).imp_right (fun h => Nat.le_trans s1 h), fun k hk => ⟨Nat.lt_of_lt_of_le (g1.2.2.2.1 k hk).1 s2, (g1.2.2.2.1 k hk).2⟩, fun k hk => Nat.lt_of_lt_of_le (g1.2.2.2.2 k hk) s2⟩
       · exact (HK4.out.trans (Kp.of_below HB5.out _)).trans (HK6.out.mono (fun k h => .inl h))
end
section
open Go.RowKit Go.Deep Go.Maps Ln Pth Vf
attribute [local go_sem] bt_eq fld0 fld1 fld2 mkMap
end
section
open Go.RowKit Go.Deep Go.Maps Ln Pth Vf
def T0 (b : Nat) (k : Nat) : Prop := b ≤ k ∧ k < b + 2
def TA (b : Nat) (w0 : World) (S : St) (wr : World) : Prop := ∃ N, VS (b + 1) S (T0 b) N wr ∧ OkTN (T0 b) N wr ∧ Below w0.heap.size w0 wr
theorem TA.write {b : Nat} {w0 wr : World} {S : St} (h : TA b w0 S wr) (h0 : w0.heap.size ≤ b) (hm : MX w0) (hS : WfS S) (hby : S.bytes ≤ 400000) (hck : S.clock ≤ 1000000000) (p : T) (hp : p.length ≤ 50000) (d : T) (hd : d.length ≤ 400000) (more : Bool) (A : Option Addr) (c : Nat) (hA : RG encB 1 wr A d) :
   Calls Tryz.prog 22 #[.pointer (some ⟨b + 1, 0, none⟩), .string (bs p), .slice A d.length c, .bool more] wr fun e w' => e = .returned (.int .i64 (writeS S p d more).2) ∧ TA b w0 (writeS S p d more).1 w' ∧ Kp wr w' (T0 b) := by
 obtain ⟨N, hv, ok, hb⟩ := h
 refine (write_any (b + 1) S p d more A c (T0 b) N wr hv ok hS (hm.below hb) hp hby hd hck hA).mono ?_
 rintro e w' ⟨rfl, N', hv', hg, hk⟩
 exact ⟨rfl, ⟨N', hv', hg.2.2.2, hk.below hb (Nat.le_refl _) (fun k h => by unfold T0 at h; omega)⟩, hk⟩
theorem TA.new {w0 w1 w2 : World} (h0 : Below w0.heap.size w0 w1) (n m : Int) (hb : Below w1.heap.size w1 w2) (hv : VS (w1.heap.size + 1) (newS n m) (fun k => w1.heap.size ≤ k ∧ k < w2.heap.size) (fun _ => False) w2) (hs : w2.heap.size = w1.heap.size + 2) : TA w1.heap.size w0 (newS n m) w2 := by
 rw [show (fun k => w1.heap.size ≤ k ∧ k < w2.heap.size) = T0 w1.heap.size by funext k; unfold T0; rw [hs]] at hv
 exact ⟨_, hv, ⟨fun k hk => ⟨by unfold T0 at hk; omega, fun h => h⟩, fun k h => h.elim⟩, below_up h0 hb h0.size⟩
theorem TA.below {b : Nat} {w0 wr : World} {S : St} (h : TA b w0 S wr) : Below w0.heap.size w0 wr := by
 obtain ⟨N, hv, ok, hb⟩ := h
 exact hb
end
section
open Go.RowKit Go.Deep Go.Maps Ln Pth Vf
attribute [local go_sem] bt_eq
theorem convYY (w : World) (C : Array Value) (n c : Nat) : (convert 55 55 (.slice (some ⟨w.heap.size, 0, none⟩) n c)).run Tryz.prog (w.alloc (.cells C 5)) = .ok (.slice (some ⟨w.heap.size, 0, none⟩) n c) (w.alloc (.cells C 5 (C.size, C.size + 1))) := Lib.run_convert_bytes_const w 55 5 C n c Tryz.underlying55 Tryz.underlying5
attribute [local go_sem] convYY
end
section
open Go.RowKit Go.Deep Go.Maps Ln Pth Vf Qm.Glob
attribute [local go_sem] bt_eq
def ptK (k : Int) (s : ByteArray) : Pt := ⟨k, s, ⟨#[]⟩, ⟨#[]⟩, none, 0, 0, false⟩
theorem pat_one (p : Pt) : bsF (patS [p]) = patP p := by
 unfold patS bsF
 simp
theorem patP_quote (s : ByteArray) : patP (ptK 2 s) = sb (qb (bt s) s.size) := rfl
theorem plain_bytes (s : ByteArray) (h : ∀ j, j < s.size → bt s j ≠ 42 ∧ bt s j ≠ 63 ∧ bt s j ≠ 91 ∧ bt s j ≠ 92) : plAll (gItems (bt s) s.size) = true ∧ plBytes (gItems (bt s) s.size) = bytesOf s := by
 have e := gItems_parts (bt s) s.size s.size (Nat.le_refl _) (fun j hj => ⟨(h j hj).2.2.1, (h j hj).2.2.2⟩)
 have e2 : gItems (sh (bt s) s.size) (s.size - s.size) = [] := by rw [Nat.sub_self]; rfl
 have e3 : (List.range s.size).map (fun j => simp1 (bt s j)) = (List.range s.size).map (fun j => giOne (bt s j)) := List.map_congr_left fun j hj => by
   have := h j (List.mem_range.1 hj)
   unfold simp1
   simp [this.1, this.2.1]
 rw [e, e2, e3, List.append_nil]
 refine ⟨?_, ?_⟩
 · simp [plAll, giOne]
 · simp [plBytes, giOne, bytesOf]
theorem law_fieldPlain (K : Nat) (hK : K ≤ 140737488355328) (s : ByteArray) (qd : Bool) (hz : s.size ≤ K) (w : World) (hm : MX w) :
   Calls Tryz.prog 7 #[.string s, .bool qd] w fun e w' => e = .returned (.bool true) ∧ Below w.heap.size w w' := by
 have HM := hide hm
 obtain ⟨n, hn⟩ : ∃ n, s.size = n := ⟨_, rfl⟩
 have hnz : n ≤ 140737488355328 := by omega
 have HN := hide hn
 clear hm
 go_enter Tryz.func7, Tryz.ntmps7
 go_wp2_with fail
 refine (alive12_any _).mono ?_
 rintro e w1 ⟨rfl, hb1⟩
 have HB1 := hide hb1
 clear hb1
 by_cases h0 : (100 : Int) < (n : Int)
 · have hd : decide ((100 : Int) < (n : Int)) = true := decide_eq_true h0
   go_wp2
   go_ret
   exact ⟨rfl, HB1.out⟩
 have hd : decide ((100 : Int) < (n : Int)) = false := decide_eq_false h0
 go_wp2
 go_loopw [6] (fun v6 wr => w1 = wr ∧ ∃ i : Nat, v6 = .int .i64 i ∧ i ≤ n ∧ (qd = true → i = 0) ∧ Hid (∀ j, j < i → bt s j ≠ 42 ∧ bt s j ≠ 63 ∧ bt s j ≠ 91 ∧ bt s j ≠ 92)) (fun v6 _ => n - (intOf v6).toNat)
 case atStart => exact ⟨rfl, 0, rfl, by omega, fun _ => rfl, hide fun j hj => by omega⟩
 case round =>
   obtain ⟨rfl, i, rfl, hi, hq, HG⟩ := hrel
   by_cases hlt : i < n ∧ qd = false
   case pos =>
     obtain ⟨hlt, rfl⟩ := hlt
     have b1 : (i : Int) < (n : Int) := by omega
     clear hq
     by_cases c1 : (bt s i : Int) = 42
     · go_wp2
       all_goals (go_ret; exact ⟨rfl, HB1.out⟩)
     by_cases c2 : (bt s i : Int) = 63
     · go_wp2
       all_goals (go_ret; exact ⟨rfl, HB1.out⟩)
     by_cases c3 : (bt s i : Int) = 91
     · go_wp2
       all_goals (go_ret; exact ⟨rfl, HB1.out⟩)
     by_cases c4 : (bt s i : Int) = 92
     · go_wp2
       all_goals (go_ret; exact ⟨rfl, HB1.out⟩)
     have HG2 := hide (show ∀ j, j < i + 1 → bt s j ≠ 42 ∧ bt s j ≠ 63 ∧ bt s j ≠ 91 ∧ bt s j ≠ 92 from fun j hj => by
       by_cases e : j = i
       · subst e; exact ⟨by omega, by omega, by omega, by omega⟩
       · exact HG.out j (by omega))
     have q1 : ((bt s i : Int) == 42) = false := by rw [beq_eq_false_iff_ne]; exact c1
     have q2 : ((bt s i : Int) == 63) = false := by rw [beq_eq_false_iff_ne]; exact c2
     have q3 : ((bt s i : Int) == 91) = false := by rw [beq_eq_false_iff_ne]; exact c3
     have q4 : ((bt s i : Int) == 92) = false := by rw [beq_eq_false_iff_ne]; exact c4
     clear c1 c2 c3 c4
     go_wp2
     go_roundw
     case rel => exact ⟨trivial, i + 1, by go_num, by omega, (fun h => by cases h), HG2⟩
     case measure => simp [intOf]; omega
   have hnn : n ≤ 100 := by omega
   have hpat : ∀ kd, (patP (ptK kd s)).size ≤ 1000 := fun kd => by
     have := patP_size (ptK kd s)
     have e : (ptK kd s).text = s := rfl
     rw [e, HN.out] at this
     omega
   have HNW := hide (vnew_any 3 3 w1 (by decide) (by decide) (by decide) (by decide))
   cases qd with
   | true =>
     obtain rfl := hq rfl
     have HPA := hide (hpat 2)
     have HPL := hide (show plAll (gItems (bt (patP (ptK 2 s))) (patP (ptK 2 s)).size) = true ∧ plBytes (gItems (bt (patP (ptK 2 s))) (patP (ptK 2 s)).size) = bytesOf s by
       rw [patP_quote]
       exact quoted_plain s)
     clear hpat HG hlt hq
     by_cases hn0 : (0 : Int) < (n : Int)
     · have hd0 : decide ((0 : Int) < (n : Int)) = true := decide_eq_true hn0
       go_wp2_with fail
       refine HNW.out.mono ?_
       rintro e w2 ⟨rfl, hb2, hv2, hz2⟩
       have hta := TA.new (w0 := w) HB1.out 3 3 hb2 hv2 hz2
       have HWR := hide (hta.write HB1.out.size HM.out (newS_wf 3 3) (by decide) (by decide) [47, 97] (by decide) [] (by decide) false none 0 (RG.nil w2 none))
       clear hb2 hv2 hz2 hta HNW
       go_wp2_with fail
       refine HWR.out.mono ?_
       rintro e w3 ⟨rfl, hta3, _⟩
       have HB3 := hide hta3.below
       have hrow : RG encPt 6 (w3.alloc (.cells #[.int .i64 2, .string s, .string ⟨#[]⟩, .string ⟨#[]⟩, .slice none 0 0, .bool false] tyP)) (some ⟨w3.heap.size, 0, none⟩) [ptK 2 s] := rg_new (enc := encPt) w3 (ptK 2 s) tyP
       have HPP := hide (paths_plain (w1.heap.size + 1) ⟨#[47]⟩ (some ⟨w3.heap.size, 0, none⟩) 1 [ptK 2 s] _ hrow (by simp) (by intro p hp; rw [List.mem_singleton.1 hp]; show s.size ≤ 1000; omega) s (by rw [pat_one]; exact HPA.out) (by rw [pat_one]; exact HPL.out.1) (by rw [pat_one, HPL.out.2]; exact sb_bytes s))
       have HB4 := hide (HB3.out.alloc HB3.out.size (.cells #[.int .i64 2, .string s, .string ⟨#[]⟩, .string ⟨#[]⟩, .slice none 0 0, .bool false] tyP))
       clear hta3 hrow HWR
       go_wp2_with fail
       refine HPP.out.mono ?_
       rintro e w4 ⟨⟨g, rfl, hsr⟩, hb4⟩
       have HB5 := hide (HB4.out.trans (hb4.mono HB4.out.size))
       have HSM := hide (same_any (some ⟨g, 0, none⟩) (some ⟨w4.heap.size, 0, none⟩) 1 1 [s] [s] (w4.alloc (.cells #[.string s] 9)) (hsr.below ((Below.refl _ _).alloc (Nat.le_refl _) _)) (sr_new w4 s) (by simp))
       clear hsr hb4 HPP
       go_wp2_with fail
       refine HSM.out.mono ?_
       rintro e w5 ⟨rfl, hd5⟩
       have HB6 := hide ((HB5.out.alloc HB5.out.size (.cells #[.string s] 9)).trans (hd5.below.mono (by simp; have := HB5.out.size; omega)))
       clear hd5
       go_wp2
       go_ret
       exact ⟨by simp, HB6.out⟩
     · have hd0 : decide ((0 : Int) < (n : Int)) = false := decide_eq_false hn0
       go_wp2_with fail
       refine HNW.out.mono ?_
       rintro e w2 ⟨rfl, hb2, hv2, hz2⟩
       have hta := TA.new (w0 := w) HB1.out 3 3 hb2 hv2 hz2
       have HWR := hide (hta.write HB1.out.size HM.out (newS_wf 3 3) (by decide) (by decide) [47, 97] (by decide) [] (by decide) false none 0 (RG.nil w2 none))
       clear hb2 hv2 hz2 hta HNW
       go_wp2_with fail
       refine HWR.out.mono ?_
       rintro e w3 ⟨rfl, hta3, _⟩
       have HB3 := hide hta3.below
       have hrow : RG encPt 6 (w3.alloc (.cells #[.int .i64 2, .string s, .string ⟨#[]⟩, .string ⟨#[]⟩, .slice none 0 0, .bool false] tyP)) (some ⟨w3.heap.size, 0, none⟩) [ptK 2 s] := rg_new (enc := encPt) w3 (ptK 2 s) tyP
       have HPP := hide (paths_plain (w1.heap.size + 1) ⟨#[47]⟩ (some ⟨w3.heap.size, 0, none⟩) 1 [ptK 2 s] _ hrow (by simp) (by intro p hp; rw [List.mem_singleton.1 hp]; show s.size ≤ 1000; omega) s (by rw [pat_one]; exact HPA.out) (by rw [pat_one]; exact HPL.out.1) (by rw [pat_one, HPL.out.2]; exact sb_bytes s))
       have HB4 := hide (HB3.out.alloc HB3.out.size (.cells #[.int .i64 2, .string s, .string ⟨#[]⟩, .string ⟨#[]⟩, .slice none 0 0, .bool false] tyP))
       clear hta3 hrow HWR
       go_wp2_with fail
       refine HPP.out.mono ?_
       rintro e w4 ⟨⟨g, rfl, hsr⟩, hb4⟩
       have HB5 := hide (HB4.out.trans (hb4.mono HB4.out.size))
       have HSM := hide (same_any (some ⟨g, 0, none⟩) (some ⟨w4.heap.size, 0, none⟩) 1 1 [s] [s] (w4.alloc (.cells #[.string s] 9)) (hsr.below ((Below.refl _ _).alloc (Nat.le_refl _) _)) (sr_new w4 s) (by simp))
       clear hsr hb4 HPP
       go_wp2_with fail
       refine HSM.out.mono ?_
       rintro e w5 ⟨rfl, hd5⟩
       have HB6 := hide ((HB5.out.alloc HB5.out.size (.cells #[.string s] 9)).trans (hd5.below.mono (by simp; have := HB5.out.size; omega)))
       clear hd5
       go_wp2
       go_ret
       exact ⟨by simp, HB6.out⟩
   | false =>
     have hin : i = n := by
       by_cases hx : i < n
       · exact absurd ⟨hx, rfl⟩ hlt
       · omega
     subst hin
     have HPA := hide (hpat 1)
     have HPL := hide (show plAll (gItems (bt (patP (ptK 1 s))) (patP (ptK 1 s)).size) = true ∧ plBytes (gItems (bt (patP (ptK 1 s))) (patP (ptK 1 s)).size) = bytesOf s by
       have e : patP (ptK 1 s) = s := rfl
       rw [e]
       exact plain_bytes s (by rw [HN.out]; exact HG.out))
     clear hpat HG hlt hq
     go_wp2_with fail
     refine HNW.out.mono ?_
     rintro e w2 ⟨rfl, hb2, hv2, hz2⟩
     have hta := TA.new (w0 := w) HB1.out 3 3 hb2 hv2 hz2
     have HWR := hide (hta.write HB1.out.size HM.out (newS_wf 3 3) (by decide) (by decide) [47, 97] (by decide) [] (by decide) false none 0 (RG.nil w2 none))
     clear hb2 hv2 hz2 hta HNW
     go_wp2_with fail
     refine HWR.out.mono ?_
     rintro e w3 ⟨rfl, hta3, _⟩
     have HB3 := hide hta3.below
     have hrow : RG encPt 6 (w3.alloc (.cells #[.int .i64 1, .string s, .string ⟨#[]⟩, .string ⟨#[]⟩, .slice none 0 0, .bool false] tyP)) (some ⟨w3.heap.size, 0, none⟩) [ptK 1 s] := rg_new (enc := encPt) w3 (ptK 1 s) tyP
     have HPP := hide (paths_plain (w1.heap.size + 1) ⟨#[47]⟩ (some ⟨w3.heap.size, 0, none⟩) 1 [ptK 1 s] _ hrow (by simp) (by intro p hp; rw [List.mem_singleton.1 hp]; show s.size ≤ 1000; omega) s (by rw [pat_one]; exact HPA.out) (by rw [pat_one]; exact HPL.out.1) (by rw [pat_one, HPL.out.2]; exact sb_bytes s))
     have HB4 := hide (HB3.out.alloc HB3.out.size (.cells #[.int .i64 1, .string s, .string ⟨#[]⟩, .string ⟨#[]⟩, .slice none 0 0, .bool false] tyP))
     clear hta3 hrow HWR
     go_wp2_with fail
     refine HPP.out.mono ?_
     rintro e w4 ⟨⟨g, rfl, hsr⟩, hb4⟩
     have HB5 := hide (HB4.out.trans (hb4.mono HB4.out.size))
     have HSM := hide (same_any (some ⟨g, 0, none⟩) (some ⟨w4.heap.size, 0, none⟩) 1 1 [s] [s] (w4.alloc (.cells #[.string s] 9)) (hsr.below ((Below.refl _ _).alloc (Nat.le_refl _) _)) (sr_new w4 s) (by simp))
     clear hsr hb4 HPP
     go_wp2_with fail
     refine HSM.out.mono ?_
     rintro e w5 ⟨rfl, hd5⟩
     have HB6 := hide ((HB5.out.alloc HB5.out.size (.cells #[.string s] 9)).trans (hd5.below.mono (by simp; have := HB5.out.size; omega)))
     clear hd5
     go_wp2
     go_ret
     exact ⟨by simp, HB6.out⟩
end
section
open Go.RowKit Go.Deep Go.ChangeShapes Go.WideShapes
end
section
open Go.RowKit Go.Deep Go.ChangeShapes Go.WideShapes
end
section
open Go.RowKit Go.Deep Go.ChangeShapes Go.WideShapes
end
section
open Go.RowKit Go.Deep Go.ChangeShapes Go.WideShapes
end
section
open Go.RowKit
abbrev SRow := Option Addr × Nat × List ByteArray
def sv (x : SRow) : Value := .slice x.1 x.2.2.length x.2.1
structure Rl where
 tg : SRow
 nd : SRow
 rc : SRow
def encRl (r : Rl) : List Value := [sv r.tg, sv r.nd, sv r.rc]
structure RlOk (w : World) (r : Rl) : Prop where
 tg : SR w r.tg.1 r.tg.2.2
 nd : SR w r.nd.1 r.nd.2.2
 rc : SR w r.rc.1 r.rc.2.2
 t1 : r.tg.2.2.length ≤ 100000
 n1 : r.nd.2.2.length ≤ 100000
 r1 : r.rc.2.2.length ≤ 100000
end
section
open Go.RowKit Go.Deep
abbrev Pr := ByteArray × ByteArray
def PR (w : World) (A : Option Addr) (P : List Pr) : Prop :=
 ∀ k x, P[k]? = some x → ∃ g o, A = some ⟨g, o, none⟩ ∧ g < w.heap.size ∧ w.cell? ⟨g, o + k * 2, none⟩ = some (.string x.1) ∧ w.cell? ⟨g, o + k * 2 + 1, none⟩ = some (.string x.2)
end
section
open Go.RowKit Go.Deep Go.ChangeShapes Go.WideShapes
structure SmallD (H : Type) (K : Nat) where
 P : TypeId → DataW H → Prop
 elem : ∀ {t e : TypeId} {elems spare : List (DataW H)} {d : DataW H}, Tryz.prog.underlying t = some (.slice e) → P t (.slice elems spare) → d ∈ elems → P e d
 part : ∀ {t : TypeId} {fs : Array Field} {parts : List (DataW H)} {j : Nat} {f : Field} {d : DataW H}, Tryz.prog.underlying t = some (.struct fs) → P t (.agg parts) → fs[j]? = some f → parts[j]? = some d → P f.type d
 str : ∀ {t : TypeId} {b : List UInt8}, P t (.lit (.string b)) → b.length ≤ K
theorem weightsAll_mem {H : Type} {P : Program} {e : TypeId} {n : Nat} {d : DataW H} (hn : n ∈ d.weights P e) : ∀ {l : List (DataW H)}, d ∈ l → n ∈ DataW.weightsAll P e l
 | [], h => by cases h
 | x :: l, h => by
   simp only [DataW.weightsAll, List.mem_append]
   rcases List.mem_cons.1 h with rfl | h
   · exact .inl hn
   · exact .inr (weightsAll_mem hn h)
def weighD (H : Type) : SmallD H reachBytes where
 P := fun t d => ∀ n ∈ d.weights Tryz.prog t, n ≤ reachBytes
 elem := fun {t e elems spare d} hu h hd n hn => h n (by
   simp only [DataW.weights, hu, List.mem_cons, List.mem_append]
   exact .inr (.inl (weightsAll_mem hn hd)))
 part := fun {t fs parts j f d} hu h hf hd n hn => h n (by
   simp only [DataW.weights, hu]
   exact DataW.weights_mem_each (j := j) (t := f.type) (by rw [List.getElem?_map, Array.getElem?_toList, hf]; rfl) hd n hn)
 str := fun {t b} h => h b.length (by simp [DataW.weights])
theorem weighD_arg {H : Type} {ts : List TypeId} {ds : List (DataW H)} (h : (DataW.weightsEach Tryz.prog ts ds).all (· ≤ reachBytes) = true) {j : Nat} {t : TypeId} {d : DataW H} (ht : ts[j]? = some t) (hd : ds[j]? = some d) : (weighD H).P t d := fun n hn => by
 have := List.all_eq_true.1 h _ (DataW.weights_mem_each ht hd n hn)
 simpa using this
structure RlIn (K : Nat) (w : World) (r : Rl) : Prop where
 tg : SR w r.tg.1 r.tg.2.2
 nd : SR w r.nd.1 r.nd.2.2
 rc : SR w r.rc.1 r.rc.2.2
 t1 : r.tg.2.2.length ≤ maxLen
 n1 : r.nd.2.2.length ≤ maxLen
 r1 : r.rc.2.2.length ≤ maxLen
 t2 : ∀ s ∈ r.tg.2.2, s.size ≤ K
 n2 : ∀ s ∈ r.nd.2.2, s.size ≤ K
 r2 : ∀ s ∈ r.rc.2.2, s.size ≤ K
def RLI (K : Nat) (w : World) (A : Option Addr) (L : List Rl) : Prop := RG encRl 3 w A L ∧ ∀ r ∈ L, RlIn K w r
structure MkV where
 ma : Option Addr
 mc : Nat
 ml : List Pr
 ra : Option Addr
 rc : Nat
 rl : List Rl
structure MkIn (K : Nat) (w : World) (x : MkV) : Prop where
 m1 : x.ml.length ≤ maxLen
 r1 : x.rl.length ≤ maxLen
 m2 : ∀ p ∈ x.ml, p.1.size ≤ K ∧ p.2.size ≤ K
 mr : PR w x.ma x.ml
 rr : RLI K w x.ra x.rl
end
section
open Go.RowKit Go.Deep Go.ChangeShapes Go.WideShapes Ln Pth Vf
structure Ac4 where
 way : Int
 p : ByteArray
 q : ByteArray
 A : Option Addr
 c : Nat
 b : T
 more : Bool
end
end Go.Proofs.YtpheeheikigenaaGreatDoor
