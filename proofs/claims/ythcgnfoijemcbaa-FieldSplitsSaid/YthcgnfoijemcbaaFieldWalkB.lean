/- Walk of field.Split. -/
import Derived.Test.YthcgnfoijemcbaaFieldWalkA
import Derived.Test.YthcgnfoijemcbaaFieldPush
import Derived.Deep.CutRange
import Derived.Deep.LoopGhost
import Derived.Deep.RegionHeld3
import Derived.Test.YthcgnfoijemcbaaHeld
namespace Go.Proofs.Ythcgnfoijemcbaa
open Go.RowKit Go.Deep
set_option linter.unusedSimpArgs false
set_option linter.unusedVariables false
attribute [local go_sem] bt_eq

/-- what Split tells -/
def SplitP (R : List (List Pt)) (w : World) (e : Ending) (w' : World) : Prop := ∃ (out : List FR) (A : Option Addr) (c : Nat), e = .returned (.slice A out.length c) ∧ out.map FR.L = R ∧ RG encFR 1 w' A out ∧ (∀ r ∈ out, RG encPt 6 w' r.A r.L ∧ r.L.length ≤ r.c ∧ r.L ≠ []) ∧ Below w.heap.size w w'
theorem SpI.made (w : World) : SpI w w.heap.size (w.heap.size + 1) [] [] (.slice none 0 0) (.slice none 0 0) ((w.alloc (.cells #[.slice none 0 0] tyF)).alloc (.cells #[.slice none 0 0] tyN)) := by
  have h1 := heapNew w (.cells #[.slice none 0 0] tyF)
  have h2 := heapNew (w.alloc (.cells #[.slice none 0 0] tyF)) (.cells #[.slice none 0 0] tyN)
  simp only [World.size_alloc] at h2
  exact ⟨((Below.refl _ _).alloc (Nat.le_refl _) _).alloc (by simp) _, ⟨Nat.le_refl _, by omega, by omega⟩, (Below.heap_alloc _ _ _ (by simp)).trans h1, h2, OwnG.nil _ _, OwnG.nil _ _, fun k e => by simp [Value.ownBlock] at e, fun k e => by simp [Value.ownBlock] at e, fun r hr => by cases hr⟩
theorem flush_len (s : Sp) : (flushS s).2.length = 0 := by
  unfold flushS
  split
  · rename_i h; rw [h]; rfl
  · rfl
theorem SpP.mono {w0 w : World} {po pn : Nat} {s : Sp} {m m' : Nat} (h : SpP w0 po pn s m w) (hm : m ≤ m') : SpP w0 po pn s m' w := by
  obtain ⟨out, vo, vn, h1, h2, h3⟩ := h
  exact ⟨out, vo, vn, h1, Nat.le_trans h2 hm, h3⟩
theorem SpP.step {w0 w w' : World} {po pn : Nat} {s : Sp} {m : Nat} (h : SpP w0 po pn s m w) (hb : Below w.heap.size w w') : SpP w0 po pn s m w' := by
  obtain ⟨out, vo, vn, h1, h2, h3⟩ := h
  exact ⟨out, vo, vn, h1, h2, h3.step hb⟩
theorem ownB_len {A : Option Addr} {n m c k : Nat} (h : (Value.slice A n c).ownBlock = some k) : (Value.slice A m c).ownBlock = some k := by
  cases A with
  | none => exact h
  | some a => exact h
theorem push_pack {w0 W : World} {po pn : Nat} {s : Sp} {m : Nat} (h : SpP w0 po pn s m W) (hl : s.2.length ≤ 1000000) (x : Pt) :
    ∃ (A : Option Addr) (n c g c' : Nat) (w4 : World), n = s.2.length ∧ W.cell? ⟨pn, 0, none⟩ = some (.slice A n c) ∧
      (W.alloc (.cells #[.int .i64 0, .string ⟨#[]⟩, .string ⟨#[]⟩, .string ⟨#[]⟩, .slice none 0 0, .bool false] tyP)).cell? ⟨pn, 0, none⟩ = some (.slice A n c) ∧
      (Builtin.append_ #[tyN, tyN] tyN #[.slice A n c, .slice (some ⟨W.heap.size, 0, none⟩) 1 1]).run Try.prog (W.drew.alloc (.cells #[.int .i64 0, .string ⟨#[]⟩, .string ⟨#[]⟩, .string ⟨#[]⟩, .slice none 0 0, .bool false] tyP)) = .ok (.slice (some ⟨g, 0, none⟩) (n + 1) c') w4 ∧
      (w4.cell? ⟨pn, 0, none⟩ = some (.slice A n c) ∧ w4.frozen? ⟨pn, 0, none⟩ = false) ∧ Can6 w4 g (n * 6) x ∧
      ((set6 w4 g (n * 6) x).cell? ⟨pn, 0, none⟩ = some (.slice A n c) ∧ (set6 w4 g (n * 6) x).frozen? ⟨pn, 0, none⟩ = false) ∧
      Can6 (w4.setCell ⟨pn, 0, none⟩ (.slice (some ⟨g, 0, none⟩) (n + 1) c')) g (n * 6) x ∧
      SpP w0 po pn (s.1, s.2 ++ [x]) m ((set6 w4 g (n * 6) x).setCell ⟨pn, 0, none⟩ (.slice (some ⟨g, 0, none⟩) (n + 1) c')) ∧
      SpP w0 po pn (s.1, s.2 ++ [x]) m (set6 (w4.setCell ⟨pn, 0, none⟩ (.slice (some ⟨g, 0, none⟩) (n + 1) c')) g (n * 6) x) := by
  obtain ⟨out, vo, vn, ho1, ho2, hi⟩ := h
  obtain ⟨A, c, rfl, _, _, _, _⟩ := hi.on.slice encPt_len
  have hid := hi.step (Below.refl _ _).drew
  obtain ⟨g, c', w4, hrun, hp, k1, hp2, k3, hcm, _, hfin⟩ := hid.push hl x
  have hcn := cellOfF hi.hn (j := 0) (v := .slice A s.2.length c) rfl
  have hpn := (Array.getElem?_eq_some_iff.1 hi.hn).1
  refine ⟨A, s.2.length, c, g, c', w4, rfl, hcn, ?_, hrun, hp, k1, hp2, k3, ⟨out, vo, _, ho1, ho2, hfin⟩, ?_⟩
  · rw [World.cell?_of_block (Below.heap_alloc W _ pn hpn)]
    exact hcn
  · rw [hcm]
    exact ⟨out, vo, _, ho1, ho2, hfin⟩
set_option maxRecDepth 100000 in
set_option maxHeartbeats 8000000 in
theorem split_any (A : Option Addr) (c : Nat) (L : List Pt) (w : World) (hA : RG encPt 6 w A L) (hl : L.length ≤ 100) (hz : ∀ p ∈ L, p.text.size ≤ 5000) :
    Calls Try.prog 6 #[.slice A L.length c] w (SplitP (splitS L) w) := by
  have HA := hide hA
  have HZ := hide hz
  obtain ⟨n, hn⟩ : ∃ n, L.length = n := ⟨_, rfl⟩
  have HN := hide hn
  rw [hn] at hl ⊢
  have hni : (n : Int) ≤ 100 := by omega
  have HI0 := hide (show SpP w w.heap.size (w.heap.size + 1) ([], []) 0 _ from ⟨[], _, _, rfl, Nat.le_refl _, SpI.made w⟩)
  clear hA hz hn
  go_enter Try.func6, Try.ntmps6
  go_wp2
  go_loopw [7, 8, 9, 13] (fun _ _ _ v13 wr => ∃ k : Nat, v13 = .int .i64 k ∧ k ≤ n ∧ Hid (SpP w w.heap.size (w.heap.size + 1) ((L.take k).foldl stS ([], [])) (k * 5001) wr) ∧ Hid (((L.take k).foldl stS ([], [])).2.length ≤ k * 5001)) (fun _ _ _ v13 _ => n - (intOf v13).toNat)
  case atStart => exact ⟨0, rfl, by omega, by simpa using HI0, hide (by simp)⟩
  case round =>
    obtain ⟨wo, hwo⟩ : ∃ Z, Z = wr := ⟨_, rfl⟩
    subst hwo
    obtain ⟨k, rfl, hk, HSP, HLN⟩ := hrel
    obtain ⟨out, vo, vn, ho1, ho2, hi⟩ := HSP.out
    have HI := hide hi
    by_cases hlt : k < n
    case neg =>
      obtain rfl : k = n := by omega
      have htk : L.take k = L := List.take_of_length_le (by have := HN.out; omega)
      have hsp := HSP.out
      have hln := HLN.out
      rw [htk] at hsp hln
      have HEN := hide (end_any w w.heap.size (w.heap.size + 1) _ _ wo hsp (by omega) (by omega))
      clear hsp hln htk hi
      go_wp2_with fail
      refine HEN.out.mono ?_
      rintro e wf ⟨rfl, hsp⟩
      obtain ⟨out2, vo2, vn2, ho3, ho4, hi2⟩ := hsp
      obtain ⟨A2, c2, rfl, _, hrg, _, _⟩ := hi2.oo.slice encFR_len
      have hco := cellOfF hi2.ho (j := 0) (v := .slice A2 out2.length c2) rfl
      have HF := hide (show SplitP (splitS L) w (.returned (.slice A2 out2.length c2)) wf from ⟨out2, A2, c2, rfl, ho3, hrg, fun r hr => ⟨(hi2.rows r hr).1, (hi2.rows r hr).2.1, (hi2.rows r hr).2.2.1⟩, hi2.below⟩)
      clear ho3 hrg hi2
      go_wp2
      go_ret
      exact HF.out
    obtain ⟨x, hx⟩ : ∃ x, L[k]? = some x := ⟨L[k]'(by have := HN.out; omega), List.getElem?_eq_getElem _⟩
    obtain ⟨g, o, rfl, hg, hc⟩ := HA.out.below hi.below k x hx
    have hc0 : wo.cell? ⟨g, o + k * 6, none⟩ = some (.int .i64 x.kind) := by have := hc 0 _ rfl; simpa using this
    have hc1 : wo.cell? ⟨g, o + k * 6 + 1, none⟩ = some (.string x.text) := hc 1 _ rfl
    have hc2 : wo.cell? ⟨g, o + k * 6 + 2, none⟩ = some (.string x.name) := hc 2 _ rfl
    have hc3 : wo.cell? ⟨g, o + k * 6 + 3, none⟩ = some (.string x.op) := hc 3 _ rfl
    have hc4 : wo.cell? ⟨g, o + k * 6 + 4, none⟩ = some (.slice x.wA x.wn x.wc) := hc 4 _ rfl
    have hc5 : wo.cell? ⟨g, o + k * 6 + 5, none⟩ = some (.bool x.q) := hc 5 _ rfl
    have b1 : (k : Int) < (n : Int) := by omega
    have hz := HZ.out x (List.mem_of_getElem? hx)
    have hst : (L.take (k + 1)).foldl stS ([], []) = stS ((L.take k).foldl stS ([], [])) x := by rw [List.take_add_one, hx, List.foldl_append]; rfl
    have HST := hide hst
    obtain ⟨sk, hsk⟩ : ∃ s, (L.take k).foldl stS ([], []) = s := ⟨_, rfl⟩
    rw [hsk] at HSP HLN HST ho1 HI
    obtain ⟨kd, tx, nm, op, wA, wn, wk, q⟩ := x
    dsimp only at hc0 hc1 hc2 hc3 hc4 hc5 hz
    have HBX := hide (heapNew wo (.cells #[.int .i64 kd, .string tx, .string nm, .string op, .slice wA wn wk, .bool q] tyP))
    have HI1 := hide (HI.out.step ((Below.refl _ _).alloc (Nat.le_refl _) (.cells #[.int .i64 kd, .string tx, .string nm, .string op, .slice wA wn wk, .bool q] tyP)))
    clear hi hc hx hst hsk
    by_cases hkd : kd = 1
    case neg =>
      have t1 : (kd != 1) = true := by simpa using hkd
      have t2 : ¬ kd = 1 := hkd
      go_wp2_with fail
      go_step3
      go_upto_region 8 with (fail)
      obtain ⟨A1, c1, rfl, _, _, _, _⟩ := HI1.out.on.slice encPt_len
      obtain ⟨gp, hgp⟩ : ∃ g, wo.heap.size = g := ⟨_, rfl⟩
      obtain ⟨w1, hw1⟩ : ∃ W, wo.alloc (.cells #[.int .i64 kd, .string tx, .string nm, .string op, .slice wA wn wk, .bool q] tyP) = W := ⟨_, rfl⟩
      rw [hw1, hgp] at HBX
      rw [hw1] at HI1
      have HID := hide (HI1.out.step (Below.refl _ _).drew)
      obtain ⟨pn, hpn⟩ : ∃ k, w.heap.size + 1 = k := ⟨_, rfl⟩
      obtain ⟨g9, c9, w4, hrun, ⟨p1, p2⟩, k1, ⟨p3, p4⟩, k3, hcm, hall, hfin⟩ := HID.out.push (by have := HLN.out; omega) ⟨kd, tx, nm, op, wA, wn, wk, q⟩
      have hnw := HLN.out
      obtain ⟨nw, hnw2⟩ : ∃ m, sk.2.length = m := ⟨_, rfl⟩
      rw [hnw2] at hrun p1 p3 k1 k3 hcm hall hfin
      rw [hpn] at p1 p2 p3 p4 k3 hcm hall
      have hwn : wo.heap.size < w1.heap.size := by rw [← hw1]; simp
      have hw1n : w.heap.size + 1 < wo.heap.size := (Array.getElem?_eq_some_iff.1 HI.out.hn).1
      have hgq := hall gp (by rw [← hgp]; exact hwn) (by rw [← hgp, ← hpn]; omega) (fun e => by have := (HI.out.on.lt gp (ownB_len e)).2; omega)
      have HQ := hide (fun (Z : World) (e : Z.heap[gp]? = some (.cells #[.int .i64 kd, .string tx, .string nm, .string op, .slice wA wn wk, .bool q] tyP)) => show (fun Z => Z.cell? ⟨gp, 0, none⟩ = some (.int .i64 kd) ∧ Z.cell? ⟨gp, 1, none⟩ = some (.string tx) ∧ Z.cell? ⟨gp, 2, none⟩ = some (.string nm) ∧ Z.cell? ⟨gp, 3, none⟩ = some (.string op) ∧ Z.cell? ⟨gp, 4, none⟩ = some (.slice wA wn wk) ∧ Z.cell? ⟨gp, 5, none⟩ = some (.bool q)) Z from ⟨cellOfF e (j := 0) rfl, cellOfF e (j := 1) rfl, cellOfF e (j := 2) rfl, cellOfF e (j := 3) rfl, cellOfF e (j := 4) rfl, cellOfF e (j := 5) rfl⟩)
      have hgd : w1.drew.heap[gp]? = some (.cells #[.int .i64 kd, .string tx, .string nm, .string op, .slice wA wn wk, .bool q] tyP) := HBX.out
      have HGD := hide hgd
      have HGA := hide ((Below.heap_alloc w1.drew (.cells #[.int .i64 0, .string ⟨#[]⟩, .string ⟨#[]⟩, .string ⟨#[]⟩, .slice none 0 0, .bool false] tyP) gp (by rw [← hgp]; exact hwn)).trans hgd)
      have HG4 := hide (hgq.1.trans hgd)
      have HG6 := hide (hgq.2.1.trans hgd)
      have HGN := hide (hgq.2.2.1.trans hgd)
      have HGF := hide (hgq.2.2.2.trans hgd)
      have HGF2 := hide (show (set6 (w4.setCell ⟨pn, 0, none⟩ (.slice (some ⟨g9, 0, none⟩) (nw + 1) c9)) g9 (nw * 6) ⟨kd, tx, nm, op, wA, wn, wk, q⟩).heap[gp]? = some (.cells #[.int .i64 kd, .string tx, .string nm, .string op, .slice wA wn wk, .bool q] tyP) from by rw [hcm]; exact hgq.2.2.2.trans hgd)
      have HFIN := hide (show SpP w w.heap.size (w.heap.size + 1) (sk.1, sk.2 ++ [⟨kd, tx, nm, op, wA, wn, wk, q⟩]) (k * 5001) ((set6 w4 g9 (nw * 6) ⟨kd, tx, nm, op, wA, wn, wk, q⟩).setCell ⟨pn, 0, none⟩ (.slice (some ⟨g9, 0, none⟩) (nw + 1) c9)) from by rw [← hpn]; exact ⟨out, vo, _, ho1, ho2, hfin⟩)
      have HFIN2 := hide (show SpP w w.heap.size (w.heap.size + 1) (sk.1, sk.2 ++ [⟨kd, tx, nm, op, wA, wn, wk, q⟩]) (k * 5001) (set6 (w4.setCell ⟨pn, 0, none⟩ (.slice (some ⟨g9, 0, none⟩) (nw + 1) c9)) g9 (nw * 6) ⟨kd, tx, nm, op, wA, wn, wk, q⟩) from by rw [hcm]; exact HFIN.out)
      have hcn := cellOfF HID.out.hn (j := 0) (v := .slice A1 sk.2.length c1) rfl
      rw [hnw2, hpn] at hcn
      have hcnA : (w1.alloc (.cells #[.int .i64 0, .string ⟨#[]⟩, .string ⟨#[]⟩, .string ⟨#[]⟩, .slice none 0 0, .bool false] tyP)).cell? ⟨pn, 0, none⟩ = some (.slice A1 nw c1) := by
        rw [World.cell?_of_block (Below.heap_alloc w1 _ pn (by rw [← hpn]; show w.heap.size + 1 < w1.heap.size; omega))]
        exact hcn
      unfold Can6 at k1 k3
      dsimp only at k1 k3
      unfold set6 at p3 p4
      dsimp only at p3 p4
      obtain ⟨⟨⟨_, a0⟩, a1⟩, ⟨⟨_, a2⟩, a3⟩, ⟨⟨_, a4⟩, a5⟩, ⟨⟨_, a6⟩, a7⟩, ⟨⟨_, a8⟩, a9⟩, ⟨⟨_, a10⟩, a11⟩⟩ := k1
      obtain ⟨⟨⟨_, d0⟩, d1⟩, ⟨⟨_, d2⟩, d3⟩, ⟨⟨_, d4⟩, d5⟩, ⟨⟨_, d6⟩, d7⟩, ⟨⟨_, d8⟩, d9⟩, ⟨⟨_, d10⟩, d11⟩⟩ := k3
      have HRW := hide hpn
      have HW1 := hide hw1
      have HGP := hide hgp
      have nwi : (nw : Int) ≤ 600000 := by omega
      have bnw : (nw : Int) < (nw : Int) + 1 := by omega
      clear hall hfin hcm hgq hgd hw1n hwn hnw hnw2
      rw [HW1.out, HGP.out, HRW.out]
      go_cut [25] from 20 to 25 (fun _ w' => SpP w w.heap.size (w.heap.size + 1) (sk.1, sk.2 ++ [⟨kd, tx, nm, op, wA, wn, wk, q⟩]) (k * 5001) w')
      case first =>
        refine wp_region_held_drew (S := (fun Z => Z.cell? ⟨gp, 0, none⟩ = some (.int .i64 kd) ∧ Z.cell? ⟨gp, 1, none⟩ = some (.string tx) ∧ Z.cell? ⟨gp, 2, none⟩ = some (.string nm) ∧ Z.cell? ⟨gp, 3, none⟩ = some (.string op) ∧ Z.cell? ⟨gp, 4, none⟩ = some (.slice wA wn wk) ∧ Z.cell? ⟨gp, 5, none⟩ = some (.bool q))) (by kernel_rfl) (HQ.out _ HGD.out) (fun hHeld => ?_)
        refine wpAnyH_tk (i := 1) (oi := _) (v := ?vP1) rfl rfl (by kernel_rfl) (by kernel_rfl) (by kernel_rfl) (fun _ _ _ h => h) (Or.inl ⟨by kernel_rfl, ?yP1⟩) (by assumption) ?rP1
        case yP1 =>
          intro w hSw
          (try dsimp only at hSw)
          go_simp
          try with_reducible rfl
        try simp only [List.setIfInBounds_toArray, List.set_cons_zero, List.set_cons_succ]
        refine wpAnyH_ready (rs := [0, 3]) (by kernel_rfl) (by simp) ?_
        refine AllReadyH.cons (o := _) rfl (fun K hK => ?way1) (AllReadyH.cons (o := _) rfl (fun K hK => ?way2) AllReadyH.nil)
        case way1 =>
          rw [if_pos (by kernel_rfl)]
          go_simp
          refine hK.out _ _ (HQ.out _ HGD.out) (fun _ => ?_)
          clear hK K
          try simp only [Act.put, List.setIfInBounds_toArray, List.set_cons_zero, List.set_cons_succ]
          refine wpAnyH_tk (i := 2) (oi := _) (v := ?vP1b2) rfl rfl (by kernel_rfl) (by kernel_rfl) (by kernel_rfl) (fun _ _ _ h => h) (Or.inl ⟨by kernel_rfl, ?yP1b2⟩) (by assumption) ?rP1b2
          case yP1b2 =>
            intro w hSw
            (try dsimp only at hSw)
            go_simp
            try with_reducible rfl
          try simp only [List.setIfInBounds_toArray, List.set_cons_zero, List.set_cons_succ]
          refine wpAnyH_ready (rs := [3]) (by kernel_rfl) (by simp) ?_
          refine AllReadyH.cons (o := _) rfl (fun K hK => ?_) AllReadyH.nil
          rw [if_pos (by kernel_rfl)]
          go_simp
          refine hK.out _ _ (HQ.out _ HGA.out) (fun _ => ?_)
          clear hK K
          try simp only [Act.put, List.setIfInBounds_toArray, List.set_cons_zero, List.set_cons_succ]
          refine wpAnyH_ready (rs := [4]) (by kernel_rfl) (by simp) ?_
          refine AllReadyH.cons (o := _) rfl (fun K hK => ?_) AllReadyH.nil
          refine step_app_run rfl _ _ rfl rfl rfl rfl hrun ?_
          refine hK.out _ _ (HQ.out _ HG4.out) (fun _ => ?_)
          clear hK K
          try simp only [Act.put, List.setIfInBounds_toArray, List.set_cons_zero, List.set_cons_succ]
          refine wpAnyH_tk (i := 5) (oi := _) (v := ?vP1b5) rfl rfl (by kernel_rfl) (by kernel_rfl) (by kernel_rfl) (fun _ _ _ h => h) (Or.inl ⟨by kernel_rfl, ?yP1b5⟩) (by assumption) ?rP1b5
          case yP1b5 =>
            intro w hSw
            (try dsimp only at hSw)
            go_simp
            try with_reducible rfl
          try simp only [List.setIfInBounds_toArray, List.set_cons_zero, List.set_cons_succ]
          refine wpAnyH_ready (rs := [6, 7]) (by kernel_rfl) (by simp) ?_
          refine AllReadyH.cons (o := _) rfl (fun K hK => ?wa) (AllReadyH.cons (o := _) rfl (fun K hK => ?wb) AllReadyH.nil)
          case wa =>
            rw [if_pos (by kernel_rfl)]
            go_simp
            refine hK.out _ _ (HQ.out _ HG6.out) (fun _ => ?_)
            clear hK K
            try simp only [Act.put, List.setIfInBounds_toArray, List.set_cons_zero, List.set_cons_succ]
            refine wpAnyH_ready (rs := [7]) (by kernel_rfl) (by simp) ?_
            refine AllReadyH.cons (o := _) rfl (fun K hK => ?_) AllReadyH.nil
            rw [if_pos (by kernel_rfl)]
            go_simp
            refine hK.out _ _ (HQ.out _ HGF.out) (fun _ => ?_)
            clear hK K
            try simp only [Act.put, List.setIfInBounds_toArray, List.set_cons_zero, List.set_cons_succ]
            refine wpAnyH_done (by kernel_rfl) ?_ _
            go_wp2
            go_meet
            exact HFIN.out
          case wb =>
            rw [if_pos (by kernel_rfl)]
            go_simp
            refine hK.out _ _ (HQ.out _ HGN.out) (fun _ => ?_)
            clear hK K
            try simp only [Act.put, List.setIfInBounds_toArray, List.set_cons_zero, List.set_cons_succ]
            refine wpAnyH_ready (rs := [6]) (by kernel_rfl) (by simp) ?_
            refine AllReadyH.cons (o := _) rfl (fun K hK => ?_) AllReadyH.nil
            rw [if_pos (by kernel_rfl)]
            go_simp
            refine hK.out _ _ (HQ.out _ HGF2.out) (fun _ => ?_)
            clear hK K
            try simp only [Act.put, List.setIfInBounds_toArray, List.set_cons_zero, List.set_cons_succ]
            refine wpAnyH_done (by kernel_rfl) ?_ _
            go_wp2
            go_meet
            exact HFIN2.out
        case way2 =>
          rw [if_pos (by kernel_rfl)]
          go_simp
          refine hK.out _ _ (HQ.out _ HGA.out) (fun _ => ?_)
          clear hK K
          try simp only [Act.put, List.setIfInBounds_toArray, List.set_cons_zero, List.set_cons_succ]
          refine wpAnyH_ready (rs := [0]) (by kernel_rfl) (by simp) ?_
          refine AllReadyH.cons (o := _) rfl (fun K hK => ?_) AllReadyH.nil
          rw [if_pos (by kernel_rfl)]
          go_simp
          refine hK.out _ _ (HQ.out _ HGA.out) (fun _ => ?_)
          clear hK K
          try simp only [Act.put, List.setIfInBounds_toArray, List.set_cons_zero, List.set_cons_succ]
          refine wpAnyH_tk (i := 2) (oi := _) (v := ?vP2b2) rfl rfl (by kernel_rfl) (by kernel_rfl) (by kernel_rfl) (fun _ _ _ h => h) (Or.inl ⟨by kernel_rfl, ?yP2b2⟩) (by assumption) ?rP2b2
          case yP2b2 =>
            intro w hSw
            (try dsimp only at hSw)
            go_simp
            try with_reducible rfl
          try simp only [List.setIfInBounds_toArray, List.set_cons_zero, List.set_cons_succ]
          refine wpAnyH_ready (rs := [4]) (by kernel_rfl) (by simp) ?_
          refine AllReadyH.cons (o := _) rfl (fun K hK => ?_) AllReadyH.nil
          refine step_app_run rfl _ _ rfl rfl rfl rfl hrun ?_
          refine hK.out _ _ (HQ.out _ HG4.out) (fun _ => ?_)
          clear hK K
          try simp only [Act.put, List.setIfInBounds_toArray, List.set_cons_zero, List.set_cons_succ]
          refine wpAnyH_tk (i := 5) (oi := _) (v := ?vP2b5) rfl rfl (by kernel_rfl) (by kernel_rfl) (by kernel_rfl) (fun _ _ _ h => h) (Or.inl ⟨by kernel_rfl, ?yP2b5⟩) (by assumption) ?rP2b5
          case yP2b5 =>
            intro w hSw
            (try dsimp only at hSw)
            go_simp
            try with_reducible rfl
          try simp only [List.setIfInBounds_toArray, List.set_cons_zero, List.set_cons_succ]
          refine wpAnyH_ready (rs := [6, 7]) (by kernel_rfl) (by simp) ?_
          refine AllReadyH.cons (o := _) rfl (fun K hK => ?wa) (AllReadyH.cons (o := _) rfl (fun K hK => ?wb) AllReadyH.nil)
          case wa =>
            rw [if_pos (by kernel_rfl)]
            go_simp
            refine hK.out _ _ (HQ.out _ HG6.out) (fun _ => ?_)
            clear hK K
            try simp only [Act.put, List.setIfInBounds_toArray, List.set_cons_zero, List.set_cons_succ]
            refine wpAnyH_ready (rs := [7]) (by kernel_rfl) (by simp) ?_
            refine AllReadyH.cons (o := _) rfl (fun K hK => ?_) AllReadyH.nil
            rw [if_pos (by kernel_rfl)]
            go_simp
            refine hK.out _ _ (HQ.out _ HGF.out) (fun _ => ?_)
            clear hK K
            try simp only [Act.put, List.setIfInBounds_toArray, List.set_cons_zero, List.set_cons_succ]
            refine wpAnyH_done (by kernel_rfl) ?_ _
            go_wp2
            go_meet
            exact HFIN.out
          case wb =>
            rw [if_pos (by kernel_rfl)]
            go_simp
            refine hK.out _ _ (HQ.out _ HGN.out) (fun _ => ?_)
            clear hK K
            try simp only [Act.put, List.setIfInBounds_toArray, List.set_cons_zero, List.set_cons_succ]
            refine wpAnyH_ready (rs := [6]) (by kernel_rfl) (by simp) ?_
            refine AllReadyH.cons (o := _) rfl (fun K hK => ?_) AllReadyH.nil
            rw [if_pos (by kernel_rfl)]
            go_simp
            refine hK.out _ _ (HQ.out _ HGF2.out) (fun _ => ?_)
            clear hK K
            try simp only [Act.put, List.setIfInBounds_toArray, List.set_cons_zero, List.set_cons_succ]
            refine wpAnyH_done (by kernel_rfl) ?_ _
            go_wp2
            go_meet
            exact HFIN2.out
      case rest =>
      obtain ⟨wz, hwz⟩ : ∃ Z, Z = wc := ⟨_, rfl⟩
      have HC := hide hcut
      have hst : stS sk ⟨kd, tx, nm, op, wA, wn, wk, q⟩ = (sk.1, sk.2 ++ [⟨kd, tx, nm, op, wA, wn, wk, q⟩]) := by unfold stS; rw [if_neg t2]
      have HS2 := hide (HST.out.trans hst)
      have hpn := HRW.out
      have hgp := HGP.out
      subst hpn
      subst hgp
      clear hcut hst HQ HGD HGA HG4 HG6 HGN HGF HGF2 HFIN HFIN2 HBX HI1 HID hrun p1 p2 p3 p4 hcn hcnA a0 a1 a2 a3 a4 a5 a6 a7 a8 a9 a10 a11 d0 d1 d2 d3 d4 d5 d6 d7 d8 d9 d10 d11
      go_wp2
      refine ⟨⟨k + 1, by go_num, by omega, hide ?_, hide ?_⟩, by simp [intOf]; omega⟩
      · rw [HS2.out]; exact HC.out.mono (by omega)
      · rw [HS2.out]
        have := HLN.out
        show (sk.2 ++ [_]).length ≤ _
        rw [List.length_append, List.length_singleton]
        omega
    subst hkd
    have t1 : ((1 : Int) != 1) = false := rfl
    go_wp2_with fail
    go_step3
    go_wp2_with fail
    go_step3
    go_wp2_with fail
    have HS0 := hide (show SpP w w.heap.size (w.heap.size + 1) sk (k * 5001) (wo.alloc (.cells #[.int .i64 1, .string tx, .string nm, .string op, .slice wA wn wk, .bool q] tyP)) from ⟨out, vo, vn, ho1, ho2, HI1.out⟩)
    clear HI1 HBX HI hc0 hc1 hc2 hc3 hc4 hc5
    go_loopg [8, 9] tx.size (fun g8 v8 _ wr => ∃ (rest : ByteArray) (s : Sp) (m : Nat), v8 = .string rest ∧ g8 = rest.size ∧ rest.size ≤ tx.size ∧ Hid (txS [] rest.data.toList s = txS [] tx.data.toList sk) ∧ Hid (SpP w w.heap.size (w.heap.size + 1) s m wr) ∧ m + rest.size ≤ k * 5001 + 5000 ∧ Hid (s.2.length ≤ k * 5001))
    case atStart => exact ⟨tx, sk, k * 5001, rfl, rfl, Nat.le_refl _, hide rfl, HS0, by omega, HLN⟩
    case round =>
      obtain ⟨wq, hwq⟩ : ∃ Z, Z = wr := ⟨_, rfl⟩
      subst hwq
      obtain ⟨rest, s, m, rfl, hg8, hrt, HTX, HSQ, hm, HSL⟩ := hrel
      have hbel := HSQ.out
      by_cases hr0 : rest.size = 0
      · have hre : rest.data.toList = [] := List.length_eq_zero_iff.1 (by rw [← Lib.size_eq]; exact hr0)
        have hem : rest.toList.isEmpty = true := by rw [Lib.toList_data, hre]; rfl
        have htx := HTX.out
        rw [hre] at htx
        have HE := hide (show stS sk ⟨1, tx, nm, op, wA, wn, wk, q⟩ = s from by unfold stS; rw [if_pos rfl]; exact htx.symm)
        clear hbel htx hre hr0
        go_wp2
        rw [Exit.noGoto_normal]
        go_wp2
        refine ⟨⟨k + 1, by go_num, by omega, hide ?_, hide ?_⟩, by simp [intOf]; omega⟩
        · rw [HST.out, HE.out]; exact HSQ.out.mono (by omega)
        · rw [HST.out, HE.out]
          have := HSL.out
          omega
      have hem : rest.toList.isEmpty = false := by
        rw [Lib.toList_data]
        cases h : rest.data.toList with
        | nil => exact absurd (by rw [Lib.size_eq, h]; rfl) hr0
        | cons _ _ => rfl
      have hrz : rest.size ≤ 5000 := by omega
      have HIA := hide (iany_any rest wq (by omega))
      have HB0 := HSQ.out
      rcases ixB_cases rest.data.toList with ⟨hx, hno⟩ | ⟨a, b, r2, hsp, hx, hna, hbb⟩
      · rw [hx] at HIA
        have HE := hide (show stS sk ⟨1, tx, nm, op, wA, wn, wk, q⟩ = (s.1, s.2 ++ [⟨1, rest, ⟨#[]⟩, ⟨#[]⟩, none, 0, 0, false⟩]) from by
          unfold stS
          rw [if_pos rfl]
          have h1 := HTX.out
          rw [txS_no _ _ _ hno, List.nil_append] at h1
          rw [← h1]
          unfold pushS
          rw [if_neg (by intro e; rw [Lib.size_eq, e] at hr0; exact hr0 rfl)]
          rfl)
        clear hbel HB0 hx hno hr0
        go_wp2_with fail
        refine HIA.out.mono ?_
        rintro e w9 ⟨rfl, hb9⟩
        have HS9 := hide (HSQ.out.step hb9)
        clear hb9
        go_upto_region 13 with (fail)
        obtain ⟨A1, nw, c1, g9, c9, w4, hnw, hcn, hcnA, hrun, ⟨p1, p2⟩, k1, ⟨p3, p4⟩, k3, hfin, hfin2⟩ := push_pack HS9.out (by have := HSL.out; omega) ⟨1, rest, ⟨#[]⟩, ⟨#[]⟩, none, 0, 0, false⟩
        unfold Can6 at k1 k3
        dsimp only at k1 k3
        have HFIN := hide hfin
        have HFIN2 := hide hfin2
        unfold set6 at p3 p4
        dsimp only at p3 p4
        obtain ⟨⟨⟨_, a0⟩, a1⟩, ⟨⟨_, a2⟩, a3⟩, ⟨⟨_, a4⟩, a5⟩, ⟨⟨_, a6⟩, a7⟩, ⟨⟨_, a8⟩, a9⟩, ⟨⟨_, a10⟩, a11⟩⟩ := k1
        obtain ⟨⟨⟨_, d0⟩, d1⟩, ⟨⟨_, d2⟩, d3⟩, ⟨⟨_, d4⟩, d5⟩, ⟨⟨_, d6⟩, d7⟩, ⟨⟨_, d8⟩, d9⟩, ⟨⟨_, d10⟩, d11⟩⟩ := k3
        have nwi : (nw : Int) ≤ 600000 := by have := HSL.out; omega
        have bnw : (nw : Int) < (nw : Int) + 1 := by omega
        clear hfin hfin2 hnw
        go_cut [40] from 34 to 40 (fun _ w' => SpP w w.heap.size (w.heap.size + 1) (s.1, s.2 ++ [⟨1, rest, ⟨#[]⟩, ⟨#[]⟩, none, 0, 0, false⟩]) m w')
        case first =>
          refine wp_region_held_drew (S := (fun _ => True)) (by kernel_rfl) trivial (fun hHeld => ?_)
          refine wpAnyH_tk (i := 1) (oi := _) (v := ?vQ1) rfl rfl (by kernel_rfl) (by kernel_rfl) (by kernel_rfl) (fun _ _ _ h => h) (Or.inl ⟨by kernel_rfl, ?yQ1⟩) (by assumption) ?rQ1
          case yQ1 =>
            intro w hSw
            (try dsimp only at hSw)
            go_simp
            try with_reducible rfl
          try simp only [List.setIfInBounds_toArray, List.set_cons_zero, List.set_cons_succ]
          refine wpAnyH_tk (i := 2) (oi := _) (v := ?vQ2) rfl rfl (by kernel_rfl) (by kernel_rfl) (by kernel_rfl) (fun _ _ _ h => h) (Or.inl ⟨by kernel_rfl, ?yQ2⟩) (by assumption) ?rQ2
          case yQ2 =>
            intro w hSw
            (try dsimp only at hSw)
            go_simp
            try with_reducible rfl
          try simp only [List.setIfInBounds_toArray, List.set_cons_zero, List.set_cons_succ]
          refine wpAnyH_ready (rs := [0, 4]) (by kernel_rfl) (by simp) ?_
          refine AllReadyH.cons (o := _) rfl (fun K hK => ?way1) (AllReadyH.cons (o := _) rfl (fun K hK => ?way2) AllReadyH.nil)
          case way1 =>
            rw [if_pos (by kernel_rfl)]
            go_simp
            refine hK.out _ _ trivial (fun _ => ?_)
            clear hK K
            try simp only [Act.put, List.setIfInBounds_toArray, List.set_cons_zero, List.set_cons_succ]
            refine wpAnyH_tk (i := 3) (oi := _) (v := ?vQ1b3) rfl rfl (by kernel_rfl) (by kernel_rfl) (by kernel_rfl) (fun _ _ _ h => h) (Or.inl ⟨by kernel_rfl, ?yQ1b3⟩) (by assumption) ?rQ1b3
            case yQ1b3 =>
              intro w hSw
              (try dsimp only at hSw)
              go_simp
              try with_reducible rfl
            try simp only [List.setIfInBounds_toArray, List.set_cons_zero, List.set_cons_succ]
            refine wpAnyH_ready (rs := [4]) (by kernel_rfl) (by simp) ?_
            refine AllReadyH.cons (o := _) rfl (fun K hK => ?_) AllReadyH.nil
            rw [if_pos (by kernel_rfl)]
            go_simp
            refine hK.out _ _ trivial (fun _ => ?_)
            clear hK K
            try simp only [Act.put, List.setIfInBounds_toArray, List.set_cons_zero, List.set_cons_succ]
            refine wpAnyH_ready (rs := [5]) (by kernel_rfl) (by simp) ?_
            refine AllReadyH.cons (o := _) rfl (fun K hK => ?_) AllReadyH.nil
            refine step_app_run rfl _ _ rfl rfl rfl rfl hrun ?_
            refine hK.out _ _ trivial (fun _ => ?_)
            clear hK K
            try simp only [Act.put, List.setIfInBounds_toArray, List.set_cons_zero, List.set_cons_succ]
            refine wpAnyH_tk (i := 6) (oi := _) (v := ?vQ1b6) rfl rfl (by kernel_rfl) (by kernel_rfl) (by kernel_rfl) (fun _ _ _ h => h) (Or.inl ⟨by kernel_rfl, ?yQ1b6⟩) (by assumption) ?rQ1b6
            case yQ1b6 =>
              intro w hSw
              (try dsimp only at hSw)
              go_simp
              try with_reducible rfl
            try simp only [List.setIfInBounds_toArray, List.set_cons_zero, List.set_cons_succ]
            refine wpAnyH_ready (rs := [7, 8]) (by kernel_rfl) (by simp) ?_
            refine AllReadyH.cons (o := _) rfl (fun K hK => ?wa) (AllReadyH.cons (o := _) rfl (fun K hK => ?wb) AllReadyH.nil)
            case wa =>
              rw [if_pos (by kernel_rfl)]
              go_simp
              refine hK.out _ _ trivial (fun _ => ?_)
              clear hK K
              try simp only [Act.put, List.setIfInBounds_toArray, List.set_cons_zero, List.set_cons_succ]
              refine wpAnyH_ready (rs := [8]) (by kernel_rfl) (by simp) ?_
              refine AllReadyH.cons (o := _) rfl (fun K hK => ?_) AllReadyH.nil
              rw [if_pos (by kernel_rfl)]
              go_simp
              refine hK.out _ _ trivial (fun _ => ?_)
              clear hK K
              try simp only [Act.put, List.setIfInBounds_toArray, List.set_cons_zero, List.set_cons_succ]
              refine wpAnyH_done (by kernel_rfl) ?_ _
              go_wp2
              go_meet
              exact HFIN.out
            case wb =>
              rw [if_pos (by kernel_rfl)]
              go_simp
              refine hK.out _ _ trivial (fun _ => ?_)
              clear hK K
              try simp only [Act.put, List.setIfInBounds_toArray, List.set_cons_zero, List.set_cons_succ]
              refine wpAnyH_ready (rs := [7]) (by kernel_rfl) (by simp) ?_
              refine AllReadyH.cons (o := _) rfl (fun K hK => ?_) AllReadyH.nil
              rw [if_pos (by kernel_rfl)]
              go_simp
              refine hK.out _ _ trivial (fun _ => ?_)
              clear hK K
              try simp only [Act.put, List.setIfInBounds_toArray, List.set_cons_zero, List.set_cons_succ]
              refine wpAnyH_done (by kernel_rfl) ?_ _
              go_wp2
              go_meet
              exact HFIN2.out
          case way2 =>
            rw [if_pos (by kernel_rfl)]
            go_simp
            refine hK.out _ _ trivial (fun _ => ?_)
            clear hK K
            try simp only [Act.put, List.setIfInBounds_toArray, List.set_cons_zero, List.set_cons_succ]
            refine wpAnyH_ready (rs := [0]) (by kernel_rfl) (by simp) ?_
            refine AllReadyH.cons (o := _) rfl (fun K hK => ?_) AllReadyH.nil
            rw [if_pos (by kernel_rfl)]
            go_simp
            refine hK.out _ _ trivial (fun _ => ?_)
            clear hK K
            try simp only [Act.put, List.setIfInBounds_toArray, List.set_cons_zero, List.set_cons_succ]
            refine wpAnyH_tk (i := 3) (oi := _) (v := ?vQ2b3) rfl rfl (by kernel_rfl) (by kernel_rfl) (by kernel_rfl) (fun _ _ _ h => h) (Or.inl ⟨by kernel_rfl, ?yQ2b3⟩) (by assumption) ?rQ2b3
            case yQ2b3 =>
              intro w hSw
              (try dsimp only at hSw)
              go_simp
              try with_reducible rfl
            try simp only [List.setIfInBounds_toArray, List.set_cons_zero, List.set_cons_succ]
            refine wpAnyH_ready (rs := [5]) (by kernel_rfl) (by simp) ?_
            refine AllReadyH.cons (o := _) rfl (fun K hK => ?_) AllReadyH.nil
            refine step_app_run rfl _ _ rfl rfl rfl rfl hrun ?_
            refine hK.out _ _ trivial (fun _ => ?_)
            clear hK K
            try simp only [Act.put, List.setIfInBounds_toArray, List.set_cons_zero, List.set_cons_succ]
            refine wpAnyH_tk (i := 6) (oi := _) (v := ?vQ2b6) rfl rfl (by kernel_rfl) (by kernel_rfl) (by kernel_rfl) (fun _ _ _ h => h) (Or.inl ⟨by kernel_rfl, ?yQ2b6⟩) (by assumption) ?rQ2b6
            case yQ2b6 =>
              intro w hSw
              (try dsimp only at hSw)
              go_simp
              try with_reducible rfl
            try simp only [List.setIfInBounds_toArray, List.set_cons_zero, List.set_cons_succ]
            refine wpAnyH_ready (rs := [7, 8]) (by kernel_rfl) (by simp) ?_
            refine AllReadyH.cons (o := _) rfl (fun K hK => ?wa) (AllReadyH.cons (o := _) rfl (fun K hK => ?wb) AllReadyH.nil)
            case wa =>
              rw [if_pos (by kernel_rfl)]
              go_simp
              refine hK.out _ _ trivial (fun _ => ?_)
              clear hK K
              try simp only [Act.put, List.setIfInBounds_toArray, List.set_cons_zero, List.set_cons_succ]
              refine wpAnyH_ready (rs := [8]) (by kernel_rfl) (by simp) ?_
              refine AllReadyH.cons (o := _) rfl (fun K hK => ?_) AllReadyH.nil
              rw [if_pos (by kernel_rfl)]
              go_simp
              refine hK.out _ _ trivial (fun _ => ?_)
              clear hK K
              try simp only [Act.put, List.setIfInBounds_toArray, List.set_cons_zero, List.set_cons_succ]
              refine wpAnyH_done (by kernel_rfl) ?_ _
              go_wp2
              go_meet
              exact HFIN.out
            case wb =>
              rw [if_pos (by kernel_rfl)]
              go_simp
              refine hK.out _ _ trivial (fun _ => ?_)
              clear hK K
              try simp only [Act.put, List.setIfInBounds_toArray, List.set_cons_zero, List.set_cons_succ]
              refine wpAnyH_ready (rs := [7]) (by kernel_rfl) (by simp) ?_
              refine AllReadyH.cons (o := _) rfl (fun K hK => ?_) AllReadyH.nil
              rw [if_pos (by kernel_rfl)]
              go_simp
              refine hK.out _ _ trivial (fun _ => ?_)
              clear hK K
              try simp only [Act.put, List.setIfInBounds_toArray, List.set_cons_zero, List.set_cons_succ]
              refine wpAnyH_done (by kernel_rfl) ?_ _
              go_wp2
              go_meet
              exact HFIN2.out
        case rest =>
        have HC := hide hcut
        clear hcut HFIN HFIN2 hrun p1 p2 p3 p4 hcn hcnA a0 a1 a2 a3 a4 a5 a6 a7 a8 a9 a10 a11 d0 d1 d2 d3 d4 d5 d6 d7 d8 d9 d10 d11
        go_wp2
        rw [Exit.noGoto_normal]
        go_wp2
        refine ⟨⟨k + 1, by go_num, by omega, hide ?_, hide ?_⟩, by simp [intOf]; omega⟩
        · rw [HST.out, HE.out]; exact HC.out.mono (by omega)
        · rw [HST.out, HE.out]
          have := HSL.out
          show (s.2 ++ [_]).length ≤ _
          rw [List.length_append, List.length_singleton]
          omega
      · rw [hx] at HIA
        have hlen : rest.size = a.length + 1 + r2.length := by rw [Lib.size_eq, hsp, List.length_append, List.length_cons]; omega
        have hex : (rest.extract (a.length + 1) rest.size).data.toList = r2 := by
          rw [Lib.extract_data, hsp, List.take_of_length_le (by rw [List.length_drop, List.length_append, List.length_cons]; omega)]
          rw [show a ++ b :: r2 = (a ++ [b]) ++ r2 by simp, List.drop_left' (by simp)]
        have HTX2 := hide (show txS [] (rest.extract (a.length + 1) rest.size).data.toList (flushS (pushS a s)) = txS [] tx.data.toList sk from by
          rw [hex, ← HTX.out, hsp, txS_at a [] b r2 s hna hbb, List.nil_append])
        have hez : (rest.extract (a.length + 1) rest.size).size = r2.length := by rw [Lib.size_eq, hex]
        have hea : rest.extract 0 a.length = bsF a := by
          rw [Lib.extract_eq, hsp, List.drop_zero, Nat.sub_zero, List.take_left' rfl]; rfl
        have HEZ := hide hez
        obtain ⟨an, han⟩ : ∃ n, a.length = n := ⟨_, rfl⟩
        rw [han] at HIA HTX2 HEZ hlen hea
        have HPS := hide (show pushS a s = if an = 0 then s else (s.1, s.2 ++ [⟨1, rest.extract 0 an, ⟨#[]⟩, ⟨#[]⟩, none, 0, 0, false⟩]) from by
          unfold pushS
          by_cases h0 : a = []
          · rw [if_pos h0, if_pos (by rw [← han, h0]; rfl)]
          · rw [if_neg h0, if_neg (by rw [← han]; intro e; exact h0 (List.length_eq_zero_iff.1 e)), hea]
            rfl)
        have hl1 : an + 1 ≤ rest.size := by omega
        have HLR := hide (show r2.length + an + 1 = rest.size by omega)
        have hl2 : (an : Int) + 1 ≤ (rest.size : Int) := by omega
        have hl3 : (an : Int) ≤ (rest.size : Int) := by omega
        have hl4 : ¬ (an : Int) < 0 := by omega
        have hl5 : an ≤ rest.size := by omega
        have hani : (an : Int) ≤ 5000 := by omega
        clear hbel HB0 hx hna hbb hsp hex hez hea hr0 hlen
        by_cases ha0 : an = 0
        · subst ha0
          have hps := HPS.out
          rw [if_pos rfl] at hps
          go_wp2_with fail
          refine HIA.out.mono ?_
          rintro e w9 ⟨rfl, hb9⟩
          have HS9 := hide (HSQ.out.step hb9)
          have HEN := hide (end_any w w.heap.size (w.heap.size + 1) s m w9 HS9.out (by omega) (by have := HSL.out; omega))
          rw [hps] at HTX2
          clear hb9 hps HPS
          go_wp2_with fail
          refine HEN.out.mono ?_
          rintro e wf ⟨rfl, hsp⟩
          have HSP2 := hide hsp
          clear hsp HEN
          go_wp2
          go_roundg (rest.extract 1 rest.size).size
          case measure => have := HEZ.out; have := HLR.out; simp only [Nat.zero_add] at *; omega
          case rel => exact ⟨rest.extract 1 rest.size, flushS s, m + 1, rfl, rfl, by have := HEZ.out; have := HLR.out; simp only [Nat.zero_add] at *; omega, HTX2, HSP2, by have := HEZ.out; have := HLR.out; simp only [Nat.zero_add] at *; omega, hide (by rw [flush_len]; omega)⟩
        · have hps := HPS.out
          rw [if_neg ha0] at hps
          rw [hps] at HTX2
          have hap : (0 : Int) < (an : Int) := by omega
          clear hps HPS
          go_wp2_with fail
          refine HIA.out.mono ?_
          rintro e w9 ⟨rfl, hb9⟩
          have HS9 := hide (HSQ.out.step hb9)
          clear hb9
          go_upto_region 15 with (fail)
          obtain ⟨A1, nw, c1, g9, c9, w4, hnw, hcn, hcnA, hrun, ⟨p1, p2⟩, k1, ⟨p3, p4⟩, k3, hfin, hfin2⟩ := push_pack HS9.out (by have := HSL.out; omega) ⟨1, rest.extract 0 an, ⟨#[]⟩, ⟨#[]⟩, none, 0, 0, false⟩
          unfold Can6 at k1 k3
          dsimp only at k1 k3
          have HFIN := hide hfin
          have HFIN2 := hide hfin2
          unfold set6 at p3 p4
          dsimp only at p3 p4
          obtain ⟨⟨⟨_, a0⟩, a1⟩, ⟨⟨_, a2⟩, a3⟩, ⟨⟨_, a4⟩, a5⟩, ⟨⟨_, a6⟩, a7⟩, ⟨⟨_, a8⟩, a9⟩, ⟨⟨_, a10⟩, a11⟩⟩ := k1
          obtain ⟨⟨⟨_, d0⟩, d1⟩, ⟨⟨_, d2⟩, d3⟩, ⟨⟨_, d4⟩, d5⟩, ⟨⟨_, d6⟩, d7⟩, ⟨⟨_, d8⟩, d9⟩, ⟨⟨_, d10⟩, d11⟩⟩ := k3
          have nwi : (nw : Int) ≤ 600000 := by have := HSL.out; omega
          have bnw : (nw : Int) < (nw : Int) + 1 := by omega
          clear hfin hfin2 hnw
          go_cut [51] from 42 to 51 (fun _ w' => SpP w w.heap.size (w.heap.size + 1) (s.1, s.2 ++ [⟨1, rest.extract 0 an, ⟨#[]⟩, ⟨#[]⟩, none, 0, 0, false⟩]) m w')
          case first =>
            refine wp_region_held_drew (S := (fun _ => True)) (by kernel_rfl) trivial (fun hHeld => ?_)
            refine wpAnyH_tk (i := 1) (oi := _) (v := ?vR1) rfl rfl (by kernel_rfl) (by kernel_rfl) (by kernel_rfl) (fun _ _ _ h => h) (Or.inl ⟨by kernel_rfl, ?yR1⟩) (by assumption) ?rR1
            case yR1 =>
              intro w hSw
              (try dsimp only at hSw)
              go_simp
              try with_reducible rfl
            try simp only [List.setIfInBounds_toArray, List.set_cons_zero, List.set_cons_succ]
            refine wpAnyH_tk (i := 2) (oi := _) (v := ?vR2) rfl rfl (by kernel_rfl) (by kernel_rfl) (by kernel_rfl) (fun _ _ _ h => h) (Or.inl ⟨by kernel_rfl, ?yR2⟩) (by assumption) ?rR2
            case yR2 =>
              intro w hSw
              (try dsimp only at hSw)
              go_simp
              try with_reducible rfl
            try simp only [List.setIfInBounds_toArray, List.set_cons_zero, List.set_cons_succ]
            refine wpAnyH_tk (i := 3) (oi := _) (v := ?vR3) rfl rfl (by kernel_rfl) (by kernel_rfl) (by kernel_rfl) (fun _ _ _ h => h) (Or.inl ⟨by kernel_rfl, ?yR3⟩) (by assumption) ?rR3
            case yR3 =>
              intro w hSw
              (try dsimp only at hSw)
              go_simp
              try with_reducible rfl
            try simp only [List.setIfInBounds_toArray, List.set_cons_zero, List.set_cons_succ]
            refine wpAnyH_tk (i := 4) (oi := _) (v := ?vR4) rfl rfl (by kernel_rfl) (by kernel_rfl) (by kernel_rfl) (fun _ _ _ h => h) (Or.inl ⟨by kernel_rfl, ?yR4⟩) (by assumption) ?rR4
            case yR4 =>
              intro w hSw
              (try dsimp only at hSw)
              go_simp
              try with_reducible rfl
            try simp only [List.setIfInBounds_toArray, List.set_cons_zero, List.set_cons_succ]
            refine wpAnyH_ready (rs := [0, 6]) (by kernel_rfl) (by simp) ?_
            refine AllReadyH.cons (o := _) rfl (fun K hK => ?way1) (AllReadyH.cons (o := _) rfl (fun K hK => ?way2) AllReadyH.nil)
            case way1 =>
              rw [if_pos (by kernel_rfl)]
              go_simp
              refine hK.out _ _ trivial (fun _ => ?_)
              clear hK K
              try simp only [Act.put, List.setIfInBounds_toArray, List.set_cons_zero, List.set_cons_succ]
              refine wpAnyH_tk (i := 5) (oi := _) (v := ?vR1b5) rfl rfl (by kernel_rfl) (by kernel_rfl) (by kernel_rfl) (fun _ _ _ h => h) (Or.inl ⟨by kernel_rfl, ?yR1b5⟩) (by assumption) ?rR1b5
              case yR1b5 =>
                intro w hSw
                (try dsimp only at hSw)
                go_simp
                try with_reducible rfl
              try simp only [List.setIfInBounds_toArray, List.set_cons_zero, List.set_cons_succ]
              refine wpAnyH_ready (rs := [6]) (by kernel_rfl) (by simp) ?_
              refine AllReadyH.cons (o := _) rfl (fun K hK => ?_) AllReadyH.nil
              rw [if_pos (by kernel_rfl)]
              go_simp
              refine hK.out _ _ trivial (fun _ => ?_)
              clear hK K
              try simp only [Act.put, List.setIfInBounds_toArray, List.set_cons_zero, List.set_cons_succ]
              refine wpAnyH_ready (rs := [7]) (by kernel_rfl) (by simp) ?_
              refine AllReadyH.cons (o := _) rfl (fun K hK => ?_) AllReadyH.nil
              refine step_app_run rfl _ _ rfl rfl rfl rfl hrun ?_
              refine hK.out _ _ trivial (fun _ => ?_)
              clear hK K
              try simp only [Act.put, List.setIfInBounds_toArray, List.set_cons_zero, List.set_cons_succ]
              refine wpAnyH_tk (i := 8) (oi := _) (v := ?vR1b8) rfl rfl (by kernel_rfl) (by kernel_rfl) (by kernel_rfl) (fun _ _ _ h => h) (Or.inl ⟨by kernel_rfl, ?yR1b8⟩) (by assumption) ?rR1b8
              case yR1b8 =>
                intro w hSw
                (try dsimp only at hSw)
                go_simp
                try with_reducible rfl
              try simp only [List.setIfInBounds_toArray, List.set_cons_zero, List.set_cons_succ]
              refine wpAnyH_ready (rs := [9, 10]) (by kernel_rfl) (by simp) ?_
              refine AllReadyH.cons (o := _) rfl (fun K hK => ?wa) (AllReadyH.cons (o := _) rfl (fun K hK => ?wb) AllReadyH.nil)
              case wa =>
                rw [if_pos (by kernel_rfl)]
                go_simp
                refine hK.out _ _ trivial (fun _ => ?_)
                clear hK K
                try simp only [Act.put, List.setIfInBounds_toArray, List.set_cons_zero, List.set_cons_succ]
                refine wpAnyH_ready (rs := [10]) (by kernel_rfl) (by simp) ?_
                refine AllReadyH.cons (o := _) rfl (fun K hK => ?_) AllReadyH.nil
                rw [if_pos (by kernel_rfl)]
                go_simp
                refine hK.out _ _ trivial (fun _ => ?_)
                clear hK K
                try simp only [Act.put, List.setIfInBounds_toArray, List.set_cons_zero, List.set_cons_succ]
                refine wpAnyH_done (by kernel_rfl) ?_ _
                go_wp2
                go_meet
                exact HFIN.out
              case wb =>
                rw [if_pos (by kernel_rfl)]
                go_simp
                refine hK.out _ _ trivial (fun _ => ?_)
                clear hK K
                try simp only [Act.put, List.setIfInBounds_toArray, List.set_cons_zero, List.set_cons_succ]
                refine wpAnyH_ready (rs := [9]) (by kernel_rfl) (by simp) ?_
                refine AllReadyH.cons (o := _) rfl (fun K hK => ?_) AllReadyH.nil
                rw [if_pos (by kernel_rfl)]
                go_simp
                refine hK.out _ _ trivial (fun _ => ?_)
                clear hK K
                try simp only [Act.put, List.setIfInBounds_toArray, List.set_cons_zero, List.set_cons_succ]
                refine wpAnyH_done (by kernel_rfl) ?_ _
                go_wp2
                go_meet
                exact HFIN2.out
            case way2 =>
              rw [if_pos (by kernel_rfl)]
              go_simp
              refine hK.out _ _ trivial (fun _ => ?_)
              clear hK K
              try simp only [Act.put, List.setIfInBounds_toArray, List.set_cons_zero, List.set_cons_succ]
              refine wpAnyH_ready (rs := [0]) (by kernel_rfl) (by simp) ?_
              refine AllReadyH.cons (o := _) rfl (fun K hK => ?_) AllReadyH.nil
              rw [if_pos (by kernel_rfl)]
              go_simp
              refine hK.out _ _ trivial (fun _ => ?_)
              clear hK K
              try simp only [Act.put, List.setIfInBounds_toArray, List.set_cons_zero, List.set_cons_succ]
              refine wpAnyH_tk (i := 5) (oi := _) (v := ?vR2b5) rfl rfl (by kernel_rfl) (by kernel_rfl) (by kernel_rfl) (fun _ _ _ h => h) (Or.inl ⟨by kernel_rfl, ?yR2b5⟩) (by assumption) ?rR2b5
              case yR2b5 =>
                intro w hSw
                (try dsimp only at hSw)
                go_simp
                try with_reducible rfl
              try simp only [List.setIfInBounds_toArray, List.set_cons_zero, List.set_cons_succ]
              refine wpAnyH_ready (rs := [7]) (by kernel_rfl) (by simp) ?_
              refine AllReadyH.cons (o := _) rfl (fun K hK => ?_) AllReadyH.nil
              refine step_app_run rfl _ _ rfl rfl rfl rfl hrun ?_
              refine hK.out _ _ trivial (fun _ => ?_)
              clear hK K
              try simp only [Act.put, List.setIfInBounds_toArray, List.set_cons_zero, List.set_cons_succ]
              refine wpAnyH_tk (i := 8) (oi := _) (v := ?vR2b8) rfl rfl (by kernel_rfl) (by kernel_rfl) (by kernel_rfl) (fun _ _ _ h => h) (Or.inl ⟨by kernel_rfl, ?yR2b8⟩) (by assumption) ?rR2b8
              case yR2b8 =>
                intro w hSw
                (try dsimp only at hSw)
                go_simp
                try with_reducible rfl
              try simp only [List.setIfInBounds_toArray, List.set_cons_zero, List.set_cons_succ]
              refine wpAnyH_ready (rs := [9, 10]) (by kernel_rfl) (by simp) ?_
              refine AllReadyH.cons (o := _) rfl (fun K hK => ?wa) (AllReadyH.cons (o := _) rfl (fun K hK => ?wb) AllReadyH.nil)
              case wa =>
                rw [if_pos (by kernel_rfl)]
                go_simp
                refine hK.out _ _ trivial (fun _ => ?_)
                clear hK K
                try simp only [Act.put, List.setIfInBounds_toArray, List.set_cons_zero, List.set_cons_succ]
                refine wpAnyH_ready (rs := [10]) (by kernel_rfl) (by simp) ?_
                refine AllReadyH.cons (o := _) rfl (fun K hK => ?_) AllReadyH.nil
                rw [if_pos (by kernel_rfl)]
                go_simp
                refine hK.out _ _ trivial (fun _ => ?_)
                clear hK K
                try simp only [Act.put, List.setIfInBounds_toArray, List.set_cons_zero, List.set_cons_succ]
                refine wpAnyH_done (by kernel_rfl) ?_ _
                go_wp2
                go_meet
                exact HFIN.out
              case wb =>
                rw [if_pos (by kernel_rfl)]
                go_simp
                refine hK.out _ _ trivial (fun _ => ?_)
                clear hK K
                try simp only [Act.put, List.setIfInBounds_toArray, List.set_cons_zero, List.set_cons_succ]
                refine wpAnyH_ready (rs := [9]) (by kernel_rfl) (by simp) ?_
                refine AllReadyH.cons (o := _) rfl (fun K hK => ?_) AllReadyH.nil
                rw [if_pos (by kernel_rfl)]
                go_simp
                refine hK.out _ _ trivial (fun _ => ?_)
                clear hK K
                try simp only [Act.put, List.setIfInBounds_toArray, List.set_cons_zero, List.set_cons_succ]
                refine wpAnyH_done (by kernel_rfl) ?_ _
                go_wp2
                go_meet
                exact HFIN2.out
          case rest =>
          obtain ⟨wv, hwv⟩ : ∃ Z, Z = wc := ⟨_, rfl⟩
          subst hwv
          have HEN := hide (end_any w w.heap.size (w.heap.size + 1) _ m wv hcut (by omega) (by
            have := HSL.out
            show (s.2 ++ [_]).length ≤ _
            rw [List.length_append, List.length_singleton]
            omega))
          clear hcut HFIN HFIN2 hrun p1 p2 p3 p4 hcn hcnA a0 a1 a2 a3 a4 a5 a6 a7 a8 a9 a10 a11 d0 d1 d2 d3 d4 d5 d6 d7 d8 d9 d10 d11
          go_wp2_with fail
          refine HEN.out.mono ?_
          rintro e wf ⟨rfl, hsp⟩
          have HSP2 := hide hsp
          clear hsp HEN
          go_wp2
          go_roundg (rest.extract (an + 1) rest.size).size
          case measure => have := HEZ.out; have := HLR.out; omega
          case rel => exact ⟨rest.extract (an + 1) rest.size, _, m + 1, rfl, rfl, by have := HEZ.out; have := HLR.out; omega, HTX2, HSP2, by have := HEZ.out; have := HLR.out; omega, hide (by rw [flush_len]; omega)⟩
end Go.Proofs.Ythcgnfoijemcbaa
