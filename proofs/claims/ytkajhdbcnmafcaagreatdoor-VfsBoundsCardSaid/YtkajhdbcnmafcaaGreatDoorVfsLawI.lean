/- Walk of the law VfsBounds: there never are more nodes or bytes than may be; all nodes hang on directories; no time is greater than the clock, nor two the same. -/
import Derived.Test.YtkajhdbcnmafcaaGreatDoorVfsLawG
import Derived.BigQuiet
namespace Go.Proofs.YtkajhdbcnmafcaaGreatDoor
open Go.RowKit Go.Deep Go.Maps Ln Pth Vf
set_option linter.unusedSimpArgs false
set_option linter.unusedVariables false
attribute [local go_sem] bt_eq

theorem okA_iffB {x : Ac4} (h : okA x = true) : x.p.size ≤ 300 ∧ x.q.size ≤ 300 ∧ x.b.length ≤ 2000 := by
  unfold okA at h
  simp only [Bool.and_eq_true, decide_eq_true_eq] at h
  exact ⟨h.1.1, h.1.2, h.2⟩
theorem bigF_noB {L : List Ac4} (h : bigF L = false) : (∀ x ∈ L, okA x = true) ∧ L.length ≤ 60 := by
  unfold bigF at h
  simp only [Bool.not_eq_false', Bool.and_eq_true, decide_eq_true_eq, List.all_eq_true] at h
  exact h
/-- what holds of each node of a row -/
structure NodeOk (S : St) (P : List NV) (k : Nat) (z : NV) : Prop where
  key : ∃ t : T, z.1 = bs t ∧ t.length ≤ 200 ∧ (dirF t).length ≤ 300 ∧ kindS S (dirF t) = 2
  time : 1 ≤ z.2.nd.time ∧ z.2.nd.time ≤ S.clock
  dir : z.2.nd.dir = true → z.2.nd.data.length = 0
  before : ∀ y, 0 < k → P[k - 1]? = some y → sLt y.1 z.1 = true
  other : ∀ j y, j < k → P[j]? = some y → y.2.nd.time ≠ z.2.nd.time
theorem node_ok {S : St} (hS : WfS S) (t : HangS S) {P : List NV} (hP : stripN P = S.m) {k : Nat} {z : NV} (hz : P[k]? = some z) : NodeOk S P k z := by
  have hmem : ∀ {j : Nat} {y : NV}, P[j]? = some y → getG S.m y.1 = some y.2.nd := fun hy => by
    rw [← hP]
    refine mem_getG (by rw [hP]; exact hS.rise) ?_
    exact List.mem_map.2 ⟨_, List.mem_of_getElem? hy, rfl⟩
  have hrise : RiseG P := strip_rise.1 (hP ▸ hS.rise)
  have hlt : ∀ {j : Nat} {y : NV}, j < k → P[j]? = some y → sLt y.1 z.1 = true := fun hj hy => by
    have hj1 := (List.getElem?_eq_some_iff.1 hy).2
    have hk1 := (List.getElem?_eq_some_iff.1 hz).2
    have := List.pairwise_iff_getElem.1 hrise _ k (List.getElem?_eq_some_iff.1 hy).1 (List.getElem?_eq_some_iff.1 hz).1 hj
    rw [hj1, hk1] at this
    exact this
  have hg := hmem hz
  obtain ⟨l, hl, hne, e⟩ := hS.good _ (getG_mem hg)
  have e : z.1 = bs (joinF l) := e
  obtain ⟨a, s, rfl⟩ := snoc_of hne
  have hk2 : kindM S.m (joinF a) = 2 := t.hang a s hl (by rw [← e, hg]; simp)
  have hd : dirF (joinF (a ++ [s])) = joinF a := by rw [dir_join hl.ok, List.dropLast_concat]
  have hab : absS S (joinF a) = (joinF a, 0) := by
    unfold absS
    rw [absF_good hl.front]
    simp only [ne_eq, not_true_eq_false, if_false]
    rw [if_neg (by rw [t.wayOk hl.front (.inl (by omega))]; simp)]
  refine ⟨⟨joinF (a ++ [s]), e, hl.len, by rw [hd]; have := hl.front.len; omega, ?_⟩, t.times _ _ hg, fun h => by rw [t.dirs _ _ hg h]; rfl, fun y h0 hy => hlt (by omega) hy, fun j y hj hy e2 => ?_⟩
  · rw [hd]
    unfold kindS
    rw [hab]
    simp only [ne_eq, not_true_eq_false, if_false]
    exact hk2
  · have := t.dist _ _ _ _ (hmem hy) hg e2
    have h2 := hlt hj hy
    rw [this, sLt_irr] at h2
    cases h2
set_option maxRecDepth 100000 in
set_option maxHeartbeats 16000000 in
theorem law_vfsBounds (n b : Int) (A : Option Addr) (c : Nat) (L : List Ac4) (w0 : (Lit.int .i64 n).wf = true) (w1 : (Lit.int .i64 b).wf = true) (m0 : L.length ≤ maxLen) (s0 : ∀ x ∈ L, szA x) (W : World) (hm : MX W) (h : AR4 W A L) :
    Calls Tryz.prog 4 #[.int .i64 n, .int .i64 b, .slice A L.length c] W fun e w' => e = .returned (.bool true) ∧ Below W.heap.size W w' := by
  have HM := hide hm
  have HAR := hide h
  have HAL := hide (alive4_any W hm)
  have HS0 := hide s0
  obtain ⟨nl, hn⟩ : ∃ n, L.length = n := ⟨_, rfl⟩
  have HN := hide hn
  have hm0 : nl ≤ 9223372036854775807 := by rw [← hn]; exact m0
  rw [hn]
  clear hm h s0 hn m0 w0 w1
  go_enter Tryz.func4, Tryz.ntmps4
  go_wp2_with fail
  refine HAL.out.mono ?_
  rintro e w1 ⟨rfl, hb1⟩
  have HB1 := hide hb1
  clear hb1 HAL
  have hbg := big_any A c L w1 (HAR.out.below HB1.out).1 (by rw [HN.out]; exact hm0) HS0.out
  rw [HN.out] at hbg
  have HBC := hide hbg
  clear hbg
  go_wp2_with fail
  refine HBC.out.mono ?_
  rintro e w' ⟨rfl, rfl⟩
  clear HBC
  cases hbig : bigF L with
  | true =>
    go_wp2
    go_ret
    exact ⟨rfl, HB1.out⟩
  | false =>
  obtain ⟨hok, hl60⟩ := bigF_noB hbig
  have HOK := hide hok
  rw [HN.out] at hl60
  clear hok hbig
  by_cases n0 : n < 0
  · have d0 : decide (n < 0) = true := by simpa using n0
    go_wp2
    go_ret
    exact ⟨rfl, HB1.out⟩
  have d0 : decide (n < 0) = false := by simpa using n0
  by_cases n5 : 50 < n
  · have d1 : decide (50 < n) = true := by simpa using n5
    go_wp2
    go_ret
    exact ⟨rfl, HB1.out⟩
  have d1 : decide (50 < n) = false := by simpa using n5
  by_cases b0 : b < 0
  · have d2 : decide (b < 0) = true := by simpa using b0
    go_wp2
    go_ret
    exact ⟨rfl, HB1.out⟩
  have d2 : decide (b < 0) = false := by simpa using b0
  by_cases b5 : 5000 < b
  · have d3 : decide (5000 < b) = true := by simpa using b5
    go_wp2
    go_ret
    exact ⟨rfl, HB1.out⟩
  have d3 : decide (5000 < b) = false := by simpa using b5
  have HNW := hide (vnew_any n b w1 (by omega) (by omega) (by omega) (by omega))
  go_wp2_with fail
  refine HNW.out.mono ?_
  rintro e w4 ⟨rfl, hb4, hv4, hs4⟩
  have HNR := hide (rnew_any n b w4)
  go_wp2_with fail
  refine HNR.out.mono ?_
  rintro e w5 ⟨rfl, hb5, hr5, hs5⟩
  have HI0 := hide (Two.start n b HB1.out hb4 hv4 hs4 hb5 hr5 hs5)
  have HND := hide (show ((newS n b).nodes : Int) = n ∧ ((newS n b).bytes : Int) = b from ⟨by simp only [newS]; omega, by simp only [newS]; omega⟩)
  have HG0 := hide (GoodS.new n b)
  have HC0 := hide (show (newS n b).clock = 0 from rfl)
  obtain ⟨f, hf⟩ : ∃ f, w1.heap.size + 1 = f := ⟨_, rfl⟩
  obtain ⟨r, hr⟩ : ∃ f, w4.heap.size = f := ⟨_, rfl⟩
  obtain ⟨S0, hS0⟩ : ∃ S, newS n b = S := ⟨_, rfl⟩
  rw [hf, hr, hS0] at HI0
  rw [hS0] at HND HG0 HC0
  rw [hf, hr]
  have hby0 : S0.bytes ≤ 400000 := by have := HND.out.2; omega
  clear hb4 hv4 hs4 hb5 hr5 hs5 HNW HNR hf hr hS0
  go_wp2
  go_loopw [11, 12, 13, 14, 15, 16] (fun v11 v12 _ _ _ _ wr => ∃ i : Nat, v12 = .int .i64 i ∧ i ≤ nl ∧ v11 = .int .i64 (actsS S0 (L.take i)).clock ∧ Hid (InvN (Two f r (actsS S0 (L.take i)) (actsS S0 (L.take i)) noneN) W.heap.size W wr)) (fun _ v12 _ _ _ _ _ => nl - (intOf v12).toNat)
  case atStart => exact ⟨0, rfl, Nat.zero_le _, by show _ = Value.int .i64 S0.clock; rw [HC0.out]; rfl, HI0.out⟩
  case round =>
    obtain ⟨wo, hwo⟩ : ∃ Z, Z = wr := ⟨_, rfl⟩
    subst hwo
    obtain ⟨i, rfl, hi, rfl, HI⟩ := hrel
    by_cases hlt : i < nl
    case neg =>
      obtain rfl : i = nl := by omega
      go_wp2
      go_ret
      exact ⟨rfl, HI.out.below⟩
    have har := HAR.out.below HI.out.below
    obtain ⟨y, hy⟩ : ∃ y, L[i]? = some y := ⟨L[i]'(by have := HN.out; omega), List.getElem?_eq_getElem _⟩
    obtain ⟨gs, og, rfl, hgs, hc⟩ := har.1 i y hy
    have c0 : wo.cell? ⟨gs, og + i * 5, none⟩ = some (.int .i64 y.way) := by have := hc 0 _ rfl; simpa using this
    have c1 : wo.cell? ⟨gs, og + i * 5 + 1, none⟩ = some (.string y.p) := hc 1 _ rfl
    have c2 : wo.cell? ⟨gs, og + i * 5 + 2, none⟩ = some (.string y.q) := hc 2 _ rfl
    have c3 : wo.cell? ⟨gs, og + i * 5 + 3, none⟩ = some (.slice y.A y.b.length y.c) := hc 3 _ rfl
    have c4 : wo.cell? ⟨gs, og + i * 5 + 4, none⟩ = some (.bool y.more) := hc 4 _ rfl
    obtain ⟨z1, z2, z3⟩ := okA_iffB (HOK.out y (List.mem_of_getElem? hy))
    have hgd := GoodS.acts (L.take i) HG0.out
    have HDO := hide (do_any f r _ y noneN noneN.fr W wo HI.out hgd hby0 (by rw [List.length_take]; omega) HM.out z1 z2 z3 (HAR.out.2 y (List.mem_of_getElem? hy)))
    have hcs := doS_cs (actsS S0 (L.take i)) y
    have hg2 := hgd.act y
    rw [← actsS_take hy] at HDO hcs hg2
    rw [List.length_take] at hg2
    have b1 : (i : Int) < (nl : Int) := by omega
    obtain ⟨S, hS⟩ : ∃ S, actsS S0 (L.take (i + 1)) = S := ⟨_, rfl⟩
    obtain ⟨cw, hcw⟩ : ∃ S, (actsS S0 (L.take i)).clock = S := ⟨_, rfl⟩
    rw [hS] at HDO hcs hg2
    rw [hcw] at hcs ⊢
    have HSS := hide hS
    have HG := hide hg2
    have hclk : S.clock ≤ 100 := by have := hg2.clock; omega
    have hcwc : cw ≤ S.clock ∧ S.clock ≤ cw + 1 := ⟨hcs.2.2.1, hcs.2.2.2⟩
    clear hy hc hgs z1 z2 z3 hgd har hcs hS hcw hg2
    go_wp2_with fail
    refine HDO.out.mono ?_
    rintro e w6 ⟨rfl, hi6⟩
    have HI6 := hide hi6
    have HA7 := hide (all_any f S HG.out.wf w6 (Two.vs hi6))
    unfold AllPost at HA7
    clear hi6 HDO
    go_wp2_with fail
    refine HA7.out.mono ?_
    rintro e w7 ⟨⟨A1, c1, P, rfl, hc1, hn1, hs1⟩, hb7⟩
    have HI7 := hide (Two.row HI6.out noneN.fr (Nat.le_refl _) hb7 hn1)
    have HS1 := hide hs1
    have HNO := hide (fun (k : Nat) (z : NV) (hz : P[k]? = some z) => node_ok HG.out.wf HG.out.hang hs1 hz)
    have hpl : P.length ≤ S.nodes := by rw [← stripN_len, hs1]; exact HG.out.wf.nodes
    have hsz : sizeR P = S.used := sizeR_eq hs1.symm HG.out.wf
    have hub := HG.out.wf.bytes
    rw [HG.out.bytes] at hub
    rw [HG.out.nodes] at hpl
    have HSB := hide (show sizeR P ≤ S0.bytes by rw [hsz]; exact hub)
    obtain ⟨m, hmm⟩ : ∃ n, P.length = n := ⟨_, rfl⟩
    have HMM := hide hmm
    rw [hmm] at hc1 hpl ⊢
    have hnd := HND.out
    have hmi : (m : Int) ≤ n := by omega
    have hmc : (m : Int) ≤ (c1 : Int) := by omega
    have HXR := hide (noneN.fr.join (RowX.fr A1 P))
    have HCL := hide (fun (Z : World) (hh : Hs (VS f S) Z) => clock_any f S Z hh)
    have HKD := hide (fun (p : T) (hp : p.length ≤ 300) (Z : World) (hh : InvN (Two f r S S (sep noneN (RowX A1 P))) W.heap.size W Z) => vkind_any f S p Z (Two.vs hh) (HM.out.below hh.below) (by omega))
    clear hc1 hn1 hs1 hb7 hmm hsz hub HA7 HI6
    go_wp2
    go_loopw [14, 15, 16] (fun v14 v15 _ wr => ∃ k : Nat, v15 = .int .i64 k ∧ k ≤ m ∧ v14 = .int .i64 (sizeR (P.take k)) ∧ Hid (InvN (Two f r S S (sep noneN (RowX A1 P))) W.heap.size W wr)) (fun _ v15 _ _ => m - (intOf v15).toNat)
    case atStart => exact ⟨0, rfl, Nat.zero_le _, by simp [sizeR], HI7.out⟩
    case round =>
      obtain ⟨wm, hwm⟩ : ∃ Z, Z = wr := ⟨_, rfl⟩
      subst hwm
      obtain ⟨k, rfl, hk, rfl, HJ⟩ := hrel
      by_cases hkm : k < m
      case neg =>
        obtain rfl : k = m := by omega
        rw [List.take_of_length_le (by have := HMM.out; omega)]
        have hsb := HSB.out
        obtain ⟨u, hu⟩ : ∃ u, sizeR P = u := ⟨_, rfl⟩
        rw [hu] at hsb ⊢
        have hui : (u : Int) ≤ b := by omega
        have g1 : ¬ n < (k : Int) := by omega
        have g2 : ¬ b < (u : Int) := by omega
        have g3 : ¬ (S.clock : Int) < (cw : Int) := by omega
        have g4 : ¬ (cw : Int) + 1 < (S.clock : Int) := by omega
        go_wp2_with fail
        refine (HCL.out wm (Two.vs HJ.out)).mono ?_
        rintro e w' ⟨rfl, rfl⟩
        go_wp2_with fail
        refine (HCL.out wm (Two.vs HJ.out)).mono ?_
        rintro e w' ⟨rfl, rfl⟩
        go_wp2_with fail
        refine (HCL.out wm (Two.vs HJ.out)).mono ?_
        rintro e w' ⟨rfl, rfl⟩
        have HJL := hide (Two.less HJ.out)
        go_wp2
        go_roundw
        case rel => exact ⟨i + 1, by go_num, by omega, by rw [HSS.out], by rw [HSS.out]; exact HJL.out⟩
        case measure => simp [intOf]; omega
      obtain ⟨z, hz⟩ : ∃ z, P[k]? = some z := ⟨P[k]'(by have := HMM.out; omega), List.getElem?_eq_getElem _⟩
      obtain ⟨rg, _⟩ := RowX.get HJ.out.snd.snd
      obtain ⟨ga, oa, rfl, hga, hcz⟩ := rg k z hz
      have nok := HNO.out k z hz
      obtain ⟨t, hzt, htl, hdl, hkd⟩ := nok.key
      have q0 : wm.cell? ⟨ga, oa + k * 4, none⟩ = some (.string (bs t)) := by have := hcz 0 _ rfl; rw [hzt] at this; simpa using this
      have q1 : wm.cell? ⟨ga, oa + k * 4 + 1, none⟩ = some (.bool z.2.nd.dir) := hcz 1 _ rfl
      have q2 : wm.cell? ⟨ga, oa + k * 4 + 2, none⟩ = some (.slice z.2.A z.2.nd.data.length z.2.c) := hcz 2 _ rfl
      have q3 : wm.cell? ⟨ga, oa + k * 4 + 3, none⟩ = some (.int .i64 z.2.nd.time) := hcz 3 _ rfl
      have hst := sizeR_take hz
      have hsl := sizeR_le P (k + 1)
      have hsb := HSB.out
      obtain ⟨D, hD⟩ : ∃ u, z.2.nd.data.length = u := ⟨_, rfl⟩
      obtain ⟨u, hu⟩ : ∃ u, sizeR (P.take k) = u := ⟨_, rfl⟩
      obtain ⟨tm, htm⟩ : ∃ u, z.2.nd.time = u := ⟨_, rfl⟩
      obtain ⟨zA, hzA⟩ : ∃ u, z.2.A = u := ⟨_, rfl⟩
      obtain ⟨zc, hzc⟩ : ∃ u, z.2.c = u := ⟨_, rfl⟩
      rw [hD] at q2 hst
      rw [hu] at hst ⊢
      rw [htm] at q3
      rw [hzA, hzc] at q2
      have HST := hide hst
      have hui : (u : Int) ≤ 400000 := by omega
      have hDi : (D : Int) ≤ 400000 := by omega
      have htime := nok.time
      rw [htm] at htime
      have HOT := hide (fun j y hj hy => nok.other j y hj hy)
      rw [htm] at HOT
      have hdirD := nok.dir
      rw [hD] at hdirD
      have g5 : ¬ (S.clock : Int) < (tm : Int) := by omega
      have g6 : ¬ (tm : Int) < 1 := by omega
      have hki : (k : Int) < (m : Int) := by omega
      have HRD := hide (fun (Z : World) => rdir_any t Z (by omega))
      have HKK := hide (HKD.out (dirF t) hdl)
      rw [hkd] at HKK
      have HBF := hide (fun y h0 hy => nok.before y h0 hy)
      rw [hzt] at HBF
      have HGA := hide hga
      have HZ := hide hz
      have hkp : 0 < k → ∃ y, P[k - 1]? = some y := fun h => ⟨P[k - 1]'(by have := HMM.out; omega), List.getElem?_eq_getElem _⟩
      clear hz nok hzt hdl hkd hst hsl hsb hD hu htm hzA hzc
      cases hdr : z.2.nd.dir with
      | true =>
        rw [hdr] at q1
        obtain rfl : D = 0 := hdirD hdr
        clear hdirD hdr
        by_cases hk0 : k = 0
        · have gk : decide ((0 : Int) < (k : Int)) = false := by simp; omega
          have gk2 : decide (0 < k) = false := by simp; omega
          clear hk0
          have hf0 : decide ((S.clock : Int) < (tm : Int)) = false := by simp; omega
          have hf1 : decide (S.clock < tm) = false := by simp; omega
          have hf2 : decide ((tm : Int) < 1) = false := by simp; omega
          have hf3 : decide (tm < 1) = false := by simp; omega
          have hf4 : decide (tm = 0) = false := by simp; omega
          have hf5 : decide ((0 : Int) < (k : Int)) = false := gk
          have hf6 : decide (0 < k) = false := gk2
          have hq := fun (Z : World) (hb : Below wm.heap.size wm Z) => show ((fun Z => Z.cell? ⟨ga, oa + k * 4, none⟩ = some (.string (bs t)) ∧ Z.cell? ⟨ga, oa + k * 4 + 1, none⟩ = some (.bool true) ∧ Z.cell? ⟨ga, oa + k * 4 + 2, none⟩ = some (.slice zA 0 zc) ∧ Z.cell? ⟨ga, oa + k * 4 + 3, none⟩ = some (.int .i64 tm) ∧ decide ((S.clock : Int) < (tm : Int)) = false ∧ decide (S.clock < tm) = false ∧ decide ((tm : Int) < 1) = false ∧ decide (tm < 1) = false ∧ decide (tm = 0) = false ∧ decide ((0 : Int) < (k : Int)) = false ∧ decide (0 < k) = false)) Z from ⟨(hb.cell (p := ⟨ga, oa + k * 4, none⟩) HGA.out).trans q0, (hb.cell (p := ⟨ga, oa + k * 4 + 1, none⟩) HGA.out).trans q1, (hb.cell (p := ⟨ga, oa + k * 4 + 2, none⟩) HGA.out).trans q2, (hb.cell (p := ⟨ga, oa + k * 4 + 3, none⟩) HGA.out).trans q3, hf0, hf1, hf2, hf3, hf4, hf5, hf6⟩
          have HQ := hide hq
          clear hq hf0 hf1 hf2 hf3 hf4 hf5 hf6
          go_wp2_with fail
          refine wp_region_held_drew (S := (fun Z => Z.cell? ⟨ga, oa + k * 4, none⟩ = some (.string (bs t)) ∧ Z.cell? ⟨ga, oa + k * 4 + 1, none⟩ = some (.bool true) ∧ Z.cell? ⟨ga, oa + k * 4 + 2, none⟩ = some (.slice zA 0 zc) ∧ Z.cell? ⟨ga, oa + k * 4 + 3, none⟩ = some (.int .i64 tm) ∧ decide ((S.clock : Int) < (tm : Int)) = false ∧ decide (S.clock < tm) = false ∧ decide ((tm : Int) < 1) = false ∧ decide (tm < 1) = false ∧ decide (tm = 0) = false ∧ decide ((0 : Int) < (k : Int)) = false ∧ decide (0 < k) = false)) (by kernel_rfl) (HQ.out _ (Below.refl _ _).drew) (fun hHeld => ?_)
          refine wpAnyH_tk (i := 0) (oi := _) (v := ?vZt0) rfl rfl (by kernel_rfl) (by kernel_rfl) (by kernel_rfl) (fun _ _ _ h => h) (Or.inl ⟨by kernel_rfl, ?yZt0⟩) (by assumption) ?rZt0
          case yZt0 =>
            intro w hSw
            (try dsimp only at hSw)
            go_simp
            try with_reducible rfl
          try simp only [List.setIfInBounds_toArray, List.set_cons_zero, List.set_cons_succ]
          refine wpAnyH_tk (i := 1) (oi := _) (v := ?vZt1) rfl rfl (by kernel_rfl) (by kernel_rfl) (by kernel_rfl) (fun _ _ _ h => h) (Or.inl ⟨by kernel_rfl, ?yZt1⟩) (by assumption) ?rZt1
          case yZt1 =>
            intro w hSw
            (try dsimp only at hSw)
            go_simp
            try with_reducible rfl
          try simp only [List.setIfInBounds_toArray, List.set_cons_zero, List.set_cons_succ]
          refine wpAnyH_tk (i := 2) (oi := _) (v := ?vZt2) rfl rfl (by kernel_rfl) (by kernel_rfl) (by kernel_rfl) (fun _ _ _ h => h) (Or.inl ⟨by kernel_rfl, ?yZt2⟩) (by assumption) ?rZt2
          case yZt2 =>
            intro w hSw
            (try dsimp only at hSw)
            go_simp
            try with_reducible rfl
          try simp only [List.setIfInBounds_toArray, List.set_cons_zero, List.set_cons_succ]
          refine wpAnyH_tk (i := 3) (oi := _) (v := ?vZt3) rfl rfl (by kernel_rfl) (by kernel_rfl) (by kernel_rfl) (fun _ _ _ h => h) (Or.inl ⟨by kernel_rfl, ?yZt3⟩) (by assumption) ?rZt3
          case yZt3 =>
            intro w hSw
            (try dsimp only at hSw)
            go_simp
            try with_reducible rfl
          try simp only [List.setIfInBounds_toArray, List.set_cons_zero, List.set_cons_succ]
          refine wpAnyH_tk (i := 4) (oi := _) (v := ?vZt4) rfl rfl (by kernel_rfl) (by kernel_rfl) (by kernel_rfl) (fun _ _ _ h => h) (Or.inl ⟨by kernel_rfl, ?yZt4⟩) (by assumption) ?rZt4
          case yZt4 =>
            intro w hSw
            (try dsimp only at hSw)
            go_simp
            try with_reducible rfl
          try simp only [List.setIfInBounds_toArray, List.set_cons_zero, List.set_cons_succ]
          refine wpAnyH_tk (i := 5) (oi := _) (v := ?vZt5) rfl rfl (by kernel_rfl) (by kernel_rfl) (by kernel_rfl) (fun _ _ _ h => h) (Or.inl ⟨by kernel_rfl, ?yZt5⟩) (by assumption) ?rZt5
          case yZt5 =>
            intro w hSw
            (try dsimp only at hSw)
            go_simp
            try with_reducible rfl
          try simp only [List.setIfInBounds_toArray, List.set_cons_zero, List.set_cons_succ]
          refine wpAnyH_ready (rs := [6]) (by kernel_rfl) (by simp) ?_
          refine AllReadyH.cons (o := _) rfl (fun K hK => ?_) AllReadyH.nil
          rw [if_pos (by kernel_rfl)]
          go_simp
          refine (HRD.out _).mono ?_
          rintro e w8 ⟨rfl, hb8⟩
          have hb8w := below_up (Below.refl wm.heap.size wm).drew hb8 (Nat.le_refl _)
          have HB8 := hide hb8w
          have HJ8 := hide (show InvN (Two f r S S (sep noneN (RowX (some ⟨ga, oa, none⟩) P))) W.heap.size W w8 from HJ.out.step (Two.fr f r S S HXR.out) hb8w (Nat.le_refl _))
          clear hb8 hb8w
          refine hK.out _ _ (HQ.out _ HB8.out) (fun _ => ?_)
          clear hK K
          try simp only [Act.put, List.setIfInBounds_toArray, List.set_cons_zero, List.set_cons_succ]
          refine wpAnyH_ready (rs := [7]) (by kernel_rfl) (by simp) ?_
          refine AllReadyH.cons (o := _) rfl (fun K hK => ?_) AllReadyH.nil
          rw [if_pos (by kernel_rfl)]
          go_simp
          refine (HKK.out w8 HJ8.out).mono ?_
          rintro e w9 ⟨rfl, hb9⟩
          have HB9 := hide (below_up HB8.out hb9 HB8.out.size)
          have HJ9 := hide (show InvN (Two f r S S (sep noneN (RowX (some ⟨ga, oa, none⟩) P))) W.heap.size W w9 from HJ8.out.step (Two.fr f r S S HXR.out) hb9 (Nat.le_refl _))
          clear hb9
          refine hK.out _ _ (HQ.out _ HB9.out) (fun _ => ?_)
          clear hK K
          try simp only [Act.put, List.setIfInBounds_toArray, List.set_cons_zero, List.set_cons_succ]
          refine wpAnyH_tk (i := 8) (oi := _) (v := ?vZt8) rfl rfl (by kernel_rfl) (by kernel_rfl) (by kernel_rfl) (fun _ _ _ h => h) (Or.inl ⟨by kernel_rfl, ?yZt8⟩) (by assumption) ?rZt8
          case yZt8 =>
            intro w hSw
            (try dsimp only at hSw)
            go_simp
            try with_reducible rfl
          try simp only [List.setIfInBounds_toArray, List.set_cons_zero, List.set_cons_succ]
          refine wpAnyH_tk (i := 9) (oi := _) (v := ?vZt9) rfl rfl (by kernel_rfl) (by kernel_rfl) (by kernel_rfl) (fun _ _ _ h => h) (Or.inl ⟨by kernel_rfl, ?yZt9⟩) (by assumption) ?rZt9
          case yZt9 =>
            intro w hSw
            (try dsimp only at hSw)
            go_simp
            try with_reducible rfl
          try simp only [List.setIfInBounds_toArray, List.set_cons_zero, List.set_cons_succ]
          refine wpAnyH_tk (i := 10) (oi := _) (v := ?vZt10) rfl rfl (by kernel_rfl) (by kernel_rfl) (by kernel_rfl) (fun _ _ _ h => h) (Or.inl ⟨by kernel_rfl, ?yZt10⟩) (by assumption) ?rZt10
          case yZt10 =>
            intro w hSw
            (try dsimp only at hSw)
            go_simp
            try with_reducible rfl
          try simp only [List.setIfInBounds_toArray, List.set_cons_zero, List.set_cons_succ]
          refine wpAnyH_tk (i := 11) (oi := _) (v := ?vZt11) rfl rfl (by kernel_rfl) (by kernel_rfl) (by kernel_rfl) (fun _ _ _ h => h) (Or.inl ⟨by kernel_rfl, ?yZt11⟩) (by assumption) ?rZt11
          case yZt11 =>
            intro w hSw
            (try dsimp only at hSw)
            go_simp
            try with_reducible rfl
          try simp only [List.setIfInBounds_toArray, List.set_cons_zero, List.set_cons_succ]
          refine wpAnyH_tk (i := 12) (oi := _) (v := ?vZt12) rfl rfl (by kernel_rfl) (by kernel_rfl) (by kernel_rfl) (fun _ _ _ h => h) (Or.inl ⟨by kernel_rfl, ?yZt12⟩) (by assumption) ?rZt12
          case yZt12 =>
            intro w hSw
            (try dsimp only at hSw)
            go_simp
            try with_reducible rfl
          try simp only [List.setIfInBounds_toArray, List.set_cons_zero, List.set_cons_succ]
          refine wpAnyH_tk (i := 13) (oi := _) (v := ?vZt13) rfl rfl (by kernel_rfl) (by kernel_rfl) (by kernel_rfl) (fun _ _ _ h => h) (Or.inl ⟨by kernel_rfl, ?yZt13⟩) (by assumption) ?rZt13
          case yZt13 =>
            intro w hSw
            (try dsimp only at hSw)
            go_simp
            try with_reducible rfl
          try simp only [List.setIfInBounds_toArray, List.set_cons_zero, List.set_cons_succ]
          refine wpAnyH_tk (i := 14) (oi := _) (v := ?vZt14) rfl rfl (by kernel_rfl) (by kernel_rfl) (by kernel_rfl) (fun _ _ _ h => h) (Or.inl ⟨by kernel_rfl, ?yZt14⟩) (by assumption) ?rZt14
          case yZt14 =>
            intro w hSw
            (try dsimp only at hSw)
            go_simp
            try with_reducible rfl
          try simp only [List.setIfInBounds_toArray, List.set_cons_zero, List.set_cons_succ]
          refine wpAnyH_tk (i := 15) (oi := _) (v := ?vZt15) rfl rfl (by kernel_rfl) (by kernel_rfl) (by kernel_rfl) (fun _ _ _ h => h) (Or.inl ⟨by kernel_rfl, ?yZt15⟩) (by assumption) ?rZt15
          case yZt15 =>
            intro w hSw
            (try dsimp only at hSw)
            go_simp
            try with_reducible rfl
          try simp only [List.setIfInBounds_toArray, List.set_cons_zero, List.set_cons_succ]
          refine wpAnyH_ready (rs := [16]) (by kernel_rfl) (by simp) ?_
          refine AllReadyH.cons (o := _) rfl (fun K hK => ?_) AllReadyH.nil
          rw [if_pos (by kernel_rfl)]
          go_simp
          refine (HCL.out w9 (Two.vs HJ9.out)).mono ?_
          rintro e w' ⟨rfl, rfl⟩
          refine hK.out _ _ (HQ.out _ HB9.out) (fun _ => ?_)
          clear hK K
          try simp only [Act.put, List.setIfInBounds_toArray, List.set_cons_zero, List.set_cons_succ]
          refine wpAnyH_tk (i := 17) (oi := _) (v := ?vZt17) rfl rfl (by kernel_rfl) (by kernel_rfl) (by kernel_rfl) (fun _ _ _ h => h) (Or.inl ⟨by kernel_rfl, ?yZt17⟩) (by assumption) ?rZt17
          case yZt17 =>
            intro w hSw
            (try dsimp only at hSw)
            go_simp
            try with_reducible rfl
          try simp only [List.setIfInBounds_toArray, List.set_cons_zero, List.set_cons_succ]
          refine wpAnyH_tk (i := 18) (oi := _) (v := ?vZt18) rfl rfl (by kernel_rfl) (by kernel_rfl) (by kernel_rfl) (fun _ _ _ h => h) (Or.inl ⟨by kernel_rfl, ?yZt18⟩) (by assumption) ?rZt18
          case yZt18 =>
            intro w hSw
            (try dsimp only at hSw)
            go_simp
            try with_reducible rfl
          try simp only [List.setIfInBounds_toArray, List.set_cons_zero, List.set_cons_succ]
          refine wpAnyH_tk (i := 19) (oi := _) (v := ?vZt19) rfl rfl (by kernel_rfl) (by kernel_rfl) (by kernel_rfl) (fun _ _ _ h => h) (Or.inl ⟨by kernel_rfl, ?yZt19⟩) (by assumption) ?rZt19
          case yZt19 =>
            intro w hSw
            (try dsimp only at hSw)
            go_simp
            try with_reducible rfl
          try simp only [List.setIfInBounds_toArray, List.set_cons_zero, List.set_cons_succ]
          refine wpAnyH_tk (i := 20) (oi := _) (v := ?vZt20) rfl rfl (by kernel_rfl) (by kernel_rfl) (by kernel_rfl) (fun _ _ _ h => h) (Or.inl ⟨by kernel_rfl, ?yZt20⟩) (by assumption) ?rZt20
          case yZt20 =>
            intro w hSw
            (try dsimp only at hSw)
            go_simp
            try with_reducible rfl
          try simp only [List.setIfInBounds_toArray, List.set_cons_zero, List.set_cons_succ]
          refine wpAnyH_tk (i := 21) (oi := _) (v := ?vZt21) rfl rfl (by kernel_rfl) (by kernel_rfl) (by kernel_rfl) (fun _ _ _ h => h) (Or.inl ⟨by kernel_rfl, ?yZt21⟩) (by assumption) ?rZt21
          case yZt21 =>
            intro w hSw
            (try dsimp only at hSw)
            go_simp
            try with_reducible rfl
          try simp only [List.setIfInBounds_toArray, List.set_cons_zero, List.set_cons_succ]
          refine wpAnyH_tk (i := 22) (oi := _) (v := ?vZt22) rfl rfl (by kernel_rfl) (by kernel_rfl) (by kernel_rfl) (fun _ _ _ h => h) (Or.inl ⟨by kernel_rfl, ?yZt22⟩) (by assumption) ?rZt22
          case yZt22 =>
            intro w hSw
            (try dsimp only at hSw)
            go_simp
            try with_reducible rfl
          try simp only [List.setIfInBounds_toArray, List.set_cons_zero, List.set_cons_succ]
          refine wpAnyH_tk (i := 23) (oi := _) (v := ?vZt23) rfl rfl (by kernel_rfl) (by kernel_rfl) (by kernel_rfl) (fun _ _ _ h => h) (Or.inl ⟨by kernel_rfl, ?yZt23⟩) (by assumption) ?rZt23
          case yZt23 =>
            intro w hSw
            (try dsimp only at hSw)
            go_simp
            try with_reducible rfl
          try simp only [List.setIfInBounds_toArray, List.set_cons_zero, List.set_cons_succ]
          refine wpAnyH_tk (i := 24) (oi := _) (v := ?vZt24) rfl rfl (by kernel_rfl) (by kernel_rfl) (by kernel_rfl) (fun _ _ _ h => h) (Or.inl ⟨by kernel_rfl, ?yZt24⟩) (by assumption) ?rZt24
          case yZt24 =>
            intro w hSw
            (try dsimp only at hSw)
            go_simp
            try with_reducible rfl
          try simp only [List.setIfInBounds_toArray, List.set_cons_zero, List.set_cons_succ]
          refine wpAnyH_tk (i := 25) (oi := _) (v := ?vZt25) rfl rfl (by kernel_rfl) (by kernel_rfl) (by kernel_rfl) (fun _ _ _ h => h) (Or.inl ⟨by kernel_rfl, ?yZt25⟩) (by assumption) ?rZt25
          case yZt25 =>
            intro w hSw
            (try dsimp only at hSw)
            go_simp
            try with_reducible rfl
          try simp only [List.setIfInBounds_toArray, List.set_cons_zero, List.set_cons_succ]
          refine wpAnyH_tk (i := 26) (oi := _) (v := ?vZt26) rfl rfl (by kernel_rfl) (by kernel_rfl) (by kernel_rfl) (fun _ _ _ h => h) (Or.inl ⟨by kernel_rfl, ?yZt26⟩) (by assumption) ?rZt26
          case yZt26 =>
            intro w hSw
            (try dsimp only at hSw)
            go_simp
            try with_reducible rfl
          try simp only [List.setIfInBounds_toArray, List.set_cons_zero, List.set_cons_succ]
          refine wpAnyH_tk (i := 27) (oi := _) (v := ?vZt27) rfl rfl (by kernel_rfl) (by kernel_rfl) (by kernel_rfl) (fun _ _ _ h => h) (Or.inl ⟨by kernel_rfl, ?yZt27⟩) (by assumption) ?rZt27
          case yZt27 =>
            intro w hSw
            (try dsimp only at hSw)
            go_simp
            try with_reducible rfl
          try simp only [List.setIfInBounds_toArray, List.set_cons_zero, List.set_cons_succ]
          refine wpAnyH_tk (i := 28) (oi := _) (v := ?vZt28) rfl rfl (by kernel_rfl) (by kernel_rfl) (by kernel_rfl) (fun _ _ _ h => h) (Or.inl ⟨by kernel_rfl, ?yZt28⟩) (by assumption) ?rZt28
          case yZt28 =>
            intro w hSw
            (try dsimp only at hSw)
            go_simp
            try with_reducible rfl
          try simp only [List.setIfInBounds_toArray, List.set_cons_zero, List.set_cons_succ]
          refine wpAnyH_tk (i := 29) (oi := _) (v := ?vZt29) rfl rfl (by kernel_rfl) (by kernel_rfl) (by kernel_rfl) (fun _ _ _ h => h) (Or.inl ⟨by kernel_rfl, ?yZt29⟩) (by assumption) ?rZt29
          case yZt29 =>
            intro w hSw
            (try dsimp only at hSw)
            go_simp
            try with_reducible rfl
          try simp only [List.setIfInBounds_toArray, List.set_cons_zero, List.set_cons_succ]
          refine wpAnyH_tk (i := 30) (oi := _) (v := ?vZt30) rfl rfl (by kernel_rfl) (by kernel_rfl) (by kernel_rfl) (fun _ _ _ h => h) (Or.inl ⟨by kernel_rfl, ?yZt30⟩) (by assumption) ?rZt30
          case yZt30 =>
            intro w hSw
            (try dsimp only at hSw)
            go_simp
            try with_reducible rfl
          try simp only [List.setIfInBounds_toArray, List.set_cons_zero, List.set_cons_succ]
          refine wpAnyH_tk (i := 31) (oi := _) (v := ?vZt31) rfl rfl (by kernel_rfl) (by kernel_rfl) (by kernel_rfl) (fun _ _ _ h => h) (Or.inl ⟨by kernel_rfl, ?yZt31⟩) (by assumption) ?rZt31
          case yZt31 =>
            intro w hSw
            (try dsimp only at hSw)
            go_simp
            try with_reducible rfl
          try simp only [List.setIfInBounds_toArray, List.set_cons_zero, List.set_cons_succ]
          refine wpAnyH_tk (i := 32) (oi := _) (v := ?vZt32) rfl rfl (by kernel_rfl) (by kernel_rfl) (by kernel_rfl) (fun _ _ _ h => h) (Or.inl ⟨by kernel_rfl, ?yZt32⟩) (by assumption) ?rZt32
          case yZt32 =>
            intro w hSw
            (try dsimp only at hSw)
            go_simp
            try with_reducible rfl
          try simp only [List.setIfInBounds_toArray, List.set_cons_zero, List.set_cons_succ]
          refine wpAnyH_tk (i := 33) (oi := _) (v := ?vZt33) rfl rfl (by kernel_rfl) (by kernel_rfl) (by kernel_rfl) (fun _ _ _ h => h) (Or.inl ⟨by kernel_rfl, ?yZt33⟩) (by assumption) ?rZt33
          case yZt33 =>
            intro w hSw
            (try dsimp only at hSw)
            go_simp
            try with_reducible rfl
          try simp only [List.setIfInBounds_toArray, List.set_cons_zero, List.set_cons_succ]
          refine wpAnyH_tk (i := 34) (oi := _) (v := ?vZt34) rfl rfl (by kernel_rfl) (by kernel_rfl) (by kernel_rfl) (fun _ _ _ h => h) (Or.inl ⟨by kernel_rfl, ?yZt34⟩) (by assumption) ?rZt34
          case yZt34 =>
            intro w hSw
            (try dsimp only at hSw)
            go_simp
            try with_reducible rfl
          try simp only [List.setIfInBounds_toArray, List.set_cons_zero, List.set_cons_succ]
          refine wpAnyH_tk (i := 35) (oi := _) (v := ?vZt35) rfl rfl (by kernel_rfl) (by kernel_rfl) (by kernel_rfl) (fun _ _ _ h => h) (Or.inl ⟨by kernel_rfl, ?yZt35⟩) (by assumption) ?rZt35
          case yZt35 =>
            intro w hSw
            (try dsimp only at hSw)
            go_simp
            try with_reducible rfl
          try simp only [List.setIfInBounds_toArray, List.set_cons_zero, List.set_cons_succ]
          refine wpAnyH_tk (i := 36) (oi := _) (v := ?vZt36) rfl rfl (by kernel_rfl) (by kernel_rfl) (by kernel_rfl) (fun _ _ _ h => h) (Or.inl ⟨by kernel_rfl, ?yZt36⟩) (by assumption) ?rZt36
          case yZt36 =>
            intro w hSw
            (try dsimp only at hSw)
            go_simp
            try with_reducible rfl
          try simp only [List.setIfInBounds_toArray, List.set_cons_zero, List.set_cons_succ]
          refine wpAnyH_tk (i := 37) (oi := _) (v := ?vZt37) rfl rfl (by kernel_rfl) (by kernel_rfl) (by kernel_rfl) (fun _ _ _ h => h) (Or.inl ⟨by kernel_rfl, ?yZt37⟩) (by assumption) ?rZt37
          case yZt37 =>
            intro w hSw
            (try dsimp only at hSw)
            go_simp
            try with_reducible rfl
          try simp only [List.setIfInBounds_toArray, List.set_cons_zero, List.set_cons_succ]
          refine wpAnyH_tk (i := 38) (oi := _) (v := ?vZt38) rfl rfl (by kernel_rfl) (by kernel_rfl) (by kernel_rfl) (fun _ _ _ h => h) (Or.inl ⟨by kernel_rfl, ?yZt38⟩) (by assumption) ?rZt38
          case yZt38 =>
            intro w hSw
            (try dsimp only at hSw)
            go_simp
            try with_reducible rfl
          try simp only [List.setIfInBounds_toArray, List.set_cons_zero, List.set_cons_succ]
          refine wpAnyH_tk (i := 39) (oi := _) (v := ?vZt39) rfl rfl (by kernel_rfl) (by kernel_rfl) (by kernel_rfl) (fun _ _ _ h => h) (Or.inl ⟨by kernel_rfl, ?yZt39⟩) (by assumption) ?rZt39
          case yZt39 =>
            intro w hSw
            (try dsimp only at hSw)
            go_simp
            try with_reducible rfl
          try simp only [List.setIfInBounds_toArray, List.set_cons_zero, List.set_cons_succ]
          refine wpAnyH_tk (i := 40) (oi := _) (v := ?vZt40) rfl rfl (by kernel_rfl) (by kernel_rfl) (by kernel_rfl) (fun _ _ _ h => h) (Or.inl ⟨by kernel_rfl, ?yZt40⟩) (by assumption) ?rZt40
          case yZt40 =>
            intro w hSw
            (try dsimp only at hSw)
            go_simp
            try with_reducible rfl
          try simp only [List.setIfInBounds_toArray, List.set_cons_zero, List.set_cons_succ]
          refine wpAnyH_tk (i := 41) (oi := _) (v := ?vZt41) rfl rfl (by kernel_rfl) (by kernel_rfl) (by kernel_rfl) (fun _ _ _ h => h) (Or.inl ⟨by kernel_rfl, ?yZt41⟩) (by assumption) ?rZt41
          case yZt41 =>
            intro w hSw
            (try dsimp only at hSw)
            go_simp
            try with_reducible rfl
          try simp only [List.setIfInBounds_toArray, List.set_cons_zero, List.set_cons_succ]
          refine wpAnyH_tk (i := 42) (oi := _) (v := ?vZt42) rfl rfl (by kernel_rfl) (by kernel_rfl) (by kernel_rfl) (fun _ _ _ h => h) (Or.inl ⟨by kernel_rfl, ?yZt42⟩) (by assumption) ?rZt42
          case yZt42 =>
            intro w hSw
            (try dsimp only at hSw)
            go_simp
            try with_reducible rfl
          try simp only [List.setIfInBounds_toArray, List.set_cons_zero, List.set_cons_succ]
          refine wpAnyH_tk (i := 43) (oi := _) (v := ?vZt43) rfl rfl (by kernel_rfl) (by kernel_rfl) (by kernel_rfl) (fun _ _ _ h => h) (Or.inl ⟨by kernel_rfl, ?yZt43⟩) (by assumption) ?rZt43
          case yZt43 =>
            intro w hSw
            (try dsimp only at hSw)
            go_simp
            try with_reducible rfl
          try simp only [List.setIfInBounds_toArray, List.set_cons_zero, List.set_cons_succ]
          refine wpAnyH_tk (i := 44) (oi := _) (v := ?vZt44) rfl rfl (by kernel_rfl) (by kernel_rfl) (by kernel_rfl) (fun _ _ _ h => h) (Or.inl ⟨by kernel_rfl, ?yZt44⟩) (by assumption) ?rZt44
          case yZt44 =>
            intro w hSw
            (try dsimp only at hSw)
            go_simp
            try with_reducible rfl
          try simp only [List.setIfInBounds_toArray, List.set_cons_zero, List.set_cons_succ]
          refine wpAnyH_tk (i := 45) (oi := _) (v := ?vZt45) rfl rfl (by kernel_rfl) (by kernel_rfl) (by kernel_rfl) (fun _ _ _ h => h) (Or.inl ⟨by kernel_rfl, ?yZt45⟩) (by assumption) ?rZt45
          case yZt45 =>
            intro w hSw
            (try dsimp only at hSw)
            go_simp
            try with_reducible rfl
          try simp only [List.setIfInBounds_toArray, List.set_cons_zero, List.set_cons_succ]
          refine wpAnyH_tk (i := 46) (oi := _) (v := ?vZt46) rfl rfl (by kernel_rfl) (by kernel_rfl) (by kernel_rfl) (fun _ _ _ h => h) (Or.inl ⟨by kernel_rfl, ?yZt46⟩) (by assumption) ?rZt46
          case yZt46 =>
            intro w hSw
            (try dsimp only at hSw)
            go_simp
            try with_reducible rfl
          try simp only [List.setIfInBounds_toArray, List.set_cons_zero, List.set_cons_succ]
          refine wpAnyH_off (i := 47) (oi := _) rfl rfl (by kernel_rfl) (by kernel_rfl) (by kernel_rfl) (fun _ _ _ h => h) (by kernel_rfl) (by assumption) ?_
          try simp only [List.setIfInBounds_toArray, List.set_cons_zero, List.set_cons_succ]
          refine wpAnyH_off (i := 48) (oi := _) rfl rfl (by kernel_rfl) (by kernel_rfl) (by kernel_rfl) (fun _ _ _ h => h) (by kernel_rfl) (by assumption) ?_
          try simp only [List.setIfInBounds_toArray, List.set_cons_zero, List.set_cons_succ]
          refine wpAnyH_off (i := 49) (oi := _) rfl rfl (by kernel_rfl) (by kernel_rfl) (by kernel_rfl) (fun _ _ _ h => h) (by kernel_rfl) (by assumption) ?_
          try simp only [List.setIfInBounds_toArray, List.set_cons_zero, List.set_cons_succ]
          refine wpAnyH_off (i := 50) (oi := _) rfl rfl (by kernel_rfl) (by kernel_rfl) (by kernel_rfl) (fun _ _ _ h => h) (by kernel_rfl) (by assumption) ?_
          try simp only [List.setIfInBounds_toArray, List.set_cons_zero, List.set_cons_succ]
          refine wpAnyH_off (i := 51) (oi := _) rfl rfl (by kernel_rfl) (by kernel_rfl) (by kernel_rfl) (fun _ _ _ h => h) (by kernel_rfl) (by assumption) ?_
          try simp only [List.setIfInBounds_toArray, List.set_cons_zero, List.set_cons_succ]
          refine wpAnyH_off (i := 52) (oi := _) rfl rfl (by kernel_rfl) (by kernel_rfl) (by kernel_rfl) (fun _ _ _ h => h) (by kernel_rfl) (by assumption) ?_
          try simp only [List.setIfInBounds_toArray, List.set_cons_zero, List.set_cons_succ]
          refine wpAnyH_off (i := 53) (oi := _) rfl rfl (by kernel_rfl) (by kernel_rfl) (by kernel_rfl) (fun _ _ _ h => h) (by kernel_rfl) (by assumption) ?_
          try simp only [List.setIfInBounds_toArray, List.set_cons_zero, List.set_cons_succ]
          refine wpAnyH_off (i := 54) (oi := _) rfl rfl (by kernel_rfl) (by kernel_rfl) (by kernel_rfl) (fun _ _ _ h => h) (by kernel_rfl) (by assumption) ?_
          try simp only [List.setIfInBounds_toArray, List.set_cons_zero, List.set_cons_succ]
          refine wpAnyH_off (i := 55) (oi := _) rfl rfl (by kernel_rfl) (by kernel_rfl) (by kernel_rfl) (fun _ _ _ h => h) (by kernel_rfl) (by assumption) ?_
          try simp only [List.setIfInBounds_toArray, List.set_cons_zero, List.set_cons_succ]
          refine wpAnyH_off (i := 56) (oi := _) rfl rfl (by kernel_rfl) (by kernel_rfl) (by kernel_rfl) (fun _ _ _ h => h) (by kernel_rfl) (by assumption) ?_
          try simp only [List.setIfInBounds_toArray, List.set_cons_zero, List.set_cons_succ]
          refine wpAnyH_off (i := 57) (oi := _) rfl rfl (by kernel_rfl) (by kernel_rfl) (by kernel_rfl) (fun _ _ _ h => h) (by kernel_rfl) (by assumption) ?_
          try simp only [List.setIfInBounds_toArray, List.set_cons_zero, List.set_cons_succ]
          refine wpAnyH_off (i := 58) (oi := _) rfl rfl (by kernel_rfl) (by kernel_rfl) (by kernel_rfl) (fun _ _ _ h => h) (by kernel_rfl) (by assumption) ?_
          try simp only [List.setIfInBounds_toArray, List.set_cons_zero, List.set_cons_succ]
          refine wpAnyH_tk (i := 59) (oi := _) (v := ?vZt59) rfl rfl (by kernel_rfl) (by kernel_rfl) (by kernel_rfl) (fun _ _ _ h => h) (Or.inl ⟨by kernel_rfl, ?yZt59⟩) (by assumption) ?rZt59
          case yZt59 =>
            intro w hSw
            (try dsimp only at hSw)
            go_simp
            try with_reducible rfl
          try simp only [List.setIfInBounds_toArray, List.set_cons_zero, List.set_cons_succ]
          refine wpAnyH_tk (i := 60) (oi := _) (v := ?vZt60) rfl rfl (by kernel_rfl) (by kernel_rfl) (by kernel_rfl) (fun _ _ _ h => h) (Or.inl ⟨by kernel_rfl, ?yZt60⟩) (by assumption) ?rZt60
          case yZt60 =>
            intro w hSw
            (try dsimp only at hSw)
            go_simp
            try with_reducible rfl
          try simp only [List.setIfInBounds_toArray, List.set_cons_zero, List.set_cons_succ]
          refine wpAnyH_done (by kernel_rfl) ?_ _
          go_wp2
          go_loopw [6, 16] (fun _ v16 wr => ∃ (j q : Nat), v16 = .int .i64 j ∧ j ≤ k ∧ wr = w9.drewN q) (fun _ v16 _ => k - (intOf v16).toNat)
          case atStart => exact ⟨0, 0, rfl, Nat.zero_le _, rfl⟩
          case round =>
            obtain ⟨j, q, rfl, hj, rfl⟩ := hrel
            by_cases hjk : j < k
            · obtain ⟨y, hy⟩ : ∃ y, P[j]? = some y := ⟨P[j]'(by have := HMM.out; omega), List.getElem?_eq_getElem _⟩
              obtain ⟨rg9, _⟩ := RowX.get HJ9.out.snd.snd
              obtain ⟨g9, o9, e9, hg9, hc9⟩ := rg9 j y hy
              injection e9 with e9
              injection e9 with e9a e9b
              subst e9a e9b
              obtain ⟨g8, o8, e8, hg8, hc8⟩ := rg9 k z HZ.out
              injection e8 with e8
              injection e8 with e8a e8b
              subst e8a e8b
              have y3 : w9.cell? ⟨ga, oa + j * 4 + 3, none⟩ = some (.int .i64 y.2.nd.time) := hc9 3 _ rfl
              have hne := HOT.out j y hjk hy
              obtain ⟨ty, hty⟩ : ∃ u, y.2.nd.time = u := ⟨_, rfl⟩
              rw [hty] at y3 hne
              have hneI : ((ty : Int) == (tm : Int)) = false := by simp; omega
              have hji : (j : Int) < (k : Int) := by omega
              have hjm : (j : Int) < (m : Int) := by omega
              clear hy rg9 hg9 hc9 hg8 hc8 hne hty
              go_wp2_with fail
              go_quiet (fail)
              go_wp2
              go_roundw
              case rel => first | exact ⟨j + 1, _, by go_num, by omega, rfl⟩ | exact ⟨_, _, _, _, _, _, _, _, _, _, _, _, _, _, _, _, ⟨j + 1, _, by go_num, by omega, rfl⟩, rfl⟩
              case measure => simp [intOf]; omega
            · obtain rfl : j = k := by omega
              have HJX := hide (show InvN (Two f r S S (sep noneN (RowX (some ⟨ga, oa, none⟩) P))) W.heap.size W (w9.drewN q) from HJ9.out.step (Two.fr f r S S HXR.out) (below_drewN (Below.refl _ _) q) (Nat.le_refl _))
              go_wp2
              go_roundw
              case rel => exact ⟨j + 1, by go_num, by omega, by rw [HST.out]; go_num, HJX.out⟩
              case measure => simp [intOf]; omega
        · obtain ⟨y, hy⟩ := hkp (by omega)
          have hbf := HBF.out y (by omega) hy
          obtain ⟨gp, op, ep, hgp, hcp⟩ := rg (k - 1) y hy
          injection ep with ep
          injection ep with epa epb
          subst epa epb
          have p0 : wm.cell? ⟨ga, oa + (k - 1) * 4, none⟩ = some (.string y.1) := by have := hcp 0 _ rfl; simpa using this
          obtain ⟨pk, hpk⟩ : ∃ u, y.1 = u := ⟨_, rfl⟩
          rw [hpk] at p0 hbf
          have hless : Op.bytesLess pk.toList (bs t).toList = true := hbf
          have hkpos : decide ((0 : Int) < (k : Int)) = true := by simp; omega
          have hkpos2 : decide (0 < k) = true := by simp; omega
          have hsub : (k : Int) - 1 = ((k - 1 : Nat) : Int) := by omega
          have hkm1 : ((k - 1 : Nat) : Int) < (m : Int) := by omega
          clear hy hgp hcp hpk hbf hk0
          have hf0 : decide ((S.clock : Int) < (tm : Int)) = false := by simp; omega
          have hf1 : decide (S.clock < tm) = false := by simp; omega
          have hf2 : decide ((tm : Int) < 1) = false := by simp; omega
          have hf3 : decide (tm < 1) = false := by simp; omega
          have hf4 : decide (tm = 0) = false := by simp; omega
          have hf5 : decide ((0 : Int) < (k : Int)) = true := hkpos
          have hf6 : decide (0 < k) = true := hkpos2
          have hf7 : Op.bytesLess pk.toList (bs t).toList = true := hless
          have hf8 : (k : Int) - 1 = ((k - 1 : Nat) : Int) := hsub
          have hf9 : IntKind.i64.wrap ((k : Int) - 1) = ((k - 1 : Nat) : Int) := by rw [hsub]; exact IntWalk.i64_in _ (by omega)
          have hf10 : IntKind.i64.wrap ((k - 1 : Nat) : Int) = ((k - 1 : Nat) : Int) := IntWalk.i64_in _ (by omega)
          have hf11 : (((k - 1 : Nat) : Int) < (m : Int)) = True := eq_true hkm1
          have hq := fun (Z : World) (hb : Below wm.heap.size wm Z) => show ((fun Z => Z.cell? ⟨ga, oa + k * 4, none⟩ = some (.string (bs t)) ∧ Z.cell? ⟨ga, oa + k * 4 + 1, none⟩ = some (.bool true) ∧ Z.cell? ⟨ga, oa + k * 4 + 2, none⟩ = some (.slice zA 0 zc) ∧ Z.cell? ⟨ga, oa + k * 4 + 3, none⟩ = some (.int .i64 tm) ∧ Z.cell? ⟨ga, oa + (k - 1) * 4, none⟩ = some (.string pk) ∧ decide ((S.clock : Int) < (tm : Int)) = false ∧ decide (S.clock < tm) = false ∧ decide ((tm : Int) < 1) = false ∧ decide (tm < 1) = false ∧ decide (tm = 0) = false ∧ decide ((0 : Int) < (k : Int)) = true ∧ decide (0 < k) = true ∧ Op.bytesLess pk.toList (bs t).toList = true ∧ (k : Int) - 1 = ((k - 1 : Nat) : Int) ∧ IntKind.i64.wrap ((k : Int) - 1) = ((k - 1 : Nat) : Int) ∧ IntKind.i64.wrap ((k - 1 : Nat) : Int) = ((k - 1 : Nat) : Int) ∧ (((k - 1 : Nat) : Int) < (m : Int)) = True)) Z from ⟨(hb.cell (p := ⟨ga, oa + k * 4, none⟩) HGA.out).trans q0, (hb.cell (p := ⟨ga, oa + k * 4 + 1, none⟩) HGA.out).trans q1, (hb.cell (p := ⟨ga, oa + k * 4 + 2, none⟩) HGA.out).trans q2, (hb.cell (p := ⟨ga, oa + k * 4 + 3, none⟩) HGA.out).trans q3, (hb.cell (p := ⟨ga, oa + (k - 1) * 4, none⟩) HGA.out).trans p0, hf0, hf1, hf2, hf3, hf4, hf5, hf6, hf7, hf8, hf9, hf10, hf11⟩
          have HQ := hide hq
          clear hq hf0 hf1 hf2 hf3 hf4 hf5 hf6 hf7 hf8 hf9 hf10 hf11
          go_wp2_with fail
          refine wp_region_held_drew (S := (fun Z => Z.cell? ⟨ga, oa + k * 4, none⟩ = some (.string (bs t)) ∧ Z.cell? ⟨ga, oa + k * 4 + 1, none⟩ = some (.bool true) ∧ Z.cell? ⟨ga, oa + k * 4 + 2, none⟩ = some (.slice zA 0 zc) ∧ Z.cell? ⟨ga, oa + k * 4 + 3, none⟩ = some (.int .i64 tm) ∧ Z.cell? ⟨ga, oa + (k - 1) * 4, none⟩ = some (.string pk) ∧ decide ((S.clock : Int) < (tm : Int)) = false ∧ decide (S.clock < tm) = false ∧ decide ((tm : Int) < 1) = false ∧ decide (tm < 1) = false ∧ decide (tm = 0) = false ∧ decide ((0 : Int) < (k : Int)) = true ∧ decide (0 < k) = true ∧ Op.bytesLess pk.toList (bs t).toList = true ∧ (k : Int) - 1 = ((k - 1 : Nat) : Int) ∧ IntKind.i64.wrap ((k : Int) - 1) = ((k - 1 : Nat) : Int) ∧ IntKind.i64.wrap ((k - 1 : Nat) : Int) = ((k - 1 : Nat) : Int) ∧ (((k - 1 : Nat) : Int) < (m : Int)) = True)) (by kernel_rfl) (HQ.out _ (Below.refl _ _).drew) (fun hHeld => ?_)
          refine wpAnyH_tk (i := 0) (oi := _) (v := ?vPt0) rfl rfl (by kernel_rfl) (by kernel_rfl) (by kernel_rfl) (fun _ _ _ h => h) (Or.inl ⟨by kernel_rfl, ?yPt0⟩) (by assumption) ?rPt0
          case yPt0 =>
            intro w hSw
            (try dsimp only at hSw)
            go_simp
            try with_reducible rfl
          try simp only [List.setIfInBounds_toArray, List.set_cons_zero, List.set_cons_succ]
          refine wpAnyH_tk (i := 1) (oi := _) (v := ?vPt1) rfl rfl (by kernel_rfl) (by kernel_rfl) (by kernel_rfl) (fun _ _ _ h => h) (Or.inl ⟨by kernel_rfl, ?yPt1⟩) (by assumption) ?rPt1
          case yPt1 =>
            intro w hSw
            (try dsimp only at hSw)
            go_simp
            try with_reducible rfl
          try simp only [List.setIfInBounds_toArray, List.set_cons_zero, List.set_cons_succ]
          refine wpAnyH_tk (i := 2) (oi := _) (v := ?vPt2) rfl rfl (by kernel_rfl) (by kernel_rfl) (by kernel_rfl) (fun _ _ _ h => h) (Or.inl ⟨by kernel_rfl, ?yPt2⟩) (by assumption) ?rPt2
          case yPt2 =>
            intro w hSw
            (try dsimp only at hSw)
            go_simp
            try with_reducible rfl
          try simp only [List.setIfInBounds_toArray, List.set_cons_zero, List.set_cons_succ]
          refine wpAnyH_tk (i := 3) (oi := _) (v := ?vPt3) rfl rfl (by kernel_rfl) (by kernel_rfl) (by kernel_rfl) (fun _ _ _ h => h) (Or.inl ⟨by kernel_rfl, ?yPt3⟩) (by assumption) ?rPt3
          case yPt3 =>
            intro w hSw
            (try dsimp only at hSw)
            go_simp
            try with_reducible rfl
          try simp only [List.setIfInBounds_toArray, List.set_cons_zero, List.set_cons_succ]
          refine wpAnyH_tk (i := 4) (oi := _) (v := ?vPt4) rfl rfl (by kernel_rfl) (by kernel_rfl) (by kernel_rfl) (fun _ _ _ h => h) (Or.inl ⟨by kernel_rfl, ?yPt4⟩) (by assumption) ?rPt4
          case yPt4 =>
            intro w hSw
            (try dsimp only at hSw)
            go_simp
            try with_reducible rfl
          try simp only [List.setIfInBounds_toArray, List.set_cons_zero, List.set_cons_succ]
          refine wpAnyH_tk (i := 5) (oi := _) (v := ?vPt5) rfl rfl (by kernel_rfl) (by kernel_rfl) (by kernel_rfl) (fun _ _ _ h => h) (Or.inl ⟨by kernel_rfl, ?yPt5⟩) (by assumption) ?rPt5
          case yPt5 =>
            intro w hSw
            (try dsimp only at hSw)
            go_simp
            try with_reducible rfl
          try simp only [List.setIfInBounds_toArray, List.set_cons_zero, List.set_cons_succ]
          refine wpAnyH_ready (rs := [6]) (by kernel_rfl) (by simp) ?_
          refine AllReadyH.cons (o := _) rfl (fun K hK => ?_) AllReadyH.nil
          rw [if_pos (by kernel_rfl)]
          go_simp
          refine (HRD.out _).mono ?_
          rintro e w8 ⟨rfl, hb8⟩
          have hb8w := below_up (Below.refl wm.heap.size wm).drew hb8 (Nat.le_refl _)
          have HB8 := hide hb8w
          have HJ8 := hide (show InvN (Two f r S S (sep noneN (RowX (some ⟨ga, oa, none⟩) P))) W.heap.size W w8 from HJ.out.step (Two.fr f r S S HXR.out) hb8w (Nat.le_refl _))
          clear hb8 hb8w
          refine hK.out _ _ (HQ.out _ HB8.out) (fun _ => ?_)
          clear hK K
          try simp only [Act.put, List.setIfInBounds_toArray, List.set_cons_zero, List.set_cons_succ]
          refine wpAnyH_ready (rs := [7]) (by kernel_rfl) (by simp) ?_
          refine AllReadyH.cons (o := _) rfl (fun K hK => ?_) AllReadyH.nil
          rw [if_pos (by kernel_rfl)]
          go_simp
          refine (HKK.out w8 HJ8.out).mono ?_
          rintro e w9 ⟨rfl, hb9⟩
          have HB9 := hide (below_up HB8.out hb9 HB8.out.size)
          have HJ9 := hide (show InvN (Two f r S S (sep noneN (RowX (some ⟨ga, oa, none⟩) P))) W.heap.size W w9 from HJ8.out.step (Two.fr f r S S HXR.out) hb9 (Nat.le_refl _))
          clear hb9
          refine hK.out _ _ (HQ.out _ HB9.out) (fun _ => ?_)
          clear hK K
          try simp only [Act.put, List.setIfInBounds_toArray, List.set_cons_zero, List.set_cons_succ]
          refine wpAnyH_tk (i := 8) (oi := _) (v := ?vPt8) rfl rfl (by kernel_rfl) (by kernel_rfl) (by kernel_rfl) (fun _ _ _ h => h) (Or.inl ⟨by kernel_rfl, ?yPt8⟩) (by assumption) ?rPt8
          case yPt8 =>
            intro w hSw
            (try dsimp only at hSw)
            go_simp
            try with_reducible rfl
          try simp only [List.setIfInBounds_toArray, List.set_cons_zero, List.set_cons_succ]
          refine wpAnyH_tk (i := 9) (oi := _) (v := ?vPt9) rfl rfl (by kernel_rfl) (by kernel_rfl) (by kernel_rfl) (fun _ _ _ h => h) (Or.inl ⟨by kernel_rfl, ?yPt9⟩) (by assumption) ?rPt9
          case yPt9 =>
            intro w hSw
            (try dsimp only at hSw)
            go_simp
            try with_reducible rfl
          try simp only [List.setIfInBounds_toArray, List.set_cons_zero, List.set_cons_succ]
          refine wpAnyH_tk (i := 10) (oi := _) (v := ?vPt10) rfl rfl (by kernel_rfl) (by kernel_rfl) (by kernel_rfl) (fun _ _ _ h => h) (Or.inl ⟨by kernel_rfl, ?yPt10⟩) (by assumption) ?rPt10
          case yPt10 =>
            intro w hSw
            (try dsimp only at hSw)
            go_simp
            try with_reducible rfl
          try simp only [List.setIfInBounds_toArray, List.set_cons_zero, List.set_cons_succ]
          refine wpAnyH_tk (i := 11) (oi := _) (v := ?vPt11) rfl rfl (by kernel_rfl) (by kernel_rfl) (by kernel_rfl) (fun _ _ _ h => h) (Or.inl ⟨by kernel_rfl, ?yPt11⟩) (by assumption) ?rPt11
          case yPt11 =>
            intro w hSw
            (try dsimp only at hSw)
            go_simp
            try with_reducible rfl
          try simp only [List.setIfInBounds_toArray, List.set_cons_zero, List.set_cons_succ]
          refine wpAnyH_tk (i := 12) (oi := _) (v := ?vPt12) rfl rfl (by kernel_rfl) (by kernel_rfl) (by kernel_rfl) (fun _ _ _ h => h) (Or.inl ⟨by kernel_rfl, ?yPt12⟩) (by assumption) ?rPt12
          case yPt12 =>
            intro w hSw
            (try dsimp only at hSw)
            go_simp
            try with_reducible rfl
          try simp only [List.setIfInBounds_toArray, List.set_cons_zero, List.set_cons_succ]
          refine wpAnyH_tk (i := 13) (oi := _) (v := ?vPt13) rfl rfl (by kernel_rfl) (by kernel_rfl) (by kernel_rfl) (fun _ _ _ h => h) (Or.inl ⟨by kernel_rfl, ?yPt13⟩) (by assumption) ?rPt13
          case yPt13 =>
            intro w hSw
            (try dsimp only at hSw)
            go_simp
            try with_reducible rfl
          try simp only [List.setIfInBounds_toArray, List.set_cons_zero, List.set_cons_succ]
          refine wpAnyH_tk (i := 14) (oi := _) (v := ?vPt14) rfl rfl (by kernel_rfl) (by kernel_rfl) (by kernel_rfl) (fun _ _ _ h => h) (Or.inl ⟨by kernel_rfl, ?yPt14⟩) (by assumption) ?rPt14
          case yPt14 =>
            intro w hSw
            (try dsimp only at hSw)
            go_simp
            try with_reducible rfl
          try simp only [List.setIfInBounds_toArray, List.set_cons_zero, List.set_cons_succ]
          refine wpAnyH_tk (i := 15) (oi := _) (v := ?vPt15) rfl rfl (by kernel_rfl) (by kernel_rfl) (by kernel_rfl) (fun _ _ _ h => h) (Or.inl ⟨by kernel_rfl, ?yPt15⟩) (by assumption) ?rPt15
          case yPt15 =>
            intro w hSw
            (try dsimp only at hSw)
            go_simp
            try with_reducible rfl
          try simp only [List.setIfInBounds_toArray, List.set_cons_zero, List.set_cons_succ]
          refine wpAnyH_ready (rs := [16]) (by kernel_rfl) (by simp) ?_
          refine AllReadyH.cons (o := _) rfl (fun K hK => ?_) AllReadyH.nil
          rw [if_pos (by kernel_rfl)]
          go_simp
          refine (HCL.out w9 (Two.vs HJ9.out)).mono ?_
          rintro e w' ⟨rfl, rfl⟩
          refine hK.out _ _ (HQ.out _ HB9.out) (fun _ => ?_)
          clear hK K
          try simp only [Act.put, List.setIfInBounds_toArray, List.set_cons_zero, List.set_cons_succ]
          refine wpAnyH_tk (i := 17) (oi := _) (v := ?vPt17) rfl rfl (by kernel_rfl) (by kernel_rfl) (by kernel_rfl) (fun _ _ _ h => h) (Or.inl ⟨by kernel_rfl, ?yPt17⟩) (by assumption) ?rPt17
          case yPt17 =>
            intro w hSw
            (try dsimp only at hSw)
            go_simp
            try with_reducible rfl
          try simp only [List.setIfInBounds_toArray, List.set_cons_zero, List.set_cons_succ]
          refine wpAnyH_tk (i := 18) (oi := _) (v := ?vPt18) rfl rfl (by kernel_rfl) (by kernel_rfl) (by kernel_rfl) (fun _ _ _ h => h) (Or.inl ⟨by kernel_rfl, ?yPt18⟩) (by assumption) ?rPt18
          case yPt18 =>
            intro w hSw
            (try dsimp only at hSw)
            go_simp
            try with_reducible rfl
          try simp only [List.setIfInBounds_toArray, List.set_cons_zero, List.set_cons_succ]
          refine wpAnyH_tk (i := 19) (oi := _) (v := ?vPt19) rfl rfl (by kernel_rfl) (by kernel_rfl) (by kernel_rfl) (fun _ _ _ h => h) (Or.inl ⟨by kernel_rfl, ?yPt19⟩) (by assumption) ?rPt19
          case yPt19 =>
            intro w hSw
            (try dsimp only at hSw)
            go_simp
            try with_reducible rfl
          try simp only [List.setIfInBounds_toArray, List.set_cons_zero, List.set_cons_succ]
          refine wpAnyH_tk (i := 20) (oi := _) (v := ?vPt20) rfl rfl (by kernel_rfl) (by kernel_rfl) (by kernel_rfl) (fun _ _ _ h => h) (Or.inl ⟨by kernel_rfl, ?yPt20⟩) (by assumption) ?rPt20
          case yPt20 =>
            intro w hSw
            (try dsimp only at hSw)
            go_simp
            try with_reducible rfl
          try simp only [List.setIfInBounds_toArray, List.set_cons_zero, List.set_cons_succ]
          refine wpAnyH_tk (i := 21) (oi := _) (v := ?vPt21) rfl rfl (by kernel_rfl) (by kernel_rfl) (by kernel_rfl) (fun _ _ _ h => h) (Or.inl ⟨by kernel_rfl, ?yPt21⟩) (by assumption) ?rPt21
          case yPt21 =>
            intro w hSw
            (try dsimp only at hSw)
            go_simp
            try with_reducible rfl
          try simp only [List.setIfInBounds_toArray, List.set_cons_zero, List.set_cons_succ]
          refine wpAnyH_tk (i := 22) (oi := _) (v := ?vPt22) rfl rfl (by kernel_rfl) (by kernel_rfl) (by kernel_rfl) (fun _ _ _ h => h) (Or.inl ⟨by kernel_rfl, ?yPt22⟩) (by assumption) ?rPt22
          case yPt22 =>
            intro w hSw
            (try dsimp only at hSw)
            go_simp
            try with_reducible rfl
          try simp only [List.setIfInBounds_toArray, List.set_cons_zero, List.set_cons_succ]
          refine wpAnyH_tk (i := 23) (oi := _) (v := ?vPt23) rfl rfl (by kernel_rfl) (by kernel_rfl) (by kernel_rfl) (fun _ _ _ h => h) (Or.inl ⟨by kernel_rfl, ?yPt23⟩) (by assumption) ?rPt23
          case yPt23 =>
            intro w hSw
            (try dsimp only at hSw)
            go_simp
            try with_reducible rfl
          try simp only [List.setIfInBounds_toArray, List.set_cons_zero, List.set_cons_succ]
          refine wpAnyH_tk (i := 24) (oi := _) (v := ?vPt24) rfl rfl (by kernel_rfl) (by kernel_rfl) (by kernel_rfl) (fun _ _ _ h => h) (Or.inl ⟨by kernel_rfl, ?yPt24⟩) (by assumption) ?rPt24
          case yPt24 =>
            intro w hSw
            (try dsimp only at hSw)
            go_simp
            try with_reducible rfl
          try simp only [List.setIfInBounds_toArray, List.set_cons_zero, List.set_cons_succ]
          refine wpAnyH_tk (i := 25) (oi := _) (v := ?vPt25) rfl rfl (by kernel_rfl) (by kernel_rfl) (by kernel_rfl) (fun _ _ _ h => h) (Or.inl ⟨by kernel_rfl, ?yPt25⟩) (by assumption) ?rPt25
          case yPt25 =>
            intro w hSw
            (try dsimp only at hSw)
            go_simp
            try with_reducible rfl
          try simp only [List.setIfInBounds_toArray, List.set_cons_zero, List.set_cons_succ]
          refine wpAnyH_tk (i := 26) (oi := _) (v := ?vPt26) rfl rfl (by kernel_rfl) (by kernel_rfl) (by kernel_rfl) (fun _ _ _ h => h) (Or.inl ⟨by kernel_rfl, ?yPt26⟩) (by assumption) ?rPt26
          case yPt26 =>
            intro w hSw
            (try dsimp only at hSw)
            go_simp
            try with_reducible rfl
          try simp only [List.setIfInBounds_toArray, List.set_cons_zero, List.set_cons_succ]
          refine wpAnyH_tk (i := 27) (oi := _) (v := ?vPt27) rfl rfl (by kernel_rfl) (by kernel_rfl) (by kernel_rfl) (fun _ _ _ h => h) (Or.inl ⟨by kernel_rfl, ?yPt27⟩) (by assumption) ?rPt27
          case yPt27 =>
            intro w hSw
            (try dsimp only at hSw)
            go_simp
            try with_reducible rfl
          try simp only [List.setIfInBounds_toArray, List.set_cons_zero, List.set_cons_succ]
          refine wpAnyH_tk (i := 28) (oi := _) (v := ?vPt28) rfl rfl (by kernel_rfl) (by kernel_rfl) (by kernel_rfl) (fun _ _ _ h => h) (Or.inl ⟨by kernel_rfl, ?yPt28⟩) (by assumption) ?rPt28
          case yPt28 =>
            intro w hSw
            (try dsimp only at hSw)
            go_simp
            try with_reducible rfl
          try simp only [List.setIfInBounds_toArray, List.set_cons_zero, List.set_cons_succ]
          refine wpAnyH_tk (i := 29) (oi := _) (v := ?vPt29) rfl rfl (by kernel_rfl) (by kernel_rfl) (by kernel_rfl) (fun _ _ _ h => h) (Or.inl ⟨by kernel_rfl, ?yPt29⟩) (by assumption) ?rPt29
          case yPt29 =>
            intro w hSw
            (try dsimp only at hSw)
            go_simp
            try with_reducible rfl
          try simp only [List.setIfInBounds_toArray, List.set_cons_zero, List.set_cons_succ]
          refine wpAnyH_tk (i := 30) (oi := _) (v := ?vPt30) rfl rfl (by kernel_rfl) (by kernel_rfl) (by kernel_rfl) (fun _ _ _ h => h) (Or.inl ⟨by kernel_rfl, ?yPt30⟩) (by assumption) ?rPt30
          case yPt30 =>
            intro w hSw
            (try dsimp only at hSw)
            go_simp
            try with_reducible rfl
          try simp only [List.setIfInBounds_toArray, List.set_cons_zero, List.set_cons_succ]
          refine wpAnyH_tk (i := 31) (oi := _) (v := ?vPt31) rfl rfl (by kernel_rfl) (by kernel_rfl) (by kernel_rfl) (fun _ _ _ h => h) (Or.inl ⟨by kernel_rfl, ?yPt31⟩) (by assumption) ?rPt31
          case yPt31 =>
            intro w hSw
            (try dsimp only at hSw)
            go_simp
            try with_reducible rfl
          try simp only [List.setIfInBounds_toArray, List.set_cons_zero, List.set_cons_succ]
          refine wpAnyH_tk (i := 32) (oi := _) (v := ?vPt32) rfl rfl (by kernel_rfl) (by kernel_rfl) (by kernel_rfl) (fun _ _ _ h => h) (Or.inl ⟨by kernel_rfl, ?yPt32⟩) (by assumption) ?rPt32
          case yPt32 =>
            intro w hSw
            (try dsimp only at hSw)
            go_simp
            try with_reducible rfl
          try simp only [List.setIfInBounds_toArray, List.set_cons_zero, List.set_cons_succ]
          refine wpAnyH_tk (i := 33) (oi := _) (v := ?vPt33) rfl rfl (by kernel_rfl) (by kernel_rfl) (by kernel_rfl) (fun _ _ _ h => h) (Or.inl ⟨by kernel_rfl, ?yPt33⟩) (by assumption) ?rPt33
          case yPt33 =>
            intro w hSw
            (try dsimp only at hSw)
            go_simp
            try with_reducible rfl
          try simp only [List.setIfInBounds_toArray, List.set_cons_zero, List.set_cons_succ]
          refine wpAnyH_tk (i := 34) (oi := _) (v := ?vPt34) rfl rfl (by kernel_rfl) (by kernel_rfl) (by kernel_rfl) (fun _ _ _ h => h) (Or.inl ⟨by kernel_rfl, ?yPt34⟩) (by assumption) ?rPt34
          case yPt34 =>
            intro w hSw
            (try dsimp only at hSw)
            go_simp
            try with_reducible rfl
          try simp only [List.setIfInBounds_toArray, List.set_cons_zero, List.set_cons_succ]
          refine wpAnyH_tk (i := 35) (oi := _) (v := ?vPt35) rfl rfl (by kernel_rfl) (by kernel_rfl) (by kernel_rfl) (fun _ _ _ h => h) (Or.inl ⟨by kernel_rfl, ?yPt35⟩) (by assumption) ?rPt35
          case yPt35 =>
            intro w hSw
            (try dsimp only at hSw)
            go_simp
            try with_reducible rfl
          try simp only [List.setIfInBounds_toArray, List.set_cons_zero, List.set_cons_succ]
          refine wpAnyH_tk (i := 36) (oi := _) (v := ?vPt36) rfl rfl (by kernel_rfl) (by kernel_rfl) (by kernel_rfl) (fun _ _ _ h => h) (Or.inl ⟨by kernel_rfl, ?yPt36⟩) (by assumption) ?rPt36
          case yPt36 =>
            intro w hSw
            (try dsimp only at hSw)
            go_simp
            try with_reducible rfl
          try simp only [List.setIfInBounds_toArray, List.set_cons_zero, List.set_cons_succ]
          refine wpAnyH_tk (i := 37) (oi := _) (v := ?vPt37) rfl rfl (by kernel_rfl) (by kernel_rfl) (by kernel_rfl) (fun _ _ _ h => h) (Or.inl ⟨by kernel_rfl, ?yPt37⟩) (by assumption) ?rPt37
          case yPt37 =>
            intro w hSw
            (try dsimp only at hSw)
            go_simp
            try with_reducible rfl
          try simp only [List.setIfInBounds_toArray, List.set_cons_zero, List.set_cons_succ]
          refine wpAnyH_tk (i := 38) (oi := _) (v := ?vPt38) rfl rfl (by kernel_rfl) (by kernel_rfl) (by kernel_rfl) (fun _ _ _ h => h) (Or.inl ⟨by kernel_rfl, ?yPt38⟩) (by assumption) ?rPt38
          case yPt38 =>
            intro w hSw
            (try dsimp only at hSw)
            go_simp
            try with_reducible rfl
          try simp only [List.setIfInBounds_toArray, List.set_cons_zero, List.set_cons_succ]
          refine wpAnyH_tk (i := 39) (oi := _) (v := ?vPt39) rfl rfl (by kernel_rfl) (by kernel_rfl) (by kernel_rfl) (fun _ _ _ h => h) (Or.inl ⟨by kernel_rfl, ?yPt39⟩) (by assumption) ?rPt39
          case yPt39 =>
            intro w hSw
            (try dsimp only at hSw)
            go_simp
            try with_reducible rfl
          try simp only [List.setIfInBounds_toArray, List.set_cons_zero, List.set_cons_succ]
          refine wpAnyH_tk (i := 40) (oi := _) (v := ?vPt40) rfl rfl (by kernel_rfl) (by kernel_rfl) (by kernel_rfl) (fun _ _ _ h => h) (Or.inl ⟨by kernel_rfl, ?yPt40⟩) (by assumption) ?rPt40
          case yPt40 =>
            intro w hSw
            (try dsimp only at hSw)
            go_simp
            try with_reducible rfl
          try simp only [List.setIfInBounds_toArray, List.set_cons_zero, List.set_cons_succ]
          refine wpAnyH_tk (i := 41) (oi := _) (v := ?vPt41) rfl rfl (by kernel_rfl) (by kernel_rfl) (by kernel_rfl) (fun _ _ _ h => h) (Or.inl ⟨by kernel_rfl, ?yPt41⟩) (by assumption) ?rPt41
          case yPt41 =>
            intro w hSw
            (try dsimp only at hSw)
            go_simp
            try with_reducible rfl
          try simp only [List.setIfInBounds_toArray, List.set_cons_zero, List.set_cons_succ]
          refine wpAnyH_tk (i := 42) (oi := _) (v := ?vPt42) rfl rfl (by kernel_rfl) (by kernel_rfl) (by kernel_rfl) (fun _ _ _ h => h) (Or.inl ⟨by kernel_rfl, ?yPt42⟩) (by assumption) ?rPt42
          case yPt42 =>
            intro w hSw
            (try dsimp only at hSw)
            go_simp
            try with_reducible rfl
          try simp only [List.setIfInBounds_toArray, List.set_cons_zero, List.set_cons_succ]
          refine wpAnyH_tk (i := 43) (oi := _) (v := ?vPt43) rfl rfl (by kernel_rfl) (by kernel_rfl) (by kernel_rfl) (fun _ _ _ h => h) (Or.inl ⟨by kernel_rfl, ?yPt43⟩) (by assumption) ?rPt43
          case yPt43 =>
            intro w hSw
            (try dsimp only at hSw)
            go_simp
            try with_reducible rfl
          try simp only [List.setIfInBounds_toArray, List.set_cons_zero, List.set_cons_succ]
          refine wpAnyH_tk (i := 44) (oi := _) (v := ?vPt44) rfl rfl (by kernel_rfl) (by kernel_rfl) (by kernel_rfl) (fun _ _ _ h => h) (Or.inl ⟨by kernel_rfl, ?yPt44⟩) (by assumption) ?rPt44
          case yPt44 =>
            intro w hSw
            (try dsimp only at hSw)
            go_simp
            try with_reducible rfl
          try simp only [List.setIfInBounds_toArray, List.set_cons_zero, List.set_cons_succ]
          refine wpAnyH_tk (i := 45) (oi := _) (v := ?vPt45) rfl rfl (by kernel_rfl) (by kernel_rfl) (by kernel_rfl) (fun _ _ _ h => h) (Or.inl ⟨by kernel_rfl, ?yPt45⟩) (by assumption) ?rPt45
          case yPt45 =>
            intro w hSw
            (try dsimp only at hSw)
            go_simp
            try with_reducible rfl
          try simp only [List.setIfInBounds_toArray, List.set_cons_zero, List.set_cons_succ]
          refine wpAnyH_tk (i := 46) (oi := _) (v := ?vPt46) rfl rfl (by kernel_rfl) (by kernel_rfl) (by kernel_rfl) (fun _ _ _ h => h) (Or.inl ⟨by kernel_rfl, ?yPt46⟩) (by assumption) ?rPt46
          case yPt46 =>
            intro w hSw
            (try dsimp only at hSw)
            go_simp
            try with_reducible rfl
          try simp only [List.setIfInBounds_toArray, List.set_cons_zero, List.set_cons_succ]
          refine wpAnyH_tk (i := 47) (oi := _) (v := ?vPt47) rfl rfl (by kernel_rfl) (by kernel_rfl) (by kernel_rfl) (fun _ _ _ h => h) (Or.inl ⟨by kernel_rfl, ?yPt47⟩) (by assumption) ?rPt47
          case yPt47 =>
            intro w hSw
            (try dsimp only at hSw)
            go_simp
            try with_reducible rfl
          try simp only [List.setIfInBounds_toArray, List.set_cons_zero, List.set_cons_succ]
          refine wpAnyH_tk (i := 48) (oi := _) (v := ?vPt48) rfl rfl (by kernel_rfl) (by kernel_rfl) (by kernel_rfl) (fun _ _ _ h => h) (Or.inl ⟨by kernel_rfl, ?yPt48⟩) (by assumption) ?rPt48
          case yPt48 =>
            intro w hSw
            (try dsimp only at hSw)
            go_simp
            try with_reducible rfl
          try simp only [List.setIfInBounds_toArray, List.set_cons_zero, List.set_cons_succ]
          refine wpAnyH_tk (i := 49) (oi := _) (v := ?vPt49) rfl rfl (by kernel_rfl) (by kernel_rfl) (by kernel_rfl) (fun _ _ _ h => h) (Or.inl ⟨by kernel_rfl, ?yPt49⟩) (by assumption) ?rPt49
          case yPt49 =>
            intro w hSw
            (try dsimp only at hSw)
            go_simp
            try with_reducible rfl
          try simp only [List.setIfInBounds_toArray, List.set_cons_zero, List.set_cons_succ]
          refine wpAnyH_tk (i := 50) (oi := _) (v := ?vPt50) rfl rfl (by kernel_rfl) (by kernel_rfl) (by kernel_rfl) (fun _ _ _ h => h) (Or.inl ⟨by kernel_rfl, ?yPt50⟩) (by assumption) ?rPt50
          case yPt50 =>
            intro w hSw
            (try dsimp only at hSw)
            go_simp
            try with_reducible rfl
          try simp only [List.setIfInBounds_toArray, List.set_cons_zero, List.set_cons_succ]
          refine wpAnyH_tk (i := 51) (oi := _) (v := ?vPt51) rfl rfl (by kernel_rfl) (by kernel_rfl) (by kernel_rfl) (fun _ _ _ h => h) (Or.inl ⟨by kernel_rfl, ?yPt51⟩) (by assumption) ?rPt51
          case yPt51 =>
            intro w hSw
            (try dsimp only at hSw)
            go_simp
            try with_reducible rfl
          try simp only [List.setIfInBounds_toArray, List.set_cons_zero, List.set_cons_succ]
          refine wpAnyH_tk (i := 52) (oi := _) (v := ?vPt52) rfl rfl (by kernel_rfl) (by kernel_rfl) (by kernel_rfl) (fun _ _ _ h => h) (Or.inl ⟨by kernel_rfl, ?yPt52⟩) (by assumption) ?rPt52
          case yPt52 =>
            intro w hSw
            (try dsimp only at hSw)
            go_simp
            try with_reducible rfl
          try simp only [List.setIfInBounds_toArray, List.set_cons_zero, List.set_cons_succ]
          refine wpAnyH_tk (i := 53) (oi := _) (v := ?vPt53) rfl rfl (by kernel_rfl) (by kernel_rfl) (by kernel_rfl) (fun _ _ _ h => h) (Or.inl ⟨by kernel_rfl, ?yPt53⟩) (by assumption) ?rPt53
          case yPt53 =>
            intro w hSw
            (try dsimp only at hSw)
            go_simp
            try with_reducible rfl
          try simp only [List.setIfInBounds_toArray, List.set_cons_zero, List.set_cons_succ]
          refine wpAnyH_tk (i := 54) (oi := _) (v := ?vPt54) rfl rfl (by kernel_rfl) (by kernel_rfl) (by kernel_rfl) (fun _ _ _ h => h) (Or.inl ⟨by kernel_rfl, ?yPt54⟩) (by assumption) ?rPt54
          case yPt54 =>
            intro w hSw
            (try dsimp only at hSw)
            go_simp
            try with_reducible rfl
          try simp only [List.setIfInBounds_toArray, List.set_cons_zero, List.set_cons_succ]
          refine wpAnyH_tk (i := 55) (oi := _) (v := ?vPt55) rfl rfl (by kernel_rfl) (by kernel_rfl) (by kernel_rfl) (fun _ _ _ h => h) (Or.inl ⟨by kernel_rfl, ?yPt55⟩) (by assumption) ?rPt55
          case yPt55 =>
            intro w hSw
            (try dsimp only at hSw)
            go_simp
            try with_reducible rfl
          try simp only [List.setIfInBounds_toArray, List.set_cons_zero, List.set_cons_succ]
          refine wpAnyH_tk (i := 56) (oi := _) (v := ?vPt56) rfl rfl (by kernel_rfl) (by kernel_rfl) (by kernel_rfl) (fun _ _ _ h => h) (Or.inl ⟨by kernel_rfl, ?yPt56⟩) (by assumption) ?rPt56
          case yPt56 =>
            intro w hSw
            (try dsimp only at hSw)
            go_simp
            try with_reducible rfl
          try simp only [List.setIfInBounds_toArray, List.set_cons_zero, List.set_cons_succ]
          refine wpAnyH_tk (i := 57) (oi := _) (v := ?vPt57) rfl rfl (by kernel_rfl) (by kernel_rfl) (by kernel_rfl) (fun _ _ _ h => h) (Or.inl ⟨by kernel_rfl, ?yPt57⟩) (by assumption) ?rPt57
          case yPt57 =>
            intro w hSw
            (try dsimp only at hSw)
            go_simp
            try with_reducible rfl
          try simp only [List.setIfInBounds_toArray, List.set_cons_zero, List.set_cons_succ]
          refine wpAnyH_tk (i := 58) (oi := _) (v := ?vPt58) rfl rfl (by kernel_rfl) (by kernel_rfl) (by kernel_rfl) (fun _ _ _ h => h) (Or.inl ⟨by kernel_rfl, ?yPt58⟩) (by assumption) ?rPt58
          case yPt58 =>
            intro w hSw
            (try dsimp only at hSw)
            go_simp
            try with_reducible rfl
          try simp only [List.setIfInBounds_toArray, List.set_cons_zero, List.set_cons_succ]
          refine wpAnyH_tk (i := 59) (oi := _) (v := ?vPt59) rfl rfl (by kernel_rfl) (by kernel_rfl) (by kernel_rfl) (fun _ _ _ h => h) (Or.inl ⟨by kernel_rfl, ?yPt59⟩) (by assumption) ?rPt59
          case yPt59 =>
            intro w hSw
            (try dsimp only at hSw)
            go_simp
            try with_reducible rfl
          try simp only [List.setIfInBounds_toArray, List.set_cons_zero, List.set_cons_succ]
          refine wpAnyH_tk (i := 60) (oi := _) (v := ?vPt60) rfl rfl (by kernel_rfl) (by kernel_rfl) (by kernel_rfl) (fun _ _ _ h => h) (Or.inl ⟨by kernel_rfl, ?yPt60⟩) (by assumption) ?rPt60
          case yPt60 =>
            intro w hSw
            (try dsimp only at hSw)
            go_simp
            try with_reducible rfl
          try simp only [List.setIfInBounds_toArray, List.set_cons_zero, List.set_cons_succ]
          refine wpAnyH_done (by kernel_rfl) ?_ _
          go_wp2
          go_loopw [6, 16] (fun _ v16 wr => ∃ (j q : Nat), v16 = .int .i64 j ∧ j ≤ k ∧ wr = w9.drewN q) (fun _ v16 _ => k - (intOf v16).toNat)
          case atStart => exact ⟨0, 0, rfl, Nat.zero_le _, rfl⟩
          case round =>
            obtain ⟨j, q, rfl, hj, rfl⟩ := hrel
            by_cases hjk : j < k
            · obtain ⟨y, hy⟩ : ∃ y, P[j]? = some y := ⟨P[j]'(by have := HMM.out; omega), List.getElem?_eq_getElem _⟩
              obtain ⟨rg9, _⟩ := RowX.get HJ9.out.snd.snd
              obtain ⟨g9, o9, e9, hg9, hc9⟩ := rg9 j y hy
              injection e9 with e9
              injection e9 with e9a e9b
              subst e9a e9b
              obtain ⟨g8, o8, e8, hg8, hc8⟩ := rg9 k z HZ.out
              injection e8 with e8
              injection e8 with e8a e8b
              subst e8a e8b
              have y3 : w9.cell? ⟨ga, oa + j * 4 + 3, none⟩ = some (.int .i64 y.2.nd.time) := hc9 3 _ rfl
              have hne := HOT.out j y hjk hy
              obtain ⟨ty, hty⟩ : ∃ u, y.2.nd.time = u := ⟨_, rfl⟩
              rw [hty] at y3 hne
              have hneI : ((ty : Int) == (tm : Int)) = false := by simp; omega
              have hji : (j : Int) < (k : Int) := by omega
              have hjm : (j : Int) < (m : Int) := by omega
              clear hy rg9 hg9 hc9 hg8 hc8 hne hty
              go_wp2_with fail
              go_quiet (fail)
              go_wp2
              go_roundw
              case rel => first | exact ⟨j + 1, _, by go_num, by omega, rfl⟩ | exact ⟨_, _, _, _, _, _, _, _, _, _, _, _, _, _, _, _, ⟨j + 1, _, by go_num, by omega, rfl⟩, rfl⟩
              case measure => simp [intOf]; omega
            · obtain rfl : j = k := by omega
              have HJX := hide (show InvN (Two f r S S (sep noneN (RowX (some ⟨ga, oa, none⟩) P))) W.heap.size W (w9.drewN q) from HJ9.out.step (Two.fr f r S S HXR.out) (below_drewN (Below.refl _ _) q) (Nat.le_refl _))
              go_wp2
              go_roundw
              case rel => exact ⟨j + 1, by go_num, by omega, by rw [HST.out]; go_num, HJX.out⟩
              case measure => simp [intOf]; omega
      | false =>
        rw [hdr] at q1
        clear hdirD hdr
        by_cases hk0 : k = 0
        · have gk : decide ((0 : Int) < (k : Int)) = false := by simp; omega
          have gk2 : decide (0 < k) = false := by simp; omega
          clear hk0
          have hf0 : decide ((S.clock : Int) < (tm : Int)) = false := by simp; omega
          have hf1 : decide (S.clock < tm) = false := by simp; omega
          have hf2 : decide ((tm : Int) < 1) = false := by simp; omega
          have hf3 : decide (tm < 1) = false := by simp; omega
          have hf4 : decide (tm = 0) = false := by simp; omega
          have hf5 : decide ((0 : Int) < (k : Int)) = false := gk
          have hf6 : decide (0 < k) = false := gk2
          have hq := fun (Z : World) (hb : Below wm.heap.size wm Z) => show ((fun Z => Z.cell? ⟨ga, oa + k * 4, none⟩ = some (.string (bs t)) ∧ Z.cell? ⟨ga, oa + k * 4 + 1, none⟩ = some (.bool false) ∧ Z.cell? ⟨ga, oa + k * 4 + 2, none⟩ = some (.slice zA D zc) ∧ Z.cell? ⟨ga, oa + k * 4 + 3, none⟩ = some (.int .i64 tm) ∧ decide ((S.clock : Int) < (tm : Int)) = false ∧ decide (S.clock < tm) = false ∧ decide ((tm : Int) < 1) = false ∧ decide (tm < 1) = false ∧ decide (tm = 0) = false ∧ decide ((0 : Int) < (k : Int)) = false ∧ decide (0 < k) = false)) Z from ⟨(hb.cell (p := ⟨ga, oa + k * 4, none⟩) HGA.out).trans q0, (hb.cell (p := ⟨ga, oa + k * 4 + 1, none⟩) HGA.out).trans q1, (hb.cell (p := ⟨ga, oa + k * 4 + 2, none⟩) HGA.out).trans q2, (hb.cell (p := ⟨ga, oa + k * 4 + 3, none⟩) HGA.out).trans q3, hf0, hf1, hf2, hf3, hf4, hf5, hf6⟩
          have HQ := hide hq
          clear hq hf0 hf1 hf2 hf3 hf4 hf5 hf6
          go_wp2_with fail
          refine wp_region_held_drew (S := (fun Z => Z.cell? ⟨ga, oa + k * 4, none⟩ = some (.string (bs t)) ∧ Z.cell? ⟨ga, oa + k * 4 + 1, none⟩ = some (.bool false) ∧ Z.cell? ⟨ga, oa + k * 4 + 2, none⟩ = some (.slice zA D zc) ∧ Z.cell? ⟨ga, oa + k * 4 + 3, none⟩ = some (.int .i64 tm) ∧ decide ((S.clock : Int) < (tm : Int)) = false ∧ decide (S.clock < tm) = false ∧ decide ((tm : Int) < 1) = false ∧ decide (tm < 1) = false ∧ decide (tm = 0) = false ∧ decide ((0 : Int) < (k : Int)) = false ∧ decide (0 < k) = false)) (by kernel_rfl) (HQ.out _ (Below.refl _ _).drew) (fun hHeld => ?_)
          refine wpAnyH_tk (i := 0) (oi := _) (v := ?vZf0) rfl rfl (by kernel_rfl) (by kernel_rfl) (by kernel_rfl) (fun _ _ _ h => h) (Or.inl ⟨by kernel_rfl, ?yZf0⟩) (by assumption) ?rZf0
          case yZf0 =>
            intro w hSw
            (try dsimp only at hSw)
            go_simp
            try with_reducible rfl
          try simp only [List.setIfInBounds_toArray, List.set_cons_zero, List.set_cons_succ]
          refine wpAnyH_tk (i := 1) (oi := _) (v := ?vZf1) rfl rfl (by kernel_rfl) (by kernel_rfl) (by kernel_rfl) (fun _ _ _ h => h) (Or.inl ⟨by kernel_rfl, ?yZf1⟩) (by assumption) ?rZf1
          case yZf1 =>
            intro w hSw
            (try dsimp only at hSw)
            go_simp
            try with_reducible rfl
          try simp only [List.setIfInBounds_toArray, List.set_cons_zero, List.set_cons_succ]
          refine wpAnyH_tk (i := 2) (oi := _) (v := ?vZf2) rfl rfl (by kernel_rfl) (by kernel_rfl) (by kernel_rfl) (fun _ _ _ h => h) (Or.inl ⟨by kernel_rfl, ?yZf2⟩) (by assumption) ?rZf2
          case yZf2 =>
            intro w hSw
            (try dsimp only at hSw)
            go_simp
            try with_reducible rfl
          try simp only [List.setIfInBounds_toArray, List.set_cons_zero, List.set_cons_succ]
          refine wpAnyH_tk (i := 3) (oi := _) (v := ?vZf3) rfl rfl (by kernel_rfl) (by kernel_rfl) (by kernel_rfl) (fun _ _ _ h => h) (Or.inl ⟨by kernel_rfl, ?yZf3⟩) (by assumption) ?rZf3
          case yZf3 =>
            intro w hSw
            (try dsimp only at hSw)
            go_simp
            try with_reducible rfl
          try simp only [List.setIfInBounds_toArray, List.set_cons_zero, List.set_cons_succ]
          refine wpAnyH_tk (i := 4) (oi := _) (v := ?vZf4) rfl rfl (by kernel_rfl) (by kernel_rfl) (by kernel_rfl) (fun _ _ _ h => h) (Or.inl ⟨by kernel_rfl, ?yZf4⟩) (by assumption) ?rZf4
          case yZf4 =>
            intro w hSw
            (try dsimp only at hSw)
            go_simp
            try with_reducible rfl
          try simp only [List.setIfInBounds_toArray, List.set_cons_zero, List.set_cons_succ]
          refine wpAnyH_tk (i := 5) (oi := _) (v := ?vZf5) rfl rfl (by kernel_rfl) (by kernel_rfl) (by kernel_rfl) (fun _ _ _ h => h) (Or.inl ⟨by kernel_rfl, ?yZf5⟩) (by assumption) ?rZf5
          case yZf5 =>
            intro w hSw
            (try dsimp only at hSw)
            go_simp
            try with_reducible rfl
          try simp only [List.setIfInBounds_toArray, List.set_cons_zero, List.set_cons_succ]
          refine wpAnyH_ready (rs := [6]) (by kernel_rfl) (by simp) ?_
          refine AllReadyH.cons (o := _) rfl (fun K hK => ?_) AllReadyH.nil
          rw [if_pos (by kernel_rfl)]
          go_simp
          refine (HRD.out _).mono ?_
          rintro e w8 ⟨rfl, hb8⟩
          have hb8w := below_up (Below.refl wm.heap.size wm).drew hb8 (Nat.le_refl _)
          have HB8 := hide hb8w
          have HJ8 := hide (show InvN (Two f r S S (sep noneN (RowX (some ⟨ga, oa, none⟩) P))) W.heap.size W w8 from HJ.out.step (Two.fr f r S S HXR.out) hb8w (Nat.le_refl _))
          clear hb8 hb8w
          refine hK.out _ _ (HQ.out _ HB8.out) (fun _ => ?_)
          clear hK K
          try simp only [Act.put, List.setIfInBounds_toArray, List.set_cons_zero, List.set_cons_succ]
          refine wpAnyH_ready (rs := [7]) (by kernel_rfl) (by simp) ?_
          refine AllReadyH.cons (o := _) rfl (fun K hK => ?_) AllReadyH.nil
          rw [if_pos (by kernel_rfl)]
          go_simp
          refine (HKK.out w8 HJ8.out).mono ?_
          rintro e w9 ⟨rfl, hb9⟩
          have HB9 := hide (below_up HB8.out hb9 HB8.out.size)
          have HJ9 := hide (show InvN (Two f r S S (sep noneN (RowX (some ⟨ga, oa, none⟩) P))) W.heap.size W w9 from HJ8.out.step (Two.fr f r S S HXR.out) hb9 (Nat.le_refl _))
          clear hb9
          refine hK.out _ _ (HQ.out _ HB9.out) (fun _ => ?_)
          clear hK K
          try simp only [Act.put, List.setIfInBounds_toArray, List.set_cons_zero, List.set_cons_succ]
          refine wpAnyH_tk (i := 8) (oi := _) (v := ?vZf8) rfl rfl (by kernel_rfl) (by kernel_rfl) (by kernel_rfl) (fun _ _ _ h => h) (Or.inl ⟨by kernel_rfl, ?yZf8⟩) (by assumption) ?rZf8
          case yZf8 =>
            intro w hSw
            (try dsimp only at hSw)
            go_simp
            try with_reducible rfl
          try simp only [List.setIfInBounds_toArray, List.set_cons_zero, List.set_cons_succ]
          refine wpAnyH_tk (i := 9) (oi := _) (v := ?vZf9) rfl rfl (by kernel_rfl) (by kernel_rfl) (by kernel_rfl) (fun _ _ _ h => h) (Or.inl ⟨by kernel_rfl, ?yZf9⟩) (by assumption) ?rZf9
          case yZf9 =>
            intro w hSw
            (try dsimp only at hSw)
            go_simp
            try with_reducible rfl
          try simp only [List.setIfInBounds_toArray, List.set_cons_zero, List.set_cons_succ]
          refine wpAnyH_tk (i := 10) (oi := _) (v := ?vZf10) rfl rfl (by kernel_rfl) (by kernel_rfl) (by kernel_rfl) (fun _ _ _ h => h) (Or.inl ⟨by kernel_rfl, ?yZf10⟩) (by assumption) ?rZf10
          case yZf10 =>
            intro w hSw
            (try dsimp only at hSw)
            go_simp
            try with_reducible rfl
          try simp only [List.setIfInBounds_toArray, List.set_cons_zero, List.set_cons_succ]
          refine wpAnyH_tk (i := 11) (oi := _) (v := ?vZf11) rfl rfl (by kernel_rfl) (by kernel_rfl) (by kernel_rfl) (fun _ _ _ h => h) (Or.inl ⟨by kernel_rfl, ?yZf11⟩) (by assumption) ?rZf11
          case yZf11 =>
            intro w hSw
            (try dsimp only at hSw)
            go_simp
            try with_reducible rfl
          try simp only [List.setIfInBounds_toArray, List.set_cons_zero, List.set_cons_succ]
          refine wpAnyH_tk (i := 12) (oi := _) (v := ?vZf12) rfl rfl (by kernel_rfl) (by kernel_rfl) (by kernel_rfl) (fun _ _ _ h => h) (Or.inl ⟨by kernel_rfl, ?yZf12⟩) (by assumption) ?rZf12
          case yZf12 =>
            intro w hSw
            (try dsimp only at hSw)
            go_simp
            try with_reducible rfl
          try simp only [List.setIfInBounds_toArray, List.set_cons_zero, List.set_cons_succ]
          refine wpAnyH_tk (i := 13) (oi := _) (v := ?vZf13) rfl rfl (by kernel_rfl) (by kernel_rfl) (by kernel_rfl) (fun _ _ _ h => h) (Or.inl ⟨by kernel_rfl, ?yZf13⟩) (by assumption) ?rZf13
          case yZf13 =>
            intro w hSw
            (try dsimp only at hSw)
            go_simp
            try with_reducible rfl
          try simp only [List.setIfInBounds_toArray, List.set_cons_zero, List.set_cons_succ]
          refine wpAnyH_tk (i := 14) (oi := _) (v := ?vZf14) rfl rfl (by kernel_rfl) (by kernel_rfl) (by kernel_rfl) (fun _ _ _ h => h) (Or.inl ⟨by kernel_rfl, ?yZf14⟩) (by assumption) ?rZf14
          case yZf14 =>
            intro w hSw
            (try dsimp only at hSw)
            go_simp
            try with_reducible rfl
          try simp only [List.setIfInBounds_toArray, List.set_cons_zero, List.set_cons_succ]
          refine wpAnyH_tk (i := 15) (oi := _) (v := ?vZf15) rfl rfl (by kernel_rfl) (by kernel_rfl) (by kernel_rfl) (fun _ _ _ h => h) (Or.inl ⟨by kernel_rfl, ?yZf15⟩) (by assumption) ?rZf15
          case yZf15 =>
            intro w hSw
            (try dsimp only at hSw)
            go_simp
            try with_reducible rfl
          try simp only [List.setIfInBounds_toArray, List.set_cons_zero, List.set_cons_succ]
          refine wpAnyH_ready (rs := [16]) (by kernel_rfl) (by simp) ?_
          refine AllReadyH.cons (o := _) rfl (fun K hK => ?_) AllReadyH.nil
          rw [if_pos (by kernel_rfl)]
          go_simp
          refine (HCL.out w9 (Two.vs HJ9.out)).mono ?_
          rintro e w' ⟨rfl, rfl⟩
          refine hK.out _ _ (HQ.out _ HB9.out) (fun _ => ?_)
          clear hK K
          try simp only [Act.put, List.setIfInBounds_toArray, List.set_cons_zero, List.set_cons_succ]
          refine wpAnyH_tk (i := 17) (oi := _) (v := ?vZf17) rfl rfl (by kernel_rfl) (by kernel_rfl) (by kernel_rfl) (fun _ _ _ h => h) (Or.inl ⟨by kernel_rfl, ?yZf17⟩) (by assumption) ?rZf17
          case yZf17 =>
            intro w hSw
            (try dsimp only at hSw)
            go_simp
            try with_reducible rfl
          try simp only [List.setIfInBounds_toArray, List.set_cons_zero, List.set_cons_succ]
          refine wpAnyH_tk (i := 18) (oi := _) (v := ?vZf18) rfl rfl (by kernel_rfl) (by kernel_rfl) (by kernel_rfl) (fun _ _ _ h => h) (Or.inl ⟨by kernel_rfl, ?yZf18⟩) (by assumption) ?rZf18
          case yZf18 =>
            intro w hSw
            (try dsimp only at hSw)
            go_simp
            try with_reducible rfl
          try simp only [List.setIfInBounds_toArray, List.set_cons_zero, List.set_cons_succ]
          refine wpAnyH_tk (i := 19) (oi := _) (v := ?vZf19) rfl rfl (by kernel_rfl) (by kernel_rfl) (by kernel_rfl) (fun _ _ _ h => h) (Or.inl ⟨by kernel_rfl, ?yZf19⟩) (by assumption) ?rZf19
          case yZf19 =>
            intro w hSw
            (try dsimp only at hSw)
            go_simp
            try with_reducible rfl
          try simp only [List.setIfInBounds_toArray, List.set_cons_zero, List.set_cons_succ]
          refine wpAnyH_tk (i := 20) (oi := _) (v := ?vZf20) rfl rfl (by kernel_rfl) (by kernel_rfl) (by kernel_rfl) (fun _ _ _ h => h) (Or.inl ⟨by kernel_rfl, ?yZf20⟩) (by assumption) ?rZf20
          case yZf20 =>
            intro w hSw
            (try dsimp only at hSw)
            go_simp
            try with_reducible rfl
          try simp only [List.setIfInBounds_toArray, List.set_cons_zero, List.set_cons_succ]
          refine wpAnyH_tk (i := 21) (oi := _) (v := ?vZf21) rfl rfl (by kernel_rfl) (by kernel_rfl) (by kernel_rfl) (fun _ _ _ h => h) (Or.inl ⟨by kernel_rfl, ?yZf21⟩) (by assumption) ?rZf21
          case yZf21 =>
            intro w hSw
            (try dsimp only at hSw)
            go_simp
            try with_reducible rfl
          try simp only [List.setIfInBounds_toArray, List.set_cons_zero, List.set_cons_succ]
          refine wpAnyH_tk (i := 22) (oi := _) (v := ?vZf22) rfl rfl (by kernel_rfl) (by kernel_rfl) (by kernel_rfl) (fun _ _ _ h => h) (Or.inl ⟨by kernel_rfl, ?yZf22⟩) (by assumption) ?rZf22
          case yZf22 =>
            intro w hSw
            (try dsimp only at hSw)
            go_simp
            try with_reducible rfl
          try simp only [List.setIfInBounds_toArray, List.set_cons_zero, List.set_cons_succ]
          refine wpAnyH_tk (i := 23) (oi := _) (v := ?vZf23) rfl rfl (by kernel_rfl) (by kernel_rfl) (by kernel_rfl) (fun _ _ _ h => h) (Or.inl ⟨by kernel_rfl, ?yZf23⟩) (by assumption) ?rZf23
          case yZf23 =>
            intro w hSw
            (try dsimp only at hSw)
            go_simp
            try with_reducible rfl
          try simp only [List.setIfInBounds_toArray, List.set_cons_zero, List.set_cons_succ]
          refine wpAnyH_tk (i := 24) (oi := _) (v := ?vZf24) rfl rfl (by kernel_rfl) (by kernel_rfl) (by kernel_rfl) (fun _ _ _ h => h) (Or.inl ⟨by kernel_rfl, ?yZf24⟩) (by assumption) ?rZf24
          case yZf24 =>
            intro w hSw
            (try dsimp only at hSw)
            go_simp
            try with_reducible rfl
          try simp only [List.setIfInBounds_toArray, List.set_cons_zero, List.set_cons_succ]
          refine wpAnyH_tk (i := 25) (oi := _) (v := ?vZf25) rfl rfl (by kernel_rfl) (by kernel_rfl) (by kernel_rfl) (fun _ _ _ h => h) (Or.inl ⟨by kernel_rfl, ?yZf25⟩) (by assumption) ?rZf25
          case yZf25 =>
            intro w hSw
            (try dsimp only at hSw)
            go_simp
            try with_reducible rfl
          try simp only [List.setIfInBounds_toArray, List.set_cons_zero, List.set_cons_succ]
          refine wpAnyH_tk (i := 26) (oi := _) (v := ?vZf26) rfl rfl (by kernel_rfl) (by kernel_rfl) (by kernel_rfl) (fun _ _ _ h => h) (Or.inl ⟨by kernel_rfl, ?yZf26⟩) (by assumption) ?rZf26
          case yZf26 =>
            intro w hSw
            (try dsimp only at hSw)
            go_simp
            try with_reducible rfl
          try simp only [List.setIfInBounds_toArray, List.set_cons_zero, List.set_cons_succ]
          refine wpAnyH_tk (i := 27) (oi := _) (v := ?vZf27) rfl rfl (by kernel_rfl) (by kernel_rfl) (by kernel_rfl) (fun _ _ _ h => h) (Or.inl ⟨by kernel_rfl, ?yZf27⟩) (by assumption) ?rZf27
          case yZf27 =>
            intro w hSw
            (try dsimp only at hSw)
            go_simp
            try with_reducible rfl
          try simp only [List.setIfInBounds_toArray, List.set_cons_zero, List.set_cons_succ]
          refine wpAnyH_tk (i := 28) (oi := _) (v := ?vZf28) rfl rfl (by kernel_rfl) (by kernel_rfl) (by kernel_rfl) (fun _ _ _ h => h) (Or.inl ⟨by kernel_rfl, ?yZf28⟩) (by assumption) ?rZf28
          case yZf28 =>
            intro w hSw
            (try dsimp only at hSw)
            go_simp
            try with_reducible rfl
          try simp only [List.setIfInBounds_toArray, List.set_cons_zero, List.set_cons_succ]
          refine wpAnyH_tk (i := 29) (oi := _) (v := ?vZf29) rfl rfl (by kernel_rfl) (by kernel_rfl) (by kernel_rfl) (fun _ _ _ h => h) (Or.inl ⟨by kernel_rfl, ?yZf29⟩) (by assumption) ?rZf29
          case yZf29 =>
            intro w hSw
            (try dsimp only at hSw)
            go_simp
            try with_reducible rfl
          try simp only [List.setIfInBounds_toArray, List.set_cons_zero, List.set_cons_succ]
          refine wpAnyH_tk (i := 30) (oi := _) (v := ?vZf30) rfl rfl (by kernel_rfl) (by kernel_rfl) (by kernel_rfl) (fun _ _ _ h => h) (Or.inl ⟨by kernel_rfl, ?yZf30⟩) (by assumption) ?rZf30
          case yZf30 =>
            intro w hSw
            (try dsimp only at hSw)
            go_simp
            try with_reducible rfl
          try simp only [List.setIfInBounds_toArray, List.set_cons_zero, List.set_cons_succ]
          refine wpAnyH_tk (i := 31) (oi := _) (v := ?vZf31) rfl rfl (by kernel_rfl) (by kernel_rfl) (by kernel_rfl) (fun _ _ _ h => h) (Or.inl ⟨by kernel_rfl, ?yZf31⟩) (by assumption) ?rZf31
          case yZf31 =>
            intro w hSw
            (try dsimp only at hSw)
            go_simp
            try with_reducible rfl
          try simp only [List.setIfInBounds_toArray, List.set_cons_zero, List.set_cons_succ]
          refine wpAnyH_tk (i := 32) (oi := _) (v := ?vZf32) rfl rfl (by kernel_rfl) (by kernel_rfl) (by kernel_rfl) (fun _ _ _ h => h) (Or.inl ⟨by kernel_rfl, ?yZf32⟩) (by assumption) ?rZf32
          case yZf32 =>
            intro w hSw
            (try dsimp only at hSw)
            go_simp
            try with_reducible rfl
          try simp only [List.setIfInBounds_toArray, List.set_cons_zero, List.set_cons_succ]
          refine wpAnyH_tk (i := 33) (oi := _) (v := ?vZf33) rfl rfl (by kernel_rfl) (by kernel_rfl) (by kernel_rfl) (fun _ _ _ h => h) (Or.inl ⟨by kernel_rfl, ?yZf33⟩) (by assumption) ?rZf33
          case yZf33 =>
            intro w hSw
            (try dsimp only at hSw)
            go_simp
            try with_reducible rfl
          try simp only [List.setIfInBounds_toArray, List.set_cons_zero, List.set_cons_succ]
          refine wpAnyH_off (i := 34) (oi := _) rfl rfl (by kernel_rfl) (by kernel_rfl) (by kernel_rfl) (fun _ _ _ h => h) (by kernel_rfl) (by assumption) ?_
          try simp only [List.setIfInBounds_toArray, List.set_cons_zero, List.set_cons_succ]
          refine wpAnyH_off (i := 35) (oi := _) rfl rfl (by kernel_rfl) (by kernel_rfl) (by kernel_rfl) (fun _ _ _ h => h) (by kernel_rfl) (by assumption) ?_
          try simp only [List.setIfInBounds_toArray, List.set_cons_zero, List.set_cons_succ]
          refine wpAnyH_off (i := 36) (oi := _) rfl rfl (by kernel_rfl) (by kernel_rfl) (by kernel_rfl) (fun _ _ _ h => h) (by kernel_rfl) (by assumption) ?_
          try simp only [List.setIfInBounds_toArray, List.set_cons_zero, List.set_cons_succ]
          refine wpAnyH_off (i := 37) (oi := _) rfl rfl (by kernel_rfl) (by kernel_rfl) (by kernel_rfl) (fun _ _ _ h => h) (by kernel_rfl) (by assumption) ?_
          try simp only [List.setIfInBounds_toArray, List.set_cons_zero, List.set_cons_succ]
          refine wpAnyH_off (i := 38) (oi := _) rfl rfl (by kernel_rfl) (by kernel_rfl) (by kernel_rfl) (fun _ _ _ h => h) (by kernel_rfl) (by assumption) ?_
          try simp only [List.setIfInBounds_toArray, List.set_cons_zero, List.set_cons_succ]
          refine wpAnyH_off (i := 39) (oi := _) rfl rfl (by kernel_rfl) (by kernel_rfl) (by kernel_rfl) (fun _ _ _ h => h) (by kernel_rfl) (by assumption) ?_
          try simp only [List.setIfInBounds_toArray, List.set_cons_zero, List.set_cons_succ]
          refine wpAnyH_off (i := 40) (oi := _) rfl rfl (by kernel_rfl) (by kernel_rfl) (by kernel_rfl) (fun _ _ _ h => h) (by kernel_rfl) (by assumption) ?_
          try simp only [List.setIfInBounds_toArray, List.set_cons_zero, List.set_cons_succ]
          refine wpAnyH_tk (i := 41) (oi := _) (v := ?vZf41) rfl rfl (by kernel_rfl) (by kernel_rfl) (by kernel_rfl) (fun _ _ _ h => h) (Or.inl ⟨by kernel_rfl, ?yZf41⟩) (by assumption) ?rZf41
          case yZf41 =>
            intro w hSw
            (try dsimp only at hSw)
            go_simp
            try with_reducible rfl
          try simp only [List.setIfInBounds_toArray, List.set_cons_zero, List.set_cons_succ]
          refine wpAnyH_tk (i := 42) (oi := _) (v := ?vZf42) rfl rfl (by kernel_rfl) (by kernel_rfl) (by kernel_rfl) (fun _ _ _ h => h) (Or.inl ⟨by kernel_rfl, ?yZf42⟩) (by assumption) ?rZf42
          case yZf42 =>
            intro w hSw
            (try dsimp only at hSw)
            go_simp
            try with_reducible rfl
          try simp only [List.setIfInBounds_toArray, List.set_cons_zero, List.set_cons_succ]
          refine wpAnyH_tk (i := 43) (oi := _) (v := ?vZf43) rfl rfl (by kernel_rfl) (by kernel_rfl) (by kernel_rfl) (fun _ _ _ h => h) (Or.inl ⟨by kernel_rfl, ?yZf43⟩) (by assumption) ?rZf43
          case yZf43 =>
            intro w hSw
            (try dsimp only at hSw)
            go_simp
            try with_reducible rfl
          try simp only [List.setIfInBounds_toArray, List.set_cons_zero, List.set_cons_succ]
          refine wpAnyH_tk (i := 44) (oi := _) (v := ?vZf44) rfl rfl (by kernel_rfl) (by kernel_rfl) (by kernel_rfl) (fun _ _ _ h => h) (Or.inl ⟨by kernel_rfl, ?yZf44⟩) (by assumption) ?rZf44
          case yZf44 =>
            intro w hSw
            (try dsimp only at hSw)
            go_simp
            try with_reducible rfl
          try simp only [List.setIfInBounds_toArray, List.set_cons_zero, List.set_cons_succ]
          refine wpAnyH_tk (i := 45) (oi := _) (v := ?vZf45) rfl rfl (by kernel_rfl) (by kernel_rfl) (by kernel_rfl) (fun _ _ _ h => h) (Or.inl ⟨by kernel_rfl, ?yZf45⟩) (by assumption) ?rZf45
          case yZf45 =>
            intro w hSw
            (try dsimp only at hSw)
            go_simp
            try with_reducible rfl
          try simp only [List.setIfInBounds_toArray, List.set_cons_zero, List.set_cons_succ]
          refine wpAnyH_tk (i := 46) (oi := _) (v := ?vZf46) rfl rfl (by kernel_rfl) (by kernel_rfl) (by kernel_rfl) (fun _ _ _ h => h) (Or.inl ⟨by kernel_rfl, ?yZf46⟩) (by assumption) ?rZf46
          case yZf46 =>
            intro w hSw
            (try dsimp only at hSw)
            go_simp
            try with_reducible rfl
          try simp only [List.setIfInBounds_toArray, List.set_cons_zero, List.set_cons_succ]
          refine wpAnyH_off (i := 47) (oi := _) rfl rfl (by kernel_rfl) (by kernel_rfl) (by kernel_rfl) (fun _ _ _ h => h) (by kernel_rfl) (by assumption) ?_
          try simp only [List.setIfInBounds_toArray, List.set_cons_zero, List.set_cons_succ]
          refine wpAnyH_off (i := 48) (oi := _) rfl rfl (by kernel_rfl) (by kernel_rfl) (by kernel_rfl) (fun _ _ _ h => h) (by kernel_rfl) (by assumption) ?_
          try simp only [List.setIfInBounds_toArray, List.set_cons_zero, List.set_cons_succ]
          refine wpAnyH_off (i := 49) (oi := _) rfl rfl (by kernel_rfl) (by kernel_rfl) (by kernel_rfl) (fun _ _ _ h => h) (by kernel_rfl) (by assumption) ?_
          try simp only [List.setIfInBounds_toArray, List.set_cons_zero, List.set_cons_succ]
          refine wpAnyH_off (i := 50) (oi := _) rfl rfl (by kernel_rfl) (by kernel_rfl) (by kernel_rfl) (fun _ _ _ h => h) (by kernel_rfl) (by assumption) ?_
          try simp only [List.setIfInBounds_toArray, List.set_cons_zero, List.set_cons_succ]
          refine wpAnyH_off (i := 51) (oi := _) rfl rfl (by kernel_rfl) (by kernel_rfl) (by kernel_rfl) (fun _ _ _ h => h) (by kernel_rfl) (by assumption) ?_
          try simp only [List.setIfInBounds_toArray, List.set_cons_zero, List.set_cons_succ]
          refine wpAnyH_off (i := 52) (oi := _) rfl rfl (by kernel_rfl) (by kernel_rfl) (by kernel_rfl) (fun _ _ _ h => h) (by kernel_rfl) (by assumption) ?_
          try simp only [List.setIfInBounds_toArray, List.set_cons_zero, List.set_cons_succ]
          refine wpAnyH_off (i := 53) (oi := _) rfl rfl (by kernel_rfl) (by kernel_rfl) (by kernel_rfl) (fun _ _ _ h => h) (by kernel_rfl) (by assumption) ?_
          try simp only [List.setIfInBounds_toArray, List.set_cons_zero, List.set_cons_succ]
          refine wpAnyH_off (i := 54) (oi := _) rfl rfl (by kernel_rfl) (by kernel_rfl) (by kernel_rfl) (fun _ _ _ h => h) (by kernel_rfl) (by assumption) ?_
          try simp only [List.setIfInBounds_toArray, List.set_cons_zero, List.set_cons_succ]
          refine wpAnyH_off (i := 55) (oi := _) rfl rfl (by kernel_rfl) (by kernel_rfl) (by kernel_rfl) (fun _ _ _ h => h) (by kernel_rfl) (by assumption) ?_
          try simp only [List.setIfInBounds_toArray, List.set_cons_zero, List.set_cons_succ]
          refine wpAnyH_off (i := 56) (oi := _) rfl rfl (by kernel_rfl) (by kernel_rfl) (by kernel_rfl) (fun _ _ _ h => h) (by kernel_rfl) (by assumption) ?_
          try simp only [List.setIfInBounds_toArray, List.set_cons_zero, List.set_cons_succ]
          refine wpAnyH_off (i := 57) (oi := _) rfl rfl (by kernel_rfl) (by kernel_rfl) (by kernel_rfl) (fun _ _ _ h => h) (by kernel_rfl) (by assumption) ?_
          try simp only [List.setIfInBounds_toArray, List.set_cons_zero, List.set_cons_succ]
          refine wpAnyH_off (i := 58) (oi := _) rfl rfl (by kernel_rfl) (by kernel_rfl) (by kernel_rfl) (fun _ _ _ h => h) (by kernel_rfl) (by assumption) ?_
          try simp only [List.setIfInBounds_toArray, List.set_cons_zero, List.set_cons_succ]
          refine wpAnyH_tk (i := 59) (oi := _) (v := ?vZf59) rfl rfl (by kernel_rfl) (by kernel_rfl) (by kernel_rfl) (fun _ _ _ h => h) (Or.inl ⟨by kernel_rfl, ?yZf59⟩) (by assumption) ?rZf59
          case yZf59 =>
            intro w hSw
            (try dsimp only at hSw)
            go_simp
            try with_reducible rfl
          try simp only [List.setIfInBounds_toArray, List.set_cons_zero, List.set_cons_succ]
          refine wpAnyH_tk (i := 60) (oi := _) (v := ?vZf60) rfl rfl (by kernel_rfl) (by kernel_rfl) (by kernel_rfl) (fun _ _ _ h => h) (Or.inl ⟨by kernel_rfl, ?yZf60⟩) (by assumption) ?rZf60
          case yZf60 =>
            intro w hSw
            (try dsimp only at hSw)
            go_simp
            try with_reducible rfl
          try simp only [List.setIfInBounds_toArray, List.set_cons_zero, List.set_cons_succ]
          refine wpAnyH_done (by kernel_rfl) ?_ _
          go_wp2
          go_loopw [6, 16] (fun _ v16 wr => ∃ (j q : Nat), v16 = .int .i64 j ∧ j ≤ k ∧ wr = w9.drewN q) (fun _ v16 _ => k - (intOf v16).toNat)
          case atStart => exact ⟨0, 0, rfl, Nat.zero_le _, rfl⟩
          case round =>
            obtain ⟨j, q, rfl, hj, rfl⟩ := hrel
            by_cases hjk : j < k
            · obtain ⟨y, hy⟩ : ∃ y, P[j]? = some y := ⟨P[j]'(by have := HMM.out; omega), List.getElem?_eq_getElem _⟩
              obtain ⟨rg9, _⟩ := RowX.get HJ9.out.snd.snd
              obtain ⟨g9, o9, e9, hg9, hc9⟩ := rg9 j y hy
              injection e9 with e9
              injection e9 with e9a e9b
              subst e9a e9b
              obtain ⟨g8, o8, e8, hg8, hc8⟩ := rg9 k z HZ.out
              injection e8 with e8
              injection e8 with e8a e8b
              subst e8a e8b
              have y3 : w9.cell? ⟨ga, oa + j * 4 + 3, none⟩ = some (.int .i64 y.2.nd.time) := hc9 3 _ rfl
              have hne := HOT.out j y hjk hy
              obtain ⟨ty, hty⟩ : ∃ u, y.2.nd.time = u := ⟨_, rfl⟩
              rw [hty] at y3 hne
              have hneI : ((ty : Int) == (tm : Int)) = false := by simp; omega
              have hji : (j : Int) < (k : Int) := by omega
              have hjm : (j : Int) < (m : Int) := by omega
              clear hy rg9 hg9 hc9 hg8 hc8 hne hty
              go_wp2_with fail
              go_quiet (fail)
              go_wp2
              go_roundw
              case rel => first | exact ⟨j + 1, _, by go_num, by omega, rfl⟩ | exact ⟨_, _, _, _, _, _, _, _, _, _, _, _, _, _, _, _, ⟨j + 1, _, by go_num, by omega, rfl⟩, rfl⟩
              case measure => simp [intOf]; omega
            · obtain rfl : j = k := by omega
              have HJX := hide (show InvN (Two f r S S (sep noneN (RowX (some ⟨ga, oa, none⟩) P))) W.heap.size W (w9.drewN q) from HJ9.out.step (Two.fr f r S S HXR.out) (below_drewN (Below.refl _ _) q) (Nat.le_refl _))
              go_wp2
              go_roundw
              case rel => exact ⟨j + 1, by go_num, by omega, by rw [HST.out]; go_num, HJX.out⟩
              case measure => simp [intOf]; omega
        · obtain ⟨y, hy⟩ := hkp (by omega)
          have hbf := HBF.out y (by omega) hy
          obtain ⟨gp, op, ep, hgp, hcp⟩ := rg (k - 1) y hy
          injection ep with ep
          injection ep with epa epb
          subst epa epb
          have p0 : wm.cell? ⟨ga, oa + (k - 1) * 4, none⟩ = some (.string y.1) := by have := hcp 0 _ rfl; simpa using this
          obtain ⟨pk, hpk⟩ : ∃ u, y.1 = u := ⟨_, rfl⟩
          rw [hpk] at p0 hbf
          have hless : Op.bytesLess pk.toList (bs t).toList = true := hbf
          have hkpos : decide ((0 : Int) < (k : Int)) = true := by simp; omega
          have hkpos2 : decide (0 < k) = true := by simp; omega
          have hsub : (k : Int) - 1 = ((k - 1 : Nat) : Int) := by omega
          have hkm1 : ((k - 1 : Nat) : Int) < (m : Int) := by omega
          clear hy hgp hcp hpk hbf hk0
          have hf0 : decide ((S.clock : Int) < (tm : Int)) = false := by simp; omega
          have hf1 : decide (S.clock < tm) = false := by simp; omega
          have hf2 : decide ((tm : Int) < 1) = false := by simp; omega
          have hf3 : decide (tm < 1) = false := by simp; omega
          have hf4 : decide (tm = 0) = false := by simp; omega
          have hf5 : decide ((0 : Int) < (k : Int)) = true := hkpos
          have hf6 : decide (0 < k) = true := hkpos2
          have hf7 : Op.bytesLess pk.toList (bs t).toList = true := hless
          have hf8 : (k : Int) - 1 = ((k - 1 : Nat) : Int) := hsub
          have hf9 : IntKind.i64.wrap ((k : Int) - 1) = ((k - 1 : Nat) : Int) := by rw [hsub]; exact IntWalk.i64_in _ (by omega)
          have hf10 : IntKind.i64.wrap ((k - 1 : Nat) : Int) = ((k - 1 : Nat) : Int) := IntWalk.i64_in _ (by omega)
          have hf11 : (((k - 1 : Nat) : Int) < (m : Int)) = True := eq_true hkm1
          have hq := fun (Z : World) (hb : Below wm.heap.size wm Z) => show ((fun Z => Z.cell? ⟨ga, oa + k * 4, none⟩ = some (.string (bs t)) ∧ Z.cell? ⟨ga, oa + k * 4 + 1, none⟩ = some (.bool false) ∧ Z.cell? ⟨ga, oa + k * 4 + 2, none⟩ = some (.slice zA D zc) ∧ Z.cell? ⟨ga, oa + k * 4 + 3, none⟩ = some (.int .i64 tm) ∧ Z.cell? ⟨ga, oa + (k - 1) * 4, none⟩ = some (.string pk) ∧ decide ((S.clock : Int) < (tm : Int)) = false ∧ decide (S.clock < tm) = false ∧ decide ((tm : Int) < 1) = false ∧ decide (tm < 1) = false ∧ decide (tm = 0) = false ∧ decide ((0 : Int) < (k : Int)) = true ∧ decide (0 < k) = true ∧ Op.bytesLess pk.toList (bs t).toList = true ∧ (k : Int) - 1 = ((k - 1 : Nat) : Int) ∧ IntKind.i64.wrap ((k : Int) - 1) = ((k - 1 : Nat) : Int) ∧ IntKind.i64.wrap ((k - 1 : Nat) : Int) = ((k - 1 : Nat) : Int) ∧ (((k - 1 : Nat) : Int) < (m : Int)) = True)) Z from ⟨(hb.cell (p := ⟨ga, oa + k * 4, none⟩) HGA.out).trans q0, (hb.cell (p := ⟨ga, oa + k * 4 + 1, none⟩) HGA.out).trans q1, (hb.cell (p := ⟨ga, oa + k * 4 + 2, none⟩) HGA.out).trans q2, (hb.cell (p := ⟨ga, oa + k * 4 + 3, none⟩) HGA.out).trans q3, (hb.cell (p := ⟨ga, oa + (k - 1) * 4, none⟩) HGA.out).trans p0, hf0, hf1, hf2, hf3, hf4, hf5, hf6, hf7, hf8, hf9, hf10, hf11⟩
          have HQ := hide hq
          clear hq hf0 hf1 hf2 hf3 hf4 hf5 hf6 hf7 hf8 hf9 hf10 hf11
          go_wp2_with fail
          refine wp_region_held_drew (S := (fun Z => Z.cell? ⟨ga, oa + k * 4, none⟩ = some (.string (bs t)) ∧ Z.cell? ⟨ga, oa + k * 4 + 1, none⟩ = some (.bool false) ∧ Z.cell? ⟨ga, oa + k * 4 + 2, none⟩ = some (.slice zA D zc) ∧ Z.cell? ⟨ga, oa + k * 4 + 3, none⟩ = some (.int .i64 tm) ∧ Z.cell? ⟨ga, oa + (k - 1) * 4, none⟩ = some (.string pk) ∧ decide ((S.clock : Int) < (tm : Int)) = false ∧ decide (S.clock < tm) = false ∧ decide ((tm : Int) < 1) = false ∧ decide (tm < 1) = false ∧ decide (tm = 0) = false ∧ decide ((0 : Int) < (k : Int)) = true ∧ decide (0 < k) = true ∧ Op.bytesLess pk.toList (bs t).toList = true ∧ (k : Int) - 1 = ((k - 1 : Nat) : Int) ∧ IntKind.i64.wrap ((k : Int) - 1) = ((k - 1 : Nat) : Int) ∧ IntKind.i64.wrap ((k - 1 : Nat) : Int) = ((k - 1 : Nat) : Int) ∧ (((k - 1 : Nat) : Int) < (m : Int)) = True)) (by kernel_rfl) (HQ.out _ (Below.refl _ _).drew) (fun hHeld => ?_)
          refine wpAnyH_tk (i := 0) (oi := _) (v := ?vPf0) rfl rfl (by kernel_rfl) (by kernel_rfl) (by kernel_rfl) (fun _ _ _ h => h) (Or.inl ⟨by kernel_rfl, ?yPf0⟩) (by assumption) ?rPf0
          case yPf0 =>
            intro w hSw
            (try dsimp only at hSw)
            go_simp
            try with_reducible rfl
          try simp only [List.setIfInBounds_toArray, List.set_cons_zero, List.set_cons_succ]
          refine wpAnyH_tk (i := 1) (oi := _) (v := ?vPf1) rfl rfl (by kernel_rfl) (by kernel_rfl) (by kernel_rfl) (fun _ _ _ h => h) (Or.inl ⟨by kernel_rfl, ?yPf1⟩) (by assumption) ?rPf1
          case yPf1 =>
            intro w hSw
            (try dsimp only at hSw)
            go_simp
            try with_reducible rfl
          try simp only [List.setIfInBounds_toArray, List.set_cons_zero, List.set_cons_succ]
          refine wpAnyH_tk (i := 2) (oi := _) (v := ?vPf2) rfl rfl (by kernel_rfl) (by kernel_rfl) (by kernel_rfl) (fun _ _ _ h => h) (Or.inl ⟨by kernel_rfl, ?yPf2⟩) (by assumption) ?rPf2
          case yPf2 =>
            intro w hSw
            (try dsimp only at hSw)
            go_simp
            try with_reducible rfl
          try simp only [List.setIfInBounds_toArray, List.set_cons_zero, List.set_cons_succ]
          refine wpAnyH_tk (i := 3) (oi := _) (v := ?vPf3) rfl rfl (by kernel_rfl) (by kernel_rfl) (by kernel_rfl) (fun _ _ _ h => h) (Or.inl ⟨by kernel_rfl, ?yPf3⟩) (by assumption) ?rPf3
          case yPf3 =>
            intro w hSw
            (try dsimp only at hSw)
            go_simp
            try with_reducible rfl
          try simp only [List.setIfInBounds_toArray, List.set_cons_zero, List.set_cons_succ]
          refine wpAnyH_tk (i := 4) (oi := _) (v := ?vPf4) rfl rfl (by kernel_rfl) (by kernel_rfl) (by kernel_rfl) (fun _ _ _ h => h) (Or.inl ⟨by kernel_rfl, ?yPf4⟩) (by assumption) ?rPf4
          case yPf4 =>
            intro w hSw
            (try dsimp only at hSw)
            go_simp
            try with_reducible rfl
          try simp only [List.setIfInBounds_toArray, List.set_cons_zero, List.set_cons_succ]
          refine wpAnyH_tk (i := 5) (oi := _) (v := ?vPf5) rfl rfl (by kernel_rfl) (by kernel_rfl) (by kernel_rfl) (fun _ _ _ h => h) (Or.inl ⟨by kernel_rfl, ?yPf5⟩) (by assumption) ?rPf5
          case yPf5 =>
            intro w hSw
            (try dsimp only at hSw)
            go_simp
            try with_reducible rfl
          try simp only [List.setIfInBounds_toArray, List.set_cons_zero, List.set_cons_succ]
          refine wpAnyH_ready (rs := [6]) (by kernel_rfl) (by simp) ?_
          refine AllReadyH.cons (o := _) rfl (fun K hK => ?_) AllReadyH.nil
          rw [if_pos (by kernel_rfl)]
          go_simp
          refine (HRD.out _).mono ?_
          rintro e w8 ⟨rfl, hb8⟩
          have hb8w := below_up (Below.refl wm.heap.size wm).drew hb8 (Nat.le_refl _)
          have HB8 := hide hb8w
          have HJ8 := hide (show InvN (Two f r S S (sep noneN (RowX (some ⟨ga, oa, none⟩) P))) W.heap.size W w8 from HJ.out.step (Two.fr f r S S HXR.out) hb8w (Nat.le_refl _))
          clear hb8 hb8w
          refine hK.out _ _ (HQ.out _ HB8.out) (fun _ => ?_)
          clear hK K
          try simp only [Act.put, List.setIfInBounds_toArray, List.set_cons_zero, List.set_cons_succ]
          refine wpAnyH_ready (rs := [7]) (by kernel_rfl) (by simp) ?_
          refine AllReadyH.cons (o := _) rfl (fun K hK => ?_) AllReadyH.nil
          rw [if_pos (by kernel_rfl)]
          go_simp
          refine (HKK.out w8 HJ8.out).mono ?_
          rintro e w9 ⟨rfl, hb9⟩
          have HB9 := hide (below_up HB8.out hb9 HB8.out.size)
          have HJ9 := hide (show InvN (Two f r S S (sep noneN (RowX (some ⟨ga, oa, none⟩) P))) W.heap.size W w9 from HJ8.out.step (Two.fr f r S S HXR.out) hb9 (Nat.le_refl _))
          clear hb9
          refine hK.out _ _ (HQ.out _ HB9.out) (fun _ => ?_)
          clear hK K
          try simp only [Act.put, List.setIfInBounds_toArray, List.set_cons_zero, List.set_cons_succ]
          refine wpAnyH_tk (i := 8) (oi := _) (v := ?vPf8) rfl rfl (by kernel_rfl) (by kernel_rfl) (by kernel_rfl) (fun _ _ _ h => h) (Or.inl ⟨by kernel_rfl, ?yPf8⟩) (by assumption) ?rPf8
          case yPf8 =>
            intro w hSw
            (try dsimp only at hSw)
            go_simp
            try with_reducible rfl
          try simp only [List.setIfInBounds_toArray, List.set_cons_zero, List.set_cons_succ]
          refine wpAnyH_tk (i := 9) (oi := _) (v := ?vPf9) rfl rfl (by kernel_rfl) (by kernel_rfl) (by kernel_rfl) (fun _ _ _ h => h) (Or.inl ⟨by kernel_rfl, ?yPf9⟩) (by assumption) ?rPf9
          case yPf9 =>
            intro w hSw
            (try dsimp only at hSw)
            go_simp
            try with_reducible rfl
          try simp only [List.setIfInBounds_toArray, List.set_cons_zero, List.set_cons_succ]
          refine wpAnyH_tk (i := 10) (oi := _) (v := ?vPf10) rfl rfl (by kernel_rfl) (by kernel_rfl) (by kernel_rfl) (fun _ _ _ h => h) (Or.inl ⟨by kernel_rfl, ?yPf10⟩) (by assumption) ?rPf10
          case yPf10 =>
            intro w hSw
            (try dsimp only at hSw)
            go_simp
            try with_reducible rfl
          try simp only [List.setIfInBounds_toArray, List.set_cons_zero, List.set_cons_succ]
          refine wpAnyH_tk (i := 11) (oi := _) (v := ?vPf11) rfl rfl (by kernel_rfl) (by kernel_rfl) (by kernel_rfl) (fun _ _ _ h => h) (Or.inl ⟨by kernel_rfl, ?yPf11⟩) (by assumption) ?rPf11
          case yPf11 =>
            intro w hSw
            (try dsimp only at hSw)
            go_simp
            try with_reducible rfl
          try simp only [List.setIfInBounds_toArray, List.set_cons_zero, List.set_cons_succ]
          refine wpAnyH_tk (i := 12) (oi := _) (v := ?vPf12) rfl rfl (by kernel_rfl) (by kernel_rfl) (by kernel_rfl) (fun _ _ _ h => h) (Or.inl ⟨by kernel_rfl, ?yPf12⟩) (by assumption) ?rPf12
          case yPf12 =>
            intro w hSw
            (try dsimp only at hSw)
            go_simp
            try with_reducible rfl
          try simp only [List.setIfInBounds_toArray, List.set_cons_zero, List.set_cons_succ]
          refine wpAnyH_tk (i := 13) (oi := _) (v := ?vPf13) rfl rfl (by kernel_rfl) (by kernel_rfl) (by kernel_rfl) (fun _ _ _ h => h) (Or.inl ⟨by kernel_rfl, ?yPf13⟩) (by assumption) ?rPf13
          case yPf13 =>
            intro w hSw
            (try dsimp only at hSw)
            go_simp
            try with_reducible rfl
          try simp only [List.setIfInBounds_toArray, List.set_cons_zero, List.set_cons_succ]
          refine wpAnyH_tk (i := 14) (oi := _) (v := ?vPf14) rfl rfl (by kernel_rfl) (by kernel_rfl) (by kernel_rfl) (fun _ _ _ h => h) (Or.inl ⟨by kernel_rfl, ?yPf14⟩) (by assumption) ?rPf14
          case yPf14 =>
            intro w hSw
            (try dsimp only at hSw)
            go_simp
            try with_reducible rfl
          try simp only [List.setIfInBounds_toArray, List.set_cons_zero, List.set_cons_succ]
          refine wpAnyH_tk (i := 15) (oi := _) (v := ?vPf15) rfl rfl (by kernel_rfl) (by kernel_rfl) (by kernel_rfl) (fun _ _ _ h => h) (Or.inl ⟨by kernel_rfl, ?yPf15⟩) (by assumption) ?rPf15
          case yPf15 =>
            intro w hSw
            (try dsimp only at hSw)
            go_simp
            try with_reducible rfl
          try simp only [List.setIfInBounds_toArray, List.set_cons_zero, List.set_cons_succ]
          refine wpAnyH_ready (rs := [16]) (by kernel_rfl) (by simp) ?_
          refine AllReadyH.cons (o := _) rfl (fun K hK => ?_) AllReadyH.nil
          rw [if_pos (by kernel_rfl)]
          go_simp
          refine (HCL.out w9 (Two.vs HJ9.out)).mono ?_
          rintro e w' ⟨rfl, rfl⟩
          refine hK.out _ _ (HQ.out _ HB9.out) (fun _ => ?_)
          clear hK K
          try simp only [Act.put, List.setIfInBounds_toArray, List.set_cons_zero, List.set_cons_succ]
          refine wpAnyH_tk (i := 17) (oi := _) (v := ?vPf17) rfl rfl (by kernel_rfl) (by kernel_rfl) (by kernel_rfl) (fun _ _ _ h => h) (Or.inl ⟨by kernel_rfl, ?yPf17⟩) (by assumption) ?rPf17
          case yPf17 =>
            intro w hSw
            (try dsimp only at hSw)
            go_simp
            try with_reducible rfl
          try simp only [List.setIfInBounds_toArray, List.set_cons_zero, List.set_cons_succ]
          refine wpAnyH_tk (i := 18) (oi := _) (v := ?vPf18) rfl rfl (by kernel_rfl) (by kernel_rfl) (by kernel_rfl) (fun _ _ _ h => h) (Or.inl ⟨by kernel_rfl, ?yPf18⟩) (by assumption) ?rPf18
          case yPf18 =>
            intro w hSw
            (try dsimp only at hSw)
            go_simp
            try with_reducible rfl
          try simp only [List.setIfInBounds_toArray, List.set_cons_zero, List.set_cons_succ]
          refine wpAnyH_tk (i := 19) (oi := _) (v := ?vPf19) rfl rfl (by kernel_rfl) (by kernel_rfl) (by kernel_rfl) (fun _ _ _ h => h) (Or.inl ⟨by kernel_rfl, ?yPf19⟩) (by assumption) ?rPf19
          case yPf19 =>
            intro w hSw
            (try dsimp only at hSw)
            go_simp
            try with_reducible rfl
          try simp only [List.setIfInBounds_toArray, List.set_cons_zero, List.set_cons_succ]
          refine wpAnyH_tk (i := 20) (oi := _) (v := ?vPf20) rfl rfl (by kernel_rfl) (by kernel_rfl) (by kernel_rfl) (fun _ _ _ h => h) (Or.inl ⟨by kernel_rfl, ?yPf20⟩) (by assumption) ?rPf20
          case yPf20 =>
            intro w hSw
            (try dsimp only at hSw)
            go_simp
            try with_reducible rfl
          try simp only [List.setIfInBounds_toArray, List.set_cons_zero, List.set_cons_succ]
          refine wpAnyH_tk (i := 21) (oi := _) (v := ?vPf21) rfl rfl (by kernel_rfl) (by kernel_rfl) (by kernel_rfl) (fun _ _ _ h => h) (Or.inl ⟨by kernel_rfl, ?yPf21⟩) (by assumption) ?rPf21
          case yPf21 =>
            intro w hSw
            (try dsimp only at hSw)
            go_simp
            try with_reducible rfl
          try simp only [List.setIfInBounds_toArray, List.set_cons_zero, List.set_cons_succ]
          refine wpAnyH_tk (i := 22) (oi := _) (v := ?vPf22) rfl rfl (by kernel_rfl) (by kernel_rfl) (by kernel_rfl) (fun _ _ _ h => h) (Or.inl ⟨by kernel_rfl, ?yPf22⟩) (by assumption) ?rPf22
          case yPf22 =>
            intro w hSw
            (try dsimp only at hSw)
            go_simp
            try with_reducible rfl
          try simp only [List.setIfInBounds_toArray, List.set_cons_zero, List.set_cons_succ]
          refine wpAnyH_tk (i := 23) (oi := _) (v := ?vPf23) rfl rfl (by kernel_rfl) (by kernel_rfl) (by kernel_rfl) (fun _ _ _ h => h) (Or.inl ⟨by kernel_rfl, ?yPf23⟩) (by assumption) ?rPf23
          case yPf23 =>
            intro w hSw
            (try dsimp only at hSw)
            go_simp
            try with_reducible rfl
          try simp only [List.setIfInBounds_toArray, List.set_cons_zero, List.set_cons_succ]
          refine wpAnyH_tk (i := 24) (oi := _) (v := ?vPf24) rfl rfl (by kernel_rfl) (by kernel_rfl) (by kernel_rfl) (fun _ _ _ h => h) (Or.inl ⟨by kernel_rfl, ?yPf24⟩) (by assumption) ?rPf24
          case yPf24 =>
            intro w hSw
            (try dsimp only at hSw)
            go_simp
            try with_reducible rfl
          try simp only [List.setIfInBounds_toArray, List.set_cons_zero, List.set_cons_succ]
          refine wpAnyH_tk (i := 25) (oi := _) (v := ?vPf25) rfl rfl (by kernel_rfl) (by kernel_rfl) (by kernel_rfl) (fun _ _ _ h => h) (Or.inl ⟨by kernel_rfl, ?yPf25⟩) (by assumption) ?rPf25
          case yPf25 =>
            intro w hSw
            (try dsimp only at hSw)
            go_simp
            try with_reducible rfl
          try simp only [List.setIfInBounds_toArray, List.set_cons_zero, List.set_cons_succ]
          refine wpAnyH_tk (i := 26) (oi := _) (v := ?vPf26) rfl rfl (by kernel_rfl) (by kernel_rfl) (by kernel_rfl) (fun _ _ _ h => h) (Or.inl ⟨by kernel_rfl, ?yPf26⟩) (by assumption) ?rPf26
          case yPf26 =>
            intro w hSw
            (try dsimp only at hSw)
            go_simp
            try with_reducible rfl
          try simp only [List.setIfInBounds_toArray, List.set_cons_zero, List.set_cons_succ]
          refine wpAnyH_tk (i := 27) (oi := _) (v := ?vPf27) rfl rfl (by kernel_rfl) (by kernel_rfl) (by kernel_rfl) (fun _ _ _ h => h) (Or.inl ⟨by kernel_rfl, ?yPf27⟩) (by assumption) ?rPf27
          case yPf27 =>
            intro w hSw
            (try dsimp only at hSw)
            go_simp
            try with_reducible rfl
          try simp only [List.setIfInBounds_toArray, List.set_cons_zero, List.set_cons_succ]
          refine wpAnyH_tk (i := 28) (oi := _) (v := ?vPf28) rfl rfl (by kernel_rfl) (by kernel_rfl) (by kernel_rfl) (fun _ _ _ h => h) (Or.inl ⟨by kernel_rfl, ?yPf28⟩) (by assumption) ?rPf28
          case yPf28 =>
            intro w hSw
            (try dsimp only at hSw)
            go_simp
            try with_reducible rfl
          try simp only [List.setIfInBounds_toArray, List.set_cons_zero, List.set_cons_succ]
          refine wpAnyH_tk (i := 29) (oi := _) (v := ?vPf29) rfl rfl (by kernel_rfl) (by kernel_rfl) (by kernel_rfl) (fun _ _ _ h => h) (Or.inl ⟨by kernel_rfl, ?yPf29⟩) (by assumption) ?rPf29
          case yPf29 =>
            intro w hSw
            (try dsimp only at hSw)
            go_simp
            try with_reducible rfl
          try simp only [List.setIfInBounds_toArray, List.set_cons_zero, List.set_cons_succ]
          refine wpAnyH_tk (i := 30) (oi := _) (v := ?vPf30) rfl rfl (by kernel_rfl) (by kernel_rfl) (by kernel_rfl) (fun _ _ _ h => h) (Or.inl ⟨by kernel_rfl, ?yPf30⟩) (by assumption) ?rPf30
          case yPf30 =>
            intro w hSw
            (try dsimp only at hSw)
            go_simp
            try with_reducible rfl
          try simp only [List.setIfInBounds_toArray, List.set_cons_zero, List.set_cons_succ]
          refine wpAnyH_tk (i := 31) (oi := _) (v := ?vPf31) rfl rfl (by kernel_rfl) (by kernel_rfl) (by kernel_rfl) (fun _ _ _ h => h) (Or.inl ⟨by kernel_rfl, ?yPf31⟩) (by assumption) ?rPf31
          case yPf31 =>
            intro w hSw
            (try dsimp only at hSw)
            go_simp
            try with_reducible rfl
          try simp only [List.setIfInBounds_toArray, List.set_cons_zero, List.set_cons_succ]
          refine wpAnyH_tk (i := 32) (oi := _) (v := ?vPf32) rfl rfl (by kernel_rfl) (by kernel_rfl) (by kernel_rfl) (fun _ _ _ h => h) (Or.inl ⟨by kernel_rfl, ?yPf32⟩) (by assumption) ?rPf32
          case yPf32 =>
            intro w hSw
            (try dsimp only at hSw)
            go_simp
            try with_reducible rfl
          try simp only [List.setIfInBounds_toArray, List.set_cons_zero, List.set_cons_succ]
          refine wpAnyH_tk (i := 33) (oi := _) (v := ?vPf33) rfl rfl (by kernel_rfl) (by kernel_rfl) (by kernel_rfl) (fun _ _ _ h => h) (Or.inl ⟨by kernel_rfl, ?yPf33⟩) (by assumption) ?rPf33
          case yPf33 =>
            intro w hSw
            (try dsimp only at hSw)
            go_simp
            try with_reducible rfl
          try simp only [List.setIfInBounds_toArray, List.set_cons_zero, List.set_cons_succ]
          refine wpAnyH_off (i := 34) (oi := _) rfl rfl (by kernel_rfl) (by kernel_rfl) (by kernel_rfl) (fun _ _ _ h => h) (by kernel_rfl) (by assumption) ?_
          try simp only [List.setIfInBounds_toArray, List.set_cons_zero, List.set_cons_succ]
          refine wpAnyH_off (i := 35) (oi := _) rfl rfl (by kernel_rfl) (by kernel_rfl) (by kernel_rfl) (fun _ _ _ h => h) (by kernel_rfl) (by assumption) ?_
          try simp only [List.setIfInBounds_toArray, List.set_cons_zero, List.set_cons_succ]
          refine wpAnyH_off (i := 36) (oi := _) rfl rfl (by kernel_rfl) (by kernel_rfl) (by kernel_rfl) (fun _ _ _ h => h) (by kernel_rfl) (by assumption) ?_
          try simp only [List.setIfInBounds_toArray, List.set_cons_zero, List.set_cons_succ]
          refine wpAnyH_off (i := 37) (oi := _) rfl rfl (by kernel_rfl) (by kernel_rfl) (by kernel_rfl) (fun _ _ _ h => h) (by kernel_rfl) (by assumption) ?_
          try simp only [List.setIfInBounds_toArray, List.set_cons_zero, List.set_cons_succ]
          refine wpAnyH_off (i := 38) (oi := _) rfl rfl (by kernel_rfl) (by kernel_rfl) (by kernel_rfl) (fun _ _ _ h => h) (by kernel_rfl) (by assumption) ?_
          try simp only [List.setIfInBounds_toArray, List.set_cons_zero, List.set_cons_succ]
          refine wpAnyH_off (i := 39) (oi := _) rfl rfl (by kernel_rfl) (by kernel_rfl) (by kernel_rfl) (fun _ _ _ h => h) (by kernel_rfl) (by assumption) ?_
          try simp only [List.setIfInBounds_toArray, List.set_cons_zero, List.set_cons_succ]
          refine wpAnyH_off (i := 40) (oi := _) rfl rfl (by kernel_rfl) (by kernel_rfl) (by kernel_rfl) (fun _ _ _ h => h) (by kernel_rfl) (by assumption) ?_
          try simp only [List.setIfInBounds_toArray, List.set_cons_zero, List.set_cons_succ]
          refine wpAnyH_tk (i := 41) (oi := _) (v := ?vPf41) rfl rfl (by kernel_rfl) (by kernel_rfl) (by kernel_rfl) (fun _ _ _ h => h) (Or.inl ⟨by kernel_rfl, ?yPf41⟩) (by assumption) ?rPf41
          case yPf41 =>
            intro w hSw
            (try dsimp only at hSw)
            go_simp
            try with_reducible rfl
          try simp only [List.setIfInBounds_toArray, List.set_cons_zero, List.set_cons_succ]
          refine wpAnyH_tk (i := 42) (oi := _) (v := ?vPf42) rfl rfl (by kernel_rfl) (by kernel_rfl) (by kernel_rfl) (fun _ _ _ h => h) (Or.inl ⟨by kernel_rfl, ?yPf42⟩) (by assumption) ?rPf42
          case yPf42 =>
            intro w hSw
            (try dsimp only at hSw)
            go_simp
            try with_reducible rfl
          try simp only [List.setIfInBounds_toArray, List.set_cons_zero, List.set_cons_succ]
          refine wpAnyH_tk (i := 43) (oi := _) (v := ?vPf43) rfl rfl (by kernel_rfl) (by kernel_rfl) (by kernel_rfl) (fun _ _ _ h => h) (Or.inl ⟨by kernel_rfl, ?yPf43⟩) (by assumption) ?rPf43
          case yPf43 =>
            intro w hSw
            (try dsimp only at hSw)
            go_simp
            try with_reducible rfl
          try simp only [List.setIfInBounds_toArray, List.set_cons_zero, List.set_cons_succ]
          refine wpAnyH_tk (i := 44) (oi := _) (v := ?vPf44) rfl rfl (by kernel_rfl) (by kernel_rfl) (by kernel_rfl) (fun _ _ _ h => h) (Or.inl ⟨by kernel_rfl, ?yPf44⟩) (by assumption) ?rPf44
          case yPf44 =>
            intro w hSw
            (try dsimp only at hSw)
            go_simp
            try with_reducible rfl
          try simp only [List.setIfInBounds_toArray, List.set_cons_zero, List.set_cons_succ]
          refine wpAnyH_tk (i := 45) (oi := _) (v := ?vPf45) rfl rfl (by kernel_rfl) (by kernel_rfl) (by kernel_rfl) (fun _ _ _ h => h) (Or.inl ⟨by kernel_rfl, ?yPf45⟩) (by assumption) ?rPf45
          case yPf45 =>
            intro w hSw
            (try dsimp only at hSw)
            go_simp
            try with_reducible rfl
          try simp only [List.setIfInBounds_toArray, List.set_cons_zero, List.set_cons_succ]
          refine wpAnyH_tk (i := 46) (oi := _) (v := ?vPf46) rfl rfl (by kernel_rfl) (by kernel_rfl) (by kernel_rfl) (fun _ _ _ h => h) (Or.inl ⟨by kernel_rfl, ?yPf46⟩) (by assumption) ?rPf46
          case yPf46 =>
            intro w hSw
            (try dsimp only at hSw)
            go_simp
            try with_reducible rfl
          try simp only [List.setIfInBounds_toArray, List.set_cons_zero, List.set_cons_succ]
          refine wpAnyH_tk (i := 47) (oi := _) (v := ?vPf47) rfl rfl (by kernel_rfl) (by kernel_rfl) (by kernel_rfl) (fun _ _ _ h => h) (Or.inl ⟨by kernel_rfl, ?yPf47⟩) (by assumption) ?rPf47
          case yPf47 =>
            intro w hSw
            (try dsimp only at hSw)
            go_simp
            try with_reducible rfl
          try simp only [List.setIfInBounds_toArray, List.set_cons_zero, List.set_cons_succ]
          refine wpAnyH_tk (i := 48) (oi := _) (v := ?vPf48) rfl rfl (by kernel_rfl) (by kernel_rfl) (by kernel_rfl) (fun _ _ _ h => h) (Or.inl ⟨by kernel_rfl, ?yPf48⟩) (by assumption) ?rPf48
          case yPf48 =>
            intro w hSw
            (try dsimp only at hSw)
            go_simp
            try with_reducible rfl
          try simp only [List.setIfInBounds_toArray, List.set_cons_zero, List.set_cons_succ]
          refine wpAnyH_tk (i := 49) (oi := _) (v := ?vPf49) rfl rfl (by kernel_rfl) (by kernel_rfl) (by kernel_rfl) (fun _ _ _ h => h) (Or.inl ⟨by kernel_rfl, ?yPf49⟩) (by assumption) ?rPf49
          case yPf49 =>
            intro w hSw
            (try dsimp only at hSw)
            go_simp
            try with_reducible rfl
          try simp only [List.setIfInBounds_toArray, List.set_cons_zero, List.set_cons_succ]
          refine wpAnyH_tk (i := 50) (oi := _) (v := ?vPf50) rfl rfl (by kernel_rfl) (by kernel_rfl) (by kernel_rfl) (fun _ _ _ h => h) (Or.inl ⟨by kernel_rfl, ?yPf50⟩) (by assumption) ?rPf50
          case yPf50 =>
            intro w hSw
            (try dsimp only at hSw)
            go_simp
            try with_reducible rfl
          try simp only [List.setIfInBounds_toArray, List.set_cons_zero, List.set_cons_succ]
          refine wpAnyH_tk (i := 51) (oi := _) (v := ?vPf51) rfl rfl (by kernel_rfl) (by kernel_rfl) (by kernel_rfl) (fun _ _ _ h => h) (Or.inl ⟨by kernel_rfl, ?yPf51⟩) (by assumption) ?rPf51
          case yPf51 =>
            intro w hSw
            (try dsimp only at hSw)
            go_simp
            try with_reducible rfl
          try simp only [List.setIfInBounds_toArray, List.set_cons_zero, List.set_cons_succ]
          refine wpAnyH_tk (i := 52) (oi := _) (v := ?vPf52) rfl rfl (by kernel_rfl) (by kernel_rfl) (by kernel_rfl) (fun _ _ _ h => h) (Or.inl ⟨by kernel_rfl, ?yPf52⟩) (by assumption) ?rPf52
          case yPf52 =>
            intro w hSw
            (try dsimp only at hSw)
            go_simp
            try with_reducible rfl
          try simp only [List.setIfInBounds_toArray, List.set_cons_zero, List.set_cons_succ]
          refine wpAnyH_tk (i := 53) (oi := _) (v := ?vPf53) rfl rfl (by kernel_rfl) (by kernel_rfl) (by kernel_rfl) (fun _ _ _ h => h) (Or.inl ⟨by kernel_rfl, ?yPf53⟩) (by assumption) ?rPf53
          case yPf53 =>
            intro w hSw
            (try dsimp only at hSw)
            go_simp
            try with_reducible rfl
          try simp only [List.setIfInBounds_toArray, List.set_cons_zero, List.set_cons_succ]
          refine wpAnyH_tk (i := 54) (oi := _) (v := ?vPf54) rfl rfl (by kernel_rfl) (by kernel_rfl) (by kernel_rfl) (fun _ _ _ h => h) (Or.inl ⟨by kernel_rfl, ?yPf54⟩) (by assumption) ?rPf54
          case yPf54 =>
            intro w hSw
            (try dsimp only at hSw)
            go_simp
            try with_reducible rfl
          try simp only [List.setIfInBounds_toArray, List.set_cons_zero, List.set_cons_succ]
          refine wpAnyH_tk (i := 55) (oi := _) (v := ?vPf55) rfl rfl (by kernel_rfl) (by kernel_rfl) (by kernel_rfl) (fun _ _ _ h => h) (Or.inl ⟨by kernel_rfl, ?yPf55⟩) (by assumption) ?rPf55
          case yPf55 =>
            intro w hSw
            (try dsimp only at hSw)
            go_simp
            try with_reducible rfl
          try simp only [List.setIfInBounds_toArray, List.set_cons_zero, List.set_cons_succ]
          refine wpAnyH_tk (i := 56) (oi := _) (v := ?vPf56) rfl rfl (by kernel_rfl) (by kernel_rfl) (by kernel_rfl) (fun _ _ _ h => h) (Or.inl ⟨by kernel_rfl, ?yPf56⟩) (by assumption) ?rPf56
          case yPf56 =>
            intro w hSw
            (try dsimp only at hSw)
            go_simp
            try with_reducible rfl
          try simp only [List.setIfInBounds_toArray, List.set_cons_zero, List.set_cons_succ]
          refine wpAnyH_tk (i := 57) (oi := _) (v := ?vPf57) rfl rfl (by kernel_rfl) (by kernel_rfl) (by kernel_rfl) (fun _ _ _ h => h) (Or.inl ⟨by kernel_rfl, ?yPf57⟩) (by assumption) ?rPf57
          case yPf57 =>
            intro w hSw
            (try dsimp only at hSw)
            go_simp
            try with_reducible rfl
          try simp only [List.setIfInBounds_toArray, List.set_cons_zero, List.set_cons_succ]
          refine wpAnyH_tk (i := 58) (oi := _) (v := ?vPf58) rfl rfl (by kernel_rfl) (by kernel_rfl) (by kernel_rfl) (fun _ _ _ h => h) (Or.inl ⟨by kernel_rfl, ?yPf58⟩) (by assumption) ?rPf58
          case yPf58 =>
            intro w hSw
            (try dsimp only at hSw)
            go_simp
            try with_reducible rfl
          try simp only [List.setIfInBounds_toArray, List.set_cons_zero, List.set_cons_succ]
          refine wpAnyH_tk (i := 59) (oi := _) (v := ?vPf59) rfl rfl (by kernel_rfl) (by kernel_rfl) (by kernel_rfl) (fun _ _ _ h => h) (Or.inl ⟨by kernel_rfl, ?yPf59⟩) (by assumption) ?rPf59
          case yPf59 =>
            intro w hSw
            (try dsimp only at hSw)
            go_simp
            try with_reducible rfl
          try simp only [List.setIfInBounds_toArray, List.set_cons_zero, List.set_cons_succ]
          refine wpAnyH_tk (i := 60) (oi := _) (v := ?vPf60) rfl rfl (by kernel_rfl) (by kernel_rfl) (by kernel_rfl) (fun _ _ _ h => h) (Or.inl ⟨by kernel_rfl, ?yPf60⟩) (by assumption) ?rPf60
          case yPf60 =>
            intro w hSw
            (try dsimp only at hSw)
            go_simp
            try with_reducible rfl
          try simp only [List.setIfInBounds_toArray, List.set_cons_zero, List.set_cons_succ]
          refine wpAnyH_done (by kernel_rfl) ?_ _
          go_wp2
          go_loopw [6, 16] (fun _ v16 wr => ∃ (j q : Nat), v16 = .int .i64 j ∧ j ≤ k ∧ wr = w9.drewN q) (fun _ v16 _ => k - (intOf v16).toNat)
          case atStart => exact ⟨0, 0, rfl, Nat.zero_le _, rfl⟩
          case round =>
            obtain ⟨j, q, rfl, hj, rfl⟩ := hrel
            by_cases hjk : j < k
            · obtain ⟨y, hy⟩ : ∃ y, P[j]? = some y := ⟨P[j]'(by have := HMM.out; omega), List.getElem?_eq_getElem _⟩
              obtain ⟨rg9, _⟩ := RowX.get HJ9.out.snd.snd
              obtain ⟨g9, o9, e9, hg9, hc9⟩ := rg9 j y hy
              injection e9 with e9
              injection e9 with e9a e9b
              subst e9a e9b
              obtain ⟨g8, o8, e8, hg8, hc8⟩ := rg9 k z HZ.out
              injection e8 with e8
              injection e8 with e8a e8b
              subst e8a e8b
              have y3 : w9.cell? ⟨ga, oa + j * 4 + 3, none⟩ = some (.int .i64 y.2.nd.time) := hc9 3 _ rfl
              have hne := HOT.out j y hjk hy
              obtain ⟨ty, hty⟩ : ∃ u, y.2.nd.time = u := ⟨_, rfl⟩
              rw [hty] at y3 hne
              have hneI : ((ty : Int) == (tm : Int)) = false := by simp; omega
              have hji : (j : Int) < (k : Int) := by omega
              have hjm : (j : Int) < (m : Int) := by omega
              clear hy rg9 hg9 hc9 hg8 hc8 hne hty
              go_wp2_with fail
              go_quiet (fail)
              go_wp2
              go_roundw
              case rel => first | exact ⟨j + 1, _, by go_num, by omega, rfl⟩ | exact ⟨_, _, _, _, _, _, _, _, _, _, _, _, _, _, _, _, ⟨j + 1, _, by go_num, by omega, rfl⟩, rfl⟩
              case measure => simp [intOf]; omega
            · obtain rfl : j = k := by omega
              have HJX := hide (show InvN (Two f r S S (sep noneN (RowX (some ⟨ga, oa, none⟩) P))) W.heap.size W (w9.drewN q) from HJ9.out.step (Two.fr f r S S HXR.out) (below_drewN (Below.refl _ _) q) (Nat.le_refl _))
              go_wp2
              go_roundw
              case rel => exact ⟨j + 1, by go_num, by omega, by rw [HST.out]; go_num, HJX.out⟩
              case measure => simp [intOf]; omega
end Go.Proofs.YtkajhdbcnmafcaaGreatDoor
