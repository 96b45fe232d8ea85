/- Walk of the law VfsMoves: what is moved away and back is as it was, but for its time. -/
import Derived.Test.YtkajhdbcnmafcaaGreatDoorVfsLawG
namespace Go.Proofs.YtkajhdbcnmafcaaGreatDoor
open Go.RowKit Go.Deep Go.Maps Ln Pth Vf
set_option linter.unusedSimpArgs false
set_option linter.unusedVariables false
attribute [local go_sem] bt_eq

theorem okA_iffM {x : Ac4} (h : okA x = true) : x.p.size ≤ 300 ∧ x.q.size ≤ 300 ∧ x.b.length ≤ 2000 := by
  unfold okA at h
  simp only [Bool.and_eq_true, decide_eq_true_eq] at h
  exact ⟨h.1.1, h.1.2, h.2⟩
theorem bigF_noM {L : List Ac4} (h : bigF L = false) : (∀ x ∈ L, okA x = true) ∧ L.length ≤ 60 := by
  unfold bigF at h
  simp only [Bool.not_eq_false', Bool.and_eq_true, decide_eq_true_eq, List.all_eq_true] at h
  exact h
/-- a move of two paths that is done -/
theorem move_zero {S : St} (hS : WfS S) (t : HangS S) {p q x y : T} (hp : absF [47] p = (x, 0)) (hq : absF [47] q = (y, 0)) (hxy : x ≠ y) (h : (moveS S p q).2 = 0) : ∃ a b, MvS S a b ∧ moveS S p q = (moveQ S (joinF a) (joinF b), 0) ∧ x = joinF a ∧ y = joinF b := by
  have hc := moveS_chain (S := S) hp hq
  have hQ : moveS S p q = (moveQ S x y, 0) := by
    by_cases h1 : wayM S.m x ≠ 0
    · rw [if_pos h1] at hc; rw [hc] at h; exact absurd h h1
    rw [if_neg h1] at hc
    by_cases h2 : kindM S.m x = 0
    · rw [if_pos h2] at hc; rw [hc] at h; cases h
    rw [if_neg h2] at hc
    by_cases h3 : x = [47]
    · rw [if_pos h3] at hc; rw [hc] at h; cases h
    rw [if_neg h3] at hc
    by_cases h4 : wayM S.m y ≠ 0
    · rw [if_pos h4] at hc; rw [hc] at h; exact absurd h h4
    rw [if_neg h4, if_neg hxy] at hc
    by_cases h5 : mayS S.m x y ≠ 0
    · rw [if_pos h5] at hc; rw [hc] at h; exact absurd h h5
    rw [if_neg h5] at hc
    exact hc
  rcases moveS_cases hS t p q with h1 | ⟨a, b, hm, he, h2, h3⟩
  · rw [hQ] at h1
    have := congrArg St.clock h1
    change S.clock + 1 = S.clock at this
    omega
  · exact ⟨a, b, hm, he, (absS_fst hp h2 (joinF_ne _)).symm, (absS_fst hq h3 (joinF_ne _)).symm⟩
/-- what a move there and back leaves -/
structure BackS (S S1 S2 : St) (p q x : T) : Prop where
  gone : kindS S1 p = 0
  there : kindS S1 q ≠ 0
  back : (moveS S1 q p).2 = 0
  wf1 : WfS S1
  wf2 : WfS S2
  ck1 : S1.clock = S.clock + 1
  ck2 : S2.clock = S.clock + 2
  time : timeS S2 p = S.clock + 2
  same : ∃ (k : Nat) (n : Nd), S.m[k]? = some (bs x, n) ∧ S2.m = S.m.set k (bs x, ⟨n.dir, n.data, S.clock + 2⟩)
theorem there_back {S : St} (hS : WfS S) (t : HangS S) {p q x y : T} (hp : absF [47] p = (x, 0)) (hq : absF [47] q = (y, 0)) (hxy : x ≠ y) (hy : kindS S y = 0) (h : (moveS S p q).2 = 0) : BackS S (moveS S p q).1 (moveS (moveS S p q).1 q p).1 p q x := by
  obtain ⟨a, b, hm, he, rfl, rfl⟩ := move_zero hS t hp hq hxy h
  obtain ⟨n, hn⟩ := hm.node
  obtain ⟨h2, w2, k2⟩ := hm.again
  obtain ⟨h3, w3, k3⟩ := h2.again
  have hyb : kindM S.m (joinF b) = 0 := by
    unfold kindS absS at hy
    rw [absF_good hm.gb] at hy
    simpa [hm.wayb] using hy
  have e2 := h2.done hq hp w2
  have hb := hm.back hyb hn
  have e1 : (moveS S p q).1 = moveQ S (joinF a) (joinF b) := by rw [he]
  have ab1 : absS (moveQ S (joinF a) (joinF b)) q = (joinF b, 0) := by unfold absS; rw [hq]; simp [w2]
  have ab2 : absS (moveQ (moveQ S (joinF a) (joinF b)) (joinF b) (joinF a)) p = (joinF a, 0) := by unfold absS; rw [hp]; simp [w3]
  have aa1 : absS (moveQ S (joinF a) (joinF b)) p = (joinF a, 0) := by unfold absS; rw [hp]; simp [h2.wayb]
  have hg2 : getG (moveQ (moveQ S (joinF a) (joinF b)) (joinF b) (joinF a)).m (bs (joinF a)) = some ⟨n.dir, n.data, S.clock + 2⟩ := by rw [hb, getG_put, if_pos rfl]
  obtain ⟨k, hk⟩ := List.getElem?_of_mem (getG_mem hn)
  rw [← e1] at e2
  refine ⟨?_, ?_, by rw [e2], by rw [he]; exact hm.moved_wf, by rw [e2, e1]; exact h2.moved_wf, by rw [he]; rfl, by rw [e2, e1]; rfl, ?_, k, n, hk, ?_⟩
  · rw [e1]
    unfold kindS
    rw [aa1]
    simpa using k2
  · rw [e1]
    unfold kindS
    rw [ab1]
    simpa using h2.there
  · rw [e2, e1]
    unfold timeS
    rw [ab2]
    simp only [ne_eq, not_true_eq_false, if_false]
    unfold timeM
    rw [hg2]
  · rw [e2, e1]
    dsimp only
    rw [hb]
    exact putG_set hS.rise hk rfl
set_option maxRecDepth 100000 in
set_option maxHeartbeats 16000000 in
theorem law_vfsMoves (A : Option Addr) (c : Nat) (L : List Ac4) (pa pb : ByteArray) (m0 : L.length ≤ maxLen) (s0 : ∀ x ∈ L, szA x) (w1 : pa.size ≤ maxLen) (w2 : pb.size ≤ maxLen) (W : World) (hm : MX W) (h : AR4 W A L) :
    Calls Tryz.prog 5 #[.slice A L.length c, .string pa, .string pb] W fun e w' => e = .returned (.bool true) ∧ Below W.heap.size W w' := by
  have HM := hide hm
  have HAR := hide h
  have HAL := hide (alive4_any W hm)
  have HS0 := hide s0
  obtain ⟨nl, hn⟩ : ∃ n, L.length = n := ⟨_, rfl⟩
  have HN := hide hn
  have hm0 : nl ≤ 9223372036854775807 := by rw [← hn]; exact m0
  have zw1 : pa.size ≤ 9223372036854775807 := w1
  have zw2 : pb.size ≤ 9223372036854775807 := w2
  rw [hn]
  clear hm h s0 hn m0 w1 w2
  go_enter Tryz.func5, Tryz.ntmps5
  go_wp2_with fail
  refine HAL.out.mono ?_
  rintro e w1 ⟨rfl, hb1⟩
  have HB1 := hide hb1
  clear hb1 HAL
  have hbg := big_any A c L w1 (HAR.out.below HB1.out).1 (by rw [HN.out]; exact hm0) HS0.out
  rw [HN.out] at hbg
  have HBC := hide hbg
  clear hbg
  go_wp2_with fail
  refine HBC.out.mono ?_
  rintro e w' ⟨rfl, rfl⟩
  clear HBC
  cases hbig : bigF L with
  | true =>
    go_wp2
    go_ret
    exact ⟨rfl, HB1.out⟩
  | false =>
  obtain ⟨hok, hl60⟩ := bigF_noM hbig
  have HOK := hide hok
  rw [HN.out] at hl60
  clear hok hbig
  by_cases n0 : 100 < pa.size
  · have d0 : (100 : Int) < (pa.size : Int) := by omega
    go_wp2
    go_ret
    exact ⟨rfl, HB1.out⟩
  have d0 : ¬ (100 : Int) < (pa.size : Int) := by omega
  by_cases n5 : 100 < pb.size
  · have d1 : (100 : Int) < (pb.size : Int) := by omega
    go_wp2
    go_ret
    exact ⟨rfl, HB1.out⟩
  have d1 : ¬ (100 : Int) < (pb.size : Int) := by omega
  have HNW := hide (vnew_any 30 3000 w1 (by omega) (by omega) (by omega) (by omega))
  go_wp2_with fail
  refine HNW.out.mono ?_
  rintro e w4 ⟨rfl, hb4, hv4, hs4⟩
  have HNR := hide (rnew_any 30 3000 w4)
  go_wp2_with fail
  refine HNR.out.mono ?_
  rintro e w5 ⟨rfl, hb5, hr5, hs5⟩
  have HI0 := hide (Two.start 30 3000 HB1.out hb4 hv4 hs4 hb5 hr5 hs5)
  obtain ⟨f, hf⟩ : ∃ f, w1.heap.size + 1 = f := ⟨_, rfl⟩
  obtain ⟨r, hr⟩ : ∃ f, w4.heap.size = f := ⟨_, rfl⟩
  rw [hf, hr] at HI0
  rw [hf, hr]
  clear hb4 hv4 hs4 hb5 hr5 hs5 HNW HNR hf hr
  go_wp2
  go_loopw [11] (fun v11 wr => ∃ k : Nat, v11 = .int .i64 k ∧ k ≤ nl ∧ Hid (InvN (Two f r (actsS (newS 30 3000) (L.take k)) (actsS (newS 30 3000) (L.take k)) noneN) W.heap.size W wr)) (fun v11 _ => nl - (intOf v11).toNat)
  case atStart => exact ⟨0, rfl, Nat.zero_le _, HI0.out⟩
  case round =>
    obtain ⟨wo, hwo⟩ : ∃ Z, Z = wr := ⟨_, rfl⟩
    subst hwo
    obtain ⟨i, rfl, hi, HI⟩ := hrel
    by_cases hlt : i < nl
    · have har := HAR.out.below HI.out.below
      obtain ⟨y, hy⟩ : ∃ y, L[i]? = some y := ⟨L[i]'(by have := HN.out; omega), List.getElem?_eq_getElem _⟩
      obtain ⟨gs, og, rfl, hgs, hc⟩ := har.1 i y hy
      have c0 : wo.cell? ⟨gs, og + i * 5, none⟩ = some (.int .i64 y.way) := by have := hc 0 _ rfl; simpa using this
      have c1 : wo.cell? ⟨gs, og + i * 5 + 1, none⟩ = some (.string y.p) := hc 1 _ rfl
      have c2 : wo.cell? ⟨gs, og + i * 5 + 2, none⟩ = some (.string y.q) := hc 2 _ rfl
      have c3 : wo.cell? ⟨gs, og + i * 5 + 3, none⟩ = some (.slice y.A y.b.length y.c) := hc 3 _ rfl
      have c4 : wo.cell? ⟨gs, og + i * 5 + 4, none⟩ = some (.bool y.more) := hc 4 _ rfl
      obtain ⟨z1, z2, z3⟩ := okA_iffM (HOK.out y (List.mem_of_getElem? hy))
      have hgd := GoodS.acts (L.take i) (GoodS.new 30 3000)
      have HDO := hide (do_any f r _ y noneN noneN.fr W wo HI.out hgd (by decide) (by rw [List.length_take]; omega) HM.out z1 z2 z3 (HAR.out.2 y (List.mem_of_getElem? hy)))
      rw [← actsS_take hy] at HDO
      have b1 : (i : Int) < (nl : Int) := by omega
      clear hy hc hgs z1 z2 z3 hgd har
      go_wp2_with fail
      refine HDO.out.mono ?_
      rintro e w6 ⟨rfl, hi6⟩
      have HI6 := hide hi6
      clear hi6
      go_wp2
      go_roundw
      case rel => exact ⟨i + 1, by go_num, by omega, HI6.out⟩
      case measure => simp [intOf]; omega
    obtain rfl : i = nl := by omega
    rw [List.take_of_length_le (by have := HN.out; omega)] at HI
    have hgd := GoodS.acts L (GoodS.new 30 3000)
    rw [HN.out] at hgd
    obtain ⟨S, hSe⟩ : ∃ S, actsS (newS 30 3000) L = S := ⟨_, rfl⟩
    rw [hSe] at HI hgd
    obtain ⟨ta, hta⟩ : ∃ t : T, bs t = pa := ⟨pa.data.toList, bs_of pa⟩
    obtain ⟨tb, htb⟩ : ∃ t : T, bs t = pb := ⟨pb.data.toList, bs_of pb⟩
    have hla : ta.length ≤ 100 := by rw [← bs_size, hta]; omega
    have hlb : tb.length ≤ 100 := by rw [← bs_size, htb]; omega
    have HLL := hide (And.intro hla hlb)
    have HG := hide hgd
    have HGS := hide (show S.bytes ≤ 400000 ∧ S.clock ≤ 1000 from ⟨by rw [hgd.bytes]; decide, by have := hgd.clock; omega⟩)
    have HRA := hide (rabs_any [47] ta wo (by simp) (by omega))
    have HRB := hide (fun Z => rabs_any [47] tb Z (by simp) (by omega))
    unfold AbsPost at HRA HRB
    rw [show bs [47] = (⟨#[47]⟩ : ByteArray) from rfl, hta] at HRA
    rw [show bs [47] = (⟨#[47]⟩ : ByteArray) from rfl, htb] at HRB
    obtain ⟨r1, hr1⟩ : ∃ r, absF [47] ta = r := ⟨_, rfl⟩
    obtain ⟨x, e1⟩ := r1
    obtain ⟨r2, hr2⟩ : ∃ r, absF [47] tb = r := ⟨_, rfl⟩
    obtain ⟨y, e2⟩ := r2
    rw [hr1] at HRA
    rw [hr2] at HRB
    dsimp only at HRA HRB
    have HTA := hide hta
    have HTB := hide htb
    have HR1 := hide hr1
    have HR2 := hide hr2
    clear hgd hSe hlt hla hlb hta htb hr1 hr2
    go_wp2_with fail
    refine HRA.out.mono ?_
    rintro e w6 ⟨rfl, hb6⟩
    have HI6 := hide (HI.out.step (Two.fr f r S S noneN.fr) hb6 (Nat.le_refl _))
    clear hb6 HRA
    go_wp2_with fail
    refine (HRB.out w6).mono ?_
    rintro e w7 ⟨rfl, hb7⟩
    have HI7 := hide (HI6.out.step (Two.fr f r S S noneN.fr) hb7 (Nat.le_refl _))
    clear hb7 HRB HI6 HI
    by_cases c1 : e1 = 0
    case neg =>
      obtain ⟨t1, t2⟩ := ne0 c1
      clear c1
      go_wp2
      go_ret
      exact ⟨rfl, HI7.out.below⟩
    subst c1
    by_cases c2 : e2 = 0
    case neg =>
      obtain ⟨t1, t2⟩ := ne0 c2
      clear c2
      go_wp2
      go_ret
      exact ⟨rfl, HI7.out.below⟩
    subst c2
    by_cases c3 : x = y
    · have ht2 : ((bs x).toList == (bs y).toList) = true := by rw [c3]; simp
      clear c3
      go_wp2
      go_ret
      exact ⟨rfl, HI7.out.below⟩
    have ht2 : ((bs x).toList == (bs y).toList) = false := by rw [bs_toList, bs_toList]; simpa using c3
    have HXY := hide c3
    have hyl : y.length ≤ 200 := by have := absF_len tb; rw [HR2.out] at this; exact this
    have HRK := hide (show Calls Tryz.prog 28 #[.pointer (some ⟨r, 0, none⟩), .string (bs y)] w7 fun e w' => e = .returned (.int .i64 (kindS S y)) ∧ Below w7.heap.size w7 w' from by
      obtain ⟨Ar, cr, Pr, ho⟩ := RS.o HI7.out.fst.snd.hs
      exact rKind_any r S Ar cr Pr y w7 ho (by have := row_len HG.out.wf ho.eq; omega) (by omega))
    clear c3
    obtain ⟨ky, hky⟩ : ∃ k, kindS S y = k := ⟨_, rfl⟩
    rw [hky] at HRK
    go_wp2_with fail
    refine HRK.out.mono ?_
    rintro e w8 ⟨rfl, hb8⟩
    have HI8 := hide (HI7.out.step (Two.fr f r S S noneN.fr) hb8 (Nat.le_refl _))
    clear hb8 HRK HI7
    by_cases c4 : ky = 0
    case neg =>
      obtain ⟨t1, t2⟩ := ne0 c4
      clear c4
      go_wp2
      go_ret
      exact ⟨rfl, HI8.out.below⟩
    subst c4
    have HKY := hide hky
    have HALL := hide (fun (S' : St) (hw : WfS S') (Z : World) (hh : Hs (VS f S') Z) => all_any f S' hw Z hh)
    have HA8 := hide (HALL.out S HG.out.wf w8 (Two.vs HI8.out))
    unfold AllPost at HA8
    clear hky
    go_wp2_with fail
    refine HA8.out.mono ?_
    rintro e w9 ⟨⟨A1, c1, P1, rfl, hc1, hn1, hs1⟩, hb9⟩
    have HI9 := hide (Two.row HI8.out noneN.fr (Nat.le_refl _) hb9 hn1)
    have HS1 := hide hs1
    have hpl1 : P1.length ≤ 10000 := by rw [← stripN_len, hs1]; have := HG.out.wf.nodes; have := HG.out.wf.n10; omega
    obtain ⟨m1, hm1⟩ : ∃ n, P1.length = n := ⟨_, rfl⟩
    have HM1 := hide hm1
    rw [hm1] at hpl1 hc1 ⊢
    have HXR := hide (noneN.fr.join (RowX.fr A1 P1))
    have hF := Two.callF HI9.out (Nat.le_refl _) HXR.out (FsPost.specN (fun T N hv ok => move_any f S ta tb T N w9 hv ok HG.out.wf (HM.out.below HI9.out.below) (by have := HLL.out; omega) (by have := HLL.out; omega) (by have := HGS.out; omega)))
    rw [HTA.out, HTB.out] at hF
    have HF := hide hF
    have HERR := hide (fun (h : (moveS S ta tb).2 ≠ 0) => moveS_err HG.out.wf HG.out.hang ta tb h)
    have HBK := hide (fun (h : (moveS S ta tb).2 = 0) => there_back HG.out.wf HG.out.hang HR1.out HR2.out HXY.out HKY.out h)
    obtain ⟨R, hR⟩ : ∃ y, moveS S ta tb = y := ⟨_, rfl⟩
    rw [hR] at HF HERR HBK
    have HRR := hide hR
    clear hn1 hs1 hb9 hm1 HA8 hF hR
    go_wp2_with fail
    refine HF.out.mono ?_
    rintro e w10 ⟨rfl, hi10⟩
    have HI10 := hide hi10
    clear hi10
    go_wp2_with fail
    refine (num4_any _ _).mono ?_
    rintro e w' ⟨rfl, rfl⟩
    by_cases e0 : R.2 = 0
    case neg =>
      have hst := HERR.out e0
      obtain ⟨t1, t2⟩ := ne0 e0
      obtain ⟨er, her⟩ : ∃ e, R.2 = e := ⟨_, rfl⟩
      rw [her] at t1 t2 ⊢
      have hi10 := HI10.out
      rw [hst] at hi10
      have HJ10 := hide hi10
      have HA10 := hide (HALL.out S HG.out.wf w10 (Two.vs hi10))
      unfold AllPost at HA10
      clear hi10 hst her e0
      go_wp2_with fail
      refine HA10.out.mono ?_
      rintro e w11 ⟨⟨A2, c2, P2, rfl, hc2, hn2, hs2⟩, hb11⟩
      have hj11 := HJ10.out.step (Two.fr f r S S HXR.out) hb11 (Nat.le_refl _)
      obtain ⟨r1, r2⟩ := RowX.get hj11.snd.snd
      have hsm := same4_any A1 A2 c1 c2 P1 P2 w11 r1 hn2.rg r2 (fun z hz => ⟨(hn2.dat z hz).1, (hn2.dat z hz).2.1⟩) (by rw [HM1.out]; omega) (HS1.out.trans hs2.symm)
      rw [HM1.out] at hsm
      have HSM := hide hsm
      have HJ11 := hide hj11
      clear hc2 hn2 hs2 hb11 hj11 r1 r2 hsm
      go_wp2_with fail
      refine HSM.out.mono ?_
      rintro e w12 ⟨rfl, hb12⟩
      have HB12 := hide (below_up HJ11.out.below hb12 HJ11.out.below.size)
      clear hb12
      go_wp2
      go_ret
      exact ⟨by simp, HB12.out⟩
    have hbk := HBK.out e0
    obtain ⟨S1, hS1⟩ : ∃ S1, R.1 = S1 := ⟨_, rfl⟩
    rw [hS1] at hbk HI10
    rw [e0]
    have hmx10 := HM.out.below HI10.out.below
    have HKA := hide (vkind_any f S1 ta w10 (Two.vs HI10.out) hmx10 (by have := HLL.out; omega))
    rw [HTA.out, hbk.gone] at HKA
    have HKB := hide (fun (Z : World) (hh : InvN (Two f r S1 S (sep noneN (RowX A1 P1))) W.heap.size W Z) => vkind_any f S1 tb Z (Two.vs hh) (HM.out.below hh.below) (by have := HLL.out; omega))
    rw [HTB.out] at HKB
    obtain ⟨kb, hkb⟩ : ∃ k, kindS S1 tb = k := ⟨_, rfl⟩
    have hkb0 : kb ≠ 0 := by rw [← hkb]; exact hbk.there
    obtain ⟨tb1, tb2⟩ := ne0 hkb0
    rw [hkb] at HKB
    have hck1 : S1.clock ≤ 1000000000 := by rw [hbk.ck1]; have := HGS.out; omega
    have HMV := hide (fun (Z : World) (hh : InvN (Two f r S1 S (sep noneN (RowX A1 P1))) W.heap.size W Z) => Two.callF hh (Nat.le_refl _) HXR.out (FsPost.specN (fun T N hv ok => move_any f S1 tb ta T N Z hv ok hbk.wf1 (HM.out.below hh.below) (by have := HLL.out; omega) (by have := HLL.out; omega) hck1)))
    rw [HTA.out, HTB.out, hbk.back] at HMV
    have HBK2 := hide hbk
    obtain ⟨S2, hS2⟩ : ∃ S2, (moveS S1 tb ta).1 = S2 := ⟨_, rfl⟩
    rw [hS2] at HMV HBK2
    obtain ⟨kx, nx, hkx, hset⟩ := HBK2.out.same
    have HSET := hide (And.intro hkx hset)
    clear hmx10 hbk hkb hkb0 hck1 hS1 hS2 hkx hset e0 HBK HERR
    go_wp2_with fail
    refine HKA.out.mono ?_
    rintro e w11 ⟨rfl, hb11⟩
    have HI11 := hide (HI10.out.step (Two.fr f r S1 S HXR.out) hb11 (Nat.le_refl _))
    clear hb11
    go_wp2_with fail
    refine (HKB.out w11 HI11.out).mono ?_
    rintro e w12 ⟨rfl, hb12⟩
    have HI12 := hide (HI11.out.step (Two.fr f r S1 S HXR.out) hb12 (Nat.le_refl _))
    clear hb12
    go_wp2_with fail
    refine (HMV.out w12 HI12.out).mono ?_
    rintro e w13 ⟨rfl, hi13⟩
    have HI13 := hide hi13
    have HA13 := hide (HALL.out S2 HBK2.out.wf2 w13 (Two.vs hi13))
    unfold AllPost at HA13
    clear hi13
    go_wp2_with fail
    refine HA13.out.mono ?_
    rintro e w14 ⟨⟨A2, c2, P2, rfl, hc2, hn2, hs2⟩, hb14⟩
    have HI14 := hide (Two.row HI13.out HXR.out (Nat.le_refl _) hb14 hn2)
    have hlen2 : P2.length = m1 := by
      rw [← stripN_len, hs2, HSET.out.2, List.length_set, ← HS1.out, stripN_len, HM1.out]
    have HL2 := hide hlen2
    have HS2 := hide hs2
    rw [hlen2] at hc2 ⊢
    have hci : (m1 : Int) ≤ (c1 : Int) := by omega
    have hci2 : (m1 : Int) ≤ (c2 : Int) := by omega
    have HXR2 := hide (HXR.out.join (RowX.fr A2 P2))
    clear hn2 hs2 hb14 hlen2 HI13 HI12 HI11 HI10 HA13
    go_wp2_with fail
    refine (num4_any _ _).mono ?_
    rintro e w' ⟨rfl, rfl⟩
    go_wp2
    go_loopw [22] (fun v22 wr => ∃ (k j : Nat), v22 = .int .i64 k ∧ k ≤ m1 ∧ wr = w14.drewN j) (fun v22 _ => m1 - (intOf v22).toNat)
    case atStart => exact ⟨0, 0, rfl, Nat.zero_le _, rfl⟩
    case round =>
      obtain ⟨k, j, rfl, hk, rfl⟩ := hrel
      have HIJ := hide (show InvN (Two f r S2 S (sep (sep noneN (RowX A1 P1)) (RowX A2 P2))) W.heap.size W (w14.drewN j) from HI14.out.step (Two.fr f r S2 S HXR2.out) (below_drewN (Below.refl _ _) j) (Nat.le_refl _))
      by_cases hkm : k < m1
      case neg =>
        have HTM := hide (vtime_any f S2 ta (w14.drewN j) (Two.vs HIJ.out) (HM.out.below HIJ.out.below) (by have := HLL.out; omega))
        rw [HTA.out, HBK2.out.time] at HTM
        have HCK := hide (fun (Z : World) (hh : InvN (Two f r S2 S (sep (sep noneN (RowX A1 P1)) (RowX A2 P2))) W.heap.size W Z) => clock_any f S2 Z (Two.vs hh))
        rw [HBK2.out.ck2] at HCK
        obtain ⟨wj, hwj⟩ : ∃ Z, w14.drewN j = Z := ⟨_, rfl⟩
        rw [hwj] at HIJ HTM ⊢
        clear hwj
        go_wp2_with fail
        refine HTM.out.mono ?_
        rintro e w15 ⟨rfl, hb15⟩
        have HI15 := hide (HIJ.out.step (Two.fr f r S2 S HXR2.out) hb15 (Nat.le_refl _))
        clear hb15
        go_wp2_with fail
        refine (HCK.out w15 HI15.out).mono ?_
        rintro e w' ⟨rfl, rfl⟩
        go_wp2
        go_ret
        exact ⟨by simp, HI15.out.below⟩
      obtain ⟨z1, hz1⟩ : ∃ z, P1[k]? = some z := ⟨P1[k]'(by have := HM1.out; omega), List.getElem?_eq_getElem _⟩
      obtain ⟨z2, hz2⟩ : ∃ z, P2[k]? = some z := ⟨P2[k]'(by have := HL2.out; omega), List.getElem?_eq_getElem _⟩
      obtain ⟨g1a, g1d⟩ := RowX.get HI14.out.snd.fst.snd
      obtain ⟨g2a, g2d⟩ := RowX.get HI14.out.snd.snd
      obtain ⟨g1, o1, rfl, hg1, hc1'⟩ := g1a k z1 hz1
      obtain ⟨g2, o2, rfl, hg2, hc2'⟩ := g2a k z2 hz2
      have hrel2 : z2.1 = z1.1 ∧ z2.2.nd.dir = z1.2.nd.dir ∧ z2.2.nd.data = z1.2.nd.data ∧ (z1.1 ≠ bs x → z2.2.nd.time = z1.2.nd.time) := by
        obtain ⟨hkx, hset⟩ := HSET.out
        have q1 : S.m[k]? = some (z1.1, z1.2.nd) := by
          rw [← HS1.out]
          unfold stripN
          rw [List.getElem?_map, hz1]; rfl
        have q2 : S2.m[k]? = some (z2.1, z2.2.nd) := by
          rw [← HS2.out]
          unfold stripN
          rw [List.getElem?_map, hz2]; rfl
        rw [hset, List.getElem?_set] at q2
        by_cases ek : kx = k
        · subst ek
          rw [if_pos rfl] at q2
          split at q2
          · injection q2 with q2
            rw [q1] at hkx
            injection hkx with hkx
            have a1 := congrArg Prod.fst q2
            have a2 := congrArg Prod.snd q2
            have a3 := congrArg Prod.fst hkx
            have a4 := congrArg Prod.snd hkx
            dsimp only at a1 a2 a3 a4
            refine ⟨by rw [← a1, a3], by rw [← a2, a4], by rw [← a2, a4], fun h => absurd a3 h⟩
          · cases q2
        · rw [if_neg ek, q1] at q2
          injection q2 with q2
          have a1 := congrArg Prod.fst q2
          have a2 := congrArg Prod.snd q2
          dsimp only at a1 a2
          exact ⟨a1.symm, by rw [a2], by rw [a2], fun _ => by rw [a2]⟩
      obtain ⟨v1, v2, v3, v4⟩ := hrel2
      have p0 : w14.cell? ⟨g1, o1 + k * 4, none⟩ = some (.string z1.1) := by have := hc1' 0 _ rfl; simpa using this
      have p1 : w14.cell? ⟨g1, o1 + k * 4 + 1, none⟩ = some (.bool z1.2.nd.dir) := hc1' 1 _ rfl
      have p2 : w14.cell? ⟨g1, o1 + k * 4 + 2, none⟩ = some (.slice z1.2.A z1.2.nd.data.length z1.2.c) := hc1' 2 _ rfl
      have p3 : w14.cell? ⟨g1, o1 + k * 4 + 3, none⟩ = some (.int .i64 z1.2.nd.time) := hc1' 3 _ rfl
      have q0 : w14.cell? ⟨g2, o2 + k * 4, none⟩ = some (.string z2.1) := by have := hc2' 0 _ rfl; simpa using this
      have q1 : w14.cell? ⟨g2, o2 + k * 4 + 1, none⟩ = some (.bool z2.2.nd.dir) := hc2' 1 _ rfl
      have q2 : w14.cell? ⟨g2, o2 + k * 4 + 2, none⟩ = some (.slice z2.2.A z2.2.nd.data.length z2.2.c) := hc2' 2 _ rfl
      have q3 : w14.cell? ⟨g2, o2 + k * 4 + 3, none⟩ = some (.int .i64 z2.2.nd.time) := hc2' 3 _ rfl
      obtain ⟨d1', d2'⟩ := g1d z1 (List.mem_of_getElem? hz1)
      obtain ⟨d3', d4'⟩ := g2d z2 (List.mem_of_getElem? hz2)
      rw [v1] at q0
      rw [v2] at q1
      rw [v3] at q2 d3' d4'
      have r1 := fun j => conv_RG (w := w14.drewN j) (c := z1.2.c) (d1'.drew ⟨j, rfl⟩) d2'
      have r2 := fun j => conv_RG (w := w14.drewN j) (c := z2.2.c) (d3'.drew ⟨j, rfl⟩) d4'
      obtain ⟨s, hs⟩ : ∃ z, z1.1 = z := ⟨_, rfl⟩
      obtain ⟨dr, hdr⟩ : ∃ z, z1.2.nd.dir = z := ⟨_, rfl⟩
      obtain ⟨tm, htm⟩ : ∃ z, z1.2.nd.time = z := ⟨_, rfl⟩
      obtain ⟨tn, htn⟩ : ∃ z, z2.2.nd.time = z := ⟨_, rfl⟩
      obtain ⟨D, hD⟩ : ∃ z, z1.2.nd.data = z := ⟨_, rfl⟩
      obtain ⟨dl, hdl⟩ : ∃ z, D.length = z := ⟨_, rfl⟩
      obtain ⟨t, ht⟩ : ∃ z, bs D = z := ⟨_, rfl⟩
      obtain ⟨Z1, hA1⟩ : ∃ z, z1.2.A = z := ⟨_, rfl⟩
      obtain ⟨y1, hc1e⟩ : ∃ z, z1.2.c = z := ⟨_, rfl⟩
      obtain ⟨Z2, hA2⟩ : ∃ z, z2.2.A = z := ⟨_, rfl⟩
      obtain ⟨y2, hc2e⟩ : ∃ z, z2.2.c = z := ⟨_, rfl⟩
      rw [hs] at p0 q0 v4
      rw [hdr] at p1 q1
      rw [htm] at p3 v4
      rw [htn] at q3 v4
      rw [hD, hdl] at p2 q2
      simp only [hD, hdl, ht, hA1, hc1e] at r1
      simp only [hD, hdl, ht, hA2, hc2e] at r2
      rw [hA1, hc1e] at p2
      rw [hA2, hc2e] at q2
      have HSS := hide (fun (j : Nat) => show ((fun Z => Z.cell? ⟨g1, o1 + k * 4, none⟩ = some (.string s) ∧ Z.cell? ⟨g1, o1 + k * 4 + 1, none⟩ = some (.bool dr) ∧ Z.cell? ⟨g1, o1 + k * 4 + 2, none⟩ = some (.slice Z1 dl y1) ∧ Z.cell? ⟨g1, o1 + k * 4 + 3, none⟩ = some (.int .i64 tm) ∧ Z.cell? ⟨g2, o2 + k * 4, none⟩ = some (.string s) ∧ Z.cell? ⟨g2, o2 + k * 4 + 1, none⟩ = some (.bool dr) ∧ Z.cell? ⟨g2, o2 + k * 4 + 2, none⟩ = some (.slice Z2 dl y2) ∧ Z.cell? ⟨g2, o2 + k * 4 + 3, none⟩ = some (.int .i64 tn) ∧ (convert 23 9 (.slice Z1 dl y1)).run Tryz.prog Z = .ok (.string t) Z ∧ (convert 23 9 (.slice Z2 dl y2)).run Tryz.prog Z = .ok (.string t) Z)) (w14.drewN j) from ⟨p0, p1, p2, p3, q0, q1, q2, q3, r1 j, r2 j⟩)
      have b1 : (k : Int) < (m1 : Int) := by omega
      have V4 := hide v4
      clear hz1 hz2 g1a g1d g2a g2d hg1 hg2 hc1' hc2' v1 v2 v3 v4 p0 p1 p2 p3 q0 q1 q2 q3 d1' d2' d3' d4' r1 r2 hs hdr htm htn hD hdl ht hA1 hc1e hA2 hc2e
      by_cases hsx : s = bs x
      · have hse : (s.toList == (bs x).toList) = true := by rw [hsx]; simp
        clear hsx
        go_wp2_with fail
        refine wp_region_held_drew (S := (fun Z => Z.cell? ⟨g1, o1 + k * 4, none⟩ = some (.string s) ∧ Z.cell? ⟨g1, o1 + k * 4 + 1, none⟩ = some (.bool dr) ∧ Z.cell? ⟨g1, o1 + k * 4 + 2, none⟩ = some (.slice Z1 dl y1) ∧ Z.cell? ⟨g1, o1 + k * 4 + 3, none⟩ = some (.int .i64 tm) ∧ Z.cell? ⟨g2, o2 + k * 4, none⟩ = some (.string s) ∧ Z.cell? ⟨g2, o2 + k * 4 + 1, none⟩ = some (.bool dr) ∧ Z.cell? ⟨g2, o2 + k * 4 + 2, none⟩ = some (.slice Z2 dl y2) ∧ Z.cell? ⟨g2, o2 + k * 4 + 3, none⟩ = some (.int .i64 tn) ∧ (convert 23 9 (.slice Z1 dl y1)).run Tryz.prog Z = .ok (.string t) Z ∧ (convert 23 9 (.slice Z2 dl y2)).run Tryz.prog Z = .ok (.string t) Z)) (by kernel_rfl) (HSS.out (j + 1)) (fun hHeld => ?_)
        refine wpAnyH_tk (i := 0) (oi := _) (v := ?vM0) rfl rfl (by kernel_rfl) (by kernel_rfl) (by kernel_rfl) (fun _ _ _ h => h) (Or.inl ⟨by kernel_rfl, ?yM0⟩) (by assumption) ?rM0
        case yM0 =>
          intro w hSw
          (try dsimp only at hSw)
          go_simp
          try with_reducible rfl
        try simp only [List.setIfInBounds_toArray, List.set_cons_zero, List.set_cons_succ]
        refine wpAnyH_tk (i := 1) (oi := _) (v := ?vM1) rfl rfl (by kernel_rfl) (by kernel_rfl) (by kernel_rfl) (fun _ _ _ h => h) (Or.inl ⟨by kernel_rfl, ?yM1⟩) (by assumption) ?rM1
        case yM1 =>
          intro w hSw
          (try dsimp only at hSw)
          go_simp
          try with_reducible rfl
        try simp only [List.setIfInBounds_toArray, List.set_cons_zero, List.set_cons_succ]
        refine wpAnyH_tk (i := 2) (oi := _) (v := ?vM2) rfl rfl (by kernel_rfl) (by kernel_rfl) (by kernel_rfl) (fun _ _ _ h => h) (Or.inl ⟨by kernel_rfl, ?yM2⟩) (by assumption) ?rM2
        case yM2 =>
          intro w hSw
          (try dsimp only at hSw)
          go_simp
          try with_reducible rfl
        try simp only [List.setIfInBounds_toArray, List.set_cons_zero, List.set_cons_succ]
        refine wpAnyH_tk (i := 3) (oi := _) (v := ?vM3) rfl rfl (by kernel_rfl) (by kernel_rfl) (by kernel_rfl) (fun _ _ _ h => h) (Or.inl ⟨by kernel_rfl, ?yM3⟩) (by assumption) ?rM3
        case yM3 =>
          intro w hSw
          (try dsimp only at hSw)
          go_simp
          try with_reducible rfl
        try simp only [List.setIfInBounds_toArray, List.set_cons_zero, List.set_cons_succ]
        refine wpAnyH_tk (i := 4) (oi := _) (v := ?vM4) rfl rfl (by kernel_rfl) (by kernel_rfl) (by kernel_rfl) (fun _ _ _ h => h) (Or.inl ⟨by kernel_rfl, ?yM4⟩) (by assumption) ?rM4
        case yM4 =>
          intro w hSw
          (try dsimp only at hSw)
          go_simp
          try with_reducible rfl
        try simp only [List.setIfInBounds_toArray, List.set_cons_zero, List.set_cons_succ]
        refine wpAnyH_tk (i := 5) (oi := _) (v := ?vM5) rfl rfl (by kernel_rfl) (by kernel_rfl) (by kernel_rfl) (fun _ _ _ h => h) (Or.inl ⟨by kernel_rfl, ?yM5⟩) (by assumption) ?rM5
        case yM5 =>
          intro w hSw
          (try dsimp only at hSw)
          go_simp
          try with_reducible rfl
        try simp only [List.setIfInBounds_toArray, List.set_cons_zero, List.set_cons_succ]
        refine wpAnyH_tk (i := 6) (oi := _) (v := ?vM6) rfl rfl (by kernel_rfl) (by kernel_rfl) (by kernel_rfl) (fun _ _ _ h => h) (Or.inl ⟨by kernel_rfl, ?yM6⟩) (by assumption) ?rM6
        case yM6 =>
          intro w hSw
          (try dsimp only at hSw)
          go_simp
          try with_reducible rfl
        try simp only [List.setIfInBounds_toArray, List.set_cons_zero, List.set_cons_succ]
        refine wpAnyH_tk (i := 7) (oi := _) (v := ?vM7) rfl rfl (by kernel_rfl) (by kernel_rfl) (by kernel_rfl) (fun _ _ _ h => h) (Or.inl ⟨by kernel_rfl, ?yM7⟩) (by assumption) ?rM7
        case yM7 =>
          intro w hSw
          (try dsimp only at hSw)
          go_simp
          try with_reducible rfl
        try simp only [List.setIfInBounds_toArray, List.set_cons_zero, List.set_cons_succ]
        refine wpAnyH_tk (i := 8) (oi := _) (v := ?vM8) rfl rfl (by kernel_rfl) (by kernel_rfl) (by kernel_rfl) (fun _ _ _ h => h) (Or.inl ⟨by kernel_rfl, ?yM8⟩) (by assumption) ?rM8
        case yM8 =>
          intro w hSw
          (try dsimp only at hSw)
          go_simp
          try with_reducible rfl
        try simp only [List.setIfInBounds_toArray, List.set_cons_zero, List.set_cons_succ]
        refine wpAnyH_tk (i := 9) (oi := _) (v := ?vM9) rfl rfl (by kernel_rfl) (by kernel_rfl) (by kernel_rfl) (fun _ _ _ h => h) (Or.inl ⟨by kernel_rfl, ?yM9⟩) (by assumption) ?rM9
        case yM9 =>
          intro w hSw
          (try dsimp only at hSw)
          go_simp
          try with_reducible rfl
        try simp only [List.setIfInBounds_toArray, List.set_cons_zero, List.set_cons_succ]
        refine wpAnyH_tk (i := 10) (oi := _) (v := ?vM10) rfl rfl (by kernel_rfl) (by kernel_rfl) (by kernel_rfl) (fun _ _ _ h => h) (Or.inl ⟨by kernel_rfl, ?yM10⟩) (by assumption) ?rM10
        case yM10 =>
          intro w hSw
          (try dsimp only at hSw)
          go_simp
          try with_reducible rfl
        try simp only [List.setIfInBounds_toArray, List.set_cons_zero, List.set_cons_succ]
        refine wpAnyH_tk (i := 11) (oi := _) (v := ?vM11) rfl rfl (by kernel_rfl) (by kernel_rfl) (by kernel_rfl) (fun _ _ _ h => h) (Or.inl ⟨by kernel_rfl, ?yM11⟩) (by assumption) ?rM11
        case yM11 =>
          intro w hSw
          (try dsimp only at hSw)
          go_simp
          try with_reducible rfl
        try simp only [List.setIfInBounds_toArray, List.set_cons_zero, List.set_cons_succ]
        refine wpAnyH_tk (i := 12) (oi := _) (v := ?vM12) rfl rfl (by kernel_rfl) (by kernel_rfl) (by kernel_rfl) (fun _ _ _ h => h) (Or.inl ⟨by kernel_rfl, ?yM12⟩) (by assumption) ?rM12
        case yM12 =>
          intro w hSw
          (try dsimp only at hSw)
          go_simp
          try with_reducible rfl
        try simp only [List.setIfInBounds_toArray, List.set_cons_zero, List.set_cons_succ]
        refine wpAnyH_tk (i := 13) (oi := _) (v := ?vM13) rfl rfl (by kernel_rfl) (by kernel_rfl) (by kernel_rfl) (fun _ _ _ h => h) (Or.inl ⟨by kernel_rfl, ?yM13⟩) (by assumption) ?rM13
        case yM13 =>
          intro w hSw
          (try dsimp only at hSw)
          go_simp
          try with_reducible rfl
        try simp only [List.setIfInBounds_toArray, List.set_cons_zero, List.set_cons_succ]
        refine wpAnyH_tk (i := 14) (oi := _) (v := ?vM14) rfl rfl (by kernel_rfl) (by kernel_rfl) (by kernel_rfl) (fun _ _ _ h => h) (Or.inl ⟨by kernel_rfl, ?yM14⟩) (by assumption) ?rM14
        case yM14 =>
          intro w hSw
          (try dsimp only at hSw)
          go_simp
          try with_reducible rfl
        try simp only [List.setIfInBounds_toArray, List.set_cons_zero, List.set_cons_succ]
        refine wpAnyH_tk (i := 15) (oi := _) (v := ?vM15) rfl rfl (by kernel_rfl) (by kernel_rfl) (by kernel_rfl) (fun _ _ _ h => h) (Or.inl ⟨by kernel_rfl, ?yM15⟩) (by assumption) ?rM15
        case yM15 =>
          intro w hSw
          (try dsimp only at hSw)
          go_simp
          try with_reducible rfl
        try simp only [List.setIfInBounds_toArray, List.set_cons_zero, List.set_cons_succ]
        refine wpAnyH_tk (i := 16) (oi := _) (v := ?vM16) rfl rfl (by kernel_rfl) (by kernel_rfl) (by kernel_rfl) (fun _ _ _ h => h) (Or.inl ⟨by kernel_rfl, ?yM16⟩) (by assumption) ?rM16
        case yM16 =>
          intro w hSw
          (try dsimp only at hSw)
          go_simp
          try with_reducible rfl
        try simp only [List.setIfInBounds_toArray, List.set_cons_zero, List.set_cons_succ]
        refine wpAnyH_tk (i := 17) (oi := _) (v := ?vM17) rfl rfl (by kernel_rfl) (by kernel_rfl) (by kernel_rfl) (fun _ _ _ h => h) (Or.inl ⟨by kernel_rfl, ?yM17⟩) (by assumption) ?rM17
        case yM17 =>
          intro w hSw
          (try dsimp only at hSw)
          go_simp
          try with_reducible rfl
        try simp only [List.setIfInBounds_toArray, List.set_cons_zero, List.set_cons_succ]
        refine wpAnyH_tk (i := 18) (oi := _) (v := ?vM18) rfl rfl (by kernel_rfl) (by kernel_rfl) (by kernel_rfl) (fun _ _ _ h => h) (Or.inl ⟨by kernel_rfl, ?yM18⟩) (by assumption) ?rM18
        case yM18 =>
          intro w hSw
          (try dsimp only at hSw)
          go_simp
          try with_reducible rfl
        try simp only [List.setIfInBounds_toArray, List.set_cons_zero, List.set_cons_succ]
        refine wpAnyH_tk (i := 19) (oi := _) (v := ?vM19) rfl rfl (by kernel_rfl) (by kernel_rfl) (by kernel_rfl) (fun _ _ _ h => h) (Or.inl ⟨by kernel_rfl, ?yM19⟩) (by assumption) ?rM19
        case yM19 =>
          intro w hSw
          (try dsimp only at hSw)
          go_simp
          try with_reducible rfl
        try simp only [List.setIfInBounds_toArray, List.set_cons_zero, List.set_cons_succ]
        refine wpAnyH_tk (i := 20) (oi := _) (v := ?vM20) rfl rfl (by kernel_rfl) (by kernel_rfl) (by kernel_rfl) (fun _ _ _ h => h) (Or.inl ⟨by kernel_rfl, ?yM20⟩) (by assumption) ?rM20
        case yM20 =>
          intro w hSw
          (try dsimp only at hSw)
          go_simp
          try with_reducible rfl
        try simp only [List.setIfInBounds_toArray, List.set_cons_zero, List.set_cons_succ]
        refine wpAnyH_tk (i := 21) (oi := _) (v := ?vM21) rfl rfl (by kernel_rfl) (by kernel_rfl) (by kernel_rfl) (fun _ _ _ h => h) (Or.inl ⟨by kernel_rfl, ?yM21⟩) (by assumption) ?rM21
        case yM21 =>
          intro w hSw
          (try dsimp only at hSw)
          go_simp
          try with_reducible rfl
        try simp only [List.setIfInBounds_toArray, List.set_cons_zero, List.set_cons_succ]
        refine wpAnyH_tk (i := 22) (oi := _) (v := ?vM22) rfl rfl (by kernel_rfl) (by kernel_rfl) (by kernel_rfl) (fun _ _ _ h => h) (Or.inl ⟨by kernel_rfl, ?yM22⟩) (by assumption) ?rM22
        case yM22 =>
          intro w hSw
          (try dsimp only at hSw)
          go_simp
          try with_reducible rfl
        try simp only [List.setIfInBounds_toArray, List.set_cons_zero, List.set_cons_succ]
        refine wpAnyH_tk (i := 23) (oi := _) (v := ?vM23) rfl rfl (by kernel_rfl) (by kernel_rfl) (by kernel_rfl) (fun _ _ _ h => h) (Or.inl ⟨by kernel_rfl, ?yM23⟩) (by assumption) ?rM23
        case yM23 =>
          intro w hSw
          (try dsimp only at hSw)
          go_simp
          try with_reducible rfl
        try simp only [List.setIfInBounds_toArray, List.set_cons_zero, List.set_cons_succ]
        refine wpAnyH_tk (i := 24) (oi := _) (v := ?vM24) rfl rfl (by kernel_rfl) (by kernel_rfl) (by kernel_rfl) (fun _ _ _ h => h) (Or.inl ⟨by kernel_rfl, ?yM24⟩) (by assumption) ?rM24
        case yM24 =>
          intro w hSw
          (try dsimp only at hSw)
          go_simp
          try with_reducible rfl
        try simp only [List.setIfInBounds_toArray, List.set_cons_zero, List.set_cons_succ]
        refine wpAnyH_tk (i := 25) (oi := _) (v := ?vM25) rfl rfl (by kernel_rfl) (by kernel_rfl) (by kernel_rfl) (fun _ _ _ h => h) (Or.inl ⟨by kernel_rfl, ?yM25⟩) (by assumption) ?rM25
        case yM25 =>
          intro w hSw
          (try dsimp only at hSw)
          go_simp
          try with_reducible rfl
        try simp only [List.setIfInBounds_toArray, List.set_cons_zero, List.set_cons_succ]
        refine wpAnyH_tk (i := 26) (oi := _) (v := ?vM26) rfl rfl (by kernel_rfl) (by kernel_rfl) (by kernel_rfl) (fun _ _ _ h => h) (Or.inl ⟨by kernel_rfl, ?yM26⟩) (by assumption) ?rM26
        case yM26 =>
          intro w hSw
          (try dsimp only at hSw)
          go_simp
          try with_reducible rfl
        try simp only [List.setIfInBounds_toArray, List.set_cons_zero, List.set_cons_succ]
        refine wpAnyH_tk (i := 27) (oi := _) (v := ?vM27) rfl rfl (by kernel_rfl) (by kernel_rfl) (by kernel_rfl) (fun _ _ _ h => h) (Or.inl ⟨by kernel_rfl, ?yM27⟩) (by assumption) ?rM27
        case yM27 =>
          intro w hSw
          (try dsimp only at hSw)
          go_simp
          try with_reducible rfl
        try simp only [List.setIfInBounds_toArray, List.set_cons_zero, List.set_cons_succ]
        refine wpAnyH_tk (i := 28) (oi := _) (v := ?vM28) rfl rfl (by kernel_rfl) (by kernel_rfl) (by kernel_rfl) (fun _ _ _ h => h) (Or.inl ⟨by kernel_rfl, ?yM28⟩) (by assumption) ?rM28
        case yM28 =>
          intro w hSw
          (try dsimp only at hSw)
          go_simp
          try with_reducible rfl
        try simp only [List.setIfInBounds_toArray, List.set_cons_zero, List.set_cons_succ]
        refine wpAnyH_tk (i := 29) (oi := _) (v := ?vM29) rfl rfl (by kernel_rfl) (by kernel_rfl) (by kernel_rfl) (fun _ _ _ h => h) (Or.inl ⟨by kernel_rfl, ?yM29⟩) (by assumption) ?rM29
        case yM29 =>
          intro w hSw
          (try dsimp only at hSw)
          go_simp
          try with_reducible rfl
        try simp only [List.setIfInBounds_toArray, List.set_cons_zero, List.set_cons_succ]
        refine wpAnyH_tk (i := 30) (oi := _) (v := ?vM30) rfl rfl (by kernel_rfl) (by kernel_rfl) (by kernel_rfl) (fun _ _ _ h => h) (Or.inl ⟨by kernel_rfl, ?yM30⟩) (by assumption) ?rM30
        case yM30 =>
          intro w hSw
          (try dsimp only at hSw)
          go_simp
          try with_reducible rfl
        try simp only [List.setIfInBounds_toArray, List.set_cons_zero, List.set_cons_succ]
        refine wpAnyH_tk (i := 31) (oi := _) (v := ?vM31) rfl rfl (by kernel_rfl) (by kernel_rfl) (by kernel_rfl) (fun _ _ _ h => h) (Or.inl ⟨by kernel_rfl, ?yM31⟩) (by assumption) ?rM31
        case yM31 =>
          intro w hSw
          (try dsimp only at hSw)
          go_simp
          try with_reducible rfl
        try simp only [List.setIfInBounds_toArray, List.set_cons_zero, List.set_cons_succ]
        refine wpAnyH_tk (i := 32) (oi := _) (v := ?vM32) rfl rfl (by kernel_rfl) (by kernel_rfl) (by kernel_rfl) (fun _ _ _ h => h) (Or.inl ⟨by kernel_rfl, ?yM32⟩) (by assumption) ?rM32
        case yM32 =>
          intro w hSw
          (try dsimp only at hSw)
          go_simp
          try with_reducible rfl
        try simp only [List.setIfInBounds_toArray, List.set_cons_zero, List.set_cons_succ]
        refine wpAnyH_tk (i := 33) (oi := _) (v := ?vM33) rfl rfl (by kernel_rfl) (by kernel_rfl) (by kernel_rfl) (fun _ _ _ h => h) (Or.inl ⟨by kernel_rfl, ?yM33⟩) (by assumption) ?rM33
        case yM33 =>
          intro w hSw
          (try dsimp only at hSw)
          go_simp
          try with_reducible rfl
        try simp only [List.setIfInBounds_toArray, List.set_cons_zero, List.set_cons_succ]
        refine wpAnyH_tk (i := 34) (oi := _) (v := ?vM34) rfl rfl (by kernel_rfl) (by kernel_rfl) (by kernel_rfl) (fun _ _ _ h => h) (Or.inl ⟨by kernel_rfl, ?yM34⟩) (by assumption) ?rM34
        case yM34 =>
          intro w hSw
          (try dsimp only at hSw)
          go_simp
          try with_reducible rfl
        try simp only [List.setIfInBounds_toArray, List.set_cons_zero, List.set_cons_succ]
        refine wpAnyH_tk (i := 35) (oi := _) (v := ?vM35) rfl rfl (by kernel_rfl) (by kernel_rfl) (by kernel_rfl) (fun _ _ _ h => h) (Or.inl ⟨by kernel_rfl, ?yM35⟩) (by assumption) ?rM35
        case yM35 =>
          intro w hSw
          (try dsimp only at hSw)
          go_simp
          try with_reducible rfl
        try simp only [List.setIfInBounds_toArray, List.set_cons_zero, List.set_cons_succ]
        refine wpAnyH_tk (i := 36) (oi := _) (v := ?vM36) rfl rfl (by kernel_rfl) (by kernel_rfl) (by kernel_rfl) (fun _ _ _ h => h) (Or.inl ⟨by kernel_rfl, ?yM36⟩) (by assumption) ?rM36
        case yM36 =>
          intro w hSw
          (try dsimp only at hSw)
          go_simp
          try with_reducible rfl
        try simp only [List.setIfInBounds_toArray, List.set_cons_zero, List.set_cons_succ]
        refine wpAnyH_tk (i := 37) (oi := _) (v := ?vM37) rfl rfl (by kernel_rfl) (by kernel_rfl) (by kernel_rfl) (fun _ _ _ h => h) (Or.inl ⟨by kernel_rfl, ?yM37⟩) (by assumption) ?rM37
        case yM37 =>
          intro w hSw
          (try dsimp only at hSw)
          go_simp
          try with_reducible rfl
        try simp only [List.setIfInBounds_toArray, List.set_cons_zero, List.set_cons_succ]
        refine wpAnyH_tk (i := 38) (oi := _) (v := ?vM38) rfl rfl (by kernel_rfl) (by kernel_rfl) (by kernel_rfl) (fun _ _ _ h => h) (Or.inl ⟨by kernel_rfl, ?yM38⟩) (by assumption) ?rM38
        case yM38 =>
          intro w hSw
          (try dsimp only at hSw)
          go_simp
          try with_reducible rfl
        try simp only [List.setIfInBounds_toArray, List.set_cons_zero, List.set_cons_succ]
        refine wpAnyH_tk (i := 39) (oi := _) (v := ?vM39) rfl rfl (by kernel_rfl) (by kernel_rfl) (by kernel_rfl) (fun _ _ _ h => h) (Or.inl ⟨by kernel_rfl, ?yM39⟩) (by assumption) ?rM39
        case yM39 =>
          intro w hSw
          (try dsimp only at hSw)
          go_simp
          try with_reducible rfl
        try simp only [List.setIfInBounds_toArray, List.set_cons_zero, List.set_cons_succ]
        refine wpAnyH_tk (i := 40) (oi := _) (v := ?vM40) rfl rfl (by kernel_rfl) (by kernel_rfl) (by kernel_rfl) (fun _ _ _ h => h) (Or.inl ⟨by kernel_rfl, ?yM40⟩) (by assumption) ?rM40
        case yM40 =>
          intro w hSw
          (try dsimp only at hSw)
          go_simp
          try with_reducible rfl
        try simp only [List.setIfInBounds_toArray, List.set_cons_zero, List.set_cons_succ]
        refine wpAnyH_tk (i := 41) (oi := _) (v := ?vM41) rfl rfl (by kernel_rfl) (by kernel_rfl) (by kernel_rfl) (fun _ _ _ h => h) (Or.inl ⟨by kernel_rfl, ?yM41⟩) (by assumption) ?rM41
        case yM41 =>
          intro w hSw
          (try dsimp only at hSw)
          go_simp
          try with_reducible rfl
        try simp only [List.setIfInBounds_toArray, List.set_cons_zero, List.set_cons_succ]
        refine wpAnyH_tk (i := 42) (oi := _) (v := ?vM42) rfl rfl (by kernel_rfl) (by kernel_rfl) (by kernel_rfl) (fun _ _ _ h => h) (Or.inl ⟨by kernel_rfl, ?yM42⟩) (by assumption) ?rM42
        case yM42 =>
          intro w hSw
          (try dsimp only at hSw)
          go_simp
          try with_reducible rfl
        try simp only [List.setIfInBounds_toArray, List.set_cons_zero, List.set_cons_succ]
        refine wpAnyH_tk (i := 43) (oi := _) (v := ?vM43) rfl rfl (by kernel_rfl) (by kernel_rfl) (by kernel_rfl) (fun _ _ _ h => h) (Or.inl ⟨by kernel_rfl, ?yM43⟩) (by assumption) ?rM43
        case yM43 =>
          intro w hSw
          (try dsimp only at hSw)
          go_simp
          try with_reducible rfl
        try simp only [List.setIfInBounds_toArray, List.set_cons_zero, List.set_cons_succ]
        refine wpAnyH_tk (i := 44) (oi := _) (v := ?vM44) rfl rfl (by kernel_rfl) (by kernel_rfl) (by kernel_rfl) (fun _ _ _ h => h) (Or.inl ⟨by kernel_rfl, ?yM44⟩) (by assumption) ?rM44
        case yM44 =>
          intro w hSw
          (try dsimp only at hSw)
          go_simp
          try with_reducible rfl
        try simp only [List.setIfInBounds_toArray, List.set_cons_zero, List.set_cons_succ]
        refine wpAnyH_tk (i := 45) (oi := _) (v := ?vM45) rfl rfl (by kernel_rfl) (by kernel_rfl) (by kernel_rfl) (fun _ _ _ h => h) (Or.inl ⟨by kernel_rfl, ?yM45⟩) (by assumption) ?rM45
        case yM45 =>
          intro w hSw
          (try dsimp only at hSw)
          go_simp
          try with_reducible rfl
        try simp only [List.setIfInBounds_toArray, List.set_cons_zero, List.set_cons_succ]
        refine wpAnyH_tk (i := 46) (oi := _) (v := ?vM46) rfl rfl (by kernel_rfl) (by kernel_rfl) (by kernel_rfl) (fun _ _ _ h => h) (Or.inl ⟨by kernel_rfl, ?yM46⟩) (by assumption) ?rM46
        case yM46 =>
          intro w hSw
          (try dsimp only at hSw)
          go_simp
          try with_reducible rfl
        try simp only [List.setIfInBounds_toArray, List.set_cons_zero, List.set_cons_succ]
        refine wpAnyH_tk (i := 47) (oi := _) (v := ?vM47) rfl rfl (by kernel_rfl) (by kernel_rfl) (by kernel_rfl) (fun _ _ _ h => h) (Or.inl ⟨by kernel_rfl, ?yM47⟩) (by assumption) ?rM47
        case yM47 =>
          intro w hSw
          (try dsimp only at hSw)
          go_simp
          try with_reducible rfl
        try simp only [List.setIfInBounds_toArray, List.set_cons_zero, List.set_cons_succ]
        refine wpAnyH_off (i := 48) (oi := _) rfl rfl (by kernel_rfl) (by kernel_rfl) (by kernel_rfl) (fun _ _ _ h => h) (by kernel_rfl) (by assumption) ?_
        try simp only [List.setIfInBounds_toArray, List.set_cons_zero, List.set_cons_succ]
        refine wpAnyH_off (i := 49) (oi := _) rfl rfl (by kernel_rfl) (by kernel_rfl) (by kernel_rfl) (fun _ _ _ h => h) (by kernel_rfl) (by assumption) ?_
        try simp only [List.setIfInBounds_toArray, List.set_cons_zero, List.set_cons_succ]
        refine wpAnyH_off (i := 50) (oi := _) rfl rfl (by kernel_rfl) (by kernel_rfl) (by kernel_rfl) (fun _ _ _ h => h) (by kernel_rfl) (by assumption) ?_
        try simp only [List.setIfInBounds_toArray, List.set_cons_zero, List.set_cons_succ]
        refine wpAnyH_off (i := 51) (oi := _) rfl rfl (by kernel_rfl) (by kernel_rfl) (by kernel_rfl) (fun _ _ _ h => h) (by kernel_rfl) (by assumption) ?_
        try simp only [List.setIfInBounds_toArray, List.set_cons_zero, List.set_cons_succ]
        refine wpAnyH_off (i := 52) (oi := _) rfl rfl (by kernel_rfl) (by kernel_rfl) (by kernel_rfl) (fun _ _ _ h => h) (by kernel_rfl) (by assumption) ?_
        try simp only [List.setIfInBounds_toArray, List.set_cons_zero, List.set_cons_succ]
        refine wpAnyH_off (i := 53) (oi := _) rfl rfl (by kernel_rfl) (by kernel_rfl) (by kernel_rfl) (fun _ _ _ h => h) (by kernel_rfl) (by assumption) ?_
        try simp only [List.setIfInBounds_toArray, List.set_cons_zero, List.set_cons_succ]
        refine wpAnyH_off (i := 54) (oi := _) rfl rfl (by kernel_rfl) (by kernel_rfl) (by kernel_rfl) (fun _ _ _ h => h) (by kernel_rfl) (by assumption) ?_
        try simp only [List.setIfInBounds_toArray, List.set_cons_zero, List.set_cons_succ]
        refine wpAnyH_off (i := 55) (oi := _) rfl rfl (by kernel_rfl) (by kernel_rfl) (by kernel_rfl) (fun _ _ _ h => h) (by kernel_rfl) (by assumption) ?_
        try simp only [List.setIfInBounds_toArray, List.set_cons_zero, List.set_cons_succ]
        refine wpAnyH_off (i := 56) (oi := _) rfl rfl (by kernel_rfl) (by kernel_rfl) (by kernel_rfl) (fun _ _ _ h => h) (by kernel_rfl) (by assumption) ?_
        try simp only [List.setIfInBounds_toArray, List.set_cons_zero, List.set_cons_succ]
        refine wpAnyH_off (i := 57) (oi := _) rfl rfl (by kernel_rfl) (by kernel_rfl) (by kernel_rfl) (fun _ _ _ h => h) (by kernel_rfl) (by assumption) ?_
        try simp only [List.setIfInBounds_toArray, List.set_cons_zero, List.set_cons_succ]
        refine wpAnyH_off (i := 58) (oi := _) rfl rfl (by kernel_rfl) (by kernel_rfl) (by kernel_rfl) (fun _ _ _ h => h) (by kernel_rfl) (by assumption) ?_
        try simp only [List.setIfInBounds_toArray, List.set_cons_zero, List.set_cons_succ]
        refine wpAnyH_tk (i := 59) (oi := _) (v := ?vM59) rfl rfl (by kernel_rfl) (by kernel_rfl) (by kernel_rfl) (fun _ _ _ h => h) (Or.inl ⟨by kernel_rfl, ?yM59⟩) (by assumption) ?rM59
        case yM59 =>
          intro w hSw
          (try dsimp only at hSw)
          go_simp
          try with_reducible rfl
        try simp only [List.setIfInBounds_toArray, List.set_cons_zero, List.set_cons_succ]
        refine wpAnyH_tk (i := 60) (oi := _) (v := ?vM60) rfl rfl (by kernel_rfl) (by kernel_rfl) (by kernel_rfl) (fun _ _ _ h => h) (Or.inl ⟨by kernel_rfl, ?yM60⟩) (by assumption) ?rM60
        case yM60 =>
          intro w hSw
          (try dsimp only at hSw)
          go_simp
          try with_reducible rfl
        try simp only [List.setIfInBounds_toArray, List.set_cons_zero, List.set_cons_succ]
        refine wpAnyH_done (by kernel_rfl) ?_ _
        go_wp2
        go_roundw
        case rel => exact ⟨k + 1, j + 1, by go_num, by omega, rfl⟩
        case measure => simp [intOf]; omega
      · have hse : (s.toList == (bs x).toList) = false := txt_ne hsx
        have htt := V4.out hsx
        rw [htt] at HSS
        clear hsx
        go_wp2_with fail
        refine wp_region_held_drew (S := (fun Z => Z.cell? ⟨g1, o1 + k * 4, none⟩ = some (.string s) ∧ Z.cell? ⟨g1, o1 + k * 4 + 1, none⟩ = some (.bool dr) ∧ Z.cell? ⟨g1, o1 + k * 4 + 2, none⟩ = some (.slice Z1 dl y1) ∧ Z.cell? ⟨g1, o1 + k * 4 + 3, none⟩ = some (.int .i64 tm) ∧ Z.cell? ⟨g2, o2 + k * 4, none⟩ = some (.string s) ∧ Z.cell? ⟨g2, o2 + k * 4 + 1, none⟩ = some (.bool dr) ∧ Z.cell? ⟨g2, o2 + k * 4 + 2, none⟩ = some (.slice Z2 dl y2) ∧ Z.cell? ⟨g2, o2 + k * 4 + 3, none⟩ = some (.int .i64 tm) ∧ (convert 23 9 (.slice Z1 dl y1)).run Tryz.prog Z = .ok (.string t) Z ∧ (convert 23 9 (.slice Z2 dl y2)).run Tryz.prog Z = .ok (.string t) Z)) (by kernel_rfl) (HSS.out (j + 1)) (fun hHeld => ?_)
        refine wpAnyH_tk (i := 0) (oi := _) (v := ?vN0) rfl rfl (by kernel_rfl) (by kernel_rfl) (by kernel_rfl) (fun _ _ _ h => h) (Or.inl ⟨by kernel_rfl, ?yN0⟩) (by assumption) ?rN0
        case yN0 =>
          intro w hSw
          (try dsimp only at hSw)
          go_simp
          try with_reducible rfl
        try simp only [List.setIfInBounds_toArray, List.set_cons_zero, List.set_cons_succ]
        refine wpAnyH_tk (i := 1) (oi := _) (v := ?vN1) rfl rfl (by kernel_rfl) (by kernel_rfl) (by kernel_rfl) (fun _ _ _ h => h) (Or.inl ⟨by kernel_rfl, ?yN1⟩) (by assumption) ?rN1
        case yN1 =>
          intro w hSw
          (try dsimp only at hSw)
          go_simp
          try with_reducible rfl
        try simp only [List.setIfInBounds_toArray, List.set_cons_zero, List.set_cons_succ]
        refine wpAnyH_tk (i := 2) (oi := _) (v := ?vN2) rfl rfl (by kernel_rfl) (by kernel_rfl) (by kernel_rfl) (fun _ _ _ h => h) (Or.inl ⟨by kernel_rfl, ?yN2⟩) (by assumption) ?rN2
        case yN2 =>
          intro w hSw
          (try dsimp only at hSw)
          go_simp
          try with_reducible rfl
        try simp only [List.setIfInBounds_toArray, List.set_cons_zero, List.set_cons_succ]
        refine wpAnyH_tk (i := 3) (oi := _) (v := ?vN3) rfl rfl (by kernel_rfl) (by kernel_rfl) (by kernel_rfl) (fun _ _ _ h => h) (Or.inl ⟨by kernel_rfl, ?yN3⟩) (by assumption) ?rN3
        case yN3 =>
          intro w hSw
          (try dsimp only at hSw)
          go_simp
          try with_reducible rfl
        try simp only [List.setIfInBounds_toArray, List.set_cons_zero, List.set_cons_succ]
        refine wpAnyH_tk (i := 4) (oi := _) (v := ?vN4) rfl rfl (by kernel_rfl) (by kernel_rfl) (by kernel_rfl) (fun _ _ _ h => h) (Or.inl ⟨by kernel_rfl, ?yN4⟩) (by assumption) ?rN4
        case yN4 =>
          intro w hSw
          (try dsimp only at hSw)
          go_simp
          try with_reducible rfl
        try simp only [List.setIfInBounds_toArray, List.set_cons_zero, List.set_cons_succ]
        refine wpAnyH_tk (i := 5) (oi := _) (v := ?vN5) rfl rfl (by kernel_rfl) (by kernel_rfl) (by kernel_rfl) (fun _ _ _ h => h) (Or.inl ⟨by kernel_rfl, ?yN5⟩) (by assumption) ?rN5
        case yN5 =>
          intro w hSw
          (try dsimp only at hSw)
          go_simp
          try with_reducible rfl
        try simp only [List.setIfInBounds_toArray, List.set_cons_zero, List.set_cons_succ]
        refine wpAnyH_tk (i := 6) (oi := _) (v := ?vN6) rfl rfl (by kernel_rfl) (by kernel_rfl) (by kernel_rfl) (fun _ _ _ h => h) (Or.inl ⟨by kernel_rfl, ?yN6⟩) (by assumption) ?rN6
        case yN6 =>
          intro w hSw
          (try dsimp only at hSw)
          go_simp
          try with_reducible rfl
        try simp only [List.setIfInBounds_toArray, List.set_cons_zero, List.set_cons_succ]
        refine wpAnyH_tk (i := 7) (oi := _) (v := ?vN7) rfl rfl (by kernel_rfl) (by kernel_rfl) (by kernel_rfl) (fun _ _ _ h => h) (Or.inl ⟨by kernel_rfl, ?yN7⟩) (by assumption) ?rN7
        case yN7 =>
          intro w hSw
          (try dsimp only at hSw)
          go_simp
          try with_reducible rfl
        try simp only [List.setIfInBounds_toArray, List.set_cons_zero, List.set_cons_succ]
        refine wpAnyH_tk (i := 8) (oi := _) (v := ?vN8) rfl rfl (by kernel_rfl) (by kernel_rfl) (by kernel_rfl) (fun _ _ _ h => h) (Or.inl ⟨by kernel_rfl, ?yN8⟩) (by assumption) ?rN8
        case yN8 =>
          intro w hSw
          (try dsimp only at hSw)
          go_simp
          try with_reducible rfl
        try simp only [List.setIfInBounds_toArray, List.set_cons_zero, List.set_cons_succ]
        refine wpAnyH_tk (i := 9) (oi := _) (v := ?vN9) rfl rfl (by kernel_rfl) (by kernel_rfl) (by kernel_rfl) (fun _ _ _ h => h) (Or.inl ⟨by kernel_rfl, ?yN9⟩) (by assumption) ?rN9
        case yN9 =>
          intro w hSw
          (try dsimp only at hSw)
          go_simp
          try with_reducible rfl
        try simp only [List.setIfInBounds_toArray, List.set_cons_zero, List.set_cons_succ]
        refine wpAnyH_tk (i := 10) (oi := _) (v := ?vN10) rfl rfl (by kernel_rfl) (by kernel_rfl) (by kernel_rfl) (fun _ _ _ h => h) (Or.inl ⟨by kernel_rfl, ?yN10⟩) (by assumption) ?rN10
        case yN10 =>
          intro w hSw
          (try dsimp only at hSw)
          go_simp
          try with_reducible rfl
        try simp only [List.setIfInBounds_toArray, List.set_cons_zero, List.set_cons_succ]
        refine wpAnyH_tk (i := 11) (oi := _) (v := ?vN11) rfl rfl (by kernel_rfl) (by kernel_rfl) (by kernel_rfl) (fun _ _ _ h => h) (Or.inl ⟨by kernel_rfl, ?yN11⟩) (by assumption) ?rN11
        case yN11 =>
          intro w hSw
          (try dsimp only at hSw)
          go_simp
          try with_reducible rfl
        try simp only [List.setIfInBounds_toArray, List.set_cons_zero, List.set_cons_succ]
        refine wpAnyH_tk (i := 12) (oi := _) (v := ?vN12) rfl rfl (by kernel_rfl) (by kernel_rfl) (by kernel_rfl) (fun _ _ _ h => h) (Or.inl ⟨by kernel_rfl, ?yN12⟩) (by assumption) ?rN12
        case yN12 =>
          intro w hSw
          (try dsimp only at hSw)
          go_simp
          try with_reducible rfl
        try simp only [List.setIfInBounds_toArray, List.set_cons_zero, List.set_cons_succ]
        refine wpAnyH_tk (i := 13) (oi := _) (v := ?vN13) rfl rfl (by kernel_rfl) (by kernel_rfl) (by kernel_rfl) (fun _ _ _ h => h) (Or.inl ⟨by kernel_rfl, ?yN13⟩) (by assumption) ?rN13
        case yN13 =>
          intro w hSw
          (try dsimp only at hSw)
          go_simp
          try with_reducible rfl
        try simp only [List.setIfInBounds_toArray, List.set_cons_zero, List.set_cons_succ]
        refine wpAnyH_tk (i := 14) (oi := _) (v := ?vN14) rfl rfl (by kernel_rfl) (by kernel_rfl) (by kernel_rfl) (fun _ _ _ h => h) (Or.inl ⟨by kernel_rfl, ?yN14⟩) (by assumption) ?rN14
        case yN14 =>
          intro w hSw
          (try dsimp only at hSw)
          go_simp
          try with_reducible rfl
        try simp only [List.setIfInBounds_toArray, List.set_cons_zero, List.set_cons_succ]
        refine wpAnyH_tk (i := 15) (oi := _) (v := ?vN15) rfl rfl (by kernel_rfl) (by kernel_rfl) (by kernel_rfl) (fun _ _ _ h => h) (Or.inl ⟨by kernel_rfl, ?yN15⟩) (by assumption) ?rN15
        case yN15 =>
          intro w hSw
          (try dsimp only at hSw)
          go_simp
          try with_reducible rfl
        try simp only [List.setIfInBounds_toArray, List.set_cons_zero, List.set_cons_succ]
        refine wpAnyH_tk (i := 16) (oi := _) (v := ?vN16) rfl rfl (by kernel_rfl) (by kernel_rfl) (by kernel_rfl) (fun _ _ _ h => h) (Or.inl ⟨by kernel_rfl, ?yN16⟩) (by assumption) ?rN16
        case yN16 =>
          intro w hSw
          (try dsimp only at hSw)
          go_simp
          try with_reducible rfl
        try simp only [List.setIfInBounds_toArray, List.set_cons_zero, List.set_cons_succ]
        refine wpAnyH_tk (i := 17) (oi := _) (v := ?vN17) rfl rfl (by kernel_rfl) (by kernel_rfl) (by kernel_rfl) (fun _ _ _ h => h) (Or.inl ⟨by kernel_rfl, ?yN17⟩) (by assumption) ?rN17
        case yN17 =>
          intro w hSw
          (try dsimp only at hSw)
          go_simp
          try with_reducible rfl
        try simp only [List.setIfInBounds_toArray, List.set_cons_zero, List.set_cons_succ]
        refine wpAnyH_tk (i := 18) (oi := _) (v := ?vN18) rfl rfl (by kernel_rfl) (by kernel_rfl) (by kernel_rfl) (fun _ _ _ h => h) (Or.inl ⟨by kernel_rfl, ?yN18⟩) (by assumption) ?rN18
        case yN18 =>
          intro w hSw
          (try dsimp only at hSw)
          go_simp
          try with_reducible rfl
        try simp only [List.setIfInBounds_toArray, List.set_cons_zero, List.set_cons_succ]
        refine wpAnyH_tk (i := 19) (oi := _) (v := ?vN19) rfl rfl (by kernel_rfl) (by kernel_rfl) (by kernel_rfl) (fun _ _ _ h => h) (Or.inl ⟨by kernel_rfl, ?yN19⟩) (by assumption) ?rN19
        case yN19 =>
          intro w hSw
          (try dsimp only at hSw)
          go_simp
          try with_reducible rfl
        try simp only [List.setIfInBounds_toArray, List.set_cons_zero, List.set_cons_succ]
        refine wpAnyH_tk (i := 20) (oi := _) (v := ?vN20) rfl rfl (by kernel_rfl) (by kernel_rfl) (by kernel_rfl) (fun _ _ _ h => h) (Or.inl ⟨by kernel_rfl, ?yN20⟩) (by assumption) ?rN20
        case yN20 =>
          intro w hSw
          (try dsimp only at hSw)
          go_simp
          try with_reducible rfl
        try simp only [List.setIfInBounds_toArray, List.set_cons_zero, List.set_cons_succ]
        refine wpAnyH_tk (i := 21) (oi := _) (v := ?vN21) rfl rfl (by kernel_rfl) (by kernel_rfl) (by kernel_rfl) (fun _ _ _ h => h) (Or.inl ⟨by kernel_rfl, ?yN21⟩) (by assumption) ?rN21
        case yN21 =>
          intro w hSw
          (try dsimp only at hSw)
          go_simp
          try with_reducible rfl
        try simp only [List.setIfInBounds_toArray, List.set_cons_zero, List.set_cons_succ]
        refine wpAnyH_tk (i := 22) (oi := _) (v := ?vN22) rfl rfl (by kernel_rfl) (by kernel_rfl) (by kernel_rfl) (fun _ _ _ h => h) (Or.inl ⟨by kernel_rfl, ?yN22⟩) (by assumption) ?rN22
        case yN22 =>
          intro w hSw
          (try dsimp only at hSw)
          go_simp
          try with_reducible rfl
        try simp only [List.setIfInBounds_toArray, List.set_cons_zero, List.set_cons_succ]
        refine wpAnyH_tk (i := 23) (oi := _) (v := ?vN23) rfl rfl (by kernel_rfl) (by kernel_rfl) (by kernel_rfl) (fun _ _ _ h => h) (Or.inl ⟨by kernel_rfl, ?yN23⟩) (by assumption) ?rN23
        case yN23 =>
          intro w hSw
          (try dsimp only at hSw)
          go_simp
          try with_reducible rfl
        try simp only [List.setIfInBounds_toArray, List.set_cons_zero, List.set_cons_succ]
        refine wpAnyH_tk (i := 24) (oi := _) (v := ?vN24) rfl rfl (by kernel_rfl) (by kernel_rfl) (by kernel_rfl) (fun _ _ _ h => h) (Or.inl ⟨by kernel_rfl, ?yN24⟩) (by assumption) ?rN24
        case yN24 =>
          intro w hSw
          (try dsimp only at hSw)
          go_simp
          try with_reducible rfl
        try simp only [List.setIfInBounds_toArray, List.set_cons_zero, List.set_cons_succ]
        refine wpAnyH_tk (i := 25) (oi := _) (v := ?vN25) rfl rfl (by kernel_rfl) (by kernel_rfl) (by kernel_rfl) (fun _ _ _ h => h) (Or.inl ⟨by kernel_rfl, ?yN25⟩) (by assumption) ?rN25
        case yN25 =>
          intro w hSw
          (try dsimp only at hSw)
          go_simp
          try with_reducible rfl
        try simp only [List.setIfInBounds_toArray, List.set_cons_zero, List.set_cons_succ]
        refine wpAnyH_tk (i := 26) (oi := _) (v := ?vN26) rfl rfl (by kernel_rfl) (by kernel_rfl) (by kernel_rfl) (fun _ _ _ h => h) (Or.inl ⟨by kernel_rfl, ?yN26⟩) (by assumption) ?rN26
        case yN26 =>
          intro w hSw
          (try dsimp only at hSw)
          go_simp
          try with_reducible rfl
        try simp only [List.setIfInBounds_toArray, List.set_cons_zero, List.set_cons_succ]
        refine wpAnyH_tk (i := 27) (oi := _) (v := ?vN27) rfl rfl (by kernel_rfl) (by kernel_rfl) (by kernel_rfl) (fun _ _ _ h => h) (Or.inl ⟨by kernel_rfl, ?yN27⟩) (by assumption) ?rN27
        case yN27 =>
          intro w hSw
          (try dsimp only at hSw)
          go_simp
          try with_reducible rfl
        try simp only [List.setIfInBounds_toArray, List.set_cons_zero, List.set_cons_succ]
        refine wpAnyH_tk (i := 28) (oi := _) (v := ?vN28) rfl rfl (by kernel_rfl) (by kernel_rfl) (by kernel_rfl) (fun _ _ _ h => h) (Or.inl ⟨by kernel_rfl, ?yN28⟩) (by assumption) ?rN28
        case yN28 =>
          intro w hSw
          (try dsimp only at hSw)
          go_simp
          try with_reducible rfl
        try simp only [List.setIfInBounds_toArray, List.set_cons_zero, List.set_cons_succ]
        refine wpAnyH_tk (i := 29) (oi := _) (v := ?vN29) rfl rfl (by kernel_rfl) (by kernel_rfl) (by kernel_rfl) (fun _ _ _ h => h) (Or.inl ⟨by kernel_rfl, ?yN29⟩) (by assumption) ?rN29
        case yN29 =>
          intro w hSw
          (try dsimp only at hSw)
          go_simp
          try with_reducible rfl
        try simp only [List.setIfInBounds_toArray, List.set_cons_zero, List.set_cons_succ]
        refine wpAnyH_tk (i := 30) (oi := _) (v := ?vN30) rfl rfl (by kernel_rfl) (by kernel_rfl) (by kernel_rfl) (fun _ _ _ h => h) (Or.inl ⟨by kernel_rfl, ?yN30⟩) (by assumption) ?rN30
        case yN30 =>
          intro w hSw
          (try dsimp only at hSw)
          go_simp
          try with_reducible rfl
        try simp only [List.setIfInBounds_toArray, List.set_cons_zero, List.set_cons_succ]
        refine wpAnyH_tk (i := 31) (oi := _) (v := ?vN31) rfl rfl (by kernel_rfl) (by kernel_rfl) (by kernel_rfl) (fun _ _ _ h => h) (Or.inl ⟨by kernel_rfl, ?yN31⟩) (by assumption) ?rN31
        case yN31 =>
          intro w hSw
          (try dsimp only at hSw)
          go_simp
          try with_reducible rfl
        try simp only [List.setIfInBounds_toArray, List.set_cons_zero, List.set_cons_succ]
        refine wpAnyH_tk (i := 32) (oi := _) (v := ?vN32) rfl rfl (by kernel_rfl) (by kernel_rfl) (by kernel_rfl) (fun _ _ _ h => h) (Or.inl ⟨by kernel_rfl, ?yN32⟩) (by assumption) ?rN32
        case yN32 =>
          intro w hSw
          (try dsimp only at hSw)
          go_simp
          try with_reducible rfl
        try simp only [List.setIfInBounds_toArray, List.set_cons_zero, List.set_cons_succ]
        refine wpAnyH_tk (i := 33) (oi := _) (v := ?vN33) rfl rfl (by kernel_rfl) (by kernel_rfl) (by kernel_rfl) (fun _ _ _ h => h) (Or.inl ⟨by kernel_rfl, ?yN33⟩) (by assumption) ?rN33
        case yN33 =>
          intro w hSw
          (try dsimp only at hSw)
          go_simp
          try with_reducible rfl
        try simp only [List.setIfInBounds_toArray, List.set_cons_zero, List.set_cons_succ]
        refine wpAnyH_tk (i := 34) (oi := _) (v := ?vN34) rfl rfl (by kernel_rfl) (by kernel_rfl) (by kernel_rfl) (fun _ _ _ h => h) (Or.inl ⟨by kernel_rfl, ?yN34⟩) (by assumption) ?rN34
        case yN34 =>
          intro w hSw
          (try dsimp only at hSw)
          go_simp
          try with_reducible rfl
        try simp only [List.setIfInBounds_toArray, List.set_cons_zero, List.set_cons_succ]
        refine wpAnyH_tk (i := 35) (oi := _) (v := ?vN35) rfl rfl (by kernel_rfl) (by kernel_rfl) (by kernel_rfl) (fun _ _ _ h => h) (Or.inl ⟨by kernel_rfl, ?yN35⟩) (by assumption) ?rN35
        case yN35 =>
          intro w hSw
          (try dsimp only at hSw)
          go_simp
          try with_reducible rfl
        try simp only [List.setIfInBounds_toArray, List.set_cons_zero, List.set_cons_succ]
        refine wpAnyH_tk (i := 36) (oi := _) (v := ?vN36) rfl rfl (by kernel_rfl) (by kernel_rfl) (by kernel_rfl) (fun _ _ _ h => h) (Or.inl ⟨by kernel_rfl, ?yN36⟩) (by assumption) ?rN36
        case yN36 =>
          intro w hSw
          (try dsimp only at hSw)
          go_simp
          try with_reducible rfl
        try simp only [List.setIfInBounds_toArray, List.set_cons_zero, List.set_cons_succ]
        refine wpAnyH_tk (i := 37) (oi := _) (v := ?vN37) rfl rfl (by kernel_rfl) (by kernel_rfl) (by kernel_rfl) (fun _ _ _ h => h) (Or.inl ⟨by kernel_rfl, ?yN37⟩) (by assumption) ?rN37
        case yN37 =>
          intro w hSw
          (try dsimp only at hSw)
          go_simp
          try with_reducible rfl
        try simp only [List.setIfInBounds_toArray, List.set_cons_zero, List.set_cons_succ]
        refine wpAnyH_tk (i := 38) (oi := _) (v := ?vN38) rfl rfl (by kernel_rfl) (by kernel_rfl) (by kernel_rfl) (fun _ _ _ h => h) (Or.inl ⟨by kernel_rfl, ?yN38⟩) (by assumption) ?rN38
        case yN38 =>
          intro w hSw
          (try dsimp only at hSw)
          go_simp
          try with_reducible rfl
        try simp only [List.setIfInBounds_toArray, List.set_cons_zero, List.set_cons_succ]
        refine wpAnyH_tk (i := 39) (oi := _) (v := ?vN39) rfl rfl (by kernel_rfl) (by kernel_rfl) (by kernel_rfl) (fun _ _ _ h => h) (Or.inl ⟨by kernel_rfl, ?yN39⟩) (by assumption) ?rN39
        case yN39 =>
          intro w hSw
          (try dsimp only at hSw)
          go_simp
          try with_reducible rfl
        try simp only [List.setIfInBounds_toArray, List.set_cons_zero, List.set_cons_succ]
        refine wpAnyH_tk (i := 40) (oi := _) (v := ?vN40) rfl rfl (by kernel_rfl) (by kernel_rfl) (by kernel_rfl) (fun _ _ _ h => h) (Or.inl ⟨by kernel_rfl, ?yN40⟩) (by assumption) ?rN40
        case yN40 =>
          intro w hSw
          (try dsimp only at hSw)
          go_simp
          try with_reducible rfl
        try simp only [List.setIfInBounds_toArray, List.set_cons_zero, List.set_cons_succ]
        refine wpAnyH_tk (i := 41) (oi := _) (v := ?vN41) rfl rfl (by kernel_rfl) (by kernel_rfl) (by kernel_rfl) (fun _ _ _ h => h) (Or.inl ⟨by kernel_rfl, ?yN41⟩) (by assumption) ?rN41
        case yN41 =>
          intro w hSw
          (try dsimp only at hSw)
          go_simp
          try with_reducible rfl
        try simp only [List.setIfInBounds_toArray, List.set_cons_zero, List.set_cons_succ]
        refine wpAnyH_tk (i := 42) (oi := _) (v := ?vN42) rfl rfl (by kernel_rfl) (by kernel_rfl) (by kernel_rfl) (fun _ _ _ h => h) (Or.inl ⟨by kernel_rfl, ?yN42⟩) (by assumption) ?rN42
        case yN42 =>
          intro w hSw
          (try dsimp only at hSw)
          go_simp
          try with_reducible rfl
        try simp only [List.setIfInBounds_toArray, List.set_cons_zero, List.set_cons_succ]
        refine wpAnyH_tk (i := 43) (oi := _) (v := ?vN43) rfl rfl (by kernel_rfl) (by kernel_rfl) (by kernel_rfl) (fun _ _ _ h => h) (Or.inl ⟨by kernel_rfl, ?yN43⟩) (by assumption) ?rN43
        case yN43 =>
          intro w hSw
          (try dsimp only at hSw)
          go_simp
          try with_reducible rfl
        try simp only [List.setIfInBounds_toArray, List.set_cons_zero, List.set_cons_succ]
        refine wpAnyH_tk (i := 44) (oi := _) (v := ?vN44) rfl rfl (by kernel_rfl) (by kernel_rfl) (by kernel_rfl) (fun _ _ _ h => h) (Or.inl ⟨by kernel_rfl, ?yN44⟩) (by assumption) ?rN44
        case yN44 =>
          intro w hSw
          (try dsimp only at hSw)
          go_simp
          try with_reducible rfl
        try simp only [List.setIfInBounds_toArray, List.set_cons_zero, List.set_cons_succ]
        refine wpAnyH_tk (i := 45) (oi := _) (v := ?vN45) rfl rfl (by kernel_rfl) (by kernel_rfl) (by kernel_rfl) (fun _ _ _ h => h) (Or.inl ⟨by kernel_rfl, ?yN45⟩) (by assumption) ?rN45
        case yN45 =>
          intro w hSw
          (try dsimp only at hSw)
          go_simp
          try with_reducible rfl
        try simp only [List.setIfInBounds_toArray, List.set_cons_zero, List.set_cons_succ]
        refine wpAnyH_tk (i := 46) (oi := _) (v := ?vN46) rfl rfl (by kernel_rfl) (by kernel_rfl) (by kernel_rfl) (fun _ _ _ h => h) (Or.inl ⟨by kernel_rfl, ?yN46⟩) (by assumption) ?rN46
        case yN46 =>
          intro w hSw
          (try dsimp only at hSw)
          go_simp
          try with_reducible rfl
        try simp only [List.setIfInBounds_toArray, List.set_cons_zero, List.set_cons_succ]
        refine wpAnyH_tk (i := 47) (oi := _) (v := ?vN47) rfl rfl (by kernel_rfl) (by kernel_rfl) (by kernel_rfl) (fun _ _ _ h => h) (Or.inl ⟨by kernel_rfl, ?yN47⟩) (by assumption) ?rN47
        case yN47 =>
          intro w hSw
          (try dsimp only at hSw)
          go_simp
          try with_reducible rfl
        try simp only [List.setIfInBounds_toArray, List.set_cons_zero, List.set_cons_succ]
        refine wpAnyH_tk (i := 48) (oi := _) (v := ?vN48) rfl rfl (by kernel_rfl) (by kernel_rfl) (by kernel_rfl) (fun _ _ _ h => h) (Or.inl ⟨by kernel_rfl, ?yN48⟩) (by assumption) ?rN48
        case yN48 =>
          intro w hSw
          (try dsimp only at hSw)
          go_simp
          try with_reducible rfl
        try simp only [List.setIfInBounds_toArray, List.set_cons_zero, List.set_cons_succ]
        refine wpAnyH_tk (i := 49) (oi := _) (v := ?vN49) rfl rfl (by kernel_rfl) (by kernel_rfl) (by kernel_rfl) (fun _ _ _ h => h) (Or.inl ⟨by kernel_rfl, ?yN49⟩) (by assumption) ?rN49
        case yN49 =>
          intro w hSw
          (try dsimp only at hSw)
          go_simp
          try with_reducible rfl
        try simp only [List.setIfInBounds_toArray, List.set_cons_zero, List.set_cons_succ]
        refine wpAnyH_tk (i := 50) (oi := _) (v := ?vN50) rfl rfl (by kernel_rfl) (by kernel_rfl) (by kernel_rfl) (fun _ _ _ h => h) (Or.inl ⟨by kernel_rfl, ?yN50⟩) (by assumption) ?rN50
        case yN50 =>
          intro w hSw
          (try dsimp only at hSw)
          go_simp
          try with_reducible rfl
        try simp only [List.setIfInBounds_toArray, List.set_cons_zero, List.set_cons_succ]
        refine wpAnyH_tk (i := 51) (oi := _) (v := ?vN51) rfl rfl (by kernel_rfl) (by kernel_rfl) (by kernel_rfl) (fun _ _ _ h => h) (Or.inl ⟨by kernel_rfl, ?yN51⟩) (by assumption) ?rN51
        case yN51 =>
          intro w hSw
          (try dsimp only at hSw)
          go_simp
          try with_reducible rfl
        try simp only [List.setIfInBounds_toArray, List.set_cons_zero, List.set_cons_succ]
        refine wpAnyH_tk (i := 52) (oi := _) (v := ?vN52) rfl rfl (by kernel_rfl) (by kernel_rfl) (by kernel_rfl) (fun _ _ _ h => h) (Or.inl ⟨by kernel_rfl, ?yN52⟩) (by assumption) ?rN52
        case yN52 =>
          intro w hSw
          (try dsimp only at hSw)
          go_simp
          try with_reducible rfl
        try simp only [List.setIfInBounds_toArray, List.set_cons_zero, List.set_cons_succ]
        refine wpAnyH_tk (i := 53) (oi := _) (v := ?vN53) rfl rfl (by kernel_rfl) (by kernel_rfl) (by kernel_rfl) (fun _ _ _ h => h) (Or.inl ⟨by kernel_rfl, ?yN53⟩) (by assumption) ?rN53
        case yN53 =>
          intro w hSw
          (try dsimp only at hSw)
          go_simp
          try with_reducible rfl
        try simp only [List.setIfInBounds_toArray, List.set_cons_zero, List.set_cons_succ]
        refine wpAnyH_tk (i := 54) (oi := _) (v := ?vN54) rfl rfl (by kernel_rfl) (by kernel_rfl) (by kernel_rfl) (fun _ _ _ h => h) (Or.inl ⟨by kernel_rfl, ?yN54⟩) (by assumption) ?rN54
        case yN54 =>
          intro w hSw
          (try dsimp only at hSw)
          go_simp
          try with_reducible rfl
        try simp only [List.setIfInBounds_toArray, List.set_cons_zero, List.set_cons_succ]
        refine wpAnyH_tk (i := 55) (oi := _) (v := ?vN55) rfl rfl (by kernel_rfl) (by kernel_rfl) (by kernel_rfl) (fun _ _ _ h => h) (Or.inl ⟨by kernel_rfl, ?yN55⟩) (by assumption) ?rN55
        case yN55 =>
          intro w hSw
          (try dsimp only at hSw)
          go_simp
          try with_reducible rfl
        try simp only [List.setIfInBounds_toArray, List.set_cons_zero, List.set_cons_succ]
        refine wpAnyH_tk (i := 56) (oi := _) (v := ?vN56) rfl rfl (by kernel_rfl) (by kernel_rfl) (by kernel_rfl) (fun _ _ _ h => h) (Or.inl ⟨by kernel_rfl, ?yN56⟩) (by assumption) ?rN56
        case yN56 =>
          intro w hSw
          (try dsimp only at hSw)
          go_simp
          try with_reducible rfl
        try simp only [List.setIfInBounds_toArray, List.set_cons_zero, List.set_cons_succ]
        refine wpAnyH_tk (i := 57) (oi := _) (v := ?vN57) rfl rfl (by kernel_rfl) (by kernel_rfl) (by kernel_rfl) (fun _ _ _ h => h) (Or.inl ⟨by kernel_rfl, ?yN57⟩) (by assumption) ?rN57
        case yN57 =>
          intro w hSw
          (try dsimp only at hSw)
          go_simp
          try with_reducible rfl
        try simp only [List.setIfInBounds_toArray, List.set_cons_zero, List.set_cons_succ]
        refine wpAnyH_tk (i := 58) (oi := _) (v := ?vN58) rfl rfl (by kernel_rfl) (by kernel_rfl) (by kernel_rfl) (fun _ _ _ h => h) (Or.inl ⟨by kernel_rfl, ?yN58⟩) (by assumption) ?rN58
        case yN58 =>
          intro w hSw
          (try dsimp only at hSw)
          go_simp
          try with_reducible rfl
        try simp only [List.setIfInBounds_toArray, List.set_cons_zero, List.set_cons_succ]
        refine wpAnyH_tk (i := 59) (oi := _) (v := ?vN59) rfl rfl (by kernel_rfl) (by kernel_rfl) (by kernel_rfl) (fun _ _ _ h => h) (Or.inl ⟨by kernel_rfl, ?yN59⟩) (by assumption) ?rN59
        case yN59 =>
          intro w hSw
          (try dsimp only at hSw)
          go_simp
          try with_reducible rfl
        try simp only [List.setIfInBounds_toArray, List.set_cons_zero, List.set_cons_succ]
        refine wpAnyH_tk (i := 60) (oi := _) (v := ?vN60) rfl rfl (by kernel_rfl) (by kernel_rfl) (by kernel_rfl) (fun _ _ _ h => h) (Or.inl ⟨by kernel_rfl, ?yN60⟩) (by assumption) ?rN60
        case yN60 =>
          intro w hSw
          (try dsimp only at hSw)
          go_simp
          try with_reducible rfl
        try simp only [List.setIfInBounds_toArray, List.set_cons_zero, List.set_cons_succ]
        refine wpAnyH_done (by kernel_rfl) ?_ _
        go_wp2
        go_roundw
        case rel => exact ⟨k + 1, j + 1, by go_num, by omega, rfl⟩
        case measure => simp [intOf]; omega
end Go.Proofs.YtkajhdbcnmafcaaGreatDoor
