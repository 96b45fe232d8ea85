/- Walk of the law VfsCopies: a copy is the same, and goes its own way. -/
import Derived.Test.YtkajhdbcnmafcaaGreatDoorVfsSame
namespace Go.Proofs.YtkajhdbcnmafcaaGreatDoor
open Go.RowKit Go.Deep Go.Maps Ln Pth Vf
set_option linter.unusedSimpArgs false
set_option linter.unusedVariables false
attribute [local go_sem] bt_eq

theorem okA_iffC {x : Ac4} (h : okA x = true) : x.p.size ≤ 300 ∧ x.q.size ≤ 300 ∧ x.b.length ≤ 2000 := by
  unfold okA at h
  simp only [Bool.and_eq_true, decide_eq_true_eq] at h
  exact ⟨h.1.1, h.1.2, h.2⟩
theorem bigF_noC {L : List Ac4} (h : bigF L = false) : (∀ x ∈ L, okA x = true) ∧ L.length ≤ 60 := by
  unfold bigF at h
  simp only [Bool.not_eq_false', Bool.and_eq_true, decide_eq_true_eq, List.all_eq_true] at h
  exact h
/-- a copy of the program's file system, beside -/
theorem Two.copyF {f r : Nat} {S S' : St} {X : AsnN} {B : Nat} {w0 w : World} (h : InvN (Two f r S S' X) B w0 w) (hX : FrN X) (hB : B ≤ w0.heap.size) :
    Calls Tryz.prog 38 #[.pointer (some ⟨f, 0, none⟩)] w fun e w' => ∃ g', e = .returned (.pointer (some ⟨g', 0, none⟩)) ∧ InvN (sep (Two f r S S' X) (VS g' S)) B w0 w' := by
  obtain ⟨T, N, a, ok, ht, hb⟩ := h
  have a0 := a
  obtain ⟨T1, T2, ⟨T3, T4, v, _, s3, s4, _⟩, _, s1, s2, _⟩ := a
  refine (copy_any f S T3 N w v ⟨fun k hk => ok.1 k (s1 k (s3 k hk)), ok.2⟩).mono ?_
  rintro e w' ⟨g', rfl, hv, hbw⟩
  have hz := hbw.size
  refine ⟨g', rfl, fun k => T k ∨ (w.heap.size ≤ k ∧ k < w'.heap.size), N, ⟨T, fun k => w.heap.size ≤ k ∧ k < w'.heap.size, Two.fr f r S S' hX T N N w w' a0 (fun k hk => hbw.block k (hk.elim (fun h => (ok.1 k h).1) (ok.2 k))) (fun _ h => h) hz, hv, fun k h => .inl h, fun k h => .inr h, fun k h1 h2 => by have := (ok.1 k h1).1; omega⟩, ⟨fun k hk => ?_, fun k hk => Nat.lt_of_lt_of_le (ok.2 k hk) hz⟩, fun k hk => ?_, hb.trans (hbw.mono (by have := hb.size; omega))⟩
  · rcases hk with hk | hk
    · exact ⟨Nat.lt_of_lt_of_le (ok.1 k hk).1 hz, (ok.1 k hk).2⟩
    · exact ⟨hk.2, fun h => by have := ok.2 k h; omega⟩
  · rcases hk with hk | hk
    · exact ht k hk
    · have := hb.size; omega
/-- a copy of the reference's, beside -/
theorem Two.copyR {f r c : Nat} {S S' : St} {X : AsnN} {B : Nat} {w0 w : World} (h : InvN (sep (Two f r S S' X) (VS c S)) B w0 w) (hX : FrN X) (hB : B ≤ w0.heap.size) (hS : WfS S') :
    Calls Tryz.prog 39 #[.pointer (some ⟨r, 0, none⟩)] w fun e w' => ∃ q', e = .returned (.pointer (some ⟨q', 0, none⟩)) ∧ InvN (Two c q' S S' (Two f r S S' X)) B w0 w' := by
  obtain ⟨T, N, a, ok, ht, hb⟩ := h
  have a0 := a
  obtain ⟨U1, U2, ⟨T1, T2, ⟨T3, T4, _, v, s3, s4, _⟩, _, s1, s2, _⟩, _, u1, u2, _⟩ := a
  obtain ⟨h1, A, cc, P, h2, h3, h4, h5⟩ := v
  have hgT : T r := u1 r (s1 r (s4 r h1))
  have ho : RSO r S' A cc P w := ⟨h2, h3, h4.rg, fun x hx => (h4.dat x hx).1, h5, h4.top, fun a e hn he => (ok.1 r hgT).2 (he ▸ h4.blk a e hn), fun x hx a e hn he => (ok.1 r hgT).2 (he ▸ (h4.dat x hx).2 a e hn), h4.lt⟩
  refine (rcopy4_any r S' A cc P w ho (row_len hS h5)).mono ?_
  rintro e w' ⟨rfl, hbw, A', c', o, hA'⟩
  have hz := hbw.size
  have hzl : w.heap.size < w'.heap.size := (Array.getElem?_eq_some_iff.1 o.heap).1
  have hz0 := hb.size
  have hfr := ((Two.fr f r S S' hX).join (VS.fr c S)) T N (fun k => N k ∨ (w.heap.size < k ∧ k < w'.heap.size)) w w' a0 (fun k hk => hbw.block k (hk.elim (fun h => (ok.1 k h).1) (ok.2 k))) (fun k h => .inl h) hz
  have hnew : RS w.heap.size S' (fun k => k = w.heap.size) (fun k => N k ∨ (w.heap.size < k ∧ k < w'.heap.size)) w' :=
    ⟨rfl, A', c', P, o.heap, o.cap, ⟨o.rg, fun a e hn => .inr ⟨hA' a e, o.rg.block_lt e hn⟩, fun x hx => ⟨o.dat x hx, fun a e hn => .inl ((h4.dat x hx).2 a e hn)⟩, o.lt, o.top⟩, o.eq⟩
  have hsep : sep (sep (Two f r S S' X) (VS c S)) (RS w.heap.size S') (fun k => T k ∨ k = w.heap.size) (fun k => N k ∨ (w.heap.size < k ∧ k < w'.heap.size)) w' :=
    ⟨T, fun k => k = w.heap.size, hfr, hnew, fun k h => .inl h, fun k h => .inr h, fun k h1 h2 => by have := (ok.1 k h1).1; omega⟩
  refine ⟨w.heap.size, rfl, fun k => T k ∨ k = w.heap.size, fun k => N k ∨ (w.heap.size < k ∧ k < w'.heap.size), sep_comm (sep_assoc hsep), ⟨fun k hk => ?_, fun k hk => ?_⟩, fun k hk => ?_, hb.trans (hbw.mono (by omega))⟩
  · rcases hk with hk | rfl
    · refine ⟨Nat.lt_of_lt_of_le (ok.1 k hk).1 hz, ?_⟩
      rintro (h | h)
      · exact (ok.1 k hk).2 h
      · have := (ok.1 k hk).1; omega
    · refine ⟨hzl, ?_⟩
      rintro (h | h)
      · have := ok.2 _ h; omega
      · omega
  · rcases hk with hk | hk
    · exact Nat.lt_of_lt_of_le (ok.2 k hk) hz
    · exact hk.2
  · rcases hk with hk | rfl
    · exact ht k hk
    · omega
/-- the two pairs change places -/
theorem Two.turn {f r c q : Nat} {S S' R R' : St} {X : AsnN} {B : Nat} {w0 w : World} (h : InvN (Two c q R R' (Two f r S S' X)) B w0 w) : InvN (Two f r S S' (sep X (sep (VS c R) (RS q R')))) B w0 w :=
  h.mono (fun _ _ _ h => sep_assoc (sep_comm h))
theorem Two.last {f r c q : Nat} {S S' R R' : St} {X : AsnN} {B : Nat} {w0 w : World} (h : InvN (Two f r S S' (sep X (sep (VS c R) (RS q R')))) B w0 w) : InvN (Two c q R R' X) B w0 w := h.snd.comm
set_option maxRecDepth 100000 in
set_option maxHeartbeats 16000000 in
theorem law_vfsCopies (A : Option Addr) (c : Nat) (L : List Ac4) (A2 : Option Addr) (c2 : Nat) (L2 : List Ac4) (m0 : L.length ≤ maxLen) (s0 : ∀ x ∈ L, szA x) (m1 : L2.length ≤ maxLen) (s1 : ∀ x ∈ L2, szA x) (W : World) (hm : MX W) (h : AR4 W A L) (h2 : AR4 W A2 L2) :
    Calls Tryz.prog 7 #[.slice A L.length c, .slice A2 L2.length c2] W fun e w' => e = .returned (.bool true) ∧ Below W.heap.size W w' := by
  have HM := hide hm
  have HAR := hide h
  have HAR2 := hide h2
  have HAL := hide (alive4_any W hm)
  have HS0 := hide s0
  have HS1 := hide s1
  obtain ⟨nl, hn⟩ : ∃ n, L.length = n := ⟨_, rfl⟩
  have HN := hide hn
  have hm0 : nl ≤ 9223372036854775807 := by rw [← hn]; exact m0
  obtain ⟨nk, hn2⟩ : ∃ n, L2.length = n := ⟨_, rfl⟩
  have HN2 := hide hn2
  have hm1 : nk ≤ 9223372036854775807 := by rw [← hn2]; exact m1
  rw [hn, hn2]
  clear hm h h2 s0 s1 hn hn2 m0 m1
  go_enter Tryz.func7, Tryz.ntmps7
  go_wp2_with fail
  refine HAL.out.mono ?_
  rintro e w1 ⟨rfl, hb1⟩
  have HB1 := hide hb1
  clear hb1 HAL
  have hbg := big_any A c L w1 (HAR.out.below HB1.out).1 (by rw [HN.out]; exact hm0) HS0.out
  have hbg2 := big_any A2 c2 L2 w1 (HAR2.out.below HB1.out).1 (by rw [HN2.out]; exact hm1) HS1.out
  rw [HN.out] at hbg
  rw [HN2.out] at hbg2
  have HBC := hide hbg
  have HBC2 := hide hbg2
  clear hbg hbg2
  cases hbig : bigF L with
  | true =>
    rw [hbig] at HBC
    go_wp2_with fail
    refine HBC.out.mono ?_
    rintro e w' ⟨rfl, rfl⟩
    go_wp2
    go_ret
    exact ⟨rfl, HB1.out⟩
  | false =>
  rw [hbig] at HBC
  cases hbig2 : bigF L2 with
  | true =>
    rw [hbig2] at HBC2
    go_wp2_with fail
    refine HBC.out.mono ?_
    rintro e w' ⟨rfl, rfl⟩
    go_wp2_with fail
    refine HBC2.out.mono ?_
    rintro e w' ⟨rfl, rfl⟩
    go_wp2
    go_ret
    exact ⟨rfl, HB1.out⟩
  | false =>
  rw [hbig2] at HBC2
  obtain ⟨hok, hl60⟩ := bigF_noC hbig
  obtain ⟨hok2, hl62⟩ := bigF_noC hbig2
  have HOK := hide hok
  have HOK2 := hide hok2
  rw [HN.out] at hl60
  rw [HN2.out] at hl62
  clear hok hbig hok2 hbig2
  go_wp2_with fail
  refine HBC.out.mono ?_
  rintro e w' ⟨rfl, rfl⟩
  go_wp2_with fail
  refine HBC2.out.mono ?_
  rintro e w' ⟨rfl, rfl⟩
  clear HBC HBC2
  have HNW := hide (vnew_any 30 3000 w1 (by omega) (by omega) (by omega) (by omega))
  go_wp2_with fail
  refine HNW.out.mono ?_
  rintro e w4 ⟨rfl, hb4, hv4, hs4⟩
  have HNR := hide (rnew_any 30 3000 w4)
  go_wp2_with fail
  refine HNR.out.mono ?_
  rintro e w5 ⟨rfl, hb5, hr5, hs5⟩
  have HI0 := hide (Two.start 30 3000 HB1.out hb4 hv4 hs4 hb5 hr5 hs5)
  obtain ⟨f, hf⟩ : ∃ f, w1.heap.size + 1 = f := ⟨_, rfl⟩
  obtain ⟨r, hr⟩ : ∃ f, w4.heap.size = f := ⟨_, rfl⟩
  rw [hf, hr] at HI0
  rw [hf, hr]
  clear hb4 hv4 hs4 hb5 hr5 hs5 HNW HNR hf hr
  go_wp2
  go_loopw [9] (fun v9 wr => ∃ k : Nat, v9 = .int .i64 k ∧ k ≤ nl ∧ Hid (InvN (Two f r (actsS (newS 30 3000) (L.take k)) (actsS (newS 30 3000) (L.take k)) noneN) W.heap.size W wr)) (fun v9 _ => nl - (intOf v9).toNat)
  case atStart => exact ⟨0, rfl, Nat.zero_le _, HI0.out⟩
  case round =>
    obtain ⟨wo, hwo⟩ : ∃ Z, Z = wr := ⟨_, rfl⟩
    subst hwo
    obtain ⟨i, rfl, hi, HI⟩ := hrel
    by_cases hlt : i < nl
    · have har := HAR.out.below HI.out.below
      obtain ⟨y, hy⟩ : ∃ y, L[i]? = some y := ⟨L[i]'(by have := HN.out; omega), List.getElem?_eq_getElem _⟩
      obtain ⟨gs, og, rfl, hgs, hc⟩ := har.1 i y hy
      have c0 : wo.cell? ⟨gs, og + i * 5, none⟩ = some (.int .i64 y.way) := by have := hc 0 _ rfl; simpa using this
      have c1 : wo.cell? ⟨gs, og + i * 5 + 1, none⟩ = some (.string y.p) := hc 1 _ rfl
      have c2' : wo.cell? ⟨gs, og + i * 5 + 2, none⟩ = some (.string y.q) := hc 2 _ rfl
      have c3 : wo.cell? ⟨gs, og + i * 5 + 3, none⟩ = some (.slice y.A y.b.length y.c) := hc 3 _ rfl
      have c4 : wo.cell? ⟨gs, og + i * 5 + 4, none⟩ = some (.bool y.more) := hc 4 _ rfl
      obtain ⟨z1, z2, z3⟩ := okA_iffC (HOK.out y (List.mem_of_getElem? hy))
      have hgd := GoodS.acts (L.take i) (GoodS.new 30 3000)
      have HDO := hide (do_any f r _ y noneN noneN.fr W wo HI.out hgd (by decide) (by rw [List.length_take]; omega) HM.out z1 z2 z3 (HAR.out.2 y (List.mem_of_getElem? hy)))
      rw [← actsS_take hy] at HDO
      have b1 : (i : Int) < (nl : Int) := by omega
      clear hy hc hgs z1 z2 z3 hgd har
      go_wp2_with fail
      refine HDO.out.mono ?_
      rintro e w6 ⟨rfl, hi6⟩
      have HI6 := hide hi6
      clear hi6
      go_wp2
      go_roundw
      case rel => exact ⟨i + 1, by go_num, by omega, HI6.out⟩
      case measure => simp [intOf]; omega
    obtain rfl : i = nl := by omega
    rw [List.take_of_length_le (by have := HN.out; omega)] at HI
    have hgd := GoodS.acts L (GoodS.new 30 3000)
    rw [HN.out] at hgd
    obtain ⟨S, hSe⟩ : ∃ S, actsS (newS 30 3000) L = S := ⟨_, rfl⟩
    rw [hSe] at HI hgd
    have HG := hide hgd
    have hclk : S.clock ≤ 60 := by have := hgd.clock; omega
    have HCF := hide (Two.copyF HI.out noneN.fr (Nat.le_refl _))
    clear hgd hSe hlt
    go_wp2_with fail
    refine HCF.out.mono ?_
    rintro e w6 ⟨cc, rfl, hi6⟩
    have HCR := hide (Two.copyR hi6 noneN.fr (Nat.le_refl _) HG.out.wf)
    clear hi6 HCF
    go_wp2_with fail
    refine HCR.out.mono ?_
    rintro e w7 ⟨q, rfl, hi7⟩
    have HI7 := hide hi7
    have HXF := hide (Two.fr f r S S noneN.fr)
    clear hi7 HCR
    go_wp2
    go_loopw [12, 13] (fun v12 _ wr => ∃ k : Nat, v12 = .int .i64 k ∧ k ≤ nk ∧ Hid (InvN (Two cc q (actsS S (L2.take k)) (actsS S (L2.take k)) (Two f r S S noneN)) W.heap.size W wr)) (fun v12 _ _ => nk - (intOf v12).toNat)
    case atStart => exact ⟨0, rfl, Nat.zero_le _, HI7.out⟩
    case round =>
      obtain ⟨wp, hwp⟩ : ∃ Z, Z = wr := ⟨_, rfl⟩
      subst hwp
      obtain ⟨j, rfl, hj, HJ⟩ := hrel
      by_cases hlt : j < nk
      · have har := HAR2.out.below HJ.out.below
        obtain ⟨y, hy⟩ : ∃ y, L2[j]? = some y := ⟨L2[j]'(by have := HN2.out; omega), List.getElem?_eq_getElem _⟩
        obtain ⟨gs, og, rfl, hgs, hc⟩ := har.1 j y hy
        have c0 : wp.cell? ⟨gs, og + j * 5, none⟩ = some (.int .i64 y.way) := by have := hc 0 _ rfl; simpa using this
        have c1 : wp.cell? ⟨gs, og + j * 5 + 1, none⟩ = some (.string y.p) := hc 1 _ rfl
        have c2' : wp.cell? ⟨gs, og + j * 5 + 2, none⟩ = some (.string y.q) := hc 2 _ rfl
        have c3 : wp.cell? ⟨gs, og + j * 5 + 3, none⟩ = some (.slice y.A y.b.length y.c) := hc 3 _ rfl
        have c4 : wp.cell? ⟨gs, og + j * 5 + 4, none⟩ = some (.bool y.more) := hc 4 _ rfl
        obtain ⟨z1, z2, z3⟩ := okA_iffC (HOK2.out y (List.mem_of_getElem? hy))
        have hgd := GoodS.acts (L2.take j) HG.out
        have HDO := hide (do_any cc q _ y (Two f r S S noneN) HXF.out W wp HJ.out hgd (by decide) (by rw [List.length_take]; omega) HM.out z1 z2 z3 (HAR2.out.2 y (List.mem_of_getElem? hy)))
        rw [← actsS_take hy] at HDO
        have b1 : (j : Int) < (nk : Int) := by omega
        clear hy hc hgs z1 z2 z3 hgd har
        go_wp2_with fail
        refine HDO.out.mono ?_
        rintro e w8 ⟨rfl, hi8⟩
        have HI8 := hide hi8
        clear hi8
        go_wp2
        go_roundw
        case rel => exact ⟨j + 1, by go_num, by omega, HI8.out⟩
        case measure => simp [intOf]; omega
      obtain rfl : j = nk := by omega
      rw [List.take_of_length_le (by have := HN2.out; omega)] at HJ
      have hgd2 := GoodS.acts L2 HG.out
      rw [HN2.out] at hgd2
      obtain ⟨S2, hSe2⟩ : ∃ S2, actsS S L2 = S2 := ⟨_, rfl⟩
      rw [hSe2] at HJ hgd2
      have HG2 := hide hgd2
      have hclk2 : S2.clock ≤ 1000000 := by have := hgd2.clock; omega
      have HSM := hide (same_two f r S [47] _ (noneN.fr.join ((VS.fr cc S2).join (RS.fr q S2))) W wp (Two.turn HJ.out) HG.out.wf (by omega) HM.out (by decide))
      have HSM2 := hide (fun (Z : World) (hh : InvN (Two f r S S (sep noneN (sep (VS cc S2) (RS q S2)))) W.heap.size W Z) => same_two cc q S2 [47] noneN noneN.fr W Z (Two.last hh) HG2.out.wf hclk2 HM.out (by decide))
      rw [show bs [47] = (⟨#[47]⟩ : ByteArray) from rfl] at HSM HSM2
      clear hgd2 hSe2 hlt
      go_wp2_with fail
      refine HSM.out.mono ?_
      rintro e w8 ⟨rfl, hi8⟩
      have HI8 := hide hi8
      clear hi8
      go_wp2_with fail
      refine (HSM2.out w8 HI8.out).mono ?_
      rintro e w9 ⟨rfl, hi9⟩
      have HI9 := hide hi9
      clear hi9
      go_wp2
      go_ret
      exact ⟨rfl, HI9.out.below⟩
end Go.Proofs.YtkajhdbcnmafcaaGreatDoor
