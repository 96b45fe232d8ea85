/- The walk of the law VarsCopy. -/
import Derived.Test.YtpmhkgjplghldaaVarsSep
import Derived.Test.YtpmhkgjplghldaaVarsLawA
import Derived.Test.YtpmhkgjplghldaaOpenActs
import Derived.Deep.RegionHeld3
namespace Go.Proofs.Ytpmhkgjplghldaa
open Go.RowKit Go.Deep Go.Maps
attribute [local go_sem] bt_eq

abbrev CopyI (gv gc : Nat) (A : Option Addr) (P R : List Pr) : Asn := starA (starA (VA gv P) (LA A P)) (VA gc R)
theorem CopyI.fr (gv gc : Nat) (A : Option Addr) (P R : List Pr) : Fr (CopyI gv gc A P R) := ((VA.fr _ _).star (LA.fr _ _)).star (VA.fr _ _)
set_option maxRecDepth 100000 in
set_option maxHeartbeats 8000000 in
theorem law_varsCopy (A : Option Addr) (c : Nat) (L : List Ac6) (A' : Option Addr) (c' : Nat) (L' : List Ac6) (hl : L.length ≤ maxLen) (_hv : ∀ x ∈ L, x.2.1.size ≤ maxLen ∧ x.2.2.size ≤ maxLen) (hl' : L'.length ≤ maxLen) (_hv' : ∀ x ∈ L', x.2.1.size ≤ maxLen ∧ x.2.2.size ≤ maxLen) (w : World) (hA : AR6 w A L) (hA' : AR6 w A' L') :
    Calls Try.prog 4 #[.slice A L.length c, .slice A' L'.length c'] w fun e w' => e = .returned (.bool true) ∧ Below w.heap.size w w' := by
  unfold maxLen at hl hl'
  have HA := hide hA
  have HSZ := hide _hv
  have HA' := hide hA'
  have HSZ' := hide _hv'
  clear hA _hv hA' _hv'
  obtain ⟨m, hm⟩ : ∃ m, L.length = m := ⟨_, rfl⟩
  obtain ⟨m', hm'⟩ : ∃ m, L'.length = m := ⟨_, rfl⟩
  rw [hm] at hl ⊢
  rw [hm'] at hl' ⊢
  have HM := hide hm
  have HM' := hide hm'
  clear hm hm'
  have hl1 : (m : Int) ≤ 9223372036854775807 := by omega
  have hl2 : (m' : Int) ≤ 9223372036854775807 := by omega
  by_cases c1 : 60 < m
  · have h1 : (60 : Int) < (m : Int) := by omega
    go_enter Try.func4, Try.ntmps4
    go_wp2_with fail
    refine (alive6_any w).mono ?_
    rintro e w1 ⟨rfl, hb1⟩
    go_wp2
    go_ret
    exact ⟨rfl, hb1⟩
  have h1 : (m : Int) ≤ 60 := by omega
  by_cases c2 : 60 < m'
  · have h2 : (60 : Int) < (m' : Int) := by omega
    go_enter Try.func4, Try.ntmps4
    go_wp2_with fail
    refine (alive6_any w).mono ?_
    rintro e w1 ⟨rfl, hb1⟩
    go_wp2
    go_ret
    exact ⟨rfl, hb1⟩
  have h2 : (m' : Int) ≤ 60 := by omega
  clear c1 c2
  go_enter Try.func4, Try.ntmps4
  go_wp2_with fail
  refine (alive6_any w).mono ?_
  rintro e w1 ⟨rfl, hb1⟩
  have HB1 := hide hb1
  have HA1 := hide (HA.out.below hb1)
  have HA2 := hide (HA'.out.below hb1)
  clear hb1
  have HI0 := hide ((Inv.first w1 (.cells #[.map none] 26)).mono (VA.new _ _))
  go_wp2
  obtain ⟨gv, hgv⟩ : ∃ g, w1.heap.size = g := ⟨_, rfl⟩
  rw [hgv] at HI0 ⊢
  have HGV := hide hgv
  have hgw : gv ≤ w1.heap.size := by omega
  clear hgv
  go_loopw [7] (fun v7 wr => ∃ (k : Nat) (P : List Pr), v7 = .int .i64 k ∧ k ≤ m ∧ VInv P ∧ Inv (VA gv P) gv w1 wr) (fun v7 _ => m - (intOf v7).toNat)
  case atStart => exact ⟨0, [], rfl, by omega, VInv.nil, HI0.out⟩
  case round =>
    obtain ⟨k, P, rfl, hk, hP, hi⟩ := hrel
    have HI := hide hi
    have HP := hide hP
    clear hi hP
    by_cases hlt : k < m
    · obtain ⟨x, hx⟩ : ∃ x, L[k]? = some x := ⟨L[k]'(by have := HM.out; omega), List.getElem?_eq_getElem _⟩
      obtain ⟨out, nm, val⟩ := x
      have hz := HSZ.out _ (List.mem_of_getElem? hx)
      obtain ⟨g, o, rfl, hg, _, hd2, hd3⟩ := HA1.out.at hx
      simp only at hz hd2 hd3
      rw [HGV.out] at hg
      have hc2 := (HI.out.below.cell (p := ⟨g, o + k * 3 + 1, none⟩) hg).trans hd2
      have hc3 := (HI.out.below.cell (p := ⟨g, o + k * 3 + 2, none⟩) hg).trans hd3
      have HD2 := hide hd2
      have HD3 := hide hd3
      unfold maxLen at hz
      obtain ⟨hz1, hz2⟩ := hz
      have HC := hide (fun W (h : Inv (VA gv P) gv w1 W) => h.callE hgw (vset_spec gv P HP.out nm val hz1 hz2))
      have HP2 := hide (HP.out.set nm val)
      clear hx hd2 hd3
      generalize rSet P nm val = P2 at HP2 HC
      generalize rCode P nm val = code at HC
      have hk0 : (0 : Int) ≤ (k : Int) := by omega
      have hk1 : (k : Int) < (m : Int) := by omega
      go_wp2_with fail
      go_region_held3 (fun w' => w'.cell? ⟨g, o + k * 3 + 1, none⟩ = some (.string nm) ∧ w'.cell? ⟨g, o + k * 3 + 2, none⟩ = some (.string val))
        (first | exact ⟨hc2, hc3⟩ | exact ⟨u2, u3⟩)
        ((go_at_call 6; refine (HC.out _ (HI.out.drew (VA.fr _ _) hgw)).mono ?_; rintro e w4 ⟨rfl, hj⟩; have u2 := (hj.below.cell (p := ⟨g, o + k * 3 + 1, none⟩) hg).trans HD2.out; have u3 := (hj.below.cell (p := ⟨g, o + k * 3 + 2, none⟩) hg).trans HD3.out; have J1 := hide hj; clear hj))
      rename_i hHeld
      clear hHeld u2 u3
      go_wp2_with fail
      go_roundw
      case rel => exact ⟨k + 1, P2, by go_num, by omega, HP2.out, J1.out⟩
      case measure => simp [intOf]; omega
    · obtain rfl : k = m := by omega
      have HALL := hide (fun W (h : Inv (VA gv P) gv w1 W) => vall_I h HP.out)
      have HLN := hide HP.out.len
      go_wp2_with fail
      refine (HALL.out _ HI.out).mono ?_
      rintro e w2 ⟨A1, c1, rfl, hc1, hpr1, hbl1, hb2⟩
      have hj := HI.out.add (VA.fr _ _) hb2 hgw (LA.new hpr1 hbl1) (fun k hk => hk)
      have HJ := hide hj
      clear hj hpr1 hbl1 hb2
      go_wp2_with fail
      refine (vcopy_I HJ.out.fst).mono ?_
      rintro e w3 ⟨gc, rfl, hva, hb3⟩
      have hj := HJ.out.add ((VA.fr _ _).star (LA.fr _ _)) hb3 hgw hva (fun k hk => hk)
      have HK := hide hj
      clear hj hva hb3 HJ
      have HALC := hide (fun W (h : Inv (VA gc P) gv w1 W) => vall_I h HP.out)
      go_wp2_with fail
      refine (HALC.out _ HK.out.snd).mono ?_
      rintro e w4 ⟨A3, c3, rfl, hc3, hpr3, _, hb4⟩
      have hj := HK.out.step (CopyI.fr _ _ _ _ _) hb4 hgw
      have HN := hide hj
      have HPR3 := hide hpr3
      clear hj hpr3 hb4 HK
      go_wp2_with fail
      refine (samep_any A3 A1 c3 c1 P P _ HPR3.out (LA.pr HN.out.fst.snd) (by have := HLN.out; omega)).mono ?_
      rintro e w5 ⟨rfl, n5, rfl⟩
      have HN5 := hide (HN.out.step (CopyI.fr _ _ _ _ _) (below_drewN (Below.refl _ _) n5) hgw)
      rw [show decide (P = P) = true from by simp]
      go_wp2_with fail
      go_loopw [10] (fun v10 wr => ∃ (q : Nat) (R : List Pr), v10 = .int .i64 q ∧ q ≤ m' ∧ VInv R ∧ Inv (CopyI gv gc A1 P R) gv w1 wr) (fun v10 _ => m' - (intOf v10).toNat)
      case atStart => exact ⟨0, P, rfl, by omega, HP.out, HN5.out⟩
      case round =>
        obtain ⟨q, R, rfl, hq, hR, hi⟩ := hrel
        have HI := hide hi
        have HR := hide hR
        clear hi hR
        by_cases hlt2 : q < m'
        · obtain ⟨x, hx⟩ : ∃ x, L'[q]? = some x := ⟨L'[q]'(by have := HM'.out; omega), List.getElem?_eq_getElem _⟩
          obtain ⟨out, nm, val⟩ := x
          have hz := HSZ'.out _ (List.mem_of_getElem? hx)
          obtain ⟨g, o, rfl, hg, _, hd2, hd3⟩ := HA2.out.at hx
          simp only at hz hd2 hd3
          rw [HGV.out] at hg
          have hc2 := (HI.out.below.cell (p := ⟨g, o + q * 3 + 1, none⟩) hg).trans hd2
          have hc3 := (HI.out.below.cell (p := ⟨g, o + q * 3 + 2, none⟩) hg).trans hd3
          have HD2 := hide hd2
          have HD3 := hide hd3
          unfold maxLen at hz
          obtain ⟨hz1, hz2⟩ := hz
          have HC := hide (fun W (h : Inv (CopyI gv gc A1 P R) gv w1 W) => h.callE hgw ((vset_spec gc R HR.out nm val hz1 hz2).right ((VA.fr _ _).star (LA.fr _ _))))
          have HR2 := hide (HR.out.set nm val)
          have HFR := hide (fun R => CopyI.fr gv gc A1 P R)
          clear hx hd2 hd3
          generalize rSet R nm val = R2 at HR2 HC
          generalize rCode R nm val = code at HC
          have HC2 := hide (fun W (h : Inv (CopyI gv gc A1 P R2) gv w1 W) => h.callE hgw ((vunset_spec gc R2 val hz2).right ((VA.fr _ _).star (LA.fr _ _))))
          have HR3 := hide (HR2.out.del val)
          generalize (R2.filter fun x => !decide (x.1 = val)) = R3 at HR3 HC2
          have hk0 : (0 : Int) ≤ (q : Int) := by omega
          have hk1 : (q : Int) < (m' : Int) := by omega
          go_wp2_with fail
          go_region_held3 (fun w' => w'.cell? ⟨g, o + q * 3 + 1, none⟩ = some (.string nm) ∧ w'.cell? ⟨g, o + q * 3 + 2, none⟩ = some (.string val))
            (first | exact ⟨hc2, hc3⟩ | exact ⟨u2, u3⟩)
            ((go_at_call 6; refine (HC.out _ (HI.out.drew (HFR.out _) hgw)).mono ?_; rintro e w6 ⟨rfl, hj⟩; have u2 := (hj.below.cell (p := ⟨g, o + q * 3 + 1, none⟩) hg).trans HD2.out; have u3 := (hj.below.cell (p := ⟨g, o + q * 3 + 2, none⟩) hg).trans HD3.out; have J1 := hide hj; clear hj))
          rename_i hHeld
          clear hHeld hc2 hc3
          go_wp2_with fail
          refine (HC2.out _ J1.out).mono ?_
          rintro e w7 ⟨rfl, hj⟩
          have J2 := hide hj
          clear hj u2 u3
          go_wp2_with fail
          go_roundw
          case rel => exact ⟨q + 1, R3, by go_num, by omega, HR3.out, J2.out⟩
          case measure => simp [intOf]; omega
        · obtain rfl : q = m' := by omega
          go_wp2_with fail
          refine (HALL.out _ HI.out.fst.fst).mono ?_
          rintro e w6 ⟨A5, c5, rfl, hc5, hpr5, _, hb6⟩
          have hj := HI.out.step (CopyI.fr _ _ _ _ _) hb6 hgw
          have HL6 := hide hj
          have HPR5 := hide hpr5
          clear hj hpr5 hb6 HI
          go_wp2_with fail
          refine (samep_any A5 A1 c5 c1 P P _ HPR5.out (LA.pr HL6.out.fst.snd) (by have := HLN.out; omega)).mono ?_
          rintro e w7 ⟨rfl, n7, rfl⟩
          rw [show decide (P = P) = true from by simp]
          have HF := hide (below_up HB1.out (HGV.out ▸ (HL6.out.step (CopyI.fr _ _ _ _ _) (below_drewN (Below.refl _ _) n7) hgw).below) HB1.out.size)
          go_wp2
          go_ret
          exact ⟨rfl, HF.out⟩
end Go.Proofs.Ytpmhkgjplghldaa
