/- The walk of the law VarsPlay. -/
import Derived.Test.YtpmhkgjplghldaaVarsSep
import Derived.Test.YtpmhkgjplghldaaVarsLawA
import Derived.Test.YtpmhkgjplghldaaOpenActs
import Derived.Deep.RegionHeld3
namespace Go.Proofs.Ytpmhkgjplghldaa
open Go.RowKit Go.Deep Go.Maps
attribute [local go_sem] bt_eq

abbrev PlayI (gv go gr : Nat) (P Q R : List Pr) : Asn := starA (starA (VA gv P) (VA go Q)) (RA gr R)
theorem PlayI.fr (gv go gr : Nat) (P Q R : List Pr) : Fr (PlayI gv go gr P Q R) := ((VA.fr _ _).star (VA.fr _ _)).star (RA.fr _ _)
set_option maxRecDepth 100000 in
set_option maxHeartbeats 8000000 in
theorem law_varsPlay (A : Option Addr) (c : Nat) (L : List Ac6) (hl : L.length ≤ maxLen) (_hv : ∀ x ∈ L, x.2.1.size ≤ maxLen ∧ x.2.2.size ≤ maxLen) (w : World) (hA : AR6 w A L) :
    Calls Try.prog 3 #[.slice A L.length c] w fun e w' => e = .returned (.bool true) ∧ Below w.heap.size w w' := by
  unfold maxLen at hl
  have HA := hide hA
  have HSZ := hide _hv
  clear hA _hv
  obtain ⟨m, hm⟩ : ∃ m, L.length = m := ⟨_, rfl⟩
  rw [hm] at hl ⊢
  have HM := hide hm
  clear hm
  have hl1 : (m : Int) ≤ 9223372036854775807 := by omega
  by_cases c1 : 100 < m
  · have h1 : (100 : Int) < (m : Int) := by omega
    go_enter Try.func3, Try.ntmps3
    go_wp2_with fail
    refine (alive6_any w).mono ?_
    rintro e w1 ⟨rfl, hb1⟩
    go_wp2
    go_ret
    exact ⟨rfl, hb1⟩
  have h1 : (m : Int) ≤ 100 := by omega
  clear c1
  go_enter Try.func3, Try.ntmps3
  go_wp2_with fail
  refine (alive6_any w).mono ?_
  rintro e w1 ⟨rfl, hb1⟩
  have HB1 := hide hb1
  have HA1 := hide (HA.out.below hb1)
  clear hb1
  have hi0 := (((Inv.first w1 (.cells #[.map none] 26)).new (Blk.fr _ _) (.cells #[.map none] 26) (Nat.le_refl _)).new ((Blk.fr _ _).star (Blk.fr _ _)) (.cells #[.slice none 0 0] 30) (Nat.le_refl _)).mono (star_mono (star_mono (VA.new _ _) (VA.new _ _)) (RA.new _ _))
  simp only [World.size_alloc] at hi0
  have HI0 := hide hi0
  clear hi0
  go_wp2
  obtain ⟨gv, hgv⟩ : ∃ g, w1.heap.size = g := ⟨_, rfl⟩
  rw [hgv] at HI0 ⊢
  have HGV := hide hgv
  clear hgv
  go_loopw [7] (fun v7 wr => ∃ (k : Nat) (P Q : List Pr), v7 = .int .i64 k ∧ k ≤ m ∧ VInv P ∧ VInv Q ∧ Inv (PlayI gv (gv + 1) (gv + 1 + 1) P Q P) gv w1 wr) (fun v7 _ => m - (intOf v7).toNat)
  case atStart => exact ⟨0, [], [], rfl, by omega, VInv.nil, VInv.nil, HI0.out⟩
  case round =>
    obtain ⟨k, P, Q, rfl, hk, hP, hQ, hi⟩ := hrel
    have HI := hide hi
    have HP := hide hP
    have HQ := hide hQ
    have HAR := hide (HA1.out.below (HGV.out ▸ hi.below))
    clear hi hP hQ
    by_cases hlt : k < m
    · obtain ⟨x, hx⟩ : ∃ x, L[k]? = some x := ⟨L[k]'(by have := HM.out; omega), List.getElem?_eq_getElem _⟩
      obtain ⟨out, nm, val⟩ := x
      have hz := HSZ.out _ (List.mem_of_getElem? hx)
      obtain ⟨g, o, rfl, hg, hc1, hc2, hc3⟩ := HAR.out.at hx
      simp only at hz hc1 hc2 hc3
      unfold maxLen at hz
      obtain ⟨hz1, hz2⟩ := hz
      have hz3 : (nm.size : Int) ≤ 9223372036854775807 := by omega
      have hz4 : (val.size : Int) ≤ 9223372036854775807 := by omega
      clear hx
      have HIX := hide (HI.out.new (PlayI.fr _ _ _ _ _ _) (.cells #[.bool out, .string nm, .string val] 32) (by rw [HGV.out]; exact Nat.le_refl _))
      by_cases c2 : 100 < nm.size
      · have h2 : (100 : Int) < (nm.size : Int) := by omega
        go_wp2_with fail
        go_ret
        exact ⟨rfl, below_up HB1.out (HGV.out ▸ HIX.out.below) HB1.out.size⟩
      have h2 : (nm.size : Int) ≤ 100 := by omega
      by_cases c3 : 5000 < val.size
      · have h3 : (5000 : Int) < (val.size : Int) := by omega
        go_wp2_with fail
        go_ret
        exact ⟨rfl, below_up HB1.out (HGV.out ▸ HIX.out.below) HB1.out.size⟩
      have h3 : (val.size : Int) ≤ 5000 := by omega
      have hgw : gv ≤ w1.heap.size := by rw [HGV.out]; exact Nat.le_refl _
      have HC1 := hide (HIX.out.callE hgw ((((vset_spec (gv + 1) Q HQ.out ⟨#[120]⟩ val (by decide) (by omega)).right (VA.fr gv P)).left (RA.fr _ _)).left (Blk.fr _ _)))
      have HQ2 := hide (HQ.out.set ⟨#[120]⟩ val)
      go_wp2_with fail
      refine HC1.out.mono ?_
      rintro e w3 ⟨rfl, hi3⟩
      have hx1 := Blk.cell hi3.snd (j := 0) (v := .bool out) rfl
      have hx2 := Blk.cell hi3.snd (j := 1) (v := .string nm) rfl
      have hx3 := Blk.cell hi3.snd (j := 2) (v := .string val) rfl
      have HI3 := hide hi3
      clear hi3 HC1 HIX HI
      generalize rSet Q ⟨#[120]⟩ val = Q2 at HQ2 HI3
      cases out with
      | true =>
        have HC2 := hide (HI3.out.callE hgw ((((vunset_spec gv P nm (by omega)).left (VA.fr _ _)).left (RA.fr _ _)).left (Blk.fr _ _)))
        have HP2 := hide (HP.out.del nm)
        go_wp2_with fail
        refine HC2.out.mono ?_
        rintro e w4 ⟨rfl, hi4⟩
        clear hx1 hx2 hx3
        have hx1 := Blk.cell hi4.snd (j := 0) (v := .bool true) rfl
        have hx2 := Blk.cell hi4.snd (j := 1) (v := .string nm) rfl
        have hx3 := Blk.cell hi4.snd (j := 2) (v := .string val) rfl
        have HI4 := hide hi4
        clear hi4 HC2 HI3
        have HC3 := hide (HI4.out.callE hgw (((runset_spec (gv + 1 + 1) P HP.out nm).right ((VA.fr _ _).star (VA.fr _ _))).left (Blk.fr _ _)))
        go_wp2_with fail
        refine HC3.out.mono ?_
        rintro e w5 ⟨rfl, hi5⟩
        clear hx1 hx2 hx3
        have hx1 := Blk.cell hi5.snd (j := 0) (v := .bool true) rfl
        have hx2 := Blk.cell hi5.snd (j := 1) (v := .string nm) rfl
        have hx3 := Blk.cell hi5.snd (j := 2) (v := .string val) rfl
        have HI5 := hide hi5
        clear hi5 HC3 HI4
        generalize (P.filter fun x => !decide (x.1 = nm)) = P2 at HP2 HI5
        have JJ := HI5
        clear HI5
        have HG1 := hide (vget_I JJ.out.fst.fst.fst nm (by omega))
        have HG2 := hide (rget_I JJ.out.fst.snd HP2.out nm)
        have HALL := hide (fun W (h : Inv (VA gv P2) gv w1 W) => vall_I h HP2.out)
        have HLEN := hide HP2.out.len
        have HIF := hide JJ.out.fst
        obtain ⟨A2, c2, hcr, hpr2⟩ := RA.cell JJ.out.fst.snd
        have HPR2 := hide hpr2
        have hgr := World.block_lt_of_cell? _ _ hcr
        have hga := World.block_lt_of_cell? _ _ hx2
        have HPL := hide (show P2.length = P2.length from rfl)
        generalize gV (getP P2 nm) = tv at HG1 HG2
        generalize (getP P2 nm).isSome = ts at HG1 HG2
        clear hpr2 JJ
        go_wp2_with fail
        refine HG1.out.mono ?_
        rintro e w' ⟨rfl, rfl⟩
        go_wp2_with fail
        refine HG2.out.mono ?_
        rintro e w' ⟨rfl, rfl⟩
        have HNM := hide (fun W => name_any nm W (by omega))
        have HRN := hide (fun W => rname_any nm W (by omega))
        generalize nmOk (bt nm) nm.size = nb at HNM HRN
        go_wp2_with fail
        go_region_held3 (fun w' => w'.cell? ⟨wr.heap.size, 1, none⟩ = some (.string nm) ∧ w'.cell? ⟨gv + 1 + 1, 0, none⟩ = some (.slice A2 P2.length c2))
          (first | exact ⟨hx2, hcr⟩ | exact ⟨u2, u3⟩ | exact ⟨t2, t3⟩)
          (first
            | ((go_at_call 13; refine (HNM.out _).mono ?_; rintro e w' ⟨rfl, rfl⟩))
            | ((go_at_call 14; refine (HRN.out _).mono ?_; rintro e w' ⟨rfl, rfl⟩))
            | ((go_at_call 16; refine (HALL.out _ ?_).mono ?_; exact (HIF.out.fst.fst.drew (VA.fr _ _) hgw); rintro e w6 ⟨A1, c1, rfl, hc1, hpr1, _, hb6⟩; have u2 := (hb6.cell (p := ⟨wr.heap.size, 1, none⟩) hga).trans hx2; have u3 := (hb6.cell (p := ⟨gv + 1 + 1, 0, none⟩) hgr).trans hcr; have hpr6 := PR.below (w := w5.drew) HPR2.out hb6; have HI6 := hide ((HIF.out.drew (PlayI.fr _ _ _ _ _ _) hgw).step (PlayI.fr _ _ _ _ _ _) hb6 hgw); clear hb6))
            | ((go_at_call 15; refine (samep_any A1 A2 c1 c2 P2 P2 _ hpr1 hpr6 (by have := HLEN.out; omega)).mono ?_; rintro e w7 ⟨rfl, n7, rfl⟩; have t2 := u2; have t3 := u3)))
        rename_i hHeld
        clear hHeld hx2 hx3 u2 u3 t2 t3 hcr hpr1 hpr6
        go_wp2_with fail
        go_roundw
        case rel => exact ⟨k + 1, P2, Q2, by go_num, by omega, HP2.out, HQ2.out, HI6.out.step (PlayI.fr _ _ _ _ _ _) (below_drewN (Below.refl _ _) _) hgw⟩
        case measure => simp [intOf]; omega
      | false =>
        have HP2 := hide (HP.out.set nm val)
        have HVS := hide (fun W R (h : Inv (starA (PlayI gv (gv + 1) (gv + 1 + 1) P Q2 R) (Blk wr.heap.size (.cells #[.bool false, .string nm, .string val] 32))) gv w1 W) => h.callE hgw ((((vset_spec gv P HP.out nm val (by omega) (by omega)).left (VA.fr _ _)).left (RA.fr _ _)).left (Blk.fr _ _)))
        have HRS := hide (fun W V (h : Inv (starA (PlayI gv (gv + 1) (gv + 1 + 1) V Q2 P) (Blk wr.heap.size (.cells #[.bool false, .string nm, .string val] 32))) gv w1 W) => h.callE hgw (((rset_spec (gv + 1 + 1) P HP.out nm val (by omega) (by omega)).right ((VA.fr _ _).star (VA.fr _ _))).left (Blk.fr _ _)))
        have HFR := hide (fun V R => (PlayI.fr gv (gv + 1) (gv + 1 + 1) V Q2 R).star (Blk.fr wr.heap.size (.cells #[.bool false, .string nm, .string val] 32)))
        generalize rSet P nm val = P2 at HP2 HVS HRS
        generalize rCode P nm val = code at HVS HRS
        go_wp2_with fail
        go_region_held3 (fun w' => w'.cell? ⟨wr.heap.size, 1, none⟩ = some (.string nm) ∧ w'.cell? ⟨wr.heap.size, 2, none⟩ = some (.string val))
          (first | exact ⟨hx2, hx3⟩ | exact ⟨y2, y3⟩ | exact ⟨z2, z3⟩)
          (first
            | ((go_at_call 6; refine (HVS.out _ P ?_).mono ?_; (first | exact HI3.out | exact HI3.out.drew (HFR.out _ _) hgw); rintro e w4 ⟨rfl, hj⟩; have y2 := Blk.cell hj.snd (j := 1) (v := .string nm) rfl; have y3 := Blk.cell hj.snd (j := 2) (v := .string val) rfl; have J1 := hide hj; clear hj))
            | ((go_at_call 10; refine (HRS.out _ P2 ?_).mono ?_; (first | exact J1.out | exact J1.out.drew (HFR.out _ _) hgw); rintro e w5 ⟨rfl, hj⟩; have z2 := Blk.cell hj.snd (j := 1) (v := .string nm) rfl; have z3 := Blk.cell hj.snd (j := 2) (v := .string val) rfl; have J2 := hide hj; clear hj))
            | ((go_at_call 9; refine (num6_any _ _).mono ?_; rintro e w' ⟨rfl, rfl⟩)))
        rename_i hHeld
        clear hHeld hx1 hx2 hx3 y2 y3
        have hx2 := z2
        have hx3 := z3
        have JJ := J2
        clear z2 z3 J2
        clear HVS HRS J1
        have HG1 := hide (vget_I JJ.out.fst.fst.fst nm (by omega))
        have HG2 := hide (rget_I JJ.out.fst.snd HP2.out nm)
        have HALL := hide (fun W (h : Inv (VA gv P2) gv w1 W) => vall_I h HP2.out)
        have HLEN := hide HP2.out.len
        have HIF := hide JJ.out.fst
        obtain ⟨A2, c2, hcr, hpr2⟩ := RA.cell JJ.out.fst.snd
        have HPR2 := hide hpr2
        have hgr := World.block_lt_of_cell? _ _ hcr
        have hga := World.block_lt_of_cell? _ _ hx2
        have HPL := hide (show P2.length = P2.length from rfl)
        generalize gV (getP P2 nm) = tv at HG1 HG2
        generalize (getP P2 nm).isSome = ts at HG1 HG2
        clear hpr2 JJ
        go_wp2_with fail
        refine HG1.out.mono ?_
        rintro e w' ⟨rfl, rfl⟩
        go_wp2_with fail
        refine HG2.out.mono ?_
        rintro e w' ⟨rfl, rfl⟩
        have HNM := hide (fun W => name_any nm W (by omega))
        have HRN := hide (fun W => rname_any nm W (by omega))
        generalize nmOk (bt nm) nm.size = nb at HNM HRN
        go_wp2_with fail
        go_region_held3 (fun w' => w'.cell? ⟨wr.heap.size, 1, none⟩ = some (.string nm) ∧ w'.cell? ⟨gv + 1 + 1, 0, none⟩ = some (.slice A2 P2.length c2))
          (first | exact ⟨hx2, hcr⟩ | exact ⟨u2, u3⟩ | exact ⟨t2, t3⟩)
          (first
            | ((go_at_call 13; refine (HNM.out _).mono ?_; rintro e w' ⟨rfl, rfl⟩))
            | ((go_at_call 14; refine (HRN.out _).mono ?_; rintro e w' ⟨rfl, rfl⟩))
            | ((go_at_call 16; refine (HALL.out _ ?_).mono ?_; exact (HIF.out.fst.fst.drew (VA.fr _ _) hgw); rintro e w6 ⟨A1, c1, rfl, hc1, hpr1, _, hb6⟩; have u2 := (hb6.cell (p := ⟨wr.heap.size, 1, none⟩) hga).trans hx2; have u3 := (hb6.cell (p := ⟨gv + 1 + 1, 0, none⟩) hgr).trans hcr; have hpr6 := PR.below (w := w5.drew) HPR2.out hb6; have HI6 := hide ((HIF.out.drew (PlayI.fr _ _ _ _ _ _) hgw).step (PlayI.fr _ _ _ _ _ _) hb6 hgw); clear hb6))
            | ((go_at_call 15; refine (samep_any A1 A2 c1 c2 P2 P2 _ hpr1 hpr6 (by have := HLEN.out; omega)).mono ?_; rintro e w7 ⟨rfl, n7, rfl⟩; have t2 := u2; have t3 := u3)))
        rename_i hHeld
        clear hHeld hx2 hx3 u2 u3 t2 t3 hcr hpr1 hpr6
        go_wp2_with fail
        go_roundw
        case rel => exact ⟨k + 1, P2, Q2, by go_num, by omega, HP2.out, HQ2.out, HI6.out.step (PlayI.fr _ _ _ _ _ _) (below_drewN (Below.refl _ _) _) hgw⟩
        case measure => simp [intOf]; omega
    · obtain rfl : k = m := by omega
      go_wp2_with fail
      go_ret
      exact ⟨rfl, below_up HB1.out (HGV.out ▸ HI.out.below) HB1.out.size⟩
end Go.Proofs.Ytpmhkgjplghldaa
