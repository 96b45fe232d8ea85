/- Walk of the program's Read, from the contracts. -/
import Derived.Test.YtkocnbehogefnaaDoorLinesWalkD
namespace Go.Proofs.YtkocnbehogefnaaDoor
open Go.RowKit Go.Deep Ln
attribute [local go_sem] bt_eq

theorem LS.new {g : Nat} (L : List ByteArray) (t : TypeId) : ∀ T w, Blk g (.cells (L.map Value.string).toArray t) T w → LS (some ⟨g, 0, none⟩) L T w := by
  rintro T w ⟨h1, h2⟩
  refine ⟨fun k s hk => ⟨g, 0, rfl, (Array.getElem?_eq_some_iff.1 h2).1, ?_⟩, fun a e => by injection e with e; subst e; exact h1⟩
  simp [World.cell?, h2, hk]
theorem RDL.new {g : Nat} (A : Option Addr) (n c i : Nat) (t : TypeId) : ∀ T w, Blk g (.cells #[.slice A n c, .int .i64 i] t) T w → RDL g A n c i T w := by
  rintro T w ⟨h1, h2⟩
  exact ⟨h1, by simp [World.cell?, h2], by simp [World.cell?, h2], by simp [World.frozen?, h2], by simp [World.frozen?, h2]⟩
theorem RDL.cut {g : Nat} (A : Option Addr) (n c i n' : Nat) (w : World) : Step (RDL g A n c i) (RDL g A n' c i) w (w.setCell ⟨g, 0, none⟩ (.slice A n' c)) := by
  rintro T ⟨h1, h2, h3, h4, h5⟩ hT
  refine ⟨T, ⟨h1, World.cell?_setCell_same _ ⟨g, 0, none⟩ _ h2, (World.cell?_setCell_other _ ⟨g, 0, none⟩ ⟨g, 1, none⟩ _ (by simp)).trans h3, (World.frozen?_setCell ..).trans h4, (World.frozen?_setCell ..).trans h5⟩, fun k hk => ⟨.inl hk, by rw [World.size_setCell]; exact hT k hk⟩, (Kp.setc _).mono (fun k e => by subst e; exact h1)⟩
theorem Inv.nilOG {A : Asn} (hA : Fr A) {B : Nat} {w0 w : World} (h : Inv A B w0 w) (hB : B ≤ w0.heap.size) (base : Nat) : Inv (starA A (OL base (.slice none 0 0) [])) B w0 w :=
  h.add hA (Below.refl _ _) hB (OG.nil encL 2 34 base w) (fun _ hk => hk.elim)
theorem nxt_cur (L : List T) (j : Nat) : nxt (L.map bs) j = .tuple #[(curV L j).1, (curV L j).2] := by
  unfold nxt curV
  rw [List.getElem?_map]
  cases L[j]? <;> rfl
theorem last_is {P : List T} {pn : Nat} {x : T} (h : P.length = pn + 1) (hx : P[pn]? = some x) : P.getLastD [] = x := by
  rw [List.getLastD_eq_getLast?, List.getLast?_eq_getElem?, h, Nat.add_sub_cancel, hx]; rfl
theorem empty_bs {x : T} : (bs x).toList.isEmpty = x.isEmpty := by rw [bs_toList]
theorem othF_out : ∀ rest s, (othF rest s).1.length ≤ s.length + sumL rest
  | [], s => by
    rw [othF]
    by_cases h : oddB s = true
    · rw [if_pos h]
      have := List.length_pos_iff.2 (odd_ne h)
      have h2 := trimR_len s.dropLast
      rw [List.length_dropLast] at h2
      unfold front
      simp only [List.length_append, List.length_cons, List.length_nil]
      omega
    · rw [if_neg h]; show s.length ≤ _; omega
  | n :: rest, s => by
    rw [othF]
    by_cases h : oddB s = true
    · rw [if_pos h]
      have := List.length_pos_iff.2 (odd_ne h)
      have h2 := trimR_len s.dropLast
      rw [List.length_dropLast] at h2
      have h3 := othF_out rest (front s ++ trimL n)
      have h4 := trimL_len n
      rw [sumL]
      unfold front at h3 ⊢
      simp only [List.length_append, List.length_cons, List.length_nil] at h3
      omega
    · rw [if_neg h, sumL]; show s.length ≤ _; omega
theorem LS.take {A : Option Addr} {L : List ByteArray} (k : Nat) : ∀ T w, LS A L T w → LS A (L.take k) T w := fun _ _ ⟨h1, h2⟩ => ⟨h1.take k, h2⟩
/-- what Read leaves -/
def ReadPost (l : T) (w : World) (e : Ending) (w' : World) : Prop := (∃ A c, e = .returned (.tuple #[.slice A (readF l).1.length c, .int .i64 (readF l).2]) ∧ (readF l).1.length ≤ c ∧ RG encL 2 w' A (readF l).1) ∧ Below w.heap.size w w'
/-- the same, and the slice is the call's own -/
def ReadPostP (l : T) (w : World) (e : Ending) (w' : World) : Prop := (∃ A c, e = .returned (.tuple #[.slice A (readF l).1.length c, .int .i64 (readF l).2]) ∧ (readF l).1.length ≤ c ∧ RG encL 2 w' A (readF l).1 ∧ ∀ a, A = some a → w.heap.size ≤ a.block) ∧ Below w.heap.size w w'
set_option maxRecDepth 100000 in
set_option maxHeartbeats 8000000 in
theorem readp_any (l : T) (w : World) (hm : MX w) (hz : (bs l).size ≤ 9223372036854775807) : Calls Tryd.prog 9 #[.string (bs l)] w (ReadPostP l w) := by
  have hzl : (bs l).size = l.length := bs_size l
  by_cases c1 : 16384 < (bs l).size
  · have hd : (16384 : Int) < ((bs l).size : Int) := by omega
    have HR := hide (show readF l = ([], 3) from if_pos (by omega))
    clear hzl c1
    generalize bs l = s at *
    go_enter Tryd.func9, Tryd.ntmps9
    go_wp2
    go_ret2
    unfold ReadPostP
    rw [HR.out]
    exact ⟨⟨none, 0, rfl, Nat.le_refl _, RG.nil _ _, fun a e => by cases e⟩, Below.refl _ _⟩
  have hd : ((bs l).size : Int) ≤ 16384 := by omega
  have hl16 : l.length ≤ 16384 := by omega
  have HIX0 := fun W => Tryd.strings_IndexByte (bs l) 0 W
  rw [bs_list, show (Int.toNat 0).toUInt8 = 0 from rfl] at HIX0
  have HIX := hide (fun W => (HIX0 W).mono fun e w' ⟨h1, h2⟩ => (⟨h1, h2.symm⟩ : _ ∧ W = w'))
  clear HIX0
  by_cases c2 : (0 : UInt8) ∈ l
  · have HR := hide (show readF l = ([], 2) by unfold readF; rw [if_neg (by omega), if_pos c2])
    have h0 := (ixb_mem 0 l).2 c2
    have h0d : decide (Lib.indexByte l 0 ≥ 0) = true := by simpa using h0
    clear hzl c1 c2
    generalize bs l = s at *
    generalize Lib.indexByte l 0 = ix at *
    go_enter Tryd.func9, Tryd.ntmps9
    go_wp2_with fail
    refine (HIX.out _).mono ?_
    rintro e w' ⟨rfl, rfl⟩
    go_wp2
    go_ret2
    unfold ReadPostP
    rw [HR.out]
    exact ⟨⟨none, 0, rfl, Nat.le_refl _, RG.nil _ _, fun a e => by cases e⟩, Below.refl _ _⟩
  have h0 : Lib.indexByte l 0 < 0 := by have := mt (ixb_mem 0 l).1 c2; omega
  have h0d : decide (Lib.indexByte l 0 ≥ 0) = false := by simp; omega
  obtain ⟨mx, hmx⟩ := hm
  have HSP := hide (fun W (h : W.cell? ⟨0, 0, none⟩ = some (.int .i64 mx)) => Tryd.strings_Split (bs l) ⟨#[10]⟩ mx W (by omega) h (by decide))
  have hcnt : Lib.countB (bs l) ⟨#[10]⟩ + 1 = (spl 10 l).length := by
    have := congrArg List.length (split_bs 10 l)
    rw [List.length_map, Lib.splitB_all _ (by decide) 0 _ _ rfl] at this
    exact this
  rw [hcnt, split_bs] at HSP
  have hR : readF l = (linesA (cutL l), 0) := by unfold readF; rw [if_neg (by omega), if_neg c2]
  have hsum := spl_sum 10 l
  have hpl := spl_len 10 l
  have hpn := spl_ne 10 l
  obtain ⟨P, hP⟩ : ∃ P, spl 10 l = P := ⟨_, rfl⟩
  have hcut : cutL l = if P.getLastD [] = [] then P.dropLast else P := by unfold cutL; rw [hP]
  rw [hP] at HSP hsum hpl hpn
  obtain ⟨pn, hpn2⟩ : ∃ pn, P.length = pn + 1 := ⟨P.length - 1, by have := List.length_pos_iff.2 hpn; omega⟩
  have HCUT := hide hcut
  have HR := hide hR
  have HPL := hide hpn2
  rw [hpn2] at HSP hpl
  clear hcut hR hP hcnt hpn hpn2 c1 c2 hzl
  have hpn3 : (pn : Int) ≤ 16384 := by omega
  go_enter Tryd.func9, Tryd.ntmps9
  go_wp2_with fail
  refine (HIX.out _).mono ?_
  rintro e w' ⟨rfl, rfl⟩
  generalize Lib.indexByte l 0 = ix at *
  go_wp2_with fail
  refine (HSP.out w hmx).mono ?_
  rintro e w1 ⟨rfl, rfl⟩
  have hi0 := ((Inv.first w (.cells ((P.map bs).map Value.string).toArray 9)).new (Blk.fr _ _) (.cells #[.slice (some ⟨w.heap.size, 0, none⟩) (pn + 1) (pn + 1), .int .i64 0] 45) (Nat.le_refl _)).mono (star_mono (LS.new (P.map bs) _) (RDL.new (some ⟨w.heap.size, 0, none⟩) (pn + 1) (pn + 1) 0 _))
  simp only [World.size_alloc] at hi0
  have HI0 := hide hi0
  have hi1 := ((Inv.first w (.cells ((P.map bs).map Value.string).toArray 9)).new (Blk.fr _ _) (.cells #[.slice (some ⟨w.heap.size, 0, none⟩) pn (pn + 1), .int .i64 0] 45) (Nat.le_refl _)).mono (star_mono (LS.new (P.map bs) _) (RDL.new (some ⟨w.heap.size, 0, none⟩) pn (pn + 1) 0 _))
  simp only [World.size_alloc] at hi1
  have HI1 := hide hi1
  obtain ⟨x, hx⟩ : ∃ x, P[pn]? = some x := ⟨P[pn]'(by have := HPL.out; omega), List.getElem?_eq_getElem _⟩
  have hcx : (w.alloc (.cells ((P.map bs).map Value.string).toArray 9)).cell? ⟨w.heap.size, pn, none⟩ = some (.string (bs x)) := by
    rw [World.cell?_alloc_at _ _ _ _ rfl]
    simp [hx]
  have hp1 : ((P.map bs).map Value.string)[pn]? = some (.string (bs x)) := by simp [hx]
  have hp2 : ((P.map bs).map Value.string).toArray[pn]? = some (.string (bs x)) := by simp [hx]
  have hlast := last_is HPL.out hx
  have HS := hide hsum
  clear hx hsum hi0 hi1
  generalize (P.map bs).map Value.string = PV at *
  cases x with
  | nil =>
    have hem : (bs []).toList.isEmpty = true := by rw [empty_bs]; rfl
    obtain ⟨L, hLd⟩ : ∃ L, P.dropLast = L := ⟨_, rfl⟩
    have HRL := hide (show readF l = (linesA L, 0) by rw [HR.out, HCUT.out, if_pos hlast, hLd])
    obtain ⟨nL, hL⟩ : ∃ nL, L.length = nL := ⟨_, rfl⟩
    have hnL : nL = pn := by rw [← hL, ← hLd, List.length_dropLast, HPL.out]; omega
    have hsL : sumL L ≤ 16385 := by rw [← hLd, List.dropLast_eq_take]; have := sumL_take P (P.length - 1); have := HS.out; omega
    have hLb : (P.map bs).take pn = L.map bs := by rw [← hLd, List.dropLast_eq_take, HPL.out, Nat.add_sub_cancel, List.map_take]
    have hir0 := HI1.out.mono (star_mono (LS.take pn) (fun _ _ h => h))
    rw [hLb] at hir0
    have hir := hir0.nilOG ((LS.fr _ _).star (RDL.fr _ _ _ _ _)) (Nat.le_refl _) w.heap.size
    clear hir0 hLb
    have HIR := hide (hir.mono (A' := RI (some ⟨w.heap.size, 0, none⟩) L (w.heap.size + 1) (pn + 1) 0 (OL w.heap.size (.slice none 0 0) [])) (fun T w' h => by
      show (starA (starA _ (RDL _ _ L.length _ _)) _) T w'
      rw [hL, hnL]
      exact h))
    clear hir HI0 HI1
    obtain ⟨R, hRR⟩ : ∃ R, linesA L = R := ⟨_, rfl⟩
    have HRR := hide (show [] ++ linesA (L.drop 0) = R by rw [← hRR]; rfl)
    rw [hRR] at HRL
    have hnb : nL ≤ 16385 := by omega
    have hnc : nL ≤ pn + 1 := by omega
    clear hRR hLd HR HCUT HPL HS hlast hnL
    go_wp2_with fail
    have HLN := hide hL
    have HF0 := hide (fun v a => OG.fr encL 2 34 w.heap.size v a)
    have HFX := hide (fun i => (LS.fr (some ⟨w.heap.size, 0, none⟩) (L.map bs)).star (RDL.fr (w.heap.size + 1) (some ⟨w.heap.size, 0, none⟩) L.length (pn + 1) i))
    have HNX := hide (fun W v a j (hj : j ≤ nL) (h : Inv (RI (some ⟨w.heap.size, 0, none⟩) L (w.heap.size + 1) (pn + 1) j (OL w.heap.size v a)) w.heap.size w W) => next_I (HF0.out v a) h (Nat.le_refl _) (by have := HLN.out; omega) (by have := HLN.out; omega) (by have := HLN.out; omega) (by omega))
    refine (HNX.out _ _ _ 0 (Nat.zero_le _) HIR.out).mono ?_
    rintro e w2 ⟨rfl, hi⟩
    rw [nxt_cur]
    rw [HLN.out] at hi
    have HI := hide hi
    clear hi HIR
    go_wp2_with fail
    go_loopg [6, 7, 8] nL (fun q v6 v7 v8 wr => ∃ (j : Nat) (a : List Line), q = nL - j ∧ j ≤ nL ∧ v7 = (curV L j).1 ∧ v8 = (curV L j).2 ∧ Hid (a ++ linesA (L.drop j) = R) ∧ a.length ≤ j ∧ Inv (RI (some ⟨w.heap.size, 0, none⟩) L (w.heap.size + 1) (pn + 1) (if j < nL then j + 1 else j) (OL w.heap.size v6 a)) w.heap.size w wr)
    case atStart => exact ⟨0, [], rfl, Nat.zero_le _, rfl, rfl, HRR, Nat.le_refl _, HI.out⟩
    case round =>
      obtain ⟨j, a, hq, hj, rfl, rfl, HA, hal, hi⟩ := hrel
      have HI2 := hide hi
      clear hi HI
      by_cases hlt : j < nL
      · obtain ⟨y, hy⟩ : ∃ y, L[j]? = some y := ⟨L[j]'(by have := HLN.out; omega), List.getElem?_eq_getElem _⟩
        rw [curV_some hy]
        rw [if_pos hlt] at HI2
        have HCP := hide (fun W => (Tryd.strings_CutPrefix (bs y) ⟨#[9]⟩ W).mono fun e w' ⟨h1, h2⟩ => (⟨h1, h2.symm⟩ : _ ∧ W = w'))
        rw [bs_list, show (⟨#[9]⟩ : ByteArray).data.toList = [9] from rfl, (cut_tab y).1] at HCP
        have hsd : sumL (L.drop j) ≤ 16385 := Nat.le_trans (sumL_le_drop L j) hsL
        have hsy := sumL_drop hy
        have hya : y.length + sumL (L.drop (j + 1)) ≤ 900000 := by omega
        have HAC := hide (show a ++ (if y.headD 0 = 9 then (true, (recF (L.drop (j + 1)) y.tail y.tail).1) :: linesA (recF (L.drop (j + 1)) y.tail y.tail).2
            else (if plainF (othF (L.drop (j + 1)) y).1 = [] then [] else [(false, plainF (othF (L.drop (j + 1)) y).1)]) ++ linesA (othF (L.drop (j + 1)) y).2) = R by rw [← HA.out, drop_cons hy, linesA_cons])
        have HLN2 := hide (show L.length ≤ pn + 1 by have := HLN.out; omega)
        have HLN3 := hide (show j + 1 ≤ L.length by have := HLN.out; omega)
        clear hsd hsy hy
        dsimp only
        by_cases h9 : y.headD 0 = 9
        · rw [(cut_tab y).2 h9, decide_eq_true h9] at HCP
          rw [if_pos h9] at HAC
          have hyt : y.tail.length + sumL (L.drop (j + 1)) ≤ 900000 := by rw [List.length_tail]; omega
          have HRC := hide (recipe_I (HF0.out _ _) HI2.out (Nat.le_refl _) HLN3.out HLN2.out (by omega) (by omega) y.tail hyt)
          generalize recF (L.drop (j + 1)) y.tail y.tail = rc at HRC HAC
          rw [show (⟨y.tail.toArray⟩ : ByteArray) = bs y.tail from rfl] at HCP
          generalize y.tail = yt at HCP HRC
          clear h9 hya hyt
          go_wp2_with fail
          refine (HCP.out _).mono ?_
          rintro e w' ⟨rfl, rfl⟩
          go_wp2_with fail
          refine HRC.out.mono ?_
          rintro e w3 ⟨i', hi1, hi2, hi3, rfl, hi4⟩
          have hi2' : i' ≤ nL := by have := HLN.out; omega
          obtain ⟨v4, w4, r4, hi5⟩ := OG.push rowL encL_len encL_one (HFX.out i') hi4 (Nat.le_refl _) hi4.below.size (by omega) (true, rc.1) #[.bool true, .string (bs rc.1)] rfl
          have HI4 := hide hi5
          have HA4 := hide (show (a ++ [(true, rc.1)]) ++ linesA (L.drop i') = R by rw [← HAC.out, hi3]; simp)
          have hal4 : (a ++ [(true, rc.1)]).length ≤ i' := by simp only [List.length_append, List.length_cons, List.length_nil]; omega
          clear hi3 hi4 hi5 HI2
          go_wp2_with (at_builtin; refine wpList_app_run ?_ (.tmp 62) (.tmp 67) ?_ ?_ ?_ ?_ r4 ?_; exact rfl; exact rfl; exact rfl; exact rfl; exact rfl)
          refine (HNX.out _ _ _ i' hi2' HI4.out).mono ?_
          rintro e w5 ⟨rfl, hi6⟩
          rw [nxt_cur]
          rw [HLN.out] at hi6
          have HI6 := hide hi6
          clear hi6 HI4
          go_wp2_with fail
          go_roundg (nL - i')
          case rel => exact ⟨i', _, rfl, hi2', rfl, rfl, HA4, hal4, HI6.out⟩
          case measure => omega
        · rw [decide_eq_false h9] at HCP
          rw [if_neg h9] at HAC
          have hob := othF_out (L.drop (j + 1)) y
          have HOT := hide (other_I (HF0.out _ _) HI2.out (Nat.le_refl _) HLN3.out HLN2.out (by omega) (by omega) y hya)
          generalize othF (L.drop (j + 1)) y = rc at HOT HAC hob
          have HPN := hide (fun W => plain_any rc.1 W (by omega))
          generalize (⟨(Lib.trimPrefix y [9]).toArray⟩ : ByteArray) = tp at HCP
          have hne1 : plainF rc.1 = [] → (bs (plainF rc.1)).toList.isEmpty = true := fun h => by rw [h, empty_bs]; rfl
          have hne2 : plainF rc.1 ≠ [] → (bs (plainF rc.1)).toList.isEmpty = false := fun h => by
            rw [empty_bs]
            cases hp : plainF rc.1 with
            | nil => exact absurd hp h
            | cons _ _ => rfl
          generalize plainF rc.1 = pf at HPN HAC hne1 hne2
          clear h9 hya hob
          by_cases hpf : pf = []
          · have hem2 := hne1 hpf
            rw [if_pos hpf, List.nil_append] at HAC
            clear hne1 hne2 hpf
            go_wp2_with fail
            refine (HCP.out _).mono ?_
            rintro e w' ⟨rfl, rfl⟩
            go_wp2_with fail
            refine HOT.out.mono ?_
            rintro e w3 ⟨i', hi1, hi2, hi3, rfl, hi4⟩
            have hi2' : i' ≤ nL := by have := HLN.out; omega
            have HI4 := hide hi4
            have HA4 := hide (show a ++ linesA (L.drop i') = R by rw [← HAC.out, hi3])
            have hal4 : a.length ≤ i' := by omega
            clear hi3 hi4 HI2
            go_wp2_with fail
            refine (HPN.out _).mono ?_
            rintro e w4 ⟨rfl, hb4⟩
            have HI5 := hide (HI4.out.step (RI.fr (HF0.out _ _)) hb4 (Nat.le_refl _))
            clear hb4
            go_wp2_with fail
            refine (HNX.out _ _ _ i' hi2' HI5.out).mono ?_
            rintro e w5 ⟨rfl, hi6⟩
            rw [nxt_cur]
            rw [HLN.out] at hi6
            have HI6 := hide hi6
            clear hi6 HI4 HI5
            go_wp2_with fail
            go_roundg (nL - i')
            case rel => exact ⟨i', _, rfl, hi2', rfl, rfl, HA4, hal4, HI6.out⟩
            case measure => omega
          · have hem2 := hne2 hpf
            rw [if_neg hpf] at HAC
            clear hne1 hne2 hpf
            go_wp2_with fail
            refine (HCP.out _).mono ?_
            rintro e w' ⟨rfl, rfl⟩
            go_wp2_with fail
            refine HOT.out.mono ?_
            rintro e w3 ⟨i', hi1, hi2, hi3, rfl, hi4⟩
            have hi2' : i' ≤ nL := by have := HLN.out; omega
            have HI4 := hide hi4
            have HA4 := hide (show (a ++ [(false, pf)]) ++ linesA (L.drop i') = R by rw [← HAC.out, hi3]; simp)
            have hal4 : (a ++ [(false, pf)]).length ≤ i' := by simp only [List.length_append, List.length_cons, List.length_nil]; omega
            clear hi3 hi4 HI2
            go_wp2_with fail
            refine (HPN.out _).mono ?_
            rintro e w4 ⟨rfl, hb4⟩
            have hi5 := HI4.out.step (RI.fr (HF0.out _ _)) hb4 (Nat.le_refl _)
            obtain ⟨v5, w6, r4, hi7⟩ := OG.push rowL encL_len encL_one (HFX.out i') hi5 (Nat.le_refl _) hi5.below.size (by omega) (false, pf) #[.bool false, .string (bs pf)] rfl
            have HI5 := hide hi7
            clear hb4 hi5 hi7
            go_wp2_with (at_builtin; refine wpList_app_run ?_ (.tmp 75) (.tmp 78) ?_ ?_ ?_ ?_ r4 ?_; exact rfl; exact rfl; exact rfl; exact rfl; exact rfl)
            refine (HNX.out _ _ _ i' hi2' HI5.out).mono ?_
            rintro e w7 ⟨rfl, hi6⟩
            rw [nxt_cur]
            rw [HLN.out] at hi6
            have HI6 := hide hi6
            clear hi6 HI4 HI5
            go_wp2_with fail
            go_roundg (nL - i')
            case rel => exact ⟨i', _, rfl, hi2', rfl, rfl, HA4, hal4, HI6.out⟩
            case measure => omega
      · obtain rfl : j = nL := by omega
        rw [curV_none (by have := HLN.out; omega)]
        rw [if_neg hlt] at HI2
        have hfin : a = R := by
          have := HA.out
          rw [List.drop_of_length_le (by have := HLN.out; omega)] at this
          rw [← this]; simp [linesA_nil]
        subst hfin
        have hown := OG.own HI2.out.snd
        have hlt := hown.lt
        obtain ⟨A3, c3, rfl, hc3, hr3, hob, _⟩ := hown.slice encL_len
        have HR3 := hide hr3
        have HOB := hide (fun a e => (hlt _ (hob a e)).1)
        clear hown hlt hob
        dsimp only
        go_wp2_with fail
        go_ret2
        unfold ReadPostP
        rw [HRL.out]
        exact ⟨⟨A3, c3, rfl, hc3, HR3.out, HOB.out⟩, HI2.out.below⟩
  | cons x0 x =>
    have hem : (bs (x0 :: x)).toList.isEmpty = false := by rw [empty_bs]; rfl
    obtain ⟨L, hLd⟩ : ∃ L, P = L := ⟨_, rfl⟩
    have HRL := hide (show readF l = (linesA L, 0) by rw [HR.out, HCUT.out, hlast, if_neg (by simp), hLd])
    obtain ⟨nL, hL⟩ : ∃ nL, L.length = nL := ⟨_, rfl⟩
    have hnL : nL = pn + 1 := by rw [← hL, ← hLd, HPL.out]
    have hsL : sumL L ≤ 16385 := by rw [← hLd]; have := HS.out; omega
    rw [hLd] at HI0
    have hir := HI0.out.nilOG ((LS.fr _ _).star (RDL.fr _ _ _ _ _)) (Nat.le_refl _) w.heap.size
    have HIR := hide (hir.mono (A' := RI (some ⟨w.heap.size, 0, none⟩) L (w.heap.size + 1) (pn + 1) 0 (OL w.heap.size (.slice none 0 0) [])) (fun T w' h => by
      show (starA (starA _ (RDL _ _ L.length _ _)) _) T w'
      rw [hL, hnL]
      exact h))
    clear hir HI0 HI1
    obtain ⟨R, hRR⟩ : ∃ R, linesA L = R := ⟨_, rfl⟩
    have HRR := hide (show [] ++ linesA (L.drop 0) = R by rw [← hRR]; rfl)
    rw [hRR] at HRL
    have hnb : nL ≤ 16385 := by omega
    have hnc : nL ≤ pn + 1 := by omega
    clear hRR hLd HR HCUT HPL HS hlast hnL
    go_wp2_with fail
    have HLN := hide hL
    have HF0 := hide (fun v a => OG.fr encL 2 34 w.heap.size v a)
    have HFX := hide (fun i => (LS.fr (some ⟨w.heap.size, 0, none⟩) (L.map bs)).star (RDL.fr (w.heap.size + 1) (some ⟨w.heap.size, 0, none⟩) L.length (pn + 1) i))
    have HNX := hide (fun W v a j (hj : j ≤ nL) (h : Inv (RI (some ⟨w.heap.size, 0, none⟩) L (w.heap.size + 1) (pn + 1) j (OL w.heap.size v a)) w.heap.size w W) => next_I (HF0.out v a) h (Nat.le_refl _) (by have := HLN.out; omega) (by have := HLN.out; omega) (by have := HLN.out; omega) (by omega))
    refine (HNX.out _ _ _ 0 (Nat.zero_le _) HIR.out).mono ?_
    rintro e w2 ⟨rfl, hi⟩
    rw [nxt_cur]
    rw [HLN.out] at hi
    have HI := hide hi
    clear hi HIR
    go_wp2_with fail
    go_loopg [6, 7, 8] nL (fun q v6 v7 v8 wr => ∃ (j : Nat) (a : List Line), q = nL - j ∧ j ≤ nL ∧ v7 = (curV L j).1 ∧ v8 = (curV L j).2 ∧ Hid (a ++ linesA (L.drop j) = R) ∧ a.length ≤ j ∧ Inv (RI (some ⟨w.heap.size, 0, none⟩) L (w.heap.size + 1) (pn + 1) (if j < nL then j + 1 else j) (OL w.heap.size v6 a)) w.heap.size w wr)
    case atStart => exact ⟨0, [], rfl, Nat.zero_le _, rfl, rfl, HRR, Nat.le_refl _, HI.out⟩
    case round =>
      obtain ⟨j, a, hq, hj, rfl, rfl, HA, hal, hi⟩ := hrel
      have HI2 := hide hi
      clear hi HI
      by_cases hlt : j < nL
      · obtain ⟨y, hy⟩ : ∃ y, L[j]? = some y := ⟨L[j]'(by have := HLN.out; omega), List.getElem?_eq_getElem _⟩
        rw [curV_some hy]
        rw [if_pos hlt] at HI2
        have HCP := hide (fun W => (Tryd.strings_CutPrefix (bs y) ⟨#[9]⟩ W).mono fun e w' ⟨h1, h2⟩ => (⟨h1, h2.symm⟩ : _ ∧ W = w'))
        rw [bs_list, show (⟨#[9]⟩ : ByteArray).data.toList = [9] from rfl, (cut_tab y).1] at HCP
        have hsd : sumL (L.drop j) ≤ 16385 := Nat.le_trans (sumL_le_drop L j) hsL
        have hsy := sumL_drop hy
        have hya : y.length + sumL (L.drop (j + 1)) ≤ 900000 := by omega
        have HAC := hide (show a ++ (if y.headD 0 = 9 then (true, (recF (L.drop (j + 1)) y.tail y.tail).1) :: linesA (recF (L.drop (j + 1)) y.tail y.tail).2
            else (if plainF (othF (L.drop (j + 1)) y).1 = [] then [] else [(false, plainF (othF (L.drop (j + 1)) y).1)]) ++ linesA (othF (L.drop (j + 1)) y).2) = R by rw [← HA.out, drop_cons hy, linesA_cons])
        have HLN2 := hide (show L.length ≤ pn + 1 by have := HLN.out; omega)
        have HLN3 := hide (show j + 1 ≤ L.length by have := HLN.out; omega)
        clear hsd hsy hy
        dsimp only
        by_cases h9 : y.headD 0 = 9
        · rw [(cut_tab y).2 h9, decide_eq_true h9] at HCP
          rw [if_pos h9] at HAC
          have hyt : y.tail.length + sumL (L.drop (j + 1)) ≤ 900000 := by rw [List.length_tail]; omega
          have HRC := hide (recipe_I (HF0.out _ _) HI2.out (Nat.le_refl _) HLN3.out HLN2.out (by omega) (by omega) y.tail hyt)
          generalize recF (L.drop (j + 1)) y.tail y.tail = rc at HRC HAC
          rw [show (⟨y.tail.toArray⟩ : ByteArray) = bs y.tail from rfl] at HCP
          generalize y.tail = yt at HCP HRC
          clear h9 hya hyt
          go_wp2_with fail
          refine (HCP.out _).mono ?_
          rintro e w' ⟨rfl, rfl⟩
          go_wp2_with fail
          refine HRC.out.mono ?_
          rintro e w3 ⟨i', hi1, hi2, hi3, rfl, hi4⟩
          have hi2' : i' ≤ nL := by have := HLN.out; omega
          obtain ⟨v4, w4, r4, hi5⟩ := OG.push rowL encL_len encL_one (HFX.out i') hi4 (Nat.le_refl _) hi4.below.size (by omega) (true, rc.1) #[.bool true, .string (bs rc.1)] rfl
          have HI4 := hide hi5
          have HA4 := hide (show (a ++ [(true, rc.1)]) ++ linesA (L.drop i') = R by rw [← HAC.out, hi3]; simp)
          have hal4 : (a ++ [(true, rc.1)]).length ≤ i' := by simp only [List.length_append, List.length_cons, List.length_nil]; omega
          clear hi3 hi4 hi5 HI2
          go_wp2_with (at_builtin; refine wpList_app_run ?_ (.tmp 62) (.tmp 67) ?_ ?_ ?_ ?_ r4 ?_; exact rfl; exact rfl; exact rfl; exact rfl; exact rfl)
          refine (HNX.out _ _ _ i' hi2' HI4.out).mono ?_
          rintro e w5 ⟨rfl, hi6⟩
          rw [nxt_cur]
          rw [HLN.out] at hi6
          have HI6 := hide hi6
          clear hi6 HI4
          go_wp2_with fail
          go_roundg (nL - i')
          case rel => exact ⟨i', _, rfl, hi2', rfl, rfl, HA4, hal4, HI6.out⟩
          case measure => omega
        · rw [decide_eq_false h9] at HCP
          rw [if_neg h9] at HAC
          have hob := othF_out (L.drop (j + 1)) y
          have HOT := hide (other_I (HF0.out _ _) HI2.out (Nat.le_refl _) HLN3.out HLN2.out (by omega) (by omega) y hya)
          generalize othF (L.drop (j + 1)) y = rc at HOT HAC hob
          have HPN := hide (fun W => plain_any rc.1 W (by omega))
          generalize (⟨(Lib.trimPrefix y [9]).toArray⟩ : ByteArray) = tp at HCP
          have hne1 : plainF rc.1 = [] → (bs (plainF rc.1)).toList.isEmpty = true := fun h => by rw [h, empty_bs]; rfl
          have hne2 : plainF rc.1 ≠ [] → (bs (plainF rc.1)).toList.isEmpty = false := fun h => by
            rw [empty_bs]
            cases hp : plainF rc.1 with
            | nil => exact absurd hp h
            | cons _ _ => rfl
          generalize plainF rc.1 = pf at HPN HAC hne1 hne2
          clear h9 hya hob
          by_cases hpf : pf = []
          · have hem2 := hne1 hpf
            rw [if_pos hpf, List.nil_append] at HAC
            clear hne1 hne2 hpf
            go_wp2_with fail
            refine (HCP.out _).mono ?_
            rintro e w' ⟨rfl, rfl⟩
            go_wp2_with fail
            refine HOT.out.mono ?_
            rintro e w3 ⟨i', hi1, hi2, hi3, rfl, hi4⟩
            have hi2' : i' ≤ nL := by have := HLN.out; omega
            have HI4 := hide hi4
            have HA4 := hide (show a ++ linesA (L.drop i') = R by rw [← HAC.out, hi3])
            have hal4 : a.length ≤ i' := by omega
            clear hi3 hi4 HI2
            go_wp2_with fail
            refine (HPN.out _).mono ?_
            rintro e w4 ⟨rfl, hb4⟩
            have HI5 := hide (HI4.out.step (RI.fr (HF0.out _ _)) hb4 (Nat.le_refl _))
            clear hb4
            go_wp2_with fail
            refine (HNX.out _ _ _ i' hi2' HI5.out).mono ?_
            rintro e w5 ⟨rfl, hi6⟩
            rw [nxt_cur]
            rw [HLN.out] at hi6
            have HI6 := hide hi6
            clear hi6 HI4 HI5
            go_wp2_with fail
            go_roundg (nL - i')
            case rel => exact ⟨i', _, rfl, hi2', rfl, rfl, HA4, hal4, HI6.out⟩
            case measure => omega
          · have hem2 := hne2 hpf
            rw [if_neg hpf] at HAC
            clear hne1 hne2 hpf
            go_wp2_with fail
            refine (HCP.out _).mono ?_
            rintro e w' ⟨rfl, rfl⟩
            go_wp2_with fail
            refine HOT.out.mono ?_
            rintro e w3 ⟨i', hi1, hi2, hi3, rfl, hi4⟩
            have hi2' : i' ≤ nL := by have := HLN.out; omega
            have HI4 := hide hi4
            have HA4 := hide (show (a ++ [(false, pf)]) ++ linesA (L.drop i') = R by rw [← HAC.out, hi3]; simp)
            have hal4 : (a ++ [(false, pf)]).length ≤ i' := by simp only [List.length_append, List.length_cons, List.length_nil]; omega
            clear hi3 hi4 HI2
            go_wp2_with fail
            refine (HPN.out _).mono ?_
            rintro e w4 ⟨rfl, hb4⟩
            have hi5 := HI4.out.step (RI.fr (HF0.out _ _)) hb4 (Nat.le_refl _)
            obtain ⟨v5, w6, r4, hi7⟩ := OG.push rowL encL_len encL_one (HFX.out i') hi5 (Nat.le_refl _) hi5.below.size (by omega) (false, pf) #[.bool false, .string (bs pf)] rfl
            have HI5 := hide hi7
            clear hb4 hi5 hi7
            go_wp2_with (at_builtin; refine wpList_app_run ?_ (.tmp 75) (.tmp 78) ?_ ?_ ?_ ?_ r4 ?_; exact rfl; exact rfl; exact rfl; exact rfl; exact rfl)
            refine (HNX.out _ _ _ i' hi2' HI5.out).mono ?_
            rintro e w7 ⟨rfl, hi6⟩
            rw [nxt_cur]
            rw [HLN.out] at hi6
            have HI6 := hide hi6
            clear hi6 HI4 HI5
            go_wp2_with fail
            go_roundg (nL - i')
            case rel => exact ⟨i', _, rfl, hi2', rfl, rfl, HA4, hal4, HI6.out⟩
            case measure => omega
      · obtain rfl : j = nL := by omega
        rw [curV_none (by have := HLN.out; omega)]
        rw [if_neg hlt] at HI2
        have hfin : a = R := by
          have := HA.out
          rw [List.drop_of_length_le (by have := HLN.out; omega)] at this
          rw [← this]; simp [linesA_nil]
        subst hfin
        have hown := OG.own HI2.out.snd
        have hlt := hown.lt
        obtain ⟨A3, c3, rfl, hc3, hr3, hob, _⟩ := hown.slice encL_len
        have HR3 := hide hr3
        have HOB := hide (fun a e => (hlt _ (hob a e)).1)
        clear hown hlt hob
        dsimp only
        go_wp2_with fail
        go_ret2
        unfold ReadPostP
        rw [HRL.out]
        exact ⟨⟨A3, c3, rfl, hc3, HR3.out, HOB.out⟩, HI2.out.below⟩
theorem read_any (l : T) (w : World) (hm : MX w) (hz : (bs l).size ≤ 9223372036854775807) : Calls Tryd.prog 9 #[.string (bs l)] w (ReadPost l w) := by
  refine (readp_any l w hm hz).mono ?_
  rintro e w' ⟨⟨A, c, h1, h2, h3, _⟩, hb⟩
  exact ⟨⟨A, c, h1, h2, h3⟩, hb⟩
end Go.Proofs.YtkocnbehogefnaaDoor
