/- Walk of the reference's PutPair. -/
import Derived.Test.YtpmhkgjplghldaaVarsRefC
import Derived.Test.YtpmhkgjplghldaaStrsWalkC
import Derived.Deep.RegionHeld3
import Derived.Deep.CutBlock
namespace Go.Proofs.Ytpmhkgjplghldaa
open Go.RowKit Go.Deep
attribute [local go_sem] bt_eq

/-- a pair into a list by rising name, in the place of one of that name -/
def putP (x : Pr) : List Pr → List Pr
  | [] => [x]
  | y :: l => if sLt y.1 x.1 then y :: putP x l else if y.1 = x.1 then x :: l else x :: y :: l
theorem putP_at {x : Pr} : ∀ (L : List Pr) (k : Nat), k ≤ L.length → (∀ j y, j < k → L[j]? = some y → sLt y.1 x.1 = true) → (∀ y, L[k]? = some y → sLt y.1 x.1 = false) →
    putP x L = L.take k ++ [x] ++ L.drop (if (L[k]?.map (·.1)) = some x.1 then k + 1 else k)
  | [], k, hk, _, _ => by
    obtain rfl : k = 0 := by simpa using hk
    rfl
  | y :: L, 0, hk, h1, h2 => by
    have := h2 y rfl
    rw [putP, if_neg (by rw [this]; simp)]
    by_cases e : y.1 = x.1
    · rw [if_pos e, if_pos (by simp [e])]; rfl
    · rw [if_neg e, if_neg (by simp [e])]; rfl
  | y :: L, k + 1, hk, h1, h2 => by
    rw [putP, if_pos (h1 0 y (by omega) rfl), putP_at L k (by simpa using hk) (fun j z hj hz => h1 (j + 1) z (by omega) (by simpa using hz)) (fun z hz => h2 z (by simpa using hz))]
    simp only [List.getElem?_cons_succ]
    split <;> simp
theorem putp_wayA {w ws w1 : World} {x1 x2 : ByteArray} (g1 : ws.drew.grownBy w1 (Value.slice none 0 0).ownBlock) (hx1 : ws.cell? ⟨w.heap.size, 0, none⟩ = some (.string x1)) (hx2 : ws.cell? ⟨w.heap.size, 1, none⟩ = some (.string x2)) (hb : Below w.heap.size w ws) (hl : w.heap.size < ws.heap.size) :
    w1.cell? ⟨w.heap.size, 0, none⟩ = some (.string x1) ∧ w1.cell? ⟨w.heap.size, 1, none⟩ = some (.string x2) ∧ w.heap.size < w1.heap.size ∧ Below w.heap.size w w1 ∧ PR (w1.alloc (.cells #[.string x1, .string x2] 49)) (some ⟨w1.heap.size, 0, none⟩) [(x1, x2)] := by
  refine ⟨g1.cell (a := ⟨w.heap.size, 0, none⟩) hx1 (by simp [Value.ownBlock]), g1.cell (a := ⟨w.heap.size, 1, none⟩) hx2 (by simp [Value.ownBlock]), Nat.lt_of_lt_of_le hl g1.size, ?_, pr_new w1 x1 x2⟩
  exact hb.drew.trans ((Below.refl w.heap.size ws.drew).grown g1 (Nat.le_of_lt hl) (fun q hq => by cases hq))
theorem putp_wayB {w ws w1 : World} {x1 x2 : ByteArray} (g1 : (ws.alloc (.cells #[.string x1, .string x2] 49)).drew.grownBy w1 (Value.slice none 0 0).ownBlock) (hx1 : ws.cell? ⟨w.heap.size, 0, none⟩ = some (.string x1)) (hx2 : ws.cell? ⟨w.heap.size, 1, none⟩ = some (.string x2)) (hb : Below w.heap.size w ws) (hl : w.heap.size < ws.heap.size) :
    w1.cell? ⟨w.heap.size, 0, none⟩ = some (.string x1) ∧ w1.cell? ⟨w.heap.size, 1, none⟩ = some (.string x2) ∧ w.heap.size < w1.heap.size ∧ Below w.heap.size w w1 ∧ PR w1 (some ⟨ws.heap.size, 0, none⟩) [(x1, x2)] := by
  have hs : ws.heap.size + 1 ≤ w1.heap.size := by simpa using g1.size
  have e0 := (World.cell?_alloc_old ws (.cells #[.string x1, .string x2] 49) ⟨w.heap.size, 0, none⟩ (by show w.heap.size ≠ ws.heap.size; omega)).trans hx1
  have e1 := (World.cell?_alloc_old ws (.cells #[.string x1, .string x2] 49) ⟨w.heap.size, 1, none⟩ (by show w.heap.size ≠ ws.heap.size; omega)).trans hx2
  refine ⟨g1.cell (a := ⟨w.heap.size, 0, none⟩) e0 (by simp [Value.ownBlock]), g1.cell (a := ⟨w.heap.size, 1, none⟩) e1 (by simp [Value.ownBlock]), by omega, ?_, ?_⟩
  · exact (hb.alloc (Nat.le_of_lt hl) (.cells #[.string x1, .string x2] 49)).drew.trans ((Below.refl w.heap.size _).grown g1 (by simp; omega) (fun q hq => by cases hq))
  · exact PR.gb (w := (ws.alloc (.cells #[.string x1, .string x2] 49)).drew) (pr_new ws x1 x2) g1 (fun a _ => by simp [Value.ownBlock])
theorem PR.dropm {w : World} {A : Option Addr} {P : List Pr} (h : PR w A P) (t : Nat) : PR w (Option.map (fun x => x.add (t * 2)) A) (P.drop t) := fun j x hj => by
  have hj2 := hj
  rw [List.getElem?_drop] at hj2
  obtain ⟨g, o, rfl, _, _⟩ := h _ x hj2
  have e : (Addr.mk g o none).add (t * 2) = ⟨g, o + t * 2, none⟩ := by
    unfold Addr.add
    split
    · rename_i h0; rw [h0]; rfl
    · rfl
  rw [Option.map_some, e]
  exact h.drop t j x hj
theorem putp_keep {w wx w2 : World} {v1 : Value} {i n : Nat} {u : Value} (g2 : wx.grownBy w2 v1.ownBlock) (o : ∀ k, v1.ownBlock = some k → w.heap.size + 1 ≤ k ∧ k < n) (h : wx.cell? ⟨w.heap.size, i, none⟩ = some u) : w2.cell? ⟨w.heap.size, i, none⟩ = some u :=
  g2.cell (a := ⟨w.heap.size, i, none⟩) h (fun e => by have := o w.heap.size e.symm; omega)
theorem chainB {B : Nat} {a w1 wx w2 : World} {r : Option Nat} (h : Below B a w1) (hx : Below B w1 wx) (g : wx.grownBy w2 r) (hr : ∀ k, r = some k → B ≤ k) (hB : B ≤ w1.heap.size) : Below B a w2 :=
  h.trans (hx.trans ((Below.refl B wx).grown g (Nat.le_trans hB hx.size) hr))
set_option maxRecDepth 100000 in
set_option maxHeartbeats 1000000 in
theorem putp_any (A : Option Addr) (c : Nat) (P : List Pr) (x1 x2 : ByteArray) (w : World) (hA : PR w A P) (hl : P.length ≤ 10000) (hc : P.length ≤ c) :
    Calls Try.prog 20 #[.slice A P.length c, .agg #[.string x1, .string x2]] w fun e w' => (∃ A' c', e = .returned (.slice A' (putP (x1, x2) P).length c') ∧ PR w' A' (putP (x1, x2) P) ∧ (putP (x1, x2) P).length ≤ c' ∧ ∀ a, A' = some a → w.heap.size ≤ a.block ∧ a.block < w'.heap.size) ∧ Below w.heap.size w w' := by
  obtain ⟨m, hm⟩ : ∃ m, P.length = m := ⟨_, rfl⟩
  rw [hm] at hl hc
  rw [hm]
  have HM := hide hm
  have HA := hide hA
  clear hm hA
  have q1 : (w.alloc (.cells #[.string x1, .string x2] 49)).cell? ⟨w.heap.size, 0, none⟩ = some (.string x1) := by rw [World.cell?_alloc_at _ _ _ _ rfl]; rfl
  have q2 : (w.alloc (.cells #[.string x1, .string x2] 49)).cell? ⟨w.heap.size, 1, none⟩ = some (.string x2) := by rw [World.cell?_alloc_at _ _ _ _ rfl]; rfl
  have Q1 := hide q1
  have Q2 := hide q2
  clear q1 q2
  go_enter Try.func20, Try.ntmps20
  go_upto_block 0 with (fail)
  go_cut [5] from 8 to 24 (fun v5 wr => ∃ k : Nat, v5 = .int .i64 k ∧ k ≤ m ∧ Hid (∀ j y, j < k → P[j]? = some y → sLt y.1 x1 = true) ∧ Hid (∀ y, P[k]? = some y → sLt y.1 x1 = false) ∧ Below w.heap.size w wr ∧ w.heap.size < wr.heap.size ∧ wr.cell? ⟨w.heap.size, 0, none⟩ = some (.string x1) ∧ wr.cell? ⟨w.heap.size, 1, none⟩ = some (.string x2))
  case first =>
    go_wp2
    go_loopw [5] (fun v5 wr => ∃ k : Nat, v5 = .int .i64 k ∧ k ≤ m ∧ Hid (∀ j y, j < k → P[j]? = some y → sLt y.1 x1 = true) ∧ Below w.heap.size w wr ∧ w.heap.size < wr.heap.size ∧ wr.cell? ⟨w.heap.size, 0, none⟩ = some (.string x1) ∧ wr.cell? ⟨w.heap.size, 1, none⟩ = some (.string x2)) (fun v5 _ => m - (intOf v5).toNat)
    case atStart => exact ⟨0, rfl, by omega, fun j y hj => by omega, (Below.refl _ _).alloc (Nat.le_refl _) _, by simp, Q1.out, Q2.out⟩
    case round =>
      obtain ⟨k, rfl, hk, HE, hb, hbl, hx1, hx2⟩ := hrel
      have HB := hide hb
      clear hb
      by_cases hlt : k < m
      · obtain ⟨y, hy⟩ : ∃ y, P[k]? = some y := ⟨P[k]'(by have := HM.out; omega), List.getElem?_eq_getElem _⟩
        obtain ⟨y1, y2⟩ := y
        obtain ⟨g, o, rfl, hg, hc1, hc2⟩ := (HA.out.below HB.out) k _ hy
        have HY := hide hy
        have b1 : (k : Int) < (m : Int) := by omega
        clear hy hc2
        cases hs : sLt y1 x1 with
        | true =>
          have hs2 : Op.bytesLess y1.toList x1.toList = true := hs
          have HS := hide hs
          clear hs
          go_wp2
          go_quiet (fail)
          go_wp2
          go_roundw
          case rel =>
            refine ⟨k + 1, by go_num, by omega, fun j z hj hz => ?_, below_drewN HB.out _, hbl, hx1, hx2⟩
            by_cases e : j = k
            · subst e
              have h1 := HY.out
              rw [h1] at hz
              injection hz with hz
              rw [← hz]
              exact HS.out
            · exact HE.out j z (by omega) hz
          case measure => simp [intOf]; omega
        | false =>
          have hs2 : Op.bytesLess y1.toList x1.toList = false := hs
          have HS := hide hs
          clear hs
          go_wp2
          go_quiet (fail)
          go_wp2
          go_meet
          exact ⟨k, rfl, hk, HE, fun z hz => by rw [HY.out] at hz; injection hz with hz; rw [← hz]; exact HS.out, below_drewN HB.out _, hbl, hx1, hx2⟩
      · have hd : decide ((k : Int) < (m : Int)) = false := by simp only [decide_eq_false_iff_not]; omega
        have hd2 : decide (k < m) = false := by simpa using hlt
        go_wp2
        go_quiet (fail)
        go_wp2
        go_meet
        exact ⟨k, rfl, hk, HE, fun z hz => by have := (List.getElem?_eq_some_iff.1 hz).1; have := HM.out; omega, below_drewN HB.out _, hbl, hx1, hx2⟩
  case rest =>
    obtain ⟨k, rfl, hk, HE, HG, hb, hbl, hx1, hx2⟩ := hcut
    have HB := hide hb
    have hbase := hb.size
    clear hb
    go_upto_region 5 with (fail)
    go_cut [38] from 25 to 38 (fun v38 wr' => v38 = .bool (decide (P[k]?.map (·.1) = some x1)) ∧ Below w.heap.size w wr' ∧ w.heap.size < wr'.heap.size ∧ wr'.cell? ⟨w.heap.size, 0, none⟩ = some (.string x1) ∧ wr'.cell? ⟨w.heap.size, 1, none⟩ = some (.string x2))
    case first =>
      by_cases hlt : k < m
      · obtain ⟨y, hy⟩ : ∃ y, P[k]? = some y := ⟨P[k]'(by have := HM.out; omega), List.getElem?_eq_getElem _⟩
        obtain ⟨y1, y2⟩ := y
        obtain ⟨g, o, rfl, hg, hc1, hc2⟩ := (HA.out.below HB.out) k _ hy
        have b1 : (k : Int) < (m : Int) := by omega
        have HY := hide (show decide (P[k]?.map (·.1) = some x1) = decide (y1 = x1) by rw [hy]; simp)
        clear hy hc2
        by_cases he : y1 = x1
        · have he2 : (y1.toList == x1.toList) = true := by simp [he]
          have HQ := hide (show decide (P[k]?.map (·.1) = some x1) = true by rw [HY.out]; simpa using he)
          clear he
          go_wp2
          go_quiet (fail)
          go_wp2
          go_meet
          exact ⟨by rw [HQ.out], below_drewN HB.out _, hbl, hx1, hx2⟩
        · have he2 := txt_ne he
          have HQ := hide (show decide (P[k]?.map (·.1) = some x1) = false by rw [HY.out]; simpa using he)
          clear he
          go_wp2
          go_quiet (fail)
          go_wp2
          go_meet
          exact ⟨by rw [HQ.out], below_drewN HB.out _, hbl, hx1, hx2⟩
      · have hd : decide ((k : Int) < (m : Int)) = false := by simp only [decide_eq_false_iff_not]; omega
        have hd2 : decide (k < m) = false := by simpa using hlt
        have HQ := hide (show decide (P[k]?.map (·.1) = some x1) = false by
          rw [List.getElem?_eq_none (by have := HM.out; omega)]; simp)
        go_wp2
        go_quiet (fail)
        go_wp2
        go_meet
        exact ⟨by rw [HQ.out], below_drewN HB.out _, hbl, hx1, hx2⟩
    case rest =>
      clear hbl hx1 hx2 HB
      obtain ⟨rfl, hb, hbl, hx1, hx2⟩ := hcut
      have HB := hide hb
      clear hb
      have HP := hide (putP_at (x := (x1, x2)) P k (by have := HM.out; omega) HE.out HG.out)
      generalize hq : decide (P[k]?.map (·.1) = some x1) = q
      have HQ := hide hq
      clear hq
      go_upto_if 38 with (fail)
      go_cut [6] from 39 to 41 (fun v6 wr' => v6 = .int .i64 ((if q = true then k + 1 else k : Nat) : Int) ∧ _ = wr')
      case first =>
        cases q with
        | true =>
          go_wp2
          go_meet
          exact ⟨rfl, rfl⟩
        | false =>
          go_wp2
          go_meet
          exact ⟨rfl, rfl⟩
      case rest =>
        obtain ⟨rfl, rfl⟩ := hcut
        have ht : (if q = true then k + 1 else k) ≤ m ∧ putP (x1, x2) P = P.take k ++ [(x1, x2)] ++ P.drop (if q = true then k + 1 else k) := by
          have hq := HQ.out
          cases q with
          | true =>
            have h1 : P[k]?.map (·.1) = some x1 := by simpa using hq
            have h2 : k < m := by
              cases h3 : P[k]? with
              | none => rw [h3] at h1; cases h1
              | some y => have := (List.getElem?_eq_some_iff.1 h3).1; have := HM.out; omega
            exact ⟨by rw [if_pos rfl]; omega, by rw [HP.out, if_pos h1]; simp⟩
          | false =>
            have h1 : ¬ (P[k]?.map (·.1) = some x1) := by simpa using hq
            exact ⟨by rw [if_neg (by simp)]; exact hk, by rw [HP.out, if_neg h1]; simp⟩
        generalize (if q = true then k + 1 else k) = t at ht ⊢
        obtain ⟨htm, hpq⟩ := ht
        have HPQ := hide hpq
        clear hpq HP HQ HE HG
        have HPS := hide (HA.out.below HB.out)
        have hkm : (k : Int) ≤ (m : Int) := by omega
        have hkc : (k : Int) ≤ (c : Int) := by omega
        have hk0 : (0 : Int) ≤ (k : Int) := by omega
        have hkl : (P.take k).length = k := by have := HM.out; simp; omega
        have hdl : (P.drop t).length = m - t := by have := HM.out; simp; omega
        have HAL := hide ((Below.refl wc.heap.size wc).alloc (Nat.le_refl _) (.cells #[.string x1, .string x2] 49))
        go_upto_region 7 with (fail)
        go_region_held3 (fun w' => w'.cell? ⟨w.heap.size, 0, none⟩ = some (.string x1) ∧ w'.cell? ⟨w.heap.size, 1, none⟩ = some (.string x2))
          (first | exact ⟨hx1, hx2⟩ | exact ⟨z1, z2⟩ | exact ⟨(World.cell?_alloc_old _ _ _ (by show w.heap.size ≠ wc.heap.size; omega)).trans hx1, (World.cell?_alloc_old _ _ _ (by show w.heap.size ≠ wc.heap.size; omega)).trans hx2⟩ | exact ⟨(World.cell?_alloc_old _ _ _ (by show w.heap.size ≠ w1.heap.size; omega)).trans z1, (World.cell?_alloc_old _ _ _ (by show w.heap.size ≠ w1.heap.size; omega)).trans z2⟩ | exact ⟨u1, u2⟩)
          (first
            | ((refine step_appP ?_ (.const (.slice none 0 0)) (.tmp 43) ?_ ?_ (w.heap.size + 1) (.slice none 0 0) [] (P.take k) A k c ?_ ?_ ?_ ?_ ?_ ?_ ?_ ?_; exact rfl; exact rfl; exact rfl; exact rfl; exact rfl; exact hkl; exact (OwnP.nil _ _); exact (HPS.out.take k); (first | omega | (simp; omega) | (simp; done)); (first | omega | (simp; omega) | (simp; done)); intro v1 w1 o1 g1 b1; obtain ⟨z1, z2, l1, hb1, hn1⟩ := putp_wayA g1 hx1 hx2 HB.out hbl; have O1 := hide o1; have HB1 := hide hb1; have HN1 := hide hn1; clear o1 g1 b1 hb1 hn1))
            | ((refine step_appP ?_ (.const (.slice none 0 0)) (.tmp 43) ?_ ?_ (w.heap.size + 1) (.slice none 0 0) [] (P.take k) A k c ?_ ?_ ?_ ?_ ?_ ?_ ?_ ?_; exact rfl; exact rfl; exact rfl; exact rfl; exact rfl; exact hkl; exact (OwnP.nil _ _); exact ((HPS.out.below HAL.out).take k); (first | omega | (simp; omega) | (simp; done)); (first | omega | (simp; omega) | (simp; done)); intro v1 w1 o1 g1 b1; obtain ⟨z1, z2, l1, hb1, hn1⟩ := putp_wayB g1 hx1 hx2 HB.out hbl; have O1 := hide o1; have HB1 := hide hb1; have HN1 := hide hn1; clear o1 g1 b1 hb1 hn1))
            | ((refine step_appP ?_ (.tmp 44) (.tmp 46) ?_ ?_ (w.heap.size + 1) v1 ([] ++ P.take k) [(x1, x2)] (some ⟨w1.heap.size, 0, none⟩) 1 1 ?_ ?_ ?_ ?_ ?_ ?_ ?_ ?_; exact rfl; exact rfl; exact rfl; exact rfl; exact rfl; exact rfl; exact (OwnP.alloc O1.out _); exact HN1.out; (first | omega | (simp; omega) | (simp; done)); (first | omega | (simp; omega) | (simp; done)); intro v2 w2 o2 g2 b2; have O2 := hide o2; have HB2 := hide (chainB HB1.out (by first | exact ((Below.refl _ _).alloc (Nat.le_of_lt l1) _).drew | exact ((Below.refl _ _).alloc (Nat.le_of_lt l1) _) | exact (Below.refl _ _).drew | exact Below.refl _ _) g2 (fun q hq => Nat.le_of_succ_le (OwnP.lt O1.out q hq).1) HB1.out.size); have l2 : w.heap.size + 1 ≤ w2.heap.size := Nat.le_trans (Nat.le_trans l1 (Nat.le_succ _)) (by simpa using g2.size); have u1 := putp_keep g2 (OwnP.lt O1.out) ((World.cell?_alloc_old w1 (.cells #[.string x1, .string x2] 49) ⟨w.heap.size, 0, none⟩ (Nat.ne_of_lt l1)).trans z1); have u2 := putp_keep g2 (OwnP.lt O1.out) ((World.cell?_alloc_old w1 (.cells #[.string x1, .string x2] 49) ⟨w.heap.size, 1, none⟩ (Nat.ne_of_lt l1)).trans z2); clear o2 g2 b2))
            | ((refine step_appP ?_ (.tmp 44) (.tmp 46) ?_ ?_ (w.heap.size + 1) v1 ([] ++ P.take k) [(x1, x2)] (some ⟨wc.heap.size, 0, none⟩) 1 1 ?_ ?_ ?_ ?_ ?_ ?_ ?_ ?_; exact rfl; exact rfl; exact rfl; exact rfl; exact rfl; exact rfl; exact O1.out; exact HN1.out; (first | omega | (simp; omega) | (simp; done)); (first | omega | (simp; omega) | (simp; done)); intro v2 w2 o2 g2 b2; have O2 := hide o2; have HB2 := hide (chainB HB1.out (by first | exact ((Below.refl _ _).alloc (Nat.le_of_lt l1) _).drew | exact ((Below.refl _ _).alloc (Nat.le_of_lt l1) _) | exact (Below.refl _ _).drew | exact Below.refl _ _) g2 (fun q hq => Nat.le_of_succ_le (OwnP.lt O1.out q hq).1) HB1.out.size); have l2 : w.heap.size + 1 ≤ w2.heap.size := Nat.le_trans l1 (by simpa using g2.size); have u1 := putp_keep g2 (OwnP.lt O1.out) z1; have u2 := putp_keep g2 (OwnP.lt O1.out) z2; clear o2 g2 b2)))
        all_goals
          have HP2 := hide (HA.out.below HB2.out)
          by_cases hct : c = t
          · obtain rfl : m = c := by omega
            subst hct
            have HD2 := hide (PR.nil w2 A)
            have HDN := hide (show P.drop m = [] from List.drop_of_length_le (by have := HM.out; omega))
            go_wp2_with (at_builtin; refine wpList_appP ?_ (.tmp 48) (.tmp 51) ?_ ?_ (w.heap.size + 1) v2 ([] ++ P.take k ++ [(x1, x2)]) [] A 0 0 ?_ ?_ ?_ ?_ ?_ ?_ ?_ ?_; exact rfl; exact rfl; exact rfl; exact rfl; exact rfl; exact rfl; exact O2.out; exact HD2.out; exact l2; (first | omega | (simp; omega) | (simp; done)); intro v3 w3 o3 g3 b3; have O3 := hide o3; have HB3 := hide (HB2.out.trans ((Below.refl _ _).grown g3 HB2.out.size (fun q hq => Nat.le_of_succ_le (OwnP.lt O2.out q hq).1))); clear o3 g3 b3)
            go_ret
            obtain ⟨A4, c4, rfl, hc4, hs4, ha4⟩ := O3.out.slice
            refine ⟨⟨A4, c4, ?_, ?_, ?_, ?_⟩, HB3.out⟩
            · rw [HPQ.out, HDN.out]; rfl
            · rw [HPQ.out, HDN.out]; exact hs4
            · rw [HPQ.out, HDN.out]; exact hc4
            · exact fun a e => ⟨Nat.le_of_succ_le (OwnP.lt O3.out _ (ha4 a e)).1, (OwnP.lt O3.out _ (ha4 a e)).2⟩
          · have HD2 := hide (HP2.out.dropm t)
            have hsum : ([] ++ P.take k ++ [(x1, x2)]).length + (P.drop t).length ≤ 1000000 := by
              simp only [List.nil_append, List.length_append, List.length_cons, List.length_nil, hkl, hdl]; omega
            go_wp2_with (at_builtin; refine wpList_appP ?_ (.tmp 48) (.tmp 51) ?_ ?_ (w.heap.size + 1) v2 ([] ++ P.take k ++ [(x1, x2)]) (P.drop t) (Option.map (fun x => x.add (t * 2)) A) (m - t) (c - t) ?_ ?_ ?_ ?_ ?_ ?_ ?_ ?_; exact rfl; exact rfl; exact rfl; exact rfl; exact rfl; exact hdl; exact O2.out; exact HD2.out; exact l2; exact hsum; intro v3 w3 o3 g3 b3; have O3 := hide o3; have HB3 := hide (HB2.out.trans ((Below.refl _ _).grown g3 HB2.out.size (fun q hq => Nat.le_of_succ_le (OwnP.lt O2.out q hq).1))); clear o3 g3 b3)
            go_ret
            obtain ⟨A4, c4, rfl, hc4, hs4, ha4⟩ := O3.out.slice
            refine ⟨⟨A4, c4, ?_, ?_, ?_, ?_⟩, HB3.out⟩
            · rw [HPQ.out]; rfl
            · rw [HPQ.out]; exact hs4
            · rw [HPQ.out]; exact hc4
            · exact fun a e => ⟨Nat.le_of_succ_le (OwnP.lt O3.out _ (ha4 a e)).1, (OwnP.lt O3.out _ (ha4 a e)).2⟩
end Go.Proofs.Ytpmhkgjplghldaa
