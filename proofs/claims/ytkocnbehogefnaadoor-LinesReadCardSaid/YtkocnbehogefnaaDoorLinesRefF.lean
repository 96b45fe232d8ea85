/- Walk of the reference's Lines, from the contracts. -/
import Derived.Test.YtkocnbehogefnaaDoorLinesRefE
namespace Go.Proofs.YtkocnbehogefnaaDoor
open Go.RowKit Go.Deep Ln
attribute [local go_sem] bt_eq

/-- where a byte is, from a place on -/
def ixFrom (l : T) (c : UInt8) (k : Nat) : Int := if Lib.indexByte (l.drop k) c = -1 then -1 else (k : Int) + Lib.indexByte (l.drop k) c
set_option maxRecDepth 100000 in
set_option maxHeartbeats 1000000 in
theorem rat0_any (l : T) (c : UInt8) (w : World) (h : l.length ≤ 900000) : Calls Tryd.prog 15 #[.string (bs l), .int .u8 c.toNat] w fun e w' => e = .returned (.int .i64 (Lib.indexByte l c)) ∧ w = w' := by
  have hz : (bs l).size = l.length := bs_size l
  have hz1 : (bs l).size ≤ 900000 := by omega
  have HZ := hide hz
  have HR0 := hide (show ixFrom l c 0 = Lib.indexByte l c by unfold ixFrom; rw [List.drop_zero]; split <;> omega)
  have hc256 : c.toNat < 256 := c.toNat_lt
  obtain ⟨R, hR⟩ : ∃ R, Lib.indexByte l c = R := ⟨_, rfl⟩
  rw [hR] at HR0 ⊢
  clear hz hR
  go_enter Tryd.func15, Tryd.ntmps15
  go_wp2
  go_loop [5] (fun v5 => ∃ k : Nat, v5 = .int .i64 k ∧ k ≤ (bs l).size ∧ Hid (ixFrom l c k = R)) (fun v5 => (bs l).size - (intOf v5).toNat)
  case atStart => exact ⟨0, rfl, by omega, HR0⟩
  case round =>
    obtain ⟨k, rfl, hk, HR⟩ := hrel
    by_cases hlt : k < (bs l).size
    · have hkl : k < l.length := by have := HZ.out; omega
      have q := getD_nat l k c.toNat hc256
      have hd : l.drop k = l.getD k 0 :: l.drop (k + 1) := by
        rw [List.drop_eq_getElem_cons hkl]; simp [hkl]
      by_cases he : l.getD k 0 = c
      · have g1 : (((bt (bs l) k : Nat) : Int) == ((c.toNat : Nat) : Int)) = true := by rw [q]; simpa using he
        have HE := hide (show (k : Int) = R by rw [← HR.out]; unfold ixFrom; rw [hd, Lib.indexByte, he]; simp)
        clear q hd he
        go_wp2
        go_ret
        refine ⟨?_, rfl⟩
        rw [← HE.out]
        rfl
      · have g1 : (((bt (bs l) k : Nat) : Int) == ((c.toNat : Nat) : Int)) = false := by rw [q]; simpa using he
        have HE := hide (show ixFrom l c (k + 1) = R by
          rw [← HR.out]
          unfold ixFrom
          have hne : (l.getD k 0 == c) = false := by simpa using he
          rw [hd, Lib.indexByte, hne]
          simp only [Bool.false_eq_true, if_false]
          have := ixb_ge c (l.drop (k + 1))
          by_cases h1 : Lib.indexByte (l.drop (k + 1)) c = -1
          · rw [h1]; rfl
          · have hb : (Lib.indexByte (l.drop (k + 1)) c == -1) = false := by simpa using h1
            rw [hb, if_neg h1]
            simp only [Bool.false_eq_true, if_false]
            rw [if_neg (by omega)]
            omega)
        clear q hd he
        go_wp2
        go_round
        case rel => exact ⟨k + 1, by go_num, by omega, HE⟩
        case measure => simp [intOf]; omega
    · have HE := hide (show (-1 : Int) = R by
        rw [← HR.out]
        unfold ixFrom
        rw [List.drop_of_length_le (by have := HZ.out; omega)]
        rfl)
      go_wp2
      go_ret
      refine ⟨?_, rfl⟩
      rw [← HE.out]
      rfl
/-- what the reference's Lines leaves: a slice of its own -/
def ReadPostO (l : T) (w : World) (e : Ending) (w' : World) : Prop := (∃ A c, e = .returned (.tuple #[.slice A (readF l).1.length c, .int .i64 (readF l).2]) ∧ (readF l).1.length ≤ c ∧ RG encL 2 w' A (readF l).1 ∧ OwnG encL 2 34 w' w.heap.size (.slice A (readF l).1.length c) (readF l).1) ∧ Below w.heap.size w w'
set_option maxRecDepth 100000 in
set_option maxHeartbeats 8000000 in
theorem rlineso_any (l : T) (w : World) (hz : (bs l).size ≤ 9223372036854775807) : Calls Tryd.prog 7 #[.string (bs l)] w (ReadPostO l w) := by
  have hzl : (bs l).size = l.length := bs_size l
  by_cases c1 : 16384 < (bs l).size
  · have hd : (16384 : Int) < ((bs l).size : Int) := by omega
    have HR := hide (show readF l = ([], 3) from if_pos (by omega))
    clear hzl c1
    generalize bs l = s at *
    go_enter Tryd.func7, Tryd.ntmps7
    go_wp2
    go_ret2
    unfold ReadPostO
    rw [HR.out]
    exact ⟨⟨none, 0, rfl, Nat.le_refl _, RG.nil _ _, OwnG.nil _ _⟩, Below.refl _ _⟩
  have hd : ((bs l).size : Int) ≤ 16384 := by omega
  have hl16 : l.length ≤ 16384 := by omega
  have HIX := hide (fun W => rat0_any l 0 W (by omega))
  rw [show (((0 : UInt8).toNat : Nat) : Int) = 0 from rfl] at HIX
  by_cases c2 : (0 : UInt8) ∈ l
  · have HR := hide (show readF l = ([], 2) by unfold readF; rw [if_neg (by omega), if_pos c2])
    have h0 := (ixb_mem 0 l).2 c2
    have h0d : decide (Lib.indexByte l 0 ≥ 0) = true := by simpa using h0
    clear hzl c1 c2
    generalize bs l = s at *
    generalize Lib.indexByte l 0 = ix at *
    go_enter Tryd.func7, Tryd.ntmps7
    go_wp2_with fail
    refine (HIX.out _).mono ?_
    rintro e w' ⟨rfl, rfl⟩
    go_wp2
    go_ret2
    unfold ReadPostO
    rw [HR.out]
    exact ⟨⟨none, 0, rfl, Nat.le_refl _, RG.nil _ _, OwnG.nil _ _⟩, Below.refl _ _⟩
  have h0 : Lib.indexByte l 0 < 0 := by have := mt (ixb_mem 0 l).1 c2; omega
  have h0d : decide (Lib.indexByte l 0 ≥ 0) = false := by simp; omega
  have HCU := hide (fun W => rcut_any l W (by omega))
  obtain ⟨L, hL⟩ : ∃ L, cutL l = L := ⟨_, rfl⟩
  rw [hL] at HCU
  obtain ⟨R, hRR⟩ : ∃ R, linesA L = R := ⟨_, rfl⟩
  have HRL := hide (show readF l = (R, 0) by unfold readF; rw [if_neg (by omega), if_neg c2, hL, hRR])
  have hsL : sumL L ≤ 16385 := by
    rw [← hL]
    unfold cutL
    have h1 := spl_sum 10 l
    split
    · rw [List.dropLast_eq_take]; have := sumL_take (spl 10 l) ((spl 10 l).length - 1); omega
    · omega
  have hLs : L.length ≤ sumL L := by
    clear hsL HRL hRR HCU hL
    induction L with
    | nil => exact Nat.le_refl _
    | cons x L ih => rw [sumL, List.length_cons]; omega
  have HRR := hide (show [] ++ linesA (L.drop 0) = R by rw [← hRR]; rfl)
  obtain ⟨n, hn⟩ : ∃ n, L.length = n := ⟨_, rfl⟩
  have HN := hide hn
  have hnb : n ≤ 16385 := by omega
  clear hzl c1 c2 hL hRR hn hLs
  go_enter Tryd.func7, Tryd.ntmps7
  go_wp2_with fail
  refine (HIX.out _).mono ?_
  rintro e w' ⟨rfl, rfl⟩
  generalize Lib.indexByte l 0 = ix at *
  go_wp2_with fail
  refine (HCU.out _).mono ?_
  rintro e w1 ⟨⟨v, rfl, ho⟩, hb1⟩
  have hoo := ho
  obtain ⟨A, c, rfl, hc, hsr, hab⟩ := ho.slice
  rw [List.length_map, HN.out] at hc ⊢
  have HI0 := hide ((Inv.start w).add (N := LS A (L.map bs)) (fun _ _ _ _ _ _ => trivial) hb1 (Nat.le_refl _) (T2 := fun k => w.heap.size ≤ k ∧ k < w1.heap.size) ⟨hsr, fun a e => World.ownsRow.lt hoo _ (hab a e)⟩ (fun _ h => h))
  have HI1 := hide (HI0.out.snd.nilOG (LS.fr _ _) (Nat.le_refl _) w.heap.size)
  have HFX := hide (LS.fr A (L.map bs))
  have HF0 := hide (fun v a => (LS.fr A (L.map bs)).star (OG.fr encL 2 34 w.heap.size v a))
  clear hb1 ho hoo hsr hab HI0
  have hn1 : (n : Int) ≤ 16385 := by omega
  have hnc : (n : Int) ≤ (c : Int) := by omega
  go_wp2_with fail
  go_loopg [5, 6] n (fun q v5 v6 wr => ∃ (i : Nat) (a : List Line), q = n - i ∧ v6 = .int .i64 i ∧ i ≤ n ∧ Hid (a ++ linesA (L.drop i) = R) ∧ a.length ≤ i ∧ Inv (starA (LS A (L.map bs)) (OL w.heap.size v5 a)) w.heap.size w wr)
  case atStart => exact ⟨0, [], rfl, rfl, Nat.zero_le _, HRR, Nat.le_refl _, HI1.out⟩
  case round =>
    obtain ⟨i, a, hq, rfl, hi, HA, hal, hinv⟩ := hrel
    have HI := hide hinv
    clear hinv HI1
    have hi0 : (0 : Int) ≤ (i : Int) := by omega
    by_cases hlt : i < n
    · obtain ⟨y, hy⟩ : ∃ y, L[i]? = some y := ⟨L[i]'(by have := HN.out; omega), List.getElem?_eq_getElem _⟩
      obtain ⟨g, o, rfl, hg, hcy⟩ := (LS.sr HI.out.fst) i (bs y) (by rw [List.getElem?_map, hy]; rfl)
      have hsd : sumL (L.drop i) ≤ 16385 := Nat.le_trans (sumL_le_drop L i) hsL
      have hsy := sumL_drop hy
      have hya : y.length + sumL (L.drop (i + 1)) ≤ 900000 := by omega
      have HAC := hide (show a ++ (if y.headD 0 = 9 then (true, (recF (L.drop (i + 1)) y.tail y.tail).1) :: linesA (recF (L.drop (i + 1)) y.tail y.tail).2
          else (if plainF (othF (L.drop (i + 1)) y).1 = [] then [] else [(false, plainF (othF (L.drop (i + 1)) y).1)]) ++ linesA (othF (L.drop (i + 1)) y).2) = R by rw [← HA.out, drop_cons hy, linesA_cons])
      have hi1 : (i : Int) < (n : Int) := by omega
      clear hsd hsy hy
      by_cases h9 : y.headD 0 = 9
      · obtain ⟨y1, y2, y3, y4⟩ := hd_yes h9
        rw [if_pos h9] at HAC
        have hyt : y.tail.length + sumL (L.drop (i + 1)) ≤ 900000 := by rw [List.length_tail]; omega
        have Y4 := hide y4
        have hys : (bs y).size ≤ 900000 := by rw [bs_size]; omega
        clear y4
        generalize y.tail = yt at *
        clear h9 hya
        go_wp2_with fail
        rw [Y4.out]
        obtain ⟨rc, hrc⟩ : ∃ rc, recF (L.drop (i + 1)) yt yt = rc := ⟨_, rfl⟩
        rw [hrc] at HAC
        have HRC0 := hide hrc
        have HSR := hide (LS.sr HI.out.fst)
        clear hrc hcy
        go_loopg [6, 7] (n - i) (fun q v6 v7 w2 => ∃ (j : Nat) (s acc : T), q = n - j ∧ v6 = .int .i64 j ∧ i ≤ j ∧ j < n ∧ v7 = .string (bs acc) ∧ Hid (recF (L.drop (j + 1)) s acc = rc) ∧ Hid (oddB acc = oddB s) ∧ acc.length + sumL (L.drop (j + 1)) ≤ 900000 ∧ wr = w2)
        case atStart => exact ⟨i, yt, yt, rfl, rfl, Nat.le_refl _, hlt, rfl, HRC0, hide rfl, hyt, rfl⟩
        case round =>
          obtain ⟨j, s, acc, hq2, rfl, hij, hjn, rfl, HRC, HOS, hacc, rfl⟩ := hrel
          have HOD := hide (fun W => rodd_any acc W (by omega))
          have hj0 : (0 : Int) ≤ (j : Int) := by omega
          clear hyt
          cases ho : oddB acc with
          | false =>
            rw [ho] at HOD
            have hos : oddB s = false := by rw [← HOS.out, ho]
            have HST := hide (show acc = rc.1 ∧ L.drop (j + 1) = rc.2 by
              have := HRC.out
              rw [recF_stop (.inl hos)] at this
              rw [← this]; exact ⟨rfl, rfl⟩)
            have hacz : (bs acc).size ≤ 900000 := by rw [bs_size]; omega
            obtain ⟨v4, w4, r4, hi5⟩ := OG.push rowL encL_len encL_one HFX.out HI.out (Nat.le_refl _) HI.out.below.size (by omega) (true, acc) #[.bool true, .string (bs acc)] rfl
            have HI4 := hide hi5
            have HA4 := hide (show (a ++ [(true, acc)]) ++ linesA (L.drop (j + 1)) = R by rw [← HAC.out, HST.out.1, HST.out.2]; simp)
            have hal4 : (a ++ [(true, acc)]).length ≤ j + 1 := by simp only [List.length_append, List.length_cons, List.length_nil]; omega
            clear hi5
            go_wp2_with fail
            refine (HOD.out _).mono ?_
            rintro e w' ⟨rfl, rfl⟩
            go_wp2_with (at_builtin; refine wpList_app_run ?_ (.tmp 65) (.tmp 68) ?_ ?_ ?_ ?_ r4 ?_; exact rfl; exact rfl; exact rfl; exact rfl; exact rfl)
            go_roundg (n - (j + 1))
            case rel => exact ⟨j + 1, _, rfl, by go_num, by omega, HA4, hal4, HI4.out⟩
            case measure => omega
          | true =>
            rw [ho] at HOD
            have hos : oddB s = true := by rw [← HOS.out, ho]
            by_cases hj1 : j + 1 < n
            · have hj2 : (j : Int) + 1 < (n : Int) := by omega
              obtain ⟨x, hx⟩ : ∃ x, L[j + 1]? = some x := ⟨L[j + 1]'(by have := HN.out; omega), List.getElem?_eq_getElem _⟩
              obtain ⟨g2, o2, e2, hg2, hcx⟩ := HSR.out (j + 1) (bs x) (by rw [List.getElem?_map, hx]; rfl)
              obtain ⟨rfl, rfl⟩ : g = g2 ∧ o = o2 := by injection e2 with e2; injection e2 with e3 e4; exact ⟨e3, e4⟩
              have hsx := sumL_drop hx
              have hdl := dropTab_len x
              have HRN := hide (show recF (L.drop (j + 1 + 1)) (dropTab x) (acc ++ 10 :: dropTab x) = rc by rw [← HRC.out, drop_cons hx, recF, if_pos hos])
              have HON := hide (show oddB (acc ++ 10 :: dropTab x) = oddB (dropTab x) from oddB_nl _ _)
              have hlen : (acc ++ 10 :: dropTab x).length + sumL (L.drop (j + 1 + 1)) ≤ 900000 := by simp only [List.length_append, List.length_cons]; omega
              have HCAT := hide (show bs acc ++ (⟨#[10]⟩ : ByteArray) ++ bs (dropTab x) = bs (acc ++ 10 :: dropTab x) by rw [show (⟨#[10]⟩ : ByteArray) = bs [10] from rfl, bs_app, bs_app]; simp)
              have hacz : (bs acc).size ≤ 900000 := by rw [bs_size]; omega
              have hxz : (bs x).size ≤ 900000 := by rw [bs_size]; omega
              have hdz : (bs (dropTab x)).size ≤ 900000 := by rw [bs_size]; omega
              have hdi := dropTab_if x
              have hj3 : (j : Int) + 1 ≤ 16385 := by omega
              clear hsx hdl hx e2
              by_cases hx9 : x.headD 0 = 9
              · obtain ⟨x1, x2, x3, x4⟩ := hd_yes hx9
                rw [if_pos hx9] at hdi
                have HX4 := hide (show (bs x).extract 1 (bs x).size = bs (dropTab x) by rw [hdi]; exact x4)
                clear x4 hdi hx9
                generalize bs x = sx at *
                go_wp2_with fail
                refine (HOD.out _).mono ?_
                rintro e w' ⟨rfl, rfl⟩
                go_wp2_with fail
                rw [HX4.out]
                rw [HCAT.out]
                go_roundg (n - (j + 1))
                case rel => exact ⟨j + 1, _, _, rfl, by go_num, by omega, by omega, rfl, HRN, HON, hlen, rfl⟩
                case measure => omega
              · rw [if_neg hx9] at hdi
                have HDI := hide hdi
                rcases hd_no hx9 with x1 | ⟨x1, x2, x3⟩
                · clear hdi hx9
                  rw [HDI.out] at HCAT HRN HON hlen
                  go_wp2_with fail
                  refine (HOD.out _).mono ?_
                  rintro e w' ⟨rfl, rfl⟩
                  go_wp2_with fail
                  rw [HCAT.out]
                  go_roundg (n - (j + 1))
                  case rel => exact ⟨j + 1, _, _, rfl, by go_num, by omega, by omega, rfl, HRN, HON, hlen, rfl⟩
                  case measure => omega
                · clear hdi hx9
                  rw [HDI.out] at HCAT HRN HON hlen
                  go_wp2_with fail
                  refine (HOD.out _).mono ?_
                  rintro e w' ⟨rfl, rfl⟩
                  go_wp2_with fail
                  rw [HCAT.out]
                  go_roundg (n - (j + 1))
                  case rel => exact ⟨j + 1, _, _, rfl, by go_num, by omega, by omega, rfl, HRN, HON, hlen, rfl⟩
                  case measure => omega
            · have hj2 : ¬ (j : Int) + 1 < (n : Int) := by omega
              have hj3 : (n : Int) ≤ (j : Int) + 1 := by omega
              have HST := hide (show acc = rc.1 ∧ L.drop (j + 1) = rc.2 by
                have := HRC.out
                rw [recF_stop (.inr (List.drop_of_length_le (by have := HN.out; omega)))] at this
                rw [← this]; exact ⟨rfl, rfl⟩)
              have hacz : (bs acc).size ≤ 900000 := by rw [bs_size]; omega
              obtain ⟨v4, w4, r4, hi5⟩ := OG.push rowL encL_len encL_one HFX.out HI.out (Nat.le_refl _) HI.out.below.size (by omega) (true, acc) #[.bool true, .string (bs acc)] rfl
              have HI4 := hide hi5
              have HA4 := hide (show (a ++ [(true, acc)]) ++ linesA (L.drop (j + 1)) = R by rw [← HAC.out, HST.out.1, HST.out.2]; simp)
              have hal4 : (a ++ [(true, acc)]).length ≤ j + 1 := by simp only [List.length_append, List.length_cons, List.length_nil]; omega
              clear hi5
              go_wp2_with fail
              refine (HOD.out _).mono ?_
              rintro e w' ⟨rfl, rfl⟩
              go_wp2_with (at_builtin; refine wpList_app_run ?_ (.tmp 65) (.tmp 68) ?_ ?_ ?_ ?_ r4 ?_; exact rfl; exact rfl; exact rfl; exact rfl; exact rfl)
              go_roundg (n - (j + 1))
              case rel => exact ⟨j + 1, _, rfl, by go_num, by omega, HA4, hal4, HI4.out⟩
              case measure => omega
      · rw [if_neg h9] at HAC
        obtain ⟨rc, hrc⟩ : ∃ rc, othF (L.drop (i + 1)) y = rc := ⟨_, rfl⟩
        rw [hrc] at HAC
        have HRC0 := hide hrc
        have HSR := hide (LS.sr HI.out.fst)
        have hys : (bs y).size ≤ 900000 := by rw [bs_size]; omega
        clear hrc
        rcases hd_no h9 with y1 | ⟨y1, y2, y3⟩
        all_goals
          clear h9
          go_wp2_with fail
          go_loopg [6, 7, 9] (n - i) (fun q v6 v7 _ w2 => ∃ (j : Nat) (s : T), q = n - j ∧ v6 = .int .i64 j ∧ i ≤ j ∧ j < n ∧ v7 = .string (bs s) ∧ Hid (othF (L.drop (j + 1)) s = rc) ∧ s.length + sumL (L.drop (j + 1)) ≤ 900000 ∧ wr = w2)
          case atStart => exact ⟨i, y, rfl, rfl, Nat.le_refl _, hlt, rfl, HRC0, hya, rfl⟩
          case round =>
            obtain ⟨j, s, hq2, rfl, hij, hjn, rfl, HRC, hacc, rfl⟩ := hrel
            have HOD := hide (fun W => rodd_any s W (by omega))
            have hj0 : (0 : Int) ≤ (j : Int) := by omega
            have hsz : (bs s).size ≤ 900000 := by rw [bs_size]; omega
            clear hya
            cases ho : oddB s with
            | false =>
              rw [ho] at HOD
              have HST := hide (show s = rc.1 ∧ L.drop (j + 1) = rc.2 by
                have := HRC.out
                rw [show othF (L.drop (j + 1)) s = (s, L.drop (j + 1)) from by
                  cases L.drop (j + 1) with
                  | nil => rw [othF, if_neg (by rw [ho]; decide)]
                  | cons _ _ => rw [othF, if_neg (by rw [ho]; decide)]] at this
                rw [← this]; exact ⟨rfl, rfl⟩)
              have hsb2 : (s).length ≤ 900000 := by first | exact hfl9 | omega
              have HCM := hide (fun W => rcomment_any (s) W hsb2)
              have HTM := hide (fun W => rtrim_any (comm (s)) W (by have := comm_len (s); omega))
              have hplain : trimL (trimR (comm (s))) = plainF (s) := rfl
              rw [hplain] at HTM
              have HPF := hide (show plainF (s) = plainF rc.1 by rw [HST.out.1])
              rw [HPF.out] at HTM
              clear hplain
              by_cases hpf : plainF rc.1 = []
              · have hem2 : (bs (plainF rc.1)).toList.isEmpty = true := by rw [hpf, isE]; rfl
                have HA4 := hide (show a ++ linesA (L.drop (j + 1)) = R by rw [← HAC.out, if_pos hpf, HST.out.2]; simp)
                generalize plainF rc.1 = pf at *
                clear hpf
                go_wp2_with fail
                refine (HOD.out _).mono ?_
                rintro e w' ⟨rfl, rfl⟩
                go_wp2_with fail
                refine (HCM.out _).mono ?_
                rintro e w' ⟨rfl, rfl⟩
                go_wp2_with fail
                refine (HTM.out _).mono ?_
                rintro e w' ⟨rfl, rfl⟩
                go_wp2_with fail
                go_roundg (n - (j + 1))
                case rel => exact ⟨j + 1, _, rfl, by go_num, by omega, HA4, by omega, HI.out⟩
                case measure => omega
              · have hem2 : (bs (plainF rc.1)).toList.isEmpty = false := by
                  rw [isE]
                  cases hp : plainF rc.1 with
                  | nil => exact absurd hp hpf
                  | cons _ _ => rfl
                have HA4 := hide (show (a ++ [(false, plainF rc.1)]) ++ linesA (L.drop (j + 1)) = R by rw [← HAC.out, if_neg hpf, HST.out.2]; simp)
                obtain ⟨v4, w4, r4, hi5⟩ := OG.push rowL encL_len encL_one HFX.out HI.out (Nat.le_refl _) HI.out.below.size (by omega) (false, plainF rc.1) #[.bool false, .string (bs (plainF rc.1))] rfl
                have HI4 := hide hi5
                have hal4 : (a ++ [(false, plainF rc.1)]).length ≤ j + 1 := by simp only [List.length_append, List.length_cons, List.length_nil]; omega
                clear hi5
                generalize plainF rc.1 = pf at *
                clear hpf
                go_wp2_with fail
                refine (HOD.out _).mono ?_
                rintro e w' ⟨rfl, rfl⟩
                go_wp2_with fail
                refine (HCM.out _).mono ?_
                rintro e w' ⟨rfl, rfl⟩
                go_wp2_with fail
                refine (HTM.out _).mono ?_
                rintro e w' ⟨rfl, rfl⟩
                go_wp2_with (at_builtin; refine wpList_app_run ?_ (.tmp 122) (.tmp 125) ?_ ?_ ?_ ?_ r4 ?_; exact rfl; exact rfl; exact rfl; exact rfl; exact rfl)
                go_roundg (n - (j + 1))
                case rel => exact ⟨j + 1, _, rfl, by go_num, by omega, HA4, hal4, HI4.out⟩
                case measure => omega
            | true =>
              rw [ho] at HOD
              have hne := odd_ne ho
              have hpos : 0 < s.length := List.length_pos_iff.2 hne
              have hfl : (trimR s.dropLast).length + 1 ≤ s.length := by have := trimR_len s.dropLast; rw [List.length_dropLast] at this; omega
              have hfl9 : (front s).length ≤ s.length := by unfold front; simp only [List.length_append, List.length_cons, List.length_nil]; omega
              have hdl0 : s.dropLast.length ≤ 900000 := by rw [List.length_dropLast]; omega
              have HDL := hide (dropLast_ext s)
              have hsp : 0 < (bs s).size := by rw [bs_size]; exact hpos
              go_wp2_with fail
              refine (HOD.out _).mono ?_
              rintro e w' ⟨rfl, rfl⟩
              go_wp2_with fail
              rw [HDL.out]
              go_loopg [7] s.dropLast.length (fun q v7 w2 => ∃ m : T, q = m.length ∧ v7 = .string (bs m) ∧ m.length ≤ 900000 ∧ Hid (trimR m = trimR s.dropLast) ∧ wr = w2)
              case atStart => exact ⟨s.dropLast, rfl, rfl, hdl0, hide rfl, rfl⟩
              case round =>
                obtain ⟨m, hq3, rfl, hml, HM, rfl⟩ := hrel
                clear hdl0
                rcases snoc_cases m with rfl | ⟨m', d, rfl⟩
                · have hem : (bs []).toList.isEmpty = true := by rw [isE]; rfl
                  have hzn : (bs []).size ≤ 1 := by rw [bs_size]; simp
                  have HCF := hide (show bs [] ++ (⟨#[32]⟩ : ByteArray) = bs (front s) by rw [show (⟨#[32]⟩ : ByteArray) = bs [32] from rfl, bs_app]; unfold front; rw [← HM.out]; rfl)
                  by_cases hj1 : j + 1 < n
                  · have hj2 : (((j : Int) + 1) == (n : Int)) = false := by simp; omega
                    have hj3 : (j : Int) + 1 < (n : Int) := by omega
                    obtain ⟨x, hx⟩ : ∃ x, L[j + 1]? = some x := ⟨L[j + 1]'(by have := HN.out; omega), List.getElem?_eq_getElem _⟩
                    obtain ⟨g2, o2, e2, hg2, hcx⟩ := HSR.out (j + 1) (bs x) (by rw [List.getElem?_map, hx]; rfl)
                    obtain ⟨rfl, rfl⟩ : g = g2 ∧ o = o2 := by injection e2 with e2; injection e2 with e3 e4; exact ⟨e3, e4⟩
                    have hsx := sumL_drop hx
                    have hxt := trimL_len x
                    have hxl : x.length ≤ 900000 := by omega
                    have HRN := hide (show othF (L.drop (j + 1 + 1)) (front s ++ trimL x) = rc by rw [← HRC.out, drop_cons hx, othF, if_pos ho])
                    have hlen : (front s ++ trimL x).length + sumL (L.drop (j + 1 + 1)) ≤ 900000 := by simp only [List.length_append]; omega
                    have hxz : (bs x).size ≤ 900000 := by rw [bs_size]; omega
                    have hfz : (bs (front s)).size ≤ 900000 := by rw [bs_size]; omega
                    have htz : (bs (trimL x)).size ≤ 900000 := by rw [bs_size]; omega
                    clear hx hsx e2
                    go_wp2_with fail
                    rw [HCF.out]
                    go_loopg [9] x.length (fun q v9 w2 => ∃ m2 : T, q = m2.length ∧ v9 = .string (bs m2) ∧ m2.length ≤ 900000 ∧ Hid (trimL m2 = trimL x) ∧ wr = w2)
                    case atStart => exact ⟨x, rfl, rfl, hxl, hide rfl, rfl⟩
                    case round =>
                      obtain ⟨m2, hq4, rfl, hm2l, HM2, rfl⟩ := hrel
                      cases m2 with
                      | nil =>
                        have hem3 : (bs []).toList.isEmpty = true := by rw [isE]; rfl
                        have hzn3 : (bs []).size ≤ 1 := by rw [bs_size]; simp
                        have HCAT := hide (show bs (front s) ++ bs [] = bs (front s ++ trimL x) by rw [← HM2.out, bs_app]; rfl)
                        go_wp2_with fail
                        rw [HCAT.out]
                        go_roundg (n - (j + 1))
                        case rel => exact ⟨j + 1, _, rfl, by go_num, by omega, by omega, rfl, HRN, hlen, rfl⟩
                        case measure => omega
                      | cons d2 m3 =>
                        have hem3 : (bs (d2 :: m3)).toList.isEmpty = false := by rw [isE]; rfl
                        have hb3 : bt (bs (d2 :: m3)) 0 = d2.toNat := by rw [bt_bs]; rfl
                        have HBL3 := hide (fun W => rblank_any d2.toNat W)
                        rw [blkN_bt] at HBL3
                        have hz3 : (bs (d2 :: m3)).size ≤ 900000 := by rw [bs_size]; omega
                        have hpos3 : 0 < (bs (d2 :: m3)).size := by rw [bs_size]; simp
                        have HX3 := hide (show (bs (d2 :: m3)).extract 1 (bs (d2 :: m3)).size = bs m3 by rw [ext_bs, bs_size]; simp)
                        have hm3l : m3.length ≤ 900000 := by simp only [List.length_cons] at hm2l; omega
                        have hq5 : m3.length < (d2 :: m3).length := by simp
                        rw [← hq4] at hq5
                        cases hd3 : blk d2 with
                        | true =>
                          rw [hd3] at HBL3
                          have HM4 := hide (show trimL m3 = trimL x by rw [← HM2.out, trimL_cons, if_pos hd3])
                          clear hd3 hm2l hq4
                          generalize bs (d2 :: m3) = s3 at *
                          go_wp2_with fail
                          refine (HBL3.out _).mono ?_
                          rintro e w' ⟨rfl, rfl⟩
                          go_wp2_with fail
                          rw [HX3.out]
                          go_roundg m3.length
                          case rel => exact ⟨m3, rfl, rfl, hm3l, HM4, rfl⟩
                          case measure => omega
                        | false =>
                          rw [hd3] at HBL3
                          have HCAT := hide (show bs (front s) ++ bs (d2 :: m3) = bs (front s ++ trimL x) by rw [← HM2.out, trimL_cons, if_neg (by rw [hd3]; decide), bs_app])
                          clear hd3 hm2l hq4 HX3 hq5
                          generalize bs (d2 :: m3) = s3 at *
                          go_wp2_with fail
                          refine (HBL3.out _).mono ?_
                          rintro e w' ⟨rfl, rfl⟩
                          go_wp2_with fail
                          rw [HCAT.out]
                          go_roundg (n - (j + 1))
                          case rel => exact ⟨j + 1, _, rfl, by go_num, by omega, by omega, rfl, HRN, hlen, rfl⟩
                          case measure => omega
                  · have hj2 : (((j : Int) + 1) == (n : Int)) = true := by simp; omega
                    have HST := hide (show front s = rc.1 ∧ L.drop (j + 1) = rc.2 by
                      have := HRC.out
                      rw [show L.drop (j + 1) = [] from List.drop_of_length_le (by have := HN.out; omega)] at this ⊢
                      rw [othF, if_pos ho] at this
                      rw [← this]; exact ⟨rfl, rfl⟩)
                    have hsb2 : (front s).length ≤ 900000 := by omega
                    have HCM := hide (fun W => rcomment_any (front s) W hsb2)
                    have HTM := hide (fun W => rtrim_any (comm (front s)) W (by have := comm_len (front s); omega))
                    have hplain : trimL (trimR (comm (front s))) = plainF (front s) := rfl
                    rw [hplain] at HTM
                    have HPF := hide (show plainF (front s) = plainF rc.1 by rw [HST.out.1])
                    rw [HPF.out] at HTM
                    clear hplain
                    by_cases hpf : plainF rc.1 = []
                    · have hem2 : (bs (plainF rc.1)).toList.isEmpty = true := by rw [hpf, isE]; rfl
                      have HA4 := hide (show a ++ linesA (L.drop (j + 1)) = R by rw [← HAC.out, if_pos hpf, HST.out.2]; simp)
                      generalize plainF rc.1 = pf at *
                      clear hpf
                      go_wp2_with fail
                      rw [HCF.out]
                      refine (HCM.out _).mono ?_
                      rintro e w' ⟨rfl, rfl⟩
                      go_wp2_with fail
                      refine (HTM.out _).mono ?_
                      rintro e w' ⟨rfl, rfl⟩
                      go_wp2_with fail
                      go_roundg (n - (j + 1))
                      case rel => exact ⟨j + 1, _, rfl, by go_num, by omega, HA4, by omega, HI.out⟩
                      case measure => omega
                    · have hem2 : (bs (plainF rc.1)).toList.isEmpty = false := by
                        rw [isE]
                        cases hp : plainF rc.1 with
                        | nil => exact absurd hp hpf
                        | cons _ _ => rfl
                      have HA4 := hide (show (a ++ [(false, plainF rc.1)]) ++ linesA (L.drop (j + 1)) = R by rw [← HAC.out, if_neg hpf, HST.out.2]; simp)
                      obtain ⟨v4, w4, r4, hi5⟩ := OG.push rowL encL_len encL_one HFX.out HI.out (Nat.le_refl _) HI.out.below.size (by omega) (false, plainF rc.1) #[.bool false, .string (bs (plainF rc.1))] rfl
                      have HI4 := hide hi5
                      have hal4 : (a ++ [(false, plainF rc.1)]).length ≤ j + 1 := by simp only [List.length_append, List.length_cons, List.length_nil]; omega
                      clear hi5
                      generalize plainF rc.1 = pf at *
                      clear hpf
                      go_wp2_with fail
                      rw [HCF.out]
                      refine (HCM.out _).mono ?_
                      rintro e w' ⟨rfl, rfl⟩
                      go_wp2_with fail
                      refine (HTM.out _).mono ?_
                      rintro e w' ⟨rfl, rfl⟩
                      go_wp2_with (at_builtin; refine wpList_app_run ?_ (.tmp 122) (.tmp 125) ?_ ?_ ?_ ?_ r4 ?_; exact rfl; exact rfl; exact rfl; exact rfl; exact rfl)
                      go_roundg (n - (j + 1))
                      case rel => exact ⟨j + 1, _, rfl, by go_num, by omega, HA4, hal4, HI4.out⟩
                      case measure => omega
                · have hem : (bs (m' ++ [d])).toList.isEmpty = false := by rw [isE]; cases m' <;> rfl
                  have hzz : (bs (m' ++ [d])).size = m'.length + 1 := by rw [bs_size]; simp
                  have hbl : bt (bs (m' ++ [d])) ((bs (m' ++ [d])).size - 1) = d.toNat := by rw [hzz, bt_bs]; simp
                  have HBL2 := hide (fun W => rblank_any d.toNat W)
                  rw [blkN_bt] at HBL2
                  have HX2 := hide (show (bs (m' ++ [d])).extract 0 ((bs (m' ++ [d])).size - 1) = bs m' by rw [hzz, ext_bs]; simp)
                  have hq5 : m'.length < (m' ++ [d]).length := by simp
                  have hn3 : m'.length ≤ 900000 := by simp at hml; omega
                  have hz5 : (bs (m' ++ [d])).size ≤ 900000 := by simp at hml; omega
                  have hz6 : 0 < (bs (m' ++ [d])).size := by omega
                  rw [← hq3] at hq5
                  cases hd : blk d with
                  | true =>
                    rw [hd] at HBL2
                    have HM2 := hide (show trimR m' = trimR s.dropLast by rw [← HM.out, trimR_snoc, if_pos hd])
                    clear hd hzz hml hq3
                    generalize bs (m' ++ [d]) = sn at *
                    go_wp2_with fail
                    refine (HBL2.out _).mono ?_
                    rintro e w' ⟨rfl, rfl⟩
                    go_wp2_with fail
                    rw [HX2.out]
                    go_roundg m'.length
                    case rel => exact ⟨m', rfl, rfl, hn3, HM2, rfl⟩
                    case measure => omega
                  | false =>
                    rw [hd] at HBL2
                    have HCF := hide (show bs (m' ++ [d]) ++ (⟨#[32]⟩ : ByteArray) = bs (front s) by rw [show (⟨#[32]⟩ : ByteArray) = bs [32] from rfl, bs_app]; unfold front; rw [← HM.out, trimR_snoc, if_neg (by rw [hd]; decide)])
                    clear hd hzz hml hq3 HX2 hq5
                    generalize bs (m' ++ [d]) = sn at *
                    by_cases hj1 : j + 1 < n
                    · have hj2 : (((j : Int) + 1) == (n : Int)) = false := by simp; omega
                      have hj3 : (j : Int) + 1 < (n : Int) := by omega
                      obtain ⟨x, hx⟩ : ∃ x, L[j + 1]? = some x := ⟨L[j + 1]'(by have := HN.out; omega), List.getElem?_eq_getElem _⟩
                      obtain ⟨g2, o2, e2, hg2, hcx⟩ := HSR.out (j + 1) (bs x) (by rw [List.getElem?_map, hx]; rfl)
                      obtain ⟨rfl, rfl⟩ : g = g2 ∧ o = o2 := by injection e2 with e2; injection e2 with e3 e4; exact ⟨e3, e4⟩
                      have hsx := sumL_drop hx
                      have hxt := trimL_len x
                      have hxl : x.length ≤ 900000 := by omega
                      have HRN := hide (show othF (L.drop (j + 1 + 1)) (front s ++ trimL x) = rc by rw [← HRC.out, drop_cons hx, othF, if_pos ho])
                      have hlen : (front s ++ trimL x).length + sumL (L.drop (j + 1 + 1)) ≤ 900000 := by simp only [List.length_append]; omega
                      have hxz : (bs x).size ≤ 900000 := by rw [bs_size]; omega
                      have hfz : (bs (front s)).size ≤ 900000 := by rw [bs_size]; omega
                      have htz : (bs (trimL x)).size ≤ 900000 := by rw [bs_size]; omega
                      clear hx hsx e2
                      go_wp2_with fail
                      refine (HBL2.out _).mono ?_
                      rintro e w' ⟨rfl, rfl⟩
                      go_wp2_with fail
                      rw [HCF.out]
                      go_loopg [9] x.length (fun q v9 w2 => ∃ m2 : T, q = m2.length ∧ v9 = .string (bs m2) ∧ m2.length ≤ 900000 ∧ Hid (trimL m2 = trimL x) ∧ wr = w2)
                      case atStart => exact ⟨x, rfl, rfl, hxl, hide rfl, rfl⟩
                      case round =>
                        obtain ⟨m2, hq4, rfl, hm2l, HM2, rfl⟩ := hrel
                        cases m2 with
                        | nil =>
                          have hem3 : (bs []).toList.isEmpty = true := by rw [isE]; rfl
                          have hzn3 : (bs []).size ≤ 1 := by rw [bs_size]; simp
                          have HCAT := hide (show bs (front s) ++ bs [] = bs (front s ++ trimL x) by rw [← HM2.out, bs_app]; rfl)
                          go_wp2_with fail
                          rw [HCAT.out]
                          go_roundg (n - (j + 1))
                          case rel => exact ⟨j + 1, _, rfl, by go_num, by omega, by omega, rfl, HRN, hlen, rfl⟩
                          case measure => omega
                        | cons d2 m3 =>
                          have hem3 : (bs (d2 :: m3)).toList.isEmpty = false := by rw [isE]; rfl
                          have hb3 : bt (bs (d2 :: m3)) 0 = d2.toNat := by rw [bt_bs]; rfl
                          have HBL3 := hide (fun W => rblank_any d2.toNat W)
                          rw [blkN_bt] at HBL3
                          have hz3 : (bs (d2 :: m3)).size ≤ 900000 := by rw [bs_size]; omega
                          have hpos3 : 0 < (bs (d2 :: m3)).size := by rw [bs_size]; simp
                          have HX3 := hide (show (bs (d2 :: m3)).extract 1 (bs (d2 :: m3)).size = bs m3 by rw [ext_bs, bs_size]; simp)
                          have hm3l : m3.length ≤ 900000 := by simp only [List.length_cons] at hm2l; omega
                          have hq5 : m3.length < (d2 :: m3).length := by simp
                          rw [← hq4] at hq5
                          cases hd3 : blk d2 with
                          | true =>
                            rw [hd3] at HBL3
                            have HM4 := hide (show trimL m3 = trimL x by rw [← HM2.out, trimL_cons, if_pos hd3])
                            clear hd3 hm2l hq4
                            generalize bs (d2 :: m3) = s3 at *
                            go_wp2_with fail
                            refine (HBL3.out _).mono ?_
                            rintro e w' ⟨rfl, rfl⟩
                            go_wp2_with fail
                            rw [HX3.out]
                            go_roundg m3.length
                            case rel => exact ⟨m3, rfl, rfl, hm3l, HM4, rfl⟩
                            case measure => omega
                          | false =>
                            rw [hd3] at HBL3
                            have HCAT := hide (show bs (front s) ++ bs (d2 :: m3) = bs (front s ++ trimL x) by rw [← HM2.out, trimL_cons, if_neg (by rw [hd3]; decide), bs_app])
                            clear hd3 hm2l hq4 HX3 hq5
                            generalize bs (d2 :: m3) = s3 at *
                            go_wp2_with fail
                            refine (HBL3.out _).mono ?_
                            rintro e w' ⟨rfl, rfl⟩
                            go_wp2_with fail
                            rw [HCAT.out]
                            go_roundg (n - (j + 1))
                            case rel => exact ⟨j + 1, _, rfl, by go_num, by omega, by omega, rfl, HRN, hlen, rfl⟩
                            case measure => omega
                    · have hj2 : (((j : Int) + 1) == (n : Int)) = true := by simp; omega
                      have HST := hide (show front s = rc.1 ∧ L.drop (j + 1) = rc.2 by
                        have := HRC.out
                        rw [show L.drop (j + 1) = [] from List.drop_of_length_le (by have := HN.out; omega)] at this ⊢
                        rw [othF, if_pos ho] at this
                        rw [← this]; exact ⟨rfl, rfl⟩)
                      have hsb2 : (front s).length ≤ 900000 := by omega
                      have HCM := hide (fun W => rcomment_any (front s) W hsb2)
                      have HTM := hide (fun W => rtrim_any (comm (front s)) W (by have := comm_len (front s); omega))
                      have hplain : trimL (trimR (comm (front s))) = plainF (front s) := rfl
                      rw [hplain] at HTM
                      have HPF := hide (show plainF (front s) = plainF rc.1 by rw [HST.out.1])
                      rw [HPF.out] at HTM
                      clear hplain
                      by_cases hpf : plainF rc.1 = []
                      · have hem2 : (bs (plainF rc.1)).toList.isEmpty = true := by rw [hpf, isE]; rfl
                        have HA4 := hide (show a ++ linesA (L.drop (j + 1)) = R by rw [← HAC.out, if_pos hpf, HST.out.2]; simp)
                        generalize plainF rc.1 = pf at *
                        clear hpf
                        go_wp2_with fail
                        refine (HBL2.out _).mono ?_
                        rintro e w' ⟨rfl, rfl⟩
                        go_wp2_with fail
                        rw [HCF.out]
                        refine (HCM.out _).mono ?_
                        rintro e w' ⟨rfl, rfl⟩
                        go_wp2_with fail
                        refine (HTM.out _).mono ?_
                        rintro e w' ⟨rfl, rfl⟩
                        go_wp2_with fail
                        go_roundg (n - (j + 1))
                        case rel => exact ⟨j + 1, _, rfl, by go_num, by omega, HA4, by omega, HI.out⟩
                        case measure => omega
                      · have hem2 : (bs (plainF rc.1)).toList.isEmpty = false := by
                          rw [isE]
                          cases hp : plainF rc.1 with
                          | nil => exact absurd hp hpf
                          | cons _ _ => rfl
                        have HA4 := hide (show (a ++ [(false, plainF rc.1)]) ++ linesA (L.drop (j + 1)) = R by rw [← HAC.out, if_neg hpf, HST.out.2]; simp)
                        obtain ⟨v4, w4, r4, hi5⟩ := OG.push rowL encL_len encL_one HFX.out HI.out (Nat.le_refl _) HI.out.below.size (by omega) (false, plainF rc.1) #[.bool false, .string (bs (plainF rc.1))] rfl
                        have HI4 := hide hi5
                        have hal4 : (a ++ [(false, plainF rc.1)]).length ≤ j + 1 := by simp only [List.length_append, List.length_cons, List.length_nil]; omega
                        clear hi5
                        generalize plainF rc.1 = pf at *
                        clear hpf
                        go_wp2_with fail
                        refine (HBL2.out _).mono ?_
                        rintro e w' ⟨rfl, rfl⟩
                        go_wp2_with fail
                        rw [HCF.out]
                        refine (HCM.out _).mono ?_
                        rintro e w' ⟨rfl, rfl⟩
                        go_wp2_with fail
                        refine (HTM.out _).mono ?_
                        rintro e w' ⟨rfl, rfl⟩
                        go_wp2_with (at_builtin; refine wpList_app_run ?_ (.tmp 122) (.tmp 125) ?_ ?_ ?_ ?_ r4 ?_; exact rfl; exact rfl; exact rfl; exact rfl; exact rfl)
                        go_roundg (n - (j + 1))
                        case rel => exact ⟨j + 1, _, rfl, by go_num, by omega, HA4, hal4, HI4.out⟩
                        case measure => omega
    · obtain rfl : i = n := by omega
      have hfin : a = R := by
        have := HA.out
        rw [List.drop_of_length_le (by have := HN.out; omega)] at this
        rw [← this]; simp [linesA_nil]
      subst hfin
      have hown := OG.own HI.out.snd
      obtain ⟨A3, c3, rfl, hc3, hr3, _, _⟩ := hown.slice encL_len
      have HOW := hide hown
      clear hown
      have HR3 := hide hr3
      go_wp2_with fail
      go_ret2
      unfold ReadPostO
      rw [HRL.out]
      exact ⟨⟨A3, c3, rfl, hc3, HR3.out, HOW.out⟩, HI.out.below⟩
theorem rlines_any (l : T) (w : World) (hz : (bs l).size ≤ 9223372036854775807) : Calls Tryd.prog 7 #[.string (bs l)] w (ReadPost l w) := by
  refine (rlineso_any l w hz).mono ?_
  rintro e w' ⟨⟨A, c, h1, h2, h3, _⟩, hb⟩
  exact ⟨⟨A, c, h1, h2, h3⟩, hb⟩
end Go.Proofs.YtkocnbehogefnaaDoor
