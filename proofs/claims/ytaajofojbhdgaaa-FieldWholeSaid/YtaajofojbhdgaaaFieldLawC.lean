/- The law FieldWhole: the walk. -/
import Derived.Test.YtaajofojbhdgaaaFieldLawB
namespace Go.Proofs.Ytaajofojbhdgaaa
open Go.RowKit Go.Deep
set_option linter.unusedSimpArgs false
set_option linter.unusedVariables false
attribute [local go_sem] bt_eq

set_option maxRecDepth 100000 in
set_option maxHeartbeats 4000000 in
theorem law_fieldWhole (A : Option Addr) (c : Nat) (L : List Pt) (hl : L.length ≤ maxLen) (hs : ∀ x ∈ L, szP x) (w : World) (h : RG encPt 6 w A L) :
    Calls Try.prog 3 #[.slice A L.length c] w fun e w' => e = .returned (.bool true) ∧ Below w.heap.size w w' := by
  have HR := hide h
  have HBG := hide (fun (w1 : World) (hb : Below w.heap.size w w1) => big12_any A c L w1 (h.below hb) (by unfold maxLen at hl; omega) (fun x hx => by have := hs x hx; unfold szP maxLen at this; omega))
  obtain ⟨n, hn⟩ : ∃ n, L.length = n := ⟨_, rfl⟩
  have HN := hide hn
  rw [hn] at hl HBG ⊢
  unfold maxLen at hl
  clear h hs hn
  go_enter Try.func3, Try.ntmps3
  go_wp2_with fail
  refine (alive12_any w).mono ?_
  rintro e w1 ⟨rfl, hb1⟩
  have HB1 := hide hb1
  clear hb1
  go_wp2_with fail
  refine (HBG.out w1 HB1.out).mono ?_
  rintro e w2 ⟨rfl, hw⟩
  subst hw
  have HBI := hide (fun (hb : bigP L = false) => big_no hb)
  obtain ⟨bg, hbg⟩ : ∃ b, bigP L = b := ⟨_, rfl⟩
  rw [hbg] at HBI ⊢
  clear hbg
  cases bg with
  | true =>
    go_wp2
    go_ret
    exact ⟨rfl, HB1.out⟩
  | false =>
    obtain ⟨hl40, hz⟩ := HBI.out rfl
    rw [HN.out] at hl40
    have hni : (n : Int) ≤ 40 := by omega
    have HZ := hide hz
    have hwl := want_len L hz
    have hwl2 : (wantS L).length ≤ 12000 := by rw [HN.out] at hwl; omega
    have HWL := hide hwl2
    have HR1 := hide (HR.out.below HB1.out)
    clear hz hwl hwl2 HBI HBG
    go_wp2
    go_loopw [5, 6, 7, 8] (fun v5 v6 _ _ wr => ∃ k : Nat, v6 = .int .i64 k ∧ k ≤ n ∧ v5 = .string (bsF (wantS (L.take k))) ∧ wr = w1) (fun _ v6 _ _ _ => n - (intOf v6).toNat)
    case atStart => exact ⟨0, rfl, by omega, rfl, rfl⟩
    case round =>
      obtain ⟨k, rfl, hk, rfl, rfl⟩ := hrel
      by_cases hlt : k < n
      case neg =>
        obtain rfl : k = n := by omega
        have htk : L.take k = L := List.take_of_length_le (by have := HN.out; omega)
        rw [htk]
        have HSP := hide (split_any A c L wr HR1.out (by have := HN.out; omega) (fun p hp => by have := HZ.out p hp; omega))
        rw [HN.out] at HSP
        have HSC := hide (split_cnt L HZ.out)
        have HSA := hide (split_all L)
        clear htk
        go_wp2_with fail
        refine HSP.out.mono ?_
        rintro e ws hp
        obtain ⟨out, A2, c2, rfl, ho, hrg, hrw, hb⟩ := hp
        have HO := hide ho
        have HRG := hide hrg
        have HRW := hide hrw
        have HB2 := hide (HB1.out.trans (hb.mono HB1.out.size))
        have hol : (splitS L).length ≤ (splitS L).flatten.length := by
          rw [← ho, List.length_flatten]
          have : ∀ (o : List FR), (∀ r ∈ o, r.L ≠ []) → (o.map FR.L).length ≤ ((o.map FR.L).map List.length).sum := by
            intro o
            induction o with
            | nil => intro _; simp
            | cons r o ih =>
              intro h
              have h1 := ih (fun q hq => h q (by simp [hq]))
              have h2 : 0 < r.L.length := List.length_pos_iff.2 (h r (by simp))
              simp only [List.map_cons, List.length_cons, List.sum_cons] at h1 ⊢
              omega
          exact this out fun r hr => (hrw r hr).2.2
        have hol2 : out.length ≤ 12040 := by
          have h1 := HSC.out
          have h2 : out.length = (splitS L).length := by rw [← ho, List.length_map]
          rw [HN.out] at h1
          omega
        obtain ⟨m, hm⟩ : ∃ m, out.length = m := ⟨_, rfl⟩
        have HM := hide hm
        rw [hm] at hol2 ⊢
        have hmi : (m : Int) ≤ 12040 := by omega
        clear ho hrg hrw hb hol hm
        go_wp2
        go_loopw [10, 11] (fun v10 v11 wr => ∃ k : Nat, v11 = .int .i64 k ∧ k ≤ m ∧ v10 = .string (bsF (rowsS ((splitS L).take k))) ∧ Hid (Below ws.heap.size ws wr)) (fun _ v11 _ => m - (intOf v11).toNat)
        case atStart => exact ⟨0, rfl, by omega, rfl, hide (Below.refl _ _)⟩
        case round =>
          obtain ⟨wo, hwo⟩ : ∃ Z, Z = wr := ⟨_, rfl⟩
          subst hwo
          obtain ⟨k, rfl, hk, rfl, HBE⟩ := hrel
          by_cases hlt : k < m
          case neg =>
            obtain rfl : k = m := by omega
            have htk : (splitS L).take k = splitS L := List.take_of_length_le (by have := HM.out; rw [← HO.out, List.length_map]; omega)
            rw [htk, HSA.out]
            clear htk
            go_wp2
            go_ret
            exact ⟨by simp, HB2.out.trans (HBE.out.mono HB2.out.size)⟩
          obtain ⟨r, hr⟩ : ∃ r, out[k]? = some r := ⟨out[k]'(by have := HM.out; omega), List.getElem?_eq_getElem _⟩
          obtain ⟨g, o, rfl, hg, hc⟩ := HRG.out.below HBE.out k r hr
          obtain ⟨hr1, hr2, hr3⟩ := HRW.out r (List.mem_of_getElem? hr)
          have hc0 : wo.cell? ⟨g, o + k, none⟩ = some (.slice r.A r.L.length r.c) := by have := hc 0 _ rfl; simpa using this
          have hmem : (splitS L)[k]? = some r.L := by rw [← HO.out, List.getElem?_map, hr]; rfl
          have hlr := row_len (List.mem_of_getElem? hmem)
          have htr := row_txt (List.mem_of_getElem? hmem)
          have hlr2 : r.L.length ≤ 12040 := by have := HSC.out; rw [HN.out] at this; omega
          have htr2 : (textS r.L).length ≤ 12000 := by have := HWL.out; rw [HSA.out] at htr; omega
          have hpr : ((r.L.length : Nat) : Int) ≠ 0 := by have := List.length_pos_iff.2 hr3; omega
          have hpb : (((r.L.length : Nat) : Int) == 0) = false := by simpa using hpr
          have HTX := hide (text_any r.A r.c r.L wo (hr1.below HBE.out) (by omega) (by omega))
          have HRT := hide (show bsF (rowsS ((splitS L).take (k + 1))) = bsF (rowsS ((splitS L).take k)) ++ bsF (textS r.L) by rw [rowsS_take hmem, bsF_app])
          have hrl := rowsS_le (splitS L) k
          have hcat : (bsF (rowsS ((splitS L).take k))).size + (bsF (textS r.L)).size ≤ 30000 := by
            have h1 : ∀ l, (bsF l).size = l.length := fun l => by rw [Lib.size_eq]; simp [bsF]
            rw [h1, h1]
            have := HWL.out
            rw [HSA.out] at hrl
            omega
          have b2 : (k : Int) < (m : Int) := by omega
          obtain ⟨z, hz⟩ : ∃ z, r.L.length = z := ⟨_, rfl⟩
          rw [hz] at hc0 hpr hpb HTX hlr2
          clear hc hr hr1 hr2 hr3 hmem hlr htr htr2 hrl hz
          go_wp2_with fail
          refine HTX.out.mono ?_
          rintro e wt ⟨rfl, hbt⟩
          have HB3 := hide (HBE.out.trans (hbt.mono HBE.out.size))
          clear hbt
          go_wp2
          exact ⟨⟨k + 1, by go_num, by omega, by rw [HRT.out], HB3⟩, by simp [intOf]; omega⟩
      obtain ⟨x, hx⟩ : ∃ x, L[k]? = some x := ⟨L[k]'(by have := HN.out; omega), List.getElem?_eq_getElem _⟩
      obtain ⟨g, o, rfl, hg, hc⟩ := HR1.out k x hx
      have hc0 : wr.cell? ⟨g, o + k * 6, none⟩ = some (.int .i64 x.kind) := by have := hc 0 _ rfl; simpa using this
      have hc1 : wr.cell? ⟨g, o + k * 6 + 1, none⟩ = some (.string x.text) := hc 1 _ rfl
      have b1 : (k : Int) < (n : Int) := by omega
      have hxz := HZ.out x (List.mem_of_getElem? hx)
      have HWS := hide (wantS_succ hx)
      have hwt := want_len (L.take k) (fun p hp => HZ.out p (List.mem_of_mem_take hp))
      have hwt2 : (wantS (L.take k)).length ≤ 12000 := by rw [List.length_take] at hwt; omega
      have HWT := hide hwt2
      clear hc hx hwt hwt2
      obtain ⟨kd, tx, nm, op, wA, wn, wk, q⟩ := x
      dsimp only at hc0 hc1 hxz
      have HWP := hide (show wantP ⟨kd, tx, nm, op, wA, wn, wk, q⟩ = wantK kd tx.data.toList from rfl)
      go_wp2
      go_loopw [5, 7, 8] (fun v5 v7 _ wx => ∃ j : Nat, v7 = .int .i64 j ∧ j ≤ tx.size ∧ v5 = .string (bsF (wantS (L.take k) ++ wantK kd (tx.data.toList.take j))) ∧ wx = wr) (fun _ v7 _ _ => tx.size - (intOf v7).toNat)
      case atStart => exact ⟨0, rfl, by omega, by simp [wantK], rfl⟩
      case round =>
        obtain ⟨j, rfl, hj, rfl, rfl⟩ := hrel
        by_cases hjl : j < tx.size
        case neg =>
          obtain rfl : j = tx.size := by omega
          have htk : tx.data.toList.take tx.size = tx.data.toList := List.take_of_length_le (by rw [Lib.size_eq]; exact Nat.le_refl _)
          rw [htk, ← HWP.out, ← HWS.out]
          clear htk
          go_wp2
          exact ⟨⟨k + 1, by go_num, by omega, rfl, trivial⟩, by simp [intOf]; omega⟩
        have HKS := hide (wantK_succ kd tx j hjl)
        have hkl : (bsF (wantS (L.take k) ++ wantK kd (tx.data.toList.take j))).size ≤ 13000 := by
          have h1 : ∀ l, (bsF l).size = l.length := fun l => by rw [Lib.size_eq]; simp [bsF]
          have h2 : (wantK kd (tx.data.toList.take j)).length ≤ 300 := by
            have h3 : (tx.data.toList.take j).length ≤ 300 := by rw [List.length_take]; omega
            unfold wantK
            split
            · exact Nat.le_trans (List.length_filter_le _ _) h3
            · exact h3
          rw [h1, List.length_append]
          have := HWT.out
          omega
        have b3 : (j : Int) < (tx.size : Int) := by omega
        have hex : (tx.extract j (j + 1)).size = 1 := by rw [ByteArray.size_extract]; omega
        have hj1 : (j : Int) + 1 ≤ (tx.size : Int) := by omega
        have hcat : (bsF (wantS (L.take k) ++ wantK kd (tx.data.toList.take j))).size + (tx.extract j (j + 1)).size ≤ 14000 := by omega
        by_cases hkd : kd = 1
        · subst hkd
          by_cases h32 : bt tx j = 32
          · have q0 : (((bt tx j : Nat) : Int) == 32) = true := by simp only [beq_iff_eq]; omega
            have HN2 := hide (show wantK 1 (tx.data.toList.take (j + 1)) = wantK 1 (tx.data.toList.take j) by rw [HKS.out, if_pos ⟨rfl, .inl h32⟩, List.append_nil])
            go_wp2
            exact ⟨⟨j + 1, by go_num, by omega, by rw [HN2.out], trivial⟩, by simp [intOf]; omega⟩
          have q0 : (((bt tx j : Nat) : Int) == 32) = false := by simp only [beq_eq_false_iff_ne]; omega
          by_cases h9 : bt tx j = 9
          · have q1 : (((bt tx j : Nat) : Int) == 9) = true := by simp only [beq_iff_eq]; omega
            have HN2 := hide (show wantK 1 (tx.data.toList.take (j + 1)) = wantK 1 (tx.data.toList.take j) by rw [HKS.out, if_pos ⟨rfl, .inr (.inl h9)⟩, List.append_nil])
            go_wp2
            exact ⟨⟨j + 1, by go_num, by omega, by rw [HN2.out], trivial⟩, by simp [intOf]; omega⟩
          have q1 : (((bt tx j : Nat) : Int) == 9) = false := by simp only [beq_eq_false_iff_ne]; omega
          by_cases h10 : bt tx j = 10
          · have q2 : (((bt tx j : Nat) : Int) == 10) = true := by simp only [beq_iff_eq]; omega
            have HN2 := hide (show wantK 1 (tx.data.toList.take (j + 1)) = wantK 1 (tx.data.toList.take j) by rw [HKS.out, if_pos ⟨rfl, .inr (.inr h10)⟩, List.append_nil])
            go_wp2
            exact ⟨⟨j + 1, by go_num, by omega, by rw [HN2.out], trivial⟩, by simp [intOf]; omega⟩
          have q2 : (((bt tx j : Nat) : Int) == 10) = false := by simp only [beq_eq_false_iff_ne]; omega
          have HN2 := hide (show bsF (wantS (L.take k) ++ wantK 1 (tx.data.toList.take (j + 1))) = bsF (wantS (L.take k) ++ wantK 1 (tx.data.toList.take j)) ++ tx.extract j (j + 1) by rw [HKS.out, if_neg (by rintro ⟨_, a | a | a⟩ <;> omega), ← List.append_assoc, bsF_app]; rfl)
          go_wp2
          exact ⟨⟨j + 1, by go_num, by omega, by rw [HN2.out], trivial⟩, by simp [intOf]; omega⟩
        · have kn : ¬ kd = 1 := hkd
          have kf : (kd == 1) = false := by simpa using hkd
          have HN2 := hide (show bsF (wantS (L.take k) ++ wantK kd (tx.data.toList.take (j + 1))) = bsF (wantS (L.take k) ++ wantK kd (tx.data.toList.take j)) ++ tx.extract j (j + 1) by rw [HKS.out, if_neg (fun h => hkd h.1), ← List.append_assoc, bsF_app]; rfl)
          clear hkd
          go_wp2
          exact ⟨⟨j + 1, by go_num, by omega, by rw [HN2.out], trivial⟩, by simp [intOf]; omega⟩
end Go.Proofs.Ytaajofojbhdgaaa
