/- Walks of the reference of chapter 18: trim, comment. -/
import Derived.Test.YtkocnbehogefnaaDoorLinesRefA
namespace Go.Proofs.YtkocnbehogefnaaDoor
open Go.RowKit Go.Deep Ln
attribute [local go_sem] bt_eq

theorem trimL_cons (c : UInt8) (m : T) : trimL (c :: m) = if blk c = true then trimL m else c :: m := List.dropWhile_cons
theorem trimR_snoc (m : T) (c : UInt8) : trimR (m ++ [c]) = if blk c = true then trimR m else m ++ [c] := by
  unfold trimR
  rw [List.reverse_append, List.reverse_cons, List.reverse_nil, List.nil_append, List.singleton_append, List.dropWhile_cons]
  by_cases h : blk c = true
  · rw [if_pos h, if_pos h]
  · rw [if_neg h, if_neg h]; simp
theorem isE (m : T) : (bs m).toList.isEmpty = m.isEmpty := by rw [bs_toList]
theorem snoc_cases (n : T) : n = [] ∨ ∃ n' d, n = n' ++ [d] := by
  rcases List.eq_nil_or_concat n with h | ⟨a, b, h⟩
  · exact .inl h
  · exact .inr ⟨a, b, by rw [h, List.concat_eq_append]⟩
set_option maxRecDepth 100000 in
set_option maxHeartbeats 4000000 in
theorem rtrim_any (l : T) (w : World) (h : l.length ≤ 1000000) : Calls Tryd.prog 19 #[.string (bs l)] w fun e w' => e = .returned (.string (bs (trimL (trimR l)))) ∧ w = w' := by
  have HR := hide (show trimR (trimL l) = trimL (trimR l) from trimRL l)
  obtain ⟨R, hR⟩ : ∃ R, trimL (trimR l) = R := ⟨_, rfl⟩
  rw [hR] at HR ⊢
  clear hR
  go_enter Tryd.func19, Tryd.ntmps19
  go_wp2
  go_loopg [0] l.length (fun q v0 w2 => ∃ m : T, q = m.length ∧ v0 = .string (bs m) ∧ m.length ≤ l.length ∧ Hid (trimL m = trimL l) ∧ w = w2)
  case atStart => exact ⟨l, rfl, rfl, Nat.le_refl _, hide rfl, rfl⟩
  case round =>
    obtain ⟨m, hq, rfl, hml, HM, rfl⟩ := hrel
    cases m with
    | nil =>
      have hem : (bs []).toList.isEmpty = true := by rw [isE]; rfl
      have ho : trimL l = [] := HM.out.symm
      go_wp2
      have HRR := hide (show trimR ([]) = R by rw [← HR.out, ho])
      have hxl : ([] : T).length ≤ 1000000 := by simp
      clear ho
      go_loopg [0] ([] : T).length (fun q v0 w2 => ∃ n : T, q = n.length ∧ v0 = .string (bs n) ∧ n.length ≤ 1000000 ∧ Hid (trimR n = R) ∧ w = w2)
      case atStart => exact ⟨_, rfl, rfl, hxl, HRR, rfl⟩
      case round =>
        obtain ⟨n, hq2, rfl, hnl, HN, rfl⟩ := hrel
        clear hxl
        rcases snoc_cases n with rfl | ⟨n', d, rfl⟩
        · have hem2 : (bs []).toList.isEmpty = true := by rw [isE]; rfl
          have HF := hide (show ([] : T) = R by rw [← HN.out]; rfl)
          go_wp2
          go_ret
          exact ⟨by rw [← HF.out]; rfl, rfl⟩
        · have hem2 : (bs (n' ++ [d])).toList.isEmpty = false := by rw [isE]; cases n' <;> rfl
          have hzz : (bs (n' ++ [d])).size = n'.length + 1 := by rw [bs_size]; simp
          have hbl : bt (bs (n' ++ [d])) ((bs (n' ++ [d])).size - 1) = d.toNat := by rw [hzz, bt_bs]; simp
          have HBL2 := hide (fun W => rblank_any d.toNat W)
          rw [blkN_bt] at HBL2
          have HX2 := hide (show (bs (n' ++ [d])).extract 0 ((bs (n' ++ [d])).size - 1) = bs n' by rw [hzz, ext_bs]; simp)
          have hq3 : n'.length < (n' ++ [d]).length := by simp
          have hn3 : n'.length ≤ 1000000 := by simp at hnl; omega
          have hz5 : (bs (n' ++ [d])).size ≤ 1000000 := by omega
          have hz6 : 0 < (bs (n' ++ [d])).size := by omega
          have HND := hide (show bs (n' ++ [d]) = bs (n' ++ [d]) from rfl)
          rw [← hq2] at hq3
          cases hd : blk d with
          | true =>
            rw [hd] at HBL2
            have HN2 := hide (show trimR n' = R by rw [← HN.out, trimR_snoc, if_pos hd])
            clear hd hzz hnl hq2
            generalize bs (n' ++ [d]) = sn at *
            go_wp2_with fail
            refine (HBL2.out _).mono ?_
            rintro e w' ⟨rfl, rfl⟩
            go_wp2_with fail
            rw [HX2.out]
            go_roundg n'.length
            case rel => exact ⟨n', rfl, rfl, hn3, HN2, rfl⟩
            case measure => omega
          | false =>
            rw [hd] at HBL2
            have HF := hide (show n' ++ [d] = R by rw [← HN.out, trimR_snoc, if_neg (by rw [hd]; decide)])
            have HFB := hide (show bs (n' ++ [d]) = bs R by rw [HF.out])
            clear hd hzz hnl hq2 HF
            generalize bs (n' ++ [d]) = sn at *
            go_wp2_with fail
            refine (HBL2.out _).mono ?_
            rintro e w' ⟨rfl, rfl⟩
            go_wp2
            go_ret
            exact ⟨by rw [← HFB.out]; rfl, rfl⟩
    | cons c m' =>
      have hem : (bs (c :: m')).toList.isEmpty = false := by rw [isE]; rfl
      have hb0 : bt (bs (c :: m')) 0 = c.toNat := by rw [bt_bs]; rfl
      have HBL := hide (fun W => rblank_any c.toNat W)
      rw [blkN_bt] at HBL
      have hz0 : (bs (c :: m')).size = m'.length + 1 := by rw [bs_size]; rfl
      have hz1 : (bs (c :: m')).size ≤ 1000000 := by rw [bs_size]; omega
      have hpos : 0 < (bs (c :: m')).size := by omega
      have HX := hide (show (bs (c :: m')).extract 1 (bs (c :: m')).size = bs m' by rw [ext_bs, bs_size]; simp)
      have hml2 : m'.length ≤ l.length := by simp only [List.length_cons] at hml; omega
      have hq3 : m'.length < (c :: m').length := by simp
      have hml3 : (c :: m').length ≤ 1000000 := by omega
      rw [← hq] at hq3
      cases hc : blk c with
      | true =>
        rw [hc] at HBL
        have HM2 := hide (show trimL m' = trimL l by rw [← HM.out, trimL_cons, if_pos hc])
        clear hc hz0 hml hml3 hq
        generalize bs (c :: m') = s1 at *
        go_wp2_with fail
        refine (HBL.out _).mono ?_
        rintro e w' ⟨rfl, rfl⟩
        go_wp2_with fail
        rw [HX.out]
        go_roundg m'.length
        case rel => exact ⟨m', rfl, rfl, hml2, HM2, rfl⟩
        case measure => omega
      | false =>
        rw [hc] at HBL
        have ho : trimL l = c :: m' := by rw [← HM.out, trimL_cons, if_neg (by rw [hc]; decide)]
        clear hc hz0 hml hq HX hq3 hml2
        obtain ⟨M, hM⟩ : ∃ M : T, c :: m' = M := ⟨_, rfl⟩
        rw [hM] at ho hml3 hem hb0 hz1 hpos ⊢
        clear hM HM
        go_wp2_with fail
        refine (HBL.out _).mono ?_
        rintro e w' ⟨rfl, rfl⟩
        go_wp2_with fail
        have HRR := hide (show trimR (M) = R by rw [← HR.out, ho])
        have hxl : (M : T).length ≤ 1000000 := by exact hml3
        clear ho
        go_loopg [0] (M : T).length (fun q v0 w2 => ∃ n : T, q = n.length ∧ v0 = .string (bs n) ∧ n.length ≤ 1000000 ∧ Hid (trimR n = R) ∧ w = w2)
        case atStart => exact ⟨_, rfl, rfl, hxl, HRR, rfl⟩
        case round =>
          obtain ⟨n, hq2, rfl, hnl, HN, rfl⟩ := hrel
          clear hxl
          rcases snoc_cases n with rfl | ⟨n', d, rfl⟩
          · have hem2 : (bs []).toList.isEmpty = true := by rw [isE]; rfl
            have HF := hide (show ([] : T) = R by rw [← HN.out]; rfl)
            go_wp2
            go_ret
            exact ⟨by rw [← HF.out]; rfl, rfl⟩
          · have hem2 : (bs (n' ++ [d])).toList.isEmpty = false := by rw [isE]; cases n' <;> rfl
            have hzz : (bs (n' ++ [d])).size = n'.length + 1 := by rw [bs_size]; simp
            have hbl : bt (bs (n' ++ [d])) ((bs (n' ++ [d])).size - 1) = d.toNat := by rw [hzz, bt_bs]; simp
            have HBL2 := hide (fun W => rblank_any d.toNat W)
            rw [blkN_bt] at HBL2
            have HX2 := hide (show (bs (n' ++ [d])).extract 0 ((bs (n' ++ [d])).size - 1) = bs n' by rw [hzz, ext_bs]; simp)
            have hq3 : n'.length < (n' ++ [d]).length := by simp
            have hn3 : n'.length ≤ 1000000 := by simp at hnl; omega
            have hz5 : (bs (n' ++ [d])).size ≤ 1000000 := by omega
            have hz6 : 0 < (bs (n' ++ [d])).size := by omega
            have HND := hide (show bs (n' ++ [d]) = bs (n' ++ [d]) from rfl)
            rw [← hq2] at hq3
            cases hd : blk d with
            | true =>
              rw [hd] at HBL2
              have HN2 := hide (show trimR n' = R by rw [← HN.out, trimR_snoc, if_pos hd])
              clear hd hzz hnl hq2
              generalize bs (n' ++ [d]) = sn at *
              go_wp2_with fail
              refine (HBL2.out _).mono ?_
              rintro e w' ⟨rfl, rfl⟩
              go_wp2_with fail
              rw [HX2.out]
              go_roundg n'.length
              case rel => exact ⟨n', rfl, rfl, hn3, HN2, rfl⟩
              case measure => omega
            | false =>
              rw [hd] at HBL2
              have HF := hide (show n' ++ [d] = R by rw [← HN.out, trimR_snoc, if_neg (by rw [hd]; decide)])
              have HFB := hide (show bs (n' ++ [d]) = bs R by rw [HF.out])
              clear hd hzz hnl hq2 HF
              generalize bs (n' ++ [d]) = sn at *
              go_wp2_with fail
              refine (HBL2.out _).mono ?_
              rintro e w' ⟨rfl, rfl⟩
              go_wp2
              go_ret
              exact ⟨by rw [← HFB.out]; rfl, rfl⟩
end Go.Proofs.YtkocnbehogefnaaDoor
