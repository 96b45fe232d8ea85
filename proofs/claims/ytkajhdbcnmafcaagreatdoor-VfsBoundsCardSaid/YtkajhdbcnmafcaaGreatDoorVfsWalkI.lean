/- Walk of the file system's may: why one whole path can't be moved to another one. -/
import Derived.Test.YtkajhdbcnmafcaaGreatDoorVfsWalkG
import Derived.Test.YtkajhdbcnmafcaaGreatDoorVfsMathM
import Derived.Test.YtkajhdbcnmafcaaGreatDoorPathWalkA
namespace Go.Proofs.YtkajhdbcnmafcaaGreatDoor
open Go.RowKit Go.Deep Go.Maps Ln Pth Vf
set_option linter.unusedSimpArgs false
set_option linter.unusedVariables false
attribute [local go_sem] bt_eq

theorem front_len (q : T) : q.length ≤ (frontF q).length := by
  unfold frontF
  rw [List.length_append]
  split
  · rw [List.length_dropLast]; simp; omega
  · simp
theorem below_mem {S : St} (hS : WfS S) {a x : T} (h : x ∈ belowM S.m a) : a.length ≤ x.length ∧ x.length ≤ 200 := by
  obtain ⟨r, n, rfl, hm⟩ := mem_below.1 h
  refine ⟨by have := front_len a; rw [List.length_append]; omega, ?_⟩
  obtain ⟨l, hl, _, e⟩ := hS.good _ hm
  have := hl.len
  rw [← bs_inj e] at this
  exact this
theorem below_count {S : St} (hS : WfS S) (a : T) : (belowM S.m a).length ≤ 10000 := by
  have h1 := hS.nodes
  have h2 := hS.n10
  unfold belowM
  refine Nat.le_trans (List.length_filter_le _ _) ?_
  rw [List.length_map]
  omega
set_option maxRecDepth 100000 in
set_option maxHeartbeats 4000000 in
theorem may_any (g : Nat) (S : St) (hS : WfS S) (a b : T) (w : World) (h : Hs (VS g S) w) (hm : MX w) (ha : a.length ≤ 200) (hb : b.length ≤ 200) :
    Calls Tryz.prog 66 #[.pointer (some ⟨g, 0, none⟩), .string (bs a), .string (bs b)] w fun e w' => e = .returned (.int .i64 (mayS S.m a b)) ∧ Below w.heap.size w w' := by
  have HKA := hide (kind_any g S a w h (by omega))
  have HKB := hide (fun W (hb' : Below w.heap.size w W) => kind_any g S b W (h.below (VS.fr g S) hb') (by omega))
  have HWI := hide (fun W (hb' : Below w.heap.size w W) => within_any a b W (hm.below hb') (by omega) (by omega))
  have HBB := hide (fun W (hb' : Below w.heap.size w W) => below_any g S hS b W (h.below (VS.fr g S) hb') (by omega))
  have HBA := hide (fun W (hb' : Below w.heap.size w W) => below_any g S hS a W (h.below (VS.fr g S) hb') (by omega))
  have HAB := hide (fun (p : T) (hp : p.length ≤ 100000) W (hb' : Below w.heap.size w W) => abs_any [47] p W (hm.below hb') (by simp) hp)
  have HMEM := hide (fun x hx => below_mem hS (a := a) (x := x) hx)
  have hcnt := below_count hS a
  have hR : mayS S.m a b = if b = [47] ∨ withinF a b = true then 1 else if kindM S.m b = 2 ∧ kindM S.m a ≠ 2 then 10 else if kindM S.m b = 1 ∧ kindM S.m a = 2 then 11 else if kindM S.m b = 2 ∧ belowM S.m b ≠ [] then 14 else if ∃ q ∈ belowM S.m a, (absF [47] (tgt a b q)).2 ≠ 0 then 3 else 0 := rfl
  have hka := kind_le S.m a
  have hkb := kind_le S.m b
  obtain ⟨ka, hkae⟩ : ∃ k, kindM S.m a = k := ⟨_, rfl⟩
  obtain ⟨kb, hkbe⟩ : ∃ k, kindM S.m b = k := ⟨_, rfl⟩
  rw [hkae] at HKA hR hka
  rw [hkbe] at HKB hR hkb
  obtain ⟨R, hRe⟩ : ∃ R, mayS S.m a b = R := ⟨_, rfl⟩
  rw [hRe] at hR ⊢
  obtain ⟨wi, hwi⟩ : ∃ x, withinF a b = x := ⟨_, rfl⟩
  rw [hwi] at HWI hR
  obtain ⟨LB, hLB⟩ : ∃ x, belowM S.m b = x := ⟨_, rfl⟩
  rw [hLB] at HBB hR
  obtain ⟨LA, hLA⟩ : ∃ x, belowM S.m a = x := ⟨_, rfl⟩
  rw [hLA] at HBA hR HMEM hcnt
  have HR := hide hR
  have HL := hide (And.intro ha hb)
  clear hkae hkbe hRe hwi hLB hLA hR h hS hm ha hb
  go_enter Tryz.func66, Tryz.ntmps66
  go_wp2_with fail
  refine HKA.out.mono ?_
  rintro e w1 ⟨rfl, hb1⟩
  have HB1 := hide hb1
  clear hb1 HKA
  by_cases c1 : b = [47]
  · have ht : ((bs b).toList == [47]) = true := by rw [bs_toList, c1]; rfl
    have HE := hide (HR.out.trans (if_pos (.inl c1)))
    clear c1
    by_cases ka2 : ka = 2
    · subst ka2
      go_wp2
      go_ret
      rw [HE.out]
      exact ⟨rfl, HB1.out⟩
    · have hk : ((ka : Int) == 2) = false := by simp; omega
      go_wp2
      go_ret
      rw [HE.out]
      exact ⟨rfl, HB1.out⟩
  have ht : ((bs b).toList == [47]) = false := by rw [bs_toList]; simpa using c1
  obtain ⟨dk, hdk⟩ : ∃ x, ((ka : Int) == 2) = x := ⟨_, rfl⟩
  have hdk' : dk = true ↔ ka = 2 := by rw [← hdk]; simp; omega
  cases wi with
  | true =>
    have HE := hide (HR.out.trans (if_pos (.inr rfl)))
    clear c1 hdk'
    go_wp2_with fail
    refine (HWI.out w1 HB1.out).mono ?_
    rintro e w2 ⟨rfl, hb2⟩
    have HB2 := hide (below_up HB1.out hb2 HB1.out.size)
    clear hb2
    go_wp2
    go_ret
    rw [HE.out]
    exact ⟨rfl, HB2.out⟩
  | false =>
    have HR1 := hide (HR.out.trans (if_neg (by simpa using c1)))
    clear c1 HR
    go_wp2_with fail
    refine (HWI.out w1 HB1.out).mono ?_
    rintro e w2 ⟨rfl, hb2⟩
    have HB2 := hide (below_up HB1.out hb2 HB1.out.size)
    clear hb2 HWI
    go_wp2_with fail
    refine (HKB.out w2 HB2.out).mono ?_
    rintro e w3 ⟨rfl, hb3⟩
    have HB3 := hide (below_up HB2.out hb3 HB2.out.size)
    clear hb3
    by_cases c2 : kb = 2 ∧ ka ≠ 2
    · have HE := hide (HR1.out.trans (if_pos c2))
      obtain ⟨rfl, hk⟩ := c2
      obtain rfl : dk = false := by
        cases dk with
        | false => rfl
        | true => exact absurd (hdk'.1 rfl) hk
      clear hdk' hk
      go_wp2
      go_ret
      rw [HE.out]
      exact ⟨rfl, HB3.out⟩
    have HR2 := hide (HR1.out.trans (if_neg c2))
    by_cases c3 : kb = 1 ∧ ka = 2
    · have HE := hide (HR2.out.trans (if_pos c3))
      obtain ⟨rfl, hk⟩ := c3
      obtain rfl : dk = true := hdk'.2 hk
      clear hdk' c2 hk
      go_wp2_with fail
      refine (HKB.out w3 HB3.out).mono ?_
      rintro e w4 ⟨rfl, hb4⟩
      have HB4 := hide (below_up HB3.out hb4 HB3.out.size)
      clear hb4
      go_wp2
      go_ret
      rw [HE.out]
      exact ⟨rfl, HB4.out⟩
    have HR3 := hide (HR2.out.trans (if_neg c3))
    have hcs : (kb = 0) ∨ (kb = 1 ∧ dk = false) ∨ (kb = 2 ∧ dk = true) := by
      have h3 : kb = 0 ∨ kb = 1 ∨ kb = 2 := by omega
      rcases h3 with h | h | h
      · exact .inl h
      · refine .inr (.inl ⟨h, ?_⟩)
        cases hd : dk with
        | false => rfl
        | true => exact absurd ⟨h, hdk'.1 hd⟩ c3
      · refine .inr (.inr ⟨h, ?_⟩)
        cases hd : dk with
        | true => rfl
        | false => exact absurd ⟨h, fun e => by have := hdk'.2 e; rw [hd] at this; cases this⟩ c2
    clear hdk'
    rcases hcs with rfl | ⟨rfl, rfl⟩ | ⟨rfl, rfl⟩
    · -- kind 0
      have HR4 := hide (HR3.out.trans (if_neg (by omega)))
      clear HR1 HR2 HR3 c2 c3
      go_wp2_with fail
      refine (HKB.out w3 HB3.out).mono ?_
      rintro e w4 ⟨rfl, hb4⟩
      have HB4 := hide (below_up HB3.out hb4 HB3.out.size)
      clear hb4
      go_wp2_with fail
      refine (HKB.out w4 HB4.out).mono ?_
      rintro e w5 ⟨rfl, hb4⟩
      have HB5 := hide (below_up HB4.out hb4 HB4.out.size)
      clear hb4
      go_wp2_with fail
      refine (HBA.out w5 HB5.out).mono ?_
      rintro e w6 ⟨⟨v, rfl, ho⟩, hb6⟩
      obtain ⟨A, c, rfl, hc, hsr, _⟩ := ho.slice
      rw [List.length_map] at hc ⊢
      have HSR := hide hsr
      have HB6 := hide (below_up HB5.out hb6 HB5.out.size)
      clear ho hb6 hsr HB5 HBA
      obtain ⟨n, hn⟩ : ∃ n, LA.length = n := ⟨_, rfl⟩
      have HN := hide hn
      rw [hn] at hc hcnt ⊢
      clear hn
      have hn1 : (n : Int) ≤ 10000 := by omega
      go_wp2
      go_loopw [9, 10, 11, 57] (fun _ _ _ v57 wr => ∃ k : Nat, v57 = .int .i64 k ∧ k ≤ n ∧ Hid (∀ x ∈ LA.take k, (absF [47] (tgt a b x)).2 = 0) ∧ Hid (Below w.heap.size w wr) ∧ Hid (Below w6.heap.size w6 wr)) (fun _ _ _ v57 _ => n - (intOf v57).toNat)
      case atStart => exact ⟨0, rfl, by omega, (fun x hx => by simp at hx), HB6.out, Below.refl _ _⟩
      case round =>
        obtain ⟨k, rfl, hk, HOK, HB, HBW⟩ := hrel
        by_cases hlt : k < n
        · obtain ⟨x, hx⟩ : ∃ x, LA[k]? = some x := ⟨LA[k]'(by have := HN.out; omega), List.getElem?_eq_getElem _⟩
          obtain ⟨gs, o, rfl, hg, hcx⟩ := (HSR.out.below HBW.out) k (bs x) (by rw [List.getElem?_map, hx]; rfl)
          obtain ⟨hx1, hx2⟩ := HMEM.out x (List.mem_of_getElem? hx)
          have hab := HL.out
          have zx : (bs x).size = x.length := bs_size x
          have za : (bs a).size = a.length := bs_size a
          have HEX := hide (show (bs x).extract a.length (bs x).size = bs (x.drop a.length) by rw [ext_bs, bs_size, List.take_of_length_le (by rw [List.length_drop]; omega)])
          have HAP := hide (bs_app b (x.drop a.length))
          have htl : (tgt a b x).length ≤ 400 := by unfold tgt; rw [List.length_append, List.length_drop]; omega
          have HABX := hide (HAB.out (tgt a b x) (by omega) wr HB.out)
          have zd : (bs (x.drop a.length)).size = x.length - a.length := by rw [bs_size, List.length_drop]
          have zb : (bs b).size = b.length := bs_size b
          have htk : LA.take (k + 1) = LA.take k ++ [x] := by rw [List.take_add_one, hx]; rfl
          have HTK := hide htk
          have HX := hide (List.mem_of_getElem? hx)
          have b1 : (k : Int) < (n : Int) := by omega
          unfold AbsPost at HABX
          obtain ⟨r, hr⟩ : ∃ r, absF [47] (tgt a b x) = r := ⟨_, rfl⟩
          obtain ⟨q0, e⟩ := r
          have HRR := hide hr
          rw [hr] at HABX
          rw [show bs (tgt a b x) = bs b ++ bs (x.drop a.length) from HAP.out.symm, show bs [47] = (⟨#[47]⟩ : ByteArray) from rfl] at HABX
          obtain ⟨al, hal⟩ : ∃ n, a.length = n := ⟨_, rfl⟩
          obtain ⟨xl, hxl⟩ : ∃ n, x.length = n := ⟨_, rfl⟩
          obtain ⟨bl, hbl⟩ : ∃ n, b.length = n := ⟨_, rfl⟩
          rw [hal] at zd hx1 za HEX hab
          rw [hxl] at zd hx1 hx2 zx
          rw [hbl] at zb hab
          rw [hal] at HABX
          rw [zx] at HEX
          rw [← HEX.out] at HABX zd
          obtain ⟨h200a, h200b⟩ := hab
          clear hx htk hr hal hxl hbl htl
          by_cases e0 : e = 0
          · subst e0
            have HN2 := hide (show ∀ y ∈ LA.take (k + 1), (absF [47] (tgt a b y)).2 = 0 from fun y hy => by
              rw [HTK.out] at hy
              rcases List.mem_append.1 hy with hy | hy
              · exact HOK.out y hy
              · rw [List.mem_singleton.1 hy, HRR.out])
            go_wp2_with fail
            refine HABX.out.mono ?_
            rintro e w7 ⟨rfl, hb7⟩
            have HB7 := hide (below_up HB.out hb7 HB.out.size)
            have HBW7 := hide (below_up HBW.out hb7 HBW.out.size)
            clear hb7
            go_wp2
            go_roundw
            case rel => exact ⟨k + 1, by go_num, by omega, HN2.out, HB7.out, HBW7.out⟩
            case measure => simp [intOf]; omega
          · obtain ⟨t1, t2⟩ := ne0 e0
            have HE := hide (HR4.out.trans (if_pos ⟨x, HX.out, by rw [HRR.out]; exact e0⟩))
            go_wp2_with fail
            refine HABX.out.mono ?_
            rintro e w7 ⟨rfl, hb7⟩
            have HB7 := hide (below_up HB.out hb7 HB.out.size)
            clear hb7
            go_wp2
            go_ret
            rw [HE.out]
            exact ⟨rfl, HB7.out⟩
        · obtain rfl : k = n := by omega
          have HE := hide (HR4.out.trans (if_neg (by
            rintro ⟨x, hx, hne⟩
            rw [← List.take_of_length_le (i := k) (l := LA) (by have := HN.out; omega)] at hx
            exact hne (HOK.out x hx))))
          go_wp2
          go_ret
          rw [HE.out]
          exact ⟨rfl, HB.out⟩
    · -- kind 1
      have HR4 := hide (HR3.out.trans (if_neg (by omega)))
      clear HR1 HR2 HR3 c2 c3
      go_wp2_with fail
      refine (HKB.out w3 HB3.out).mono ?_
      rintro e w4 ⟨rfl, hb4⟩
      have HB4 := hide (below_up HB3.out hb4 HB3.out.size)
      clear hb4
      go_wp2_with fail
      refine (HKB.out w4 HB4.out).mono ?_
      rintro e w5 ⟨rfl, hb4⟩
      have HB5 := hide (below_up HB4.out hb4 HB4.out.size)
      clear hb4
      go_wp2_with fail
      refine (HBA.out w5 HB5.out).mono ?_
      rintro e w6 ⟨⟨v, rfl, ho⟩, hb6⟩
      obtain ⟨A, c, rfl, hc, hsr, _⟩ := ho.slice
      rw [List.length_map] at hc ⊢
      have HSR := hide hsr
      have HB6 := hide (below_up HB5.out hb6 HB5.out.size)
      clear ho hb6 hsr HB5 HBA
      obtain ⟨n, hn⟩ : ∃ n, LA.length = n := ⟨_, rfl⟩
      have HN := hide hn
      rw [hn] at hc hcnt ⊢
      clear hn
      have hn1 : (n : Int) ≤ 10000 := by omega
      go_wp2
      go_loopw [9, 10, 11, 57] (fun _ _ _ v57 wr => ∃ k : Nat, v57 = .int .i64 k ∧ k ≤ n ∧ Hid (∀ x ∈ LA.take k, (absF [47] (tgt a b x)).2 = 0) ∧ Hid (Below w.heap.size w wr) ∧ Hid (Below w6.heap.size w6 wr)) (fun _ _ _ v57 _ => n - (intOf v57).toNat)
      case atStart => exact ⟨0, rfl, by omega, (fun x hx => by simp at hx), HB6.out, Below.refl _ _⟩
      case round =>
        obtain ⟨k, rfl, hk, HOK, HB, HBW⟩ := hrel
        by_cases hlt : k < n
        · obtain ⟨x, hx⟩ : ∃ x, LA[k]? = some x := ⟨LA[k]'(by have := HN.out; omega), List.getElem?_eq_getElem _⟩
          obtain ⟨gs, o, rfl, hg, hcx⟩ := (HSR.out.below HBW.out) k (bs x) (by rw [List.getElem?_map, hx]; rfl)
          obtain ⟨hx1, hx2⟩ := HMEM.out x (List.mem_of_getElem? hx)
          have hab := HL.out
          have zx : (bs x).size = x.length := bs_size x
          have za : (bs a).size = a.length := bs_size a
          have HEX := hide (show (bs x).extract a.length (bs x).size = bs (x.drop a.length) by rw [ext_bs, bs_size, List.take_of_length_le (by rw [List.length_drop]; omega)])
          have HAP := hide (bs_app b (x.drop a.length))
          have htl : (tgt a b x).length ≤ 400 := by unfold tgt; rw [List.length_append, List.length_drop]; omega
          have HABX := hide (HAB.out (tgt a b x) (by omega) wr HB.out)
          have zd : (bs (x.drop a.length)).size = x.length - a.length := by rw [bs_size, List.length_drop]
          have zb : (bs b).size = b.length := bs_size b
          have htk : LA.take (k + 1) = LA.take k ++ [x] := by rw [List.take_add_one, hx]; rfl
          have HTK := hide htk
          have HX := hide (List.mem_of_getElem? hx)
          have b1 : (k : Int) < (n : Int) := by omega
          unfold AbsPost at HABX
          obtain ⟨r, hr⟩ : ∃ r, absF [47] (tgt a b x) = r := ⟨_, rfl⟩
          obtain ⟨q0, e⟩ := r
          have HRR := hide hr
          rw [hr] at HABX
          rw [show bs (tgt a b x) = bs b ++ bs (x.drop a.length) from HAP.out.symm, show bs [47] = (⟨#[47]⟩ : ByteArray) from rfl] at HABX
          obtain ⟨al, hal⟩ : ∃ n, a.length = n := ⟨_, rfl⟩
          obtain ⟨xl, hxl⟩ : ∃ n, x.length = n := ⟨_, rfl⟩
          obtain ⟨bl, hbl⟩ : ∃ n, b.length = n := ⟨_, rfl⟩
          rw [hal] at zd hx1 za HEX hab
          rw [hxl] at zd hx1 hx2 zx
          rw [hbl] at zb hab
          rw [hal] at HABX
          rw [zx] at HEX
          rw [← HEX.out] at HABX zd
          obtain ⟨h200a, h200b⟩ := hab
          clear hx htk hr hal hxl hbl htl
          by_cases e0 : e = 0
          · subst e0
            have HN2 := hide (show ∀ y ∈ LA.take (k + 1), (absF [47] (tgt a b y)).2 = 0 from fun y hy => by
              rw [HTK.out] at hy
              rcases List.mem_append.1 hy with hy | hy
              · exact HOK.out y hy
              · rw [List.mem_singleton.1 hy, HRR.out])
            go_wp2_with fail
            refine HABX.out.mono ?_
            rintro e w7 ⟨rfl, hb7⟩
            have HB7 := hide (below_up HB.out hb7 HB.out.size)
            have HBW7 := hide (below_up HBW.out hb7 HBW.out.size)
            clear hb7
            go_wp2
            go_roundw
            case rel => exact ⟨k + 1, by go_num, by omega, HN2.out, HB7.out, HBW7.out⟩
            case measure => simp [intOf]; omega
          · obtain ⟨t1, t2⟩ := ne0 e0
            have HE := hide (HR4.out.trans (if_pos ⟨x, HX.out, by rw [HRR.out]; exact e0⟩))
            go_wp2_with fail
            refine HABX.out.mono ?_
            rintro e w7 ⟨rfl, hb7⟩
            have HB7 := hide (below_up HB.out hb7 HB.out.size)
            clear hb7
            go_wp2
            go_ret
            rw [HE.out]
            exact ⟨rfl, HB7.out⟩
        · obtain rfl : k = n := by omega
          have HE := hide (HR4.out.trans (if_neg (by
            rintro ⟨x, hx, hne⟩
            rw [← List.take_of_length_le (i := k) (l := LA) (by have := HN.out; omega)] at hx
            exact hne (HOK.out x hx))))
          go_wp2
          go_ret
          rw [HE.out]
          exact ⟨rfl, HB.out⟩
    · -- kind 2
      clear HR1 HR2 c2 c3
      go_wp2_with fail
      refine (HKB.out w3 HB3.out).mono ?_
      rintro e w4 ⟨rfl, hb4⟩
      have HB4 := hide (below_up HB3.out hb4 HB3.out.size)
      clear hb4
      go_wp2_with fail
      refine (HKB.out w4 HB4.out).mono ?_
      rintro e w4b ⟨rfl, hb4⟩
      have HB4b := hide (below_up HB4.out hb4 HB4.out.size)
      clear hb4
      go_wp2_with fail
      refine (HBB.out w4b HB4b.out).mono ?_
      rintro e w5 ⟨⟨v, rfl, ho⟩, hb5⟩
      obtain ⟨A5, c5, rfl, _, _, _⟩ := ho.slice
      rw [List.length_map]
      have HB5 := hide (below_up HB4b.out hb5 HB4b.out.size)
      clear ho hb5
      obtain ⟨m, hm⟩ : ∃ m, LB.length = m := ⟨_, rfl⟩
      have hm0 : LB ≠ [] ↔ m ≠ 0 := by rw [← hm, Ne, Ne, List.length_eq_zero_iff]
      rw [hm]
      by_cases m0 : m = 0
      case neg =>
        have HE := hide (HR3.out.trans (if_pos ⟨trivial, hm0.2 m0⟩))
        have hmi : (0 : Int) < (m : Int) := by omega
        clear hm hm0 m0
        go_wp2
        go_ret
        rw [HE.out]
        exact ⟨rfl, HB5.out⟩
      have HR4 := hide (HR3.out.trans (if_neg (fun h => hm0.1 h.2 m0)))
      subst m0
      clear hm hm0 HR3
      go_wp2_with fail
      refine (HBA.out w5 HB5.out).mono ?_
      rintro e w6 ⟨⟨v, rfl, ho⟩, hb6⟩
      obtain ⟨A, c, rfl, hc, hsr, _⟩ := ho.slice
      rw [List.length_map] at hc ⊢
      have HSR := hide hsr
      have HB6 := hide (below_up HB5.out hb6 HB5.out.size)
      clear ho hb6 hsr HB5 HBA
      obtain ⟨n, hn⟩ : ∃ n, LA.length = n := ⟨_, rfl⟩
      have HN := hide hn
      rw [hn] at hc hcnt ⊢
      clear hn
      have hn1 : (n : Int) ≤ 10000 := by omega
      go_wp2
      go_loopw [9, 10, 11, 57] (fun _ _ _ v57 wr => ∃ k : Nat, v57 = .int .i64 k ∧ k ≤ n ∧ Hid (∀ x ∈ LA.take k, (absF [47] (tgt a b x)).2 = 0) ∧ Hid (Below w.heap.size w wr) ∧ Hid (Below w6.heap.size w6 wr)) (fun _ _ _ v57 _ => n - (intOf v57).toNat)
      case atStart => exact ⟨0, rfl, by omega, (fun x hx => by simp at hx), HB6.out, Below.refl _ _⟩
      case round =>
        obtain ⟨k, rfl, hk, HOK, HB, HBW⟩ := hrel
        by_cases hlt : k < n
        · obtain ⟨x, hx⟩ : ∃ x, LA[k]? = some x := ⟨LA[k]'(by have := HN.out; omega), List.getElem?_eq_getElem _⟩
          obtain ⟨gs, o, rfl, hg, hcx⟩ := (HSR.out.below HBW.out) k (bs x) (by rw [List.getElem?_map, hx]; rfl)
          obtain ⟨hx1, hx2⟩ := HMEM.out x (List.mem_of_getElem? hx)
          have hab := HL.out
          have zx : (bs x).size = x.length := bs_size x
          have za : (bs a).size = a.length := bs_size a
          have HEX := hide (show (bs x).extract a.length (bs x).size = bs (x.drop a.length) by rw [ext_bs, bs_size, List.take_of_length_le (by rw [List.length_drop]; omega)])
          have HAP := hide (bs_app b (x.drop a.length))
          have htl : (tgt a b x).length ≤ 400 := by unfold tgt; rw [List.length_append, List.length_drop]; omega
          have HABX := hide (HAB.out (tgt a b x) (by omega) wr HB.out)
          have zd : (bs (x.drop a.length)).size = x.length - a.length := by rw [bs_size, List.length_drop]
          have zb : (bs b).size = b.length := bs_size b
          have htk : LA.take (k + 1) = LA.take k ++ [x] := by rw [List.take_add_one, hx]; rfl
          have HTK := hide htk
          have HX := hide (List.mem_of_getElem? hx)
          have b1 : (k : Int) < (n : Int) := by omega
          unfold AbsPost at HABX
          obtain ⟨r, hr⟩ : ∃ r, absF [47] (tgt a b x) = r := ⟨_, rfl⟩
          obtain ⟨q0, e⟩ := r
          have HRR := hide hr
          rw [hr] at HABX
          rw [show bs (tgt a b x) = bs b ++ bs (x.drop a.length) from HAP.out.symm, show bs [47] = (⟨#[47]⟩ : ByteArray) from rfl] at HABX
          obtain ⟨al, hal⟩ : ∃ n, a.length = n := ⟨_, rfl⟩
          obtain ⟨xl, hxl⟩ : ∃ n, x.length = n := ⟨_, rfl⟩
          obtain ⟨bl, hbl⟩ : ∃ n, b.length = n := ⟨_, rfl⟩
          rw [hal] at zd hx1 za HEX hab
          rw [hxl] at zd hx1 hx2 zx
          rw [hbl] at zb hab
          rw [hal] at HABX
          rw [zx] at HEX
          rw [← HEX.out] at HABX zd
          obtain ⟨h200a, h200b⟩ := hab
          clear hx htk hr hal hxl hbl htl
          by_cases e0 : e = 0
          · subst e0
            have HN2 := hide (show ∀ y ∈ LA.take (k + 1), (absF [47] (tgt a b y)).2 = 0 from fun y hy => by
              rw [HTK.out] at hy
              rcases List.mem_append.1 hy with hy | hy
              · exact HOK.out y hy
              · rw [List.mem_singleton.1 hy, HRR.out])
            go_wp2_with fail
            refine HABX.out.mono ?_
            rintro e w7 ⟨rfl, hb7⟩
            have HB7 := hide (below_up HB.out hb7 HB.out.size)
            have HBW7 := hide (below_up HBW.out hb7 HBW.out.size)
            clear hb7
            go_wp2
            go_roundw
            case rel => exact ⟨k + 1, by go_num, by omega, HN2.out, HB7.out, HBW7.out⟩
            case measure => simp [intOf]; omega
          · obtain ⟨t1, t2⟩ := ne0 e0
            have HE := hide (HR4.out.trans (if_pos ⟨x, HX.out, by rw [HRR.out]; exact e0⟩))
            go_wp2_with fail
            refine HABX.out.mono ?_
            rintro e w7 ⟨rfl, hb7⟩
            have HB7 := hide (below_up HB.out hb7 HB.out.size)
            clear hb7
            go_wp2
            go_ret
            rw [HE.out]
            exact ⟨rfl, HB7.out⟩
        · obtain rfl : k = n := by omega
          have HE := hide (HR4.out.trans (if_neg (by
            rintro ⟨x, hx, hne⟩
            rw [← List.take_of_length_le (i := k) (l := LA) (by have := HN.out; omega)] at hx
            exact hne (HOK.out x hx))))
          go_wp2
          go_ret
          rw [HE.out]
          exact ⟨rfl, HB.out⟩
end Go.Proofs.YtkajhdbcnmafcaaGreatDoor
