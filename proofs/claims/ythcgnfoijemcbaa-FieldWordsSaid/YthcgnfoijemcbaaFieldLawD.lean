/- The law FieldWords: the walk. -/
import Derived.Test.YthcgnfoijemcbaaFieldLawB
import Derived.Test.YthcgnfoijemcbaaFieldMathC
import Derived.Test.YthcgnfoijemcbaaStrsWalk
import Derived.Laws.Bits128
namespace Go.Proofs.Ythcgnfoijemcbaa
open Go.RowKit Go.Deep
set_option linter.unusedSimpArgs false
set_option linter.unusedVariables false
attribute [local go_sem] bt_eq

/-- (the lines of i64_and127, turned to 3) -/
theorem and3 (n : Int) : bits .and .i64 n 3 = n % 4 := by
  have h3 : (BitVec.ofInt 64 3).toNat = 2 ^ 2 - 1 := by decide
  have key : (BitVec.ofInt 64 n &&& BitVec.ofInt 64 3).toNat = (n % ((2 ^ 64 : Nat) : Int)).toNat % 2 ^ 2 := by
    rw [BitVec.toNat_and, BitVec.toNat_ofInt, h3, Nat.and_two_pow_sub_one_eq_mod]
  show IntKind.i64.wrap ((BitVec.ofInt 64 n &&& BitVec.ofInt 64 3).toNat : Nat) = n % 4
  rw [key, IntKind.wrap_i64]
  omega
/-- the blanks that stand ahead of each word -/
def sepW (m : Int) : List UInt8 := if m = 0 then [32] else if m = 1 then [9] else if m = 2 then [10] else [32, 9, 32]
def joinW (sep : List UInt8) (L : List ByteArray) : List UInt8 := L.flatMap fun x => sep ++ x.data.toList
theorem joinW_succ {sep : List UInt8} {L : List ByteArray} {k : Nat} {x : ByteArray} (h : L[k]? = some x) : joinW sep (L.take (k + 1)) = joinW sep (L.take k) ++ sep ++ x.data.toList := by
  unfold joinW
  rw [List.take_add_one, h, List.flatMap_append]
  simp
/-- a word: no blank in it, not empty, not long -/
def goodW (x : ByteArray) : Prop := x ≠ ⟨#[]⟩ ∧ x.size ≤ 60 ∧ ∀ c ∈ x.data.toList, isB c = false
theorem sepW_len (m : Int) : (sepW m).length ≤ 3 := by
  unfold sepW
  split
  · simp
  · split
    · simp
    · split <;> simp
theorem joinW_le (m : Int) : ∀ (L : List ByteArray), (∀ x ∈ L, goodW x) → (joinW (sepW m) L).length ≤ L.length * 63
  | [], _ => by simp [joinW]
  | x :: L, h => by
    have h1 := joinW_le m L (fun y hy => h y (by simp [hy]))
    have h2 := (h x (by simp)).2.1
    have h3 := sepW_len m
    rw [show joinW (sepW m) (x :: L) = sepW m ++ x.data.toList ++ joinW (sepW m) L by simp [joinW], List.length_append, List.length_append, List.length_cons, Nat.add_mul, ← Lib.size_eq]
    omega
/-- the texts of the fields are the words -/
theorem words_want (m : Int) (L : List ByteArray) (tx : List UInt8) (h : joinW (sepW m) L = tx) (hg : ∀ x ∈ L, goodW x) : (splitS [pT tx]).map (fun r => bsF (textS r)) = L ∧ ∀ r ∈ splitS [pT tx], r.length = 1 := by
  obtain ⟨b, sep, e, hb, hs⟩ : ∃ b sep, sepW m = b :: sep ∧ isB b = true ∧ ∀ c ∈ sep, isB c = true := by
    unfold sepW
    split
    · exact ⟨32, [], rfl, by decide, by simp⟩
    · split
      · exact ⟨9, [], rfl, by decide, by simp⟩
      · split
        · exact ⟨10, [], rfl, by decide, by simp⟩
        · exact ⟨32, [9, 32], rfl, by decide, by decide⟩
  have h1 := split_words b sep hb hs (L.map fun x => x.data.toList) (by
    intro x hx
    obtain ⟨y, hy, rfl⟩ := List.mem_map.1 hx
    obtain ⟨h1, h2, h3⟩ := hg y hy
    exact ⟨fun e => h1 (ByteArray.ext (Array.ext' e)), h3⟩)
  rw [show ((L.map fun x => x.data.toList).flatMap fun x => (b :: sep) ++ x) = tx from by rw [← h, e]; unfold joinW; rw [List.flatMap_map]] at h1
  rw [h1, List.map_map, List.map_map]
  refine ⟨?_, fun r hr => ?_⟩
  · conv => rhs; rw [← List.map_id L]
    refine List.map_congr_left fun x _ => ?_
    simp [textS, pT, bsF]
  · obtain ⟨x, _, rfl⟩ := List.mem_map.1 hr
    rfl
theorem bsF_size (l : List UInt8) : (bsF l).size = l.length := by rw [Lib.size_eq]; simp [bsF]
set_option maxRecDepth 100000 in
set_option maxHeartbeats 4000000 in
theorem law_fieldWords (A : Option Addr) (c : Nat) (L : List ByteArray) (bl : Int) (qd : Bool) (hl : L.length ≤ maxLen) (hs : ∀ (k : Nat) (x : ByteArray), L[k]? = some x → x.size ≤ maxLen) (_hb : (Lit.int .i64 bl).wf = true) (w : World) (h : SR w A L) :
    Calls Try.prog 3 #[.slice A L.length c, .int .i64 bl, .bool qd] w fun e w' => e = .returned (.bool true) ∧ Below w.heap.size w w' := by
  have HR := hide h
  have HS := hide hs
  obtain ⟨n, hn⟩ : ∃ n, L.length = n := ⟨_, rfl⟩
  have HN := hide hn
  rw [hn] at hl ⊢
  unfold maxLen at hl
  clear h hs hn
  go_enter Try.func3, Try.ntmps3
  go_wp2_with fail
  refine (alive12_any w).mono ?_
  rintro e w1 ⟨rfl, hbe1⟩
  have HB1 := hide hbe1
  clear hbe1
  by_cases h30 : 30 < n
  · have hi : (30 : Int) < (n : Int) := by omega
    go_wp2
    go_ret
    exact ⟨rfl, HB1.out⟩
  have hi : ¬ (30 : Int) < (n : Int) := by omega
  have hni : (n : Int) ≤ 30 := by omega
  have HR1 := hide (HR.out.below HB1.out)
  go_wp2
  go_loopw [8, 9, 10, 11] (fun v8 v9 v10 _ wr => ∃ k : Nat, v10 = .int .i64 k ∧ k ≤ n ∧ v8 = .string (bsF (joinW (sepW (bl % 4)) (L.take k))) ∧ Hid (OwnS wr w1.heap.size v9 (L.take k)) ∧ Hid (Below w1.heap.size w1 wr) ∧ Hid (∀ x ∈ L.take k, goodW x)) (fun _ _ v10 _ _ => n - (intOf v10).toNat)
  case atStart => exact ⟨0, rfl, by omega, rfl, hide (OwnS.nil _ _), hide (Below.refl _ _), hide (by simp)⟩
  case round =>
    obtain ⟨wo, hwo⟩ : ∃ Z, Z = wr := ⟨_, rfl⟩
    subst hwo
    obtain ⟨k, rfl, hk, rfl, HOW, HBE, HGW⟩ := hrel
    by_cases hlt : k < n
    case neg =>
      obtain rfl : k = n := by omega
      have htk : L.take k = L := List.take_of_length_le (by have := HN.out; omega)
      rw [htk] at HOW HGW ⊢
      have HJL := hide (joinW_le (bl % 4) L HGW.out)
      obtain ⟨tx, htx⟩ : ∃ t, joinW (sepW (bl % 4)) L = t := ⟨_, rfl⟩
      rw [htx] at HJL ⊢
      have HTX := hide htx
      clear htk htx
      cases qd with
      | false =>
        have hrow : RG encPt 6 (wo.alloc (.cells #[.int .i64 1, .string (bsF tx), .string ⟨#[]⟩, .string ⟨#[]⟩, .slice none 0 0, .bool false] tyP)) (some ⟨wo.heap.size, 0, none⟩) [pT tx] := rg_new (enc := encPt) wo (pT tx) tyP
        have HSP := hide (split_any (some ⟨wo.heap.size, 0, none⟩) 1 [pT tx] _ hrow (by simp) (by intro p hp; simp at hp; subst hp; show (bsF tx).size ≤ 5000; have := HJL.out; rw [HN.out] at this; rw [bsF_size]; omega))
        have HBA := hide ((Below.refl wo.heap.size wo).alloc (Nat.le_refl _) (.cells #[.int .i64 1, .string (bsF tx), .string ⟨#[]⟩, .string ⟨#[]⟩, .slice none 0 0, .bool false] tyP))
        have HWB := hide (HB1.out.trans (HBE.out.mono HB1.out.size))
        obtain ⟨A9, c9, rfl, hc9, hsr9, _⟩ := HOW.out.slice
        have HSR := hide (hsr9.below HBA.out)
        have HSE := hide (words_want (bl % 4) L tx HTX.out HGW.out)
        have HXZ := hide (show ∀ x ∈ L, x.size ≤ 2000 from fun x hx => by have := (HGW.out x hx).2.1; omega)
        obtain ⟨R, hR⟩ : ∃ R, splitS [pT tx] = R := ⟨_, rfl⟩
        rw [hR] at HSP HSE
        rw [HN.out]
        clear hrow hsr9 hR hc9
        go_wp2_with fail
        refine HSP.out.mono ?_
        rintro e ws hp
        obtain ⟨out, A2, c2, rfl, ho, hrg, hrw, hb⟩ := hp
        have hol : out.length = k := by
          have h1 := congrArg List.length HSE.out.1
          rw [List.length_map, ← ho, List.length_map] at h1
          rw [h1]
          exact HN.out
        rw [hol]
        have HO := hide ho
        have HOL := hide hol
        have HRG := hide hrg
        have HRW := hide hrw
        have HSR2 := hide (HSR.out.below hb)
        have HBS := hide (HBA.out.trans (hb.mono HBA.out.size))
        have HB2 := hide (HWB.out.trans (HBS.out.mono HWB.out.size))
        clear ho hrg hrw hb hol
        go_wp2
        go_loopw [14] (fun v14 wr => ∃ j : Nat, v14 = .int .i64 j ∧ j ≤ k ∧ Hid (Below ws.heap.size ws wr)) (fun v14 _ => k - (intOf v14).toNat)
        case atStart => exact ⟨0, rfl, by omega, hide (Below.refl _ _)⟩
        case round =>
          obtain ⟨wp, hwp⟩ : ∃ Z, Z = wr := ⟨_, rfl⟩
          subst hwp
          obtain ⟨j, rfl, hj, HBF⟩ := hrel
          by_cases hjl : j < k
          case neg =>
            obtain rfl : j = k := by omega
            go_wp2
            go_ret
            exact ⟨by simp, HB2.out.trans (HBF.out.mono HB2.out.size)⟩
          obtain ⟨r, hr⟩ : ∃ r, out[j]? = some r := ⟨out[j]'(by have := HOL.out; omega), List.getElem?_eq_getElem _⟩
          obtain ⟨g, o, rfl, hg, hc⟩ := HRG.out.below HBF.out j r hr
          have hc0 : wp.cell? ⟨g, o + j, none⟩ = some (.slice r.A r.L.length r.c) := by have := hc 0 _ rfl; simpa using this
          have hmem : R[j]? = some r.L := by rw [← HO.out, List.getElem?_map, hr]; rfl
          have hxm : (L)[j]? = some (bsF (textS r.L)) := by rw [← HSE.out.1, List.getElem?_map, hmem]; rfl
          have hxz := HXZ.out _ (List.mem_of_getElem? hxm)
          have hl1 := HSE.out.2 _ (List.mem_of_getElem? hmem)
          obtain ⟨g9, o9, rfl, hg9, hc9⟩ := HSR2.out.below HBF.out j _ hxm
          obtain ⟨hr1, hr2, hr3⟩ := HRW.out r (List.mem_of_getElem? hr)
          have htl : (textS r.L).length ≤ 2000 := by rw [← bsF_size]; exact hxz
          have HTX9 := hide (fun (W : World) (hW : Below wp.heap.size wp W) => text_any r.A r.c r.L W ((hr1.below HBF.out).below hW) (by omega) (by omega))
          rw [hl1] at hc0 HTX9
          obtain ⟨x, hx⟩ : ∃ x, bsF (textS r.L) = x := ⟨_, rfl⟩
          rw [hx] at HTX9 hc9
          obtain ⟨rA, hrA⟩ : ∃ a, r.A = a := ⟨_, rfl⟩
          obtain ⟨rc, hrc⟩ : ∃ a, r.c = a := ⟨_, rfl⟩
          rw [hrA, hrc] at hc0 HTX9
          have b2 : (j : Int) < ((k : Nat) : Int) := by omega
          have HBB := hide (HB2.out.trans (HBF.out.mono HB2.out.size))
          clear hc hr hr1 hr2 hr3 hmem hxm hxz hl1 htl hx hrA hrc
          go_wp2_with fail
          go_region_held3 (fun w' => w'.cell? ⟨g, o + j, none⟩ = some (.slice rA 1 rc) ∧ w'.cell? ⟨g9, o9 + j, none⟩ = some (.string x))
            (first | exact ⟨hc0, hc9⟩ | exact ⟨u1, u2⟩)
            ((go_at_call 7; refine (HTX9.out _ (below_drewN (Below.refl _ _) _)).mono ?_; rintro e w5 ⟨rfl, hb5⟩; have u1 := (hb5.cell (p := ⟨g, o + j, none⟩) hg).trans hc0; have u2 := (hb5.cell (p := ⟨g9, o9 + j, none⟩) hg9).trans hc9; have HB5 := hide hb5; clear hb5))
          rename_i hHeld
          clear hHeld u1 u2
          have HBN := hide (HBF.out.trans (((Below.refl wp.heap.size wp).drew.trans (HB5.out.mono (Nat.le_refl _))).mono HBF.out.size))
          go_wp2
          exact ⟨⟨j + 1, by go_num, by omega, HBN⟩, by simp [intOf]; omega⟩
      | true =>
        have HAW := hide (show Below wo.heap.size wo (wo.alloc (.cells #[.string (bsF tx)] 9)) from (Below.refl wo.heap.size wo).alloc (Nat.le_refl _) _)
        have hsr9 : SR (wo.alloc (.cells #[.string (bsF tx)] 9)) (some ⟨wo.heap.size, 0, none⟩) [bsF tx] := sr_new wo (bsF tx)
        obtain ⟨wa, hwa⟩ : ∃ W, wo.alloc (.cells #[.string (bsF tx)] 9) = W := ⟨_, rfl⟩
        have hws : wo.heap.size + 1 = wa.heap.size := by rw [← hwa]; simp
        have HWA := hide hwa
        rw [hwa] at HAW hsr9
        have hrow : RG encPt 6 (wa.alloc (.cells #[.int .i64 2, .string (bsF tx), .string ⟨#[]⟩, .string ⟨#[]⟩, .slice none 0 0, .bool false] tyP)) (some ⟨wa.heap.size, 0, none⟩) [⟨2, bsF tx, ⟨#[]⟩, ⟨#[]⟩, none, 0, 0, false⟩] := rg_new (enc := encPt) wa ⟨2, bsF tx, ⟨#[]⟩, ⟨#[]⟩, none, 0, 0, false⟩ tyP
        have hjl : (bsF tx).size ≤ 2000 := by have := HJL.out; rw [HN.out] at this; rw [bsF_size]; omega
        have HSP := hide (split_any (some ⟨wa.heap.size, 0, none⟩) 1 [⟨2, bsF tx, ⟨#[]⟩, ⟨#[]⟩, none, 0, 0, false⟩] _ hrow (by simp) (by intro p hp; simp at hp; subst hp; show (bsF tx).size ≤ 5000; omega))
        have HBA := hide (HAW.out.trans (((Below.refl wa.heap.size wa).alloc (Nat.le_refl _) (.cells #[.int .i64 2, .string (bsF tx), .string ⟨#[]⟩, .string ⟨#[]⟩, .slice none 0 0, .bool false] tyP)).mono HAW.out.size))
        have HWB := hide (HB1.out.trans (HBE.out.mono HB1.out.size))
        have HSR := hide (hsr9.below ((Below.refl wa.heap.size wa).alloc (Nat.le_refl _) (.cells #[.int .i64 2, .string (bsF tx), .string ⟨#[]⟩, .string ⟨#[]⟩, .slice none 0 0, .bool false] tyP)))
        have HSE := hide (show (splitS [⟨2, bsF tx, ⟨#[]⟩, ⟨#[]⟩, none, 0, 0, false⟩]).map (fun r => bsF (textS r)) = [bsF tx] ∧ ∀ r ∈ splitS [⟨2, bsF tx, ⟨#[]⟩, ⟨#[]⟩, none, 0, 0, false⟩], r.length = 1 from by
          rw [split_quoted _ (by simp)]
          exact ⟨by simp [textS, bsF], by simp⟩)
        have HXZ := hide (show ∀ x ∈ [bsF tx], x.size ≤ 2000 from fun x hx => by rw [List.mem_singleton.1 hx]; exact hjl)
        obtain ⟨R, hR⟩ : ∃ R, splitS [⟨2, bsF tx, ⟨#[]⟩, ⟨#[]⟩, none, 0, 0, false⟩] = R := ⟨_, rfl⟩
        rw [hR] at HSP HSE
        clear hrow hsr9 hR hjl hwa
        go_wp2_with fail
        rw [HWA.out]
        refine HSP.out.mono ?_
        rintro e ws hp
        obtain ⟨out, A2, c2, rfl, ho, hrg, hrw, hb⟩ := hp
        have hol : out.length = 1 := by
          have h1 := congrArg List.length HSE.out.1
          rw [List.length_map, ← ho, List.length_map] at h1
          rw [h1]
          rfl
        rw [hol]
        have HO := hide ho
        have HOL := hide hol
        have HRG := hide hrg
        have HRW := hide hrw
        have HSR2 := hide (HSR.out.below hb)
        have HBS := hide (HBA.out.trans (hb.mono HBA.out.size))
        have HB2 := hide (HWB.out.trans (HBS.out.mono HWB.out.size))
        clear ho hrg hrw hb hol
        go_wp2
        go_loopw [14] (fun v14 wr => ∃ j : Nat, v14 = .int .i64 j ∧ j ≤ 1 ∧ Hid (Below ws.heap.size ws wr)) (fun v14 _ => 1 - (intOf v14).toNat)
        case atStart => exact ⟨0, rfl, by omega, hide (Below.refl _ _)⟩
        case round =>
          obtain ⟨wp, hwp⟩ : ∃ Z, Z = wr := ⟨_, rfl⟩
          subst hwp
          obtain ⟨j, rfl, hj, HBF⟩ := hrel
          by_cases hjl : j < 1
          case neg =>
            obtain rfl : j = 1 := by omega
            go_wp2
            go_ret
            exact ⟨by simp, HB2.out.trans (HBF.out.mono HB2.out.size)⟩
          obtain ⟨r, hr⟩ : ∃ r, out[j]? = some r := ⟨out[j]'(by have := HOL.out; omega), List.getElem?_eq_getElem _⟩
          obtain ⟨g, o, rfl, hg, hc⟩ := HRG.out.below HBF.out j r hr
          have hc0 : wp.cell? ⟨g, o + j, none⟩ = some (.slice r.A r.L.length r.c) := by have := hc 0 _ rfl; simpa using this
          have hmem : R[j]? = some r.L := by rw [← HO.out, List.getElem?_map, hr]; rfl
          have hxm : ([bsF tx])[j]? = some (bsF (textS r.L)) := by rw [← HSE.out.1, List.getElem?_map, hmem]; rfl
          have hxz := HXZ.out _ (List.mem_of_getElem? hxm)
          have hl1 := HSE.out.2 _ (List.mem_of_getElem? hmem)
          obtain ⟨g9, o9, hge, hg9, hc9⟩ := HSR2.out.below HBF.out j _ hxm
          injection hge with hge
          injection hge with hge1 hge2
          subst hge1
          subst hge2
          rw [Nat.zero_add] at hc9
          obtain ⟨hr1, hr2, hr3⟩ := HRW.out r (List.mem_of_getElem? hr)
          have htl : (textS r.L).length ≤ 2000 := by rw [← bsF_size]; exact hxz
          have HTX9 := hide (fun (W : World) (hW : Below wp.heap.size wp W) => text_any r.A r.c r.L W ((hr1.below HBF.out).below hW) (by omega) (by omega))
          rw [hl1] at hc0 HTX9
          obtain ⟨x, hx⟩ : ∃ x, bsF (textS r.L) = x := ⟨_, rfl⟩
          rw [hx] at HTX9 hc9
          obtain ⟨rA, hrA⟩ : ∃ a, r.A = a := ⟨_, rfl⟩
          obtain ⟨rc, hrc⟩ : ∃ a, r.c = a := ⟨_, rfl⟩
          rw [hrA, hrc] at hc0 HTX9
          have b2 : (j : Int) < ((1 : Nat) : Int) := by omega
          have HBB := hide (HB2.out.trans (HBF.out.mono HB2.out.size))
          clear hc hr hr1 hr2 hr3 hmem hxm hxz hl1 htl hx hrA hrc
          go_wp2_with fail
          go_region_held3 (fun w' => w'.cell? ⟨g, o + j, none⟩ = some (.slice rA 1 rc) ∧ w'.cell? ⟨wo.heap.size, j, none⟩ = some (.string x))
            (first | exact ⟨hc0, hc9⟩ | exact ⟨u1, u2⟩)
            ((go_at_call 7; refine (HTX9.out _ (below_drewN (Below.refl _ _) _)).mono ?_; rintro e w5 ⟨rfl, hb5⟩; have u1 := (hb5.cell (p := ⟨g, o + j, none⟩) hg).trans hc0; have u2 := (hb5.cell (p := ⟨wo.heap.size, j, none⟩) hg9).trans hc9; have HB5 := hide hb5; clear hb5))
          rename_i hHeld
          clear hHeld u1 u2
          have HBN := hide (HBF.out.trans (((Below.refl wp.heap.size wp).drew.trans (HB5.out.mono (Nat.le_refl _))).mono HBF.out.size))
          go_wp2
          exact ⟨⟨j + 1, by go_num, by omega, HBN⟩, by simp [intOf]; omega⟩
    obtain ⟨x, hx⟩ : ∃ x, L[k]? = some x := ⟨L[k]'(by have := HN.out; omega), List.getElem?_eq_getElem _⟩
    obtain ⟨g, o, rfl, hg, hc⟩ := HR1.out.below HBE.out k x hx
    have b1 : (k : Int) < (n : Int) := by omega
    have hxs := HS.out k x hx
    unfold maxLen at hxs
    have HX := hide hx
    clear hx
    by_cases hx0 : x = ⟨#[]⟩
    · subst hx0
      go_wp2
      go_ret
      exact ⟨rfl, HB1.out.trans (HBE.out.mono HB1.out.size)⟩
    have hx1 : ¬ x.toList = [] := ne_toList hx0
    by_cases hx6 : 60 < x.size
    · have hi6 : (60 : Int) < (x.size : Int) := by omega
      go_wp2
      go_ret
      exact ⟨rfl, HB1.out.trans (HBE.out.mono HB1.out.size)⟩
    have hi6 : ¬ (60 : Int) < (x.size : Int) := by omega
    have hx2 : x.toList.isEmpty = false := Bool.eq_false_iff.2 fun e => hx1 (List.isEmpty_iff.1 e)
    go_wp2
    go_loopw [11] (fun v11 wx => ∃ j : Nat, v11 = .int .i64 j ∧ j ≤ x.size ∧ Hid (∀ i, i < j → ¬ bt x i = 32 ∧ ¬ bt x i = 9 ∧ ¬ bt x i = 10) ∧ wx = wo) (fun v11 _ => x.size - (intOf v11).toNat)
    case atStart => exact ⟨0, rfl, by omega, hide (fun i hi => by omega), rfl⟩
    case round =>
      obtain ⟨j, rfl, hj, HNB, rfl⟩ := hrel
      by_cases hjl : j < x.size
      case neg =>
        have hand := and3 bl
        have hgw := hide (show goodW x from ⟨hx0, by omega, fun c hc => by
          obtain ⟨i, hi, rfl⟩ := List.getElem_of_mem hc
          have hi2 : i < x.size := by rw [Lib.size_eq]; exact hi
          have hb := HNB.out i (by omega)
          have e : bt x i = (x.data.toList[i]).toNat := by rw [← bt_eq x i hi2]; rfl
          rw [e] at hb
          obtain ⟨n1, n2, n3⟩ := hb
          unfold isB
          simp only [Bool.or_eq_false_iff, beq_eq_false_iff_ne]
          exact ⟨⟨fun h => n1 (by rw [h]; rfl), fun h => n2 (by rw [h]; rfl)⟩, fun h => n3 (by rw [h]; rfl)⟩⟩)
        have hm0 : (0 : Int) ≤ bl % 4 := by omega
        have hm4 : bl % 4 < 4 := by omega
        have hcl : ∀ m : Int, 0 ≤ m → m < 4 → (wr.alloc (.cells #[.string ⟨#[32]⟩, .string ⟨#[9]⟩, .string ⟨#[10]⟩, .string ⟨#[32, 9, 32]⟩] 9)).cell? ⟨wr.heap.size, m.toNat, none⟩ = some (.string (bsF (sepW m))) := by
          intro m h0 h4
          have hm : m = 0 ∨ m = 1 ∨ m = 2 ∨ m = 3 := by omega
          rcases hm with rfl | rfl | rfl | rfl <;> exact cellOfF (heapNew wr _) rfl
        have hcm := hcl (bl % 4) hm0 hm4
        have hsw : (bsF (joinW (sepW (bl % 4)) (L.take k))).size ≤ 2000 := by
          have h1 := joinW_le (bl % 4) (L.take k) HGW.out
          rw [List.length_take] at h1
          rw [bsF_size]
          omega
        go_upto_region 16 with (fail)
        obtain ⟨m, hm⟩ : ∃ m : Nat, bl % 4 = (m : Int) := ⟨(bl % 4).toNat, by omega⟩
        have HSW := hide (show bsF (sepW (bl % 4)) = bsF (sepW (bl % 4)) from rfl)
        rw [show (bl % 4).toNat = m by omega] at hcm
        rw [hm] at hand
        obtain ⟨st, hst⟩ : ∃ st, bsF (sepW (bl % 4)) = st := ⟨_, rfl⟩
        rw [hst] at hcm
        have hsz3 : st.size ≤ 3 := by rw [← hst, bsF_size]; exact sepW_len _
        have hm3 : (m : Int) < 4 := by omega
        have hm5 : m < 4 := by omega
        have HST := hide hst
        clear hcl hm hst
        go_region
        obtain ⟨W1, hW1⟩ : ∃ W, (wr.alloc (.cells #[.string ⟨#[32]⟩, .string ⟨#[9]⟩, .string ⟨#[10]⟩, .string ⟨#[32, 9, 32]⟩] 9)).drew = W := ⟨_, rfl⟩
        rw [hW1]
        have hbW : Below wr.heap.size wr W1 := hW1 ▸ ((Below.refl _ _).alloc (Nat.le_refl _) _).drew
        have HBEW := hide (HBE.out.trans (hbW.mono HBE.out.size))
        have hcx : W1.cell? ⟨g, o + k, none⟩ = some (.string x) := (hbW.cell (p := ⟨g, o + k, none⟩) hg).trans hc
        have HOW1 := hide (show OwnS W1 w1.heap.size u9 (L.take k) from ownsRow_of HOW.out fun q hq => hbW.block q (HOW.out.lt q hq).2)
        obtain ⟨v4, w4, r4, o4, g4, b4⟩ := run_appS (c := 1) (OwnS.alloc HOW1.out (.cells #[.string x] 9)) (sr_new W1 x) (by have := HBEW.out.size; simp; omega) (by simp; omega)
        have HO4 := hide o4
        have HB4 := hide ((HBEW.out.alloc HBEW.out.size (.cells #[.string x] 9)).trans ((Below.refl w1.heap.size _).grown g4 (by have := HBEW.out.size; simp; omega) (fun q hq => (World.ownsRow.lt HOW1.out q hq).1)))
        have HJW := hide (show bsF (joinW (sepW (bl % 4)) (L.take (k + 1))) = bsF (joinW (sepW (bl % 4)) (L.take k)) ++ st ++ x by
          rw [joinW_succ HX.out, bsF_app, bsF_app, HST.out]
          rfl)
        have HLK := hide (show L.take (k + 1) = L.take k ++ [x] by rw [List.take_add_one, HX.out]; rfl)
        clear o4 g4 b4 hcm hW1
        go_wp2_with (at_builtin; refine wpList_app_run ?_ (.tmp 89) (.tmp 94) ?_ ?_ ?_ ?_ r4 ?_; exact rfl; exact rfl; exact rfl; exact rfl; exact rfl)
        exact ⟨⟨k + 1, by go_num, by omega, by rw [HJW.out], hide (by rw [HLK.out]; exact HO4.out), HB4, hide (by rw [HLK.out]; intro y hy; rcases List.mem_append.1 hy with hy | hy; exact HGW.out y hy; rw [List.mem_singleton.1 hy]; exact hgw.out)⟩, by simp [intOf]; omega⟩
      have b3 : (j : Int) < (x.size : Int) := by omega
      have HEND := hide (HB1.out.trans (HBE.out.mono HB1.out.size))
      by_cases h32 : bt x j = 32
      · have q0 : (((bt x j : Nat) : Int) == 32) = true := by simp only [beq_iff_eq]; omega
        go_wp2
        go_ret
        exact ⟨rfl, HEND.out⟩
      have q0 : (((bt x j : Nat) : Int) == 32) = false := by simp only [beq_eq_false_iff_ne]; omega
      by_cases h9 : bt x j = 9
      · have q1 : (((bt x j : Nat) : Int) == 9) = true := by simp only [beq_iff_eq]; omega
        go_wp2
        go_ret
        exact ⟨rfl, HEND.out⟩
      have q1 : (((bt x j : Nat) : Int) == 9) = false := by simp only [beq_eq_false_iff_ne]; omega
      by_cases h10 : bt x j = 10
      · have q2 : (((bt x j : Nat) : Int) == 10) = true := by simp only [beq_iff_eq]; omega
        go_wp2
        go_ret
        exact ⟨rfl, HEND.out⟩
      have q2 : (((bt x j : Nat) : Int) == 10) = false := by simp only [beq_eq_false_iff_ne]; omega
      go_wp2
      exact ⟨⟨j + 1, by go_num, by omega, hide (fun i hi => by
        by_cases e : i = j
        · subst e; exact ⟨h32, h9, h10⟩
        · exact HNB.out i (by omega)), trivial⟩, by simp [intOf]; omega⟩
end Go.Proofs.Ythcgnfoijemcbaa
