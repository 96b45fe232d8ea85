/- Walk of package glob's Names, whole. -/
import Derived.Test.YthlboecjlelemaaNamesWalkB
namespace Go.Proofs.Ythlboecjlelemaa
open Go.RowKit Go.Deep Qm.Glob Qm.Base
attribute [local go_sem] bt_eq

theorem ItemsAt.more {w w' : World} {A : Option Addr} {B B' : Nat} {l : List GI} (h : ItemsAt w A B l) (hb : Below B w w') (hB : B ≤ B') : ItemsAt w' A B' l := fun k x hx => by
  obtain ⟨g, e, hg, hc⟩ := h k x hx
  exact ⟨g, e, by omega, fun j u hu => (hb.cell (p := ⟨g, k * 8 + j, none⟩) hg).trans (hc j u hu)⟩
theorem filter_snoc {α : Type} (f : α → Bool) (l : List α) (x : α) : (l ++ [x]).filter f = if f x then l.filter f ++ [x] else l.filter f := by
  rw [List.filter_append]
  cases h : f x <;> simp [h]
set_option maxRecDepth 100000 in
set_option maxHeartbeats 1000000 in
theorem names_any (p : ByteArray) (A : Option Addr) (c : Nat) (L : List ByteArray) (w : World) (hp : p.size ≤ 1000) (hL : ∀ (k : Nat) (s : ByteArray), L[k]? = some s → s.size ≤ 1000) (hn : L.length ≤ 1000) (hA : SR w A L) :
    Calls Try.prog 38 #[.string p, .slice A L.length c] w fun e w' => (∃ A' c', e = .returned (.slice A' (namesOf p L).length c') ∧ SR w' A' (namesOf p L) ∧ (namesOf p L).length ≤ c') ∧ Below w.heap.size w w' := by
  obtain ⟨n, hn1⟩ : ∃ n, L.length = n := ⟨_, rfl⟩
  rw [hn1]
  rw [hn1] at hn
  have HN := hide hn1
  have HA := hide hA
  have HL := hide hL
  clear hA hn1 hL
  go_enter Try.func38, Try.ntmps38
  go_wp2_with fail
  go_step3
  go_upto_region 1 with (fail)
  go_cut [5] from 10 to 16 (fun v5 w' => v5 = .bool (dotP p) ∧ w = w')
  case first =>
    have HQ := hide (dotP_eq p)
    cases hd : dotS p with
    | true =>
      have HD := hide hd
      clear hd
      go_wp2_with fail
      refine (hasdot_any p w).mono ?_
      rintro e w' ⟨rfl, rfl⟩
      rw [HD.out]
      go_wp2
      go_meet
      exact ⟨by rw [HQ.out, HD.out]; rfl, rfl⟩
    | false =>
      have HD := hide hd
      clear hd
      go_wp2_with fail
      refine (hasdot_any p w).mono ?_
      rintro e w' ⟨rfl, rfl⟩
      rw [HD.out]
      go_wp2_with fail
      refine (hasbs_any p w).mono ?_
      rintro e w' ⟨rfl, rfl⟩
      go_wp2
      go_meet
      exact ⟨by rw [HQ.out, HD.out]; rfl, rfl⟩
  case rest =>
    obtain ⟨rfl, rfl⟩ := hcut
    generalize hdp : dotP p = dp
    have HDQ := hide hdp
    clear hdp
    go_wp2_with fail
    refine (items_any p w hp).mono ?_
    rintro e w1 ⟨v, rfl, hown, hb⟩
    obtain ⟨AI, cI, rfl, hat⟩ := items_of_own hown
    have HAT := hide hat
    have HB1 := hide hb
    have HA1 := hide (HA.out.below hb)
    clear hat hb hown HA
    go_wp2
    go_step3
    go_wp2
    go_loopw [7, 20] (fun v7 v20 wr => ∃ k : Nat, v20 = .int .i64 k ∧ k ≤ n ∧ OwnS wr w1.heap.size v7 ((L.take k).filter (keepN p)) ∧ Below w1.heap.size w1 wr) (fun _ v20 _ => n - (intOf v20).toNat)
    case atStart => exact ⟨0, rfl, by omega, OwnS.nil _ _, Below.refl _ _⟩
    case round =>
      obtain ⟨k, rfl, hk, ho, hb⟩ := hrel
      have HO := hide ho
      have HB := hide hb
      clear ho hb
      by_cases hlt : k < n
      · obtain ⟨x, hx⟩ : ∃ x, L[k]? = some x := ⟨L[k]'(by have := HN.out; omega), List.getElem?_eq_getElem _⟩
        have hxs := HL.out k x hx
        obtain ⟨g, o, rfl, hg, hcell⟩ := (HA1.out.below HB.out) k x hx
        have HX := hide (show (L.take (k + 1)).filter (keepN p) = if keepN p x then (L.take k).filter (keepN p) ++ [x] else (L.take k).filter (keepN p) by rw [take_snoc' hx, filter_snoc])
        have hkp : keepN p x = ((!dotS x || dp) && gMatch p x) := by rw [keepN, HDQ.out]
        have HKP := hide hkp
        have hfl : ((L.take k).filter (keepN p)).length ≤ 1000 := by
          have := List.length_filter_le (keepN p) (L.take k)
          simp at this
          omega
        clear hx hkp
        cases hd : dotS x with
        | true =>
          have HX0 := hide hd
          clear hd
          cases dp with
          | true =>
            have HD := hide (show (!dotS x || true) = true by simp)
            go_wp2_with fail
            refine (hasdot_any x wr).mono ?_
            rintro e w2 ⟨rfl, rfl⟩
            rw [HX0.out]
            go_wp2_with fail
            refine (ends_any x AI cI (gItems (bt p) p.size) wr hxs (Nat.le_trans (gItems_len _ _) hp) (HAT.out.more HB.out HB.out.size)).mono ?_
            rintro e w3 ⟨g3, rfl, hg3, hrow, hb3⟩
            have hm3 : w3.cell? ⟨g3, x.size, none⟩ = some (.bool (gMatch p x)) := hrow.cell (i := x.size) (by omega)
            have HO3 := hide (World.ownsRow.kept (row := none) HO.out ⟨hb3.os, hb3.tape, hb3.output, hb3.size, fun i hi _ => hb3.block i hi⟩ (Classical.em _))
            have HB3 := hide (below_up HB.out hb3 HB.out.size)
            clear hrow hb3 hg3
            cases hm : gMatch p x with
            | true =>
              rw [hm] at hm3
              have HK := hide (show keepN p x = true by rw [HKP.out, HD.out, hm]; rfl)
              clear hm
              obtain ⟨v4, w4, r4, o4, g4, b4⟩ := run_appS (OwnS.alloc HO3.out (.cells #[.string x] 9)) (sr_new w3 x) (by have := HB3.out.size; simp; omega) (by simp; omega)
              have HO4 := hide o4
              have HB4 := hide ((HB3.out.alloc HB3.out.size (.cells #[.string x] 9)).trans (Below.of_gb g4 (by have := HB3.out.size; simp; omega) (fun q hq => (OwnS.lt HO3.out q hq).1)))
              clear o4 g4 b4
              go_wp2_with (at_builtin; refine wpList_app_run ?_ (.tmp 37) (.tmp 39) ?_ ?_ ?_ ?_ r4 ?_; exact rfl; exact rfl; exact rfl; exact rfl; exact rfl)
              go_roundw
              case rel => exact ⟨k + 1, by go_num, by omega, by rw [HX.out, HK.out]; exact HO4.out, HB4.out⟩
              case measure => simp [intOf]; omega
            | false =>
              rw [hm] at hm3
              have HK := hide (show keepN p x = false by rw [HKP.out, hm, Bool.and_false])
              clear hm
              go_wp2
              go_roundw
              case rel => exact ⟨k + 1, by go_num, by omega, by rw [HX.out, HK.out]; exact HO3.out, HB3.out⟩
              case measure => simp [intOf]; omega
          | false =>
            have HK := hide (show keepN p x = false by rw [HKP.out, HX0.out]; rfl)
            go_wp2_with fail
            refine (hasdot_any x wr).mono ?_
            rintro e w2 ⟨rfl, rfl⟩
            rw [HX0.out]
            go_wp2
            go_roundw
            case rel => exact ⟨k + 1, by go_num, by omega, by rw [HX.out, HK.out]; exact HO.out, HB.out⟩
            case measure => simp [intOf]; omega
        | false =>
          have HX0 := hide hd
          clear hd
          have HD := hide (show (!dotS x || dp) = true by rw [HX0.out]; rfl)
          go_wp2_with fail
          refine (hasdot_any x wr).mono ?_
          rintro e w2 ⟨rfl, rfl⟩
          rw [HX0.out]
          go_wp2_with fail
          refine (ends_any x AI cI (gItems (bt p) p.size) wr hxs (Nat.le_trans (gItems_len _ _) hp) (HAT.out.more HB.out HB.out.size)).mono ?_
          rintro e w3 ⟨g3, rfl, hg3, hrow, hb3⟩
          have hm3 : w3.cell? ⟨g3, x.size, none⟩ = some (.bool (gMatch p x)) := hrow.cell (i := x.size) (by omega)
          have HO3 := hide (World.ownsRow.kept (row := none) HO.out ⟨hb3.os, hb3.tape, hb3.output, hb3.size, fun i hi _ => hb3.block i hi⟩ (Classical.em _))
          have HB3 := hide (below_up HB.out hb3 HB.out.size)
          clear hrow hb3 hg3
          cases hm : gMatch p x with
          | true =>
            rw [hm] at hm3
            have HK := hide (show keepN p x = true by rw [HKP.out, HD.out, hm]; rfl)
            clear hm
            obtain ⟨v4, w4, r4, o4, g4, b4⟩ := run_appS (OwnS.alloc HO3.out (.cells #[.string x] 9)) (sr_new w3 x) (by have := HB3.out.size; simp; omega) (by simp; omega)
            have HO4 := hide o4
            have HB4 := hide ((HB3.out.alloc HB3.out.size (.cells #[.string x] 9)).trans (Below.of_gb g4 (by have := HB3.out.size; simp; omega) (fun q hq => (OwnS.lt HO3.out q hq).1)))
            clear o4 g4 b4
            go_wp2_with (at_builtin; refine wpList_app_run ?_ (.tmp 37) (.tmp 39) ?_ ?_ ?_ ?_ r4 ?_; exact rfl; exact rfl; exact rfl; exact rfl; exact rfl)
            go_roundw
            case rel => exact ⟨k + 1, by go_num, by omega, by rw [HX.out, HK.out]; exact HO4.out, HB4.out⟩
            case measure => simp [intOf]; omega
          | false =>
            rw [hm] at hm3
            have HK := hide (show keepN p x = false by rw [HKP.out, hm, Bool.and_false])
            clear hm
            go_wp2
            go_roundw
            case rel => exact ⟨k + 1, by go_num, by omega, by rw [HX.out, HK.out]; exact HO3.out, HB3.out⟩
            case measure => simp [intOf]; omega
      · obtain rfl : k = n := by omega
        have HT := hide (show L.take k = L from List.take_of_length_le (by have := HN.out; omega))
        have hsort := sort_own HO.out (by rw [HT.out]; have := List.length_filter_le (keepN p) L; have := HN.out; omega)
        have HS := hide hsort
        clear hsort
        go_wp2_with fail
        refine HS.out.mono ?_
        rintro e w3 ⟨rfl, ho3, hg3⟩
        have hcomp := compact_own ho3 (by simp; rw [HT.out]; have := List.length_filter_le (keepN p) L; have := HN.out; omega)
        have HC := hide hcomp
        have HB3 := hide (HB.out.trans (Below.of_gb hg3 HB.out.size (fun q hq => (HO.out.lt q hq).1)))
        have hlt3 := ho3.lt
        have HLT := hide hlt3
        clear hcomp ho3 hg3 hlt3 HS
        go_wp2_with fail
        refine HC.out.mono ?_
        rintro e w4 ⟨⟨A4, c4, rfl, hs4, hc4⟩, hg4⟩
        have HB4 := hide (HB3.out.trans (Below.of_gb hg4 HB3.out.size (fun q hq => (HLT.out q hq).1)))
        have HE := hide (names_sorted p L)
        have HS4 := hide hs4
        have HC4 := hide hc4
        clear hs4 hc4 hg4 HC
        rw [HT.out, HE.out]
        go_wp2
        rw [Exit.noGoto_ret]
        go_ret
        refine ⟨⟨A4, c4, rfl, ?_, ?_⟩, below_up HB1.out HB4.out HB1.out.size⟩
        · have := HS4.out; rw [HT.out, HE.out] at this; exact this
        · have := HC4.out; rw [HT.out, HE.out] at this; exact this
end Go.Proofs.Ythlboecjlelemaa
