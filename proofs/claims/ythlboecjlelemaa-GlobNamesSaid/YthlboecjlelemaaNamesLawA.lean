/- The walk of the law GlobNames, from the contracts. -/
import Derived.Test.YthlboecjlelemaaNamesWalkC
namespace Go.Proofs.Ythlboecjlelemaa
open Go.RowKit Go.Deep Qm.Glob Qm.Base
attribute [local go_sem] bt_eq

set_option maxRecDepth 100000 in
set_option maxHeartbeats 1000000 in
theorem law_globNames (p : ByteArray) (A : Option Addr) (c : Nat) (L : List ByteArray) (w0 : p.size ≤ maxLen) (hl : L.length ≤ maxLen) (hL : ∀ (k : Nat) (s : ByteArray), L[k]? = some s → s.size ≤ maxLen) (w : World) (hA : SR w A L) :
    Calls Try.prog 10 #[.string p, .slice A L.length c] w fun e w' => e = .returned (.bool true) ∧ Below w.heap.size w w' := by
  unfold maxLen at w0 hl hL
  obtain ⟨n, hn1⟩ : ∃ n, L.length = n := ⟨_, rfl⟩
  rw [hn1]
  rw [hn1] at hl
  have HN := hide hn1
  have HA := hide hA
  have HL := hide hL
  clear hA hn1 hL
  by_cases c1 : 60 < p.size
  · go_enter Try.func10, Try.ntmps10
    go_wp2_with fail
    refine (alive1_any w).mono ?_
    rintro e w1 ⟨rfl, hb1⟩
    go_wp2
    go_ret
    exact ⟨rfl, hb1⟩
  by_cases c2 : 40 < n
  · go_enter Try.func10, Try.ntmps10
    go_wp2_with fail
    refine (alive1_any w).mono ?_
    rintro e w1 ⟨rfl, hb1⟩
    go_wp2
    go_ret
    exact ⟨rfl, hb1⟩
  go_enter Try.func10, Try.ntmps10
  go_wp2_with fail
  refine (alive1_any w).mono ?_
  rintro e w1 ⟨rfl, hb1⟩
  have HB1 := hide hb1
  have HA1 := hide (HA.out.below hb1)
  clear hb1 HA
  go_wp2
  go_loop [6] (fun v6 => ∃ k : Nat, v6 = .int .i64 k ∧ k ≤ n ∧ Hid (∀ j s, j < k → L[j]? = some s → s.size ≤ 60)) (fun v6 => n - (intOf v6).toNat)
  case atStart => exact ⟨0, rfl, by omega, fun j s hj => by omega⟩
  case round =>
    obtain ⟨k, rfl, hk, HE⟩ := hrel
    by_cases hlt : k < n
    · obtain ⟨x, hx⟩ : ∃ x, L[k]? = some x := ⟨L[k]'(by have := HN.out; omega), List.getElem?_eq_getElem _⟩
      have hxs := HL.out k x hx
      obtain ⟨g, o, rfl, hg, hcell⟩ := HA1.out k x hx
      have HX := hide hx
      clear hx
      by_cases hx6 : 60 < x.size
      · go_wp2
        go_ret
        exact ⟨rfl, HB1.out⟩
      · go_wp2
        go_round
        case rel =>
          refine ⟨k + 1, by go_num, by omega, fun j s hj hs => ?_⟩
          by_cases e : j = k
          · subst e
            rw [HX.out] at hs
            injection hs with hs
            rw [← hs]
            omega
          · exact HE.out j s (by omega) hs
        case measure => simp [intOf]; omega
    · obtain rfl : k = n := by omega
      have HS := hide (show ∀ (j : Nat) (s : ByteArray), L[j]? = some s → s.size ≤ 1000 from fun j s hs => by
        have := HE.out j s (by have := (List.getElem?_eq_some_iff.1 hs).1; have := HN.out; omega) hs
        omega)
      obtain ⟨v2, w2, r2, o2, g2, b2⟩ := run_appS (c := c) (OwnS.nil w1 w1.heap.size) HA1.out (Nat.le_refl _) (by have := HN.out; simp; omega)
      rw [HN.out] at r2
      have hb2 : Below w1.heap.size w1 w2 := Below.of_gb g2 (Nat.le_refl _) (fun q hq => by cases hq)
      rw [List.nil_append] at o2
      obtain ⟨A2, c2, rfl, hc2, hs2, _⟩ := o2.slice
      rw [HN.out] at r2
      have HB2 := hide hb2
      have HS2 := hide hs2
      have hnames := names_any p A2 c2 L w2 (by omega) HS.out (by have := HN.out; omega) hs2
      rw [HN.out] at hnames
      have HNM := hide hnames
      clear hb2 hs2 hnames o2 g2 b2 hc2
      go_wp2_with (at_builtin; refine wpList_app_run ?_ (.const (.slice none 0 0)) (.tmp 34) ?_ ?_ ?_ ?_ r2 ?_; exact rfl; exact rfl; exact rfl; exact rfl; exact rfl)
      refine HNM.out.mono ?_
      rintro e w3 ⟨⟨A3, c3, rfl, hs3, hc3⟩, hb3⟩
      have HS3 := hide hs3
      have HA3 := hide ((HA1.out.below HB2.out).below hb3)
      have HB3 := hide (below_up HB2.out hb3 HB2.out.size)
      clear hs3 hc3 hb3 HS2 HNM r2
      have hrn := rnames_any p A c L w3 (by omega) HS.out (by have := HN.out; omega) HA3.out
      rw [HN.out] at hrn
      go_wp2_with fail
      refine hrn.mono ?_
      rintro e w4 ⟨⟨A4, c4, rfl, hs4, hc4⟩, hb4⟩
      have HS4 := hide hs4
      have HS3b := hide (HS3.out.below hb4)
      have HB4 := hide (below_up HB3.out hb4 HB3.out.size)
      have hnl := namesOf_len p L
      rw [HN.out] at hnl
      clear hs4 hc4 hb4 hrn
      go_wp2_with fail
      refine (same_any A3 A4 c3 c4 (namesOf p L) (namesOf p L) w4 HS3b.out HS4.out (by omega)).mono ?_
      rintro e w5 ⟨rfl, hd⟩
      rw [show decide (namesOf p L = namesOf p L) = true from decide_eq_true rfl]
      have HB5 := hide (below_up HB1.out (below_up HB4.out hd.below HB4.out.size) HB1.out.size)
      clear hd
      go_wp2
      go_ret
      exact ⟨rfl, HB5.out⟩
end Go.Proofs.Ythlboecjlelemaa
