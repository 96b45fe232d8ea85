/- The walk of the law StripEnds, from the contracts. -/
import Derived.Test.YthlboecjlelemaaStripLawA
import Derived.Test.YthlboecjlelemaaGlobLawC
import Derived.Test.YthlboecjlelemaaGlobLawE
namespace Go.Proofs.Ythlboecjlelemaa
open Go.RowKit Go.Deep Qm.Glob
attribute [local go_sem] bt_eq

set_option maxRecDepth 100000 in
set_option maxHeartbeats 400000 in
theorem rends_true (s x : ByteArray) (w : World) (hs : s.size ≤ 1000) (h : x.size ≤ s.size) (e : s.extract (s.size - x.size) s.size = x) :
    Calls Try.prog 22 #[.string s, .string x] w fun e w' => e = .returned (.bool true) ∧ w = w' := by
  have E := hide e
  clear e
  obtain ⟨m, hm⟩ : ∃ m, s.size = m + x.size := ⟨s.size - x.size, by omega⟩
  have E2 := hide (show s.extract m (m + x.size) = x by
    have := E.out
    rw [hm, Nat.add_sub_cancel] at this
    exact this)
  clear E
  go_enter Try.func22, Try.ntmps22
  go_wp2
  go_ret
  refine ⟨?_, rfl⟩
  go_light
  have := E2.out
  simp [this]
set_option maxRecDepth 100000 in
set_option maxHeartbeats 400000 in
theorem rbegins_true (s x : ByteArray) (w : World) (h : x.size ≤ s.size) (e : s.extract 0 x.size = x) :
    Calls Try.prog 23 #[.string s, .string x] w fun e w' => e = .returned (.bool true) ∧ w = w' := by
  have E := hide e
  clear e
  go_enter Try.func23, Try.ntmps23
  go_wp2
  go_ret
  refine ⟨?_, rfl⟩
  go_light
  have := E.out
  simp [this]
theorem mtrue (p x : ByteArray) (B : Nat) (w0 w : World) (hp : p.size ≤ 1000) (hx : x.size ≤ 1000) (hm : gMatch p x = true) (hb : Below B w0 w) (hB : B ≤ w0.heap.size) :
    Calls Try.prog 24 #[.string p, .string x] w fun e w' => e = .returned (.bool true) ∧ Below B w0 w' :=
  (match_any p x w hp hx).mono fun e w' ⟨h1, h2⟩ => ⟨by rw [h1, hm], below_up hb h2 (Nat.le_trans hB hb.size)⟩
theorem bt_ex (s : ByteArray) (a b j : Nat) (h : a + j < b) (hb : b ≤ s.size) : bt (s.extract a b) j = bt s (a + j) := by
  have h1 : j < (s.extract a b).size := by rw [ByteArray.size_extract]; omega
  rw [← bt_eq _ j h1, ← bt_eq s (a + j) (by omega), ByteArray.getElem_extract]
theorem pick_true {f : Nat → Bool} {most : Bool} {k : Nat} (h : (pickO f most k).getD 0 ≠ 0) : f ((pickO f most k).getD 0) = true := by
  cases hp : pickO f most k with
  | none => rw [hp] at h; exact absurd rfl h
  | some i => exact (pickO_some hp).1
theorem front_match {s p : ByteArray} {most : Bool} (h : frN s p most ≠ 0) : gMatch p (s.extract 0 (frN s p most)) = true := by
  have h1 := pick_true h
  have hl := frN_le s p most
  rw [gMatch_EL, ByteArray.size_extract, Nat.min_eq_left hl, Nat.sub_zero, ← h1]
  show EL _ _ _ = EL _ _ (frN s p most)
  exact EL_congr _ _ fun j hj => by rw [bt_ex _ _ _ _ (by omega) hl, Nat.zero_add]
theorem bt_rvS (s : ByteArray) (j : Nat) (h : j < s.size) : bt (rvS s) j = bt s (s.size - 1 - j) := by
  rw [rvS, bt_sb, List.getD_eq_getElem?_getD, List.getElem?_map, List.getElem?_range h]
  exact Nat.mod_eq_of_lt (bt_lt _ _)
theorem back_match {s p : ByteArray} {most : Bool} (h : bkN s p most ≠ 0) : gMatch p (s.extract (s.size - bkN s p most) s.size) = true := by
  have h1 := pick_true h
  have hl := bkN_le s p most
  have h2 := EL_rev _ _ _ _ rfl h1
  rw [List.reverse_reverse] at h2
  rw [gMatch_EL, ByteArray.size_extract, Nat.min_self, show s.size - (s.size - bkN s p most) = bkN s p most from by omega, ← h2]
  show EL _ _ _ = EL _ _ (bkN s p most)
  refine EL_congr _ _ fun j hj => ?_
  rw [bt_ex _ _ _ _ (by omega) (Nat.le_refl _)]
  show _ = bt (rvS s) (bkN s p most - 1 - j)
  rw [bt_rvS s _ (by omega)]
  congr 1
  omega
structure FrOk (s p A : ByteArray) : Prop where
  le : A.size ≤ s.size
  suf : s.extract (s.size - A.size) s.size = A
  mt : A = s ∨ gMatch p (s.extract 0 (s.size - A.size)) = true
structure BkOk (s p A : ByteArray) : Prop where
  le : A.size ≤ s.size
  pre : s.extract 0 A.size = A
  mt : A = s ∨ gMatch p (s.extract A.size s.size) = true
theorem frOk (s p : ByteArray) (most : Bool) : FrOk s p (gFront s p most) := by
  have hl := frN_le s p most
  have e : (gFront s p most).size = s.size - frN s p most := by rw [gFront, ByteArray.size_extract, Nat.min_self]
  refine ⟨by omega, ?_, ?_⟩
  · rw [e, show s.size - (s.size - frN s p most) = frN s p most from by omega]; rfl
  · by_cases h : frN s p most = 0
    · left; rw [gFront, h]; simp
    · right; rw [e, show s.size - (s.size - frN s p most) = frN s p most from by omega]; exact front_match h
theorem bkOk (s p : ByteArray) (most : Bool) : BkOk s p (gBack s p most) := by
  have hl := bkN_le s p most
  have e : (gBack s p most).size = s.size - bkN s p most := by rw [gBack, ByteArray.size_extract]; omega
  refine ⟨by omega, ?_, ?_⟩
  · rw [e]; rfl
  · by_cases h : bkN s p most = 0
    · left; rw [gBack, h]; simp
    · right; rw [e]; exact back_match h
theorem front_short (s p : ByteArray) : (gFront s p true).size ≤ (gFront s p false).size := by
  have := pickO_le (EL (gItems (bt p) p.size) (bt s)) (s.size + 1)
  rw [gFront, gFront, ByteArray.size_extract, ByteArray.size_extract, frN, frN]
  omega
theorem back_short (s p : ByteArray) : (gBack s p true).size ≤ (gBack s p false).size := by
  have := pickO_le (EL (gItems (bt p) p.size).reverse (bt (rvS s))) (s.size + 1)
  rw [gBack, gBack, ByteArray.size_extract, ByteArray.size_extract, bkN, bkN]
  omega
theorem str_ne {a b : ByteArray} (h : a ≠ b) : (a.toList == b.toList) = false := by
  rw [beq_eq_false_iff_ne, ByteArray.toList_eq, ByteArray.toList_eq]
  exact fun e => h (ByteArray.ext (Array.ext' e))
set_option maxRecDepth 100000 in
set_option maxHeartbeats 2000000 in
theorem law_stripEnds (s p : ByteArray) (w0 : s.size ≤ maxLen) (w1 : p.size ≤ maxLen) (w : World) :
    Calls Try.prog 5 #[.string s, .string p] w fun e w' => e = .returned (.bool true) ∧ Below w.heap.size w w' := by
  unfold maxLen at w0 w1
  by_cases c1 : 60 < s.size
  · go_enter Try.func5, Try.ntmps5
    go_wp2_with fail
    refine (alive11_any w).mono ?_
    rintro e w1 ⟨rfl, hb1⟩
    go_wp2
    go_ret
    exact ⟨rfl, hb1⟩
  by_cases c2 : 40 < p.size
  · go_enter Try.func5, Try.ntmps5
    go_wp2_with fail
    refine (alive11_any w).mono ?_
    rintro e w1 ⟨rfl, hb1⟩
    go_wp2
    go_ret
    exact ⟨rfl, hb1⟩
  go_enter Try.func5, Try.ntmps5
  go_wp2_with fail
  refine (alive11_any w).mono ?_
  rintro e w1 ⟨rfl, hb1⟩
  have HB1 := hide hb1
  clear hb1
  go_wp2_with fail
  refine (front_any s p false w1 (by omega) (by omega)).mono ?_
  rintro e w2 ⟨rfl, hb2⟩
  have HB2 := hide (below_up HB1.out hb2 HB1.out.size)
  clear hb2
  go_wp2_with fail
  refine (front_any s p true w2 (by omega) (by omega)).mono ?_
  rintro e w3 ⟨rfl, hb3⟩
  have HB3 := hide (below_up HB2.out hb3 HB2.out.size)
  clear hb3
  go_wp2_with fail
  refine (back_any s p false w3 (by omega) (by omega)).mono ?_
  rintro e w4 ⟨rfl, hb4⟩
  have HB4 := hide (below_up HB3.out hb4 HB3.out.size)
  clear hb4
  go_wp2_with fail
  refine (back_any s p true w4 (by omega) (by omega)).mono ?_
  rintro e w5 ⟨rfl, hb5⟩
  have HB5 := hide (below_up HB4.out hb5 HB4.out.size)
  clear hb5 HB1 HB2 HB3 HB4
  have OA := frOk s p false
  have OB := frOk s p true
  have OC := bkOk s p false
  have OD := bkOk s p true
  have SB := front_short s p
  have SD := back_short s p
  generalize gFront s p false = a at OA SB ⊢
  generalize gFront s p true = b at OB SB ⊢
  generalize gBack s p false = c at OC SD ⊢
  generalize gBack s p true = d at OD SD ⊢
  have la := OA.le
  have lb := OB.le
  have lc := OC.le
  have ld := OD.le
  have hd1 : decide (a.size < b.size) = false := by simp only [decide_eq_false_iff_not]; omega
  have hd2 : decide (c.size < d.size) = false := by simp only [decide_eq_false_iff_not]; omega
  go_wp2_with fail
  refine (rends_true s a w5 (by omega) OA.le OA.suf).mono ?_
  rintro e w6 ⟨rfl, rfl⟩
  go_wp2_with fail
  refine (rends_true s b w5 (by omega) OB.le OB.suf).mono ?_
  rintro e w6 ⟨rfl, rfl⟩
  go_wp2_with fail
  refine (rbegins_true s c w5 OC.le OC.pre).mono ?_
  rintro e w6 ⟨rfl, rfl⟩
  go_wp2_with fail
  refine (rbegins_true s d w5 OD.le OD.pre).mono ?_
  rintro e w6 ⟨rfl, rfl⟩
  obtain ⟨ba, ta, ma⟩ : ∃ x, (a.toList == s.toList) = x ∧ (x = false → gMatch p (s.extract 0 (s.size - a.size)) = true) := ⟨_, rfl, fun h => OA.mt.resolve_left fun e => by simp [e] at h⟩
  obtain ⟨bb, tb, mb⟩ : ∃ x, (b.toList == s.toList) = x ∧ (x = false → gMatch p (s.extract 0 (s.size - b.size)) = true) := ⟨_, rfl, fun h => OB.mt.resolve_left fun e => by simp [e] at h⟩
  obtain ⟨bc, tc, mc⟩ : ∃ x, (c.toList == s.toList) = x ∧ (x = false → gMatch p (s.extract c.size s.size) = true) := ⟨_, rfl, fun h => OC.mt.resolve_left fun e => by simp [e] at h⟩
  obtain ⟨bd, td, md⟩ : ∃ x, (d.toList == s.toList) = x ∧ (x = false → gMatch p (s.extract d.size s.size) = true) := ⟨_, rfl, fun h => OD.mt.resolve_left fun e => by simp [e] at h⟩
  have MA := hide ma
  have MB := hide mb
  have MC := hide mc
  have MD := hide md
  clear ma mb mc md OA OB OC OD SB SD
  cases ba with
  | false =>
    go_wp2_with fail
    ((with_reducible refine (mtrue p (s.extract 0 (s.size - a.size)) w.heap.size w w5 (by omega) (by rw [ByteArray.size_extract]; omega) (MA.out (by trivial)) HB5.out (Nat.le_refl _)).mono ?_); rintro e w6 ⟨rfl, hb6⟩)
    have HB6 := hide hb6
    clear hb6
    cases bb with
    | false =>
      go_wp2_with fail
      ((with_reducible refine (mtrue p (s.extract 0 (s.size - b.size)) w.heap.size w w6 (by omega) (by rw [ByteArray.size_extract]; omega) (MB.out (by trivial)) HB6.out (Nat.le_refl _)).mono ?_); rintro e w7 ⟨rfl, hb7⟩)
      have HB7 := hide hb7
      clear hb7
      cases bc with
      | false =>
        go_wp2_with fail
        ((with_reducible refine (mtrue p (s.extract c.size s.size) w.heap.size w w7 (by omega) (by rw [ByteArray.size_extract]; omega) (MC.out (by trivial)) HB7.out (Nat.le_refl _)).mono ?_); rintro e w8 ⟨rfl, hb8⟩)
        have HB8 := hide hb8
        clear hb8
        cases bd with
        | false =>
          go_wp2_with fail
          ((with_reducible refine (mtrue p (s.extract d.size s.size) w.heap.size w w8 (by omega) (by rw [ByteArray.size_extract]; omega) (MD.out (by trivial)) HB8.out (Nat.le_refl _)).mono ?_); rintro e w9 ⟨rfl, hb9⟩)
          have HB9 := hide hb9
          clear hb9
          go_wp2
          go_ret
          exact ⟨rfl, HB9.out⟩
        | true =>
          go_wp2
          go_ret
          exact ⟨rfl, HB8.out⟩
      | true =>
        cases bd with
        | false =>
          go_wp2_with fail
          ((with_reducible refine (mtrue p (s.extract d.size s.size) w.heap.size w w7 (by omega) (by rw [ByteArray.size_extract]; omega) (MD.out (by trivial)) HB7.out (Nat.le_refl _)).mono ?_); rintro e w9 ⟨rfl, hb9⟩)
          have HB9 := hide hb9
          clear hb9
          go_wp2
          go_ret
          exact ⟨rfl, HB9.out⟩
        | true =>
          go_wp2
          go_ret
          exact ⟨rfl, HB7.out⟩
    | true =>
      cases bc with
      | false =>
        go_wp2_with fail
        ((with_reducible refine (mtrue p (s.extract c.size s.size) w.heap.size w w6 (by omega) (by rw [ByteArray.size_extract]; omega) (MC.out (by trivial)) HB6.out (Nat.le_refl _)).mono ?_); rintro e w8 ⟨rfl, hb8⟩)
        have HB8 := hide hb8
        clear hb8
        cases bd with
        | false =>
          go_wp2_with fail
          ((with_reducible refine (mtrue p (s.extract d.size s.size) w.heap.size w w8 (by omega) (by rw [ByteArray.size_extract]; omega) (MD.out (by trivial)) HB8.out (Nat.le_refl _)).mono ?_); rintro e w9 ⟨rfl, hb9⟩)
          have HB9 := hide hb9
          clear hb9
          go_wp2
          go_ret
          exact ⟨rfl, HB9.out⟩
        | true =>
          go_wp2
          go_ret
          exact ⟨rfl, HB8.out⟩
      | true =>
        cases bd with
        | false =>
          go_wp2_with fail
          ((with_reducible refine (mtrue p (s.extract d.size s.size) w.heap.size w w6 (by omega) (by rw [ByteArray.size_extract]; omega) (MD.out (by trivial)) HB6.out (Nat.le_refl _)).mono ?_); rintro e w9 ⟨rfl, hb9⟩)
          have HB9 := hide hb9
          clear hb9
          go_wp2
          go_ret
          exact ⟨rfl, HB9.out⟩
        | true =>
          go_wp2
          go_ret
          exact ⟨rfl, HB6.out⟩
  | true =>
    cases bb with
    | false =>
      go_wp2_with fail
      ((with_reducible refine (mtrue p (s.extract 0 (s.size - b.size)) w.heap.size w w5 (by omega) (by rw [ByteArray.size_extract]; omega) (MB.out (by trivial)) HB5.out (Nat.le_refl _)).mono ?_); rintro e w7 ⟨rfl, hb7⟩)
      have HB7 := hide hb7
      clear hb7
      cases bc with
      | false =>
        go_wp2_with fail
        ((with_reducible refine (mtrue p (s.extract c.size s.size) w.heap.size w w7 (by omega) (by rw [ByteArray.size_extract]; omega) (MC.out (by trivial)) HB7.out (Nat.le_refl _)).mono ?_); rintro e w8 ⟨rfl, hb8⟩)
        have HB8 := hide hb8
        clear hb8
        cases bd with
        | false =>
          go_wp2_with fail
          ((with_reducible refine (mtrue p (s.extract d.size s.size) w.heap.size w w8 (by omega) (by rw [ByteArray.size_extract]; omega) (MD.out (by trivial)) HB8.out (Nat.le_refl _)).mono ?_); rintro e w9 ⟨rfl, hb9⟩)
          have HB9 := hide hb9
          clear hb9
          go_wp2
          go_ret
          exact ⟨rfl, HB9.out⟩
        | true =>
          go_wp2
          go_ret
          exact ⟨rfl, HB8.out⟩
      | true =>
        cases bd with
        | false =>
          go_wp2_with fail
          ((with_reducible refine (mtrue p (s.extract d.size s.size) w.heap.size w w7 (by omega) (by rw [ByteArray.size_extract]; omega) (MD.out (by trivial)) HB7.out (Nat.le_refl _)).mono ?_); rintro e w9 ⟨rfl, hb9⟩)
          have HB9 := hide hb9
          clear hb9
          go_wp2
          go_ret
          exact ⟨rfl, HB9.out⟩
        | true =>
          go_wp2
          go_ret
          exact ⟨rfl, HB7.out⟩
    | true =>
      cases bc with
      | false =>
        go_wp2_with fail
        ((with_reducible refine (mtrue p (s.extract c.size s.size) w.heap.size w w5 (by omega) (by rw [ByteArray.size_extract]; omega) (MC.out (by trivial)) HB5.out (Nat.le_refl _)).mono ?_); rintro e w8 ⟨rfl, hb8⟩)
        have HB8 := hide hb8
        clear hb8
        cases bd with
        | false =>
          go_wp2_with fail
          ((with_reducible refine (mtrue p (s.extract d.size s.size) w.heap.size w w8 (by omega) (by rw [ByteArray.size_extract]; omega) (MD.out (by trivial)) HB8.out (Nat.le_refl _)).mono ?_); rintro e w9 ⟨rfl, hb9⟩)
          have HB9 := hide hb9
          clear hb9
          go_wp2
          go_ret
          exact ⟨rfl, HB9.out⟩
        | true =>
          go_wp2
          go_ret
          exact ⟨rfl, HB8.out⟩
      | true =>
        cases bd with
        | false =>
          go_wp2_with fail
          ((with_reducible refine (mtrue p (s.extract d.size s.size) w.heap.size w w5 (by omega) (by rw [ByteArray.size_extract]; omega) (MD.out (by trivial)) HB5.out (Nat.le_refl _)).mono ?_); rintro e w9 ⟨rfl, hb9⟩)
          have HB9 := hide hb9
          clear hb9
          go_wp2
          go_ret
          exact ⟨rfl, HB9.out⟩
        | true =>
          go_wp2
          go_ret
          exact ⟨rfl, HB5.out⟩
end Go.Proofs.Ythlboecjlelemaa
