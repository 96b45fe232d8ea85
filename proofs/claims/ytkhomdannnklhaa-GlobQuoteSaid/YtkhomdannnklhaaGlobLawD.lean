/- The walk of the law GlobParts, from the contracts. -/
import Derived.Test.YtkhomdannnklhaaGlobLawC
namespace Go.Proofs.Ytkhomdannnklhaa
open Go.RowKit Go.Deep Qm.Glob
attribute [local go_sem] bt_eq strOfNums_size

/-- no [ and no backslash -/
def Tame (a : ByteArray) : Prop := ∀ j, j < a.size → bt a j ≠ 91 ∧ bt a j ≠ 92
def iTame (a : ByteArray) : List GI := (List.range a.size).map fun j => simp1 (bt a j)
theorem sh_append (a b : ByteArray) : sh (bt (a ++ b)) a.size = bt b := by
  funext j
  simp only [sh]
  rw [bt_append, if_neg (by omega), Nat.add_sub_cancel]
theorem items_append {a : ByteArray} (h : Tame a) (b : ByteArray) : gItems (bt (a ++ b)) (a ++ b).size = iTame a ++ gItems (bt b) b.size := by
  rw [ByteArray.size_append, gItems_parts _ (a.size + b.size) a.size (by omega) (fun j hj => by rw [bt_append, if_pos hj]; exact h j hj), sh_append, Nat.add_sub_cancel_left]
  congr 1
  exact List.map_congr_left fun j hj => by rw [bt_append, if_pos (List.mem_range.1 hj)]
theorem items_tame {a : ByteArray} (h : Tame a) : gItems (bt a) a.size = iTame a := by
  rw [gItems_parts _ a.size a.size (Nat.le_refl _) h, Nat.sub_self, gItems_zero, List.append_nil]; rfl
theorem tame_append {a b : ByteArray} (h : Tame a) (h2 : Tame b) : Tame (a ++ b) := fun j hj => by
  rw [bt_append]
  rw [ByteArray.size_append] at hj
  split
  · exact h j (by assumption)
  · exact h2 _ (by omega)
theorem EL_front (l : List GI) (s t : ByteArray) : EL l (bt (s ++ t)) s.size = EL l (bt s) s.size :=
  EL_congr _ _ fun j hj => by rw [bt_append, if_pos hj]
theorem EL_both {l m : List GI} {s t : ByteArray} (h1 : EL l (bt s) s.size = true) (h2 : EL m (bt t) t.size = true) : EL (l ++ m) (bt (s ++ t)) (s ++ t).size = true := by
  rw [ByteArray.size_append]
  exact EL_app ((EL_front l s t).trans h1) (by rw [sh_append]; exact h2)
theorem match_parts {a b s t : ByteArray} (h : Tame a) (h1 : gMatch a s = true) (h2 : gMatch b t = true) : gMatch (a ++ b) (s ++ t) = true := by
  rw [gMatch_EL, items_append h]
  rw [gMatch_EL, items_tame h] at h1
  rw [gMatch_EL] at h2
  exact EL_both h1 h2
theorem tame_star : Tame ⟨#[42]⟩ := fun j hj => by
  have : j = 0 := by have : (⟨#[42]⟩ : ByteArray).size = 1 := rfl; omega
  subst this; decide
theorem tame_stars : Tame ⟨#[42, 42]⟩ := fun j hj => by
  have : j = 0 ∨ j = 1 := by have : (⟨#[42, 42]⟩ : ByteArray).size = 2 := rfl; omega
  rcases this with rfl | rfl <;> decide
theorem match_star (s : ByteArray) : gMatch ⟨#[42]⟩ s = true := EL_star _ _
theorem match_mid {a b s t : ByteArray} (m : ByteArray) (h : Tame a) (h1 : gMatch a s = true) (h2 : gMatch b t = true) : gMatch (a ++ ⟨#[42]⟩ ++ b) (s ++ m ++ t) = true :=
  match_parts (tame_append h tame_star) (match_parts h h1 (match_star m)) h2
theorem match_stars {a s : ByteArray} (h : Tame a) (h1 : gMatch a s = true) : gMatch (a ++ ⟨#[42, 42]⟩) s = true := by
  have h3 : gMatch (a ++ ⟨#[42, 42]⟩) (s ++ ByteArray.empty) = true := match_parts h h1 rfl
  have e : s ++ ByteArray.empty = s := by
    apply ByteArray.ext
    rw [ByteArray.data_append]
    simp
  rwa [e] at h3

set_option maxRecDepth 100000 in
set_option maxHeartbeats 1000000 in
theorem law_globParts (a b s t : ByteArray) (w0 : a.size ≤ maxLen) (w1 : b.size ≤ maxLen) (w2 : s.size ≤ maxLen) (w3 : t.size ≤ maxLen) (w : World) :
    Calls Try.prog 4 #[.string a, .string b, .string s, .string t] w fun e w' => e = .returned (.bool true) ∧ Below w.heap.size w w' := by
  unfold maxLen at w0 w1 w2 w3
  by_cases ca : 30 < a.size
  · skip
    go_enter Try.func4, Try.ntmps4
    go_wp2_with fail
    refine (alive1_any w).mono ?_
    rintro e w1 ⟨rfl, hb1⟩
    go_wp2
    go_ret
    exact ⟨rfl, hb1⟩
  by_cases cb : 30 < b.size
  · skip
    go_enter Try.func4, Try.ntmps4
    go_wp2_with fail
    refine (alive1_any w).mono ?_
    rintro e w1 ⟨rfl, hb1⟩
    go_wp2
    go_ret
    exact ⟨rfl, hb1⟩
  by_cases cs : 30 < s.size
  · skip
    go_enter Try.func4, Try.ntmps4
    go_wp2_with fail
    refine (alive1_any w).mono ?_
    rintro e w1 ⟨rfl, hb1⟩
    go_wp2
    go_ret
    exact ⟨rfl, hb1⟩
  by_cases ct : 30 < t.size
  · skip
    go_enter Try.func4, Try.ntmps4
    go_wp2_with fail
    refine (alive1_any w).mono ?_
    rintro e w1 ⟨rfl, hb1⟩
    go_wp2
    go_ret
    exact ⟨rfl, hb1⟩
  go_enter Try.func4, Try.ntmps4
  go_wp2_with fail
  refine (alive1_any w).mono ?_
  rintro e w1 ⟨rfl, hb1⟩
  go_wp2_with fail
  go_loop [10] (fun v10 => ∃ k : Nat, k ≤ a.size ∧ v10 = .int .i64 k ∧ Hid (∀ j, j < k → bt a j ≠ 91 ∧ bt a j ≠ 92)) (fun v10 => a.size - (intOf v10).toNat)
  case atStart => exact ⟨0, by omega, rfl, fun j hj => by omega⟩
  case round =>
    obtain ⟨k, hk, rfl, HT⟩ := hrel
    by_cases hlt : k < a.size
    · by_cases h1 : bt a k = 91
      · have g1 : (((bt a k : Nat) : Int) == 91) = true := by simp only [beq_iff_eq]; omega
        clear h1
        go_wp2
        go_ret
        exact ⟨rfl, hb1⟩
      · have g1 : (((bt a k : Nat) : Int) == 91) = false := by simp only [beq_eq_false_iff_ne]; omega
        by_cases h2 : bt a k = 92
        · have g2 : (((bt a k : Nat) : Int) == 92) = true := by simp only [beq_iff_eq]; omega
          clear h1 h2
          go_wp2
          go_ret
          exact ⟨rfl, hb1⟩
        · have g2 : (((bt a k : Nat) : Int) == 92) = false := by simp only [beq_eq_false_iff_ne]; omega
          have HH := hide (show bt a k ≠ 91 ∧ bt a k ≠ 92 from ⟨h1, h2⟩)
          clear h1 h2
          go_wp2
          go_round
          case rel =>
            refine ⟨k + 1, by omega, by go_num, fun j hj => ?_⟩
            rcases Nat.lt_or_ge j k with h | h
            · exact HT.out j h
            · rw [show j = k from by omega]; exact HH.out
          case measure => simp [intOf]; omega
    · obtain rfl : k = a.size := by omega
      have HTame : Hid (Tame a) := HT
      clear HT
      go_wp2_with fail
      refine (match_any a s _ (by omega) (by omega)).mono ?_
      rintro e w2 ⟨rfl, hb2⟩
      generalize hx : gMatch a s = x
      have HX := hide hx
      clear hx
      go_wp2_with fail
      refine (match_any b t _ (by omega) (by omega)).mono ?_
      rintro e w3 ⟨rfl, hb3⟩
      generalize hy : gMatch b t = y
      have HY := hide hy
      clear hy
      have h13 := hide (below_up (below_up hb1 hb2 hb1.size) hb3 (by have s1 := hb1.size; have s2 := hb2.size; omega))
      clear hb1 hb2 hb3
      cases x with
      | false =>
        go_wp2
        go_ret
        exact ⟨rfl, h13.out⟩
      | true =>
        cases y with
        | false =>
          go_wp2
          go_ret
          exact ⟨rfl, h13.out⟩
        | true =>
          have hb3 := h13.out
          clear h13
          go_wp2_with fail
          refine (match_any _ _ _ (by rw [ByteArray.size_append]; omega) (by rw [ByteArray.size_append]; omega)).mono ?_
          rintro e w4 ⟨rfl, hb4⟩
          rw [match_parts HTame.out HX.out HY.out]
          go_wp2_with fail
          refine (match_any _ _ _ (by simp only [ByteArray.size_append]; show a.size + 1 + b.size ≤ 1000; omega) (by simp only [ByteArray.size_append]; show s.size + 3 + t.size ≤ 1000; omega)).mono ?_
          rintro e w5 ⟨rfl, hb5⟩
          rw [match_mid _ HTame.out HX.out HY.out]
          go_wp2_with fail
          refine (match_any _ _ _ (by decide) (by omega)).mono ?_
          rintro e w6 ⟨rfl, hb6⟩
          rw [match_star]
          go_wp2_with fail
          refine (match_any _ _ _ (by rw [ByteArray.size_append]; show a.size + 2 ≤ 1000; omega) (by omega)).mono ?_
          rintro e w7 ⟨rfl, hb7⟩
          rw [match_stars HTame.out HX.out]
          have HF := hide (show Below w.heap.size w w7 from by
            have s3 := hb3.size
            have s4 := hb4.size
            have s5 := hb5.size
            have s6 := hb6.size
            exact below_up (below_up (below_up (below_up hb3 hb4 (by omega)) hb5 (by omega)) hb6 (by omega)) hb7 (by omega))
          clear hb3 hb4 hb5 hb6 hb7
          go_wp2
          go_ret
          exact ⟨rfl, HF.out⟩
end Go.Proofs.Ytkhomdannnklhaa
