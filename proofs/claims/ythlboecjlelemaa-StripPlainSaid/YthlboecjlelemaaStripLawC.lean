/- The walk of the law StripPlain, from the contracts. -/
import Derived.Test.YthlboecjlelemaaStripLawB
import Derived.Test.YthlboecjlelemaaGlobLawF
namespace Go.Proofs.Ythlboecjlelemaa
open Go.RowKit Go.Deep Qm.Glob
attribute [local go_sem] bt_eq

/-- a text quoted -/
def qtd (b : ByteArray) : ByteArray := sb (qb (bt b) b.size)
theorem qtd_size (b : ByteArray) : (qtd b).size ≤ 2 * b.size := by
  have := qb_len (bt b) b.size
  rw [qtd, sb_size]
  exact this
theorem bytes_len (b : ByteArray) : (bytesOf b).length = b.size := by simp [bytesOf]
theorem bytes_get (b : ByteArray) (j : Nat) (h : j < b.size) : (bytesOf b).getD j 0 = bt b j := by
  rw [bytesOf, List.getD_eq_getElem?_getD, List.getElem?_map, List.getElem?_range h]; rfl
theorem EL_qtd (b : ByteArray) (t : Nat → Nat) (i : Nat) : EL (gItems (bt (qtd b)) (qtd b).size) t i = (i == b.size && (List.range b.size).all fun j => t j == bt b j) := by
  rw [show gItems (bt (qtd b)) (qtd b).size = (bytesOf b).map giOne from items_quoted b, EL_text, bytes_len]
  congr 1
  rw [Bool.eq_iff_iff, List.all_eq_true, List.all_eq_true]
  exact ⟨fun h j hj => by rw [← bytes_get b j (by simpa using hj)]; exact h j hj, fun h j hj => by rw [bytes_get b j (by simpa using hj)]; exact h j hj⟩
theorem EL_qtd_rev (b : ByteArray) (t : Nat → Nat) (i : Nat) : EL (gItems (bt (qtd b)) (qtd b).size).reverse t i = (i == b.size && (List.range b.size).all fun j => t j == bt b (b.size - 1 - j)) := by
  rw [show gItems (bt (qtd b)) (qtd b).size = (bytesOf b).map giOne from items_quoted b, E_text_rev, bytes_len]
  congr 1
  rw [Bool.eq_iff_iff, List.all_eq_true, List.all_eq_true]
  exact ⟨fun h j hj => by rw [← bytes_get b _ (by have := List.mem_range.1 hj; omega)]; exact h j hj, fun h j hj => by rw [bytes_get b _ (by have := List.mem_range.1 hj; omega)]; exact h j hj⟩
theorem front_of {s b : ByteArray} {most : Bool} (h : b.size ≤ s.size) (h2 : ∀ j, j < b.size → bt s j = bt b j) : frN s (qtd b) most = b.size := by
  have : pickO (EL (gItems (bt (qtd b)) (qtd b).size) (bt s)) most (s.size + 1) = some b.size := by
    refine pickO_only (by omega) ?_ (fun j _ hj => ?_)
    · rw [EL_qtd]
      simp only [beq_self_eq_true, Bool.true_and, List.all_eq_true, beq_iff_eq]
      exact fun j hj => h2 j (List.mem_range.1 hj)
    · rw [EL_qtd]
      simp [hj]
  rw [frN, this]
  rfl
theorem front_not {s b : ByteArray} {most : Bool} (h : ¬ (b.size ≤ s.size ∧ ∀ j, j < b.size → bt s j = bt b j)) : frN s (qtd b) most = 0 := by
  have : pickO (EL (gItems (bt (qtd b)) (qtd b).size) (bt s)) most (s.size + 1) = none := by
    refine pickO_no (fun j hj => ?_)
    rw [EL_qtd, Bool.and_eq_false_iff]
    by_cases e : j = b.size
    · right
      subst e
      rw [← Bool.not_eq_true, List.all_eq_true]
      exact fun h3 => h ⟨by omega, fun j hj => by simpa using h3 j (List.mem_range.2 hj)⟩
    · left; simpa using e
  rw [frN, this]
  rfl
theorem back_of {s b : ByteArray} {most : Bool} (h : b.size ≤ s.size) (h2 : ∀ j, j < b.size → bt s (s.size - b.size + j) = bt b j) : bkN s (qtd b) most = b.size := by
  have : pickO (EL (gItems (bt (qtd b)) (qtd b).size).reverse (bt (rvS s))) most (s.size + 1) = some b.size := by
    refine pickO_only (by omega) ?_ (fun j _ hj => ?_)
    · rw [EL_qtd_rev]
      simp only [beq_self_eq_true, Bool.true_and, List.all_eq_true, beq_iff_eq]
      intro j hj
      have hj := List.mem_range.1 hj
      rw [bt_rvS _ _ (by omega), ← h2 _ (by omega)]
      congr 1
      omega
    · rw [EL_qtd_rev]
      simp [hj]
  rw [bkN, this]
  rfl
theorem front_plain (a b : ByteArray) (most : Bool) : gFront (b ++ a) (qtd b) most = a := by
  rw [gFront, front_of (by rw [ByteArray.size_append]; omega) (fun j hj => by rw [bt_append, if_pos hj])]
  refine bt_ext (by rw [ByteArray.size_extract, ByteArray.size_append]; omega) (fun j hj => ?_)
  rw [ByteArray.size_extract, ByteArray.size_append] at hj
  rw [bt_ex _ _ _ _ (by rw [ByteArray.size_append]; omega) (Nat.le_refl _), bt_append, if_neg (by omega), Nat.add_sub_cancel_left]
theorem back_plain (a b : ByteArray) (most : Bool) : gBack (a ++ b) (qtd b) most = a := by
  rw [gBack, back_of (by rw [ByteArray.size_append]; omega) (fun j hj => by rw [ByteArray.size_append, bt_append, if_neg (by omega)]; congr 1; omega)]
  refine bt_ext (by rw [ByteArray.size_extract, ByteArray.size_append]; omega) (fun j hj => ?_)
  rw [ByteArray.size_extract, ByteArray.size_append] at hj
  rw [bt_ex _ _ _ _ (by rw [ByteArray.size_append]; omega) (by omega), bt_append, if_pos (by omega), Nat.zero_add]
theorem begins_iff (s b : ByteArray) : (b.size ≤ s.size ∧ s.extract 0 b.size = b) ↔ (b.size ≤ s.size ∧ ∀ j, j < b.size → bt s j = bt b j) := by
  refine ⟨fun ⟨h, e⟩ => ⟨h, fun j hj => ?_⟩, fun ⟨h, e⟩ => ⟨h, ?_⟩⟩
  · have := bt_ex s 0 b.size j (by omega) h
    rw [e, Nat.zero_add] at this
    exact this.symm
  · refine bt_ext (by rw [ByteArray.size_extract]; omega) (fun j hj => ?_)
    rw [ByteArray.size_extract] at hj
    rw [bt_ex _ _ _ _ (by omega) h, Nat.zero_add]
    exact e j (by omega)
set_option maxRecDepth 100000 in
set_option maxHeartbeats 400000 in
theorem rbegins_false (s x : ByteArray) (w : World) (h : ¬ (x.size ≤ s.size ∧ s.extract 0 x.size = x)) :
    Calls Try.prog 23 #[.string s, .string x] w fun e w' => e = .returned (.bool false) ∧ w = w' := by
  by_cases hl : x.size ≤ s.size
  · have hne := str_ne (fun e => h ⟨hl, e⟩)
    have E := hide hne
    clear hne h
    go_enter Try.func23, Try.ntmps23
    go_wp2
    go_ret
    refine ⟨?_, rfl⟩
    go_light
    have := E.out
    simp [this]
  · clear h
    have hd : decide (x.size ≤ s.size) = false := by simpa using hl
    go_enter Try.func23, Try.ntmps23
    go_wp2
    go_ret
    exact ⟨rfl, rfl⟩
set_option maxRecDepth 100000 in
set_option maxHeartbeats 2000000 in
theorem law_stripPlain (a b c : ByteArray) (w0 : a.size ≤ maxLen) (w1 : b.size ≤ maxLen) (w2 : c.size ≤ maxLen) (w : World) :
    Calls Try.prog 6 #[.string a, .string b, .string c] w fun e w' => e = .returned (.bool true) ∧ Below w.heap.size w w' := by
  unfold maxLen at w0 w1 w2
  by_cases ca : 40 < a.size
  · go_enter Try.func6, Try.ntmps6
    go_wp2_with fail
    refine (alive11_any w).mono ?_
    rintro e w1 ⟨rfl, hb1⟩
    go_wp2
    go_ret
    exact ⟨rfl, hb1⟩
  by_cases cb : 40 < b.size
  · go_enter Try.func6, Try.ntmps6
    go_wp2_with fail
    refine (alive11_any w).mono ?_
    rintro e w1 ⟨rfl, hb1⟩
    go_wp2
    go_ret
    exact ⟨rfl, hb1⟩
  by_cases cc : 40 < c.size
  · go_enter Try.func6, Try.ntmps6
    go_wp2_with fail
    refine (alive11_any w).mono ?_
    rintro e w1 ⟨rfl, hb1⟩
    go_wp2
    go_ret
    exact ⟨rfl, hb1⟩
  go_enter Try.func6, Try.ntmps6
  go_wp2_with fail
  refine (alive11_any w).mono ?_
  rintro e w1 ⟨rfl, hb1⟩
  have HB1 := hide hb1
  clear hb1
  go_wp2_with fail
  refine (quote_any b w1 (by omega)).mono ?_
  rintro e w2 ⟨rfl, hb2⟩
  have HB2 := hide (below_up HB1.out hb2 HB1.out.size)
  clear hb2
  rw [show sb (qb (bt b) b.size) = qtd b from rfl]
  have hl := qtd_size b
  have E1 := hide (front_plain a b true)
  have E2 := hide (back_plain a b false)
  have E3 := hide (show gFront c (qtd b) false = if b.size ≤ c.size ∧ c.extract 0 b.size = b then c.extract b.size c.size else c by
    by_cases h : b.size ≤ c.size ∧ c.extract 0 b.size = b
    · rw [if_pos h, gFront, front_of h.1 ((begins_iff c b).1 h).2]
    · rw [if_neg h, gFront, front_not (fun k => h ((begins_iff c b).2 k))]
      simp)
  generalize qtd b = P at hl E1 E2 E3 ⊢
  go_wp2_with fail
  refine (front_any (b ++ a) P true w2 (by omega) (by rw [ByteArray.size_append]; omega)).mono ?_
  rintro e w3 ⟨rfl, hb3⟩
  have HB3 := hide (below_up HB2.out hb3 HB2.out.size)
  clear hb3
  rw [E1.out]
  go_wp2_with fail
  refine (back_any (a ++ b) P false w3 (by omega) (by rw [ByteArray.size_append]; omega)).mono ?_
  rintro e w4 ⟨rfl, hb4⟩
  have HB4 := hide (below_up HB3.out hb4 HB3.out.size)
  clear hb4
  rw [E2.out]
  go_wp2_with fail
  refine (front_any c P false w4 (by omega) (by omega)).mono ?_
  rintro e w5 ⟨rfl, hb5⟩
  have HB5 := hide (below_up HB4.out hb5 HB4.out.size)
  clear hb5 HB1 HB2 HB3 HB4 E1 E2
  rw [E3.out]
  by_cases h : b.size ≤ c.size ∧ c.extract 0 b.size = b
  · rw [if_pos h]
    have hlb := h.1
    have H := hide h
    clear h E3
    go_wp2_with fail
    refine (rbegins_true c b w5 H.out.1 H.out.2).mono ?_
    rintro e w6 ⟨rfl, rfl⟩
    go_wp2
    go_ret
    exact ⟨rfl, HB5.out⟩
  · rw [if_neg h]
    have H := hide h
    clear h E3
    go_wp2_with fail
    refine (rbegins_false c b w5 H.out).mono ?_
    rintro e w6 ⟨rfl, rfl⟩
    go_wp2
    go_ret
    exact ⟨rfl, HB5.out⟩
end Go.Proofs.Ythlboecjlelemaa
