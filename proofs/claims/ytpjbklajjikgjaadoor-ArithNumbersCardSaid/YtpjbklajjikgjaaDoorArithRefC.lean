/- Walks of the reference's arith: fail, truth, shift, do, level, number. -/
import Derived.Test.YtpjbklajjikgjaaDoorArithRefA
namespace Go.Proofs.YtpjbklajjikgjaaDoor
open Go.RowKit Go.Deep

/-- the first error stays -/
def badF (b c : Nat) : Nat := if b = 0 then c else b
set_option maxRecDepth 100000 in
set_option maxHeartbeats 2000000 in
theorem rfail_any (g : Nat) (s : ByteArray) (lv : Value) (i d b : Nat) (z : Bool) (c : Nat) (w : World) (h : RR w g s lv i d b z) : Calls Tryd.prog 48 #[.pointer (some ⟨g, 0, none⟩), .int .i64 c] w fun e w' => e = .returned (.int .i64 0) ∧ RR w' g s lv i d (badF b c) z ∧ Gr w w' g := by
  have H := hide h
  have hc4 := h.c4
  have hf := h.fz 4
  clear h
  by_cases hb : b = 0
  · have hb2 : (((b : Nat) : Int) == 0) = true := by rw [hb]; rfl
    have HB := hide hb
    clear hb
    go_enter Tryd.func48, Tryd.ntmps48
    go_wp2
    go_ret
    exact ⟨rfl, by rw [badF, if_pos HB.out]; exact H.out.setb c, gb_setCell (Gr.refl _ _) _ _⟩
  · have hb2 : (((b : Nat) : Int) == 0) = false := by simp only [beq_eq_false_iff_ne]; omega
    have HB := hide hb
    clear hb
    go_enter Tryd.func48, Tryd.ntmps48
    go_wp2
    go_ret
    exact ⟨rfl, by rw [badF, if_neg HB.out]; exact H.out, Gr.refl _ _⟩
set_option maxRecDepth 100000 in
set_option maxHeartbeats 2000000 in
theorem rtruth_any (b : Bool) (w : World) : Calls Tryd.prog 40 #[.bool b] w fun e w' => e = .returned (.int .i64 (trI b)) ∧ w = w' := by
  cases b <;>
  · go_enter Tryd.func40, Tryd.ntmps40
    go_wp2
    go_ret
    exact ⟨rfl, rfl⟩
set_option maxRecDepth 100000 in
set_option maxHeartbeats 2000000 in
theorem rshl_any (a b : Int) (w : World) : Calls Tryd.prog 41 #[.int .i64 a, .int .i64 b, .bool true] w fun e w' => e = .returned (.int .i64 (dopV 12 a b)) ∧ w = w' := by
  by_cases h : 0 ≤ b ∧ b ≤ 63
  · have HE := hide (show dopV 12 a b = wrap64 (a * 2 ^ b.toNat) from if_pos h)
    obtain ⟨h0, h1⟩ := h
    go_enter Tryd.func41, Tryd.ntmps41
    go_wp2
    go_ret
    exact ⟨(ret_i HE.out).symm, rfl⟩
  · have HE := hide (show dopV 12 a b = 0 from if_neg h)
    by_cases h0 : 0 ≤ b
    · have h1 : 63 < b := by omega
      clear h
      go_enter Tryd.func41, Tryd.ntmps41
      go_wp2
      go_ret
      exact ⟨(ret_i HE.out).symm, rfl⟩
    · clear h
      go_enter Tryd.func41, Tryd.ntmps41
      go_wp2
      go_ret
      exact ⟨(ret_i HE.out).symm, rfl⟩
set_option maxRecDepth 100000 in
set_option maxHeartbeats 2000000 in
theorem rshr_any (a b : Int) (w : World) : Calls Tryd.prog 41 #[.int .i64 a, .int .i64 b, .bool false] w fun e w' => e = .returned (.int .i64 (dopV 13 a b)) ∧ w = w' := by
  by_cases h : 0 ≤ b ∧ b ≤ 63
  · have HE := hide (show dopV 13 a b = a / 2 ^ b.toNat from if_pos h)
    obtain ⟨h0, h1⟩ := h
    go_enter Tryd.func41, Tryd.ntmps41
    go_wp2
    go_ret
    exact ⟨(ret_i HE.out).symm, rfl⟩
  · have HE := hide (show dopV 13 a b = if a < 0 then -1 else 0 from if_neg h)
    by_cases ha : a < 0
    · have HF := hide (HE.out.trans (if_pos ha))
      by_cases h0 : 0 ≤ b
      · have h1 : 63 < b := by omega
        clear h
        go_enter Tryd.func41, Tryd.ntmps41
        go_wp2
        go_ret
        exact ⟨(ret_i HF.out).symm, rfl⟩
      · clear h
        go_enter Tryd.func41, Tryd.ntmps41
        go_wp2
        go_ret
        exact ⟨(ret_i HF.out).symm, rfl⟩
    · have HF := hide (HE.out.trans (if_neg ha))
      by_cases h0 : 0 ≤ b
      · have h1 : 63 < b := by omega
        clear h
        go_enter Tryd.func41, Tryd.ntmps41
        go_wp2
        go_ret
        exact ⟨(ret_i HF.out).symm, rfl⟩
      · clear h
        go_enter Tryd.func41, Tryd.ntmps41
        go_wp2
        go_ret
        exact ⟨(ret_i HF.out).symm, rfl⟩
set_option maxRecDepth 100000 in
set_option maxHeartbeats 2000000 in
theorem rdo1 (g : Nat) (a b : Int) (w : World) : Calls Tryd.prog 29 #[.pointer (some ⟨g, 0, none⟩), .string ⟨#[124, 124]⟩, .int .i64 a, .int .i64 b] w fun e w' => e = .returned (.int .i64 (dopV 1 a b)) ∧ w = w' := by
  cases ha : (a != 0) with
  | false =>
    cases hb : (b != 0) with
    | false =>
      have HE := hide (show dopV 1 a b = trI false by show trI (a != 0 || b != 0) = _; rw [ha, hb]; rfl)
      go_enter Tryd.func29, Tryd.ntmps29
      go_wp2_with fail
      refine (rtruth_any false _).mono ?_
      rintro e w' ⟨rfl, rfl⟩
      go_wp2
      go_ret
      exact ⟨(ret_i HE.out).symm, rfl⟩
    | true =>
      have HE := hide (show dopV 1 a b = trI true by show trI (a != 0 || b != 0) = _; rw [ha, hb]; rfl)
      go_enter Tryd.func29, Tryd.ntmps29
      go_wp2_with fail
      refine (rtruth_any true _).mono ?_
      rintro e w' ⟨rfl, rfl⟩
      go_wp2
      go_ret
      exact ⟨(ret_i HE.out).symm, rfl⟩
  | true =>
    cases hb : (b != 0) with
    | false =>
      have HE := hide (show dopV 1 a b = trI true by show trI (a != 0 || b != 0) = _; rw [ha, hb]; rfl)
      go_enter Tryd.func29, Tryd.ntmps29
      go_wp2_with fail
      refine (rtruth_any true _).mono ?_
      rintro e w' ⟨rfl, rfl⟩
      go_wp2
      go_ret
      exact ⟨(ret_i HE.out).symm, rfl⟩
    | true =>
      have HE := hide (show dopV 1 a b = trI true by show trI (a != 0 || b != 0) = _; rw [ha, hb]; rfl)
      go_enter Tryd.func29, Tryd.ntmps29
      go_wp2_with fail
      refine (rtruth_any true _).mono ?_
      rintro e w' ⟨rfl, rfl⟩
      go_wp2
      go_ret
      exact ⟨(ret_i HE.out).symm, rfl⟩
set_option maxRecDepth 100000 in
set_option maxHeartbeats 2000000 in
theorem rdo2 (g : Nat) (a b : Int) (w : World) : Calls Tryd.prog 29 #[.pointer (some ⟨g, 0, none⟩), .string ⟨#[38, 38]⟩, .int .i64 a, .int .i64 b] w fun e w' => e = .returned (.int .i64 (dopV 2 a b)) ∧ w = w' := by
  cases ha : (a != 0) with
  | false =>
    cases hb : (b != 0) with
    | false =>
      have HE := hide (show dopV 2 a b = trI false by show trI (a != 0 && b != 0) = _; rw [ha, hb]; rfl)
      go_enter Tryd.func29, Tryd.ntmps29
      go_wp2_with fail
      refine (rtruth_any false _).mono ?_
      rintro e w' ⟨rfl, rfl⟩
      go_wp2
      go_ret
      exact ⟨(ret_i HE.out).symm, rfl⟩
    | true =>
      have HE := hide (show dopV 2 a b = trI false by show trI (a != 0 && b != 0) = _; rw [ha, hb]; rfl)
      go_enter Tryd.func29, Tryd.ntmps29
      go_wp2_with fail
      refine (rtruth_any false _).mono ?_
      rintro e w' ⟨rfl, rfl⟩
      go_wp2
      go_ret
      exact ⟨(ret_i HE.out).symm, rfl⟩
  | true =>
    cases hb : (b != 0) with
    | false =>
      have HE := hide (show dopV 2 a b = trI false by show trI (a != 0 && b != 0) = _; rw [ha, hb]; rfl)
      go_enter Tryd.func29, Tryd.ntmps29
      go_wp2_with fail
      refine (rtruth_any false _).mono ?_
      rintro e w' ⟨rfl, rfl⟩
      go_wp2
      go_ret
      exact ⟨(ret_i HE.out).symm, rfl⟩
    | true =>
      have HE := hide (show dopV 2 a b = trI true by show trI (a != 0 && b != 0) = _; rw [ha, hb]; rfl)
      go_enter Tryd.func29, Tryd.ntmps29
      go_wp2_with fail
      refine (rtruth_any true _).mono ?_
      rintro e w' ⟨rfl, rfl⟩
      go_wp2
      go_ret
      exact ⟨(ret_i HE.out).symm, rfl⟩
set_option maxRecDepth 100000 in
set_option maxHeartbeats 2000000 in
theorem rdo3 (g : Nat) (a b : Int) (w : World) : Calls Tryd.prog 29 #[.pointer (some ⟨g, 0, none⟩), .string ⟨#[124]⟩, .int .i64 a, .int .i64 b] w fun e w' => e = .returned (.int .i64 (dopV 3 a b)) ∧ w = w' := by
  go_enter Tryd.func29, Tryd.ntmps29
  go_wp2
  go_ret
  exact ⟨rfl, rfl⟩
set_option maxRecDepth 100000 in
set_option maxHeartbeats 2000000 in
theorem rdo4 (g : Nat) (a b : Int) (w : World) : Calls Tryd.prog 29 #[.pointer (some ⟨g, 0, none⟩), .string ⟨#[94]⟩, .int .i64 a, .int .i64 b] w fun e w' => e = .returned (.int .i64 (dopV 4 a b)) ∧ w = w' := by
  go_enter Tryd.func29, Tryd.ntmps29
  go_wp2
  go_ret
  exact ⟨rfl, rfl⟩
set_option maxRecDepth 100000 in
set_option maxHeartbeats 2000000 in
theorem rdo5 (g : Nat) (a b : Int) (w : World) : Calls Tryd.prog 29 #[.pointer (some ⟨g, 0, none⟩), .string ⟨#[38]⟩, .int .i64 a, .int .i64 b] w fun e w' => e = .returned (.int .i64 (dopV 5 a b)) ∧ w = w' := by
  go_enter Tryd.func29, Tryd.ntmps29
  go_wp2
  go_ret
  exact ⟨rfl, rfl⟩
set_option maxRecDepth 100000 in
set_option maxHeartbeats 2000000 in
theorem rdo6 (g : Nat) (a b : Int) (w : World) : Calls Tryd.prog 29 #[.pointer (some ⟨g, 0, none⟩), .string ⟨#[61, 61]⟩, .int .i64 a, .int .i64 b] w fun e w' => e = .returned (.int .i64 (dopV 6 a b)) ∧ w = w' := by
  go_enter Tryd.func29, Tryd.ntmps29
  go_wp2_with fail
  refine (rtruth_any (a == b) _).mono ?_
  rintro e w' ⟨rfl, rfl⟩
  go_wp2
  go_ret
  exact ⟨rfl, rfl⟩
set_option maxRecDepth 100000 in
set_option maxHeartbeats 2000000 in
theorem rdo7 (g : Nat) (a b : Int) (w : World) : Calls Tryd.prog 29 #[.pointer (some ⟨g, 0, none⟩), .string ⟨#[33, 61]⟩, .int .i64 a, .int .i64 b] w fun e w' => e = .returned (.int .i64 (dopV 7 a b)) ∧ w = w' := by
  go_enter Tryd.func29, Tryd.ntmps29
  go_wp2_with fail
  refine (rtruth_any (a != b) _).mono ?_
  rintro e w' ⟨rfl, rfl⟩
  go_wp2
  go_ret
  exact ⟨rfl, rfl⟩
set_option maxRecDepth 100000 in
set_option maxHeartbeats 2000000 in
theorem rdo8 (g : Nat) (a b : Int) (w : World) : Calls Tryd.prog 29 #[.pointer (some ⟨g, 0, none⟩), .string ⟨#[60, 61]⟩, .int .i64 a, .int .i64 b] w fun e w' => e = .returned (.int .i64 (dopV 8 a b)) ∧ w = w' := by
  go_enter Tryd.func29, Tryd.ntmps29
  go_wp2_with fail
  refine (rtruth_any (decide (a ≤ b)) _).mono ?_
  rintro e w' ⟨rfl, rfl⟩
  go_wp2
  go_ret
  exact ⟨rfl, rfl⟩
set_option maxRecDepth 100000 in
set_option maxHeartbeats 2000000 in
theorem rdo9 (g : Nat) (a b : Int) (w : World) : Calls Tryd.prog 29 #[.pointer (some ⟨g, 0, none⟩), .string ⟨#[62, 61]⟩, .int .i64 a, .int .i64 b] w fun e w' => e = .returned (.int .i64 (dopV 9 a b)) ∧ w = w' := by
  go_enter Tryd.func29, Tryd.ntmps29
  go_wp2_with fail
  refine (rtruth_any (decide (b ≤ a)) _).mono ?_
  rintro e w' ⟨rfl, rfl⟩
  go_wp2
  go_ret
  exact ⟨rfl, rfl⟩
set_option maxRecDepth 100000 in
set_option maxHeartbeats 2000000 in
theorem rdo10 (g : Nat) (a b : Int) (w : World) : Calls Tryd.prog 29 #[.pointer (some ⟨g, 0, none⟩), .string ⟨#[60]⟩, .int .i64 a, .int .i64 b] w fun e w' => e = .returned (.int .i64 (dopV 10 a b)) ∧ w = w' := by
  go_enter Tryd.func29, Tryd.ntmps29
  go_wp2_with fail
  refine (rtruth_any (decide (a < b)) _).mono ?_
  rintro e w' ⟨rfl, rfl⟩
  go_wp2
  go_ret
  exact ⟨rfl, rfl⟩
set_option maxRecDepth 100000 in
set_option maxHeartbeats 2000000 in
theorem rdo11 (g : Nat) (a b : Int) (w : World) : Calls Tryd.prog 29 #[.pointer (some ⟨g, 0, none⟩), .string ⟨#[62]⟩, .int .i64 a, .int .i64 b] w fun e w' => e = .returned (.int .i64 (dopV 11 a b)) ∧ w = w' := by
  go_enter Tryd.func29, Tryd.ntmps29
  go_wp2_with fail
  refine (rtruth_any (decide (b < a)) _).mono ?_
  rintro e w' ⟨rfl, rfl⟩
  go_wp2
  go_ret
  exact ⟨rfl, rfl⟩
set_option maxRecDepth 100000 in
set_option maxHeartbeats 2000000 in
theorem rdo12 (g : Nat) (a b : Int) (w : World) : Calls Tryd.prog 29 #[.pointer (some ⟨g, 0, none⟩), .string ⟨#[60, 60]⟩, .int .i64 a, .int .i64 b] w fun e w' => e = .returned (.int .i64 (dopV 12 a b)) ∧ w = w' := by
  go_enter Tryd.func29, Tryd.ntmps29
  go_wp2_with fail
  refine (rshl_any a b _).mono ?_
  rintro e w' ⟨rfl, rfl⟩
  go_wp2
  go_ret
  exact ⟨rfl, rfl⟩
set_option maxRecDepth 100000 in
set_option maxHeartbeats 2000000 in
theorem rdo13 (g : Nat) (a b : Int) (w : World) : Calls Tryd.prog 29 #[.pointer (some ⟨g, 0, none⟩), .string ⟨#[62, 62]⟩, .int .i64 a, .int .i64 b] w fun e w' => e = .returned (.int .i64 (dopV 13 a b)) ∧ w = w' := by
  go_enter Tryd.func29, Tryd.ntmps29
  go_wp2_with fail
  refine (rshr_any a b _).mono ?_
  rintro e w' ⟨rfl, rfl⟩
  go_wp2
  go_ret
  exact ⟨rfl, rfl⟩
set_option maxRecDepth 100000 in
set_option maxHeartbeats 2000000 in
theorem rdo14 (g : Nat) (a b : Int) (w : World) : Calls Tryd.prog 29 #[.pointer (some ⟨g, 0, none⟩), .string ⟨#[43]⟩, .int .i64 a, .int .i64 b] w fun e w' => e = .returned (.int .i64 (dopV 14 a b)) ∧ w = w' := by
  go_enter Tryd.func29, Tryd.ntmps29
  go_wp2
  go_ret
  exact ⟨rfl, rfl⟩
set_option maxRecDepth 100000 in
set_option maxHeartbeats 2000000 in
theorem rdo15 (g : Nat) (a b : Int) (w : World) : Calls Tryd.prog 29 #[.pointer (some ⟨g, 0, none⟩), .string ⟨#[45]⟩, .int .i64 a, .int .i64 b] w fun e w' => e = .returned (.int .i64 (dopV 15 a b)) ∧ w = w' := by
  go_enter Tryd.func29, Tryd.ntmps29
  go_wp2
  go_ret
  exact ⟨rfl, rfl⟩
set_option maxRecDepth 100000 in
set_option maxHeartbeats 2000000 in
theorem rdo16 (g : Nat) (a b : Int) (w : World) : Calls Tryd.prog 29 #[.pointer (some ⟨g, 0, none⟩), .string ⟨#[42]⟩, .int .i64 a, .int .i64 b] w fun e w' => e = .returned (.int .i64 (dopV 16 a b)) ∧ w = w' := by
  go_enter Tryd.func29, Tryd.ntmps29
  go_wp2
  go_ret
  exact ⟨rfl, rfl⟩
set_option maxRecDepth 100000 in
set_option maxHeartbeats 2000000 in
theorem rdo17 (g : Nat) (s : ByteArray) (lv : Value) (i d bd : Nat) (z : Bool) (a b : Int) (w : World) (h : RR w g s lv i d bd z) : Calls Tryd.prog 29 #[.pointer (some ⟨g, 0, none⟩), .string ⟨#[47]⟩, .int .i64 a, .int .i64 b] w fun e w' => e = .returned (.int .i64 (dopV 17 a b)) ∧ RR w' g s lv i d bd (dopZ 17 b z) ∧ Gr w w' g := by
  have H := hide h
  have hc5 := h.c5
  have hf := h.fz 5
  clear h
  by_cases hb : b = 0
  · subst hb
    go_enter Tryd.func29, Tryd.ntmps29
    go_wp2
    go_ret
    exact ⟨rfl, H.out.setz true, gb_setCell (Gr.refl _ _) _ _⟩
  · have HE := hide (show dopV 17 a b = wrap64 (a.tdiv b) from if_neg hb)
    have HZ := hide (show dopZ 17 b z = z from if_neg (fun c => hb c.2))
    have hb2 : (b == 0) = false := by simpa using hb
    go_enter Tryd.func29, Tryd.ntmps29
    go_wp2
    go_ret
    exact ⟨(ret_i HE.out).symm, by rw [HZ.out]; exact H.out, Gr.refl _ _⟩
set_option maxRecDepth 100000 in
set_option maxHeartbeats 2000000 in
theorem rdo18 (g : Nat) (s : ByteArray) (lv : Value) (i d bd : Nat) (z : Bool) (a b : Int) (w : World) (h : RR w g s lv i d bd z) : Calls Tryd.prog 29 #[.pointer (some ⟨g, 0, none⟩), .string ⟨#[37]⟩, .int .i64 a, .int .i64 b] w fun e w' => e = .returned (.int .i64 (dopV 18 a b)) ∧ RR w' g s lv i d bd (dopZ 18 b z) ∧ Gr w w' g := by
  have H := hide h
  have hc5 := h.c5
  have hf := h.fz 5
  clear h
  by_cases hb : b = 0
  · subst hb
    go_enter Tryd.func29, Tryd.ntmps29
    go_wp2
    go_ret
    exact ⟨rfl, H.out.setz true, gb_setCell (Gr.refl _ _) _ _⟩
  · have HE := hide (show dopV 18 a b = a.tmod b from if_neg hb)
    have HZ := hide (show dopZ 18 b z = z from if_neg (fun c => hb c.2))
    have hb2 : (b == 0) = false := by simpa using hb
    go_enter Tryd.func29, Tryd.ntmps29
    go_wp2
    go_ret
    exact ⟨(ret_i HE.out).symm, by rw [HZ.out]; exact H.out, Gr.refl _ _⟩
theorem rdo_any (c : Nat) (h0 : 1 ≤ c) (h1 : c ≤ 18) (g : Nat) (s : ByteArray) (lv : Value) (i d bd : Nat) (z : Bool) (a b : Int) (w : World) (h : RR w g s lv i d bd z) :
    Calls Tryd.prog 29 #[.pointer (some ⟨g, 0, none⟩), .string (opS c), .int .i64 a, .int .i64 b] w fun e w' => e = .returned (.int .i64 (dopV c a b)) ∧ RR w' g s lv i d bd (dopZ c b z) ∧ Gr w w' g := by
  have key : ∀ (c : Nat), c ≠ 17 → c ≠ 18 → ∀ (e : Ending) (w' : World), (e = .returned (.int .i64 (dopV c a b)) ∧ w = w') → e = .returned (.int .i64 (dopV c a b)) ∧ RR w' g s lv i d bd (dopZ c b z) ∧ Gr w w' g := by
    rintro c h1 h2 e w' ⟨rfl, rfl⟩
    exact ⟨rfl, by rw [dopZ, if_neg (fun x => by omega)]; exact h, Gr.refl _ _⟩
  match c, h0, h1 with
  | 1, _, _ => exact (rdo1 g a b w).mono (key 1 (by decide) (by decide))
  | 2, _, _ => exact (rdo2 g a b w).mono (key 2 (by decide) (by decide))
  | 3, _, _ => exact (rdo3 g a b w).mono (key 3 (by decide) (by decide))
  | 4, _, _ => exact (rdo4 g a b w).mono (key 4 (by decide) (by decide))
  | 5, _, _ => exact (rdo5 g a b w).mono (key 5 (by decide) (by decide))
  | 6, _, _ => exact (rdo6 g a b w).mono (key 6 (by decide) (by decide))
  | 7, _, _ => exact (rdo7 g a b w).mono (key 7 (by decide) (by decide))
  | 8, _, _ => exact (rdo8 g a b w).mono (key 8 (by decide) (by decide))
  | 9, _, _ => exact (rdo9 g a b w).mono (key 9 (by decide) (by decide))
  | 10, _, _ => exact (rdo10 g a b w).mono (key 10 (by decide) (by decide))
  | 11, _, _ => exact (rdo11 g a b w).mono (key 11 (by decide) (by decide))
  | 12, _, _ => exact (rdo12 g a b w).mono (key 12 (by decide) (by decide))
  | 13, _, _ => exact (rdo13 g a b w).mono (key 13 (by decide) (by decide))
  | 14, _, _ => exact (rdo14 g a b w).mono (key 14 (by decide) (by decide))
  | 15, _, _ => exact (rdo15 g a b w).mono (key 15 (by decide) (by decide))
  | 16, _, _ => exact (rdo16 g a b w).mono (key 16 (by decide) (by decide))
  | 17, _, _ => exact rdo17 g s lv i d bd z a b w h
  | 18, _, _ => exact rdo18 g s lv i d bd z a b w h
  | c + 19, _, h => omega
end Go.Proofs.YtpjbklajjikgjaaDoor
