/- Walk of package arith: reckon, operator by operator. -/
import Derived.Test.YtpjbklajjikgjaaDoorArithWalkD
namespace Go.Proofs.YtpjbklajjikgjaaDoor
open Go.RowKit Go.Deep

set_option maxRecDepth 100000 in
set_option maxHeartbeats 2000000 in
theorem reckon1 (g : Nat) (a b : Int) (w : World) : Calls Tryd.prog 37 #[.pointer (some ⟨g, 0, none⟩), .string ⟨#[124, 124]⟩, .int .i64 a, .int .i64 b] w fun e w' => e = .returned (.int .i64 (dopV 1 a b)) ∧ w = w' := by
  cases ha : (a != 0) with
  | false =>
    cases hb : (b != 0) with
    | false =>
      have HE := hide (show dopV 1 a b = trI false by show trI (a != 0 || b != 0) = _; rw [ha, hb]; rfl)
      go_enter Tryd.func37, Tryd.ntmps37
      go_wp2_with fail
      refine (truth_any false _).mono ?_
      rintro e w' ⟨rfl, rfl⟩
      go_wp2
      go_ret
      exact ⟨(ret_i HE.out).symm, rfl⟩
    | true =>
      have HE := hide (show dopV 1 a b = trI true by show trI (a != 0 || b != 0) = _; rw [ha, hb]; rfl)
      go_enter Tryd.func37, Tryd.ntmps37
      go_wp2_with fail
      refine (truth_any true _).mono ?_
      rintro e w' ⟨rfl, rfl⟩
      go_wp2
      go_ret
      exact ⟨(ret_i HE.out).symm, rfl⟩
  | true =>
    cases hb : (b != 0) with
    | false =>
      have HE := hide (show dopV 1 a b = trI true by show trI (a != 0 || b != 0) = _; rw [ha, hb]; rfl)
      go_enter Tryd.func37, Tryd.ntmps37
      go_wp2_with fail
      refine (truth_any true _).mono ?_
      rintro e w' ⟨rfl, rfl⟩
      go_wp2
      go_ret
      exact ⟨(ret_i HE.out).symm, rfl⟩
    | true =>
      have HE := hide (show dopV 1 a b = trI true by show trI (a != 0 || b != 0) = _; rw [ha, hb]; rfl)
      go_enter Tryd.func37, Tryd.ntmps37
      go_wp2_with fail
      refine (truth_any true _).mono ?_
      rintro e w' ⟨rfl, rfl⟩
      go_wp2
      go_ret
      exact ⟨(ret_i HE.out).symm, rfl⟩
set_option maxRecDepth 100000 in
set_option maxHeartbeats 2000000 in
theorem reckon2 (g : Nat) (a b : Int) (w : World) : Calls Tryd.prog 37 #[.pointer (some ⟨g, 0, none⟩), .string ⟨#[38, 38]⟩, .int .i64 a, .int .i64 b] w fun e w' => e = .returned (.int .i64 (dopV 2 a b)) ∧ w = w' := by
  cases ha : (a != 0) with
  | false =>
    cases hb : (b != 0) with
    | false =>
      have HE := hide (show dopV 2 a b = trI false by show trI (a != 0 && b != 0) = _; rw [ha, hb]; rfl)
      go_enter Tryd.func37, Tryd.ntmps37
      go_wp2_with fail
      refine (truth_any false _).mono ?_
      rintro e w' ⟨rfl, rfl⟩
      go_wp2
      go_ret
      exact ⟨(ret_i HE.out).symm, rfl⟩
    | true =>
      have HE := hide (show dopV 2 a b = trI false by show trI (a != 0 && b != 0) = _; rw [ha, hb]; rfl)
      go_enter Tryd.func37, Tryd.ntmps37
      go_wp2_with fail
      refine (truth_any false _).mono ?_
      rintro e w' ⟨rfl, rfl⟩
      go_wp2
      go_ret
      exact ⟨(ret_i HE.out).symm, rfl⟩
  | true =>
    cases hb : (b != 0) with
    | false =>
      have HE := hide (show dopV 2 a b = trI false by show trI (a != 0 && b != 0) = _; rw [ha, hb]; rfl)
      go_enter Tryd.func37, Tryd.ntmps37
      go_wp2_with fail
      refine (truth_any false _).mono ?_
      rintro e w' ⟨rfl, rfl⟩
      go_wp2
      go_ret
      exact ⟨(ret_i HE.out).symm, rfl⟩
    | true =>
      have HE := hide (show dopV 2 a b = trI true by show trI (a != 0 && b != 0) = _; rw [ha, hb]; rfl)
      go_enter Tryd.func37, Tryd.ntmps37
      go_wp2_with fail
      refine (truth_any true _).mono ?_
      rintro e w' ⟨rfl, rfl⟩
      go_wp2
      go_ret
      exact ⟨(ret_i HE.out).symm, rfl⟩
set_option maxRecDepth 100000 in
set_option maxHeartbeats 2000000 in
theorem reckon3 (g : Nat) (a b : Int) (w : World) : Calls Tryd.prog 37 #[.pointer (some ⟨g, 0, none⟩), .string ⟨#[124]⟩, .int .i64 a, .int .i64 b] w fun e w' => e = .returned (.int .i64 (dopV 3 a b)) ∧ w = w' := by
  go_enter Tryd.func37, Tryd.ntmps37
  go_wp2
  go_ret
  exact ⟨rfl, rfl⟩
set_option maxRecDepth 100000 in
set_option maxHeartbeats 2000000 in
theorem reckon4 (g : Nat) (a b : Int) (w : World) : Calls Tryd.prog 37 #[.pointer (some ⟨g, 0, none⟩), .string ⟨#[94]⟩, .int .i64 a, .int .i64 b] w fun e w' => e = .returned (.int .i64 (dopV 4 a b)) ∧ w = w' := by
  go_enter Tryd.func37, Tryd.ntmps37
  go_wp2
  go_ret
  exact ⟨rfl, rfl⟩
set_option maxRecDepth 100000 in
set_option maxHeartbeats 2000000 in
theorem reckon5 (g : Nat) (a b : Int) (w : World) : Calls Tryd.prog 37 #[.pointer (some ⟨g, 0, none⟩), .string ⟨#[38]⟩, .int .i64 a, .int .i64 b] w fun e w' => e = .returned (.int .i64 (dopV 5 a b)) ∧ w = w' := by
  go_enter Tryd.func37, Tryd.ntmps37
  go_wp2
  go_ret
  exact ⟨rfl, rfl⟩
set_option maxRecDepth 100000 in
set_option maxHeartbeats 2000000 in
theorem reckon6 (g : Nat) (a b : Int) (w : World) : Calls Tryd.prog 37 #[.pointer (some ⟨g, 0, none⟩), .string ⟨#[61, 61]⟩, .int .i64 a, .int .i64 b] w fun e w' => e = .returned (.int .i64 (dopV 6 a b)) ∧ w = w' := by
  go_enter Tryd.func37, Tryd.ntmps37
  go_wp2_with fail
  refine (truth_any (a == b) _).mono ?_
  rintro e w' ⟨rfl, rfl⟩
  go_wp2
  go_ret
  exact ⟨rfl, rfl⟩
set_option maxRecDepth 100000 in
set_option maxHeartbeats 2000000 in
theorem reckon7 (g : Nat) (a b : Int) (w : World) : Calls Tryd.prog 37 #[.pointer (some ⟨g, 0, none⟩), .string ⟨#[33, 61]⟩, .int .i64 a, .int .i64 b] w fun e w' => e = .returned (.int .i64 (dopV 7 a b)) ∧ w = w' := by
  go_enter Tryd.func37, Tryd.ntmps37
  go_wp2_with fail
  refine (truth_any (a != b) _).mono ?_
  rintro e w' ⟨rfl, rfl⟩
  go_wp2
  go_ret
  exact ⟨rfl, rfl⟩
set_option maxRecDepth 100000 in
set_option maxHeartbeats 2000000 in
theorem reckon8 (g : Nat) (a b : Int) (w : World) : Calls Tryd.prog 37 #[.pointer (some ⟨g, 0, none⟩), .string ⟨#[60, 61]⟩, .int .i64 a, .int .i64 b] w fun e w' => e = .returned (.int .i64 (dopV 8 a b)) ∧ w = w' := by
  go_enter Tryd.func37, Tryd.ntmps37
  go_wp2_with fail
  refine (truth_any (decide (a ≤ b)) _).mono ?_
  rintro e w' ⟨rfl, rfl⟩
  go_wp2
  go_ret
  exact ⟨rfl, rfl⟩
set_option maxRecDepth 100000 in
set_option maxHeartbeats 2000000 in
theorem reckon9 (g : Nat) (a b : Int) (w : World) : Calls Tryd.prog 37 #[.pointer (some ⟨g, 0, none⟩), .string ⟨#[62, 61]⟩, .int .i64 a, .int .i64 b] w fun e w' => e = .returned (.int .i64 (dopV 9 a b)) ∧ w = w' := by
  go_enter Tryd.func37, Tryd.ntmps37
  go_wp2_with fail
  refine (truth_any (decide (b ≤ a)) _).mono ?_
  rintro e w' ⟨rfl, rfl⟩
  go_wp2
  go_ret
  exact ⟨rfl, rfl⟩
set_option maxRecDepth 100000 in
set_option maxHeartbeats 2000000 in
theorem reckon10 (g : Nat) (a b : Int) (w : World) : Calls Tryd.prog 37 #[.pointer (some ⟨g, 0, none⟩), .string ⟨#[60]⟩, .int .i64 a, .int .i64 b] w fun e w' => e = .returned (.int .i64 (dopV 10 a b)) ∧ w = w' := by
  go_enter Tryd.func37, Tryd.ntmps37
  go_wp2_with fail
  refine (truth_any (decide (a < b)) _).mono ?_
  rintro e w' ⟨rfl, rfl⟩
  go_wp2
  go_ret
  exact ⟨rfl, rfl⟩
set_option maxRecDepth 100000 in
set_option maxHeartbeats 2000000 in
theorem reckon11 (g : Nat) (a b : Int) (w : World) : Calls Tryd.prog 37 #[.pointer (some ⟨g, 0, none⟩), .string ⟨#[62]⟩, .int .i64 a, .int .i64 b] w fun e w' => e = .returned (.int .i64 (dopV 11 a b)) ∧ w = w' := by
  go_enter Tryd.func37, Tryd.ntmps37
  go_wp2_with fail
  refine (truth_any (decide (b < a)) _).mono ?_
  rintro e w' ⟨rfl, rfl⟩
  go_wp2
  go_ret
  exact ⟨rfl, rfl⟩
set_option maxRecDepth 100000 in
set_option maxHeartbeats 2000000 in
theorem reckon12 (g : Nat) (a b : Int) (w : World) : Calls Tryd.prog 37 #[.pointer (some ⟨g, 0, none⟩), .string ⟨#[60, 60]⟩, .int .i64 a, .int .i64 b] w fun e w' => e = .returned (.int .i64 (dopV 12 a b)) ∧ w = w' := by
  go_enter Tryd.func37, Tryd.ntmps37
  go_wp2_with fail
  refine (shl_any a b _).mono ?_
  rintro e w' ⟨rfl, rfl⟩
  go_wp2
  go_ret
  exact ⟨rfl, rfl⟩
set_option maxRecDepth 100000 in
set_option maxHeartbeats 2000000 in
theorem reckon13 (g : Nat) (a b : Int) (w : World) : Calls Tryd.prog 37 #[.pointer (some ⟨g, 0, none⟩), .string ⟨#[62, 62]⟩, .int .i64 a, .int .i64 b] w fun e w' => e = .returned (.int .i64 (dopV 13 a b)) ∧ w = w' := by
  go_enter Tryd.func37, Tryd.ntmps37
  go_wp2_with fail
  refine (shr_any a b _).mono ?_
  rintro e w' ⟨rfl, rfl⟩
  go_wp2
  go_ret
  exact ⟨rfl, rfl⟩
set_option maxRecDepth 100000 in
set_option maxHeartbeats 2000000 in
theorem reckon14 (g : Nat) (a b : Int) (w : World) : Calls Tryd.prog 37 #[.pointer (some ⟨g, 0, none⟩), .string ⟨#[43]⟩, .int .i64 a, .int .i64 b] w fun e w' => e = .returned (.int .i64 (dopV 14 a b)) ∧ w = w' := by
  go_enter Tryd.func37, Tryd.ntmps37
  go_wp2
  go_ret
  exact ⟨rfl, rfl⟩
set_option maxRecDepth 100000 in
set_option maxHeartbeats 2000000 in
theorem reckon15 (g : Nat) (a b : Int) (w : World) : Calls Tryd.prog 37 #[.pointer (some ⟨g, 0, none⟩), .string ⟨#[45]⟩, .int .i64 a, .int .i64 b] w fun e w' => e = .returned (.int .i64 (dopV 15 a b)) ∧ w = w' := by
  go_enter Tryd.func37, Tryd.ntmps37
  go_wp2
  go_ret
  exact ⟨rfl, rfl⟩
set_option maxRecDepth 100000 in
set_option maxHeartbeats 2000000 in
theorem reckon16 (g : Nat) (a b : Int) (w : World) : Calls Tryd.prog 37 #[.pointer (some ⟨g, 0, none⟩), .string ⟨#[42]⟩, .int .i64 a, .int .i64 b] w fun e w' => e = .returned (.int .i64 (dopV 16 a b)) ∧ w = w' := by
  go_enter Tryd.func37, Tryd.ntmps37
  go_wp2
  go_ret
  exact ⟨rfl, rfl⟩
set_option maxRecDepth 100000 in
set_option maxHeartbeats 2000000 in
theorem reckon17 (g : Nat) (s : ByteArray) (i : Nat) (lv : Value) (d : Nat) (z : Bool) (a b : Int) (w : World) (h : RD w g s i lv d z) : Calls Tryd.prog 37 #[.pointer (some ⟨g, 0, none⟩), .string ⟨#[47]⟩, .int .i64 a, .int .i64 b] w fun e w' => e = .returned (.int .i64 (dopV 17 a b)) ∧ RD w' g s i lv d (dopZ 17 b z) ∧ Gr w w' g := by
  have H := hide h
  clear h
  go_enter Tryd.func37, Tryd.ntmps37
  go_wp2_with fail
  refine (quo_any g s i lv d z a b _ H.out).mono ?_
  rintro e w' ⟨rfl, h1, h2⟩
  have H1 := hide h1
  have H2 := hide h2
  clear h1 h2
  go_wp2
  go_ret
  exact ⟨rfl, H1.out, H2.out⟩
set_option maxRecDepth 100000 in
set_option maxHeartbeats 2000000 in
theorem reckon18 (g : Nat) (s : ByteArray) (i : Nat) (lv : Value) (d : Nat) (z : Bool) (a b : Int) (w : World) (h : RD w g s i lv d z) : Calls Tryd.prog 37 #[.pointer (some ⟨g, 0, none⟩), .string ⟨#[37]⟩, .int .i64 a, .int .i64 b] w fun e w' => e = .returned (.int .i64 (dopV 18 a b)) ∧ RD w' g s i lv d (dopZ 18 b z) ∧ Gr w w' g := by
  have H := hide h
  clear h
  go_enter Tryd.func37, Tryd.ntmps37
  go_wp2_with fail
  refine (rem_any g s i lv d z a b _ H.out).mono ?_
  rintro e w' ⟨rfl, h1, h2⟩
  have H1 := hide h1
  have H2 := hide h2
  clear h1 h2
  go_wp2
  go_ret
  exact ⟨rfl, H1.out, H2.out⟩
theorem reckon_any (c : Nat) (h0 : 1 ≤ c) (h1 : c ≤ 18) (g : Nat) (s : ByteArray) (i : Nat) (lv : Value) (d : Nat) (z : Bool) (a b : Int) (w : World) (h : RD w g s i lv d z) :
    Calls Tryd.prog 37 #[.pointer (some ⟨g, 0, none⟩), .string (opS c), .int .i64 a, .int .i64 b] w fun e w' => e = .returned (.int .i64 (dopV c a b)) ∧ RD w' g s i lv d (dopZ c b z) ∧ Gr w w' g := by
  have key : ∀ (c : Nat), c ≠ 17 → c ≠ 18 → ∀ (e : Ending) (w' : World), (e = .returned (.int .i64 (dopV c a b)) ∧ w = w') → e = .returned (.int .i64 (dopV c a b)) ∧ RD w' g s i lv d (dopZ c b z) ∧ Gr w w' g := by
    rintro c h1 h2 e w' ⟨rfl, rfl⟩
    exact ⟨rfl, by rw [dopZ, if_neg (fun x => by omega)]; exact h, Gr.refl _ _⟩
  match c, h0, h1 with
  | 1, _, _ => exact (reckon1 g a b w).mono (key 1 (by decide) (by decide))
  | 2, _, _ => exact (reckon2 g a b w).mono (key 2 (by decide) (by decide))
  | 3, _, _ => exact (reckon3 g a b w).mono (key 3 (by decide) (by decide))
  | 4, _, _ => exact (reckon4 g a b w).mono (key 4 (by decide) (by decide))
  | 5, _, _ => exact (reckon5 g a b w).mono (key 5 (by decide) (by decide))
  | 6, _, _ => exact (reckon6 g a b w).mono (key 6 (by decide) (by decide))
  | 7, _, _ => exact (reckon7 g a b w).mono (key 7 (by decide) (by decide))
  | 8, _, _ => exact (reckon8 g a b w).mono (key 8 (by decide) (by decide))
  | 9, _, _ => exact (reckon9 g a b w).mono (key 9 (by decide) (by decide))
  | 10, _, _ => exact (reckon10 g a b w).mono (key 10 (by decide) (by decide))
  | 11, _, _ => exact (reckon11 g a b w).mono (key 11 (by decide) (by decide))
  | 12, _, _ => exact (reckon12 g a b w).mono (key 12 (by decide) (by decide))
  | 13, _, _ => exact (reckon13 g a b w).mono (key 13 (by decide) (by decide))
  | 14, _, _ => exact (reckon14 g a b w).mono (key 14 (by decide) (by decide))
  | 15, _, _ => exact (reckon15 g a b w).mono (key 15 (by decide) (by decide))
  | 16, _, _ => exact (reckon16 g a b w).mono (key 16 (by decide) (by decide))
  | 17, _, _ => exact reckon17 g s i lv d z a b w h
  | 18, _, _ => exact reckon18 g s i lv d z a b w h
  | c + 19, _, h => omega
end Go.Proofs.YtpjbklajjikgjaaDoor
