/- Walks of package arith: truth, shift, divide, reckon. -/
import Derived.Test.YtpjbklajjikgjaaDoorArithWalkC
namespace Go.Proofs.YtpjbklajjikgjaaDoor
open Go.RowKit Go.Deep

/-- 1 or 0 -/
def trI (b : Bool) : Int := if b = true then 1 else 0
set_option maxRecDepth 100000 in
set_option maxHeartbeats 400000 in
theorem truth_any (b : Bool) (w : World) : Calls Tryd.prog 44 #[.bool b] w fun e w' => e = .returned (.int .i64 (trI b)) ∧ w = w' := by
  cases b <;>
  · go_enter Tryd.func44, Tryd.ntmps44
    go_wp2
    go_ret
    exact ⟨rfl, rfl⟩
/-- an operator's text -/
def opS : Nat → ByteArray
  | 1 => ⟨#[124, 124]⟩
  | 2 => ⟨#[38, 38]⟩
  | 3 => ⟨#[124]⟩
  | 4 => ⟨#[94]⟩
  | 5 => ⟨#[38]⟩
  | 6 => ⟨#[61, 61]⟩
  | 7 => ⟨#[33, 61]⟩
  | 8 => ⟨#[60, 61]⟩
  | 9 => ⟨#[62, 61]⟩
  | 10 => ⟨#[60]⟩
  | 11 => ⟨#[62]⟩
  | 12 => ⟨#[60, 60]⟩
  | 13 => ⟨#[62, 62]⟩
  | 14 => ⟨#[43]⟩
  | 15 => ⟨#[45]⟩
  | 16 => ⟨#[42]⟩
  | 17 => ⟨#[47]⟩
  | 18 => ⟨#[37]⟩
  | 19 => ⟨#[33]⟩
  | 20 => ⟨#[126]⟩
  | 21 => ⟨#[40]⟩
  | 22 => ⟨#[41]⟩
  | _ => ⟨#[]⟩
/-- what it comes to between two -/
def dopV (c : Nat) (a b : Int) : Int := match c with
  | 1 => trI (a != 0 || b != 0)
  | 2 => trI (a != 0 && b != 0)
  | 3 => bits .or .i64 a b
  | 4 => bits .xor .i64 a b
  | 5 => bits .and .i64 a b
  | 6 => trI (a == b)
  | 7 => trI (a != b)
  | 8 => trI (decide (a ≤ b))
  | 9 => trI (decide (b ≤ a))
  | 10 => trI (decide (a < b))
  | 11 => trI (decide (b < a))
  | 12 => if 0 ≤ b ∧ b ≤ 63 then wrap64 (a * 2 ^ b.toNat) else 0
  | 13 => if 0 ≤ b ∧ b ≤ 63 then a / 2 ^ b.toNat else if a < 0 then -1 else 0
  | 14 => wrap64 (a + b)
  | 15 => wrap64 (a - b)
  | 16 => wrap64 (a * b)
  | 17 => if b = 0 then 0 else wrap64 (a.tdiv b)
  | 18 => if b = 0 then 0 else a.tmod b
  | _ => 0
/-- was something divided by nought? -/
def dopZ (c : Nat) (b : Int) (z : Bool) : Bool := if (c = 17 ∨ c = 18) ∧ b = 0 then true else z
theorem ret_i {a b : Int} (h : a = b) : Ending.returned (.int .i64 a) = .returned (.int .i64 b) := by rw [h]
set_option maxRecDepth 100000 in
set_option maxHeartbeats 800000 in
theorem shl_any (a b : Int) (w : World) : Calls Tryd.prog 45 #[.string ⟨#[60, 60]⟩, .int .i64 a, .int .i64 b] w fun e w' => e = .returned (.int .i64 (dopV 12 a b)) ∧ w = w' := by
  by_cases h : 0 ≤ b ∧ b ≤ 63
  · have HE := hide (show dopV 12 a b = wrap64 (a * 2 ^ b.toNat) from if_pos h)
    obtain ⟨h0, h1⟩ := h
    go_enter Tryd.func45, Tryd.ntmps45
    go_wp2
    go_ret
    exact ⟨(ret_i HE.out).symm, rfl⟩
  · have HE := hide (show dopV 12 a b = 0 from if_neg h)
    by_cases h0 : 0 ≤ b
    · have h1 : 63 < b := by omega
      clear h
      go_enter Tryd.func45, Tryd.ntmps45
      go_wp2
      go_ret
      exact ⟨(ret_i HE.out).symm, rfl⟩
    · clear h
      go_enter Tryd.func45, Tryd.ntmps45
      go_wp2
      go_ret
      exact ⟨(ret_i HE.out).symm, rfl⟩
set_option maxRecDepth 100000 in
set_option maxHeartbeats 800000 in
theorem shr_any (a b : Int) (w : World) : Calls Tryd.prog 45 #[.string ⟨#[62, 62]⟩, .int .i64 a, .int .i64 b] w fun e w' => e = .returned (.int .i64 (dopV 13 a b)) ∧ w = w' := by
  by_cases h : 0 ≤ b ∧ b ≤ 63
  · have HE := hide (show dopV 13 a b = a / 2 ^ b.toNat from if_pos h)
    obtain ⟨h0, h1⟩ := h
    go_enter Tryd.func45, Tryd.ntmps45
    go_wp2
    go_ret
    exact ⟨(ret_i HE.out).symm, rfl⟩
  · have HE := hide (show dopV 13 a b = if a < 0 then -1 else 0 from if_neg h)
    by_cases ha : a < 0
    · have HF := hide (HE.out.trans (if_pos ha))
      by_cases h0 : 0 ≤ b
      · have h1 : 63 < b := by omega
        clear h
        go_enter Tryd.func45, Tryd.ntmps45
        go_wp2
        go_ret
        exact ⟨(ret_i HF.out).symm, rfl⟩
      · clear h
        go_enter Tryd.func45, Tryd.ntmps45
        go_wp2
        go_ret
        exact ⟨(ret_i HF.out).symm, rfl⟩
    · have HF := hide (HE.out.trans (if_neg ha))
      by_cases h0 : 0 ≤ b
      · have h1 : 63 < b := by omega
        clear h
        go_enter Tryd.func45, Tryd.ntmps45
        go_wp2
        go_ret
        exact ⟨(ret_i HF.out).symm, rfl⟩
      · clear h
        go_enter Tryd.func45, Tryd.ntmps45
        go_wp2
        go_ret
        exact ⟨(ret_i HF.out).symm, rfl⟩
set_option maxRecDepth 100000 in
set_option maxHeartbeats 800000 in
theorem quo_any (g : Nat) (s : ByteArray) (i : Nat) (lv : Value) (d : Nat) (z : Bool) (a b : Int) (w : World) (h : RD w g s i lv d z) : Calls Tryd.prog 46 #[.pointer (some ⟨g, 0, none⟩), .string ⟨#[47]⟩, .int .i64 a, .int .i64 b] w fun e w' => e = .returned (.int .i64 (dopV 17 a b)) ∧ RD w' g s i lv d (dopZ 17 b z) ∧ Gr w w' g := by
  have H := hide h
  have hc4 := h.c4
  have hf := h.fz 4
  clear h
  by_cases hb : b = 0
  · subst hb
    go_enter Tryd.func46, Tryd.ntmps46
    go_wp2
    go_ret
    exact ⟨rfl, H.out.setz true, gb_setCell (Gr.refl _ _) _ _⟩
  · have HE := hide (show dopV 17 a b = wrap64 (a.tdiv b) from if_neg hb)
    have HZ := hide (show dopZ 17 b z = z from if_neg (fun c => hb c.2))
    have hb2 : (b == 0) = false := by simpa using hb
    go_enter Tryd.func46, Tryd.ntmps46
    go_wp2
    go_ret
    exact ⟨(ret_i HE.out).symm, by rw [HZ.out]; exact H.out, Gr.refl _ _⟩
set_option maxRecDepth 100000 in
set_option maxHeartbeats 800000 in
theorem rem_any (g : Nat) (s : ByteArray) (i : Nat) (lv : Value) (d : Nat) (z : Bool) (a b : Int) (w : World) (h : RD w g s i lv d z) : Calls Tryd.prog 46 #[.pointer (some ⟨g, 0, none⟩), .string ⟨#[37]⟩, .int .i64 a, .int .i64 b] w fun e w' => e = .returned (.int .i64 (dopV 18 a b)) ∧ RD w' g s i lv d (dopZ 18 b z) ∧ Gr w w' g := by
  have H := hide h
  have hc4 := h.c4
  have hf := h.fz 4
  clear h
  by_cases hb : b = 0
  · subst hb
    go_enter Tryd.func46, Tryd.ntmps46
    go_wp2
    go_ret
    exact ⟨rfl, H.out.setz true, gb_setCell (Gr.refl _ _) _ _⟩
  · have HE := hide (show dopV 18 a b = a.tmod b from if_neg hb)
    have HZ := hide (show dopZ 18 b z = z from if_neg (fun c => hb c.2))
    have hb2 : (b == 0) = false := by simpa using hb
    go_enter Tryd.func46, Tryd.ntmps46
    go_wp2
    go_ret
    exact ⟨(ret_i HE.out).symm, by rw [HZ.out]; exact H.out, Gr.refl _ _⟩
end Go.Proofs.YtpjbklajjikgjaaDoor
