/- Walks of the reference of chapter 18: blank, odd, trim, comment. -/
import Derived.Test.YtkocnbehogefnaaDoorLinesWalkC
namespace Go.Proofs.YtkocnbehogefnaaDoor
open Go.RowKit Go.Deep Ln
attribute [local go_sem] bt_eq

theorem trR_cons2 (p : UInt8 → Bool) (c : UInt8) (l : List UInt8) : ((c :: l).reverse.dropWhile p).reverse = if l.reverse.dropWhile p = [] then (if p c = true then [] else [c]) else c :: (l.reverse.dropWhile p).reverse := by
  rw [List.reverse_cons, List.dropWhile_append]
  by_cases h : l.reverse.dropWhile p = []
  · rw [if_pos h, h]
    simp only [List.isEmpty_nil, if_true, List.dropWhile_cons]
    split
    · rfl
    · rfl
  · rw [if_neg h, if_neg (by simpa using h), List.reverse_append]
    rfl
theorem trim_comm2 (p : UInt8 → Bool) : ∀ l : List UInt8, (((l.reverse.dropWhile p).reverse).dropWhile p) = (((l.dropWhile p).reverse.dropWhile p).reverse)
  | [] => rfl
  | c :: l => by
    have ih := trim_comm2 p l
    by_cases hc : p c = true
    · have e : (c :: l).dropWhile p = l.dropWhile p := by rw [List.dropWhile_cons, if_pos hc]
      rw [e, ← ih, trR_cons2]
      by_cases h : l.reverse.dropWhile p = []
      · rw [if_pos h, h, if_pos hc]; rfl
      · rw [if_neg h, List.dropWhile_cons, if_pos hc]
    · have e : (c :: l).dropWhile p = c :: l := by rw [List.dropWhile_cons, if_neg hc]
      rw [e, trR_cons2, if_neg hc]
      by_cases h : l.reverse.dropWhile p = []
      · rw [if_pos h, List.dropWhile_cons, if_neg hc]
      · rw [if_neg h, List.dropWhile_cons, if_neg hc]
theorem trimRL (l : T) : trimR (trimL l) = trimL (trimR l) := (trim_comm2 blk l).symm
def blkN (n : Nat) : Bool := n == 32 || n == 9
theorem blkN_bt (c : UInt8) : blkN c.toNat = blk c := by
  unfold blkN blk
  have h : ∀ k : UInt8, (c.toNat == k.toNat) = (c == k) := fun k => by
    rw [Bool.eq_iff_iff, beq_iff_eq, beq_iff_eq]
    exact UInt8.toNat_inj
  rw [← h 32, ← h 9]; rfl
set_option maxRecDepth 100000 in
set_option maxHeartbeats 1000000 in
theorem rblank_any (n : Nat) (w : World) : Calls Tryd.prog 18 #[.int .u8 n] w fun e w' => e = .returned (.bool (blkN n)) ∧ w = w' := by
  have HB := hide (show blkN n = (n == 32 || n == 9) from rfl)
  by_cases h1 : n = 32
  · subst h1
    go_enter Tryd.func18, Tryd.ntmps18
    go_wp2
    go_ret
    exact ⟨rfl, rfl⟩
  · have t1 : (((n : Nat) : Int) == 32) = false := by simp; omega
    by_cases h2 : n = 9
    · subst h2
      go_enter Tryd.func18, Tryd.ntmps18
      go_wp2
      go_ret
      exact ⟨rfl, rfl⟩
    · have t2 : (((n : Nat) : Int) == 9) = false := by simp; omega
      have hb : blkN n = false := by simp [blkN, h1, h2]
      rw [hb]
      clear h1 h2 HB hb
      go_enter Tryd.func18, Tryd.ntmps18
      go_wp2
      go_ret
      exact ⟨rfl, rfl⟩
theorem takeWhile_is {p : UInt8 → Bool} : ∀ (r : T) (k : Nat), k ≤ r.length → (∀ j c, j < k → r[j]? = some c → p c = true) → (∀ c, r[k]? = some c → p c = false) → (r.takeWhile p).length = k
  | [], k, hk, _, _ => by simp at hk; simp [hk]
  | c :: r, 0, _, _, h2 => by rw [List.takeWhile_cons, if_neg (by rw [h2 c rfl]; decide)]; rfl
  | c :: r, k + 1, hk, h1, h2 => by
    rw [List.takeWhile_cons, if_pos (h1 0 c (by omega) rfl), List.length_cons, takeWhile_is r k (by simpa using hk) (fun j d hj hd => h1 (j + 1) d (by omega) (by simpa using hd)) (fun d hd => h2 d (by simpa using hd))]
theorem rev_get (l : T) (j : Nat) (hj : j < l.length) : l.reverse[j]? = some (l.getD (l.length - 1 - j) 0) := by
  rw [List.getElem?_reverse hj]
  simp [show l.length - 1 - j < l.length by omega]
set_option maxRecDepth 100000 in
set_option maxHeartbeats 1000000 in
theorem rodd_any (l : T) (w : World) (h : l.length ≤ 1000000) : Calls Tryd.prog 17 #[.string (bs l)] w fun e w' => e = .returned (.bool (oddB l)) ∧ w = w' := by
  have hz : (bs l).size = l.length := bs_size l
  have hz1 : (bs l).size ≤ 1000000 := by omega
  have HZ := hide hz
  have HO := hide (show oddB l = ((l.reverse.takeWhile (· == 92)).length % 2 == 1) from rfl)
  clear hz
  go_enter Tryd.func17, Tryd.ntmps17
  go_wp2
  go_loop [3] (fun v3 => ∃ k : Nat, v3 = .int .i64 k ∧ k ≤ (bs l).size ∧ Hid (∀ j c, j < k → l.reverse[j]? = some c → (c == 92) = true)) (fun v3 => (bs l).size - (intOf v3).toNat)
  case atStart => exact ⟨0, rfl, by omega, hide (fun j c hj => by omega)⟩
  case round =>
    obtain ⟨k, rfl, hk, HA⟩ := hrel
    by_cases hlt : k < (bs l).size
    · have q := getD_nat l ((bs l).size - 1 - k) 92 (by omega)
      have hrv := rev_get l k (by have := HZ.out; omega)
      rw [← HZ.out] at hrv
      have hi1 : (0 : Int) ≤ ((bs l).size : Int) - 1 - (k : Int) := by omega
      have hi2 : (((bs l).size : Int) - 1 - (k : Int)).toNat = (bs l).size - 1 - k := by omega
      have hi3 : ((bs l).size : Int) - 1 - (k : Int) < ((bs l).size : Int) := by omega
      by_cases e92 : l.getD ((bs l).size - 1 - k) 0 = 92
      · have t92 : (((bt (bs l) ((bs l).size - 1 - k) : Nat) : Int) == 92) = true := by rw [show (92 : Int) = ((92 : Nat) : Int) from rfl, q]; simpa using e92
        have HA2 := hide (show ∀ j c, j < k + 1 → l.reverse[j]? = some c → (c == 92) = true from fun j c hj hc => by
          by_cases e : j = k
          · subst e; rw [hrv] at hc; injection hc with hc; rw [← hc, e92]; rfl
          · exact HA.out j c (by omega) hc)
        clear q hrv e92
        go_wp2
        go_round
        case rel => exact ⟨k + 1, by go_num, by omega, HA2⟩
        case measure => simp [intOf]; omega
      · have t92 : (((bt (bs l) ((bs l).size - 1 - k) : Nat) : Int) == 92) = false := by rw [show (92 : Int) = ((92 : Nat) : Int) from rfl, q]; simpa using e92
        have hT := takeWhile_is (p := (· == 92)) l.reverse k (by rw [List.length_reverse, ← HZ.out]; omega) HA.out (fun c hc => by rw [hrv] at hc; injection hc with hc; rw [← hc]; simpa using e92)
        have HR := hide (show oddB l = (((k : Int) % 2) == 1) by rw [HO.out, hT, Bool.eq_iff_iff]; simp; omega)
        clear q hrv e92 hT
        go_wp2
        go_ret
        refine ⟨?_, rfl⟩
        rw [HR.out]
        rfl
    · obtain rfl : k = (bs l).size := by omega
      have hT := takeWhile_is (p := (· == 92)) l.reverse (bs l).size (by rw [List.length_reverse, ← HZ.out]; omega) HA.out (fun c hc => by
        have := (List.getElem?_eq_some_iff.1 hc).1
        rw [List.length_reverse, ← HZ.out] at this; omega)
      have HR := hide (show oddB l = ((((bs l).size : Int) % 2) == 1) by rw [HO.out, hT, Bool.eq_iff_iff]; simp; omega)
      clear hT
      go_wp2
      go_ret
      refine ⟨?_, rfl⟩
      rw [HR.out]
      rfl
end Go.Proofs.YtkocnbehogefnaaDoor
