/- Walks of the small functions of package glob: one, add, has, single. -/
import Derived.Test.YthlboecjlelemaaQBase
import Derived.Test.YthlboecjlelemaaGlobMath
namespace Go.Proofs.Ythlboecjlelemaa
open Go.RowKit Go.Deep Qm.Glob
attribute [local go_sem] bt_eq

set_option maxRecDepth 100000 in
set_option maxHeartbeats 400000 in
theorem one_any (s : ByteArray) (i : Nat) (w : World) (hs : s.size ≤ 1000) (h1 : i ≤ s.size) :
    Calls Try.prog 82 #[.string s, .int .i64 i] w fun e w' => e = .returned (.tuple #[.int .u8 (gOne (bt s) s.size i).1, .int .i64 (gOne (bt s) s.size i).2.1, .bool (gOne (bt s) s.size i).2.2]) ∧ w = w' := by
  go_enter Try.func82, Try.ntmps82
  go_wp2
  all_goals go_ret3
  all_goals refine ⟨?_, rfl⟩
  all_goals
    go_light
    simp only [beq_iff_eq, beq_eq_false_iff_ne, Array.getD_eq_getD_getElem?] at *
    simp [gOne, *]
  all_goals (repeat' split) <;> first | omega | (simp; done) | (simp; omega) | (exfalso; omega)

set_option maxRecDepth 100000 in
set_option maxHeartbeats 400000 in
theorem has_any (g : Nat) (S : Nat → Bool) (c : Nat) (w : World) (hc : c < 256) (h : w.cell? ⟨g, 1 + c / 64, none⟩ = some (.int .u64 (wd S (c / 64)))) :
    Calls Try.prog 64 #[.pointer (some ⟨g, 1, none⟩), .int .u8 c] w fun e w' => e = .returned (.bool (S c)) ∧ w = w' := by
  have hl := wd_lt S (c / 64)
  go_enter Try.func64, Try.ntmps64
  go_wp2
  go_ret
  refine ⟨?_, rfl⟩
  have e := u64_bit (wd S (c / 64)) (c % 64) hl
  have e2 := wd_has S c
  go_light
  show Ending.returned (.bool _) = _
  rw [e, ← e2]
  generalize wd S (c / 64) / 2 ^ (c % 64) = x
  congr 2
  rw [Bool.eq_iff_iff]
  simp only [beq_iff_eq]
  omega

set_option maxRecDepth 100000 in
set_option maxHeartbeats 400000 in
theorem add_any (g : Nat) (b0 : Bool) (S : Nat → Bool) (b1 : Bool) (c : Nat) (b2 : Bool) (lo hi : Nat) (w : World) (h1 : lo ≤ 255) (h2 : hi ≤ 255) (hr : w.rowIs g 69 8 (giCell b0 S b1 c b2)) :
    Calls Try.prog 65 #[.pointer (some ⟨g, 1, none⟩), .int .u8 lo, .int .u8 hi] w fun e w' => e = .returned (.tuple #[]) ∧ w'.rowIs g 69 8 (giCell b0 (addS S lo (hi + 1)) b1 c b2) ∧ w.grownBy w' (some g) := by
  have HR := hide hr
  clear hr
  go_enter Try.func65, Try.ntmps65
  go_wp2
  go_loopw [6] (fun i wr => ∃ k : Nat, i = .int .i64 k ∧ lo ≤ k ∧ (k = lo ∨ k ≤ hi + 1) ∧ wr.rowIs g 69 8 (giCell b0 (addS S lo k) b1 c b2) ∧ w.grownBy wr (some g)) (fun i _ => 256 - (intOf i).toNat)
  case atStart => exact ⟨lo, rfl, Nat.le_refl _, .inl rfl, by rw [addS_none _ _ _ (Nat.le_refl _)]; exact HR.out, World.grownBy.refl _ _⟩
  case round =>
    obtain ⟨k, rfl, hk, hk2, hc, hg⟩ := hrel
    have HK := hide hk2
    clear hk2
    by_cases hlt : k ≤ hi
    · have hcell := hc.cell (i := 1 + ((k : Int) / 64).toNat) (by omega)
      have hfr := hc.frozen (1 + ((k : Int) / 64).toNat)
      have H := hide hc
      have HG := hide hg
      clear hc hg
      have h40 : 0 ≤ (k : Int) / 64 := by omega
      have h41 : (k : Int) / 64 < 4 := by omega
      have hb := and63_i64 k (by omega)
      have hb2 : ((k % 64 : Nat) : Int) < 64 := by omega
      have hgc := giCell_word b0 (addS S lo k) b1 c b2 k (by omega)
      rw [hgc] at hcell
      clear hgc
      go_wp2
      go_still_tail 12, (by kernel_rfl)
      go_wp2
      go_roundw
      case rel =>
        have hl := wd_lt (addS S lo k) (k / 64)
        go_light
        rw [u64_or_pow _ _ hl (by omega), wd_step S lo k hk]
        refine ⟨k + 1, by go_num, by omega, by omega, ((H.out.set (1 + k / 64) _).drew).congr (fun j hj => ?_), gb_drew (gb_setCell HG.out _ _)⟩
        simp only [giCell]
        by_cases e : j = 1 + k / 64
        · subst e
          simp only [if_true]
          rw [if_neg (by omega), if_pos (by omega), show 1 + k / 64 - 1 = k / 64 from by omega]
        · rw [if_neg e]
          by_cases e0 : j = 0
          · simp [e0]
          · by_cases e5 : j < 5
            · rw [if_neg e0, if_pos e5, if_neg e0, if_pos e5, wd_other S lo k (j - 1) (by omega)]
            · rw [if_neg e0, if_neg e5, if_neg e0, if_neg e5]
      case measure => simp [intOf]; omega
    · have H := hide hc
      have HG := hide hg
      clear hc hg
      go_wp2
      go_end0
      refine ⟨rfl, H.out.congr (fun j _ => ?_), HG.out⟩
      rcases HK.out with e | e
      · rw [addS_none S lo (hi + 1) (by omega), addS_none S lo k (by omega)]
      · rw [show k = hi + 1 from by omega]
end Go.Proofs.Ythlboecjlelemaa
