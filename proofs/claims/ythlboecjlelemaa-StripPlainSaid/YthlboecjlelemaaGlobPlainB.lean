/- Plain facts on what some patterns' items are, and which texts they match; no program in sight. -/
import Derived.Test.YthlboecjlelemaaGlobPlain
namespace Qm.Glob
def noS : Nat → Bool := fun _ => false
theorem gBr_end {t : Nat → Nat} {n first : Nat} {nt : Bool} {f i : Nat} {S : Nat → Bool} (h : i < n) (h1 : t i = 93) (h2 : first < i) : gBr t n first nt (f + 1) i S = some (if nt then fun c => !S c else S, i + 1) := by
  rw [gBr, if_pos h, if_pos ⟨h1, h2⟩]
theorem gOne_plain {t : Nat → Nat} {n i : Nat} (h : i < n) (h1 : t i ≠ 92) : gOne t n i = (t i, i + 1, true) := by
  rw [gOne, if_neg (fun x => h1 x.2), if_pos h]
theorem gBr_range {t : Nat → Nat} {n first : Nat} {nt : Bool} {f i : Nat} {S : Nat → Bool} (h : i + 2 < n) (h1 : t i ≠ 92) (h2 : ¬ (t i = 93 ∧ first < i)) (h3 : t (i + 1) = 45) (h4 : t (i + 2) ≠ 93) (h5 : t (i + 2) ≠ 92) :
    gBr t n first nt (f + 1) i S = gBr t n first nt f (i + 3) (addS S (t i) (t (i + 2) + 1)) := by
  rw [gBr, if_pos (by omega), if_neg h2, gOne_plain (by omega) h1]
  simp only [if_true]
  rw [if_pos ⟨by omega, h3, h4⟩, gOne_plain (by omega) h5]
  simp
theorem gBr_byte {t : Nat → Nat} {n first : Nat} {nt : Bool} {f i : Nat} {S : Nat → Bool} (h : i < n) (h1 : t i ≠ 92) (h2 : ¬ (t i = 93 ∧ first < i)) (h3 : t (i + 1) ≠ 45) :
    gBr t n first nt (f + 1) i S = gBr t n first nt f (i + 1) (addS S (t i) (t i + 1)) := by
  rw [gBr, if_pos h, if_neg h2, gOne_plain h h1]
  simp only [if_true]
  rw [if_neg (fun x => h3 x.2.1)]
/-- the items of [lo-hi] -/
theorem items_range {t : Nat → Nat} {lo hi : Nat} (h0 : t 0 = 91) (h1 : t 1 = lo) (h2 : t 2 = 45) (h3 : t 3 = hi) (h4 : t 4 = 93) (a1 : lo ≠ 92) (a2 : hi ≠ 92) (a4 : hi ≠ 93) (a5 : lo ≠ 33) :
    gItems t 5 = [giSet (addS noS lo (hi + 1))] := by
  have hn : brNt t 5 1 = false := by simp [brNt, h1, a5]
  have ha : brAt t 5 1 = 1 := by simp [brAt, hn]
  have hb : gBracket t 5 1 = some (addS noS lo (hi + 1), 5) := by
    rw [gBracket, ha, hn, show 5 + 1 - 1 = 4 + 1 from rfl, gBr_range (by omega) (by rw [h1]; exact a1) (by omega) h2 (by rw [h3]; exact a4) (by rw [h3]; exact a2), h1, h3]
    rw [show (4 : Nat) = 3 + 1 from rfl, gBr_end (by omega) h4 (by omega)]
    rfl
  rw [gItems, gIt, if_pos (by omega), if_neg (by omega), if_neg (by omega), if_neg (by omega), if_pos h0, hb]
  simp only [gIt]
  simp
/-- the items of [!lo-hi] -/
theorem items_not {t : Nat → Nat} {lo hi : Nat} (h0 : t 0 = 91) (hx : t 1 = 33) (h1 : t 2 = lo) (h2 : t 3 = 45) (h3 : t 4 = hi) (h4 : t 5 = 93) (a1 : lo ≠ 92) (a2 : hi ≠ 92) (a4 : hi ≠ 93) :
    gItems t 6 = [giSet (fun c => !addS noS lo (hi + 1) c)] := by
  have hn : brNt t 6 1 = true := by simp [brNt, hx]
  have ha : brAt t 6 1 = 2 := by simp [brAt, hn]
  have hb : gBracket t 6 1 = some (fun c => !addS noS lo (hi + 1) c, 6) := by
    rw [gBracket, ha, hn, show 6 + 1 - 2 = 4 + 1 from rfl, gBr_range (by omega) (by rw [h1]; exact a1) (by omega) h2 (by rw [h3]; exact a4) (by rw [h3]; exact a2), h1, h3]
    rw [show (4 : Nat) = 3 + 1 from rfl, gBr_end (by omega) h4 (by omega)]
    rfl
  rw [gItems, gIt, if_pos (by omega), if_neg (by omega), if_neg (by omega), if_neg (by omega), if_pos h0, hb]
  simp only [gIt]
  simp
/-- the items of [lo hi] -/
theorem items_two {t : Nat → Nat} {lo hi : Nat} (h0 : t 0 = 91) (h1 : t 1 = lo) (h3 : t 2 = hi) (h4 : t 3 = 93) (a1 : lo ≠ 92) (a2 : hi ≠ 92) (a4 : hi ≠ 93) (a5 : lo ≠ 33) (a6 : hi ≠ 45) :
    gItems t 4 = [giSet (addS (addS noS lo (lo + 1)) hi (hi + 1))] := by
  have hn : brNt t 4 1 = false := by simp [brNt, h1, a5]
  have ha : brAt t 4 1 = 1 := by simp [brAt, hn]
  have hb : gBracket t 4 1 = some (addS (addS noS lo (lo + 1)) hi (hi + 1), 4) := by
    rw [gBracket, ha, hn, show 4 + 1 - 1 = 3 + 1 from rfl, gBr_byte (by omega) (by rw [h1]; exact a1) (by omega) (by rw [h3]; exact a6), h1]
    rw [show (3 : Nat) = 2 + 1 from rfl, gBr_byte (by omega) (by rw [h3]; exact a2) (by rw [h3]; exact fun x => a4 x.1) (by rw [h4]; omega), h3]
    rw [show (2 : Nat) = 1 + 1 from rfl, gBr_end (by omega) h4 (by omega)]
    rfl
  rw [gItems, gIt, if_pos (by omega), if_neg (by omega), if_neg (by omega), if_neg (by omega), if_pos h0, hb]
  simp only [gIt]
  simp
/-- one set matches one byte of it, nothing else -/
theorem E_set (S : Nat → Bool) (u : Nat → Nat) (m : Nat) :
    E (fun k => ([giSet S].getD k giStar).star) (fun k c => ([giSet S].getD k giStar).S c) u 1 m = (m == 1 && S (u 0)) := by
  match m with
  | 0 => rfl
  | 1 => rw [Ess, E00]; simp [giSet]
  | m + 2 => rw [Ess, E0s, E0s]; simp [giSet]
theorem addS_one (lo hi c : Nat) : addS noS lo (hi + 1) c = (decide (lo ≤ c) && decide (c ≤ hi)) := by
  have : decide (c < hi + 1) = decide (c ≤ hi) := by apply decide_eq_decide.2; omega
  simp [addS, noS, this]
theorem addS_two (lo hi c : Nat) : addS (addS noS lo (lo + 1)) hi (hi + 1) c = (c == lo || c == hi) := by
  rw [Bool.eq_iff_iff]
  simp [addS, noS]
  omega
end Qm.Glob
