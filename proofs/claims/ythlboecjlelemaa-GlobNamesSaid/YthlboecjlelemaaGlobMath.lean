/- Plain facts on sets of bytes as four words and on the glob program's parser and matcher; no program in sight. -/
import Derived.Below
import Derived.Laws.AppendOwn
namespace Qm.Glob
/-- the number whose bits below n are told by g -/
def wdn (g : Nat → Bool) : Nat → Nat
  | 0 => 0
  | n + 1 => wdn g n + (if g n then 2 ^ n else 0)
theorem wdn_lt (g : Nat → Bool) (n : Nat) : wdn g n < 2 ^ n := by
  induction n with
  | zero => simp [wdn]
  | succ n ih => simp only [wdn, Nat.pow_succ]; split <;> omega
theorem testBit_wdn (g : Nat → Bool) (n b : Nat) : (wdn g n).testBit b = (decide (b < n) && g b) := by
  induction n with
  | zero => simp [wdn]
  | succ n ih =>
    simp only [wdn]
    have hl := wdn_lt g n
    split
    · rename_i h
      rw [Nat.add_comm]
      by_cases hb : b < n
      · rw [Nat.testBit_two_pow_add_gt hb, ih]; simp [hb]; intro; omega
      · by_cases e : b = n
        · subst e; rw [Nat.testBit_two_pow_add_eq, ih]; simp [h]
        · have : 2 ^ n + wdn g n < 2 ^ b := by
            have : 2 ^ (n + 1) ≤ 2 ^ b := Nat.pow_le_pow_right (by omega) (by omega)
            rw [Nat.pow_succ] at this; omega
          rw [Nat.testBit_lt_two_pow this]
          have : ¬ b < n + 1 := by omega
          simp [this]
    · rename_i h
      rw [Nat.add_zero, ih]
      by_cases hb : b < n
      · have : b < n + 1 := by omega
        simp [hb, this]
      · by_cases e : b = n
        · subst e; simp [h]
        · have : ¬ b < n + 1 := by omega
          simp [hb, this]
/-- word j of a set of bytes -/
def wd (S : Nat → Bool) (j : Nat) : Nat := wdn (fun b => S (64 * j + b)) 64
theorem wd_lt (S : Nat → Bool) (j : Nat) : wd S j < 18446744073709551616 := by
  have := wdn_lt (fun b => S (64 * j + b)) 64
  simpa [wd] using this
theorem testBit_wd (S : Nat → Bool) (j b : Nat) : (wd S j).testBit b = (decide (b < 64) && S (64 * j + b)) := testBit_wdn _ _ _
def addS (S : Nat → Bool) (lo k : Nat) : Nat → Bool := fun c => S c || (decide (lo ≤ c) && decide (c < k))
theorem addS_none (S : Nat → Bool) (lo k : Nat) (h : k ≤ lo) : addS S lo k = S := by
  funext c
  simp only [addS]
  by_cases h1 : lo ≤ c <;> by_cases h2 : c < k <;> simp [h1, h2]
  omega
theorem wd_congr {S T : Nat → Bool} {j : Nat} (h : ∀ b, b < 64 → S (64 * j + b) = T (64 * j + b)) : wd S j = wd T j := by
  apply Nat.eq_of_testBit_eq
  intro b
  rw [testBit_wd, testBit_wd]
  by_cases hb : b < 64
  · rw [h b hb]
  · simp [hb]
theorem wd_step (S : Nat → Bool) (lo k : Nat) (h : lo ≤ k) : wd (addS S lo k) (k / 64) ||| 2 ^ (k % 64) = wd (addS S lo (k + 1)) (k / 64) := by
  apply Nat.eq_of_testBit_eq
  intro b
  rw [Nat.testBit_or, testBit_wd, testBit_wd, Nat.testBit_two_pow]
  by_cases hb : b < 64
  · simp only [hb, decide_true, Bool.true_and, addS]
    by_cases e : k % 64 = b
    · have e1 : 64 * (k / 64) + b = k := by omega
      rw [e1]
      simp [e, h]
    · have h1 : (decide (64 * (k / 64) + b < k + 1)) = decide (64 * (k / 64) + b < k) := by
        apply decide_eq_decide.2; omega
      rw [h1]
      simp [e]
  · have : k % 64 ≠ b := by omega
    simp [hb, this]
theorem wd_other (S : Nat → Bool) (lo k j : Nat) (h : j ≠ k / 64) : wd (addS S lo (k + 1)) j = wd (addS S lo k) j := by
  apply wd_congr
  intro b hb
  simp only [addS]
  have h1 : (decide (64 * j + b < k + 1)) = decide (64 * j + b < k) := by
    apply decide_eq_decide.2; omega
  rw [h1]
theorem wd_has (S : Nat → Bool) (c : Nat) : ((wd S (c / 64) / 2 ^ (c % 64)) % 2 == 1) = S c := by
  have h := testBit_wd S (c / 64) (c % 64)
  rw [Nat.testBit_eq_decide_div_mod_eq] at h
  have h2 : c % 64 < 64 := Nat.mod_lt _ (by omega)
  have h3 : 64 * (c / 64) + c % 64 = c := by omega
  rw [h3] at h
  simp only [h2, decide_true, Bool.true_and] at h
  rw [← h]
  rfl
theorem wd_not (S : Nat → Bool) (j : Nat) : 18446744073709551615 - wd S j = wd (fun c => !S c) j := by
  have hl := wd_lt S j
  apply Nat.eq_of_testBit_eq
  intro b
  have e : 18446744073709551615 - wd S j = 2 ^ 64 - (wd S j + 1) := by omega
  rw [e, Nat.testBit_two_pow_sub_succ (by simpa using hl), testBit_wd, testBit_wd]
  by_cases hb : b < 64 <;> simp [hb]
/-- one byte of a set: the byte, the place behind it, is there one -/
def gOne (t : Nat → Nat) (n i : Nat) : Nat × Nat × Bool :=
  if i < n ∧ t i = 92 then (if i + 1 < n then (t (i + 1), i + 2, true) else (0, i + 1, false))
  else (if i < n then (t i, i + 1, true) else (0, i, false))
/-- the cells of an Item: star, four words, plain, byte, closed -/
def giCell (b0 : Bool) (S : Nat → Bool) (b1 : Bool) (c : Nat) (b2 : Bool) (i : Nat) : Go.Value :=
  if i = 0 then .bool b0 else if i < 5 then .int .u64 (wd S (i - 1)) else if i = 5 then .bool b1 else if i = 6 then .int .u8 c else .bool b2
def giAgg (b0 : Bool) (S : Nat → Bool) (b1 : Bool) (c : Nat) (b2 : Bool) : Array Go.Value :=
  #[.bool b0, .int .u64 (wd S 0), .int .u64 (wd S 1), .int .u64 (wd S 2), .int .u64 (wd S 3), .bool b1, .int .u8 c, .bool b2]
theorem giCell_word (b0 : Bool) (S : Nat → Bool) (b1 : Bool) (c : Nat) (b2 : Bool) (k : Nat) (h : k / 64 < 4) : giCell b0 S b1 c b2 (1 + ((k : Int) / 64).toNat) = .int .u64 (wd S (k / 64)) := by
  have e : ((k : Int) / 64).toNat = k / 64 := by omega
  rw [e]
  unfold giCell
  rw [if_neg (by omega), if_pos (by omega), show 1 + k / 64 - 1 = k / 64 from by omega]
theorem giCell_word' (b0 : Bool) (S : Nat → Bool) (b1 : Bool) (c : Nat) (b2 : Bool) (k : Nat) (h : k < 4) : giCell b0 S b1 c b2 (1 + k) = .int .u64 (wd S k) := by
  unfold giCell
  rw [if_neg (by omega), if_pos (by omega), show 1 + k - 1 = k from by omega]
theorem gOne_ok {t : Nat → Nat} {n i : Nat} (h : (gOne t n i).2.2 = true) : i < (gOne t n i).2.1 ∧ (gOne t n i).2.1 ≤ n := by
  revert h
  unfold gOne
  (repeat' split) <;> simp <;> omega
theorem gOne_lt {t : Nat → Nat} {n i : Nat} (ht : ∀ j, t j < 256) : (gOne t n i).1 < 256 := by
  have h1 := ht i
  have h2 := ht (i + 1)
  unfold gOne
  (repeat' split) <;> simp <;> omega
/-- the set behind a bracket: its bytes, and the place behind it -/
def gBr (t : Nat → Nat) (n first : Nat) (nt : Bool) : Nat → Nat → (Nat → Bool) → Option ((Nat → Bool) × Nat)
  | 0, _, _ => none
  | f + 1, i, S =>
    if i < n then
      if t i = 93 ∧ first < i then some (if nt then fun c => !S c else S, i + 1)
      else if (gOne t n i).2.2 = true then
        if (gOne t n i).2.1 + 1 < n ∧ t (gOne t n i).2.1 = 45 ∧ t ((gOne t n i).2.1 + 1) ≠ 93 then
          if (gOne t n ((gOne t n i).2.1 + 1)).2.2 = true then gBr t n first nt f (gOne t n ((gOne t n i).2.1 + 1)).2.1 (addS S (gOne t n i).1 ((gOne t n ((gOne t n i).2.1 + 1)).1 + 1))
          else none
        else gBr t n first nt f (gOne t n i).2.1 (addS S (gOne t n i).1 ((gOne t n i).1 + 1))
      else none
    else none
def brNt (t : Nat → Nat) (n i : Nat) : Bool := decide (i < n) && (t i == 33)
def brAt (t : Nat → Nat) (n i : Nat) : Nat := if brNt t n i then i + 1 else i
def gBracket (t : Nat → Nat) (n i : Nat) : Option ((Nat → Bool) × Nat) := gBr t n (brAt t n i) (brNt t n i) (n + 1 - brAt t n i) (brAt t n i) (fun _ => false)
/-- an item: star, set, plain, byte, closed -/
structure GI where
  star : Bool
  S : Nat → Bool
  plain : Bool
  c : Nat
  closed : Bool
def GI.cells (x : GI) : List Go.Value := (giAgg x.star x.S x.plain x.c x.closed).toList
def giCells (l : List GI) : List Go.Value := l.flatMap GI.cells
def giStar : GI := ⟨true, fun _ => false, false, 0, false⟩
def giAny : GI := ⟨false, addS (fun _ => false) 0 256, false, 0, false⟩
def giOne (c : Nat) : GI := ⟨false, addS (fun _ => false) c (c + 1), true, c, false⟩
def giSet (S : Nat → Bool) : GI := ⟨false, S, false, 0, true⟩
/-- what a pattern wants, from place i on -/
def gIt (t : Nat → Nat) (n : Nat) : Nat → Nat → List GI
  | 0, _ => []
  | f + 1, i =>
    if i < n then
      if t i = 42 then giStar :: gIt t n f (i + 1)
      else if t i = 63 then giAny :: gIt t n f (i + 1)
      else if t i = 92 then (if i + 1 < n then giOne (t (i + 1)) :: gIt t n f (i + 2) else giOne 92 :: gIt t n f (i + 1))
      else if t i = 91 then
        match gBracket t n (i + 1) with
        | some x => giSet x.1 :: gIt t n f x.2
        | none => giOne 91 :: gIt t n f (i + 1)
      else giOne (t i) :: gIt t n f (i + 1)
    else []
def gItems (t : Nat → Nat) (n : Nat) : List GI := gIt t n (n + 1) 0
theorem gBr_le {t : Nat → Nat} {n first : Nat} {nt : Bool} : ∀ (f i : Nat) (S : Nat → Bool) (x : (Nat → Bool) × Nat), gBr t n first nt f i S = some x → i < x.2 ∧ x.2 ≤ n
  | 0, _, _, _, h => by simp [gBr] at h
  | f + 1, i, S, x, h => by
    rw [gBr] at h
    by_cases h1 : i < n
    · rw [if_pos h1] at h
      by_cases h2 : t i = 93 ∧ first < i
      · rw [if_pos h2] at h
        injection h with h
        subst h
        exact ⟨by simp, by simp; omega⟩
      · rw [if_neg h2] at h
        by_cases h3 : (gOne t n i).2.2 = true
        · rw [if_pos h3] at h
          have g := gOne_ok h3
          split at h
          · split at h
            · rename_i h5
              have g2 := gOne_ok h5
              have := gBr_le f _ _ _ h
              omega
            · cases h
          · have := gBr_le f _ _ _ h
            omega
        · rw [if_neg h3] at h
          cases h
    · rw [if_neg h1] at h
      cases h
theorem brAt_ge (t : Nat → Nat) (n i : Nat) : i ≤ brAt t n i := by unfold brAt; split <;> omega
theorem gBracket_le {t : Nat → Nat} {n i : Nat} {x : (Nat → Bool) × Nat} (h : gBracket t n i = some x) : i < x.2 ∧ x.2 ≤ n := by
  have := gBr_le _ _ _ _ h
  have := brAt_ge t n i
  omega
theorem gi_one' (x : GI) : ∀ u ∈ x.cells, u.oneCell' = true := by
  intro u hu
  simp only [GI.cells, giAgg, List.mem_cons, List.not_mem_nil, or_false] at hu
  rcases hu with rfl | rfl | rfl | rfl | rfl | rfl | rfl | rfl <;> rfl
theorem giCells_snoc (l : List GI) (x : GI) : giCells (l ++ [x]) = giCells l ++ x.cells := by simp [giCells]
/-- is one of f 0 .. f i true -/
def scan (f : Nat → Bool) : Nat → Bool
  | 0 => f 0
  | i + 1 => f (i + 1) || scan f i
/-- do the first k of the items match the first i bytes -/
def E (st : Nat → Bool) (hs : Nat → Nat → Bool) (t : Nat → Nat) : Nat → Nat → Bool
  | 0, i => i == 0
  | k + 1, i => if st k then scan (E st hs t k) i else match i with
    | 0 => false
    | i + 1 => E st hs t k i && hs k (t i)
def Av (st : Nat → Bool) (hs : Nat → Nat → Bool) (t : Nat → Nat) (n k i : Nat) : Bool := if (decide (k < n) && st k) = true then E st hs t (k + 1) i else E st hs t k i
def Bv (st : Nat → Bool) (hs : Nat → Nat → Bool) (t : Nat → Nat) (n k : Nat) : Nat → Bool
  | 0 => decide (k = 0)
  | i + 1 => if k = 0 then Av st hs t n 0 i && (decide (0 < n) && st 0) else (Av st hs t n (k - 1) i && (!st (k - 1)) && hs (k - 1) (t i)) || (decide (k < n) && st k && Av st hs t n k i)
section
variable {st : Nat → Bool} {hs : Nat → Nat → Bool} {t : Nat → Nat}
theorem E00 : E st hs t 0 0 = true := rfl
theorem E0s (i : Nat) : E st hs t 0 (i + 1) = false := rfl
theorem Es0 (k : Nat) : E st hs t (k + 1) 0 = (st k && E st hs t k 0) := by
  rw [E]
  cases st k <;> simp [scan]
theorem Ess (k i : Nat) : E st hs t (k + 1) (i + 1) = (if st k then E st hs t k (i + 1) || E st hs t (k + 1) i else E st hs t k i && hs k (t i)) := by
  rw [E]
  cases h : st k with
  | true =>
    have e : E st hs t (k + 1) i = scan (E st hs t k) i := by
      show (if st k = true then scan (E st hs t k) i else _) = _
      rw [if_pos h]
    rw [e]; simp [scan]
  | false => simp
theorem Av_top (n i : Nat) : Av st hs t n n i = E st hs t n i := by simp [Av]
theorem Av_zero (n i : Nat) : Av st hs t n 0 i = Bv st hs t n 0 i := by
  cases i with
  | zero =>
    simp only [Bv, decide_true, Av]
    split
    · rename_i h
      simp only [Bool.and_eq_true, decide_eq_true_eq] at h
      rw [Es0, E00, h.2]; rfl
    · exact E00
  | succ i =>
    simp only [Bv, if_true, Av]
    by_cases h : (decide (0 < n) && st 0) = true
    · rw [if_pos h, if_pos h, Ess, E0s, h]
      have : st 0 = true := by simp at h; exact h.2
      simp [this]
    · rw [if_neg h, E0s]
      have : (decide (0 < n) && st 0) = false := by simpa using h
      simp [this]
theorem Av_succ (n k i : Nat) (hk : k < n) : Av st hs t n (k + 1) i = (Bv st hs t n (k + 1) i || (st k && Av st hs t n k i)) := by
  have hA : ∀ i, st k = true → Av st hs t n k i = E st hs t (k + 1) i := fun i h => by simp [Av, hk, h]
  have hN : ∀ i, st k = false → Av st hs t n k i = E st hs t k i := fun i h => by simp [Av, h]
  cases i with
  | zero =>
    have hb : Bv st hs t n (k + 1) 0 = false := by simp [Bv]
    rw [hb, Bool.false_or]
    have e : Av st hs t n (k + 1) 0 = E st hs t (k + 1) 0 := by
      unfold Av
      split
      · rename_i h
        simp only [Bool.and_eq_true, decide_eq_true_eq] at h
        rw [Es0 (k + 1), h.2, Bool.true_and]
      · rfl
    rw [e]
    cases h : st k with
    | true => rw [hA 0 h]; rfl
    | false => rw [Es0, h]; rfl
  | succ i =>
    simp only [Bv, Nat.add_sub_cancel]
    rw [if_neg (by omega)]
    have key : E st hs t (k + 1) (i + 1) = ((Av st hs t n k i && (!st k) && hs k (t i)) || (st k && Av st hs t n k (i + 1))) := by
      cases h : st k with
      | true =>
        have : Av st hs t n k (i + 1) = E st hs t (k + 1) (i + 1) := by simp [Av, hk, h]
        rw [this]; simp
      | false =>
        rw [Ess, h, hN i h]; simp
    by_cases h2 : (decide (k + 1 < n) && st (k + 1)) = true
    · have h3 := h2
      simp only [Bool.and_eq_true, decide_eq_true_eq] at h3
      have e1 : Av st hs t n (k + 1) (i + 1) = (E st hs t (k + 1) (i + 1) || E st hs t (k + 1 + 1) i) := by
        unfold Av; rw [if_pos h2, Ess (k + 1), h3.2]; rfl
      have e2 : Av st hs t n (k + 1) i = E st hs t (k + 1 + 1) i := by unfold Av; rw [if_pos h2]
      rw [e1, e2, h2, key]
      simp [Bool.or_assoc, Bool.or_comm, Bool.or_left_comm]
    · have e1 : Av st hs t n (k + 1) (i + 1) = E st hs t (k + 1) (i + 1) := by unfold Av; rw [if_neg h2]
      have e3 : (decide (k + 1 < n) && st (k + 1)) = false := by simpa using h2
      rw [e1, e3, key]
      simp
end
theorem gIt_len (t : Nat → Nat) (n : Nat) : ∀ f i, (gIt t n f i).length ≤ n - i
  | 0, i => by simp [gIt]
  | f + 1, i => by
    rw [gIt]
    by_cases h : i < n
    · rw [if_pos h]
      have h1 := gIt_len t n f (i + 1)
      have h2 := gIt_len t n f (i + 2)
      split
      · simp only [List.length_cons]; omega
      · split
        · simp only [List.length_cons]; omega
        · split
          · split
            · simp only [List.length_cons]; omega
            · simp only [List.length_cons]; omega
          · split
            · split
              · rename_i x hx
                have h3 := gIt_len t n f x.2
                have h4 := gBracket_le hx
                simp only [List.length_cons]; omega
              · simp only [List.length_cons]; omega
            · simp only [List.length_cons]; omega
    · rw [if_neg h]; simp
theorem gItems_len (t : Nat → Nat) (n : Nat) : (gItems t n).length ≤ n := by
  have := gIt_len t n (n + 1) 0
  unfold gItems
  omega
theorem giCells_get : ∀ (l : List GI) (k : Nat) (x : GI), l[k]? = some x → ∀ j u, x.cells[j]? = some u → (giCells l)[k * 8 + j]? = some u
  | [], k, x, h, _, _, _ => by simp at h
  | y :: l, k, x, h, j, u, hu => by
    have hj : j < 8 := by
      have := (List.getElem?_eq_some_iff.1 hu).1
      simpa [GI.cells, giAgg] using this
    have hy : y.cells.length = 8 := by simp [GI.cells, giAgg]
    have e : giCells (y :: l) = y.cells ++ giCells l := by simp [giCells]
    rw [e]
    cases k with
    | zero =>
      simp at h
      subst h
      rw [List.getElem?_append_left (by omega)]
      simpa using hu
    | succ k =>
      rw [List.getElem?_append_right (by omega), hy, show (k + 1) * 8 + j - 8 = k * 8 + j from by omega]
      exact giCells_get l k x (by simpa using h) j u hu
/-! the reference's words -/
def rOne (t : Nat → Nat) (n i : Nat) : Nat × Nat := if t i = 92 ∧ i + 1 < n then (t (i + 1), 2) else (t i, 1)
theorem rOne_le {t : Nat → Nat} {n i : Nat} (h : i < n) : 1 ≤ (rOne t n i).2 ∧ (rOne t n i).2 ≤ 2 ∧ i + (rOne t n i).2 ≤ n := by
  unfold rOne; split <;> simp <;> omega
theorem rOne_lt {t : Nat → Nat} {n i : Nat} (ht : ∀ j, t j < 256) : (rOne t n i).1 < 256 := by
  unfold rOne; split
  · exact ht _
  · exact ht _
/-- the bounds of a set, and where it ends -/
def rSet (t : Nat → Nat) (n : Nat) : Nat → Bool → Nat → List Nat → List Nat → List Nat × List Nat × Nat
  | 0, _, i, lo, hi => (lo, hi, i)
  | f + 1, first, i, lo, hi =>
    if i < n ∧ (first = true ∨ t i ≠ 93) then
      if i + (rOne t n i).2 + 1 < n ∧ t (i + (rOne t n i).2) = 45 ∧ t (i + (rOne t n i).2 + 1) ≠ 93 then
        rSet t n f false (i + (rOne t n i).2 + 1 + (rOne t n (i + (rOne t n i).2 + 1)).2) (lo ++ [(rOne t n i).1]) (hi ++ [(rOne t n (i + (rOne t n i).2 + 1)).1])
      else rSet t n f false (i + (rOne t n i).2) (lo ++ [(rOne t n i).1]) (hi ++ [(rOne t n i).1])
    else (lo, hi, i)
structure RI where
  kind : Nat
  c : Nat
  nt : Bool
  lo : List Nat
  hi : List Nat
def rSetOf (t : Nat → Nat) (n i : Nat) : List Nat × List Nat × Nat := rSet t n (n + 1 - brAt t n i) true (brAt t n i) [] []
def inR (lo hi : List Nat) (c : Nat) : Bool := (lo.zip hi).any fun x => decide (x.1 ≤ c) && decide (c ≤ x.2)
def RI.is (x : RI) (c : Nat) : Bool := if x.kind = 0 then x.c == c else if x.kind = 2 then true else (inR x.lo x.hi c != x.nt)
def rStar : RI := ⟨1, 0, false, [], []⟩
def rAny : RI := ⟨2, 0, false, [], []⟩
def rByte (c : Nat) : RI := ⟨0, c, false, [], []⟩
def rIt (t : Nat → Nat) (n : Nat) : Nat → Nat → List RI
  | 0, _ => []
  | f + 1, i =>
    if i < n then
      if t i = 42 then rStar :: rIt t n f (i + 1)
      else if t i = 63 then rAny :: rIt t n f (i + 1)
      else if t i = 91 ∧ (rSetOf t n (i + 1)).2.2 < n then ⟨3, 0, brNt t n (i + 1), (rSetOf t n (i + 1)).1, (rSetOf t n (i + 1)).2.1⟩ :: rIt t n f ((rSetOf t n (i + 1)).2.2 + 1)
      else rByte (rOne t n i).1 :: rIt t n f (i + (rOne t n i).2)
    else []
def rItems (t : Nat → Nat) (n : Nat) : List RI := rIt t n (n + 1) 0
theorem inR_snoc (lo hi : List Nat) (a b c : Nat) (h : lo.length = hi.length) : inR (lo ++ [a]) (hi ++ [b]) c = (inR lo hi c || (decide (a ≤ c) && decide (c ≤ b))) := by
  simp [inR, List.zip_append h]
theorem addS_inR (lo hi : List Nat) (a b : Nat) (h : lo.length = hi.length) : addS (inR lo hi) a (b + 1) = inR (lo ++ [a]) (hi ++ [b]) := by
  funext c
  rw [inR_snoc _ _ _ _ _ h]
  simp only [addS]
  have : decide (c < b + 1) = decide (c ≤ b) := by apply decide_eq_decide.2; omega
  rw [this]
theorem gOne_rOne {t : Nat → Nat} {n i : Nat} (h : i < n) :
    ((gOne t n i).2.2 = true ∧ gOne t n i = ((rOne t n i).1, i + (rOne t n i).2, true)) ∨ ((gOne t n i).2.2 = false ∧ i + (rOne t n i).2 = n) := by
  unfold gOne rOne
  by_cases h1 : t i = 92
  · by_cases h2 : i + 1 < n
    · left; simp [h, h1, h2]
    · right; simp [h, h1, h2]; omega
  · left; simp [h, h1]
theorem rSet_stop {t : Nat → Nat} {n f : Nat} {first : Bool} {i : Nat} {lo hi : List Nat} (h : n ≤ i) : rSet t n f first i lo hi = (lo, hi, i) := by
  cases f with
  | zero => rfl
  | succ f => rw [rSet, if_neg (by omega)]
theorem gBr_rSet {t : Nat → Nat} {n i0 : Nat} {nt : Bool} : ∀ (f i : Nat) (first : Bool) (lo hi : List Nat), lo.length = hi.length → n < f + i → i ≤ n → (first = true ↔ i = i0) → i0 ≤ i →
    gBr t n i0 nt f i (inR lo hi) = (if (rSet t n f first i lo hi).2.2 < n then
      some (if nt then fun c => !inR (rSet t n f first i lo hi).1 (rSet t n f first i lo hi).2.1 c else inR (rSet t n f first i lo hi).1 (rSet t n f first i lo hi).2.1, (rSet t n f first i lo hi).2.2 + 1) else none)
  | 0, i, _, _, _, _, hf, hi, _, _ => by omega
  | f + 1, i, first, lo, hi, hl, hf, hin, hfi, h0 => by
    by_cases h1 : i < n
    · by_cases h2 : t i = 93 ∧ i0 < i
      · have hff : ¬ first = true := fun h => by have := hfi.1 h; omega
        have hr : rSet t n (f + 1) first i lo hi = (lo, hi, i) := by
          rw [rSet, if_neg (by intro h; rcases h.2 with h3 | h3; exact hff h3; exact h3 h2.1)]
        rw [gBr, if_pos h1, if_pos h2, hr]
        simp only [if_pos h1]
      · have hc : i < n ∧ (first = true ∨ t i ≠ 93) := by
          refine ⟨h1, ?_⟩
          by_cases h3 : t i = 93
          · left; rw [hfi]; exact Nat.le_antisymm (Nat.le_of_not_lt fun h => h2 ⟨h3, h⟩) h0
          · right; exact h3
        rw [gBr, if_pos h1, if_neg h2, rSet, if_pos hc]
        have hr1 := rOne_le (t := t) h1
        rcases gOne_rOne (t := t) h1 with ⟨hok, he⟩ | ⟨hok, he⟩
        · rw [if_pos hok]
          have e1 : (gOne t n i).1 = (rOne t n i).1 := by rw [he]
          have e2 : (gOne t n i).2.1 = i + (rOne t n i).2 := by rw [he]
          rw [e1, e2]
          by_cases h4 : i + (rOne t n i).2 + 1 < n ∧ t (i + (rOne t n i).2) = 45 ∧ t (i + (rOne t n i).2 + 1) ≠ 93
          · rw [if_pos h4, if_pos h4]
            have hr2 := rOne_le (t := t) h4.1
            rcases gOne_rOne (t := t) h4.1 with ⟨hok2, he2⟩ | ⟨hok2, he2⟩
            · rw [if_pos hok2]
              have e3 : (gOne t n (i + (rOne t n i).2 + 1)).1 = (rOne t n (i + (rOne t n i).2 + 1)).1 := by rw [he2]
              have e4 : (gOne t n (i + (rOne t n i).2 + 1)).2.1 = i + (rOne t n i).2 + 1 + (rOne t n (i + (rOne t n i).2 + 1)).2 := by rw [he2]
              rw [e3, e4, addS_inR _ _ _ _ hl]
              exact gBr_rSet f _ false _ _ (by simp [hl]) (by omega) (by omega) ⟨fun h => (by cases h), fun h => by omega⟩ (by omega)
            · rw [if_neg (by rw [hok2]; simp), he2]
              rw [rSet_stop (Nat.le_refl _)]
              simp
          · rw [if_neg h4, if_neg h4, addS_inR _ _ _ _ hl]
            exact gBr_rSet f _ false _ _ (by simp [hl]) (by omega) (by omega) ⟨fun h => (by cases h), fun h => by omega⟩ (by omega)
        · rw [if_neg (by rw [hok]; simp)]
          have h4 : ¬ (i + (rOne t n i).2 + 1 < n ∧ t (i + (rOne t n i).2) = 45 ∧ t (i + (rOne t n i).2 + 1) ≠ 93) := by omega
          rw [if_neg h4, he, rSet_stop (Nat.le_refl _)]
          simp
    · rw [gBr, if_neg h1, rSet_stop (by omega)]
      simp [h1]
theorem rSet_ge {t : Nat → Nat} {n : Nat} : ∀ (f : Nat) (first : Bool) (i : Nat) (lo hi : List Nat), i ≤ (rSet t n f first i lo hi).2.2
  | 0, _, i, _, _ => Nat.le_refl _
  | f + 1, first, i, lo, hi => by
    rw [rSet]
    split
    · split
      · have := rSet_ge (t := t) (n := n) f false (i + (rOne t n i).2 + 1 + (rOne t n (i + (rOne t n i).2 + 1)).2) (lo ++ [(rOne t n i).1]) (hi ++ [(rOne t n (i + (rOne t n i).2 + 1)).1])
        omega
      · have := rSet_ge (t := t) (n := n) f false (i + (rOne t n i).2) (lo ++ [(rOne t n i).1]) (hi ++ [(rOne t n i).1])
        omega
    · exact Nat.le_refl _
theorem rSetOf_ge (t : Nat → Nat) (n i : Nat) : i ≤ (rSetOf t n i).2.2 := Nat.le_trans (brAt_ge t n i) (rSet_ge _ _ _ _ _)
end Qm.Glob
