/- Plain law of chapter 18: lines, continued lines, comments, words. No program in sight. -/
import Derived.Lib.SplitLaws
import Derived.Lib.Hide
namespace Go.Proofs.YtkajhdbcnmafcaaGreatDoor.Ln

abbrev T := List UInt8
/-- a text, parted at a byte -/
def spl (c : UInt8) : T → List T
  | [] => [[]]
  | b :: l => if b = c then [] :: spl c l else match spl c l with
    | [] => [[b]]
    | h :: t => (b :: h) :: t
theorem spl_ne (c : UInt8) (l : T) : spl c l ≠ [] := by
  cases l with
  | nil => simp [spl]
  | cons b l =>
    rw [spl]
    split
    · simp
    · split <;> simp
theorem spl_cons_ne {c b : UInt8} (h : b ≠ c) (l : T) : ∃ x t, spl c l = x :: t ∧ spl c (b :: l) = (b :: x) :: t := by
  cases hs : spl c l with
  | nil => exact absurd hs (spl_ne c l)
  | cons x t => exact ⟨x, t, rfl, by rw [spl, if_neg h, hs]⟩
theorem spl_none {c : UInt8} : ∀ {l : T}, c ∉ l → spl c l = [l]
  | [], _ => rfl
  | b :: l, h => by
    have h1 : b ≠ c := fun e => h (by simp [e])
    rw [spl, if_neg h1, spl_none (fun hc => h (by simp [hc]))]
theorem spl_app {c : UInt8} : ∀ {a : T} (b : T), c ∉ a → spl c (a ++ c :: b) = a :: spl c b
  | [], b, _ => by rw [List.nil_append, spl, if_pos rfl]
  | x :: a, b, h => by
    have h1 : x ≠ c := fun e => h (by simp [e])
    rw [List.cons_append, spl, if_neg h1, spl_app b (fun hc => h (by simp [hc]))]
theorem spl_both (c : UInt8) (a b : T) : spl c (a ++ c :: b) = spl c a ++ spl c b := by
  induction a with
  | nil =>
    rw [List.nil_append, show spl c (c :: b) = [] :: spl c b from if_pos rfl]; rfl
  | cons x a ih =>
    rw [List.cons_append, spl, spl, ih]
    by_cases h : x = c
    · rw [if_pos h, if_pos h]; rfl
    · rw [if_neg h, if_neg h]
      cases hs : spl c a with
      | nil => exact absurd hs (spl_ne c a)
      | cons y t => rfl
/-- the lines of a text: the last one may want its end -/
def cutL (s : T) : List T := if (spl 10 s).getLastD [] = [] then (spl 10 s).dropLast else spl 10 s
def blk (c : UInt8) : Bool := c == 32 || c == 9
def oddB (l : T) : Bool := (l.reverse.takeWhile (· == 92)).length % 2 == 1
def trimL (l : T) : T := l.dropWhile blk
def trimR (l : T) : T := (l.reverse.dropWhile blk).reverse
def dropTab (l : T) : T := match l with
  | 9 :: l => l
  | l => l
/-- a recipe's whole line: what was read last, all of it so far -/
def recF : List T → T → T → T × List T
  | [], _, acc => (acc, [])
  | n :: rest, s, acc => if oddB s = true then recF rest (dropTab n) (acc ++ 10 :: dropTab n) else (acc, n :: rest)
/-- a line that goes on, without its backslash and the blanks ahead of it, and a blank -/
def front (s : T) : T := trimR s.dropLast ++ [32]
def othF : List T → T → T × List T
  | [], s => (if oddB s = true then front s else s, [])
  | n :: rest, s => if oddB s = true then othF rest (front s ++ trimL n) else (s, n :: rest)
/-- a line without its comment -/
def comm : T → T
  | [] => []
  | [c] => if c = 35 then [] else [c]
  | c :: d :: l => if c = 92 ∧ d = 35 then 35 :: comm l else if c = 35 then [] else c :: comm (d :: l)
def plainF (s : T) : T := trimL (trimR (comm s))
theorem recF_len : ∀ rest s acc, (recF rest s acc).2.length ≤ rest.length
  | [], _, _ => Nat.le_refl _
  | n :: rest, s, acc => by
    rw [recF]
    split
    · exact Nat.le_succ_of_le (recF_len rest _ _)
    · exact Nat.le_refl _
theorem othF_len : ∀ rest s, (othF rest s).2.length ≤ rest.length
  | [], _ => Nat.le_refl _
  | n :: rest, s => by
    rw [othF]
    split
    · exact Nat.le_succ_of_le (othF_len rest _)
    · exact Nat.le_refl _
abbrev Line := Bool × T
/-- the lines that are told, by steps -/
def linesF : Nat → List T → List Line
  | 0, _ => []
  | _ + 1, [] => []
  | f + 1, l :: rest => if l.headD 0 = 9 then (true, (recF rest l.tail l.tail).1) :: linesF f (recF rest l.tail l.tail).2
    else (if plainF (othF rest l).1 = [] then [] else [(false, plainF (othF rest l).1)]) ++ linesF f (othF rest l).2
theorem linesF_irr : ∀ f f' (L : List T), L.length ≤ f → L.length ≤ f' → linesF f L = linesF f' L
  | 0, 0, _, _, _ => rfl
  | 0, f' + 1, L, h, _ => by
    obtain rfl : L = [] := List.length_eq_zero_iff.1 (by omega)
    rfl
  | f + 1, 0, L, _, h => by
    obtain rfl : L = [] := List.length_eq_zero_iff.1 (by omega)
    rfl
  | f + 1, f' + 1, [], _, _ => rfl
  | f + 1, f' + 1, l :: rest, h, h' => by
    have h1 := recF_len rest l.tail l.tail
    have h2 := othF_len rest l
    simp only [List.length_cons] at h h'
    rw [linesF, linesF, linesF_irr f f' _ (by omega) (by omega), linesF_irr f f' (othF rest l).2 (by omega) (by omega)]
def linesA (L : List T) : List Line := linesF L.length L
theorem linesA_nil : linesA [] = [] := rfl
theorem linesA_cons (l : T) (rest : List T) : linesA (l :: rest) = if l.headD 0 = 9 then (true, (recF rest l.tail l.tail).1) :: linesA (recF rest l.tail l.tail).2
    else (if plainF (othF rest l).1 = [] then [] else [(false, plainF (othF rest l).1)]) ++ linesA (othF rest l).2 := by
  have h1 := recF_len rest l.tail l.tail
  have h2 := othF_len rest l
  unfold linesA
  rw [List.length_cons, linesF, linesF_irr rest.length _ _ h1 (Nat.le_refl _), linesF_irr rest.length _ _ h2 (Nat.le_refl _)]
/-- what a makefile's text comes to: its lines, and an error or 0 -/
def readF (s : T) : List Line × Nat := if 16384 < s.length then ([], 3) else if 0 ∈ s then ([], 2) else (linesA (cutL s), 0)
/-- the words of a text -/
def wblk (c : UInt8) : Bool := c == 32 || c == 9 || c == 10
def wordsF : T → T → List T
  | [], w => if w = [] then [] else [w]
  | c :: l, w => if wblk c = true then (if w = [] then wordsF l [] else w :: wordsF l []) else wordsF l (w ++ [c])
end Go.Proofs.YtkajhdbcnmafcaaGreatDoor.Ln
