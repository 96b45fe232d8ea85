/- The fields of parts, as a plain function. No program in sight. -/
import Derived.Test.YthcgnfoijemcbaaFieldIdxB
namespace Go.Proofs.Ythcgnfoijemcbaa
open Go.RowKit
set_option linter.unusedSimpArgs false
set_option linter.unusedVariables false

/-- a part: its kind, its text, and what a word that is settled has no more -/
structure Pt where
  kind : Int
  text : ByteArray
  name : ByteArray
  op : ByteArray
  wA : Option Addr
  wn : Nat
  wc : Nat
  q : Bool
def bsF (l : List UInt8) : ByteArray := ⟨l.toArray⟩
/-- a text that stands alone -/
def pT (l : List UInt8) : Pt := ⟨1, bsF l, ⟨#[]⟩, ⟨#[]⟩, none, 0, 0, false⟩
def isB (c : UInt8) : Bool := c == 32 || c == 9 || c == 10
/-- what is done, and what is being gathered -/
abbrev Sp := List (List Pt) × List Pt
def flushS (s : Sp) : Sp := if s.2 = [] then s else (s.1 ++ [s.2], [])
def pushS (l : List UInt8) (s : Sp) : Sp := if l = [] then s else (s.1, s.2 ++ [pT l])
/-- a text, parted at its blanks: byte by byte -/
def txS : List UInt8 → List UInt8 → Sp → Sp
  | cur, [], s => pushS cur s
  | cur, c :: rest, s => if isB c then txS [] rest (flushS (pushS cur s)) else txS (cur ++ [c]) rest s
def stS (s : Sp) (p : Pt) : Sp := if p.kind = 1 then txS [] p.text.data.toList s else (s.1, s.2 ++ [p])
def splitS (l : List Pt) : List (List Pt) := (flushS (l.foldl stS ([], []))).1
theorem isB_iff (c : UInt8) : isB c = blks.data.toList.contains c := by
  show (c == 32 || c == 9 || c == 10) = [32, 9, 10].contains c
  rw [Bool.eq_iff_iff]; simp [or_assoc]
theorem txS_no : ∀ (rest cur : List UInt8) (s : Sp), (∀ c ∈ rest, isB c = false) → txS cur rest s = pushS (cur ++ rest) s
  | [], cur, s, h => by rw [txS, List.append_nil]
  | c :: rest, cur, s, h => by
    rw [txS, if_neg (by rw [h c (by simp)]; simp), txS_no rest _ s (fun d hd => h d (by simp [hd]))]
    simp
theorem txS_at : ∀ (a : List UInt8) (cur : List UInt8) (b : UInt8) (rest : List UInt8) (s : Sp), (∀ c ∈ a, isB c = false) → isB b = true → txS cur (a ++ b :: rest) s = txS [] rest (flushS (pushS (cur ++ a) s))
  | [], cur, b, rest, s, h, hb => by rw [List.nil_append, txS, if_pos hb, List.append_nil]
  | c :: a, cur, b, rest, s, h, hb => by
    rw [List.cons_append, txS, if_neg (by rw [h c (by simp)]; simp), txS_at a _ b rest s (fun d hd => h d (by simp [hd])) hb]
    simp
/-- where the first blank is -/
theorem ixB_cases (l : List UInt8) : (ixB l = -1 ∧ ∀ c ∈ l, isB c = false) ∨ ∃ a b rest, l = a ++ b :: rest ∧ ixB l = (a.length : Int) ∧ (∀ c ∈ a, isB c = false) ∧ isB b = true := by
  have key : ∀ (l pre : List UInt8), Lib.NoAny (pre ++ l) blks.data.toList pre.length → (Lib.indexAny (pre ++ l) blks.data.toList = -1 ∧ ∀ c ∈ l, isB c = false) ∨ ∃ a b rest, l = a ++ b :: rest ∧ Lib.indexAny (pre ++ l) blks.data.toList = ((pre.length + a.length : Nat) : Int) ∧ (∀ c ∈ a, isB c = false) ∧ isB b = true := by
    intro l
    induction l with
    | nil =>
      intro pre h
      left
      refine ⟨Lib.indexAny_none (by simpa using h), by simp⟩
    | cons x l ih =>
      intro pre h
      have hx : (pre ++ x :: l)[pre.length]? = some x := by simp
      by_cases hb : isB x = true
      · right
        refine ⟨[], x, l, rfl, ?_, by simp, hb⟩
        rw [Lib.indexAny_hit h hx (by rw [← isB_iff]; exact hb)]
        simp
      · have hb' : isB x = false := by simpa using hb
        have h2 := h.succ hx (by rw [← isB_iff]; exact hb')
        have e : pre ++ x :: l = (pre ++ [x]) ++ l := by simp
        rw [e] at h2 ⊢
        rcases ih (pre ++ [x]) (by simpa using h2) with ⟨h3, h4⟩ | ⟨a, b, rest, h3, h4, h5, h6⟩
        · left
          refine ⟨h3, fun c hc => ?_⟩
          rcases List.mem_cons.1 hc with rfl | hc
          · exact hb'
          · exact h4 c hc
        · right
          refine ⟨x :: a, b, rest, by rw [h3]; rfl, ?_, fun c hc => ?_, h6⟩
          · rw [h4]; simp; omega
          · rcases List.mem_cons.1 hc with rfl | hc
            · exact hb'
            · exact h5 c hc
  rcases key l [] (Lib.NoAny.zero _ _) with ⟨h1, h2⟩ | ⟨a, b, rest, h1, h2, h3, h4⟩
  · exact .inl ⟨h1, h2⟩
  · refine .inr ⟨a, b, rest, h1, ?_, h3, h4⟩
    have : ixB l = Lib.indexAny ([] ++ l) blks.data.toList := rfl
    rw [this, h2]; simp
end Go.Proofs.Ythcgnfoijemcbaa
