/- What the fields hold: all bytes but the blanks. No program in sight. -/
import Derived.Test.YthcgnfoijemcbaaFieldTextA
namespace Go.Proofs.Ythcgnfoijemcbaa
open Go.RowKit
set_option linter.unusedSimpArgs false
set_option linter.unusedVariables false

/-- what of a part is wanted -/
def wantP (p : Pt) : List UInt8 := if p.kind = 1 then p.text.data.toList.filter (fun c => !isB c) else p.text.data.toList
def wantS (L : List Pt) : List UInt8 := L.flatMap wantP
def rowsS (R : List (List Pt)) : List UInt8 := R.flatMap textS
theorem textS_app (a b : List Pt) : textS (a ++ b) = textS a ++ textS b := List.flatMap_append
theorem rowsS_app (a b : List (List Pt)) : rowsS (a ++ b) = rowsS a ++ rowsS b := List.flatMap_append
def allS (s : Sp) : List UInt8 := rowsS s.1 ++ textS s.2
theorem flush_all (s : Sp) : allS (flushS s) = allS s := by
  unfold flushS allS
  split
  · rfl
  · rw [rowsS_app]
    simp [rowsS, textS]
theorem flush_nil (s : Sp) : (flushS s).2 = [] := by
  unfold flushS
  split
  · assumption
  · rfl
theorem push_all (l : List UInt8) (s : Sp) : allS (pushS l s) = allS s ++ l := by
  unfold pushS allS
  split
  · rename_i h; rw [h, List.append_nil]
  · rw [textS_app, List.append_assoc]
    congr 1
    congr 1
    simp [textS, pT, bsF]
theorem tx_all : ∀ (rest cur : List UInt8) (s : Sp), allS (txS cur rest s) = allS s ++ cur ++ rest.filter (fun c => !isB c)
  | [], cur, s => by rw [txS, push_all]; simp
  | c :: rest, cur, s => by
    rw [txS]
    by_cases h : isB c = true
    · rw [if_pos h, tx_all rest [] _, flush_all, push_all, List.filter_cons_of_neg (by simp [h]), List.append_nil]
    · rw [if_neg h, tx_all rest _ s, List.filter_cons_of_pos (by simpa using h)]
      simp
theorem st_all (s : Sp) (p : Pt) : allS (stS s p) = allS s ++ wantP p := by
  unfold stS wantP
  split
  · rw [tx_all]; simp
  · unfold allS
    rw [textS_app, List.append_assoc]
    simp [textS]
theorem fold_all : ∀ (L : List Pt) (s : Sp), allS (L.foldl stS s) = allS s ++ wantS L
  | [], s => by simp [wantS]
  | p :: L, s => by
    rw [List.foldl_cons, fold_all L, st_all]
    simp [wantS]
/-- all bytes but the blanks are in the fields, in order -/
theorem split_all (L : List Pt) : rowsS (splitS L) = wantS L := by
  have h1 := flush_all (L.foldl stS ([], []))
  rw [fold_all] at h1
  unfold allS at h1
  rw [flush_nil] at h1
  simpa [rowsS, textS, splitS] using h1
end Go.Proofs.Ythcgnfoijemcbaa
