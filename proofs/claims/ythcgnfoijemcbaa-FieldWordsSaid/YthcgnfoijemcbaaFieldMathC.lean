/- The fields of words parted by blanks. No program in sight. -/
import Derived.Test.YthcgnfoijemcbaaFieldMath
namespace Go.Proofs.Ythcgnfoijemcbaa
open Go.RowKit
set_option linter.unusedSimpArgs false
set_option linter.unusedVariables false

theorem txS_word : ∀ (a cur rest : List UInt8) (s : Sp), (∀ c ∈ a, isB c = false) → txS cur (a ++ rest) s = txS (cur ++ a) rest s
  | [], cur, rest, s, _ => by simp
  | c :: a, cur, rest, s, h => by
    rw [List.cons_append, txS, if_neg (by rw [h c (by simp)]; simp), txS_word a _ rest s (fun d hd => h d (by simp [hd]))]
    simp
theorem txS_blanks : ∀ (a rest : List UInt8) (R : List (List Pt)), (∀ c ∈ a, isB c = true) → txS [] (a ++ rest) (R, []) = txS [] rest (R, [])
  | [], rest, R, _ => rfl
  | c :: a, rest, R, h => by
    rw [List.cons_append, txS, if_pos (h c (by simp))]
    exact txS_blanks a rest R fun d hd => h d (by simp [hd])
theorem push_flush (cur : List UInt8) (R : List (List Pt)) : flushS (pushS cur (R, [])) = (R ++ (if cur = [] then [] else [[pT cur]]), []) := by
  unfold pushS
  by_cases h : cur = []
  · rw [if_pos h, if_pos h]; simp [flushS]
  · rw [if_neg h, if_neg h]; simp [flushS]
theorem words_tx (b : UInt8) (sep : List UInt8) (hb : isB b = true) (hs : ∀ c ∈ sep, isB c = true) : ∀ (ws : List (List UInt8)) (cur : List UInt8) (R : List (List Pt)), (∀ x ∈ ws, x ≠ [] ∧ ∀ c ∈ x, isB c = false) →
    flushS (txS cur (ws.flatMap fun x => (b :: sep) ++ x) (R, [])) = (R ++ (if cur = [] then [] else [[pT cur]]) ++ ws.map (fun x => [pT x]), [])
  | [], cur, R, _ => by
    rw [List.flatMap_nil, txS, push_flush]
    simp
  | x :: ws, cur, R, h => by
    obtain ⟨h1, h2⟩ := h x (by simp)
    rw [List.flatMap_cons, List.cons_append, List.cons_append, txS, if_pos hb, push_flush, List.append_assoc, txS_blanks sep _ _ hs, txS_word x [] _ _ h2, List.nil_append, words_tx b sep hb hs ws x _ (fun y hy => h y (by simp [hy])), if_neg h1]
    simp
/-- words behind blanks are the fields -/
theorem split_words (b : UInt8) (sep : List UInt8) (hb : isB b = true) (hs : ∀ c ∈ sep, isB c = true) (ws : List (List UInt8)) (h : ∀ x ∈ ws, x ≠ [] ∧ ∀ c ∈ x, isB c = false) :
    splitS [pT (ws.flatMap fun x => (b :: sep) ++ x)] = ws.map fun x => [pT x] := by
  have h1 := words_tx b sep hb hs ws [] [] h
  unfold splitS
  rw [List.foldl_cons, List.foldl_nil]
  rw [show stS ([], []) (pT (ws.flatMap fun x => (b :: sep) ++ x)) = txS [] (ws.flatMap fun x => (b :: sep) ++ x) ([], []) from by simp [stS, pT, bsF]]
  rw [h1]
  simp
/-- what is quoted is one field -/
theorem split_quoted (p : Pt) (h : p.kind ≠ 1) : splitS [p] = [[p]] := by
  unfold splitS
  rw [List.foldl_cons, List.foldl_nil]
  simp [stS, h, flushS]
end Go.Proofs.Ythcgnfoijemcbaa
