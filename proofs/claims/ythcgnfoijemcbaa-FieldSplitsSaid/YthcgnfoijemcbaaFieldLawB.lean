/- The law FieldWhole: all bytes but the blanks are in the fields. -/
import Derived.Test.YthcgnfoijemcbaaFieldLawA
import Derived.Test.YthcgnfoijemcbaaFieldMathB
import Derived.Test.YthcgnfoijemcbaaOpenParts
namespace Go.Proofs.Ythcgnfoijemcbaa
open Go.RowKit Go.Deep
set_option linter.unusedSimpArgs false
set_option linter.unusedVariables false
attribute [local go_sem] bt_eq

/-- how many parts there are -/
def cntS (s : Sp) : Nat := s.1.flatten.length + s.2.length
theorem flush_cnt (s : Sp) : cntS (flushS s) = cntS s := by
  unfold flushS cntS
  split
  · rfl
  · simp
theorem push_cnt (l : List UInt8) (s : Sp) : cntS (pushS l s) ≤ cntS s + 1 := by
  unfold pushS cntS
  split
  · omega
  · simp; omega
theorem tx_cnt : ∀ (rest cur : List UInt8) (s : Sp), cntS (txS cur rest s) ≤ cntS s + rest.length + 1
  | [], cur, s => by rw [txS]; exact push_cnt _ _
  | c :: rest, cur, s => by
    rw [txS]
    split
    · have h1 := tx_cnt rest [] (flushS (pushS cur s))
      have h2 := push_cnt cur s
      rw [flush_cnt] at h1
      rw [List.length_cons]; omega
    · have h1 := tx_cnt rest (cur ++ [c]) s
      rw [List.length_cons]; omega
theorem st_cnt (s : Sp) (p : Pt) : cntS (stS s p) ≤ cntS s + p.text.size + 1 := by
  unfold stS
  split
  · have := tx_cnt p.text.data.toList [] s
    rw [Lib.size_eq]; exact this
  · unfold cntS
    simp; omega
theorem fold_cnt : ∀ (L : List Pt) (s : Sp), (∀ p ∈ L, p.text.size ≤ 300) → cntS (L.foldl stS s) ≤ cntS s + L.length * 301
  | [], s, _ => by simp
  | p :: L, s, h => by
    have h1 := fold_cnt L (stS s p) (fun q hq => h q (by simp [hq]))
    have h2 := st_cnt s p
    have h3 := h p (by simp)
    rw [List.foldl_cons, List.length_cons, Nat.add_mul]
    omega
theorem split_cnt (L : List Pt) (h : ∀ p ∈ L, p.text.size ≤ 300) : (splitS L).flatten.length ≤ L.length * 301 := by
  have h1 := fold_cnt L ([], []) h
  have h2 := flush_cnt (L.foldl stS ([], []))
  unfold splitS
  unfold cntS at h1 h2
  simp at h1 h2
  simp
  omega
theorem row_len {R : List (List Pt)} {r : List Pt} (h : r ∈ R) : r.length ≤ R.flatten.length := by
  obtain ⟨a, b, rfl⟩ := List.append_of_mem h
  simp
  omega
theorem row_txt {R : List (List Pt)} {r : List Pt} (h : r ∈ R) : (textS r).length ≤ (rowsS R).length := by
  obtain ⟨a, b, rfl⟩ := List.append_of_mem h
  simp [rowsS]
  omega
theorem want_len : ∀ (L : List Pt), (∀ p ∈ L, p.text.size ≤ 300) → (wantS L).length ≤ L.length * 300
  | [], _ => by simp [wantS]
  | p :: L, h => by
    have h1 := want_len L (fun q hq => h q (by simp [hq]))
    have h3 := h p (by simp)
    have h2 : (wantP p).length ≤ p.text.size := by
      unfold wantP
      rw [Lib.size_eq]
      split
      · exact List.length_filter_le _ _
      · exact Nat.le_refl _
    rw [show wantS (p :: L) = wantP p ++ wantS L by simp [wantS], List.length_append, List.length_cons, Nat.add_mul]
    omega
theorem rowsS_take {R : List (List Pt)} {k : Nat} {r : List Pt} (h : R[k]? = some r) : rowsS (R.take (k + 1)) = rowsS (R.take k) ++ textS r := by
  unfold rowsS
  rw [List.take_add_one, h, List.flatMap_append]
  simp
theorem rowsS_le (R : List (List Pt)) (k : Nat) : (rowsS (R.take k)).length ≤ (rowsS R).length := by
  have h : rowsS R = rowsS (R.take k) ++ rowsS (R.drop k) := by rw [← rowsS_app, List.take_append_drop]
  rw [h, List.length_append]; omega
theorem wantS_succ {L : List Pt} {k : Nat} {x : Pt} (h : L[k]? = some x) : wantS (L.take (k + 1)) = wantS (L.take k) ++ wantP x := by
  unfold wantS
  rw [List.take_add_one, h, List.flatMap_append]
  simp
theorem big_no {L : List Pt} (h : bigP L = false) : L.length ≤ 40 ∧ ∀ p ∈ L, p.text.size ≤ 300 := by
  unfold bigP at h
  simp [okP] at h
  exact ⟨h.2, fun p hp => (h.1 p hp).1.1.1.1.1⟩
/-- what is wanted of the first bytes of a part -/
def wantK (kd : Int) (l : List UInt8) : List UInt8 := if kd = 1 then l.filter (fun c => !isB c) else l
theorem bsF_app (a b : List UInt8) : bsF (a ++ b) = bsF a ++ bsF b := ByteArray.ext (Array.ext' (by simp [bsF]))
theorem wantK_succ (kd : Int) (tx : ByteArray) (j : Nat) (hj : j < tx.size) : wantK kd (tx.data.toList.take (j + 1)) = wantK kd (tx.data.toList.take j) ++ (if kd = 1 ∧ (bt tx j = 32 ∨ bt tx j = 9 ∨ bt tx j = 10) then [] else (tx.extract j (j + 1)).data.toList) := by
  have hl : j < tx.data.toList.length := by rw [← Lib.size_eq]; exact hj
  have hx : tx.data.toList[j]? = some (tx.data.toList[j]) := List.getElem?_eq_getElem hl
  have hb : bt tx j = (tx.data.toList[j]).toNat := by
    rw [← bt_eq tx j hj]; rfl
  have he : (tx.extract j (j + 1)).data.toList = [tx.data.toList[j]] := by
    rw [Lib.extract_data, show j + 1 - j = 1 by omega]
    rw [List.drop_eq_getElem_cons hl]
    simp
  rw [he, hb, List.take_add_one, hx]
  generalize tx.data.toList[j] = c
  have hi : isB c = true ↔ (c.toNat = 32 ∨ c.toNat = 9 ∨ c.toNat = 10) := by
    have k : ∀ d : UInt8, c.toNat = d.toNat ↔ c = d := fun d => UInt8.toNat_inj
    have k1 := k 32
    have k2 := k 9
    have k3 := k 10
    unfold isB
    simp only [Bool.or_eq_true, beq_iff_eq]
    rw [← k1, ← k2, ← k3]
    show _ ↔ (c.toNat = (32 : UInt8).toNat ∨ c.toNat = (9 : UInt8).toNat ∨ c.toNat = (10 : UInt8).toNat)
    rw [or_assoc]
  unfold wantK
  by_cases hk : kd = 1
  · rw [if_pos hk, if_pos hk, List.filter_append]
    congr 1
    by_cases hc : isB c = true
    · rw [if_pos ⟨hk, hi.1 hc⟩]; simp [hc]
    · rw [if_neg (fun h => hc (hi.2 h.2))]; simp [hc]
  · rw [if_neg hk, if_neg hk, if_neg (fun h => hk h.1)]
    rfl
end Go.Proofs.Ythcgnfoijemcbaa
