/- Signs ahead of digits. -/
import Derived.Test.YtpjbklajjikgjaaDoorArithMathG
namespace Go.Proofs.YtpjbklajjikgjaaDoor.Ar
/-- a sign's byte -/
def sgB (k : Nat) : UInt8 := if k = 0 then 43 else if k = 1 then 45 else if k = 2 then 33 else 126
theorem sgB_facts (k : Nat) : blk (sgB k) = false ∧ (∀ d, d ≠ 61 → isSg (sgB k) d = true) ∧ sgB k ≠ 61 := by
  unfold sgB
  split
  · exact ⟨by decide, fun d _ => by simp [isSg], by decide⟩
  split
  · exact ⟨by decide, fun d _ => by simp [isSg], by decide⟩
  split
  · exact ⟨by decide, fun d h => by simp [isSg, h], by decide⟩
  · exact ⟨by decide, fun d _ => by simp [isSg], by decide⟩
theorem sg_head (l : List Nat) {D : List UInt8} (hD : D.headD 0 ≠ 61) : (l.map sgB ++ D).headD 0 ≠ 61 := by
  cases l with
  | nil => exact hD
  | cons k l => exact (sgB_facts k).2.2
theorem una_signs (K : Kn) (E : Ex) (l : List Nat) {D : List UInt8} (hD : D.headD 0 ≠ 61) (z : Bool) {v : Int} {t : List UInt8} {z' : Bool} (h : una K E D z = .ok (v, t, z')) :
    una K E (l.map sgB ++ D) z = .ok (l.foldr (fun k n => K.ap (sgB k) n) v, t, z') := by
  induction l with
  | nil => exact h
  | cons k l ih =>
    rw [List.map_cons, List.cons_append, una_sg K E z (sgB_facts k).1 ((sgB_facts k).2.1 _ (sg_head l hD)), ih]
    rfl
end Go.Proofs.YtpjbklajjikgjaaDoor.Ar
namespace Go.Proofs.YtpjbklajjikgjaaDoor
open Go.RowKit Go.Deep Qm.Base
/-- what signs make of a number, the last one first -/
def sgV (l : List Nat) (v : Int) : Int := l.foldr (fun k n => apV (Ar.sgB k) n) v
theorem signs_val (P : List Pr) (l : List Nat) (n : Nat) (hl : l.length ≤ 30) (h : n ≤ 9223372036854775807) : evalF P (bs (l.map Ar.sgB ++ dB n)) = (sgV l n, 0) := by
  have hd := dB_len n h
  rw [evalF_bs P _ (by simp only [List.length_append, List.length_map]; omega)]
  have h61 : (dB n).headD 0 ≠ 61 := by
    have := (Ar.okB_dig (dB_pos n) (dB_dgl n) []).2.2.1
    rwa [List.append_nil] at this
  have hu := Ar.Opd.dig (KP P) 40 false (dB_pos n) (dB_dgl n) [] Ar.okA_nil
  rw [List.append_nil] at hu
  have h1 := Ar.una_signs (KP P) _ l h61 false hu
  have h2 : Ar.exR (KP P) (40 + 1) (l.map Ar.sgB ++ dB n) false = .ok (sgV l (nI (dB n)), Ar.sk [], false) := by
    rw [Ar.exR_succ, Ar.F_eq _ _ (by omega), h1, Ar.bd_ok, Ar.it_end _ _ _ _ _ _ (.inr (by decide))]
    rfl
  rw [nI_dB n h] at h2
  rw [show (41 : Nat) = 40 + 1 from rfl, h2]
  rfl
end Go.Proofs.YtpjbklajjikgjaaDoor
