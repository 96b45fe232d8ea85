/- Walk of the reference's PutString. -/
import Derived.Test.YtpmhkgjplghldaaStrsWalkB
import Derived.Test.YtpmhkgjplghldaaMapG
namespace Go.Proofs.Ytpmhkgjplghldaa
open Go.RowKit Go.Deep
/-- a text into a rising list, once -/
def putS (s : ByteArray) : List ByteArray → List ByteArray
  | [] => [s]
  | x :: l => if sLt x s then x :: putS s l else if x = s then x :: l else s :: x :: l
theorem putS_at {s : ByteArray} : ∀ (L : List ByteArray) (k : Nat), k ≤ L.length → (∀ j x, j < k → L[j]? = some x → sLt x s = true) → (∀ x, L[k]? = some x → sLt x s = false) →
    putS s L = if L[k]? = some s then L else L.take k ++ [s] ++ L.drop k
  | [], k, hk, _, _ => by
    obtain rfl : k = 0 := by simpa using hk
    rfl
  | x :: L, 0, hk, h1, h2 => by
    have := h2 x rfl
    rw [putS, if_neg (by rw [this]; simp)]
    simp
  | x :: L, k + 1, hk, h1, h2 => by
    rw [putS, if_pos (h1 0 x (by omega) rfl), putS_at L k (by simpa using hk) (fun j y hj hy => h1 (j + 1) y (by omega) (by simpa using hy)) (fun y hy => h2 y (by simpa using hy))]
    simp only [List.getElem?_cons_succ]
    split <;> simp
theorem Below.of_gb {w w' : World} {r : Option Nat} {B : Nat} (h : w.grownBy w' r) (hB : B ≤ w.heap.size) (hr : ∀ k, r = some k → B ≤ k) : Below B w w' := (Below.refl B w).grown h hB hr
theorem OwnS.lt {w : World} {base : Nat} {v : Value} {L : List ByteArray} (h : OwnS w base v L) : ∀ k, v.ownBlock = some k → base ≤ k ∧ k < w.heap.size := World.ownsRow.lt h
set_option maxRecDepth 100000 in
/-- three appends, one behind the other, in new rows -/
theorem put_chain (w : World) (A1 A2 : Option Addr) (c1 c2 : Nat) (L1 L2 : List ByteArray) (s : ByteArray) (h1 : SR w A2 L2) (h2 : SR w A1 L1) (hl : L1.length + L2.length ≤ 100000) :
    ∃ v1 w1 v2 w2 v3 w3 v4 w4, (Builtin.append_ #[54, 54] 54 #[.slice none 0 0, .slice A2 L2.length c2]).run Try.prog w = .ok v1 w1 ∧
      (Builtin.append_ #[54, 54] 54 #[.slice none 0 0, .slice A1 L1.length c1]).run Try.prog w1 = .ok v2 w2 ∧
      (Builtin.append_ #[54, 54] 54 #[v2, .slice (some ⟨w2.heap.size, 0, none⟩) 1 1]).run Try.prog (w2.alloc (.cells #[.string s] 9)) = .ok v3 w3 ∧
      (Builtin.append_ #[54, 54] 54 #[v3, v1]).run Try.prog w3 = .ok v4 w4 ∧ OwnS w4 w.heap.size v4 (L1 ++ [s] ++ L2) ∧ Below w.heap.size w w4 := by
  obtain ⟨v1, w1, r1, o1, g1, b1⟩ := run_appS (OwnS.nil w w.heap.size) h1 (Nat.le_refl _) (by simp; omega)
  have hb1 : Below w.heap.size w w1 := Below.of_gb g1 (Nat.le_refl _) (fun k hk => by cases hk)
  obtain ⟨v2, w2, r2, o2, g2, b2⟩ := run_appS (OwnS.nil w1 w1.heap.size) (h2.below hb1) (Nat.le_refl _) (by simp; omega)
  have hb2 : Below w.heap.size w w2 := below_up hb1 (Below.of_gb g2 (Nat.le_refl _) (fun k hk => by cases hk)) hb1.size
  have s1 := hb1.size
  have s2 := hb2.size
  have s12 := g2.size
  simp only [List.nil_append] at o1 o2
  have n1 : ∀ k, v1.ownBlock = some k → k < w1.heap.size := fun k hk => (o1.lt k hk).2
  have n2 : ∀ k, v2.ownBlock = some k → k = w1.heap.size := fun k hk => by
    rcases b2 with e | e
    · rw [e] at hk; cases hk
    · rw [e] at hk; injection hk with hk; exact hk.symm
  have o1a : OwnS (w2.alloc (.cells #[.string s] 9)) w.heap.size v1 L2 := (o1.kept g2 (Classical.em _)).alloc _
  obtain ⟨v3, w3, r3, o3, g3, b3⟩ := run_appS (o2.alloc (.cells #[.string s] 9)) (sr_new w2 s) (by simp; omega) (by simp; omega)
  have n3 : ∀ k, v3.ownBlock = some k → w.heap.size ≤ k := fun k hk => by
    rcases b3 with e | e
    · have := n2 k (e ▸ hk); omega
    · rw [e] at hk; injection hk with hk; simp at hk; omega
  have o1b : OwnS w3 w.heap.size v1 L2 := o1a.kept g3 (by
    cases hv : v1.ownBlock with
    | none => exact .inl rfl
    | some k =>
      right
      intro e
      have := n2 k e.symm
      have := n1 k hv
      omega)
  have hb3 : Below w.heap.size w w3 := (hb2.alloc hb2.size _).trans (Below.of_gb g3 (by simp; omega) (fun k hk => by have := n2 k hk; omega))
  have s3 := hb3.size
  obtain ⟨A, c, rfl, _, hsr, _⟩ := o1b.slice
  obtain ⟨v4, w4, r4, o4, g4, b4⟩ := run_appS o3 hsr (by have := g3.size; simp at this; omega) (by simp; omega)
  refine ⟨_, w1, v2, w2, v3, w3, v4, w4, r1, r2, r3, r4, ?_, hb3.trans (Below.of_gb g4 s3 n3)⟩
  exact ⟨o4.1, o4.2.imp id fun ⟨g, cap, cur, e, hg, r⟩ => ⟨g, cap, cur, e, by omega, r⟩⟩
end Go.Proofs.Ytpmhkgjplghldaa
