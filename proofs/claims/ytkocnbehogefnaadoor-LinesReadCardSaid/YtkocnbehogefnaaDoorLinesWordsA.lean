/- The program's Words, from the contract of strings.FieldsFunc. -/
import Derived.Test.YtkocnbehogefnaaDoorLinesWalkA
namespace Go.Proofs.YtkocnbehogefnaaDoor
open Go.RowKit Go.Deep
/-- a rune that parts words -/
def wR (x : Nat) : Bool := x == 32 || x == 9 || x == 10
set_option maxRecDepth 100000 in
theorem words1_any (x : Nat) (w : World) : Calls Tryd.prog 29 #[.int .i32 x] w fun e w' => e = .returned (.bool (wR x)) ∧ ∃ q, w' = w.drewN q := by
  by_cases h1 : x = 32
  · subst h1
    go_enter Tryd.func29, Tryd.ntmps29
    go_wp2
    go_ret
    exact ⟨rfl, 0, rfl⟩
  by_cases h2 : x = 9
  · subst h2
    go_enter Tryd.func29, Tryd.ntmps29
    go_wp2
    go_ret
    exact ⟨rfl, 0, rfl⟩
  by_cases h3 : x = 10
  · subst h3
    go_enter Tryd.func29, Tryd.ntmps29
    go_wp2
    go_ret
    exact ⟨rfl, 0, rfl⟩
  have hw : wR x = false := by simp [wR, h1, h2, h3]
  have d1 : ((x : Int) == 32) = false := by simp; omega
  have d2 : ((x : Int) == 9) = false := by simp; omega
  have d3 : ((x : Int) == 10) = false := by simp; omega
  rw [hw]
  clear hw h1 h2 h3
  go_enter Tryd.func29, Tryd.ntmps29
  go_wp2
  go_ret
  exact ⟨rfl, 0, rfl⟩
set_option maxRecDepth 100000 in
set_option maxHeartbeats 400000 in
theorem words_any (s : ByteArray) (w : World) (hs : s.size ≤ 4294967296) :
    Calls Tryd.prog 13 #[.string s] w fun e w' => ∃ A, e = .returned (.slice (some ⟨A, 0, none⟩) (Lib.goFieldsP wR s).length (Lib.goFieldsP wR s).length) ∧ w.heap.size ≤ A ∧
      w'.ownsRow w.heap.size 9 1 (.slice (some ⟨A, 0, none⟩) (Lib.goFieldsP wR s).length (Lib.goFieldsP wR s).length) (Lib.goFieldsP wR s).length ((Lib.goFieldsP wR s).map Value.string) ∧ Below w.heap.size w w' := by
  have HC := hide (fun W => Tryd.strings_FieldsFunc_runes 29 #[] (fun _ _ => by kernel_rfl) wR s W hs (fun W' x _ _ => words1_any x W'))
  generalize Lib.goFieldsP wR s = R at *
  go_enter Tryd.func13, Tryd.ntmps13
  go_wp2_with fail
  refine (HC.out _).mono ?_
  rintro e w1 ⟨A, rfl, hA, ho, hb⟩
  have HO := hide ho
  have HB := hide hb
  clear ho hb HC
  go_wp2_with fail
  go_ret
  exact ⟨A, rfl, hA, HO.out, HB.out⟩
end Go.Proofs.YtkocnbehogefnaaDoor
