/- The items of a quoted text are those of its bytes; no program in sight. -/
import Derived.Test.YthlboecjlelemaaGlobPlainD
namespace Qm.Glob
def spB (c : Nat) : Bool := c == 42 || c == 63 || c == 91 || c == 92
def qOne (c : Nat) : List Nat := if spB c then [92, c] else [c]
def lt (l : List Nat) : Nat → Nat := fun j => l.getD j 0
theorem sh_lt (a b : List Nat) : sh (lt (a ++ b)) a.length = lt b := by
  funext j
  simp only [sh, lt, List.getD_eq_getElem?_getD]
  rw [List.getElem?_append_right (by omega), Nat.add_sub_cancel]
theorem gItems_cons {t : Nat → Nat} {n d : Nat} {x : GI} (hd : 1 ≤ d) (hn : d ≤ n) (h : gIt t n (n + 1) 0 = x :: gIt t n n d) : gItems t n = x :: gItems (sh t d) (n - d) := by
  rw [gItems, h]
  congr 1
  have := gIt_sh t n d hn n 0
  rw [Nat.zero_add] at this
  rw [this, gItems]
  exact gIt_fuel _ _ _ _ _ (by omega) (by omega)
theorem items_quote : ∀ cs : List Nat, gItems (lt (cs.flatMap qOne)) (cs.flatMap qOne).length = cs.map giOne
  | [] => rfl
  | c :: cs => by
    have ih := items_quote cs
    rw [List.flatMap_cons, List.map_cons, ← ih]
    cases h : spB c with
    | true =>
      have hq : qOne c = [92, c] := by simp [qOne, h]
      rw [hq]
      have e0 : lt ([92, c] ++ cs.flatMap qOne) 0 = 92 := rfl
      have e1 : lt ([92, c] ++ cs.flatMap qOne) 1 = c := rfl
      rw [gItems_cons (d := 2) (x := giOne c) (by omega) (by simp) (by
        rw [gIt, if_pos (by simp), if_neg (by omega), if_neg (by omega), if_pos e0, if_pos (by simp), Nat.zero_add, e1])]
      rw [show sh (lt ([92, c] ++ cs.flatMap qOne)) 2 = lt (cs.flatMap qOne) from sh_lt [92, c] _]
      congr 2
    | false =>
      have hq : qOne c = [c] := by simp [qOne, h]
      simp only [spB, Bool.or_eq_false_iff, beq_eq_false_iff_ne, ne_eq] at h
      rw [hq]
      have e0 : lt ([c] ++ cs.flatMap qOne) 0 = c := rfl
      rw [gItems_cons (d := 1) (x := giOne c) (by omega) (by simp) (by
        rw [gIt, if_pos (by simp), e0, if_neg h.1.1.1, if_neg h.1.1.2, if_neg h.2, if_neg h.1.2])]
      rw [show sh (lt ([c] ++ cs.flatMap qOne)) 1 = lt (cs.flatMap qOne) from sh_lt [c] _]
      congr 2
end Qm.Glob
