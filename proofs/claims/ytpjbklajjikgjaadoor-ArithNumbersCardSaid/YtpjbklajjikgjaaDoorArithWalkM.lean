/- Walks of package arith: whole, what it defers, and Eval. -/
import Derived.Test.YtpjbklajjikgjaaDoorArithWalkL
import Derived.Defers
import Derived.Recover
import Derived.Laws.Pointers
import Derived.RegionTactic
import Derived.Outline
import Derived.WideLaws
namespace Go.Proofs.YtpjbklajjikgjaaDoor
open Go.RowKit Go.Deep

theorem assert_wrong (c : Int) (w : World) : (Instr.typeAssert (.iface 56 (.agg #[.int .i64 c])) 20 56 true).run Tryd.prog w = .ok (.tuple #[.agg #[.int .i64 c], .bool true]) w := by kernel_rfl
theorem wp_named {P : Program} {c : Code} {Q : Exit → Act → World → Prop} {a : Act} {w : World} (h : ∀ Q' : Exit → Act → World → Prop, (∀ e a w, Q e a w → Q' e a w) → c.wp P Q' a w) : c.wp P Q a w := h Q fun _ _ _ h => h
set_option maxRecDepth 100000 in
set_option maxHeartbeats 1000000 in
theorem catch_panicking (p q : Nat) (x y : Int) (c : Nat) (w : World) (hp : w.cell? ⟨p, 0, none⟩ = some (.int .i64 x)) (hq : w.cell? ⟨q, 0, none⟩ = some (.int .i64 y)) (zp : w.frozen? ⟨p, 0, none⟩ = false) (zq : w.frozen? ⟨q, 0, none⟩ = false) (hpq : p ≠ q) :
    CallsD Tryd.prog 24 #[.pointer (some ⟨p, 0, none⟩), .pointer (some ⟨q, 0, none⟩)] (.panicking (pw c)) w fun e u' w' =>
      e = .returned (.tuple #[]) ∧ u' = .panicking [{ v := .iface 56 (.agg #[.int .i64 c]), recovered := true }] ∧ w'.cell? ⟨p, 0, none⟩ = some (.int .i64 0) ∧ w'.cell? ⟨q, 0, none⟩ = some (.int .i64 c) ∧ Below (min p q) w w' := by
  refine callsD_of_wpS Tryd.func24 rfl fun c₀ cs hu => ?_
  apply wpS_seq
  apply wpS_region
  simp [wpOpsS, go_sem, recoverD, hu, pw, Tryd.ntmps24, Exit.thenS]
  refine wpS_of_wp (wp_named fun Q hQ => ?_)
  have HQ := hide hQ
  have hta := fun w => assert_wrong c w
  have hneq := run_neq_held_nil (P := Tryd.prog) w 20 56 (.agg #[.int .i64 c]) (by kernel_rfl)
  clear hQ hu
  rw [show ((#[.pointer (some ⟨p, 0, none⟩), .pointer (some ⟨q, 0, none⟩)] : Array Value) ++ ((Array.replicate 16 undef).setIfInBounds 3 (.iface 56 (.agg #[.int .i64 c]))).setIfInBounds 0 (.iface 56 (.agg #[.int .i64 c]))) = #[.pointer (some ⟨p, 0, none⟩), .pointer (some ⟨q, 0, none⟩), .iface 56 (.agg #[.int .i64 c]), undef, undef, .iface 56 (.agg #[.int .i64 c]), undef, undef, undef, undef, undef, undef, undef, undef, undef, undef, undef, undef] from rfl]
  have hpl := World.block_lt_of_cell? w _ hp
  have hql := World.block_lt_of_cell? w _ hq
  simp only at hpl hql
  have hpn : ¬ p = w.heap.size := by omega
  have hqn : ¬ q = w.heap.size := by omega
  go_wp2
  go_region
  all_goals
    refine HQ.out _ _ _ ⟨rfl, _, rfl, .tuple #[], by simp [results, Tryd.results24, go_sem], rfl, rfl, ?_, ?_, ?_⟩
    · go_light
      simp [go_sem, *]
    · go_light
      simp [go_sem, *]
    · go_light
      exact ((((Below.refl _ _).setCell (Nat.min_le_left p q) _).setCell (Nat.min_le_right p q) _).alloc (by simp; omega) _).drew
set_option maxRecDepth 100000 in
set_option maxHeartbeats 1000000 in
theorem catch_idle (p q : Nat) (w : World) :
    CallsD Tryd.prog 24 #[.pointer (some ⟨p, 0, none⟩), .pointer (some ⟨q, 0, none⟩)] .returning w fun e u' w' => e = .returned (.tuple #[]) ∧ u' = .returning ∧ w = w' := by
  refine callsD_of_wpS Tryd.func24 rfl fun c₀ cs hu => ?_
  apply wpS_seq
  apply wpS_region
  simp [wpOpsS, go_sem, recoverD, hu, Tryd.ntmps24, Exit.thenS]
  refine wpS_of_wp (wp_named fun Q hQ => ?_)
  have HQ := hide hQ
  have hneq := run_neq_nil_nil (P := Tryd.prog) w 20 (by kernel_rfl)
  have HU := hide hu
  clear hQ hu
  rw [show ((#[.pointer (some ⟨p, 0, none⟩), .pointer (some ⟨q, 0, none⟩)] : Array Value) ++ ((Array.replicate 16 undef).setIfInBounds 3 .nilIface).setIfInBounds 0 .nilIface) = #[.pointer (some ⟨p, 0, none⟩), .pointer (some ⟨q, 0, none⟩), .nilIface, undef, undef, .nilIface, undef, undef, undef, undef, undef, undef, undef, undef, undef, undef, undef, undef] from rfl]
  go_wp2
  refine HQ.out _ _ _ ⟨rfl, .returning, ?_, .tuple #[], by simp [results, Tryd.results24, go_sem], rfl, rfl, rfl⟩
  have := HU.out
  go_light
  cases c₀
  simp_all
end Go.Proofs.YtpjbklajjikgjaaDoor
