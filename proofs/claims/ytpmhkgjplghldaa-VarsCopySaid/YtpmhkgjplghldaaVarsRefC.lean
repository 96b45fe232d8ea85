/- Walks of the reference's Vars.Unset and PutPair. -/
import Derived.Test.YtpmhkgjplghldaaVarsRefB
import Derived.Test.YtpmhkgjplghldaaPairsWalk
namespace Go.Proofs.Ytpmhkgjplghldaa
open Go.RowKit Go.Deep
attribute [local go_sem] bt_eq

/-- the reference's variables at g hold P, their list in a block of Z -/
def RSt (Z : Nat → Prop) (w : World) (g : Nat) (P : List Pr) : Prop :=
  ∃ A c, w.cell? ⟨g, 0, none⟩ = some (.slice A P.length c) ∧ w.frozen? ⟨g, 0, none⟩ = false ∧ P.length ≤ c ∧ PR w A P ∧ ∀ a, A = some a → a.block ≠ g ∧ a.block < w.heap.size ∧ Z a.block
theorem Kp.set {w w' : World} {S : Nat → Prop} (h : Kp w w' S) {g i : Nat} (hS : S g) (u : Value) : Kp w (w'.setCell ⟨g, i, none⟩ u) S :=
  ⟨h.os, h.tape, h.output, by rw [World.size_setCell]; exact h.size, fun k hk hne => (blk_setCell_other _ _ _ _ (fun e => hne (by subst e; exact hS))).trans (h.block k hk hne)⟩
/-- storing a new list into the variable -/
theorem RSt.store {Z : Nat → Prop} {w w' : World} {g : Nat} {P Q : List Pr} {v : Value} {A : Option Addr} {c : Nat} (h : RSt Z w g P) (hZ : ∀ k, w.heap.size ≤ k → Z k) (hb : Below w.heap.size w w') (hv : v = .slice A Q.length c) (hc : Q.length ≤ c) (hq : PR w' A Q) (ha : ∀ a, A = some a → w.heap.size ≤ a.block ∧ a.block < w'.heap.size) :
    RSt Z (w'.setCell ⟨g, 0, none⟩ v) g Q ∧ Kp w (w'.setCell ⟨g, 0, none⟩ v) (· = g) := by
  obtain ⟨A0, c0, h1, h2, _⟩ := h
  have hgl : g < w.heap.size := World.block_lt_of_cell? w _ h1
  subst hv
  refine ⟨⟨A, c, World.cell?_setCell_same _ _ _ ((hb.cell (p := ⟨g, 0, none⟩) hgl).trans h1), ?_, hc, hq.of (by rw [World.size_setCell]; exact Nat.le_refl _) (fun a e _ => blk_setCell_other _ _ _ _ (by have := ha a e; show a.block ≠ g; omega)), fun a e => by have := ha a e; exact ⟨by omega, by rw [World.size_setCell]; exact this.2, hZ _ this.1⟩⟩, Kp.set (S := fun k => k = g) (Kp.of_below hb _) rfl _⟩
  rw [World.frozen?_setCell]
  exact (hb.frozen (p := ⟨g, 0, none⟩) hgl).trans h2
theorem filter_take {P : List Pr} {k : Nat} {x : Pr} (h : P[k]? = some x) (f : Pr → Bool) : (P.take (k + 1)).filter f = if f x then (P.take k).filter f ++ [x] else (P.take k).filter f := by
  rw [List.take_add_one, h, List.filter_append]
  cases hf : f x <;> simp [hf]
set_option maxRecDepth 100000 in
set_option maxHeartbeats 1000000 in
theorem runset_any (g : Nat) (P : List Pr) (n : ByteArray) (w : World) {Z : Nat → Prop} (h : RSt Z w g P) (hZ : ∀ k, w.heap.size ≤ k → Z k) (hl : P.length ≤ 10000) :
    Calls Try.prog 8 #[.pointer (some ⟨g, 0, none⟩), .string n] w fun e w' => e = .returned (.tuple #[]) ∧ RSt Z w' g (P.filter fun x => !decide (x.1 = n)) ∧ Kp w w' (· = g) := by
  have HR := hide h
  obtain ⟨A, c, hc, hf, _, hP, hag⟩ := h
  obtain ⟨m, hm⟩ : ∃ m, P.length = m := ⟨_, rfl⟩
  rw [hm] at hc hl
  have HM := hide hm
  have HP := hide hP
  have HC := hide hc
  have HF := hide hf
  have hgl : g < w.heap.size := World.block_lt_of_cell? w _ hc
  clear hm hP hag hf
  go_enter Try.func8, Try.ntmps8
  go_wp2
  go_loopw [4, 5] (fun v4 v5 wr => ∃ k : Nat, v5 = .int .i64 k ∧ k ≤ m ∧ OwnP wr w.heap.size v4 ((P.take k).filter fun x => !decide (x.1 = n)) ∧ Below w.heap.size w wr) (fun _ v5 _ => m - (intOf v5).toNat)
  case atStart => exact ⟨0, rfl, by omega, OwnP.nil _ _, Below.refl _ _⟩
  case round =>
    obtain ⟨k, rfl, hk, ho, hb⟩ := hrel
    clear hc
    have hc : wr.cell? ⟨g, 0, none⟩ = some (.slice A m c) := (hb.cell (p := ⟨g, 0, none⟩) hgl).trans HC.out
    have hfz : wr.frozen? ⟨g, 0, none⟩ = false := (hb.frozen (p := ⟨g, 0, none⟩) hgl).trans HF.out
    have hsz := hb.size
    have HO := hide ho
    have HB := hide hb
    clear ho hb
    by_cases hlt : k < m
    · obtain ⟨x, hx⟩ : ∃ x, P[k]? = some x := ⟨P[k]'(by have := HM.out; omega), List.getElem?_eq_getElem _⟩
      obtain ⟨x1, x2⟩ := x
      obtain ⟨g', o, rfl, hg, hc1, hc2⟩ := (HP.out.below HB.out) k _ hx
      have HX := hide (filter_take hx (fun x => !decide (x.1 = n)))
      have hfl : ((P.take k).filter fun x => !decide (x.1 = n)).length ≤ 10000 := by
        have := List.length_filter_le (fun x : Pr => !decide (x.1 = n)) (P.take k)
        simp at this
        omega
      clear hx
      by_cases he : x1 = n
      · subst he
        go_wp2
        go_roundw
        case rel => exact ⟨k + 1, by go_num, by omega, by rw [HX.out, if_neg (by simp)]; exact HO.out, HB.out⟩
        case measure => simp [intOf]; omega
      · have hne := txt_ne he
        have HE := hide he
        clear he
        obtain ⟨v4, w4, r4, o4, g4, b4⟩ := run_appP (c := 1) (OwnP.alloc HO.out (.cells #[.string x1, .string x2] 49)) (pr_new wr x1 x2) (by simp; omega) (by simp; omega)
        have HO4 := hide o4
        have HB4 := hide ((HB.out.alloc hsz (.cells #[.string x1, .string x2] 49)).trans ((Below.refl w.heap.size _).grown g4 (by simp; omega) (fun q hq => (OwnP.lt HO.out q hq).1)))
        clear o4 g4 b4
        go_wp2_with (at_builtin; refine wpList_app_run ?_ (.tmp 25) (.tmp 33) ?_ ?_ ?_ ?_ r4 ?_; exact rfl; exact rfl; exact rfl; exact rfl; exact rfl)
        go_roundw
        case rel => exact ⟨k + 1, by go_num, by omega, by rw [HX.out, if_pos (by simpa using HE.out)]; exact HO4.out, HB4.out⟩
        case measure => simp [intOf]; omega
    · obtain rfl : k = m := by omega
      have HT := hide (show P.take k = P from List.take_of_length_le (by have := HM.out; omega))
      obtain ⟨A4, c4, rfl, hc4, hs4, ha4⟩ := HO.out.slice
      have hfin := RSt.store HR.out hZ HB.out rfl hc4 hs4 (fun a e => OwnP.lt HO.out _ (ha4 a e))
      have HFIN := hide hfin
      clear hfin hs4 ha4
      go_wp2
      go_end0
      have := HFIN.out
      rw [HT.out] at this
      exact ⟨rfl, by rw [HT.out]; exact this.1, by rw [HT.out]; exact this.2⟩
end Go.Proofs.Ytpmhkgjplghldaa
