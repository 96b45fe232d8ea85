/- Walks of the program's lines: continued, next, recipe, other. -/
import Derived.Test.YtkocnbehogefnaaDoorLinesMath
import Derived.Test.YtkocnbehogefnaaDoorBs
import Derived.Test.YtkocnbehogefnaaDoorSep
import Derived.Test.YtkocnbehogefnaaDoorStrsWalk
import Derived.Test.YtkocnbehogefnaaDoorShelf
namespace Go.Proofs.YtkocnbehogefnaaDoor
open Go.RowKit Go.Deep Ln
attribute [local go_sem] bt_eq

theorem take_drop_len {α : Type} (p : α → Bool) (l : List α) : (l.takeWhile p).length + (l.dropWhile p).length = l.length := by
  rw [← List.length_append, List.takeWhile_append_dropWhile]
theorem odd_len (l : T) (n : Nat) (h : n = (Lib.trimRightB l 92).length) : (((l.length : Int) - (n : Int)) % 2 == 1) = oddB l ∧ n ≤ l.length := by
  have h1 := take_drop_len (· == (92 : UInt8)) l.reverse
  rw [List.length_reverse] at h1
  have h2 : (Lib.trimRightB l 92).length = (l.reverse.dropWhile (· == (92 : UInt8))).length := by unfold Lib.trimRightB; rw [List.length_reverse]
  rw [h2] at h
  refine ⟨?_, by omega⟩
  unfold oddB
  rw [Bool.eq_iff_iff]
  simp only [beq_iff_eq]
  omega
set_option maxRecDepth 100000 in
set_option maxHeartbeats 1000000 in
theorem continued_any (l : T) (w : World) (h : l.length ≤ 1000000) : Calls Tryd.prog 33 #[.string (bs l)] w fun e w' => e = .returned (.bool (oddB l)) ∧ w = w' := by
  have hs : (bs l).size ≤ 9223372036854775807 := by rw [bs_size]; omega
  have HT := hide (Tryd.strings_TrimRight_one (bs l) 92 (by decide) w hs)
  rw [bs_list] at HT
  obtain ⟨t, ht⟩ : ∃ t, (⟨(Lib.trimRightB l 92).toArray⟩ : ByteArray) = t := ⟨_, rfl⟩
  have htz : t.size = (Lib.trimRightB l 92).length := by rw [← ht]; rfl
  obtain ⟨h1, h2⟩ := odd_len l t.size htz
  rw [ht] at HT
  have hz : (bs l).size = l.length := bs_size l
  have h3 : t.size ≤ (bs l).size := by omega
  have h4 : (bs l).size ≤ 1000000 := by omega
  rw [← hz] at h1
  have H1 := hide h1
  generalize bs l = s at *
  generalize oddB l = b at H1
  clear h1 h2 ht htz hz hs
  have h5 : (0 : Int) ≤ (s.size : Int) - (t.size : Int) := by omega
  have h6 : (s.size : Int) - (t.size : Int) ≤ 1000000 := by omega
  go_enter Tryd.func33, Tryd.ntmps33
  go_wp2_with fail
  refine HT.out.mono ?_
  rintro e w' ⟨rfl, rfl⟩
  go_wp2
  go_ret
  refine ⟨?_, rfl⟩
  rw [← H1.out]
  rfl
theorem SR.of {w w' : World} {A : Option Addr} {L : List ByteArray} (h : SR w A L) (hs : w.heap.size ≤ w'.heap.size) (hc : ∀ a, A = some a → a.block < w.heap.size → w'.heap[a.block]? = w.heap[a.block]?) : SR w' A L := fun k x hk => by
  obtain ⟨g, o, e, hg, h1⟩ := h k x hk
  have hb := hc _ e hg
  exact ⟨g, o, e, by omega, (World.cell?_of_block (a := ⟨g, o + k, none⟩) hb).trans h1⟩
/-- a list of texts in blocks of its own -/
def LS (A : Option Addr) (L : List ByteArray) : Asn := fun T w => SR w A L ∧ ∀ a, A = some a → T a.block
theorem LS.fr (A : Option Addr) (L : List ByteArray) : Fr (LS A L) := by
  rintro T w w' ⟨h1, h2⟩ hb hs
  exact ⟨h1.of hs (fun a e _ => hb a.block (h2 a e)), h2⟩
theorem LS.sr {A : Option Addr} {L : List ByteArray} {B : Nat} {w0 w : World} (h : Inv (LS A L) B w0 w) : SR w A L := by
  obtain ⟨T, ⟨h1, _⟩, _⟩ := h; exact h1
/-- the reader at g: its lines' slice, and the place -/
def RDL (g : Nat) (A : Option Addr) (n c i : Nat) : Asn := fun T w => T g ∧ w.cell? ⟨g, 0, none⟩ = some (.slice A n c) ∧ w.cell? ⟨g, 1, none⟩ = some (.int .i64 i) ∧ w.frozen? ⟨g, 0, none⟩ = false ∧ w.frozen? ⟨g, 1, none⟩ = false
theorem RDL.fr (g : Nat) (A : Option Addr) (n c i : Nat) : Fr (RDL g A n c i) := by
  rintro T w w' ⟨h1, h2, h3, h4, h5⟩ hb hs
  exact ⟨h1, (World.cell?_of_block (hb g h1)).trans h2, (World.cell?_of_block (hb g h1)).trans h3, (World.frozen?_of_block (hb g h1)).trans h4, (World.frozen?_of_block (hb g h1)).trans h5⟩
/-- what next tells -/
def nxt (L : List ByteArray) (i : Nat) : Value := match L[i]? with
  | some s => .tuple #[.string s, .bool true]
  | none => .tuple #[.string ⟨#[]⟩, .bool false]
theorem Kp.ds (w : World) (a b g i : Nat) (u : Value) : Kp w (((w.drewN a).setCell ⟨g, i, none⟩ u).drewN b) (fun k => k = g) :=
  ⟨rfl, rfl, rfl, by rw [show (((w.drewN a).setCell ⟨g, i, none⟩ u).drewN b).heap.size = ((w.drewN a).setCell ⟨g, i, none⟩ u).heap.size from rfl, World.size_setCell]; exact Nat.le_refl _, fun k _ hne => blk_setCell_other (w.drewN a) ⟨g, i, none⟩ u k hne⟩
theorem Kp.setc {w : World} {g i : Nat} (u : Value) : Kp w (w.setCell ⟨g, i, none⟩ u) (fun k => k = g) :=
  ⟨rfl, rfl, rfl, by rw [World.size_setCell]; exact Nat.le_refl _, fun k _ hne => blk_setCell_other _ _ _ _ hne⟩
theorem Kp.drewN' {w w' : World} {S : Nat → Prop} (h : Kp w w' S) (n : Nat) : Kp w (w'.drewN n) S := ⟨h.os, h.tape, h.output, h.size, h.block⟩
set_option maxRecDepth 100000 in
set_option maxHeartbeats 1000000 in
theorem next_spec (g : Nat) (A : Option Addr) (L : List ByteArray) (c i : Nat) (hi : i ≤ L.length) (hc : L.length ≤ c) (hL : L.length ≤ 1000000) (_hc2 : c ≤ 1000000) :
    SpecE Tryd.prog 23 #[.pointer (some ⟨g, 0, none⟩)] (starA (LS A L) (RDL g A L.length c i)) (.returned (nxt L i)) (starA (LS A L) (RDL g A L.length c (if i < L.length then i + 1 else i))) := by
  rintro T w ⟨T1, T2, ⟨a1, a2⟩, ⟨b1, b2, b3, b4, b5⟩, s1, s2, d⟩ hT
  obtain ⟨n, hn⟩ : ∃ n, L.length = n := ⟨_, rfl⟩
  rw [hn] at hi hc hL b2 ⊢
  have HN := hide hn
  clear hn
  have hi0 : (0 : Int) ≤ (i : Int) := by omega
  have hi1 : (i : Int) ≤ 1000000 := by omega
  by_cases hlt : i < n
  · obtain ⟨x, hx⟩ : ∃ x, L[i]? = some x := ⟨L[i]'(by have := HN.out; omega), List.getElem?_eq_getElem _⟩
    have HX := hide (show nxt L i = .tuple #[.string x, .bool true] by unfold nxt; rw [hx])
    obtain ⟨gs, os, rfl, hgs, hcs⟩ := a1 i x hx
    have hgne : gs ≠ g := fun e => by subst e; exact d gs (a2 _ rfl) b1
    have HA := hide a1
    have hgl := World.block_lt_of_cell? w _ b2
    rw [if_pos hlt]
    have hne : decide ((i : Int) = (n : Int)) = false := by simp; omega
    have hne2 : ((i : Int) == (n : Int)) = false := by simp; omega
    have hne3 : (i == n) = false := by simp; omega
    clear hx
    go_enter Tryd.func23, Tryd.ntmps23
    go_wp2_with fail
    go_quiet (fail)
    go_wp2_with fail
    have hgne2 : g ≠ gs := fun e => hgne e.symm
    go_quiet (fail)
    go_wp2_with fail
    go_ret2
    rw [HX.out]
    have hk := fun a b => Kp.ds w a b g 1 (.int .i64 ((i : Int) + 1))
    refine ⟨T, ⟨rfl, T1, T2, LS.fr _ _ T1 w _ ⟨HA.out, a2⟩ (fun k h1 => (hk _ _).block k (hT k (s1 k h1)) (fun e => d k h1 (e ▸ b1))) (hk _ _).size, ⟨b1, ?_, ?_, ?_, ?_⟩, s1, s2, d⟩, fun k h1 => ⟨.inl h1, Nat.lt_of_lt_of_le (hT k h1) (hk _ _).size⟩, (hk _ _).mono (fun k e => by subst e; exact s2 _ b1)⟩
    · exact (World.cell?_setCell_other _ ⟨g, 1, none⟩ ⟨g, 0, none⟩ _ (by simp)).trans b2
    · exact World.cell?_setCell_same _ ⟨g, 1, none⟩ _ b3
    · exact (World.frozen?_setCell ..).trans b4
    · exact (World.frozen?_setCell ..).trans b5
  · obtain rfl : i = n := by omega
    have HX := hide (show nxt L i = .tuple #[.string ⟨#[]⟩, .bool false] by unfold nxt; rw [List.getElem?_eq_none (by have := HN.out; omega)])
    have HA := hide a1
    rw [if_neg hlt]
    go_enter Tryd.func23, Tryd.ntmps23
    go_wp2_with fail
    go_quiet (fail)
    go_wp2
    go_ret2
    rw [HX.out]
    exact ⟨T, ⟨rfl, T1, T2, ⟨HA.out, a2⟩, ⟨b1, b2, b3, b4, b5⟩, s1, s2, d⟩, fun k h1 => ⟨.inl h1, hT k h1⟩, (Kp.refl w T).drewN' _⟩
end Go.Proofs.YtkocnbehogefnaaDoor
