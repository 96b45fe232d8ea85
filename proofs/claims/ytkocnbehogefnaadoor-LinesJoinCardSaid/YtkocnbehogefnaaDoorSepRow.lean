/- A slice of the call's own as a thing in blocks of its own: behind an append. -/
import Derived.Test.YtkocnbehogefnaaDoorSep
import Derived.Test.YtkocnbehogefnaaDoorRowG
namespace Go.Proofs.YtkocnbehogefnaaDoor
open Go.RowKit Go.Deep

/-- what holds of some blocks turns, the rest stays -/
def Step (A A' : Asn) (w w' : World) : Prop := ∀ T, A T w → (∀ k, T k → k < w.heap.size) → ∃ T', A' T' w' ∧ Grow w w' T T' ∧ Kp w w' T
theorem Step.right {A A' X : Asn} {w w' : World} (h : Step A A' w w') (hX : Fr X) : Step (starA X A) (starA X A') w w' := by
  rintro T ⟨T1, T2, a, b, s1, s2, d⟩ hT
  obtain ⟨T2', q, g, hk⟩ := h T2 b (fun k hk => hT k (s2 k hk))
  refine ⟨fun k => T1 k ∨ T2' k, ⟨T1, T2', hX _ _ _ a (fun k h1 => hk.block k (hT k (s1 k h1)) (fun h2 => d k h1 h2)) hk.size, q, fun k h => .inl h, fun k h => .inr h, fun k h1 h2 => ?_⟩, fun k h1 => ?_, hk.mono s2⟩
  · rcases (g k h2).1 with h | h
    · exact d k h1 h
    · have := hT k (s1 k h1); omega
  · rcases h1 with h1 | h2
    · exact ⟨.inl (s1 k h1), Nat.lt_of_lt_of_le (hT k (s1 k h1)) hk.size⟩
    · exact ⟨(g k h2).1.imp_left (s2 k), (g k h2).2⟩
theorem Inv.to {A A' : Asn} {B : Nat} {w0 w w' : World} (h : Inv A B w0 w) (hB : B ≤ w0.heap.size) (hs : Step A A' w w') : Inv A' B w0 w' := by
  obtain ⟨T, a, ht, hb⟩ := h
  obtain ⟨T', q, g, hk⟩ := hs T a (fun k hk => (ht k hk).2)
  refine ⟨T', q, fun k h1 => ⟨?_, (g k h1).2⟩, hk.below hb hB (fun k h1 => (ht k h1).1)⟩
  rcases (g k h1).1 with h | h
  · exact (ht k h).1
  · have := hb.size; omega
section
variable {α : Type} (enc : α → List Value) (n : Nat) (E : TypeId)
/-- a slice of the call's own -/
def OG (base : Nat) (v : Value) (L : List α) : Asn := fun T w => OwnG enc n E w base v L ∧ ∀ k, v.ownBlock = some k → T k
theorem OG.fr (base : Nat) (v : Value) (L : List α) : Fr (OG enc n E base v L) := by
  rintro T w w' ⟨h1, h2⟩ hb hs
  refine ⟨?_, h2⟩
  refine ⟨h1.1, ?_⟩
  rcases h1.2 with h | ⟨g, cap, cur, rfl, hg, hh, r⟩
  · exact .inl h
  · exact .inr ⟨g, cap, cur, rfl, hg, (hb g (h2 g rfl)).trans hh, r⟩
theorem OG.nil (base : Nat) : ∀ w, OG enc n E base (.slice none 0 0) ([] : List α) (fun _ => False) w := fun w => ⟨OwnG.nil w base, fun k h => by cases h⟩
variable {enc n E}
theorem OG.own {base : Nat} {v : Value} {L : List α} {B : Nat} {w0 w : World} (h : Inv (OG enc n E base v L) B w0 w) : OwnG enc n E w base v L := by
  obtain ⟨T, ⟨h1, _⟩, _⟩ := h; exact h1
theorem OG.app {base : Nat} {v : Value} {L N : List α} {w w' : World} {v' : Value}
    (hrun : OwnG enc n E w' base v' (L ++ N)) (hg : w.grownBy w' v.ownBlock) (ho : v'.ownBlock = v.ownBlock ∨ v'.ownBlock = some w.heap.size) : Step (OG enc n E base v L) (OG enc n E base v' (L ++ N)) w w' := by
  rintro T ⟨h1, h2⟩ hT
  refine ⟨fun k => T k ∨ v'.ownBlock = some k, ⟨hrun, fun k hk => .inr hk⟩, fun k hk => ?_, ⟨hg.os, hg.tape, hg.output, hg.size, fun k hk hne => hg.block k hk (fun e => hne (h2 k e.symm))⟩⟩
  rcases hk with hk | hk
  · exact ⟨.inl hk, Nat.lt_of_lt_of_le (hT k hk) hg.size⟩
  · refine ⟨?_, (hrun.lt k hk).2⟩
    rcases ho with e | e
    · exact .inl (h2 k (by rw [← e]; exact hk))
    · rw [e] at hk; injection hk with hk; exact .inr (by omega)
/-- one more element, laid in a block of its own ahead of it -/
theorem OG.push {P : Program} {S : TypeId} (R : RowT P S E n) (he : ∀ x, (enc x).length = n) (h1c : ∀ x, ∀ u ∈ enc x, u.oneCell' = true) {X : Asn} (hX : Fr X) {base B : Nat} {w0 w : World} {v : Value} {L : List α} (h : Inv (starA X (OG enc n E base v L)) B w0 w) (hB : B ≤ w0.heap.size) (hbase : base ≤ w.heap.size) (hl : L.length ≤ 900000) (x : α) (cs : Array Value) (hcs : cs = (enc x).toArray) :
    ∃ v' w', (Builtin.append_ #[S, S] S #[v, .slice (some ⟨w.heap.size, 0, none⟩) 1 1]).run P (w.alloc (.cells cs E)) = .ok v' w' ∧ Inv (starA X (OG enc n E base v' (L ++ [x]))) B w0 w' := by
  subst hcs
  have ho := OG.own h.snd
  obtain ⟨v', w', hrun, h2, h3, h4⟩ := run_appG R he h1c (c := 1) (ho.alloc (.cells (enc x).toArray E)) (rg_new w x E) (by simp; omega) (by simp; omega)
  refine ⟨v', w', hrun, ?_⟩
  have hi := h.step (hX.star (OG.fr enc n E base v L)) (((Below.refl _ _).alloc (Nat.le_refl _) (.cells (enc x).toArray E))) hB
  exact hi.to hB ((OG.app h2 h3 h4).right hX)
end
end Go.Proofs.YtkocnbehogefnaaDoor
