/- Things in memory, each in blocks of its own: what a call on one of them leaves of the others. No program in sight. Things in memory: each has blocks of its own, which may change, and reads blocks that all share and that never change. No program in sight. -/
import Derived.WalkKit
import Derived.ProofKit
import Derived.Below
namespace Go.Proofs.Ythcgnfoijemcbaa
open Go.RowKit

/-- blocks outside S are as they were -/
structure Kp (w w' : World) (S : Nat → Prop) : Prop where
  os : w'.os = w.os
  tape : w'.tape = w.tape
  output : w'.output = w.output
  size : w.heap.size ≤ w'.heap.size
  block : ∀ k, k < w.heap.size → ¬ S k → w'.heap[k]? = w.heap[k]?
theorem Kp.below {w w' : World} {S : Nat → Prop} (h : Kp w w' S) {B : Nat} {a : World} (ha : Below B a w) (hB : B ≤ a.heap.size) (hS : ∀ k, S k → B ≤ k) : Below B a w' :=
  ha.trans ⟨h.os, h.tape, h.output, h.size, fun k hk => h.block k (by have := ha.size; omega) (fun c => by have := hS k c; omega)⟩
theorem Kp.refl (w : World) (S : Nat → Prop) : Kp w w S := ⟨rfl, rfl, rfl, Nat.le_refl _, fun _ _ _ => rfl⟩
theorem Kp.of_below {w w' : World} (h : Below w.heap.size w w') (S : Nat → Prop) : Kp w w' S := ⟨h.os, h.tape, h.output, h.size, fun k hk _ => h.block k hk⟩
theorem Kp.mono {w w' : World} {S S' : Nat → Prop} (h : Kp w w' S) (hS : ∀ k, S k → S' k) : Kp w w' S' := ⟨h.os, h.tape, h.output, h.size, fun k hk hn => h.block k hk (fun c => hn (hS k c))⟩
theorem Kp.trans {w w' w'' : World} {S : Nat → Prop} (h : Kp w w' S) (h' : Kp w' w'' (fun k => S k ∨ w.heap.size ≤ k)) : Kp w w'' S :=
  ⟨h'.os.trans h.os, h'.tape.trans h.tape, h'.output.trans h.output, Nat.le_trans h.size h'.size, fun k hk hn => (h'.block k (Nat.lt_of_lt_of_le hk h.size) (fun c => c.elim hn (fun c => absurd hk (Nat.not_lt.2 c)))).trans (h.block k hk hn)⟩
theorem Kp.cell {w w' : World} {S : Nat → Prop} (h : Kp w w' S) {g o : Nat} {v : Value} (hc : w.cell? ⟨g, o, none⟩ = some v) (hS : ¬ S g) : w'.cell? ⟨g, o, none⟩ = some v :=
  (World.cell?_of_block (h.block g (World.block_lt_of_cell? w _ hc) hS)).trans hc
theorem Kp.frozen {w w' : World} {S : Nat → Prop} (h : Kp w w' S) {g o : Nat} (hg : g < w.heap.size) (hf : w.frozen? ⟨g, o, none⟩ = false) (hS : ¬ S g) : w'.frozen? ⟨g, o, none⟩ = false :=
  (World.frozen?_of_block (h.block g hg hS)).trans hf

/-- what holds of some blocks -/
abbrev Asn := (Nat → Prop) → World → Prop
/-- it hangs on those blocks alone -/
def Fr (A : Asn) : Prop := ∀ T w w', A T w → (∀ k, T k → w'.heap[k]? = w.heap[k]?) → w.heap.size ≤ w'.heap.size → A T w'
def starA (A B : Asn) : Asn := fun T w => ∃ T1 T2, A T1 w ∧ B T2 w ∧ (∀ k, T1 k → T k) ∧ (∀ k, T2 k → T k) ∧ ∀ k, T1 k → ¬ T2 k
theorem Fr.star {A B : Asn} (hA : Fr A) (hB : Fr B) : Fr (starA A B) := by
  rintro T w w' ⟨T1, T2, a, b, s1, s2, d⟩ hb hs
  exact ⟨T1, T2, hA _ _ _ a (fun k hk => hb k (s1 k hk)) hs, hB _ _ _ b (fun k hk => hb k (s2 k hk)) hs, s1, s2, d⟩
/-- the blocks behind a call: those, and new ones -/
def Grow (w w' : World) (T T' : Nat → Prop) : Prop := ∀ k, T' k → (T k ∨ w.heap.size ≤ k) ∧ k < w'.heap.size
/-- a call that changes what holds of some blocks, and nothing else -/
def Spec (P : Program) (f : FuncId) (args : Array Value) (A : Asn) (Q : Ending → Asn) : Prop :=
  ∀ T w, A T w → (∀ k, T k → k < w.heap.size) → Calls P f args w fun e w' => ∃ T', Q e T' w' ∧ Grow w w' T T' ∧ Kp w w' T
theorem Spec.left {P : Program} {f : FuncId} {args : Array Value} {A B : Asn} {Q : Ending → Asn} (h : Spec P f args A Q) (hB : Fr B) : Spec P f args (starA A B) (fun e => starA (Q e) B) := by
  rintro T w ⟨T1, T2, a, b, s1, s2, d⟩ hT
  refine (h T1 w a (fun k hk => hT k (s1 k hk))).mono ?_
  rintro e w' ⟨T1', q, g, hk⟩
  refine ⟨fun k => T1' k ∨ T2 k, ⟨T1', T2, q, hB _ _ _ b (fun k h2 => hk.block k (hT k (s2 k h2)) (fun h1 => d k h1 h2)) hk.size, fun k h => .inl h, fun k h => .inr h, fun k h1 h2 => ?_⟩, fun k h1 => ?_, hk.mono s1⟩
  · rcases (g k h1).1 with h | h
    · exact d k h h2
    · have := hT k (s2 k h2); omega
  · rcases h1 with h1 | h2
    · exact ⟨(g k h1).1.imp_left (s1 k), (g k h1).2⟩
    · exact ⟨.inl (s2 k h2), Nat.lt_of_lt_of_le (hT k (s2 k h2)) hk.size⟩
theorem star_comm {A B : Asn} {T : Nat → Prop} {w : World} (h : (starA A B) T w) : (starA B A) T w := by
  obtain ⟨T1, T2, a, b, s1, s2, d⟩ := h
  exact ⟨T2, T1, b, a, s2, s1, fun k h2 h1 => d k h1 h2⟩
theorem Spec.right {P : Program} {f : FuncId} {args : Array Value} {A B : Asn} {Q : Ending → Asn} (h : Spec P f args A Q) (hB : Fr B) : Spec P f args (starA B A) (fun e => starA B (Q e)) := by
  intro T w hh hT
  refine ((h.left hB) T w (star_comm hh) hT).mono ?_
  rintro e w' ⟨T', q, g, hk⟩
  exact ⟨T', star_comm q, g, hk⟩
/-- the same, with the one ending -/
def SpecE (P : Program) (f : FuncId) (args : Array Value) (A : Asn) (e0 : Ending) (A' : Asn) : Prop := Spec P f args A (fun e T w => e = e0 ∧ A' T w)
theorem SpecE.left {P : Program} {f : FuncId} {args : Array Value} {A A' B : Asn} {e0 : Ending} (h : SpecE P f args A e0 A') (hB : Fr B) : SpecE P f args (starA A B) e0 (starA A' B) := by
  intro T w hh hT
  refine ((Spec.left h hB) T w hh hT).mono ?_
  rintro e w' ⟨T', ⟨T1, T2, ⟨q0, q⟩, b, s1, s2, d⟩, g, hk⟩
  exact ⟨T', ⟨q0, T1, T2, q, b, s1, s2, d⟩, g, hk⟩
theorem SpecE.right {P : Program} {f : FuncId} {args : Array Value} {A A' B : Asn} {e0 : Ending} (h : SpecE P f args A e0 A') (hB : Fr B) : SpecE P f args (starA B A) e0 (starA B A') := by
  intro T w hh hT
  refine ((Spec.right h hB) T w hh hT).mono ?_
  rintro e w' ⟨T', ⟨T1, T2, b, ⟨q0, q⟩, s1, s2, d⟩, g, hk⟩
  exact ⟨T', ⟨q0, T1, T2, b, q, s1, s2, d⟩, g, hk⟩
theorem star_mono {A A' B B' : Asn} (hA : ∀ T w, A T w → A' T w) (hB : ∀ T w, B T w → B' T w) : ∀ T w, (starA A B) T w → (starA A' B') T w := by
  rintro T w ⟨T1, T2, a, b, s1, s2, d⟩
  exact ⟨T1, T2, hA _ _ a, hB _ _ b, s1, s2, d⟩
/-- it holds of blocks from B on, and what lay below B is as it was -/
def Inv (A : Asn) (B : Nat) (w0 w : World) : Prop := ∃ T, A T w ∧ (∀ k, T k → B ≤ k ∧ k < w.heap.size) ∧ Below B w0 w
theorem Inv.below {A : Asn} {B : Nat} {w0 w : World} (h : Inv A B w0 w) : Below B w0 w := by
  obtain ⟨T, _, _, h⟩ := h; exact h
theorem Inv.call {P : Program} {f : FuncId} {args : Array Value} {A : Asn} {Q : Ending → Asn} {B : Nat} {w0 w : World} (h : Inv A B w0 w) (hB : B ≤ w0.heap.size) (hs : Spec P f args A Q) : Calls P f args w fun e w' => Inv (Q e) B w0 w' := by
  obtain ⟨T, a, ht, hb⟩ := h
  refine (hs T w a (fun k hk => (ht k hk).2)).mono ?_
  rintro e w' ⟨T', q, g, hk⟩
  refine ⟨T', q, fun k h1 => ⟨?_, (g k h1).2⟩, hk.below hb hB (fun k h1 => (ht k h1).1)⟩
  rcases (g k h1).1 with h | h
  · exact (ht k h).1
  · have := hb.size; omega
theorem Inv.callE {P : Program} {f : FuncId} {args : Array Value} {A A' : Asn} {e0 : Ending} {B : Nat} {w0 w : World} (h : Inv A B w0 w) (hB : B ≤ w0.heap.size) (hs : SpecE P f args A e0 A') : Calls P f args w fun e w' => e = e0 ∧ Inv A' B w0 w' := by
  refine (h.call hB hs).mono ?_
  rintro e w' ⟨T, ⟨q0, q⟩, ht, hb⟩
  exact ⟨q0, T, q, ht, hb⟩
theorem Inv.mono {A A' : Asn} {B : Nat} {w0 w : World} (h : Inv A B w0 w) (hm : ∀ T w, A T w → A' T w) : Inv A' B w0 w := by
  obtain ⟨T, a, ht, hb⟩ := h
  exact ⟨T, hm T w a, ht, hb⟩
theorem Inv.fst {A A' : Asn} {B : Nat} {w0 w : World} (h : Inv (starA A A') B w0 w) : Inv A B w0 w := by
  obtain ⟨T, ⟨T1, T2, a, b, s1, s2, d⟩, ht, hb⟩ := h
  exact ⟨T1, a, fun k hk => ht k (s1 k hk), hb⟩
theorem Inv.snd {A A' : Asn} {B : Nat} {w0 w : World} (h : Inv (starA A A') B w0 w) : Inv A' B w0 w := by
  obtain ⟨T, ⟨T1, T2, a, b, s1, s2, d⟩, ht, hb⟩ := h
  exact ⟨T2, b, fun k hk => ht k (s2 k hk), hb⟩
theorem Inv.comm {A A' : Asn} {B : Nat} {w0 w : World} (h : Inv (starA A A') B w0 w) : Inv (starA A' A) B w0 w := h.mono (fun _ _ h => star_comm h)
/-- a call that changes nothing old keeps it -/
theorem Inv.step {A : Asn} {B : Nat} {w0 w w' : World} (h : Inv A B w0 w) (hA : Fr A) (hb : Below w.heap.size w w') (hB : B ≤ w0.heap.size) : Inv A B w0 w' := by
  obtain ⟨T, a, ht, hb0⟩ := h
  refine ⟨T, hA T w w' a (fun k hk => hb.block k (ht k hk).2) hb.size, fun k hk => ⟨(ht k hk).1, Nat.lt_of_lt_of_le (ht k hk).2 hb.size⟩, hb0.trans (hb.mono ?_)⟩
  have := hb0.size; omega
/-- a block that is known whole -/
def Blk (g : Nat) (o : Obj) : Asn := fun T w => T g ∧ w.heap[g]? = some o
theorem Blk.fr (g : Nat) (o : Obj) : Fr (Blk g o) := by
  rintro T w w' ⟨h1, h2⟩ hb _
  exact ⟨h1, (hb g h1).trans h2⟩
theorem heapNew (w : World) (o : Obj) : (w.alloc o).heap[w.heap.size]? = some o := by
  show (w.heap.push o)[w.heap.size]? = some o
  simp
/-- a new block -/
theorem Inv.new {A : Asn} {B : Nat} {w0 w : World} (h : Inv A B w0 w) (hA : Fr A) (o : Obj) (hB : B ≤ w0.heap.size) : Inv (starA A (Blk w.heap.size o)) B w0 (w.alloc o) := by
  obtain ⟨T, a, ht, hb⟩ := h
  have hold : ∀ k, T k → (w.alloc o).heap[k]? = w.heap[k]? := fun k hk => Below.heap_alloc w o k (ht k hk).2
  refine ⟨fun k => T k ∨ k = w.heap.size, ⟨T, fun k => k = w.heap.size, hA T w _ a hold (by simp), ⟨rfl, heapNew _ _⟩, fun k h => .inl h, fun k h => .inr h, ?_⟩, ?_, ?_⟩
  · rintro k hk rfl
    have := (ht _ hk).2
    omega
  · intro k hk
    have := hb.size
    rcases hk with hk | rfl
    · have := ht k hk
      exact ⟨this.1, by simp; omega⟩
    · exact ⟨by omega, by simp⟩
  · exact hb.alloc (by have := hb.size; omega) _
/-- more, in new blocks -/
theorem Inv.add {A N : Asn} {B : Nat} {w0 w w' : World} (h : Inv A B w0 w) (hA : Fr A) (hb : Below w.heap.size w w') (hB : B ≤ w0.heap.size) {T2 : Nat → Prop} (hn : N T2 w') (h2 : ∀ k, T2 k → w.heap.size ≤ k ∧ k < w'.heap.size) : Inv (starA A N) B w0 w' := by
  obtain ⟨T, a, ht, hb0⟩ := h
  have hs0 := hb0.size
  refine ⟨fun k => T k ∨ T2 k, ⟨T, T2, hA T w w' a (fun k hk => hb.block k (ht k hk).2) hb.size, hn, fun k h => .inl h, fun k h => .inr h, fun k h1 h3 => ?_⟩, fun k hk => ?_, hb0.trans (hb.mono (by omega))⟩
  · have := (ht k h1).2
    have := (h2 k h3).1
    omega
  · have := hb.size
    rcases hk with hk | hk
    · have := ht k hk; omega
    · have := h2 k hk; omega
theorem Inv.drew {A : Asn} {B : Nat} {w0 w : World} (h : Inv A B w0 w) (hA : Fr A) (hB : B ≤ w0.heap.size) : Inv A B w0 w.drew := h.step hA (Below.refl _ _).drew hB
theorem Blk.cell {g : Nat} {cs : Array Value} {t : TypeId} {B : Nat} {w0 w : World} (h : Inv (Blk g (.cells cs t)) B w0 w) {j : Nat} {v : Value} (hj : cs[j]? = some v) : w.cell? ⟨g, j, none⟩ = some v := by
  obtain ⟨T, ⟨_, hg⟩, _, _⟩ := h
  simpa [World.cell?, hg] using hj
theorem Inv.start (w : World) : Inv (fun _ _ => True) w.heap.size w w := ⟨fun _ => False, trivial, fun _ h => h.elim, Below.refl _ _⟩
/-- the first block -/
theorem Inv.first (w : World) (o : Obj) : Inv (Blk w.heap.size o) w.heap.size w (w.alloc o) :=
  ⟨fun k => k = w.heap.size, ⟨rfl, heapNew _ _⟩, fun k h => by subst h; exact ⟨Nat.le_refl _, by simp⟩, (Below.refl _ _).alloc (Nat.le_refl _) _⟩
end Go.Proofs.Ythcgnfoijemcbaa
namespace Go.Proofs.Ythcgnfoijemcbaa
open Go.RowKit

/-- what holds of some blocks (T), given blocks that never change (N) -/
abbrev AsnN := (Nat → Prop) → (Nat → Prop) → World → Prop
/-- it hangs on those blocks alone -/
def FrN (A : AsnN) : Prop := ∀ T N N' w w', A T N w → (∀ k, T k ∨ N k → w'.heap[k]? = w.heap[k]?) → (∀ k, N k → N' k) → w.heap.size ≤ w'.heap.size → A T N' w'
def sep (A B : AsnN) : AsnN := fun T N w => ∃ T1 T2, A T1 N w ∧ B T2 N w ∧ (∀ k, T1 k → T k) ∧ (∀ k, T2 k → T k) ∧ ∀ k, T1 k → ¬ T2 k
theorem FrN.join {A B : AsnN} (hA : FrN A) (hB : FrN B) : FrN (sep A B) := by
  rintro T N N' w w' ⟨T1, T2, a, b, s1, s2, d⟩ hb hn hs
  exact ⟨T1, T2, hA _ _ _ _ _ a (fun k hk => hb k (hk.imp_left (s1 k))) hn hs, hB _ _ _ _ _ b (fun k hk => hb k (hk.imp_left (s2 k))) hn hs, s1, s2, d⟩
/-- the blocks lie in the world, and apart -/
def OkTN (T N : Nat → Prop) (w : World) : Prop := (∀ k, T k → k < w.heap.size ∧ ¬ N k) ∧ ∀ k, N k → k < w.heap.size
/-- the blocks behind a call: those, and new ones -/
def GrowN (w w' : World) (T N T' N' : Nat → Prop) : Prop := (∀ k, T' k → T k ∨ w.heap.size ≤ k) ∧ (∀ k, N k → N' k) ∧ (∀ k, N' k → N k ∨ w.heap.size ≤ k) ∧ OkTN T' N' w'
theorem GrowN.refl {T N : Nat → Prop} {w w' : World} (h : OkTN T N w) (hs : w.heap.size ≤ w'.heap.size) : GrowN w w' T N T N :=
  ⟨fun _ h => .inl h, fun _ h => h, fun _ h => .inl h, fun k hk => ⟨Nat.lt_of_lt_of_le (h.1 k hk).1 hs, (h.1 k hk).2⟩, fun k hk => Nat.lt_of_lt_of_le (h.2 k hk) hs⟩
theorem GrowN.trans {T N T' N' T'' N'' : Nat → Prop} {w w' w'' : World} (h : GrowN w w' T N T' N') (h' : GrowN w' w'' T' N' T'' N'') (hs : w.heap.size ≤ w'.heap.size) : GrowN w w'' T N T'' N'' :=
  ⟨fun k hk => (h'.1 k hk).elim (h.1 k) (fun h => .inr (Nat.le_trans hs h)), fun k hk => h'.2.1 k (h.2.1 k hk), fun k hk => (h'.2.2.1 k hk).elim (h.2.2.1 k) (fun h => .inr (Nat.le_trans hs h)), h'.2.2.2⟩
/-- a step that changes what holds of some blocks, and nothing else -/
def StepN (A A' : AsnN) (w w' : World) : Prop := ∀ T N, A T N w → OkTN T N w → ∃ T' N', A' T' N' w' ∧ GrowN w w' T N T' N' ∧ Kp w w' T
/-- a call that changes what holds of some blocks, and nothing else -/
def SpecN (P : Program) (f : FuncId) (args : Array Value) (A : AsnN) (Q : Ending → AsnN) : Prop :=
  ∀ T N w, A T N w → OkTN T N w → Calls P f args w fun e w' => ∃ T' N', Q e T' N' w' ∧ GrowN w w' T N T' N' ∧ Kp w w' T
theorem SpecN.left {P : Program} {f : FuncId} {args : Array Value} {A B : AsnN} {Q : Ending → AsnN} (h : SpecN P f args A Q) (hB : FrN B) : SpecN P f args (sep A B) (fun e => sep (Q e) B) := by
  rintro T N w ⟨T1, T2, a, b, s1, s2, d⟩ hT
  refine (h T1 N w a ⟨fun k hk => hT.1 k (s1 k hk), hT.2⟩).mono ?_
  rintro e w' ⟨T1', N', q, ⟨g1, g2, g3, g4, g5⟩, hk⟩
  refine ⟨fun k => T1' k ∨ T2 k, N', ⟨T1', T2, q, hB _ _ _ _ _ b (fun k h2 => ?_) g2 hk.size, fun k h => .inl h, fun k h => .inr h, fun k h1 h2 => ?_⟩, ⟨fun k h1 => ?_, g2, g3, fun k h1 => ?_, g5⟩, hk.mono s1⟩
  · rcases h2 with h2 | h2
    · exact hk.block k (hT.1 k (s2 k h2)).1 (fun h1 => d k h1 h2)
    · exact hk.block k (hT.2 k h2) (fun h1 => (hT.1 k (s1 k h1)).2 h2)
  · rcases g1 k h1 with h | h
    · exact d k h h2
    · have := (hT.1 k (s2 k h2)).1; omega
  · rcases h1 with h1 | h2
    · exact (g1 k h1).imp_left (s1 k)
    · exact .inl (s2 k h2)
  · rcases h1 with h1 | h2
    · exact g4 k h1
    · refine ⟨Nat.lt_of_lt_of_le (hT.1 k (s2 k h2)).1 hk.size, fun h => ?_⟩
      rcases g3 k h with h | h
      · exact (hT.1 k (s2 k h2)).2 h
      · have := (hT.1 k (s2 k h2)).1; omega
theorem sep_comm {A B : AsnN} {T N : Nat → Prop} {w : World} (h : (sep A B) T N w) : (sep B A) T N w := by
  obtain ⟨T1, T2, a, b, s1, s2, d⟩ := h
  exact ⟨T2, T1, b, a, s2, s1, fun k h2 h1 => d k h1 h2⟩
theorem SpecN.right {P : Program} {f : FuncId} {args : Array Value} {A B : AsnN} {Q : Ending → AsnN} (h : SpecN P f args A Q) (hB : FrN B) : SpecN P f args (sep B A) (fun e => sep B (Q e)) := by
  intro T N w hh hT
  refine ((h.left hB) T N w (sep_comm hh) hT).mono ?_
  rintro e w' ⟨T', N', q, g, hk⟩
  exact ⟨T', N', sep_comm q, g, hk⟩
theorem SpecN.mono {P : Program} {f : FuncId} {args : Array Value} {A : AsnN} {Q Q' : Ending → AsnN} (h : SpecN P f args A Q) (hQ : ∀ e T N w, Q e T N w → Q' e T N w) : SpecN P f args A Q' := by
  intro T N w hh hT
  refine (h T N w hh hT).mono ?_
  rintro e w' ⟨T', N', q, g, hk⟩
  exact ⟨T', N', hQ _ _ _ _ q, g, hk⟩
/-- what is known without blocks -/
def pureN (p : Prop) (A : AsnN) : AsnN := fun T N w => p ∧ A T N w
theorem sep_mono {A A' B B' : AsnN} (hA : ∀ T N w, A T N w → A' T N w) (hB : ∀ T N w, B T N w → B' T N w) : ∀ T N w, (sep A B) T N w → (sep A' B') T N w := by
  rintro T N w ⟨T1, T2, a, b, s1, s2, d⟩
  exact ⟨T1, T2, hA _ _ _ a, hB _ _ _ b, s1, s2, d⟩
/-- it holds of blocks from B on, and what lay below B is as it was -/
def InvN (A : AsnN) (B : Nat) (w0 w : World) : Prop := ∃ T N, A T N w ∧ OkTN T N w ∧ (∀ k, T k → B ≤ k) ∧ Below B w0 w
theorem InvN.below {A : AsnN} {B : Nat} {w0 w : World} (h : InvN A B w0 w) : Below B w0 w := by
  obtain ⟨T, N, _, _, _, h⟩ := h; exact h
theorem InvN.to {A A' : AsnN} {B : Nat} {w0 w w' : World} (h : InvN A B w0 w) (hB : B ≤ w0.heap.size) (hs : StepN A A' w w') : InvN A' B w0 w' := by
  obtain ⟨T, N, a, ok, ht, hb⟩ := h
  obtain ⟨T', N', q, g, hk⟩ := hs T N a ok
  refine ⟨T', N', q, g.2.2.2, fun k h1 => ?_, hk.below hb hB ht⟩
  rcases g.1 k h1 with h | h
  · exact ht k h
  · have := hb.size; omega
theorem InvN.call {P : Program} {f : FuncId} {args : Array Value} {A : AsnN} {Q : Ending → AsnN} {B : Nat} {w0 w : World} (h : InvN A B w0 w) (hB : B ≤ w0.heap.size) (hs : SpecN P f args A Q) : Calls P f args w fun e w' => InvN (Q e) B w0 w' := by
  obtain ⟨T, N, a, ok, ht, hb⟩ := h
  refine (hs T N w a ok).mono ?_
  rintro e w' ⟨T', N', q, g, hk⟩
  refine ⟨T', N', q, g.2.2.2, fun k h1 => ?_, hk.below hb hB ht⟩
  rcases g.1 k h1 with h | h
  · exact ht k h
  · have := hb.size; omega
theorem InvN.mono {A A' : AsnN} {B : Nat} {w0 w : World} (h : InvN A B w0 w) (hm : ∀ T N w, A T N w → A' T N w) : InvN A' B w0 w := by
  obtain ⟨T, N, a, ok, ht, hb⟩ := h
  exact ⟨T, N, hm _ _ _ a, ok, ht, hb⟩
theorem InvN.pure {p : Prop} {A : AsnN} {B : Nat} {w0 w : World} (h : InvN (pureN p A) B w0 w) : p ∧ InvN A B w0 w := by
  obtain ⟨T, N, ⟨hp, a⟩, ok, ht, hb⟩ := h
  exact ⟨hp, T, N, a, ok, ht, hb⟩
theorem InvN.ex {α : Type} {A : α → AsnN} {B : Nat} {w0 w : World} (h : InvN (fun T N w => ∃ x, A x T N w) B w0 w) : ∃ x, InvN (A x) B w0 w := by
  obtain ⟨T, N, ⟨x, a⟩, ok, ht, hb⟩ := h
  exact ⟨x, T, N, a, ok, ht, hb⟩
theorem InvN.fst {A A' : AsnN} {B : Nat} {w0 w : World} (h : InvN (sep A A') B w0 w) : InvN A B w0 w := by
  obtain ⟨T, N, ⟨T1, T2, a, b, s1, s2, d⟩, ok, ht, hb⟩ := h
  exact ⟨T1, N, a, ⟨fun k hk => ok.1 k (s1 k hk), ok.2⟩, fun k hk => ht k (s1 k hk), hb⟩
theorem InvN.snd {A A' : AsnN} {B : Nat} {w0 w : World} (h : InvN (sep A A') B w0 w) : InvN A' B w0 w := by
  obtain ⟨T, N, ⟨T1, T2, a, b, s1, s2, d⟩, ok, ht, hb⟩ := h
  exact ⟨T2, N, b, ⟨fun k hk => ok.1 k (s2 k hk), ok.2⟩, fun k hk => ht k (s2 k hk), hb⟩
theorem InvN.comm {A A' : AsnN} {B : Nat} {w0 w : World} (h : InvN (sep A A') B w0 w) : InvN (sep A' A) B w0 w := h.mono (fun _ _ _ h => sep_comm h)
/-- a step that changes nothing old keeps it -/
theorem InvN.step {A : AsnN} {B : Nat} {w0 w w' : World} (h : InvN A B w0 w) (hA : FrN A) (hb : Below w.heap.size w w') (hB : B ≤ w0.heap.size) : InvN A B w0 w' := by
  obtain ⟨T, N, a, ok, ht, hb0⟩ := h
  refine ⟨T, N, hA T N N w w' a (fun k hk => hb.block k ?_) (fun _ h => h) hb.size, (GrowN.refl ok hb.size).2.2.2, ht, hb0.trans (hb.mono ?_)⟩
  · exact hk.elim (fun h => (ok.1 k h).1) (ok.2 k)
  · have := hb0.size; omega
theorem InvN.drew {A : AsnN} {B : Nat} {w0 w : World} (h : InvN A B w0 w) (hA : FrN A) (hB : B ≤ w0.heap.size) : InvN A B w0 w.drew := h.step hA (Below.refl _ _).drew hB
/-- a block that is known whole -/
def BlkN (g : Nat) (o : Obj) : AsnN := fun T _ w => T g ∧ w.heap[g]? = some o
theorem BlkN.fr (g : Nat) (o : Obj) : FrN (BlkN g o) := by
  rintro T N N' w w' ⟨h1, h2⟩ hb _ _
  exact ⟨h1, (hb g (.inl h1)).trans h2⟩
/-- more, in new blocks -/
theorem InvN.add {A X : AsnN} {B : Nat} {w0 w w' : World} (h : InvN A B w0 w) (hA : FrN A) (hb : Below w.heap.size w w') (hB : B ≤ w0.heap.size) {T2 N2 : Nat → Prop} (hX : FrN X) (hn : X T2 N2 w') (hok : OkTN T2 N2 w') (h2 : ∀ k, T2 k → w.heap.size ≤ k) (h3 : ∀ k, N2 k → w.heap.size ≤ k) : InvN (sep A X) B w0 w' := by
  obtain ⟨T, N, a, ok, ht, hb0⟩ := h
  have hs0 := hb0.size
  have hs1 := hb.size
  refine ⟨fun k => T k ∨ T2 k, fun k => N k ∨ N2 k, ⟨T, T2, hA T N _ w w' a (fun k hk => hb.block k (hk.elim (fun h => (ok.1 k h).1) (ok.2 k))) (fun k h => .inl h) hb.size, hX T2 N2 _ w' w' hn (fun _ _ => rfl) (fun k h => .inr h) (Nat.le_refl _), fun k h => .inl h, fun k h => .inr h, fun k h1 h4 => ?_⟩, ⟨fun k hk => ?_, fun k hk => ?_⟩, fun k hk => ?_, hb0.trans (hb.mono (by omega))⟩
  · have := (ok.1 k h1).1
    have := h2 k h4
    omega
  · rcases hk with hk | hk
    · refine ⟨Nat.lt_of_lt_of_le (ok.1 k hk).1 hb.size, fun h => ?_⟩
      rcases h with h | h
      · exact (ok.1 k hk).2 h
      · have := h3 k h; have := (ok.1 k hk).1; omega
    · refine ⟨(hok.1 k hk).1, fun h => ?_⟩
      rcases h with h | h
      · have := h2 k hk; have := ok.2 k h; omega
      · exact (hok.1 k hk).2 h
  · rcases hk with hk | hk
    · exact Nat.lt_of_lt_of_le (ok.2 k hk) hb.size
    · exact hok.2 k hk
  · rcases hk with hk | hk
    · exact ht k hk
    · have := h2 k hk; omega
theorem InvN.new {A : AsnN} {B : Nat} {w0 w : World} (h : InvN A B w0 w) (hA : FrN A) (o : Obj) (hB : B ≤ w0.heap.size) : InvN (sep A (BlkN w.heap.size o)) B w0 (w.alloc o) :=
  h.add hA ((Below.refl _ _).alloc (Nat.le_refl _) o) hB (T2 := fun k => k = w.heap.size) (N2 := fun _ => False) (BlkN.fr _ _) ⟨rfl, heapNew _ _⟩ ⟨fun k hk => by subst hk; exact ⟨by simp, fun h => h⟩, fun k h => h.elim⟩ (fun k hk => by subst hk; exact Nat.le_refl _) (fun k h => h.elim)
theorem BlkN.cell {g : Nat} {cs : Array Value} {t : TypeId} {B : Nat} {w0 w : World} (h : InvN (BlkN g (.cells cs t)) B w0 w) {j : Nat} {v : Value} (hj : cs[j]? = some v) : w.cell? ⟨g, j, none⟩ = some v := by
  obtain ⟨T, N, ⟨_, hg⟩, _, _⟩ := h
  simpa [World.cell?, hg] using hj
theorem InvN.start (w : World) : InvN (fun _ _ _ => True) w.heap.size w w := ⟨fun _ => False, fun _ => False, trivial, ⟨fun _ h => h.elim, fun _ h => h.elim⟩, fun _ h => h.elim, Below.refl _ _⟩
/-- the first things, in new blocks -/
theorem InvN.first {X : AsnN} {w w' : World} (hb : Below w.heap.size w w') {T2 N2 : Nat → Prop} (hn : X T2 N2 w') (hok : OkTN T2 N2 w') (h2 : ∀ k, T2 k → w.heap.size ≤ k) : InvN X w.heap.size w w' := ⟨T2, N2, hn, hok, h2, hb⟩
end Go.Proofs.Ythcgnfoijemcbaa
