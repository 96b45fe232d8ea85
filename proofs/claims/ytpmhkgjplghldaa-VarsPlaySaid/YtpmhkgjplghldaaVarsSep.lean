/- The variables, the program's and the reference's, as things in blocks of their own. -/
import Derived.Test.YtpmhkgjplghldaaVarsMathE
import Derived.Test.YtpmhkgjplghldaaPairsWalkB
namespace Go.Proofs.Ytpmhkgjplghldaa
open Go.RowKit Go.Deep Go.Maps
attribute [local go_sem] bt_eq

/-- the program's variables at g hold P -/
def VA (g : Nat) (P : List Pr) : Asn := fun T w => T g ∧ ∃ mb, w.cell? ⟨g, 0, none⟩ = some (.map mb) ∧ w.frozen? ⟨g, 0, none⟩ = false ∧ MVal w (.map mb) (dP P) ∧ ∀ b, mb = some b → b ≠ g ∧ T b
/-- the reference's variables at g hold P -/
def RA (g : Nat) (P : List Pr) : Asn := fun T w => T g ∧ RSt T w g P
theorem VA.fr (g : Nat) (P : List Pr) : Fr (VA g P) := by
  rintro T w w' ⟨h1, mb, h2, h3, h4, h5⟩ hb hs
  refine ⟨h1, mb, (World.cell?_of_block (hb g h1)).trans h2, (World.frozen?_of_block (hb g h1)).trans h3, ?_, h5⟩
  rcases h4 with h4 | ⟨b, e, es, clock, h6, h7⟩
  · exact .inl h4
  · injection e with e
    exact .inr ⟨b, by rw [e], es, clock, (hb b (h5 b e).2).trans h6, h7⟩
theorem RA.fr (g : Nat) (P : List Pr) : Fr (RA g P) := by
  rintro T w w' ⟨h1, A, c, h2, h3, h4, h5, h6⟩ hb hs
  exact ⟨h1, A, c, (World.cell?_of_block (hb g h1)).trans h2, (World.frozen?_of_block (hb g h1)).trans h3, h4, h5.of hs (fun a e _ => hb a.block (h6 a e).2.2), fun a e => ⟨(h6 a e).1, Nat.lt_of_lt_of_le (h6 a e).2.1 hs, (h6 a e).2.2⟩⟩
theorem vset_spec (g : Nat) (P : List Pr) (hP : VInv P) (name value : ByteArray) (hs : name.size ≤ 9223372036854775807) (hv : value.size ≤ 9223372036854775807) :
    SpecE Try.prog 6 #[.pointer (some ⟨g, 0, none⟩), .string name, .string value] (VA g P) (.returned (.int .i64 (rCode P name value : Nat))) (VA g (rSet P name value)) := by
  rintro T w ⟨h1, mb, h2, h3, h4, h5⟩ hT
  refine (vset_any g (.map mb) (dP P) name value w hs hv h2 h3 h4 (by rw [dP, datG_size]; have := hP.len; omega) (fun b e => by injection e with e; exact (h5 b e).1)).mono ?_
  rintro e w' ⟨rfl, mv', c1, c2, c3, c4, c5⟩
  rw [code_same]
  rw [set_same hP] at c3
  have hmb : ∃ mb', mv' = .map mb' ∧ (mb' = mb ∨ mb' = some w.heap.size) := by
    rcases c4 with rfl | rfl
    · exact ⟨mb, rfl, .inl rfl⟩
    · exact ⟨_, rfl, .inr rfl⟩
  obtain ⟨mb', rfl, hmb⟩ := hmb
  have hlt : ∀ b, mb' = some b → b < w'.heap.size := by
    rintro b rfl
    rcases c3 with ⟨e, _⟩ | ⟨b', e, es, clock, h6, _⟩
    · cases e
    · injection e with e
      injection e with e
      subst e
      exact (Array.getElem?_eq_some_iff.1 h6).1
  refine ⟨fun k => T k ∨ mb' = some k, ⟨rfl, .inl h1, mb', c1, c2, c3, fun b e => ?_⟩, fun k hk => ?_, c5.mono ?_⟩
  · refine ⟨?_, .inr e⟩
    rcases hmb with rfl | rfl
    · exact (h5 b e).1
    · injection e with e
      have := hT g h1
      omega
  · rcases hk with hk | rfl
    · exact ⟨.inl hk, Nat.lt_of_lt_of_le (hT k hk) c5.size⟩
    · refine ⟨?_, hlt k rfl⟩
      rcases hmb with e | e
      · exact .inl (h5 k e.symm).2
      · injection e with e; exact .inr (by omega)
  · rintro k (rfl | e)
    · exact h1
    · injection e with e; exact (h5 k e).2
theorem vunset_spec (g : Nat) (P : List Pr) (name : ByteArray) (hs : name.size ≤ 9223372036854775807) :
    SpecE Try.prog 7 #[.pointer (some ⟨g, 0, none⟩), .string name] (VA g P) (.returned (.tuple #[])) (VA g (P.filter fun x => !decide (x.1 = name))) := by
  rintro T w ⟨h1, mb, h2, h3, h4, h5⟩ hT
  refine (vunset_any g (.map mb) (dP P) name w hs h2 h4).mono ?_
  rintro e w' ⟨rfl, c3, c5⟩
  rw [del_same] at c3
  have hng : ¬ (Value.map mb = .map (some g)) := fun e => by injection e with e; exact (h5 g e).1 rfl
  refine ⟨T, ⟨rfl, h1, mb, c5.cell h2 hng, c5.frozen (hT g h1) h3 hng, c3, h5⟩, fun k hk => ⟨.inl hk, Nat.lt_of_lt_of_le (hT k hk) c5.size⟩, c5.mono ?_⟩
  intro k e
  injection e with e
  exact (h5 k e).2
theorem rset_spec (g : Nat) (P : List Pr) (hP : VInv P) (name value : ByteArray) (hs : name.size ≤ 100000) (hv : value.size ≤ 100000) :
    SpecE Try.prog 10 #[.pointer (some ⟨g, 0, none⟩), .string name, .string value] (RA g P) (.returned (.int .i64 (rCode P name value : Nat))) (RA g (rSet P name value)) := by
  rintro T w ⟨h1, h2⟩ hT
  have h2' : RSt (fun k => T k ∨ w.heap.size ≤ k) w g P := by
    obtain ⟨A, c, q1, q2, q3, q4, q5⟩ := h2
    exact ⟨A, c, q1, q2, q3, q4, fun a e => ⟨(q5 a e).1, (q5 a e).2.1, .inl (q5 a e).2.2⟩⟩
  refine (rset_any g P name value w h2' (fun k hk => .inr hk) (by have := hP.len; omega) hs hv).mono ?_
  rintro e w' ⟨rfl, c3, c5⟩
  obtain ⟨A, c, q1, q2, q3, q4, q5⟩ := c3
  refine ⟨fun k => (T k ∨ w.heap.size ≤ k) ∧ k < w'.heap.size, ⟨rfl, ⟨.inl h1, Nat.lt_of_lt_of_le (hT g h1) c5.size⟩, A, c, q1, q2, q3, q4, fun a e => ⟨(q5 a e).1, (q5 a e).2.1, (q5 a e).2.2, (q5 a e).2.1⟩⟩, fun k hk => hk, c5.mono ?_⟩
  rintro k rfl
  exact h1
theorem runset_spec (g : Nat) (P : List Pr) (hP : VInv P) (name : ByteArray) :
    SpecE Try.prog 8 #[.pointer (some ⟨g, 0, none⟩), .string name] (RA g P) (.returned (.tuple #[])) (RA g (P.filter fun x => !decide (x.1 = name))) := by
  rintro T w ⟨h1, h2⟩ hT
  have h2' : RSt (fun k => T k ∨ w.heap.size ≤ k) w g P := by
    obtain ⟨A, c, q1, q2, q3, q4, q5⟩ := h2
    exact ⟨A, c, q1, q2, q3, q4, fun a e => ⟨(q5 a e).1, (q5 a e).2.1, .inl (q5 a e).2.2⟩⟩
  refine (runset_any g P name w h2' (fun k hk => .inr hk) (by have := hP.len; omega)).mono ?_
  rintro e w' ⟨rfl, c3, c5⟩
  obtain ⟨A, c, q1, q2, q3, q4, q5⟩ := c3
  refine ⟨fun k => (T k ∨ w.heap.size ≤ k) ∧ k < w'.heap.size, ⟨rfl, ⟨.inl h1, Nat.lt_of_lt_of_le (hT g h1) c5.size⟩, A, c, q1, q2, q3, q4, fun a e => ⟨(q5 a e).1, (q5 a e).2.1, (q5 a e).2.2, (q5 a e).2.1⟩⟩, fun k hk => hk, c5.mono ?_⟩
  rintro k rfl
  exact h1
theorem VA.new (g : Nat) (t : TypeId) : ∀ T w, Blk g (.cells #[.map none] t) T w → VA g [] T w := by
  rintro T w ⟨h1, h2⟩
  exact ⟨h1, none, cell_of_one h2, free_of_one h2, .inl ⟨rfl, rfl⟩, fun b e => by cases e⟩
theorem RA.new (g : Nat) (t : TypeId) : ∀ T w, Blk g (.cells #[.slice none 0 0] t) T w → RA g [] T w := by
  rintro T w ⟨h1, h2⟩
  exact ⟨h1, none, 0, cell_of_one h2, free_of_one h2, Nat.le_refl _, PR.nil _ _, fun a e => by cases e⟩
/-- a name's value, or nothing -/
def gV (o : Option ByteArray) : ByteArray := match o with
  | some v => v
  | none => ⟨#[]⟩
theorem vget_I {g : Nat} {P : List Pr} {B : Nat} {w0 w : World} (h : Inv (VA g P) B w0 w) (name : ByteArray) (hs : name.size ≤ 9223372036854775807) :
    Calls Try.prog 11 #[.pointer (some ⟨g, 0, none⟩), .string name] w fun e w' => e = .returned (.tuple #[.string (gV (getP P name)), .bool (getP P name).isSome]) ∧ w = w' := by
  obtain ⟨T, ⟨h1, mb, h2, h3, h4, h5⟩, ht, hb⟩ := h
  obtain ⟨sv, hat, hget⟩ := vget_any g (.map mb) (dP P) name w hs h2 h4
  rw [dP, datG_has] at hget
  rw [dP, datG_at] at hat
  have : sv = gV (getP P name) := by
    have hg : getG P name = getP P name := rfl
    rw [hg] at hat
    cases hgp : getP P name with
    | none => rw [hgp] at hat; exact (sDat_inj hat).symm
    | some v => rw [hgp] at hat; exact (sDat_inj hat).symm
  subst this
  exact hget
theorem RA.cell {g : Nat} {P : List Pr} {B : Nat} {w0 w : World} (h : Inv (RA g P) B w0 w) : ∃ A c, w.cell? ⟨g, 0, none⟩ = some (.slice A P.length c) ∧ PR w A P := by
  obtain ⟨T, ⟨h1, A, c, q1, q2, q3, q4, q5⟩, ht, hb⟩ := h
  exact ⟨A, c, q1, q4⟩
theorem vall_I {g : Nat} {P : List Pr} {B : Nat} {w0 w : World} (h : Inv (VA g P) B w0 w) (hP : VInv P) :
    Calls Try.prog 16 #[.pointer (some ⟨g, 0, none⟩)] w fun e w' => ∃ A c, e = .returned (.slice A P.length c) ∧ P.length ≤ c ∧ PR w' A P ∧ (∀ a, A = some a → w.heap.size ≤ a.block ∧ a.block < w'.heap.size) ∧ Below w.heap.size w w' := by
  obtain ⟨T, ⟨h1, mb, h2, h3, h4, h5⟩, ht, hb⟩ := h
  exact vall_any g mb P w h2 h4 hP.rise (by have := hP.len; omega) (fun x hx => by have := hP.nm x hx; omega)
theorem rget_I {g : Nat} {P : List Pr} {B : Nat} {w0 w : World} (h : Inv (RA g P) B w0 w) (hP : VInv P) (name : ByteArray) :
    Calls Try.prog 12 #[.pointer (some ⟨g, 0, none⟩), .string name] w fun e w' => e = .returned (.tuple #[.string (gV (getP P name)), .bool (getP P name).isSome]) ∧ w = w' := by
  obtain ⟨T, ⟨h1, A, c, q1, q2, q3, q4, q5⟩, ht, hb⟩ := h
  refine (rget_any g A c P name w q1 q4 (by have := hP.len; omega)).mono ?_
  rintro e w' ⟨rfl, h⟩
  refine ⟨?_, h⟩
  cases getP P name <;> rfl
/-- a list of pairs in blocks of its own -/
def LA (A : Option Addr) (P : List Pr) : Asn := fun T w => PR w A P ∧ ∀ a, A = some a → T a.block
theorem LA.fr (A : Option Addr) (P : List Pr) : Fr (LA A P) := by
  rintro T w w' ⟨h1, h2⟩ hb hs
  exact ⟨h1.of hs (fun a e _ => hb a.block (h2 a e)), h2⟩
theorem LA.pr {A : Option Addr} {P : List Pr} {B : Nat} {w0 w : World} (h : Inv (LA A P) B w0 w) : PR w A P := by
  obtain ⟨T, ⟨h1, _⟩, _⟩ := h; exact h1
theorem LA.new {A : Option Addr} {P : List Pr} {w w' : World} (h : PR w' A P) (ha : ∀ a, A = some a → w.heap.size ≤ a.block ∧ a.block < w'.heap.size) : LA A P (fun k => w.heap.size ≤ k ∧ k < w'.heap.size) w' := ⟨h, ha⟩
set_option maxRecDepth 100000 in
set_option maxHeartbeats 1000000 in
theorem vcopy_I {g : Nat} {P : List Pr} {B : Nat} {w0 w : World} (h : Inv (VA g P) B w0 w) :
    Calls Try.prog 17 #[.pointer (some ⟨g, 0, none⟩)] w fun e w' => ∃ gc, e = .returned (.pointer (some ⟨gc, 0, none⟩)) ∧ VA gc P (fun k => w.heap.size ≤ k ∧ k < w'.heap.size) w' ∧ Below w.heap.size w w' := by
  obtain ⟨T, ⟨h1, mb, h2, h3, h4, h5⟩, ht, hb⟩ := h
  rcases h4 with ⟨e, h4⟩ | ⟨b, e, es, clock, h6, h7, h8, h9⟩
  · obtain rfl : mb = none := by injection e
    have hP : P = [] := by
      unfold dP datG at h4
      injection h4 with h4
      simpa using h4
    subst hP
    have HC := hide (Go.Proofs.AnyW.maps_Clone_nil Try.clone25 w)
    have HV := hide (VA.new w.heap.size 26 (fun k => w.heap.size ≤ k ∧ k < (w.alloc (.cells #[.map none] 26)).heap.size) (w.alloc (.cells #[.map none] 26)) ⟨by simp, heapNew _ _⟩)
    clear h1 h3 h4 h5 ht hb
    go_enter Try.func17, Try.ntmps17
    go_wp2_with fail
    refine HC.out.mono ?_
    rintro e w' ⟨rfl, rfl⟩
    go_wp2
    go_ret
    exact ⟨_, rfl, HV.out, (Below.refl _ _).alloc (Nat.le_refl _) _⟩
  · obtain rfl : mb = some b := by injection e
    have HC := hide (Go.Proofs.AnyW.maps_Clone Try.clone25 b es clock w h6)
    have hm1 : ((w.alloc (.map es clock)).alloc (.cells #[.map (some w.heap.size)] 26)).heap[w.heap.size]? = some (.map es clock) := (Below.heap_alloc (w.alloc (.map es clock)) _ w.heap.size (by simp)).trans (heapNew _ _)
    have hm2 : ((w.alloc (.map es clock)).alloc (.cells #[.map (some w.heap.size)] 26)).heap[w.heap.size + 1]? = some (.cells #[.map (some w.heap.size)] 26) := by
      have := heapNew (w.alloc (.map es clock)) (.cells #[.map (some w.heap.size)] 26)
      simpa using this
    have HV := hide (show VA (w.heap.size + 1) P (fun k => w.heap.size ≤ k ∧ k < ((w.alloc (.map es clock)).alloc (.cells #[.map (some w.heap.size)] 26)).heap.size) ((w.alloc (.map es clock)).alloc (.cells #[.map (some w.heap.size)] 26)) from
      ⟨⟨by omega, by simp⟩, some w.heap.size, cell_of_one hm2, free_of_one hm2, .inr ⟨w.heap.size, rfl, es, clock, hm1, h7, h8, h9⟩, fun b' e' => by injection e' with e'; subst e'; exact ⟨by omega, Nat.le_refl _, by simp; omega⟩⟩)
    clear h1 h3 h5 ht hb h6 h7 h8 h9 hm1 hm2
    go_enter Try.func17, Try.ntmps17
    go_wp2_with fail
    refine HC.out.mono ?_
    rintro e w' ⟨rfl, rfl⟩
    go_wp2
    go_ret
    exact ⟨_, rfl, by simpa using HV.out, ((Below.refl _ _).alloc (Nat.le_refl _) _).alloc (by simp) _⟩
end Go.Proofs.Ytpmhkgjplghldaa
