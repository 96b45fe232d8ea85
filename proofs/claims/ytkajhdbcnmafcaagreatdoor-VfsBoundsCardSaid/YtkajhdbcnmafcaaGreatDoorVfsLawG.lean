/- What chapter 4's laws need: both file systems made anew; rows of calls joined; a row of nodes kept beside; that a refused call changes nothing. -/
import Derived.Test.YtkajhdbcnmafcaaGreatDoorVfsDoB
import Derived.Test.YtkajhdbcnmafcaaGreatDoorVfsLawF
namespace Go.Proofs.YtkajhdbcnmafcaaGreatDoor
open Go.RowKit Go.Deep Go.Maps Ln Pth Vf
set_option linter.unusedSimpArgs false
set_option linter.unusedVariables false

theorem writeS_err {S : St} {p b : T} {more : Bool} (h : (writeS S p b more).2 ≠ 0) : (writeS S p b more).1 = S := by
  unfold writeS at h ⊢
  by_cases h1 : (absS S p).2 ≠ 0
  · rw [if_pos h1]
  rw [if_neg h1] at h ⊢
  unfold writeQ at h ⊢
  by_cases h2 : kindM S.m (absS S p).1 = 2
  · rw [if_pos h2]
  rw [if_neg h2] at h ⊢
  dsimp only at h ⊢
  generalize (if kindM S.m (absS S p).1 = 0 then 1 else 0) = z at h ⊢
  generalize (if more = true then dataM S.m (absS S p).1 else []) = was at h ⊢
  by_cases h3 : S.m.length + z ≤ S.nodes ∧ S.used + (was.length + b.length) ≤ S.bytes + (dataM S.m (absS S p).1).length
  · rw [if_pos h3] at h; exact absurd rfl h
  · rw [if_neg h3]
theorem mkdirS_err {S : St} {p : T} (h : (mkdirS S p).2 ≠ 0) : (mkdirS S p).1 = S := by
  unfold mkdirS at h ⊢
  by_cases h1 : (absS S p).2 ≠ 0
  · rw [if_pos h1]
  rw [if_neg h1] at h ⊢
  by_cases h2 : kindM S.m (absS S p).1 ≠ 0
  · rw [if_pos h2]
  rw [if_neg h2] at h ⊢
  by_cases h3 : S.m.length + 1 ≤ S.nodes ∧ S.used ≤ S.bytes
  · rw [if_pos h3] at h; exact absurd rfl h
  · rw [if_neg h3]
theorem removeS_err {S : St} {p : T} (h : (removeS S p).2 ≠ 0) : (removeS S p).1 = S := by
  unfold removeS at h ⊢
  by_cases h1 : (foundS S p).2 ≠ 0
  · rw [if_pos h1]
  rw [if_neg h1] at h ⊢
  by_cases h2 : (foundS S p).1 = [47]
  · rw [if_pos h2]
  rw [if_neg h2] at h ⊢
  by_cases h3 : belowM S.m (foundS S p).1 ≠ []
  · rw [if_pos h3]
  · rw [if_neg h3] at h; exact absurd rfl h
theorem touchS_err {S : St} {p : T} (h : (touchS S p).2 ≠ 0) : (touchS S p).1 = S := by
  by_cases h1 : (absS S p).2 ≠ 0
  · rw [touchS_bad h1]
  have h1 : (absS S p).2 = 0 := by simpa using h1
  by_cases h2 : (absS S p).1 = [47]
  · rw [touchS_root h1 h2]
  cases hg : getG S.m (bs (absS S p).1) with
  | none =>
    rw [touchS_new h1 h2 hg] at h ⊢
    exact writeS_err h
  | some n =>
    rw [touchS_old h1 h2 hg] at h
    exact absurd rfl h
theorem doS_err {S : St} (hS : WfS S) (t : HangS S) {x : Ac4} (h : (doS S x).2 ≠ 0) : (doS S x).1 = S := by
  unfold doS at h ⊢
  by_cases h0 : x.way = 0
  · rw [if_pos h0] at h ⊢; exact writeS_err h
  rw [if_neg h0] at h ⊢
  by_cases h1 : x.way = 1
  · rw [if_pos h1] at h ⊢; exact mkdirS_err h
  rw [if_neg h1] at h ⊢
  by_cases h2 : x.way = 2
  · rw [if_pos h2] at h ⊢; exact removeS_err h
  rw [if_neg h2] at h ⊢
  by_cases h3 : x.way = 3
  · rw [if_pos h3] at h ⊢; exact touchS_err h
  rw [if_neg h3] at h ⊢
  by_cases h4 : x.way = 4
  · rw [if_pos h4] at h ⊢; exact moveS_err hS t _ _ h
  rw [if_neg h4] at h
  exact absurd rfl h
/-- no more blocks -/
def noneN : AsnN := fun _ _ _ => True
theorem noneN.fr : FrN noneN := fun _ _ _ _ _ h _ _ _ => h
/-- both file systems, made anew one behind the other -/
theorem Two.start {w0 w1 w2 w3 : World} (n b : Int) (h0 : Below w0.heap.size w0 w1) (hb1 : Below w1.heap.size w1 w2) (hv : VS (w1.heap.size + 1) (newS n b) (fun k => w1.heap.size ≤ k ∧ k < w2.heap.size) (fun _ => False) w2) (hs : w2.heap.size = w1.heap.size + 2)
    (hb2 : Below w2.heap.size w2 w3) (hr : RSO w2.heap.size (newS n b) none 0 [] w3) (hs3 : w3.heap.size = w2.heap.size + 1) : InvN (Two (w1.heap.size + 1) w2.heap.size (newS n b) (newS n b) noneN) w0.heap.size w0 w3 := by
  have hz0 := h0.size
  have hok : OkTN (fun k => w1.heap.size ≤ k ∧ k < w2.heap.size) (fun _ => False) w2 := ⟨fun k hk => ⟨hk.2, fun h => h⟩, fun k h => h.elim⟩
  obtain ⟨hv3, ok3⟩ := hv.stay hok hb2
  refine ⟨fun k => w1.heap.size ≤ k ∧ k < w3.heap.size, fun _ => False, ⟨fun k => w1.heap.size ≤ k ∧ k < w3.heap.size, fun _ => False, ⟨fun k => w1.heap.size ≤ k ∧ k < w2.heap.size, fun k => k = w2.heap.size, hv3, ⟨rfl, none, 0, [], hr.heap, hr.cap, ⟨hr.rg, fun a e => (by cases e), fun x hx => (by cases hx), fun x hx => (by cases hx), fun a e => (by cases e)⟩, hr.eq⟩, fun k hk => ⟨hk.1, by omega⟩, fun k hk => ⟨by omega, by omega⟩, fun k h1 h2 => by omega⟩, trivial, fun k h => h, fun k h => h.elim, fun k h1 h2 => h2⟩, ⟨fun k hk => ⟨hk.2, fun h => h⟩, fun k h => h.elim⟩, fun k hk => by omega, ?_⟩
  exact below_up (below_up h0 hb1 hz0) hb2 (below_up h0 hb1 hz0).size
/-- a row of nodes that is kept beside -/
def RowX (A : Option Addr) (P : List NV) : AsnN := fun _ N w => RG encE 4 w A P ∧ (∀ a, A = some a → P ≠ [] → N a.block) ∧ ∀ x ∈ P, RG encB 1 w x.2.A x.2.nd.data ∧ x.2.nd.data.length ≤ x.2.c ∧ ∀ a, x.2.A = some a → x.2.nd.data ≠ [] → N a.block
theorem RowX.fr (A : Option Addr) (P : List NV) : FrN (RowX A P) := by
  rintro T N N' w w' ⟨h1, h2, h3⟩ hb hn hs
  exact ⟨h1.ofB hs (fun a e hne => hb a.block (.inr (h2 a e hne))), fun a e hne => hn _ (h2 a e hne), fun x hx => ⟨(h3 x hx).1.ofB hs (fun a e hne => hb a.block (.inr ((h3 x hx).2.2 a e hne))), (h3 x hx).2.1, fun a e hne => hn _ ((h3 x hx).2.2 a e hne)⟩⟩
/-- what All told is kept beside -/
theorem Two.row {f r : Nat} {S S' : St} {X : AsnN} {B : Nat} {w0 w w' : World} {A : Option Addr} {P : List NV} (h : InvN (Two f r S S' X) B w0 w) (hX : FrN X) (hB : B ≤ w0.heap.size) (hb : Below w.heap.size w w') (hn : NewRow w' w.heap.size A P) : InvN (Two f r S S' (sep X (RowX A P))) B w0 w' :=
  Two.also (h.add (Two.fr f r S S' hX) hb hB (T2 := fun _ => False) (N2 := fun k => w.heap.size ≤ k ∧ k < w'.heap.size) (RowX.fr A P)
    ⟨hn.rg, fun a e hne => ⟨hn.ge a e, hn.rg.block_lt e hne⟩, fun x hx => ⟨(hn.dat x hx).1, (hn.dat x hx).2.1, fun a e hne => ⟨(hn.dat x hx).2.2 a e, (hn.dat x hx).1.block_lt e hne⟩⟩⟩
    ⟨fun k h => h.elim, fun k h => h.2⟩ (fun k h => h.elim) (fun k h => h.1))
theorem RowX.get {A : Option Addr} {P : List NV} {B : Nat} {w0 w : World} (h : InvN (RowX A P) B w0 w) : RG encE 4 w A P ∧ ∀ x ∈ P, RG encB 1 w x.2.A x.2.nd.data ∧ x.2.nd.data.length ≤ x.2.c := by
  obtain ⟨T, N, ⟨h1, _, h3⟩, _⟩ := h
  exact ⟨h1, fun x hx => ⟨(h3 x hx).1, (h3 x hx).2.1⟩⟩
/-! rows of calls -/
theorem encA4_one (x : Ac4) : ∀ u ∈ encA4 x, u.oneCell' = true := by
  intro u hu
  simp only [encA4, List.mem_cons, List.not_mem_nil, or_false] at hu
  rcases hu with rfl | rfl | rfl | rfl | rfl <;> rfl
def rowA4 : RowT Tryz.prog 22 25 5 := { z := .agg #[.int .i64 0, .string ⟨#[]⟩, .string ⟨#[]⟩, .slice none 0 0, .bool false], bytes := 72, und := Tryz.underlying22, info := by kernel_rfl, zlen := rfl, pos := by omega, sb := by omega }
theorem rg_newA (w : World) (x : Ac4) (cs : Array Value) (hcs : cs = (encA4 x).toArray) (t : TypeId) : RG encA4 5 (w.alloc (.cells cs t)) (some ⟨w.heap.size, 0, none⟩) [x] := fun k y hk => by
  cases k with
  | zero =>
    simp at hk
    subst hk
    subst hcs
    refine ⟨_, _, rfl, by simp, fun j u hj => ?_⟩
    have hj4 := (List.getElem?_eq_some_iff.1 hj).1
    rw [World.cell?_alloc_at _ _ _ _ (by rfl)]
    simpa using hj
  | succ k => simp at hk
/-- append of elements, of as many as there may be -/
theorem run_appGB {α : Type} {enc : α → List Value} {n : Nat} {E : TypeId} {P : Program} {T : TypeId} (R : RowT P T E n) (he : ∀ x, (enc x).length = n) (h1c : ∀ x, ∀ u ∈ enc x, u.oneCell' = true) {w : World} {base : Nat} {v : Value} {L N : List α} {A : Option Addr} {c : Nat} (h : OwnG enc n E w base v L) (hn : RG enc n w A N) (hbase : base ≤ w.heap.size) (hmx : L.length + N.length ≤ 4611686018427387904) (hbb : (L.length + N.length) * R.bytes ≤ 140737488355328) :
    ∃ v' w', (Builtin.append_ #[T, T] T #[v, .slice A N.length c]).run P w = .ok v' w' ∧ OwnG enc n E w' base v' (L ++ N) ∧ w.grownBy w' v.ownBlock ∧ (v'.ownBlock = v.ownBlock ∨ v'.ownBlock = some w.heap.size) := by
  obtain ⟨i0, hi, hz0, hz1, hz2⟩ := info_parts R.info
  rcases A with _ | ad
  · have hN : N = [] := by
      cases N with
      | nil => rfl
      | cons s N =>
        obtain ⟨g, o, e, _⟩ := hn 0 s rfl
        cases e
    subst hN
    refine ⟨v, w, ?_, by simpa using h, World.grownBy.refl w _, .inl rfl⟩
    rcases h.2 with ⟨rfl, _⟩ | ⟨g, cap, cur, rfl, _, _, hnc, _⟩
    · simp [Builtin.append_, run_underlying R.und, sizeOf, typeInfo, hi, Builtin.lenOf, Builtin.firstCells]
    · simp [Builtin.append_, run_underlying R.und, sizeOf, typeInfo, hi, Builtin.lenOf, Builtin.firstCells, hnc, storeCells]
  · have hpos := R.pos
    have hcells : ∀ j u, (valsG enc N)[j]? = some u → w.cell? (ad.add j) = some u := fun j u hu => by
      have hj := (List.getElem?_eq_some_iff.1 hu).1
      rw [valsG_len he] at hj
      have hj2 : j / n < N.length := (Nat.div_lt_iff_lt_mul hpos).2 hj
      obtain ⟨g, o, e, _, h1⟩ := hn (j / n) N[j / n] (List.getElem?_eq_getElem hj2)
      have hp := valsG_get he N (j / n) N[j / n] (j % n) (List.getElem?_eq_getElem hj2) (Nat.mod_lt _ hpos)
      injection e with e
      subst e
      have e2 : (Addr.mk g o none).add j = ⟨g, o + j, none⟩ := by
        unfold Addr.add
        split
        · rename_i h0; subst h0; rfl
        · rfl
      have e3 : j / n * n + j % n = j := Nat.div_add_mod' j n
      rw [e2]
      rw [e3, hu] at hp
      have := h1 (j % n) u hp.symm
      rw [Nat.add_assoc, e3] at this
      exact this
    obtain ⟨v', w', hrun, h2, h3, _, h5⟩ := run_append_own_at (P := P) w base T T E i0 _ n R.bytes R.und hi hz0 hz1 hz2 R.zlen hpos v L.length (valsG enc L) h ad N.length c (valsG enc N) (valsG_len he N) hcells
      (fun u hu => by
        simp only [valsG, List.mem_flatMap] at hu
        obtain ⟨s, _, hs⟩ := hu
        exact h1c s u hs) (by simp only [maxLen]; omega) hbb hbase
    refine ⟨v', w', hrun, ?_, h3, h5⟩
    unfold OwnG
    rw [List.length_append, valsG_app]
    exact h2
set_option maxRecDepth 100000 in
/-- a row, and one call more, in either order -/
theorem acts_chain (w : World) (A : Option Addr) (c : Nat) (L : List Ac4) (x : Ac4) (cs : Array Value) (hcs : cs = (encA4 x).toArray) (h : RG encA4 5 w A L) (hl : L.length * 72 ≤ 140737488351232) :
    ∃ v2 w2 A3 c3 w3, (Builtin.append_ #[22, 22] 22 #[.slice none 0 0, .slice A L.length c]).run Tryz.prog w = .ok v2 w2 ∧
      (Builtin.append_ #[22, 22] 22 #[v2, .slice (some ⟨w2.heap.size, 0, none⟩) 1 1]).run Tryz.prog (w2.alloc (.cells cs 25)) = .ok (.slice A3 (L.length + 1) c3) w3 ∧ RG encA4 5 w3 A3 (L ++ [x]) ∧ Below w.heap.size w w2 ∧ Below w.heap.size w w3 := by
  obtain ⟨v2, w2, r2, o2, g2, b2⟩ := run_appGB rowA4 encA4_len encA4_one (c := c) (OwnG.nil w w.heap.size) h (Nat.le_refl _) (by simp; omega) (by show (0 + L.length) * 72 ≤ _; omega)
  have hb2 : Below w.heap.size w w2 := Below.of_gb g2 (Nat.le_refl _) (fun k hk => by cases hk)
  have s2 := hb2.size
  rw [List.nil_append] at o2
  have n2 : ∀ k, v2.ownBlock = some k → w.heap.size ≤ k := fun k hk => (o2.lt k hk).1
  obtain ⟨v3, w3, r3, o3, g3, b3⟩ := run_appGB rowA4 encA4_len encA4_one (c := 1) (o2.alloc (.cells cs 25)) (rg_newA w2 x cs hcs _) (by simp; omega) (by simp; omega) (by show (L.length + 1) * 72 ≤ _; omega)
  have hb3 : Below w.heap.size w w3 := (hb2.alloc hb2.size _).trans (Below.of_gb g3 (by simp; omega) (fun k hk => n2 k hk))
  obtain ⟨A3, c3, rfl, _, hr3, _, _⟩ := o3.slice encA4_len
  rw [List.length_append] at r3
  exact ⟨v2, w2, A3, c3, w3, r2, r3, hr3, hb2, hb3⟩
set_option maxRecDepth 100000 in
theorem acts_chain2 (w : World) (A : Option Addr) (c : Nat) (L : List Ac4) (x : Ac4) (cs : Array Value) (hcs : cs = (encA4 x).toArray) (h : RG encA4 5 w A L) (hl : L.length * 72 ≤ 140737488351232) :
    ∃ v2 w2 A3 c3 w3, (Builtin.append_ #[22, 22] 22 #[.slice none 0 0, .slice A L.length c]).run Tryz.prog (w.alloc (.cells cs 25)) = .ok v2 w2 ∧
      (Builtin.append_ #[22, 22] 22 #[v2, .slice (some ⟨w.heap.size, 0, none⟩) 1 1]).run Tryz.prog w2 = .ok (.slice A3 (L.length + 1) c3) w3 ∧ RG encA4 5 w3 A3 (L ++ [x]) ∧ Below w.heap.size w w2 ∧ Below w.heap.size w w3 := by
  have hb1 : Below w.heap.size w (w.alloc (.cells cs 25)) := (Below.refl _ w).alloc (Nat.le_refl _) _
  have hx := rg_newA w x cs hcs 25
  have hz1 := hb1.size
  obtain ⟨w1, hw1⟩ : ∃ W, w.alloc (.cells cs 25) = W := ⟨_, rfl⟩
  rw [hw1] at hb1 hx hz1 ⊢
  obtain ⟨v2, w2, r2, o2, g2, b2⟩ := run_appGB rowA4 encA4_len encA4_one (c := c) (OwnG.nil w1 w1.heap.size) (h.below hb1) (Nat.le_refl _) (by simp; omega) (by show (0 + L.length) * 72 ≤ _; omega)
  have hb12 : Below w1.heap.size w1 w2 := Below.of_gb g2 (Nat.le_refl _) (fun k hk => by cases hk)
  have hb2 : Below w.heap.size w w2 := below_up hb1 hb12 hb1.size
  have s2 := hb12.size
  rw [List.nil_append] at o2
  have n2 : ∀ k, v2.ownBlock = some k → w.heap.size ≤ k := fun k hk => by have := (o2.lt k hk).1; omega
  obtain ⟨v3, w3, r3, o3, g3, b3⟩ := run_appGB rowA4 encA4_len encA4_one (c := 1) (o2.base hz1) (hx.below hb12) (by omega) (by simp; omega) (by show (L.length + 1) * 72 ≤ _; omega)
  have hb3 : Below w.heap.size w w3 := hb2.trans (Below.of_gb g3 (by omega) (fun k hk => n2 k hk))
  obtain ⟨A3, c3, rfl, _, hr3, _, _⟩ := o3.slice encA4_len
  rw [List.length_append] at r3
  exact ⟨v2, w2, A3, c3, w3, r2, r3, hr3, hb2, hb3⟩
end Go.Proofs.YtkajhdbcnmafcaaGreatDoor
