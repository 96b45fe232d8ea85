/- Slices of elements of n cells each, of whatever program: reading one, appending to one of the call's own. -/
import Derived.Test.YthcgnfoijemcbaaStrsWalk
namespace Go.Proofs.Ythcgnfoijemcbaa
open Go.RowKit Go.Deep
section
variable {α : Type} (enc : α → List Value) (n : Nat)
/-- a slice's address under which the elements L lie -/
def RG (w : World) (A : Option Addr) (L : List α) : Prop :=
  ∀ k x, L[k]? = some x → ∃ g o, A = some ⟨g, o, none⟩ ∧ g < w.heap.size ∧ ∀ j v, (enc x)[j]? = some v → w.cell? ⟨g, o + k * n + j, none⟩ = some v
variable {enc n}
theorem RG.nil (w : World) (A : Option Addr) : RG enc n w A [] := fun k s h => by simp at h
theorem RG.of {w w' : World} {A : Option Addr} {L : List α} (h : RG enc n w A L) (hs : w.heap.size ≤ w'.heap.size) (hc : ∀ a, A = some a → a.block < w.heap.size → w'.heap[a.block]? = w.heap[a.block]?) : RG enc n w' A L := fun k x hk => by
  obtain ⟨g, o, e, hg, h1⟩ := h k x hk
  have hb := hc _ e hg
  exact ⟨g, o, e, by omega, fun j v hj => (World.cell?_of_block (a := ⟨g, o + k * n + j, none⟩) hb).trans (h1 j v hj)⟩
theorem RG.below {w w' : World} {A : Option Addr} {L : List α} (h : RG enc n w A L) (hb : Below w.heap.size w w') : RG enc n w' A L := h.of hb.size fun a _ hl => hb.block a.block hl
theorem RG.gb {w w' : World} {A : Option Addr} {L : List α} {r : Option Nat} (h : RG enc n w A L) (hb : w.grownBy w' r) (hr : ∀ a, A = some a → some a.block ≠ r) : RG enc n w' A L := h.of hb.size fun a e hl => hb.block a.block hl (hr a e)
theorem RG.drew {w w' : World} {A : Option Addr} {L : List α} (h : RG enc n w A L) (hd : Drew w w') : RG enc n w' A L := by
  obtain ⟨n, rfl⟩ := hd
  exact h
theorem RG.take {w : World} {A : Option Addr} {L : List α} (h : RG enc n w A L) (k : Nat) : RG enc n w A (L.take k) := fun j s hj => by
  rw [List.getElem?_take] at hj
  split at hj
  · exact h j s hj
  · cases hj
theorem RG.drop {w : World} {g o : Nat} {L : List α} (h : RG enc n w (some ⟨g, o, none⟩) L) (k : Nat) : RG enc n w (some ⟨g, o + k * n, none⟩) (L.drop k) := fun j s hj => by
  rw [List.getElem?_drop] at hj
  obtain ⟨g', o', e, hg, h1⟩ := h _ s hj
  injection e with e
  injection e with e1 e2
  subst e1 e2
  refine ⟨g, o + k * n, rfl, hg, fun i v hi => ?_⟩
  have := h1 i v hi
  rw [Nat.add_mul] at this
  rw [show o + k * n + j * n + i = o + (k * n + j * n) + i from by omega]
  exact this
def valsG (enc : α → List Value) (L : List α) : List Value := L.flatMap enc
theorem valsG_len (he : ∀ x, (enc x).length = n) (L : List α) : (valsG enc L).length = L.length * n := by
  induction L with
  | nil => simp [valsG]
  | cons x L ih =>
    rw [valsG, List.flatMap_cons, List.length_append, he]
    have : (L.flatMap enc).length = L.length * n := ih
    rw [this, List.length_cons, Nat.add_mul]
    omega
theorem valsG_get (he : ∀ x, (enc x).length = n) : ∀ (L : List α) (k : Nat) (x : α) (j : Nat), L[k]? = some x → j < n → (valsG enc L)[k * n + j]? = (enc x)[j]?
  | [], k, x, j, h, _ => by simp at h
  | y :: L, 0, x, j, h, hj => by
    simp at h
    subst h
    rw [valsG, List.flatMap_cons, Nat.zero_mul, Nat.zero_add, List.getElem?_append_left (by rw [he]; exact hj)]
  | y :: L, k + 1, x, j, h, hj => by
    have ih := valsG_get he L k x j (by simpa using h) hj
    rw [valsG, List.flatMap_cons, List.getElem?_append_right (by rw [he, Nat.add_mul]; omega), he]
    rw [show (k + 1) * n + j - n = k * n + j from by rw [Nat.add_mul]; omega]
    exact ih
theorem valsG_app (L N : List α) : valsG enc (L ++ N) = valsG enc L ++ valsG enc N := by simp [valsG]
/-- a slice of such elements of the call's own -/
def OwnG (enc : α → List Value) (n : Nat) (E : TypeId) (w : World) (base : Nat) (v : Value) (L : List α) : Prop := w.ownsRow base E n v L.length (valsG enc L)
variable {E : TypeId}
theorem OwnG.lt {w : World} {base : Nat} {v : Value} {L : List α} (h : OwnG enc n E w base v L) : ∀ k, v.ownBlock = some k → base ≤ k ∧ k < w.heap.size := World.ownsRow.lt h
theorem OwnG.slice (he : ∀ x, (enc x).length = n) {w : World} {base : Nat} {v : Value} {L : List α} (h : OwnG enc n E w base v L) : ∃ A c, v = .slice A L.length c ∧ L.length ≤ c ∧ RG enc n w A L ∧ (∀ a, A = some a → v.ownBlock = some a.block) ∧ (∀ a, A = some a → ∃ g, a = ⟨g, 0, none⟩) := by
  rcases h.2 with ⟨rfl, hn⟩ | ⟨g, cap, cur, rfl, _, hh, hc, _⟩
  · refine ⟨none, 0, by rw [hn], by omega, fun k s hk => ?_, (fun a e => by cases e), (fun a e => by cases e)⟩
    have := (List.getElem?_eq_some_iff.1 hk).1
    omega
  · refine ⟨_, cap, rfl, hc, fun k x hk => ⟨g, 0, rfl, (h.lt g rfl).2, fun j u hj => ?_⟩, (fun a e => by injection e with e; subst e; rfl), (fun a e => by injection e with e; exact ⟨g, e.symm⟩)⟩
    have hlt := (List.getElem?_eq_some_iff.1 hk).1
    have hjn : j < n := by
      have := (List.getElem?_eq_some_iff.1 hj).1
      rw [he] at this; exact this
    have hkn : k * n + j < L.length * n := by
      have : (k + 1) * n ≤ L.length * n := Nat.mul_le_mul_right n hlt
      rw [Nat.add_mul] at this
      omega
    rw [Nat.zero_add, World.ownsRow.cellAt h (k * n + j) hkn, valsG_get he L k x j hk hjn]
    exact hj
theorem OwnG.nil (w : World) (base : Nat) : OwnG enc n E w base (.slice none 0 0) [] := World.ownsRow_nil _ _ _ _
theorem OwnG.kept {w w' : World} {base : Nat} {v : Value} {L : List α} {r : Option Nat} (h : OwnG enc n E w base v L) (hg : w.grownBy w' r) (hne : v.ownBlock = none ∨ v.ownBlock ≠ r) : OwnG enc n E w' base v L := World.ownsRow.kept h hg hne
theorem OwnG.alloc {w : World} {base : Nat} {v : Value} {L : List α} (h : OwnG enc n E w base v L) (o : Obj) : OwnG enc n E (w.alloc o) base v L := World.ownsRow.alloc h o
theorem OwnG.base {w : World} {base base' : Nat} {v : Value} {L : List α} (h : OwnG enc n E w base v L) (hb : base' ≤ base) : OwnG enc n E w base' v L :=
  ⟨h.1, h.2.imp id fun ⟨g, cap, cur, e, hg, r⟩ => ⟨g, cap, cur, e, by omega, r⟩⟩
/-- what is known of a slice type T whose elements E have n cells -/
structure RowT (P : Program) (T E : TypeId) (n : Nat) where
  z : Value
  bytes : Nat
  und : P.underlying T = some (.slice E)
  info : (P.info? E).map (fun i => (i.zero, i.size, i.bytes)) = some (some z, n, bytes)
  zlen : z.cells.size = n
  pos : 0 < n
  sb : bytes ≤ 1000
/-- append of elements to such a slice, the source nil or not -/
theorem run_appG {P : Program} {T : TypeId} (R : RowT P T E n) (he : ∀ x, (enc x).length = n) (h1c : ∀ x, ∀ u ∈ enc x, u.oneCell' = true) {w : World} {base : Nat} {v : Value} {L N : List α} {A : Option Addr} {c : Nat} (h : OwnG enc n E w base v L) (hn : RG enc n w A N) (hbase : base ≤ w.heap.size) (hl : L.length + N.length ≤ 100000000) :
    ∃ v' w', (Builtin.append_ #[T, T] T #[v, .slice A N.length c]).run P w = .ok v' w' ∧ OwnG enc n E w' base v' (L ++ N) ∧ w.grownBy w' v.ownBlock ∧ (v'.ownBlock = v.ownBlock ∨ v'.ownBlock = some w.heap.size) := by
  obtain ⟨i0, hi, hz0, hz1, hz2⟩ := info_parts R.info
  rcases A with _ | ad
  · have hN : N = [] := by
      cases N with
      | nil => rfl
      | cons s N =>
        obtain ⟨g, o, e, _⟩ := hn 0 s rfl
        cases e
    subst hN
    refine ⟨v, w, ?_, by simpa using h, World.grownBy.refl w _, .inl rfl⟩
    rcases h.2 with ⟨rfl, _⟩ | ⟨g, cap, cur, rfl, _, _, hnc, _⟩
    · simp [Builtin.append_, run_underlying R.und, sizeOf, typeInfo, hi, Builtin.lenOf, Builtin.firstCells]
    · simp [Builtin.append_, run_underlying R.und, sizeOf, typeInfo, hi, Builtin.lenOf, Builtin.firstCells, hnc, storeCells]
  · have hpos := R.pos
    have hcells : ∀ j u, (valsG enc N)[j]? = some u → w.cell? (ad.add j) = some u := fun j u hu => by
      have hj := (List.getElem?_eq_some_iff.1 hu).1
      rw [valsG_len he] at hj
      have hj2 : j / n < N.length := (Nat.div_lt_iff_lt_mul hpos).2 hj
      obtain ⟨g, o, e, _, h1⟩ := hn (j / n) N[j / n] (List.getElem?_eq_getElem hj2)
      have hp := valsG_get he N (j / n) N[j / n] (j % n) (List.getElem?_eq_getElem hj2) (Nat.mod_lt _ hpos)
      injection e with e
      subst e
      have e2 : (Addr.mk g o none).add j = ⟨g, o + j, none⟩ := by
        unfold Addr.add
        split
        · rename_i h0; subst h0; rfl
        · rfl
      have e3 : j / n * n + j % n = j := Nat.div_add_mod' j n
      rw [e2]
      rw [e3, hu] at hp
      have := h1 (j % n) u hp.symm
      rw [Nat.add_assoc, e3] at this
      exact this
    have hbb : (L.length + N.length) * R.bytes ≤ 140737488355328 := by
      have : (L.length + N.length) * R.bytes ≤ 100000000 * 1000 := Nat.mul_le_mul hl R.sb
      omega
    obtain ⟨v', w', hrun, h2, h3, _, h5⟩ := run_append_own_at (P := P) w base T T E i0 _ n R.bytes R.und hi hz0 hz1 hz2 R.zlen hpos v L.length (valsG enc L) h ad N.length c (valsG enc N) (valsG_len he N) hcells
      (fun u hu => by
        simp only [valsG, List.mem_flatMap] at hu
        obtain ⟨s, _, hs⟩ := hu
        exact h1c s u hs) (by simp only [maxLen]; omega) hbb hbase
    refine ⟨v', w', hrun, ?_, h3, h5⟩
    unfold OwnG
    rw [List.length_append, valsG_app]
    exact h2
/-- the same at a step of a region that draws its order -/
theorem step_appG {P : Program} {T : TypeId} (R : RowT P T E n) (he : ∀ x, (enc x).length = n) (h1c : ∀ x, ∀ u ∈ enc x, u.oneCell' = true) {ops : Array Oper} {o : Oper} {a : Act} {w : World} {K : Act → World → Prop} {Q : Exit → Act → World → Prop} {X : Prop} (hgd : o.guard = none) (s x : Operand)
    (ho : o.op = .call { callee := .builtin .append, args := #[s, x], argTypes := #[T, T] }) (ht : o.type = T) (base : Nat) (v : Value) (L N : List α) (A : Option Addr) (m c : Nat)
    (hs : a.eval s = v) (hx : a.eval x = .slice A m c) (hN : N.length = m) (h : OwnG enc n E w base v L) (hn : RG enc n w A N) (hbase : base ≤ w.heap.size) (hl : L.length + N.length ≤ 100000000)
    (hk : ∀ v' w', OwnG enc n E w' base v' (L ++ N) → w.grownBy w' v.ownBlock → (v'.ownBlock = v.ownBlock ∨ v'.ownBlock = some w.heap.size) → K (a.put o.dst v') w') :
    if Region.wanted o (yielded ops a.tmps) = true then Oper.wp P o a w K Q else X := by
  have hw : Region.wanted o (yielded ops a.tmps) = true := by simp [Region.wanted, hgd]
  rw [if_pos hw]
  obtain ⟨v', w', hrun, h1, h2, h3⟩ := run_appG R he h1c (c := c) h hn hbase hl
  rw [hN] at hrun
  unfold Oper.wp execOp
  simp only [ho, resolve, invoke, builtin, Sem.run_bind, Sem.run_pure, Result.andThen_ok, List.map_toArray, List.map_cons, List.map_nil, hs, hx, ht, hrun]
  exact hk v' w' h1 h2 h3
theorem rg_new (w : World) (x : α) (t : TypeId) : RG enc n (w.alloc (.cells (enc x).toArray t)) (some ⟨w.heap.size, 0, none⟩) [x] := fun k y hk => by
  cases k with
  | zero =>
    simp at hk
    subst hk
    refine ⟨_, _, rfl, by simp, fun j v hj => ?_⟩
    rw [World.cell?_alloc_at _ _ _ _ rfl, Nat.zero_mul, Nat.zero_add]
    simpa using hj
  | succ k => simp at hk
end
end Go.Proofs.Ythcgnfoijemcbaa
