/- Slices of strings: reading one, appending to one of the call's own; the walk of the reference's SameStrings. -/
import Derived.Test.YtmblmenafplccaaGreatDoorQBase
namespace Go.Proofs.YtmblmenafplccaaGreatDoor
open Go.RowKit Go.Deep
/-- a slice's address under which the strings L lie -/
def SR (w : World) (A : Option Addr) (L : List ByteArray) : Prop :=
  ∀ k s, L[k]? = some s → ∃ g o, A = some ⟨g, o, none⟩ ∧ g < w.heap.size ∧ w.cell? ⟨g, o + k, none⟩ = some (.string s)
theorem SR.nil (w : World) (A : Option Addr) : SR w A [] := fun k s h => by simp at h
theorem SR.below {w w' : World} {A : Option Addr} {L : List ByteArray} (h : SR w A L) (hb : Below w.heap.size w w') : SR w' A L := fun k s hk => by
  obtain ⟨g, o, e, hg, hc⟩ := h k s hk
  exact ⟨g, o, e, Nat.lt_of_lt_of_le hg hb.size, (hb.cell (p := ⟨g, o + k, none⟩) hg).trans hc⟩
theorem SR.gb {w w' : World} {A : Option Addr} {L : List ByteArray} {r : Option Nat} (h : SR w A L) (hb : w.grownBy w' r) (hr : ∀ a, A = some a → some a.block ≠ r) : SR w' A L := fun k s hk => by
  obtain ⟨g, o, e, hg, hc⟩ := h k s hk
  exact ⟨g, o, e, Nat.lt_of_lt_of_le hg hb.size, hb.cell (a := ⟨g, o + k, none⟩) hc (show some g ≠ r from hr _ e)⟩
theorem SR.drop {w : World} {g o : Nat} {L : List ByteArray} (h : SR w (some ⟨g, o, none⟩) L) (k : Nat) : SR w (some ⟨g, o + k, none⟩) (L.drop k) := fun j s hj => by
  rw [List.getElem?_drop] at hj
  obtain ⟨g', o', e, hg, hc⟩ := h _ s hj
  injection e with e
  injection e with e1 e2
  subst e1 e2
  exact ⟨g, o + k, rfl, hg, by rw [Nat.add_assoc]; exact hc⟩
theorem SR.take {w : World} {A : Option Addr} {L : List ByteArray} (h : SR w A L) (k : Nat) : SR w A (L.take k) := fun j s hj => by
  rw [List.getElem?_take] at hj
  split at hj
  · exact h j s hj
  · cases hj
def strVals (L : List ByteArray) : List Value := L.map Value.string
/-- a slice of strings of the call's own -/
def OwnS (w : World) (base : Nat) (v : Value) (L : List ByteArray) : Prop := w.ownsRow base 9 1 v L.length (strVals L)
theorem OwnS.slice {w : World} {base : Nat} {v : Value} {L : List ByteArray} (h : OwnS w base v L) : ∃ A c, v = .slice A L.length c ∧ L.length ≤ c ∧ SR w A L ∧ (∀ a, A = some a → v.ownBlock = some a.block) := by
  rcases h.2 with ⟨rfl, hn⟩ | ⟨g, cap, cur, rfl, _, hh, hc, _⟩
  · refine ⟨none, 0, by rw [hn], by omega, fun k s hk => ?_, fun a e => by cases e⟩
    have := (List.getElem?_eq_some_iff.1 hk).1
    omega
  · refine ⟨_, cap, rfl, hc, fun k s hk => ⟨g, 0, rfl, (h.lt g rfl).2, ?_⟩, fun a e => by injection e with e; subst e; rfl⟩
    have hlt := (List.getElem?_eq_some_iff.1 hk).1
    rw [Nat.zero_add, World.ownsRow.cellAt h k (by omega)]
    simp [strVals, hk]
theorem infoS : (Tryz.prog.info? 9).map (fun i => (i.zero, i.size, i.bytes)) = some (some (.string ⟨#[]⟩), 1, 16) := by kernel_rfl
theorem OwnS.nil (w : World) (base : Nat) : OwnS w base (.slice none 0 0) [] := World.ownsRow_nil _ _ _ _
set_option maxRecDepth 100000 in
/-- append of strings to such a slice, the source nil or not -/
theorem run_appS {w : World} {base : Nat} {v : Value} {L N : List ByteArray} {A : Option Addr} {c : Nat} (h : OwnS w base v L) (hn : SR w A N) (hbase : base ≤ w.heap.size) (hl : L.length + N.length ≤ 1000000) :
    ∃ v' w', (Builtin.append_ #[28, 28] 28 #[v, .slice A N.length c]).run Tryz.prog w = .ok v' w' ∧ OwnS w' base v' (L ++ N) ∧ w.grownBy w' v.ownBlock ∧ (v'.ownBlock = v.ownBlock ∨ v'.ownBlock = some w.heap.size) := by
  obtain ⟨i0, hi, hz0, hz1, hz2⟩ := info_parts infoS
  rcases A with _ | ad
  · have hN : N = [] := by
      cases N with
      | nil => rfl
      | cons s N =>
        obtain ⟨g, o, e, _⟩ := hn 0 s rfl
        cases e
    subst hN
    refine ⟨v, w, ?_, by simpa using h, World.grownBy.refl w _, .inl rfl⟩
    rcases h.2 with ⟨rfl, _⟩ | ⟨g, cap, cur, rfl, _, _, hnc, _⟩
    · simp [Builtin.append_, run_underlying Tryz.underlying28, sizeOf, typeInfo, hi, Builtin.lenOf, Builtin.firstCells]
    · simp [Builtin.append_, run_underlying Tryz.underlying28, sizeOf, typeInfo, hi, Builtin.lenOf, Builtin.firstCells, hnc, storeCells]
  · have hcells : ∀ j u, (strVals N)[j]? = some u → w.cell? (ad.add j) = some u := fun j u hu => by
      have hj := (List.getElem?_eq_some_iff.1 hu).1
      have hj2 : j < N.length := by simpa [strVals] using hj
      obtain ⟨g, o, e, _, hc⟩ := hn j N[j] (List.getElem?_eq_getElem hj2)
      injection e with e
      subst e
      have e2 : (Addr.mk g o none).add j = ⟨g, o + j, none⟩ := by
        unfold Addr.add
        split
        · rename_i h0; subst h0; rfl
        · rfl
      rw [e2, hc]
      simpa [strVals, hj2] using hu
    obtain ⟨v', w', hrun, h2, h3, _, h5⟩ := run_append_own_at (P := Tryz.prog) w base 28 28 9 i0 _ 1 16 Tryz.underlying28 hi hz0 hz1 hz2 rfl (by omega) v L.length (strVals L) h ad N.length c (strVals N) (by simp [strVals]) hcells
      (fun u hu => by simp only [strVals, List.mem_map] at hu; obtain ⟨s, _, rfl⟩ := hu; rfl) (by simp only [maxLen]; omega) (by omega) hbase
    refine ⟨v', w', hrun, ?_, h3, h5⟩
    unfold OwnS
    rw [List.length_append, show strVals (L ++ N) = strVals L ++ strVals N from by simp [strVals]]
    exact h2
/-- an append whose run is known -/
theorem wpList_app_run {P : Program} {ops : Array Oper} {rest : List Oper} {o : Oper} {a : Act} {w : World} {Q : Exit → Act → World → Prop} {t : TypeId} {v xv v' : Value} {w' : World} (hgd : o.guard = none) (s x : Operand)
    (ho : o.op = .call { callee := .builtin .append, args := #[s, x], argTypes := #[t, t] }) (hs : a.eval s = v) (hx : a.eval x = xv) (ht : o.type = t)
    (hrun : (Builtin.append_ #[t, t] t #[v, xv]).run P w = .ok v' w') (h : wpList P ops Q rest (a.put o.dst v') w') : wpList P ops Q (o :: rest) a w :=
  wpList_plain hgd fun K hK => by
    unfold Oper.wp execOp
    simp only [ho, resolve, invoke, builtin, Sem.run_bind, Sem.run_pure, Result.andThen_ok, List.map_toArray, List.map_cons, List.map_nil, hs, hx, ht, hrun]
    exact hK _ _ h
theorem sr_new (w : World) (s : ByteArray) : SR (w.alloc (.cells #[.string s] 9)) (some ⟨w.heap.size, 0, none⟩) [s] := fun k x hk => by
  cases k with
  | zero =>
    simp at hk
    subst hk
    exact ⟨_, _, rfl, by simp, by rw [World.cell?_alloc_at _ _ _ _ rfl]; rfl⟩
  | succ k => simp at hk
theorem OwnS.kept {w w' : World} {base : Nat} {v : Value} {L : List ByteArray} {r : Option Nat} (h : OwnS w base v L) (hg : w.grownBy w' r) (hne : v.ownBlock = none ∨ v.ownBlock ≠ r) : OwnS w' base v L := World.ownsRow.kept h hg hne
theorem OwnS.alloc {w : World} {base : Nat} {v : Value} {L : List ByteArray} (h : OwnS w base v L) (o : Obj) : OwnS (w.alloc o) base v L := World.ownsRow.alloc h o
theorem gb_below {w w' : World} {r : Option Nat} {B : Nat} (h : w.grownBy w' r) (hr : ∀ k, r = some k → B ≤ k) : Below B w w' ∨ w.heap.size < B := by
  by_cases hB : B ≤ w.heap.size
  · left
    exact (Below.refl B w).grown h hB hr
  · right; omega
end Go.Proofs.YtmblmenafplccaaGreatDoor
