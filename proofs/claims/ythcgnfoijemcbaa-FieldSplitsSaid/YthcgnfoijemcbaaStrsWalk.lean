/- Slices of strings: reading one, appending to one of the call's own; the walk of the reference's SameStrings. Walks of the reference's SameStrings and PutString. Walk of the reference's PutString. -/
import Derived.Test.YthcgnfoijemcbaaQBase
import Derived.Test.YthcgnfoijemcbaaMapG
namespace Go.Proofs.Ythcgnfoijemcbaa
open Go.RowKit Go.Deep
/-- a slice's address under which the strings L lie -/
def SR (w : World) (A : Option Addr) (L : List ByteArray) : Prop :=
  ∀ k s, L[k]? = some s → ∃ g o, A = some ⟨g, o, none⟩ ∧ g < w.heap.size ∧ w.cell? ⟨g, o + k, none⟩ = some (.string s)
theorem SR.nil (w : World) (A : Option Addr) : SR w A [] := fun k s h => by simp at h
theorem SR.below {w w' : World} {A : Option Addr} {L : List ByteArray} (h : SR w A L) (hb : Below w.heap.size w w') : SR w' A L := fun k s hk => by
  obtain ⟨g, o, e, hg, hc⟩ := h k s hk
  exact ⟨g, o, e, Nat.lt_of_lt_of_le hg hb.size, (hb.cell (p := ⟨g, o + k, none⟩) hg).trans hc⟩
theorem SR.gb {w w' : World} {A : Option Addr} {L : List ByteArray} {r : Option Nat} (h : SR w A L) (hb : w.grownBy w' r) (hr : ∀ a, A = some a → some a.block ≠ r) : SR w' A L := fun k s hk => by
  obtain ⟨g, o, e, hg, hc⟩ := h k s hk
  exact ⟨g, o, e, Nat.lt_of_lt_of_le hg hb.size, hb.cell (a := ⟨g, o + k, none⟩) hc (show some g ≠ r from hr _ e)⟩
theorem SR.drop {w : World} {g o : Nat} {L : List ByteArray} (h : SR w (some ⟨g, o, none⟩) L) (k : Nat) : SR w (some ⟨g, o + k, none⟩) (L.drop k) := fun j s hj => by
  rw [List.getElem?_drop] at hj
  obtain ⟨g', o', e, hg, hc⟩ := h _ s hj
  injection e with e
  injection e with e1 e2
  subst e1 e2
  exact ⟨g, o + k, rfl, hg, by rw [Nat.add_assoc]; exact hc⟩
theorem SR.take {w : World} {A : Option Addr} {L : List ByteArray} (h : SR w A L) (k : Nat) : SR w A (L.take k) := fun j s hj => by
  rw [List.getElem?_take] at hj
  split at hj
  · exact h j s hj
  · cases hj
def strVals (L : List ByteArray) : List Value := L.map Value.string
/-- a slice of strings of the call's own -/
def OwnS (w : World) (base : Nat) (v : Value) (L : List ByteArray) : Prop := w.ownsRow base 9 1 v L.length (strVals L)
theorem OwnS.slice {w : World} {base : Nat} {v : Value} {L : List ByteArray} (h : OwnS w base v L) : ∃ A c, v = .slice A L.length c ∧ L.length ≤ c ∧ SR w A L ∧ (∀ a, A = some a → v.ownBlock = some a.block) := by
  rcases h.2 with ⟨rfl, hn⟩ | ⟨g, cap, cur, rfl, _, hh, hc, _⟩
  · refine ⟨none, 0, by rw [hn], by omega, fun k s hk => ?_, fun a e => by cases e⟩
    have := (List.getElem?_eq_some_iff.1 hk).1
    omega
  · refine ⟨_, cap, rfl, hc, fun k s hk => ⟨g, 0, rfl, (h.lt g rfl).2, ?_⟩, fun a e => by injection e with e; subst e; rfl⟩
    have hlt := (List.getElem?_eq_some_iff.1 hk).1
    rw [Nat.zero_add, World.ownsRow.cellAt h k (by omega)]
    simp [strVals, hk]
theorem infoS : (Try.prog.info? 9).map (fun i => (i.zero, i.size, i.bytes)) = some (some (.string ⟨#[]⟩), 1, 16) := by kernel_rfl
theorem OwnS.nil (w : World) (base : Nat) : OwnS w base (.slice none 0 0) [] := World.ownsRow_nil _ _ _ _
set_option maxRecDepth 100000 in
/-- append of strings to such a slice, the source nil or not -/
theorem run_appS {w : World} {base : Nat} {v : Value} {L N : List ByteArray} {A : Option Addr} {c : Nat} (h : OwnS w base v L) (hn : SR w A N) (hbase : base ≤ w.heap.size) (hl : L.length + N.length ≤ 100000000) :
    ∃ v' w', (Builtin.append_ #[22, 22] 22 #[v, .slice A N.length c]).run Try.prog w = .ok v' w' ∧ OwnS w' base v' (L ++ N) ∧ w.grownBy w' v.ownBlock ∧ (v'.ownBlock = v.ownBlock ∨ v'.ownBlock = some w.heap.size) := by
  obtain ⟨i0, hi, hz0, hz1, hz2⟩ := info_parts infoS
  rcases A with _ | ad
  · have hN : N = [] := by
      cases N with
      | nil => rfl
      | cons s N =>
        obtain ⟨g, o, e, _⟩ := hn 0 s rfl
        cases e
    subst hN
    refine ⟨v, w, ?_, by simpa using h, World.grownBy.refl w _, .inl rfl⟩
    rcases h.2 with ⟨rfl, _⟩ | ⟨g, cap, cur, rfl, _, _, hnc, _⟩
    · simp [Builtin.append_, run_underlying Try.underlying22, sizeOf, typeInfo, hi, Builtin.lenOf, Builtin.firstCells]
    · simp [Builtin.append_, run_underlying Try.underlying22, sizeOf, typeInfo, hi, Builtin.lenOf, Builtin.firstCells, hnc, storeCells]
  · have hcells : ∀ j u, (strVals N)[j]? = some u → w.cell? (ad.add j) = some u := fun j u hu => by
      have hj := (List.getElem?_eq_some_iff.1 hu).1
      have hj2 : j < N.length := by simpa [strVals] using hj
      obtain ⟨g, o, e, _, hc⟩ := hn j N[j] (List.getElem?_eq_getElem hj2)
      injection e with e
      subst e
      have e2 : (Addr.mk g o none).add j = ⟨g, o + j, none⟩ := by
        unfold Addr.add
        split
        · rename_i h0; subst h0; rfl
        · rfl
      rw [e2, hc]
      simpa [strVals, hj2] using hu
    obtain ⟨v', w', hrun, h2, h3, _, h5⟩ := run_append_own_at (P := Try.prog) w base 22 22 9 i0 _ 1 16 Try.underlying22 hi hz0 hz1 hz2 rfl (by omega) v L.length (strVals L) h ad N.length c (strVals N) (by simp [strVals]) hcells
      (fun u hu => by simp only [strVals, List.mem_map] at hu; obtain ⟨s, _, rfl⟩ := hu; rfl) (by simp only [maxLen]; omega) (by omega) hbase
    refine ⟨v', w', hrun, ?_, h3, h5⟩
    unfold OwnS
    rw [List.length_append, show strVals (L ++ N) = strVals L ++ strVals N from by simp [strVals]]
    exact h2
/-- an append whose run is known -/
theorem wpList_app_run {P : Program} {ops : Array Oper} {rest : List Oper} {o : Oper} {a : Act} {w : World} {Q : Exit → Act → World → Prop} {t : TypeId} {v xv v' : Value} {w' : World} (hgd : o.guard = none) (s x : Operand)
    (ho : o.op = .call { callee := .builtin .append, args := #[s, x], argTypes := #[t, t] }) (hs : a.eval s = v) (hx : a.eval x = xv) (ht : o.type = t)
    (hrun : (Builtin.append_ #[t, t] t #[v, xv]).run P w = .ok v' w') (h : wpList P ops Q rest (a.put o.dst v') w') : wpList P ops Q (o :: rest) a w :=
  wpList_plain hgd fun K hK => by
    unfold Oper.wp execOp
    simp only [ho, resolve, invoke, builtin, Sem.run_bind, Sem.run_pure, Result.andThen_ok, List.map_toArray, List.map_cons, List.map_nil, hs, hx, ht, hrun]
    exact hK _ _ h
theorem sr_new (w : World) (s : ByteArray) : SR (w.alloc (.cells #[.string s] 9)) (some ⟨w.heap.size, 0, none⟩) [s] := fun k x hk => by
  cases k with
  | zero =>
    simp at hk
    subst hk
    exact ⟨_, _, rfl, by simp, by rw [World.cell?_alloc_at _ _ _ _ rfl]; rfl⟩
  | succ k => simp at hk
theorem OwnS.kept {w w' : World} {base : Nat} {v : Value} {L : List ByteArray} {r : Option Nat} (h : OwnS w base v L) (hg : w.grownBy w' r) (hne : v.ownBlock = none ∨ v.ownBlock ≠ r) : OwnS w' base v L := World.ownsRow.kept h hg hne
theorem OwnS.alloc {w : World} {base : Nat} {v : Value} {L : List ByteArray} (h : OwnS w base v L) (o : Obj) : OwnS (w.alloc o) base v L := World.ownsRow.alloc h o
theorem gb_below {w w' : World} {r : Option Nat} {B : Nat} (h : w.grownBy w' r) (hr : ∀ k, r = some k → B ≤ k) : Below B w w' ∨ w.heap.size < B := by
  by_cases hB : B ≤ w.heap.size
  · left
    exact (Below.refl B w).grown h hB hr
  · right; omega
end Go.Proofs.Ythcgnfoijemcbaa
namespace Go.Proofs.Ythcgnfoijemcbaa
open Go.RowKit Go.Deep
theorem txt_ne {a b : ByteArray} (h : a ≠ b) : (a.toList == b.toList) = false := by
  rw [beq_eq_false_iff_ne, ByteArray.toList_eq, ByteArray.toList_eq]
  exact fun e => h (ByteArray.ext (Array.ext' e))
/-- but for draws the same world -/
def Drew (w w' : World) : Prop := ∃ n, w' = w.drewN n
theorem Drew.refl (w : World) : Drew w w := ⟨0, rfl⟩
theorem Drew.more {w w' : World} (h : Drew w w') (n : Nat) : Drew w (w'.drewN n) := by
  obtain ⟨m, rfl⟩ := h
  exact ⟨m + n, by simp [World.drewN, Nat.add_assoc]⟩
theorem SR.drewN {w : World} {A : Option Addr} {L : List ByteArray} (h : SR w A L) (n : Nat) : SR (w.drewN n) A L := h
theorem SR.drew {w w' : World} {A : Option Addr} {L : List ByteArray} (h : SR w A L) (hd : Drew w w') : SR w' A L := by
  obtain ⟨n, rfl⟩ := hd
  exact h
theorem Drew.below {w w' : World} (h : Drew w w') : Below w.heap.size w w' := by
  obtain ⟨n, rfl⟩ := h
  exact below_drewN (Below.refl _ _) n
end Go.Proofs.Ythcgnfoijemcbaa
namespace Go.Proofs.Ythcgnfoijemcbaa
open Go.RowKit Go.Deep
/-- a text into a rising list, once -/
def putS (s : ByteArray) : List ByteArray → List ByteArray
  | [] => [s]
  | x :: l => if sLt x s then x :: putS s l else if x = s then x :: l else s :: x :: l
theorem putS_at {s : ByteArray} : ∀ (L : List ByteArray) (k : Nat), k ≤ L.length → (∀ j x, j < k → L[j]? = some x → sLt x s = true) → (∀ x, L[k]? = some x → sLt x s = false) →
    putS s L = if L[k]? = some s then L else L.take k ++ [s] ++ L.drop k
  | [], k, hk, _, _ => by
    obtain rfl : k = 0 := by simpa using hk
    rfl
  | x :: L, 0, hk, h1, h2 => by
    have := h2 x rfl
    rw [putS, if_neg (by rw [this]; simp)]
    simp
  | x :: L, k + 1, hk, h1, h2 => by
    rw [putS, if_pos (h1 0 x (by omega) rfl), putS_at L k (by simpa using hk) (fun j y hj hy => h1 (j + 1) y (by omega) (by simpa using hy)) (fun y hy => h2 y (by simpa using hy))]
    simp only [List.getElem?_cons_succ]
    split <;> simp
theorem Below.of_gb {w w' : World} {r : Option Nat} {B : Nat} (h : w.grownBy w' r) (hB : B ≤ w.heap.size) (hr : ∀ k, r = some k → B ≤ k) : Below B w w' := (Below.refl B w).grown h hB hr
theorem OwnS.lt {w : World} {base : Nat} {v : Value} {L : List ByteArray} (h : OwnS w base v L) : ∀ k, v.ownBlock = some k → base ≤ k ∧ k < w.heap.size := World.ownsRow.lt h
set_option maxRecDepth 100000 in
/-- three appends, one behind the other, in new rows -/
theorem putstr_chain (w : World) (A1 A2 : Option Addr) (c1 c2 : Nat) (L1 L2 : List ByteArray) (s : ByteArray) (h1 : SR w A2 L2) (h2 : SR w A1 L1) (hl : L1.length + L2.length ≤ 100000) :
    ∃ v1 w1 v2 w2 v3 w3 v4 w4, (Builtin.append_ #[22, 22] 22 #[.slice none 0 0, .slice A2 L2.length c2]).run Try.prog w = .ok v1 w1 ∧
      (Builtin.append_ #[22, 22] 22 #[.slice none 0 0, .slice A1 L1.length c1]).run Try.prog w1 = .ok v2 w2 ∧
      (Builtin.append_ #[22, 22] 22 #[v2, .slice (some ⟨w2.heap.size, 0, none⟩) 1 1]).run Try.prog (w2.alloc (.cells #[.string s] 9)) = .ok v3 w3 ∧
      (Builtin.append_ #[22, 22] 22 #[v3, v1]).run Try.prog w3 = .ok v4 w4 ∧ OwnS w4 w.heap.size v4 (L1 ++ [s] ++ L2) ∧ Below w.heap.size w w4 := by
  obtain ⟨v1, w1, r1, o1, g1, b1⟩ := run_appS (OwnS.nil w w.heap.size) h1 (Nat.le_refl _) (by simp; omega)
  have hb1 : Below w.heap.size w w1 := Below.of_gb g1 (Nat.le_refl _) (fun k hk => by cases hk)
  obtain ⟨v2, w2, r2, o2, g2, b2⟩ := run_appS (OwnS.nil w1 w1.heap.size) (h2.below hb1) (Nat.le_refl _) (by simp; omega)
  have hb2 : Below w.heap.size w w2 := below_up hb1 (Below.of_gb g2 (Nat.le_refl _) (fun k hk => by cases hk)) hb1.size
  have s1 := hb1.size
  have s2 := hb2.size
  have s12 := g2.size
  simp only [List.nil_append] at o1 o2
  have n1 : ∀ k, v1.ownBlock = some k → k < w1.heap.size := fun k hk => (o1.lt k hk).2
  have n2 : ∀ k, v2.ownBlock = some k → k = w1.heap.size := fun k hk => by
    rcases b2 with e | e
    · rw [e] at hk; cases hk
    · rw [e] at hk; injection hk with hk; exact hk.symm
  have o1a : OwnS (w2.alloc (.cells #[.string s] 9)) w.heap.size v1 L2 := (o1.kept g2 (Classical.em _)).alloc _
  obtain ⟨v3, w3, r3, o3, g3, b3⟩ := run_appS (o2.alloc (.cells #[.string s] 9)) (sr_new w2 s) (by simp; omega) (by simp; omega)
  have n3 : ∀ k, v3.ownBlock = some k → w.heap.size ≤ k := fun k hk => by
    rcases b3 with e | e
    · have := n2 k (e ▸ hk); omega
    · rw [e] at hk; injection hk with hk; simp at hk; omega
  have o1b : OwnS w3 w.heap.size v1 L2 := o1a.kept g3 (by
    cases hv : v1.ownBlock with
    | none => exact .inl rfl
    | some k =>
      right
      intro e
      have := n2 k e.symm
      have := n1 k hv
      omega)
  have hb3 : Below w.heap.size w w3 := (hb2.alloc hb2.size _).trans (Below.of_gb g3 (by simp; omega) (fun k hk => by have := n2 k hk; omega))
  have s3 := hb3.size
  obtain ⟨A, c, rfl, _, hsr, _⟩ := o1b.slice
  obtain ⟨v4, w4, r4, o4, g4, b4⟩ := run_appS o3 hsr (by have := g3.size; simp at this; omega) (by simp; omega)
  refine ⟨_, w1, v2, w2, v3, w3, v4, w4, r1, r2, r3, r4, ?_, hb3.trans (Below.of_gb g4 s3 n3)⟩
  exact ⟨o4.1, o4.2.imp id fun ⟨g, cap, cur, e, hg, r⟩ => ⟨g, cap, cur, e, by omega, r⟩⟩
end Go.Proofs.Ythcgnfoijemcbaa
