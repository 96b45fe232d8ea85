/- Slices of pairs of texts: reading one, appending to one of the call's own. -/
import Derived.Test.YtpmhkgjplghldaaStrsWalkB
namespace Go.Proofs.Ytpmhkgjplghldaa
open Go.RowKit Go.Deep
abbrev Pr := ByteArray × ByteArray
/-- a slice's address under which the pairs P lie -/
def PR (w : World) (A : Option Addr) (P : List Pr) : Prop :=
  ∀ k x, P[k]? = some x → ∃ g o, A = some ⟨g, o, none⟩ ∧ g < w.heap.size ∧ w.cell? ⟨g, o + k * 2, none⟩ = some (.string x.1) ∧ w.cell? ⟨g, o + k * 2 + 1, none⟩ = some (.string x.2)
theorem PR.nil (w : World) (A : Option Addr) : PR w A [] := fun k s h => by simp at h
theorem PR.of {w w' : World} {A : Option Addr} {P : List Pr} (h : PR w A P) (hs : w.heap.size ≤ w'.heap.size) (hc : ∀ a, A = some a → a.block < w.heap.size → w'.heap[a.block]? = w.heap[a.block]?) : PR w' A P := fun k x hk => by
  obtain ⟨g, o, e, hg, h1, h2⟩ := h k x hk
  have hb := hc _ e hg
  exact ⟨g, o, e, by omega, (World.cell?_of_block (a := ⟨g, o + k * 2, none⟩) hb).trans h1, (World.cell?_of_block (a := ⟨g, o + k * 2 + 1, none⟩) hb).trans h2⟩
theorem PR.below {w w' : World} {A : Option Addr} {P : List Pr} (h : PR w A P) (hb : Below w.heap.size w w') : PR w' A P := h.of hb.size fun a _ hl => hb.block a.block hl
theorem PR.gb {w w' : World} {A : Option Addr} {P : List Pr} {r : Option Nat} (h : PR w A P) (hb : w.grownBy w' r) (hr : ∀ a, A = some a → some a.block ≠ r) : PR w' A P := h.of hb.size fun a e hl => hb.block a.block hl (hr a e)
theorem PR.drew {w w' : World} {A : Option Addr} {P : List Pr} (h : PR w A P) (hd : Drew w w') : PR w' A P := by
  obtain ⟨n, rfl⟩ := hd
  exact h
theorem PR.take {w : World} {A : Option Addr} {P : List Pr} (h : PR w A P) (k : Nat) : PR w A (P.take k) := fun j s hj => by
  rw [List.getElem?_take] at hj
  split at hj
  · exact h j s hj
  · cases hj
theorem PR.drop {w : World} {g o : Nat} {P : List Pr} (h : PR w (some ⟨g, o, none⟩) P) (k : Nat) : PR w (some ⟨g, o + k * 2, none⟩) (P.drop k) := fun j s hj => by
  rw [List.getElem?_drop] at hj
  obtain ⟨g', o', e, hg, h1, h2⟩ := h _ s hj
  injection e with e
  injection e with e1 e2
  subst e1 e2
  exact ⟨g, o + k * 2, rfl, hg, by rw [show o + k * 2 + j * 2 = o + (k + j) * 2 from by omega]; exact h1, by rw [show o + k * 2 + j * 2 + 1 = o + (k + j) * 2 + 1 from by omega]; exact h2⟩
def pairVals (P : List Pr) : List Value := P.flatMap fun x => [.string x.1, .string x.2]
theorem pairVals_len (P : List Pr) : (pairVals P).length = P.length * 2 := by
  induction P with
  | nil => rfl
  | cons x P ih =>
    rw [pairVals, List.flatMap_cons, List.length_append]
    have : (P.flatMap fun x => [Value.string x.1, Value.string x.2]).length = P.length * 2 := ih
    simp [this]
    omega
theorem pairVals_get : ∀ (P : List Pr) (k : Nat) (x : Pr), P[k]? = some x → (pairVals P)[k * 2]? = some (.string x.1) ∧ (pairVals P)[k * 2 + 1]? = some (.string x.2)
  | [], k, x, h => by simp at h
  | y :: P, 0, x, h => by
    simp at h
    subst h
    exact ⟨rfl, rfl⟩
  | y :: P, k + 1, x, h => by
    have ih := pairVals_get P k x (by simpa using h)
    rw [show pairVals (y :: P) = .string y.1 :: .string y.2 :: pairVals P from rfl, show (k + 1) * 2 = k * 2 + 1 + 1 from by omega]
    simpa using ih
theorem pairVals_app (P N : List Pr) : pairVals (P ++ N) = pairVals P ++ pairVals N := by simp [pairVals]
/-- a slice of pairs of the call's own -/
def OwnP (w : World) (base : Nat) (v : Value) (P : List Pr) : Prop := w.ownsRow base 49 2 v P.length (pairVals P)
theorem OwnP.slice {w : World} {base : Nat} {v : Value} {P : List Pr} (h : OwnP w base v P) : ∃ A c, v = .slice A P.length c ∧ P.length ≤ c ∧ PR w A P ∧ (∀ a, A = some a → v.ownBlock = some a.block) := by
  rcases h.2 with ⟨rfl, hn⟩ | ⟨g, cap, cur, rfl, _, hh, hc, _⟩
  · refine ⟨none, 0, by rw [hn], by omega, fun k s hk => ?_, fun a e => by cases e⟩
    have := (List.getElem?_eq_some_iff.1 hk).1
    omega
  · refine ⟨_, cap, rfl, hc, fun k x hk => ⟨g, 0, rfl, (h.lt g rfl).2, ?_, ?_⟩, fun a e => by injection e with e; subst e; rfl⟩
    · have hlt := (List.getElem?_eq_some_iff.1 hk).1
      rw [Nat.zero_add, World.ownsRow.cellAt h (k * 2) (by omega), (pairVals_get P k x hk).1]
    · have hlt := (List.getElem?_eq_some_iff.1 hk).1
      rw [Nat.zero_add, World.ownsRow.cellAt h (k * 2 + 1) (by omega), (pairVals_get P k x hk).2]
theorem infoP : (Try.prog.info? 49).map (fun i => (i.zero, i.size, i.bytes)) = some (some (.agg #[.string ⟨#[]⟩, .string ⟨#[]⟩]), 2, 32) := by kernel_rfl
theorem OwnP.nil (w : World) (base : Nat) : OwnP w base (.slice none 0 0) [] := World.ownsRow_nil _ _ _ _
theorem OwnP.kept {w w' : World} {base : Nat} {v : Value} {P : List Pr} {r : Option Nat} (h : OwnP w base v P) (hg : w.grownBy w' r) (hne : v.ownBlock = none ∨ v.ownBlock ≠ r) : OwnP w' base v P := World.ownsRow.kept h hg hne
theorem OwnP.alloc {w : World} {base : Nat} {v : Value} {P : List Pr} (h : OwnP w base v P) (o : Obj) : OwnP (w.alloc o) base v P := World.ownsRow.alloc h o
theorem OwnP.lt {w : World} {base : Nat} {v : Value} {P : List Pr} (h : OwnP w base v P) : ∀ k, v.ownBlock = some k → base ≤ k ∧ k < w.heap.size := World.ownsRow.lt h
theorem OwnP.base {w : World} {base base' : Nat} {v : Value} {P : List Pr} (h : OwnP w base v P) (hb : base' ≤ base) : OwnP w base' v P :=
  ⟨h.1, h.2.imp id fun ⟨g, cap, cur, e, hg, r⟩ => ⟨g, cap, cur, e, by omega, r⟩⟩
set_option maxRecDepth 100000 in
/-- append of pairs to such a slice, the source nil or not -/
theorem run_appP {w : World} {base : Nat} {v : Value} {P N : List Pr} {A : Option Addr} {c : Nat} (h : OwnP w base v P) (hn : PR w A N) (hbase : base ≤ w.heap.size) (hl : P.length + N.length ≤ 1000000) :
    ∃ v' w', (Builtin.append_ #[28, 28] 28 #[v, .slice A N.length c]).run Try.prog w = .ok v' w' ∧ OwnP w' base v' (P ++ N) ∧ w.grownBy w' v.ownBlock ∧ (v'.ownBlock = v.ownBlock ∨ v'.ownBlock = some w.heap.size) := by
  obtain ⟨i0, hi, hz0, hz1, hz2⟩ := info_parts infoP
  rcases A with _ | ad
  · have hN : N = [] := by
      cases N with
      | nil => rfl
      | cons s N =>
        obtain ⟨g, o, e, _⟩ := hn 0 s rfl
        cases e
    subst hN
    refine ⟨v, w, ?_, by simpa using h, World.grownBy.refl w _, .inl rfl⟩
    rcases h.2 with ⟨rfl, _⟩ | ⟨g, cap, cur, rfl, _, _, hnc, _⟩
    · simp [Builtin.append_, run_underlying Try.underlying28, sizeOf, typeInfo, hi, Builtin.lenOf, Builtin.firstCells]
    · simp [Builtin.append_, run_underlying Try.underlying28, sizeOf, typeInfo, hi, Builtin.lenOf, Builtin.firstCells, hnc, storeCells]
  · have hcells : ∀ j u, (pairVals N)[j]? = some u → w.cell? (ad.add j) = some u := fun j u hu => by
      have hj := (List.getElem?_eq_some_iff.1 hu).1
      rw [pairVals_len] at hj
      have hj2 : j / 2 < N.length := by omega
      obtain ⟨g, o, e, _, h1, h2⟩ := hn (j / 2) N[j / 2] (List.getElem?_eq_getElem hj2)
      have hp := pairVals_get N (j / 2) N[j / 2] (List.getElem?_eq_getElem hj2)
      injection e with e
      subst e
      have e2 : (Addr.mk g o none).add j = ⟨g, o + j, none⟩ := by
        unfold Addr.add
        split
        · rename_i h0; subst h0; rfl
        · rfl
      rw [e2]
      rcases Nat.mod_two_eq_zero_or_one j with hm | hm
      · rw [show j / 2 * 2 = j from by omega] at h1 hp
        rw [h1, ← hp.1, hu]
      · rw [show o + j / 2 * 2 + 1 = o + j from by omega] at h2
        rw [show j / 2 * 2 + 1 = j from by omega] at hp
        rw [h2, ← hp.2, hu]
    obtain ⟨v', w', hrun, h2, h3, _, h5⟩ := run_append_own_at (P := Try.prog) w base 28 28 49 i0 _ 2 32 Try.underlying28 hi hz0 hz1 hz2 rfl (by omega) v P.length (pairVals P) h ad N.length c (pairVals N) (pairVals_len N) hcells
      (fun u hu => by simp only [pairVals, List.mem_flatMap] at hu; obtain ⟨s, _, hs⟩ := hu; simp at hs; rcases hs with rfl | rfl <;> rfl) (by simp only [maxLen]; omega) (by omega) hbase
    refine ⟨v', w', hrun, ?_, h3, h5⟩
    unfold OwnP
    rw [List.length_append, pairVals_app]
    exact h2
/-- an append of pairs at the head of a list of operations -/
theorem wpList_appP {ops : Array Oper} {rest : List Oper} {o : Oper} {a : Act} {w : World} {Q : Exit → Act → World → Prop} (hgd : o.guard = none) (s x : Operand)
    (ho : o.op = .call { callee := .builtin .append, args := #[s, x], argTypes := #[28, 28] }) (ht : o.type = 28) (base : Nat) (v : Value) (P N : List Pr) (A : Option Addr) (n c : Nat)
    (hs : a.eval s = v) (hx : a.eval x = .slice A n c) (hN : N.length = n) (h : OwnP w base v P) (hn : PR w A N) (hbase : base ≤ w.heap.size) (hl : P.length + N.length ≤ 1000000)
    (hk : ∀ v' w', OwnP w' base v' (P ++ N) → w.grownBy w' v.ownBlock → (v'.ownBlock = v.ownBlock ∨ v'.ownBlock = some w.heap.size) → wpList Try.prog ops Q rest (a.put o.dst v') w') : wpList Try.prog ops Q (o :: rest) a w := by
  obtain ⟨v', w', hrun, h1, h2, h3⟩ := run_appP (c := c) h hn hbase hl
  rw [hN] at hrun
  exact wpList_app_run hgd s x ho hs hx ht hrun (hk v' w' h1 h2 h3)
/-- the same at a step of a region that draws its order -/
theorem step_appP {ops : Array Oper} {o : Oper} {a : Act} {w : World} {K : Act → World → Prop} {Q : Exit → Act → World → Prop} {E : Prop} (hgd : o.guard = none) (s x : Operand)
    (ho : o.op = .call { callee := .builtin .append, args := #[s, x], argTypes := #[28, 28] }) (ht : o.type = 28) (base : Nat) (v : Value) (P N : List Pr) (A : Option Addr) (n c : Nat)
    (hs : a.eval s = v) (hx : a.eval x = .slice A n c) (hN : N.length = n) (h : OwnP w base v P) (hn : PR w A N) (hbase : base ≤ w.heap.size) (hl : P.length + N.length ≤ 1000000)
    (hk : ∀ v' w', OwnP w' base v' (P ++ N) → w.grownBy w' v.ownBlock → (v'.ownBlock = v.ownBlock ∨ v'.ownBlock = some w.heap.size) → K (a.put o.dst v') w') :
    if Region.wanted o (yielded ops a.tmps) = true then Oper.wp Try.prog o a w K Q else E := by
  have hw : Region.wanted o (yielded ops a.tmps) = true := by simp [Region.wanted, hgd]
  rw [if_pos hw]
  obtain ⟨v', w', hrun, h1, h2, h3⟩ := run_appP (c := c) h hn hbase hl
  rw [hN] at hrun
  unfold Oper.wp execOp
  simp only [ho, resolve, invoke, builtin, Sem.run_bind, Sem.run_pure, Result.andThen_ok, List.map_toArray, List.map_cons, List.map_nil, hs, hx, ht, hrun]
  exact hk v' w' h1 h2 h3
theorem pr_new (w : World) (a b : ByteArray) : PR (w.alloc (.cells #[.string a, .string b] 49)) (some ⟨w.heap.size, 0, none⟩) [(a, b)] := fun k x hk => by
  cases k with
  | zero =>
    simp at hk
    subst hk
    exact ⟨_, _, rfl, by simp, by rw [World.cell?_alloc_at _ _ _ _ rfl]; rfl, by rw [World.cell?_alloc_at _ _ _ _ rfl]; rfl⟩
  | succ k => simp at hk
end Go.Proofs.Ytpmhkgjplghldaa
