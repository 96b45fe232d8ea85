/- More words for walks: an append of one new element that tells which block it wrote; slices of bytes of the call's own. -/
import Derived.Test.YtmblmenafplccaaDoorQBase
namespace Go.Proofs.YtmblmenafplccaaDoor
open Go.RowKit Go.Deep
/-- append of one new element, just built, to a slice of the call's own: which block is written -/
theorem wpList_app1at {P : Program} {ops : Array Oper} {rest : List Oper} {o : Oper} {a : Act} {Q : Exit → Act → World → Prop} (wr : World) (hgd : o.guard = none) (s x : Operand) (t : TypeId)
    (ho : o.op = .call { callee := .builtin .append, args := #[s, x], argTypes := #[t, t] })
    (base : Nat) (e : TypeId) (i : TypeInfo) (z : Value) (size bytes : Nat) (ht : P.underlying t = some (.slice e)) (hi : P.info? e = some i) (hz : i.zero = some z)
    (hsize : i.size = size) (hby : i.bytes = bytes) (hzs : z.cells.size = size) (hsz : 0 < size)
    (v : Value) (n : Nat) (xs : List Value) (hs : a.eval s = v) (hown : wr.ownsRow base e size v n xs)
    (news : Array Value) (c : Nat) (hx : a.eval x = .slice (some ⟨wr.heap.size, 0, none⟩) 1 c) (hl : news.size = size) (h1 : ∀ u ∈ news.toList, u.oneCell' = true)
    (h63 : n + 1 ≤ maxLen) (hbytes : (n + 1) * bytes ≤ 140737488355328) (hbase : base ≤ wr.heap.size)
    (h : ∀ v' w', w'.ownsRow base e size v' (n + 1) (xs ++ news.toList) → (wr.alloc (.cells news e)).grownBy w' v.ownBlock → (v'.ownBlock = v.ownBlock ∨ v'.ownBlock = some (wr.heap.size + 1)) → wpList P ops Q rest (a.put o.dst v') w') :
    wpList P ops Q (o :: rest) a (wr.alloc (.cells news e)) := by
  refine wpList_append_own_at _ hgd s x t ho base e i z size bytes ht hi hz hsize hby hzs hsz v n xs hs (hown.alloc _) ⟨wr.heap.size, 0, none⟩ 1 c news.toList hx (by simp [hl]) (fun j u hu => ?_) h1 h63 hbytes (by simp; omega) ?_
  · have : (wr.alloc (.cells news e)).cell? ⟨wr.heap.size, j, none⟩ = some u := by
      rw [World.cell?_alloc_at _ _ _ _ rfl]
      simpa using hu
    unfold Addr.add
    by_cases hj : j = 0
    · subst hj; simpa using this
    · simpa [hj] using this
  · intro v' w' hown' hg _ hb
    exact h v' w' hown' hg (by simpa using hb)
def nbytes (l : List Nat) : List Value := l.map fun n => .int .u8 (n : Nat)
/-- a slice of bytes of the call's own -/
def OwnB (w : World) (base : Nat) (v : Value) (l : List Nat) : Prop := w.ownsRow base 5 1 v l.length (nbytes l)
theorem own_row_ne {w : World} {base : Nat} {e : TypeId} {size n : Nat} {v : Value} {xs : List Value} {g t N : Nat} {f : Nat → Value} (h : w.ownsRow base e size v n xs) (hr : w.rowIs g t N f) (hne : e ≠ t) : v.ownBlock ≠ some g := by
  rcases h.2 with ⟨rfl, _⟩ | ⟨g', cap, cur, rfl, _, hh, _⟩
  · simp [Value.ownBlock]
  · intro he
    have : g' = g := by simpa [Value.ownBlock] using he
    subst this
    obtain ⟨c, hb, _, _⟩ := hr
    rw [hh] at hb
    injection hb with hb
    injection hb with _ ht
    exact hne ht
theorem own_own_ne {w : World} {base base' : Nat} {e e' : TypeId} {size n size' n' : Nat} {v v' : Value} {xs xs' : List Value} (h : w.ownsRow base e size v n xs) (h' : w.ownsRow base' e' size' v' n' xs') (hne : e ≠ e') :
    v.ownBlock = none ∨ v.ownBlock ≠ v'.ownBlock := by
  rcases h.2 with ⟨rfl, _⟩ | ⟨g, cap, cur, rfl, _, hh, _⟩
  · left; rfl
  · right
    rcases h'.2 with ⟨rfl, _⟩ | ⟨g', cap', cur', rfl, _, hh', _⟩
    · simp [Value.ownBlock]
    · intro he
      have : g = g' := by simpa [Value.ownBlock] using he
      subst this
      rw [hh] at hh'
      injection hh' with hb
      injection hb with _ ht
      exact hne ht
theorem own_setCell_row {w : World} {base : Nat} {e : TypeId} {size n : Nat} {v : Value} {xs : List Value} {g t N : Nat} {f : Nat → Value} (h : w.ownsRow base e size v n xs) (hr : w.rowIs g t N f) (hne : e ≠ t) (i : Nat) (u : Value) :
    (w.setCell ⟨g, i, none⟩ u).ownsRow base e size v n xs :=
  h.kept (gb_setCell (World.grownBy.refl w (some g)) i u) (.inr (own_row_ne h hr hne))
theorem info5 : (Tryd.prog.info? 5).map (fun i => (i.zero, i.size, i.bytes)) = some (some (.int .u8 0), 1, 1) := by kernel_rfl
theorem nbytes_snoc (l : List Nat) (b : Nat) : nbytes (l ++ [b]) = nbytes l ++ [.int .u8 b] := by simp [nbytes]
/-- append of one byte to a slice of bytes of the call's own -/
theorem wpList_appB {ops : Array Oper} {rest : List Oper} {o : Oper} {a : Act} {Q : Exit → Act → World → Prop} (wr : World) (hgd : o.guard = none) (s x : Operand)
    (ho : o.op = .call { callee := .builtin .append, args := #[s, x], argTypes := #[51, 51] }) (base : Nat) (v : Value) (l : List Nat) (hs : a.eval s = v)
    (hown : OwnB wr base v l) (b : Nat) (hx : a.eval x = .slice (some ⟨wr.heap.size, 0, none⟩) 1 1) (hl : l.length ≤ 1000000) (hbase : base ≤ wr.heap.size)
    (h : ∀ v' w', OwnB w' base v' (l ++ [b]) → (wr.alloc (.cells #[.int .u8 (b : Nat)] 5)).grownBy w' v.ownBlock → (v'.ownBlock = v.ownBlock ∨ v'.ownBlock = some (wr.heap.size + 1)) → wpList Tryd.prog ops Q rest (a.put o.dst v') w') :
    wpList Tryd.prog ops Q (o :: rest) a (wr.alloc (.cells #[.int .u8 (b : Nat)] 5)) := by
  obtain ⟨i0, hi, hz0, hz1, hz2⟩ := info_parts info5
  refine wpList_app1at wr hgd s x 51 ho base 5 i0 _ 1 1 Tryd.underlying51 hi hz0 hz1 hz2 rfl (by omega) v l.length (nbytes l) hs hown _ 1 hx rfl (by intro u hu; simp at hu; subst hu; rfl)
    (by simp only [maxLen]; omega) (by omega) hbase ?_
  intro v' w' ho' hg hb
  refine h v' w' ?_ hg hb
  unfold OwnB
  rw [nbytes_snoc, List.length_append]
  exact ho'
theorem Tryd.info4 : (Tryd.prog.info? 4).map (fun i => (i.zero, i.size, i.bytes)) = some (some (.bool false), 1, 1) := by kernel_rfl
theorem mk38 (n : Nat) (hn : n ≤ 100000) : ∀ w, (Instr.makeSlice 22 (.int .i64 ((n : Int) + 1)) (.int .i64 ((n : Int) + 1))).run Tryd.prog w = .ok (.slice (some ⟨w.heap.size, 0, none⟩) (n + 1) (n + 1)) (w.alloc (.cells (madeCells #[.bool false] (n + 1)) 4)) :=
  fun w => run_make_row' (P := Tryd.prog) 22 4 (.bool false) 1 Tryd.underlying22 Tryd.info4 rfl .i64 .i64 (n + 1) (by omega) (by omega) w

theorem row0 (w : World) (n : Nat) (t : TypeId) (u z : Value) : (w.alloc (.cells ((madeCells #[z] n).setIfInBounds 0 u) t)).rowIs w.heap.size t n (fun k => if k = 0 then u else z) := by
  obtain ⟨c, hb, hn, hc⟩ := World.rowIs_made w z n t
  have e : c = madeCells #[z] n := by
    have h2 : (w.alloc (.cells (madeCells #[z] n) t)).heap[w.heap.size]? = some (.cells (madeCells #[z] n) t (0, 0)) := heap_alloc_new w _
    rw [hb] at h2
    injection h2 with h2
    injection h2
  subst e
  have h3 : ((madeCells #[z] n).setIfInBounds 0 u).size = n := by simp [hn]
  have := World.rowIs_alloc w ((madeCells #[z] n).setIfInBounds 0 u) t (fun k => if k = 0 then u else z) (fun i hi => by
    rw [h3] at hi
    by_cases h0 : i = 0
    · subst h0
      simp [hn, hi]
    · rw [Array.getElem?_setIfInBounds]
      simp only [h0, if_false]
      rw [if_neg (fun e => h0 e.symm)]
      exact hc i hi)
  rwa [h3] at this
end Go.Proofs.YtmblmenafplccaaDoor
