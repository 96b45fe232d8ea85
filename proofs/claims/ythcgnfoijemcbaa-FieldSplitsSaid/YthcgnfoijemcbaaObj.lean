/- An object in memory: a block of cells, some of which hold rows of the object's own. No program in sight. -/
import Derived.Test.YthcgnfoijemcbaaSep
import Derived.Test.YthcgnfoijemcbaaStrsWalk
import Derived.Test.YthcgnfoijemcbaaRowG
namespace Go.Proofs.Ythcgnfoijemcbaa
open Go.RowKit
set_option linter.unusedSimpArgs false
set_option linter.unusedVariables false

/-- a cell: a plain value, or a row of the object's own -/
inductive Cl where
  | v (x : Value)
  | r (t : TypeId) (n len : Nat) (vals : List Value)
def ClOk (w : World) (base : Nat) : Cl → Value → Prop
  | .v x, u => u = x
  | .r t n len vals, u => w.ownsRow base t n u len vals
def Cl.row : Cl → Bool
  | .v _ => false
  | .r .. => true
def Cl.s (L : List ByteArray) : Cl := .r 9 1 L.length (strVals L)
theorem ownsRow_of {w w' : World} {base : Nat} {t : TypeId} {n len : Nat} {v : Value} {vals : List Value} (h : w.ownsRow base t n v len vals) (hb : ∀ k, v.ownBlock = some k → w'.heap[k]? = w.heap[k]?) : w'.ownsRow base t n v len vals := by
  obtain ⟨h1, h2⟩ := h
  refine ⟨h1, ?_⟩
  rcases h2 with h | ⟨g, cap, cur, rfl, hg, hh, r⟩
  · exact .inl h
  · exact .inr ⟨g, cap, cur, rfl, hg, (hb g rfl).trans hh, r⟩
theorem ClOk.of {w w' : World} {base : Nat} {c : Cl} {u : Value} (h : ClOk w base c u) (hb : c.row = true → ∀ k, u.ownBlock = some k → w'.heap[k]? = w.heap[k]?) : ClOk w' base c u := by
  cases c with
  | v x => exact h
  | r t n len vals => exact ownsRow_of h (hb rfl)
theorem ClOk.lt {w : World} {base : Nat} {c : Cl} {u : Value} (h : ClOk w base c u) (hr : c.row = true) {k : Nat} (hk : u.ownBlock = some k) : base ≤ k ∧ k < w.heap.size := by
  cases c with
  | v x => cases hr
  | r t n len vals => exact World.ownsRow.lt h k hk
/-- an object of such cells, its rows in blocks of T -/
structure OI (w0 : World) (ty : TypeId) (g : Nat) (cs : List Cl) (T : Nat → Prop) (w : World) : Prop where
  below : Below w0.heap.size w0 w
  tg : T g
  tw : ∀ k, T k → w0.heap.size ≤ k ∧ k < w.heap.size
  body : ∃ vs : List Value, w.heap[g]? = some (.cells vs.toArray ty) ∧ vs.length = cs.length ∧
    (∀ (j : Nat) (c : Cl) (u : Value), cs[j]? = some c → vs[j]? = some u → ClOk w w0.heap.size c u ∧ (c.row = true → ∀ k, u.ownBlock = some k → T k ∧ k ≠ g)) ∧
    ∀ (i j : Nat) (c d : Cl) (u v : Value), i ≠ j → cs[i]? = some c → cs[j]? = some d → c.row = true → d.row = true → vs[i]? = some u → vs[j]? = some v → ∀ k, u.ownBlock = some k → v.ownBlock ≠ some k
/-- what a call on it leaves -/
def OIP (w0 : World) (ty : TypeId) (g : Nat) (cs : List Cl) (T : Nat → Prop) (w w' : World) : Prop := ∃ T', OI w0 ty g cs T' w' ∧ Kp w w' T ∧ ∀ k, T' k → T k ∨ w.heap.size ≤ k
theorem objSet {w : World} {g j : Nat} {vs : List Value} {t : TypeId} (h : w.heap[g]? = some (.cells vs.toArray t)) (v : Value) : (w.setCell ⟨g, j, none⟩ v).heap[g]? = some (.cells (vs.set j v).toArray t) := by
  unfold World.setCell
  simp [Array.getElem?_modify, h]
theorem objKp {w : World} {g j : Nat} {v : Value} : Kp w (w.setCell ⟨g, j, none⟩ v) (fun k => k = g) :=
  ⟨rfl, rfl, rfl, by simp, fun k _ hne => Below.heap_setCell _ _ _ _ (by simpa using hne)⟩
theorem OI.step {w0 w w' : World} {ty : TypeId} {g : Nat} {cs : List Cl} {T : Nat → Prop} (h : OI w0 ty g cs T w) (hb : Below w.heap.size w w') : OI w0 ty g cs T w' := by
  obtain ⟨vs, h1, h2, h3, h4⟩ := h.body
  refine ⟨h.below.trans (hb.mono h.below.size), h.tg, fun k hk => ⟨(h.tw k hk).1, Nat.lt_of_lt_of_le (h.tw k hk).2 hb.size⟩, vs, (hb.block g (h.tw g h.tg).2).trans h1, h2, fun j c u hc hu => ?_, h4⟩
  obtain ⟨h5, h6⟩ := h3 j c u hc hu
  exact ⟨h5.of fun hr k hk => hb.block k (h.tw k (h6 hr k hk).1).2, h6⟩
theorem OI.toP {w0 w w' : World} {ty : TypeId} {g : Nat} {cs : List Cl} {T : Nat → Prop} (h : OI w0 ty g cs T w) (hb : Below w.heap.size w w') : OIP w0 ty g cs T w w' := ⟨T, h.step hb, Kp.of_below hb T, fun _ hk => .inl hk⟩
theorem OIP.trans {w0 w w' w'' : World} {ty : TypeId} {g : Nat} {cs cs' : List Cl} {T : Nat → Prop} (h : OIP w0 ty g cs T w w') (h2 : ∀ T', OI w0 ty g cs T' w' → OIP w0 ty g cs' T' w' w'') : OIP w0 ty g cs' T w w'' := by
  obtain ⟨T', f, k, gr⟩ := h
  obtain ⟨T2, f2, k2, gr2⟩ := h2 T' f
  refine ⟨T2, f2, k.trans (k2.mono gr), fun q hq => ?_⟩
  rcases gr2 q hq with h | h
  · exact gr q h
  · exact .inr (Nat.le_trans k.size h)
theorem OIP.below {w0 w w' : World} {ty : TypeId} {g : Nat} {cs : List Cl} {T : Nat → Prop} (h : OIP w0 ty g cs T w w') : Below w0.heap.size w0 w' := by
  obtain ⟨T', f, _, _⟩ := h; exact f.below
theorem OIP.step {w0 w w' w'' : World} {ty : TypeId} {g : Nat} {cs : List Cl} {T : Nat → Prop} (h : OIP w0 ty g cs T w w') (hb : Below w'.heap.size w' w'') : OIP w0 ty g cs T w w'' := h.trans fun _ f => f.toP hb
theorem OIP.after {w0 w w1 w' : World} {ty : TypeId} {g : Nat} {cs : List Cl} {T : Nat → Prop} (hb : Below w.heap.size w w1) (h : OIP w0 ty g cs T w1 w') : OIP w0 ty g cs T w w' := by
  obtain ⟨T', f, k, gr⟩ := h
  exact ⟨T', f, (Kp.of_below hb T).trans (k.mono fun q hq => .inl hq), fun q hq => (gr q hq).imp_right (Nat.le_trans hb.size)⟩
/-- what lies elsewhere stays as it was -/
theorem OIP.cell {w0 w w' : World} {ty : TypeId} {g : Nat} {cs : List Cl} {T : Nat → Prop} (h : OIP w0 ty g cs T w w') {b o : Nat} {v : Value} (hc : w.cell? ⟨b, o, none⟩ = some v) (hT : ¬ T b) : w'.cell? ⟨b, o, none⟩ = some v := by
  obtain ⟨T', _, k, _⟩ := h
  exact k.cell hc hT
theorem OIP.block {w0 w w' : World} {ty : TypeId} {g : Nat} {cs : List Cl} {T : Nat → Prop} (h : OIP w0 ty g cs T w w') {b : Nat} (hb : b < w.heap.size) (hT : ¬ T b) : w'.heap[b]? = w.heap[b]? := by
  obtain ⟨T', _, k, _⟩ := h
  exact k.block b hb hT
theorem OI.cellV {w0 w : World} {ty : TypeId} {g : Nat} {cs : List Cl} {T : Nat → Prop} (h : OI w0 ty g cs T w) {j : Nat} {x : Value} (hj : cs[j]? = some (.v x)) : w.cell? ⟨g, j, none⟩ = some x := by
  obtain ⟨vs, h1, h2, h3, h4⟩ := h.body
  obtain ⟨u, hu⟩ : ∃ u, vs[j]? = some u := by
    have := (List.getElem?_eq_some_iff.1 hj).1
    exact ⟨vs[j]'(by omega), List.getElem?_eq_getElem _⟩
  obtain ⟨h5, _⟩ := h3 j _ u hj hu
  have h5' : u = x := h5
  subst h5'
  simp [World.cell?, h1, hu]
theorem OI.cellR {w0 w : World} {ty : TypeId} {g : Nat} {cs : List Cl} {T : Nat → Prop} (h : OI w0 ty g cs T w) {j : Nat} {t : TypeId} {n len : Nat} {vals : List Value} (hj : cs[j]? = some (.r t n len vals)) : ∃ u, w.cell? ⟨g, j, none⟩ = some u ∧ w.ownsRow w0.heap.size t n u len vals ∧ ∀ k, u.ownBlock = some k → T k ∧ k ≠ g := by
  obtain ⟨vs, h1, h2, h3, h4⟩ := h.body
  obtain ⟨u, hu⟩ : ∃ u, vs[j]? = some u := by
    have := (List.getElem?_eq_some_iff.1 hj).1
    exact ⟨vs[j]'(by omega), List.getElem?_eq_getElem _⟩
  obtain ⟨h5, h6⟩ := h3 j _ u hj hu
  exact ⟨u, by simp [World.cell?, h1, hu], h5, h6 rfl⟩
theorem OI.cellS {w0 w : World} {ty : TypeId} {g : Nat} {cs : List Cl} {T : Nat → Prop} (h : OI w0 ty g cs T w) {j : Nat} {L : List ByteArray} (hj : cs[j]? = some (Cl.s L)) : ∃ A c, w.cell? ⟨g, j, none⟩ = some (.slice A L.length c) ∧ OwnS w w0.heap.size (.slice A L.length c) L ∧ L.length ≤ c ∧ SR w A L ∧ (∀ a, A = some a → T a.block ∧ a.block ≠ g) := by
  obtain ⟨u, h1, h2, h3⟩ := h.cellR hj
  have h4 : OwnS w w0.heap.size u L := h2
  obtain ⟨A, c, rfl, hc, hs, ha⟩ := h4.slice
  exact ⟨A, c, h1, h4, hc, hs, fun a e => h3 _ (ha a e)⟩
theorem OI.free {w0 w : World} {ty : TypeId} {g : Nat} {cs : List Cl} {T : Nat → Prop} (h : OI w0 ty g cs T w) (j : Nat) : w.frozen? ⟨g, j, none⟩ = false := by
  obtain ⟨vs, h1, _⟩ := h.body
  simp [World.frozen?, h1]
theorem OI.lt {w0 w : World} {ty : TypeId} {g : Nat} {cs : List Cl} {T : Nat → Prop} (h : OI w0 ty g cs T w) : g < w.heap.size := (h.tw g h.tg).2
/-- behind the store of a plain value -/
theorem OI.setV {w0 w : World} {ty : TypeId} {g : Nat} {cs : List Cl} {T : Nat → Prop} (h : OI w0 ty g cs T w) {j : Nat} {x : Value} (hj : cs[j]? = some (.v x)) (y : Value) : OIP w0 ty g (cs.set j (.v y)) T w (w.setCell ⟨g, j, none⟩ y) := by
  obtain ⟨vs, h1, h2, h3, h4⟩ := h.body
  have hk := objKp (w := w) (g := g) (j := j) (v := y)
  have hjl := (List.getElem?_eq_some_iff.1 hj).1
  refine ⟨T, ⟨hk.below h.below (Nat.le_refl _) (fun k e => by subst e; exact (h.tw _ h.tg).1), h.tg, fun k hk => ⟨(h.tw k hk).1, by simpa using (h.tw k hk).2⟩, vs.set j y, objSet h1 y, by simp [h2], fun i c u hc hu => ?_, fun i i' c d u v hne hc hd rc rd hu hv => ?_⟩, hk.mono fun k e => e ▸ h.tg, fun k hk => .inl hk⟩
  · by_cases e : j = i
    · subst e
      rw [List.getElem?_set_self hjl] at hc
      rw [List.getElem?_set_self (by omega)] at hu
      obtain rfl := Option.some.inj hc
      obtain rfl := Option.some.inj hu
      exact ⟨rfl, fun q => by cases q⟩
    · rw [List.getElem?_set_ne e] at hc hu
      obtain ⟨h5, h6⟩ := h3 i c u hc hu
      exact ⟨h5.of fun hr k hk2 => hk.block k (h.tw k (h6 hr k hk2).1).2 (h6 hr k hk2).2, h6⟩
  · have ei : j ≠ i := by
      rintro rfl
      rw [List.getElem?_set_self hjl] at hc
      obtain rfl := Option.some.inj hc
      cases rc
    have ei' : j ≠ i' := by
      rintro rfl
      rw [List.getElem?_set_self hjl] at hd
      obtain rfl := Option.some.inj hd
      cases rd
    rw [List.getElem?_set_ne ei] at hc hu
    rw [List.getElem?_set_ne ei'] at hd hv
    exact h4 i i' c d u v hne hc hd rc rd hu hv
/-- behind a row's change: what the world is behind it, and the store of its value -/
theorem OI.setR {w0 w w4 : World} {ty : TypeId} {g : Nat} {cs : List Cl} {T : Nat → Prop} (h : OI w0 ty g cs T w) {j : Nat} {t : TypeId} {n len : Nat} {vals : List Value} (hj : cs[j]? = some (.r t n len vals)) {v : Value} (hv : w.cell? ⟨g, j, none⟩ = some v)
    {v4 : Value} {len4 : Nat} {vals4 : List Value} (o4 : w4.ownsRow w0.heap.size t n v4 len4 vals4) (g4 : w.grownBy w4 v.ownBlock) (b4 : ∀ k, v4.ownBlock = some k → v.ownBlock = some k ∨ w.heap.size ≤ k) :
    OIP w0 ty g (cs.set j (.r t n len4 vals4)) T w (w4.setCell ⟨g, j, none⟩ v4) := by
  obtain ⟨vs, h1, h2, h3, h4⟩ := h.body
  have hjl := (List.getElem?_eq_some_iff.1 hj).1
  have hvj : vs[j]? = some v := by
    obtain ⟨u, hu⟩ : ∃ u, vs[j]? = some u := ⟨vs[j]'(by omega), List.getElem?_eq_getElem _⟩
    have : w.cell? ⟨g, j, none⟩ = some u := by simp [World.cell?, h1, hu]
    rw [hv] at this
    rw [hu, Option.some.inj this]
  obtain ⟨_, hvT⟩ := h3 j _ v hj hvj
  have hvT := hvT rfl
  have hl := fun k hk => (h.tw k hk).2
  have hgl := hl g h.tg
  have hk4 : Kp w w4 (fun k => v.ownBlock = some k) := ⟨g4.os, g4.tape, g4.output, g4.size, fun k hk hn => g4.block k hk (fun e => hn e.symm)⟩
  have hks := objKp (w := w4) (g := g) (j := j) (v := v4)
  have hkx : Kp w (w4.setCell ⟨g, j, none⟩ v4) (fun k => v.ownBlock = some k ∨ k = g) := (hk4.mono fun k e => .inl e).trans (hks.mono fun k e => .inl (.inr e))
  have hk : Kp w (w4.setCell ⟨g, j, none⟩ v4) T := hkx.mono fun k e => e.elim (fun e => (hvT k e).1) (fun e => e ▸ h.tg)
  have hg4 : w4.heap[g]? = some (.cells vs.toArray ty) := (hk4.block g hgl (fun e => (hvT g e).2 rfl)).trans h1
  have hv4g : v4.ownBlock ≠ some g := fun e => by
    rcases b4 g e with q | q
    · exact (hvT g q).2 rfl
    · omega
  refine ⟨fun k => T k ∨ v4.ownBlock = some k, ⟨hk.below h.below (Nat.le_refl _) (fun k e => (h.tw k e).1), .inl h.tg, fun k hk1 => ?_, vs.set j v4, objSet hg4 v4, by simp [h2], fun i c u hc hu => ?_, fun i i' c d u u' hne hc hd rc rd hu hv' => ?_⟩, hk, fun k hk1 => ?_⟩
  · rcases hk1 with hk1 | hk1
    · exact ⟨(h.tw k hk1).1, Nat.lt_of_lt_of_le (hl k hk1) hk.size⟩
    · have := World.ownsRow.lt o4 k hk1
      exact ⟨this.1, by simpa using this.2⟩
  · by_cases e : j = i
    · subst e
      rw [List.getElem?_set_self hjl] at hc
      rw [List.getElem?_set_self (by omega)] at hu
      obtain rfl := Option.some.inj hc
      obtain rfl := Option.some.inj hu
      refine ⟨ownsRow_of o4 fun k e => hks.block k (World.ownsRow.lt o4 k e).2 (fun e2 => hv4g (by rw [e, e2])), fun _ k hk2 => ⟨.inr hk2, fun e2 => hv4g (by rw [hk2, e2])⟩⟩
    · rw [List.getElem?_set_ne e] at hc hu
      obtain ⟨h5, h6⟩ := h3 i c u hc hu
      refine ⟨h5.of fun hr k hk2 => hkx.block k (hl k (h6 hr k hk2).1) ?_, fun hr k hk2 => ⟨.inl (h6 hr k hk2).1, (h6 hr k hk2).2⟩⟩
      rintro (q | q)
      · exact h4 j i _ c v u e hj hc rfl hr hvj hu k q hk2
      · exact (h6 hr k hk2).2 q
  · intro k hk1 hk2
    by_cases e : j = i
    · subst e
      rw [List.getElem?_set_self (by omega)] at hu
      obtain rfl := Option.some.inj hu
      rw [List.getElem?_set_ne hne] at hd hv'
      obtain ⟨h5, h6⟩ := h3 i' d u' hd hv'
      rcases b4 k hk1 with q | q
      · exact h4 j i' _ d v u' hne hj hd rfl rd hvj hv' k q hk2
      · have := hl k (h6 rd k hk2).1; omega
    · rw [List.getElem?_set_ne e] at hc hu
      by_cases e' : j = i'
      · subst e'
        rw [List.getElem?_set_self (by omega)] at hv'
        obtain rfl := Option.some.inj hv'
        obtain ⟨h5, h6⟩ := h3 i c u hc hu
        rcases b4 k hk2 with q | q
        · exact h4 j i _ c v u e hj hc rfl rc hvj hu k q hk1
        · have := hl k (h6 rc k hk1).1; omega
      · rw [List.getElem?_set_ne e'] at hd hv'
        exact h4 i i' c d u u' hne hc hd rc rd hu hv' k hk1 hk2
  · rcases hk1 with q | q
    · exact .inl q
    · rcases b4 k q with e | e
      · exact .inl (hvT k e).1
      · exact .inr e
/-- an object that was just made -/
theorem OI.made {w0 w : World} {ty : TypeId} {vs : List Value} (hb : Below w0.heap.size w0 w) : OI w0 ty w.heap.size (vs.map Cl.v) (fun k => k = w.heap.size) (w.alloc (.cells vs.toArray ty)) := by
  refine ⟨hb.alloc hb.size _, rfl, fun k e => by subst e; exact ⟨hb.size, by simp⟩, vs, heapNew _ _, by simp, fun j c u hc hu => ?_, fun i j c d u v hne hc hd rc => ?_⟩
  · rw [List.getElem?_map, hu] at hc
    obtain rfl := Option.some.inj hc
    exact ⟨rfl, fun q => by cases q⟩
  · rw [List.getElem?_map] at hc
    obtain ⟨x, _, rfl⟩ := Option.map_eq_some_iff.1 hc
    cases rc
/-- a cell that holds nil is a row -/
theorem OI.nilR {w0 w : World} {ty : TypeId} {g : Nat} {cs : List Cl} {T : Nat → Prop} (h : OI w0 ty g cs T w) {j : Nat} (hj : cs[j]? = some (.v (.slice none 0 0))) (t : TypeId) (n : Nat) : OI w0 ty g (cs.set j (.r t n 0 [])) T w := by
  obtain ⟨vs, h1, h2, h3, h4⟩ := h.body
  have hjl := (List.getElem?_eq_some_iff.1 hj).1
  have hvj : vs[j]? = some (.slice none 0 0) := by
    obtain ⟨u, hu⟩ : ∃ u, vs[j]? = some u := ⟨vs[j]'(by omega), List.getElem?_eq_getElem _⟩
    have : u = .slice none 0 0 := (h3 j _ u hj hu).1
    rw [hu, this]
  refine ⟨h.below, h.tg, h.tw, vs, h1, by simp [h2], fun i c u hc hu => ?_, fun i i' c d u v hne hc hd rc rd hu hv k hk => ?_⟩
  · by_cases e : j = i
    · subst e
      rw [List.getElem?_set_self hjl] at hc
      obtain rfl := Option.some.inj hc
      rw [hvj] at hu
      obtain rfl := Option.some.inj hu
      exact ⟨World.ownsRow_nil _ _ _ _, fun _ k hk => by simp [Value.ownBlock] at hk⟩
    · rw [List.getElem?_set_ne e] at hc
      exact h3 i c u hc hu
  · by_cases e : j = i
    · subst e
      rw [hvj] at hu
      obtain rfl := Option.some.inj hu
      simp [Value.ownBlock] at hk
    · by_cases e' : j = i'
      · subst e'
        rw [hvj] at hv
        obtain rfl := Option.some.inj hv
        simp [Value.ownBlock]
      · rw [List.getElem?_set_ne e] at hc
        rw [List.getElem?_set_ne e'] at hd
        exact h4 i i' c d u v hne hc hd rc rd hu hv k hk
end Go.Proofs.Ythcgnfoijemcbaa
