/- Walks and plain facts that the claim uses. -/
import Derived.Test.YtpheeheikigenaaGreatDoorRB0
import Derived.Maps.OwnSet
import Derived.Maps.StringElems
import Derived.Maps.Views
import Derived.StringKeys
import Derived.Lib.SplitLaws
import Derived.Lib.Bytealg
import Derived.Shelf.Strings.Split
import Derived.Deep.LoopGhost
import Derived.Lib.Join
import Derived.Laws.IdiomStrings
import Derived.BigQuiet
import Derived.Deep.QuietTactic
import Derived.StillTailTactics
import Derived.Sort.OwnSorted
import Derived.Maps.RangeWalk
import Derived.Deep.RegionHeld3
import Derived.Lib.Builder
import Derived.Lib.AppendStr
import Derived.WalkKit
import Derived.Laws.Externs
import Derived.Laws.IdiomCopy
import Derived.Defers
set_option maxRecDepth 100000
set_option maxHeartbeats 16000000
set_option linter.unusedSimpArgs false
set_option linter.unusedVariables false
namespace Go.Proofs.YtpheeheikigenaaGreatDoor
section
open Go.RowKit
inductive Cl where
 | v (x : Value)
 | r (t : TypeId) (n len : Nat) (vals : List Value)
def ClOk (w : World) (base : Nat) : Cl → Value → Prop
 | .v x, u => u = x
 | .r t n len vals, u => w.ownsRow base t n u len vals
def Cl.row : Cl → Bool
 | .v _ => false
 | .r .. => true
def Cl.s (L : List ByteArray) : Cl := .r 9 1 L.length (strVals L)
theorem ownsRow_of {w w' : World} {base : Nat} {t : TypeId} {n len : Nat} {v : Value} {vals : List Value} (h : w.ownsRow base t n v len vals) (hb : ∀ k, v.ownBlock = some k → w'.heap[k]? = w.heap[k]?) : w'.ownsRow base t n v len vals := by
 obtain ⟨h1, h2⟩ := h
 refine ⟨h1, ?_⟩
 rcases h2 with h | ⟨g, cap, cur, rfl, hg, hh, r⟩
 · exact .inl h
 · exact .inr ⟨g, cap, cur, rfl, hg, (hb g rfl).trans hh, r⟩
theorem ClOk.of {w w' : World} {base : Nat} {c : Cl} {u : Value} (h : ClOk w base c u) (hb : c.row = true → ∀ k, u.ownBlock = some k → w'.heap[k]? = w.heap[k]?) : ClOk w' base c u := by
 cases c with
 | v x => exact h
 | r t n len vals => exact ownsRow_of h (hb rfl)
structure OI (w0 : World) (ty : TypeId) (g : Nat) (cs : List Cl) (T : Nat → Prop) (w : World) : Prop where
 below : Below w0.heap.size w0 w
 tg : T g
 tw : ∀ k, T k → w0.heap.size ≤ k ∧ k < w.heap.size
 body : ∃ vs : List Value, w.heap[g]? = some (.cells vs.toArray ty) ∧ vs.length = cs.length ∧
   (∀ (j : Nat) (c : Cl) (u : Value), cs[j]? = some c → vs[j]? = some u → ClOk w w0.heap.size c u ∧ (c.row = true → ∀ k, u.ownBlock = some k → T k ∧ k ≠ g)) ∧
   ∀ (i j : Nat) (c d : Cl) (u v : Value), i ≠ j → cs[i]? = some c → cs[j]? = some d → c.row = true → d.row = true → vs[i]? = some u → vs[j]? = some v → ∀ k, u.ownBlock = some k → v.ownBlock ≠ some k
def OIP (w0 : World) (ty : TypeId) (g : Nat) (cs : List Cl) (T : Nat → Prop) (w w' : World) : Prop := ∃ T', OI w0 ty g cs T' w' ∧ Kp w w' T ∧ ∀ k, T' k → T k ∨ w.heap.size ≤ k
theorem objSet {w : World} {g j : Nat} {vs : List Value} {t : TypeId} (h : w.heap[g]? = some (.cells vs.toArray t)) (v : Value) : (w.setCell ⟨g, j, none⟩ v).heap[g]? = some (.cells (vs.set j v).toArray t) := by
 unfold World.setCell
 simp [Array.getElem?_modify, h]
theorem objKp {w : World} {g j : Nat} {v : Value} : Kp w (w.setCell ⟨g, j, none⟩ v) (fun k => k = g) :=
 ⟨rfl, rfl, rfl, by simp, fun k _ hne => Below.heap_setCell _ _ _ _ (by simpa using hne)⟩
theorem OI.step {w0 w w' : World} {ty : TypeId} {g : Nat} {cs : List Cl} {T : Nat → Prop} (h : OI w0 ty g cs T w) (hb : Below w.heap.size w w') : OI w0 ty g cs T w' := by
 obtain ⟨vs, h1, h2, h3, h4⟩ := h.body
 refine ⟨h.below.trans (hb.mono h.below.size), h.tg, fun k hk => ⟨(h.tw k hk).1, Nat.lt_of_lt_of_le (h.tw k hk).2 hb.size⟩, vs, (hb.block g (h.tw g h.tg).2).trans h1, h2, fun j c u hc hu => ?_, h4⟩
 obtain ⟨h5, h6⟩ := h3 j c u hc hu
 exact ⟨h5.of fun hr k hk => hb.block k (h.tw k (h6 hr k hk).1).2, h6⟩
theorem OI.toP {w0 w w' : World} {ty : TypeId} {g : Nat} {cs : List Cl} {T : Nat → Prop} (h : OI w0 ty g cs T w) (hb : Below w.heap.size w w') : OIP w0 ty g cs T w w' := ⟨T, h.step hb, Kp.of_below hb T, fun _ hk => .inl hk⟩
theorem OIP.trans {w0 w w' w'' : World} {ty : TypeId} {g : Nat} {cs cs' : List Cl} {T : Nat → Prop} (h : OIP w0 ty g cs T w w') (h2 : ∀ T', OI w0 ty g cs T' w' → OIP w0 ty g cs' T' w' w'') : OIP w0 ty g cs' T w w'' := by
 obtain ⟨T', f, k, gr⟩ := h
 obtain ⟨T2, f2, k2, gr2⟩ := h2 T' f
 refine ⟨T2, f2, k.trans (k2.mono gr), fun q hq => ?_⟩
 rcases gr2 q hq with h | h
 · exact gr q h
 · exact .inr (Nat.le_trans k.size h)
theorem OIP.step {w0 w w' w'' : World} {ty : TypeId} {g : Nat} {cs : List Cl} {T : Nat → Prop} (h : OIP w0 ty g cs T w w') (hb : Below w'.heap.size w' w'') : OIP w0 ty g cs T w w'' := h.trans fun _ f => f.toP hb
theorem OIP.after {w0 w w1 w' : World} {ty : TypeId} {g : Nat} {cs : List Cl} {T : Nat → Prop} (hb : Below w.heap.size w w1) (h : OIP w0 ty g cs T w1 w') : OIP w0 ty g cs T w w' := by
 obtain ⟨T', f, k, gr⟩ := h
 exact ⟨T', f, (Kp.of_below hb T).trans (k.mono fun q hq => .inl hq), fun q hq => (gr q hq).imp_right (Nat.le_trans hb.size)⟩
theorem OI.cellV {w0 w : World} {ty : TypeId} {g : Nat} {cs : List Cl} {T : Nat → Prop} (h : OI w0 ty g cs T w) {j : Nat} {x : Value} (hj : cs[j]? = some (.v x)) : w.cell? ⟨g, j, none⟩ = some x := by
 obtain ⟨vs, h1, h2, h3, h4⟩ := h.body
 obtain ⟨u, hu⟩ : ∃ u, vs[j]? = some u := by
   have := (List.getElem?_eq_some_iff.1 hj).1
   exact ⟨vs[j]'(by omega), gE _⟩
 obtain ⟨h5, _⟩ := h3 j _ u hj hu
 have h5' : u = x := h5
 subst h5'
 simp [World.cell?, h1, hu]
theorem OI.cellR {w0 w : World} {ty : TypeId} {g : Nat} {cs : List Cl} {T : Nat → Prop} (h : OI w0 ty g cs T w) {j : Nat} {t : TypeId} {n len : Nat} {vals : List Value} (hj : cs[j]? = some (.r t n len vals)) : ∃ u, w.cell? ⟨g, j, none⟩ = some u ∧ w.ownsRow w0.heap.size t n u len vals ∧ ∀ k, u.ownBlock = some k → T k ∧ k ≠ g := by
 obtain ⟨vs, h1, h2, h3, h4⟩ := h.body
 obtain ⟨u, hu⟩ : ∃ u, vs[j]? = some u := by
   have := (List.getElem?_eq_some_iff.1 hj).1
   exact ⟨vs[j]'(by omega), gE _⟩
 obtain ⟨h5, h6⟩ := h3 j _ u hj hu
 exact ⟨u, by simp [World.cell?, h1, hu], h5, h6 rfl⟩
theorem OI.cellS {w0 w : World} {ty : TypeId} {g : Nat} {cs : List Cl} {T : Nat → Prop} (h : OI w0 ty g cs T w) {j : Nat} {L : List ByteArray} (hj : cs[j]? = some (Cl.s L)) : ∃ A c, w.cell? ⟨g, j, none⟩ = some (.slice A L.length c) ∧ OwnS w w0.heap.size (.slice A L.length c) L ∧ L.length ≤ c ∧ SR w A L ∧ (∀ a, A = some a → T a.block ∧ a.block ≠ g) := by
 obtain ⟨u, h1, h2, h3⟩ := h.cellR hj
 have h4 : OwnS w w0.heap.size u L := h2
 obtain ⟨A, c, rfl, hc, hs, ha⟩ := h4.slice
 exact ⟨A, c, h1, h4, hc, hs, fun a e => h3 _ (ha a e)⟩
theorem OI.free {w0 w : World} {ty : TypeId} {g : Nat} {cs : List Cl} {T : Nat → Prop} (h : OI w0 ty g cs T w) (j : Nat) : w.frozen? ⟨g, j, none⟩ = false := by
 obtain ⟨vs, h1, _⟩ := h.body
 simp [World.frozen?, h1]
theorem OI.lt {w0 w : World} {ty : TypeId} {g : Nat} {cs : List Cl} {T : Nat → Prop} (h : OI w0 ty g cs T w) : g < w.heap.size := (h.tw g h.tg).2
theorem OI.setV {w0 w : World} {ty : TypeId} {g : Nat} {cs : List Cl} {T : Nat → Prop} (h : OI w0 ty g cs T w) {j : Nat} {x : Value} (hj : cs[j]? = some (.v x)) (y : Value) : OIP w0 ty g (cs.set j (.v y)) T w (w.setCell ⟨g, j, none⟩ y) := by
 obtain ⟨vs, h1, h2, h3, h4⟩ := h.body
 have hk := objKp (w := w) (g := g) (j := j) (v := y)
 have hjl := (List.getElem?_eq_some_iff.1 hj).1
 refine ⟨T, ⟨hk.below h.below (Nat.le_refl _) (fun k e => by subst e; exact (h.tw _ h.tg).1), h.tg, fun k hk => ⟨(h.tw k hk).1, by simpa using (h.tw k hk).2⟩, vs.set j y, objSet h1 y, by simp [h2], fun i c u hc hu => ?_, fun i i' c d u v hne hc hd rc rd hu hv => ?_⟩, hk.mono fun k e => e ▸ h.tg, fun k hk => .inl hk⟩
 · by_cases e : j = i
   · subst e
     rw [List.getElem?_set_self hjl] at hc
     rw [List.getElem?_set_self (by omega)] at hu
     obtain rfl := Option.some.inj hc
     obtain rfl := Option.some.inj hu
     exact ⟨rfl, fun q => by cases q⟩
   · rw [List.getElem?_set_ne e] at hc hu
     obtain ⟨h5, h6⟩ := h3 i c u hc hu
     exact ⟨h5.of fun hr k hk2 => hk.block k (h.tw k (h6 hr k hk2).1).2 (h6 hr k hk2).2, h6⟩
 · have ei : j ≠ i := by
     rintro rfl
     rw [List.getElem?_set_self hjl] at hc
     obtain rfl := Option.some.inj hc
     cases rc
   have ei' : j ≠ i' := by
     rintro rfl
     rw [List.getElem?_set_self hjl] at hd
     obtain rfl := Option.some.inj hd
     cases rd
   rw [List.getElem?_set_ne ei] at hc hu
   rw [List.getElem?_set_ne ei'] at hd hv
   exact h4 i i' c d u v hne hc hd rc rd hu hv
theorem OI.setR {w0 w w4 : World} {ty : TypeId} {g : Nat} {cs : List Cl} {T : Nat → Prop} (h : OI w0 ty g cs T w) {j : Nat} {t : TypeId} {n len : Nat} {vals : List Value} (hj : cs[j]? = some (.r t n len vals)) {v : Value} (hv : w.cell? ⟨g, j, none⟩ = some v)
   {v4 : Value} {len4 : Nat} {vals4 : List Value} (o4 : w4.ownsRow w0.heap.size t n v4 len4 vals4) (g4 : w.grownBy w4 v.ownBlock) (b4 : ∀ k, v4.ownBlock = some k → v.ownBlock = some k ∨ w.heap.size ≤ k) :
   OIP w0 ty g (cs.set j (.r t n len4 vals4)) T w (w4.setCell ⟨g, j, none⟩ v4) := by
 obtain ⟨vs, h1, h2, h3, h4⟩ := h.body
 have hjl := (List.getElem?_eq_some_iff.1 hj).1
 have hvj : vs[j]? = some v := by
   obtain ⟨u, hu⟩ : ∃ u, vs[j]? = some u := ⟨vs[j]'(by omega), gE _⟩
   have : w.cell? ⟨g, j, none⟩ = some u := by simp [World.cell?, h1, hu]
   rw [hv] at this
   rw [hu, Option.some.inj this]
 obtain ⟨_, hvT⟩ := h3 j _ v hj hvj
 have hvT := hvT rfl
 have hl := fun k hk => (h.tw k hk).2
 have hgl := hl g h.tg
 have hk4 : Kp w w4 (fun k => v.ownBlock = some k) := ⟨g4.os, g4.tape, g4.output, g4.size, fun k hk hn => g4.block k hk (fun e => hn e.symm)⟩
 have hks := objKp (w := w4) (g := g) (j := j) (v := v4)
 have hkx : Kp w (w4.setCell ⟨g, j, none⟩ v4) (fun k => v.ownBlock = some k ∨ k = g) := (hk4.mono fun k e => .inl e).trans (hks.mono fun k e => .inl (.inr e))
 have hk : Kp w (w4.setCell ⟨g, j, none⟩ v4) T := hkx.mono fun k e => e.elim (fun e => (hvT k e).1) (fun e => e ▸ h.tg)
 have hg4 : w4.heap[g]? = some (.cells vs.toArray ty) := (hk4.block g hgl (fun e => (hvT g e).2 rfl)).trans h1
 have hv4g : v4.ownBlock ≠ some g := fun e => by
   rcases b4 g e with q | q
   · exact (hvT g q).2 rfl
   · omega
 refine ⟨fun k => T k ∨ v4.ownBlock = some k, ⟨hk.below h.below (Nat.le_refl _) (fun k e => (h.tw k e).1), .inl h.tg, fun k hk1 => ?_, vs.set j v4, objSet hg4 v4, by simp [h2], fun i c u hc hu => ?_, fun i i' c d u u' hne hc hd rc rd hu hv' => ?_⟩, hk, fun k hk1 => ?_⟩
 · rcases hk1 with hk1 | hk1
   · exact ⟨(h.tw k hk1).1, Nat.lt_of_lt_of_le (hl k hk1) hk.size⟩
   · have := World.ownsRow.lt o4 k hk1
     exact ⟨this.1, by simpa using this.2⟩
 · by_cases e : j = i
   · subst e
     rw [List.getElem?_set_self hjl] at hc
     rw [List.getElem?_set_self (by omega)] at hu
     obtain rfl := Option.some.inj hc
     obtain rfl := Option.some.inj hu
     refine ⟨ownsRow_of o4 fun k e => hks.block k (World.ownsRow.lt o4 k e).2 (fun e2 => hv4g (by rw [e, e2])), fun _ k hk2 => ⟨.inr hk2, fun e2 => hv4g (by rw [hk2, e2])⟩⟩
   · rw [List.getElem?_set_ne e] at hc hu
     obtain ⟨h5, h6⟩ := h3 i c u hc hu
     refine ⟨h5.of fun hr k hk2 => hkx.block k (hl k (h6 hr k hk2).1) ?_, fun hr k hk2 => ⟨.inl (h6 hr k hk2).1, (h6 hr k hk2).2⟩⟩
     rintro (q | q)
     · exact h4 j i _ c v u e hj hc rfl hr hvj hu k q hk2
     · exact (h6 hr k hk2).2 q
 · intro k hk1 hk2
   by_cases e : j = i
   · subst e
     rw [List.getElem?_set_self (by omega)] at hu
     obtain rfl := Option.some.inj hu
     rw [List.getElem?_set_ne hne] at hd hv'
     obtain ⟨h5, h6⟩ := h3 i' d u' hd hv'
     rcases b4 k hk1 with q | q
     · exact h4 j i' _ d v u' hne hj hd rfl rd hvj hv' k q hk2
     · have := hl k (h6 rd k hk2).1; omega
   · rw [List.getElem?_set_ne e] at hc hu
     by_cases e' : j = i'
     · subst e'
       rw [List.getElem?_set_self (by omega)] at hv'
       obtain rfl := Option.some.inj hv'
       obtain ⟨h5, h6⟩ := h3 i c u hc hu
       rcases b4 k hk2 with q | q
       · exact h4 j i _ c v u e hj hc rfl rc hvj hu k q hk1
       · have := hl k (h6 rc k hk1).1; omega
     · rw [List.getElem?_set_ne e'] at hd hv'
       exact h4 i i' c d u u' hne hc hd rc rd hu hv' k hk1 hk2
 · rcases hk1 with q | q
   · exact .inl q
   · rcases b4 k q with e | e
     · exact .inl (hvT k e).1
     · exact .inr e
theorem OI.made {w0 w : World} {ty : TypeId} {vs : List Value} (hb : Below w0.heap.size w0 w) : OI w0 ty w.heap.size (vs.map Cl.v) (fun k => k = w.heap.size) (w.alloc (.cells vs.toArray ty)) := by
 refine ⟨hb.alloc hb.size _, rfl, fun k e => by subst e; exact ⟨hb.size, by simp⟩, vs, heapNew _ _, by simp, fun j c u hc hu => ?_, fun i j c d u v hne hc hd rc => ?_⟩
 · rw [List.getElem?_map, hu] at hc
   obtain rfl := Option.some.inj hc
   exact ⟨rfl, fun q => by cases q⟩
 · rw [List.getElem?_map] at hc
   obtain ⟨x, _, rfl⟩ := Option.map_eq_some_iff.1 hc
   cases rc
theorem OI.nilR {w0 w : World} {ty : TypeId} {g : Nat} {cs : List Cl} {T : Nat → Prop} (h : OI w0 ty g cs T w) {j : Nat} (hj : cs[j]? = some (.v (.slice none 0 0))) (t : TypeId) (n : Nat) : OI w0 ty g (cs.set j (.r t n 0 [])) T w := by
 obtain ⟨vs, h1, h2, h3, h4⟩ := h.body
 have hjl := (List.getElem?_eq_some_iff.1 hj).1
 have hvj : vs[j]? = some (.slice none 0 0) := by
   obtain ⟨u, hu⟩ : ∃ u, vs[j]? = some u := ⟨vs[j]'(by omega), gE _⟩
   have : u = .slice none 0 0 := (h3 j _ u hj hu).1
   rw [hu, this]
 refine ⟨h.below, h.tg, h.tw, vs, h1, by simp [h2], fun i c u hc hu => ?_, fun i i' c d u v hne hc hd rc rd hu hv k hk => ?_⟩
 · by_cases e : j = i
   · subst e
     rw [List.getElem?_set_self hjl] at hc
     obtain rfl := Option.some.inj hc
     rw [hvj] at hu
     obtain rfl := Option.some.inj hu
     exact ⟨World.ownsRow_nil _ _ _ _, fun _ k hk => by simp [Value.ownBlock] at hk⟩
   · rw [List.getElem?_set_ne e] at hc
     exact h3 i c u hc hu
 · by_cases e : j = i
   · subst e
     rw [hvj] at hu
     obtain rfl := Option.some.inj hu
     simp [Value.ownBlock] at hk
   · by_cases e' : j = i'
     · subst e'
       rw [hvj] at hv
       obtain rfl := Option.some.inj hv
       simp [Value.ownBlock]
     · rw [List.getElem?_set_ne e] at hc
       rw [List.getElem?_set_ne e'] at hd
       exact h4 i i' c d u v hne hc hd rc rd hu hv k hk
end
section
open Go.RowKit
theorem OI.app {w0 w : World} {ty : TypeId} {g : Nat} {cs : List Cl} {T : Nat → Prop} (h : OI w0 ty g cs T w) {j : Nat} {L : List ByteArray} (hj : cs[j]? = some (Cl.s L)) {A : Option Addr} {len c : Nat} (hc : w.cell? ⟨g, j, none⟩ = some (.slice A len c)) (x : ByteArray) (hl : L.length ≤ 1000000) :
   ∃ A4 c4 w4, (Builtin.append_ #[23, 23] 23 #[.slice A len c, .slice (some ⟨w.heap.size, 0, none⟩) 1 1]).run Tryz.prog (w.alloc (.cells #[.string x] 9)) = .ok (.slice A4 (len + 1) c4) w4 ∧
     w4.cell? ⟨g, j, none⟩ = some (.slice A len c) ∧ w4.frozen? ⟨g, j, none⟩ = false ∧ OIP w0 ty g (cs.set j (Cl.s (L ++ [x]))) T w (w4.setCell ⟨g, j, none⟩ (.slice A4 (len + 1) c4)) := by
 obtain ⟨u, h1, h2, h3⟩ := h.cellR hj
 rw [hc] at h1
 obtain rfl := Option.some.inj h1
 have h4 : OwnS w w0.heap.size (.slice A len c) L := h2
 obtain ⟨A', c', e, _, _, _⟩ := h4.slice
 injection e with e1 e2 e3
 have hba : Below w.heap.size w (w.alloc (.cells #[.string x] 9)) := (Below.refl _ _).alloc (Nat.le_refl _) _
 have H1 := h.step hba
 have hcw : (w.alloc (.cells #[.string x] 9)).cell? ⟨g, j, none⟩ = some (.slice A len c) := (hba.cell (p := ⟨g, j, none⟩) h.lt).trans hc
 have hbs := h.below.size
 obtain ⟨v4, w4, r4, o4, g4, b4⟩ := run_appS (c := 1) (OwnS.alloc h4 (.cells #[.string x] 9)) (sr_new w x) (by simp; omega) (by simp; omega)
 obtain ⟨A4, c4, rfl, _, _, _⟩ := o4.slice
 have hln : (L ++ [x]).length = len + 1 := by rw [List.length_append, List.length_singleton, e2]
 have hP := H1.setR hj hcw o4 g4 (fun k hk => by
   rcases b4 with q | q
   · exact .inl (q ▸ hk)
   · rw [q] at hk
     injection hk with hk
     exact .inr (by omega))
 have hgl : g < (w.alloc (.cells #[.string x] 9)).heap.size := H1.lt
 have hgb : w4.heap[g]? = (w.alloc (.cells #[.string x] 9)).heap[g]? := g4.block g hgl (fun q => (h3 g q.symm).2 rfl)
 rw [hln] at r4 hP
 refine ⟨A4, c4, w4, r4, (World.cell?_of_block hgb).trans hcw, (World.frozen?_of_block hgb).trans (H1.free j), ?_⟩
 have : Cl.r 9 1 (len + 1) (strVals (L ++ [x])) = Cl.s (L ++ [x]) := by unfold Cl.s; rw [hln]
 rw [← this]
 exact hP.after hba
theorem OwnS.init {w : World} {b : Nat} {A : Option Addr} {n c : Nat} {L : List ByteArray} {x : ByteArray} (h : OwnS w b (.slice A n c) (L ++ [x])) : OwnS w b (.slice A L.length c) L ∧ L.length ≤ c ∧ ∃ g, A = some ⟨g, 0, none⟩ := by
 rcases h.2 with ⟨_, hn⟩ | ⟨g, cap, cur, e, hb, hh, hc, hm, hs, ht⟩
 · simp at hn
 · injection e with e1 e2 e3
   subst e1 e3
   rw [List.length_append, List.length_singleton] at hc ht
   refine ⟨⟨by simp [strVals], .inr ⟨g, c, cur, rfl, hb, hh, by omega, hm, hs, ?_⟩⟩, by omega, g, rfl⟩
   have : List.take (L.length * 1) (List.take ((L.length + 1) * 1) cur.toList) = List.take (L.length * 1) (strVals (L ++ [x])) := by rw [ht]
   rw [List.take_take, Nat.min_eq_left (by omega)] at this
   rw [this]
   simp [strVals]
theorem OI.popS {w0 w : World} {ty : TypeId} {g : Nat} {cs : List Cl} {T : Nat → Prop} (h : OI w0 ty g cs T w) {j : Nat} {L : List ByteArray} {x : ByteArray} (hj : cs[j]? = some (Cl.s (L ++ [x]))) : ∃ gA c, w.cell? ⟨g, j, none⟩ = some (.slice (some ⟨gA, 0, none⟩) (L.length + 1) c) ∧ L.length + 1 ≤ c ∧ OIP w0 ty g (cs.set j (Cl.s L)) T w (w.setCell ⟨g, j, none⟩ (.slice (some ⟨gA, 0, none⟩) L.length c)) := by
 obtain ⟨A, c, h1, h2, h3, _, _⟩ := h.cellS hj
 obtain ⟨h4, h5, gA, rfl⟩ := h2.init
 rw [List.length_append, List.length_singleton] at h1 h3
 refine ⟨gA, c, h1, h3, h.setR hj h1 h4 ⟨rfl, rfl, rfl, Nat.le_refl _, fun _ _ _ => rfl⟩ fun k hk => .inl hk⟩
theorem OIP.self {w0 w : World} {ty : TypeId} {g : Nat} {cs : List Cl} {T : Nat → Prop} (h : OI w0 ty g cs T w) : OIP w0 ty g cs T w w := h.toP (Below.refl _ _)
end
section
open Go.RowKit Go.Deep Go.Maps Ln Pth Vf
structure En where
 A : Option Addr
 c : Nat
 nd : Nd
def hR (v : Value) : Option (DataW Value × List MemPlace) := some (.held v, [])
def encN (e : En) : Value := .agg #[.bool e.nd.dir, .slice e.A e.nd.data.length e.c, .int .i64 e.nd.time]
def fN (e : En) : DataW Value := .held (encN e)
def zN : Value := .agg #[.bool false, .slice none 0 0, .int .i64 0]
def valN : Option En → Value
 | none => zN
 | some e => encN e
def MapN (w : World) (b : Nat) (P : KV En) : Prop := w.ownsMap Tryz.prog 9 hR b P.length (datG fN P)
theorem nkeyed : Keyed Tryz.prog 9 := string_keyed Tryz.underlying9
theorem nzero (w : World) : (zeroValue 96).run Tryz.prog w = .ok zN w := by kernel_rfl
theorem nkey {s : ByteArray} (h : s.size ≤ 9223372036854775807) : keyOf Tryz.prog 9 (.string s) = some (kLit s) := Go.WideMaps.keyOf_string_mk Tryz.underlying9 (by unfold maxLen; omega)
theorem own_tightN {w : World} {b n : Nat} {P : KV En} (h : w.ownsMap Tryz.prog 9 hR b n (datG fN P)) : MapN w b P := by
 obtain ⟨es, clock, h1, h2, h3, h4⟩ := h
 refine ⟨es, clock, h1, h2, ?_, h4⟩
 have := congrArg Maps.size h4
 rw [datG_size] at this
 rw [this]
 simp [Maps.size, length_sorted]
theorem MapN.of {w w' : World} {b : Nat} {P : KV En} (h : MapN w b P) (hb : w'.heap[b]? = w.heap[b]?) : MapN w' b P := by
 obtain ⟨es, clock, h1, h2⟩ := h
 exact ⟨es, clock, hb.trans h1, h2⟩
theorem nat_val {P : KV En} {s : ByteArray} {v : Value} {ps : List MemPlace} (h : hR v = some ((datG fN P).atKey (kLit s) (.held zN), ps)) : v = valN (getG P s) := by
 unfold hR at h
 rw [datG_at] at h
 cases hg : getG P s with
 | none => rw [hg] at h; injection h with h; injection h with h1 h2; injection h1
 | some e => rw [hg] at h; injection h with h; injection h with h1 h2; unfold fN at h1; injection h1
theorem nlook {w : World} {b : Nat} {P : KV En} (h : MapN w b P) {s : ByteArray} (hs : s.size ≤ 9223372036854775807) :
   (Instr.lookup 86 (.map (some b)) (.string s) true).run Tryz.prog w = .ok (.tuple #[valN (getG P s), .bool (getG P s).isSome]) w := by
 obtain ⟨v, ps, hrun, hv⟩ := h.look_ok nkeyed Tryz.underlying86 (nzero w) (zd := .held zN) (zp := []) rfl (nkey hs)
 rw [hrun, nat_val hv, datG_has]
theorem nlook1 {w : World} {b : Nat} {P : KV En} (h : MapN w b P) {s : ByteArray} (hs : s.size ≤ 9223372036854775807) :
   (Instr.lookup 86 (.map (some b)) (.string s) false).run Tryz.prog w = .ok (valN (getG P s)) w := by
 obtain ⟨v, ps, hrun, hv⟩ := h.lookup nkeyed Tryz.underlying86 (nzero w) (zd := .held zN) (zp := []) rfl (nkey hs)
 rw [hrun, nat_val hv]
def stripN (P : KV En) : Mp := P.map fun x => (x.1, x.2.nd)
theorem strip_get (P : KV En) (n : ByteArray) : getG (stripN P) n = (getG P n).map (·.nd) := by
 unfold stripN
 induction P with
 | nil => rfl
 | cons y P ih => rw [List.map_cons, getG_cons, getG_cons, ih]; split <;> rfl
def VS (g : Nat) (S : St) : AsnN := fun T N w => ∃ (b : Nat) (P : KV En), T g ∧ T b ∧ g ≠ b ∧
 w.heap[g]? = some (.cells #[.map (some b), .int .i64 S.nodes, .int .i64 S.bytes, .int .i64 S.used, .int .i64 S.clock] 88) ∧
 MapN w b P ∧ S.m = stripN P ∧ ∀ x ∈ P, RG encB 1 w x.2.A x.2.nd.data ∧ ∀ a, x.2.A = some a → N a.block
theorem VS.fr (g : Nat) (S : St) : FrN (VS g S) := by
 rintro T N N' w w' ⟨b, P, h1, h2, h3, h4, h5, h6, h7⟩ hb hn hs
 exact ⟨b, P, h1, h2, h3, (hb g (.inl h1)).trans h4, h5.of (hb b (.inl h2)), h6, fun x hx => ⟨(h7 x hx).1.of hs (fun a e _ => hb a.block (.inr ((h7 x hx).2 a e))), fun a e => hn _ ((h7 x hx).2 a e)⟩⟩
def Hs (A : AsnN) (w : World) : Prop := ∃ T N, A T N w ∧ OkTN T N w
theorem Hs.below {A : AsnN} (hA : FrN A) {w w' : World} (h : Hs A w) (hb : Below w.heap.size w w') : Hs A w' := by
 obtain ⟨T, N, a, ok⟩ := h
 exact ⟨T, N, hA T N N w w' a (fun k hk => hb.block k (hk.elim (fun h => (ok.1 k h).1) (ok.2 k))) (fun _ h => h) hb.size, (GrowN.refl ok hb.size).2.2.2⟩
theorem VS.opn {g : Nat} {S : St} {w : World} (h : Hs (VS g S) w) : ∃ (b : Nat) (P : KV En), g ≠ b ∧
   w.heap[g]? = some (.cells #[.map (some b), .int .i64 S.nodes, .int .i64 S.bytes, .int .i64 S.used, .int .i64 S.clock] 88) ∧ MapN w b P ∧ S.m = stripN P ∧ ∀ x ∈ P, RG encB 1 w x.2.A x.2.nd.data := by
 obtain ⟨T, N, ⟨b, P, h1, h2, h3, h4, h5, h6, h7⟩, ok⟩ := h
 exact ⟨b, P, h3, h4, h5, h6, fun x hx => (h7 x hx).1⟩
theorem cellOf {w : World} {g : Nat} {cs : Array Value} {t : TypeId} (h : w.heap[g]? = some (.cells cs t)) {j : Nat} {v : Value} (hj : cs[j]? = some v) : w.cell? ⟨g, j, none⟩ = some v := by
 simpa [World.cell?, h] using hj
end
section
open Go.RowKit Ln
theorem splitK_spl (c : UInt8) : ∀ (k : Nat) (s : T), s.count c = k → Lib.splitK [c] 0 k s = spl c s
 | 0, s, h => by
   rw [Lib.splitK, spl_none (by rw [← List.count_eq_zero]; exact h)]
 | k + 1, s, h => by
   have hm : c ∈ s := List.count_pos_iff.1 (by omega)
   obtain ⟨a, b, rfl, ha⟩ := List.eq_append_cons_of_mem hm
   have hi : Lib.indexByte (a ++ c :: b) c = (a.length : Int) := by
     clear h hm
     induction a with
     | nil => simp [Lib.indexByte]
     | cons x a ih =>
       have hx : x ≠ c := fun e => ha (by simp [e])
       have ih := ih (fun hc => ha (by simp [hc]))
       rw [List.cons_append, Lib.indexByte, if_neg (by simpa using hx), ih]
       have : ((a.length : Int) == -1) = false := by simp
       rw [this]
       simp
   have hne : ((a.length : Int) == -1) = false := by simp
   have hcnt : b.count c = k := by
     rw [List.count_append, List.count_cons_self, List.count_eq_zero.2 ha] at h
     omega
   rw [Lib.splitK, Lib.index_one, hi, hne]
   simp only [Bool.false_eq_true, if_false, Int.toNat_natCast, Nat.add_zero, List.length_cons, List.length_nil]
   rw [spl_app b ha, List.take_left, show (a ++ c :: b).drop (a.length + (0 + 1)) = b from by rw [← List.drop_drop]; simp, splitK_spl c k b hcnt]
theorem split_bs (c : UInt8) (l : T) : Lib.splitB ⟨#[c]⟩ 0 (Lib.countB (bs l) ⟨#[c]⟩) (bs l) = (spl c l).map bs := by
 have h := Lib.splitB_data ⟨#[c]⟩ 0 (Lib.countB (bs l) ⟨#[c]⟩) (bs l)
 rw [bs_list] at h
 have hc : Lib.countB (bs l) ⟨#[c]⟩ = l.count c := by
   show Lib.count (bs l).data.toList [c] = _
   rw [bs_list]
   exact Lib.count_one c l
 rw [hc] at h ⊢
 rw [show (⟨#[c]⟩ : ByteArray).data.toList = [c] from rfl, splitK_spl c _ l rfl] at h
 rw [← h, List.map_map]
 conv => lhs; rw [← List.map_id (Lib.splitB _ _ _ _)]
 apply List.map_congr_left
 intro x _
 exact (bs_of x).symm
def MX (w : World) : Prop := ∃ m, w.cell? ⟨0, 0, none⟩ = some (.int .i64 m)
theorem MX.below {w w' : World} (h : MX w) (hb : Below w.heap.size w w') : MX w' := by
 obtain ⟨m, hm⟩ := h
 exact ⟨m, (hb.cell (p := ⟨0, 0, none⟩) (World.block_lt_of_cell? w _ hm)).trans hm⟩
end
section
open Go.RowKit Go.Deep
def IdxPost (p : ByteArray → Bool) (L : List ByteArray) (w : World) (e : Ending) (w' : World) : Prop := ∃ i : Int, e = .returned (.int .i64 i) ∧ decide (0 ≤ i) = L.any p ∧ Below w.heap.size w w'
theorem idxf_any (p : ByteArray → Bool) (g : Nat) (lb : Array Value) (eg : ∀ args w, (callFunc g args).run Tryz.prog w = .ok (.enter g args) w) (A : Option Addr) (c : Nat) (L : List ByteArray) (w : World) (hl : L.length ≤ 100000000) (hA : SR w A L)
   (hf : ∀ (W : World) (x : ByteArray), x ∈ L → Below w.heap.size w W → Calls Tryz.prog g (#[.string x] ++ lb) W fun e w' => e = .returned (.bool (p x)) ∧ Below w.heap.size w w') :
   Calls Tryz.prog 106 #[.slice A L.length c, .func (.func g) #[] lb] w (IdxPost p L w) := by
 have HA := hide hA
 have HF := hide hf
 clear hA hf
 obtain ⟨n, hn⟩ : ∃ n, L.length = n := ⟨_, rfl⟩
 have HN := hide hn
 rw [hn] at hl ⊢
 clear hn
 have hn1 : (n : Int) ≤ 100000000 := by omega
 go_enter Tryz.func106, Tryz.ntmps106
 go_wp2
 go_loopw [5, 8] (fun _v5 v8 wr => ∃ k : Nat, v8 = .int .i64 k ∧ k ≤ n ∧ Hid ((L.take k).any p = false) ∧ Below w.heap.size w wr) (fun _ v8 _ => n - (intOf v8).toNat)
 case atStart => exact ⟨0, rfl, by omega, rfl, Below.refl _ _⟩
 case round =>
   obtain ⟨k, rfl, hk, HP, hb⟩ := hrel
   have HB := hide hb
   have HAR := hide (HA.out.below hb)
   clear hb
   by_cases hlt : k < n
   · obtain ⟨x, hx⟩ : ∃ x, L[k]? = some x := ⟨L[k]'(by have := HN.out; omega), gE _⟩
     obtain ⟨gs, o, rfl, hg, hc⟩ := HAR.out k x hx
     have hcall := HF.out wr x (List.mem_of_getElem? hx) HB.out
     have b1 : (k : Int) < (n : Int) := by omega
     have HX := hide hx
     clear hx
     obtain ⟨pb, hpb⟩ : ∃ b, p x = b := ⟨_, rfl⟩
     rw [hpb] at hcall
     have HPB := hide hpb
     clear hpb
     have HC := hide hcall
     clear hcall
     go_wp2_with fail
     refine HC.out.mono ?_
     rintro e w' ⟨rfl, hb'⟩
     have HB' := hide hb'
     clear hb'
     cases pb with
     | true =>
       go_wp2
       go_ret
       refine ⟨_, rfl, ?_, HB'.out⟩
       have : L.any p = true := List.any_eq_true.2 ⟨x, List.mem_of_getElem? HX.out, HPB.out⟩
       rw [this]
       simp
     | false =>
       go_wp2
       go_roundw
       case rel =>
         refine ⟨k + 1, by go_num, by omega, ?_, HB'.out⟩
         show (L.take (k + 1)).any p = false
         rw [List.take_add_one, List.any_append, HP.out, HX.out]
         simpa using HPB.out
       case measure => simp [intOf]; omega
   · obtain rfl : k = n := by omega
     have HE := hide (show L.any p = false by
       have := HP.out
       rwa [List.take_of_length_le (by have := HN.out; omega)] at this)
     go_wp2
     go_ret
     exact ⟨_, rfl, by rw [HE.out]; rfl, HB.out⟩
theorem contf_any (p : ByteArray → Bool) (g : Nat) (lb : Array Value) (eg : ∀ args w, (callFunc g args).run Tryz.prog w = .ok (.enter g args) w) (A : Option Addr) (c : Nat) (L : List ByteArray) (w : World) (hl : L.length ≤ 100000000) (hA : SR w A L)
   (hf : ∀ (W : World) (x : ByteArray), x ∈ L → Below w.heap.size w W → Calls Tryz.prog g (#[.string x] ++ lb) W fun e w' => e = .returned (.bool (p x)) ∧ Below w.heap.size w w') :
   Calls Tryz.prog 103 #[.slice A L.length c, .func (.func g) #[] lb] w fun e w' => e = .returned (.bool (L.any p)) ∧ Below w.heap.size w w' := by
 have HI := hide (idxf_any p g lb eg A c L w hl hA hf)
 clear hA hf
 obtain ⟨n, hn⟩ : ∃ n, L.length = n := ⟨_, rfl⟩
 rw [hn] at HI ⊢
 clear hn hl
 obtain ⟨b, hb⟩ : ∃ b, L.any p = b := ⟨_, rfl⟩
 unfold IdxPost at HI
 rw [hb] at HI ⊢
 clear hb
 go_enter Tryz.func103, Tryz.ntmps103
 go_wp2_with fail
 refine HI.out.mono ?_
 rintro e w' ⟨i, rfl, hi, hb'⟩
 have HI2 := hide hi
 have HB := hide hb'
 clear hi hb'
 go_wp2
 go_ret
 refine ⟨?_, HB.out⟩
 rw [← HI2.out]
 rfl
end
section
open Go.RowKit Go.Deep Ln Pth
attribute [local go_sem] bt_eq
theorem OwnS.take {w : World} {base : Nat} {A : Option Addr} {n c : Nat} {L : List ByteArray} (h : OwnS w base (.slice A n c) L) {k : Nat} (hk : k ≤ L.length) : OwnS w base (.slice A k c) (L.take k) := by
 obtain ⟨h1, h2⟩ := h
 have hl : (L.take k).length = k := by rw [List.length_take]; omega
 refine ⟨by unfold strVals; simp, ?_⟩
 rw [hl]
 rcases h2 with ⟨h3, h4⟩ | ⟨g, cap, cur, h3, h4, h5, h6, h7, h8, h9⟩
 · injection h3 with e1 e2 e3
   subst e1 e3
   obtain rfl : k = 0 := by omega
   exact .inl ⟨rfl, rfl⟩
 · injection h3 with e1 e2 e3
   subst e1 e3
   refine .inr ⟨g, c, cur, rfl, h4, h5, by omega, h7, h8, ?_⟩
   unfold strVals at h9 ⊢
   rw [List.map_take, ← h9, List.take_take]
   congr 1
   omega
theorem OwnS.base {w : World} {base base' : Nat} {v : Value} {L : List ByteArray} (h : OwnS w base v L) (hb : base' ≤ base) : OwnS w base' v L :=
 ⟨h.1, h.2.imp id fun ⟨g, cap, cur, e, hg, r⟩ => ⟨g, cap, cur, e, by omega, r⟩⟩
theorem SR.newL (w : World) (L : List ByteArray) (t : TypeId) : SR (w.alloc (.cells (L.map Value.string).toArray t)) (some ⟨w.heap.size, 0, none⟩) L := fun k x hk => by
 refine ⟨_, _, rfl, by simp, ?_⟩
 have h := heapNew w (.cells (L.map Value.string).toArray t)
 unfold World.cell?
 rw [h]
 simp [hk]
theorem OwnS.newL (w : World) (L : List ByteArray) {base : Nat} (hb : base ≤ w.heap.size) (hl : L.length ≤ 66000000) : OwnS (w.alloc (.cells (L.map Value.string).toArray 9)) base (.slice (some ⟨w.heap.size, 0, none⟩) L.length L.length) L := by
 refine ⟨by unfold strVals; simp, .inr ⟨_, _, _, rfl, hb, heapNew w _, Nat.le_refl _, by unfold maxLen; omega, by simp, ?_⟩⟩
 unfold strVals
 rw [Nat.mul_one, List.take_of_length_le (by simp)]
theorem split_cnt (l : T) (c : UInt8) : Lib.countB (bs l) ⟨#[c]⟩ + 1 = ((spl c l).map bs).length := by
 have := congrArg List.length (split_bs c l)
 rw [Lib.splitB_all _ (by simp [ByteArray.size]) 0 _ _ rfl] at this
 exact this
theorem split_any (l : T) (c : UInt8) (w : World) (hm : MX w) (h : l.length ≤ 66000000) :
   Calls Tryz.prog 51 #[.string (bs l), .string ⟨#[c]⟩] w fun e w' => e = .returned (.slice (some ⟨w.heap.size, 0, none⟩) ((spl c l).map bs).length ((spl c l).map bs).length) ∧ w.alloc (.cells (((spl c l).map bs).map Value.string).toArray 9) = w' := by
 obtain ⟨mx, hmx⟩ := hm
 have := Tryz.strings_Split (bs l) ⟨#[c]⟩ mx w (by rw [bs_size]; omega) hmx (by simp [ByteArray.size])
 rw [split_cnt, split_bs] at this
 exact this.mono fun e w' ⟨h1, h2⟩ => ⟨h1, h2.symm⟩
theorem pre_slash (p : T) : Lib.hasPrefix (bs p).data.toList [47] = decide (p.head? = some 47) := by
 rw [bs_list]
 unfold Lib.hasPrefix
 cases p with
 | nil => rfl
 | cons c p =>
   rw [Bool.eq_iff_iff]
   simp only [List.isPrefixOf, List.head?_cons, Option.some.injEq, decide_eq_true_eq, Bool.and_eq_true, beq_iff_eq, and_true]
   exact eq_comm
theorem foldl_take {k : Nat} {L : List T} {x : T} (h : L[k]? = some x) : (L.take (k + 1)).foldl stepP [] = stepP ((L.take k).foldl stepP []) x := by
 rw [List.take_add_one, h, List.foldl_append]; rfl
theorem parts_any (cwd p : T) (w : World) (hm : MX w) (h1 : cwd.length ≤ 6600000) (h2 : p.length ≤ 6600000) :
   Calls Tryz.prog 102 #[.string (bs cwd), .string (bs p)] w fun e w' => (∃ v, e = .returned v ∧ OwnS w' w.heap.size v ((partsF cwd p).map bs)) ∧ Below w.heap.size w w' := by
 have HSP := hide (fun W h => split_any p 47 W h (by omega))
 have HSC := hide (fun W h => split_any cwd 47 W h (by omega))
 have HPR := hide (fun W => (Tryz.strings_HasPrefix (bs p) ⟨#[47]⟩ W).mono fun e w' ⟨h1, h2⟩ => (⟨h1, h2.symm⟩ : _ ∧ W = w'))
 rw [show (⟨#[47]⟩ : ByteArray).data.toList = [47] from rfl, pre_slash] at HPR
 have hl1 := spl_len 47 p
 have hl2 := spl_len 47 cwd
 have HM := hide hm
 obtain ⟨R, hR⟩ : ∃ R, partsF cwd p = R := ⟨_, rfl⟩
 have HRR := hide hR
 unfold partsF at hR
 obtain ⟨LP, hLP⟩ : ∃ L, (spl 47 p).map bs = L := ⟨_, rfl⟩
 obtain ⟨LC, hLC⟩ : ∃ L, (spl 47 cwd).map bs = L := ⟨_, rfl⟩
 have hlp : LP.length ≤ 6600001 := by rw [← hLP, List.length_map]; omega
 have hlc : LC.length ≤ 6600001 := by rw [← hLC, List.length_map]; omega
 have HLP := hide hLP
 have HLC := hide hLC
 rw [hLP] at HSP
 rw [hLC] at HSC
 clear hm hl1 hl2 hLP hLC
 by_cases hh : p.head? = some 47
 all_goals first
   | (rw [decide_eq_true hh] at HPR
      rw [if_pos hh] at hR
      have HR := hide hR
      clear hR hh
      go_enter Tryz.func102, Tryz.ntmps102
      go_wp2_with fail
      refine (HSP.out w HM.out).mono ?_
      rintro e w1 ⟨rfl, rfl⟩
      go_wp2_with fail
      refine (HPR.out _).mono ?_
      rintro e w' ⟨rfl, rfl⟩
      have HA := hide (SR.newL w LP 9)
      have HB := hide ((Below.refl w.heap.size w).alloc (Nat.le_refl _) (.cells (LP.map Value.string).toArray 9))
      have HFULL := hide (show ∃ M : List T, M.map bs = LP ∧ M.foldl stepP [] = R from ⟨_, HLP.out, HR.out⟩)
      obtain ⟨n, hn⟩ : ∃ n, LP.length = n := ⟨_, rfl⟩
      have hn2 : n ≤ 19800000 := by omega
      have HN := hide hn
      rw [hn]
      go_wp2
      generalize (some ⟨w.heap.size, 0, none⟩ : Option Addr) = A at HA ⊢
      generalize w.alloc (.cells (LP.map Value.string).toArray 9) = W at HA HB ⊢
      generalize LP = LL at HA HFULL HN)
   | (rw [decide_eq_false hh] at HPR
      rw [if_neg hh] at hR
      have HR := hide hR
      clear hR hh
      go_enter Tryz.func102, Tryz.ntmps102
      go_wp2_with fail
      refine (HSP.out w HM.out).mono ?_
      rintro e w1 ⟨rfl, rfl⟩
      have HA0 := hide (SR.newL w LP 9)
      have hb0 := (Below.refl w.heap.size w).alloc (Nat.le_refl _) (.cells (LP.map Value.string).toArray 9)
      have HB0 := hide hb0
      have HM0 := hide (HM.out.below hb0)
      clear hb0
      go_wp2_with fail
      refine (HPR.out _).mono ?_
      rintro e w' ⟨rfl, rfl⟩
      generalize (some ⟨w.heap.size, 0, none⟩ : Option Addr) = A0 at HA0 ⊢
      generalize w.alloc (.cells (LP.map Value.string).toArray 9) = W0 at HA0 HB0 HM0 ⊢
      go_wp2_with fail
      refine (HSC.out W0 HM0.out).mono ?_
      rintro e w' ⟨rfl, rfl⟩
      have hb1 := (Below.refl W0.heap.size W0).alloc (Nat.le_refl _) (.cells (LC.map Value.string).toArray 9)
      obtain ⟨v, W, hrun, ho, hg, hv⟩ := run_appS (c := LP.length) (OwnS.newL W0 LC (Nat.le_refl _) (by omega)) (HA0.out.below hb1) (by simp) (by omega)
      obtain ⟨A, c, rfl, hlc2, hsr, _⟩ := OwnS.slice ho
      have HA := hide hsr
      have HB := hide (below_up HB0.out (hb1.trans ((Below.refl W0.heap.size _).grown hg (by simp) (fun q hq => by
        injection hq with hq; rw [← hq]; exact Nat.le_refl _))) HB0.out.size)
      have HFULL := hide (show ∃ M : List T, M.map bs = LC ++ LP ∧ M.foldl stepP [] = R from ⟨_, by rw [List.map_append, HLC.out, HLP.out], HR.out⟩)
      have hn2 : (LC ++ LP).length ≤ 19800000 := by rw [List.length_append]; omega
      generalize LC ++ LP = LL at HA HFULL hrun hn2 hlc2
      clear ho hg hv hsr hb1
      go_wp2_with (at_builtin; refine wpList_app_run ?_ (.tmp 15) (.tmp 16) ?_ ?_ ?_ ?_ hrun ?_; exact rfl; exact rfl; exact rfl; exact rfl; exact rfl)
      obtain ⟨n, hn⟩ : ∃ n, LL.length = n := ⟨_, rfl⟩
      rw [hn] at hn2 ⊢
      have HN := hide hn
      clear hrun hlc2 hn)
 all_goals
   clear HSP HSC HPR HM HLP HLC
   obtain ⟨M, hM, hfull⟩ := HFULL.out
   have HFL := hide hfull
   have HMM := hide hM
   clear hM hfull HFULL
   have hn3 : (n : Int) ≤ 19800000 := by omega
   have HML := hide (show M.length = n by have := HN.out; rw [← HMM.out, List.length_map] at this; exact this)
   go_loopw [6, 20] (fun v6 v20 wr => ∃ k : Nat, v20 = .int .i64 k ∧ k ≤ n ∧ OwnS wr W.heap.size v6 (((M.take k).foldl stepP []).map bs) ∧ Below W.heap.size W wr) (fun _ v20 _ => n - (intOf v20).toNat)
   case atStart => exact ⟨0, rfl, by omega, OwnS.nil _ _, Below.refl _ _⟩
   case round =>
     obtain ⟨k, rfl, hk, ho, hbw⟩ := hrel
     have HO := hide ho
     have HAR := hide (HA.out.below hbw)
     have HBW := hide hbw
     clear ho hbw
     by_cases hlt : k < n
     · obtain ⟨x, hx⟩ : ∃ x, M[k]? = some x := ⟨M[k]'(by have := HML.out; omega), gE _⟩
       obtain ⟨g, o, rfl, hg, hc⟩ := HAR.out k (bs x) (by rw [← HMM.out, List.getElem?_map, hx]; rfl)
       have HT := hide (foldl_take hx)
       have b1 : (k : Int) < (n : Int) := by omega
       have hql : ((M.take k).foldl stepP []).length ≤ 19800000 := by
         have := foldl_len (M.take k) []
         rw [List.length_take, List.length_nil] at this
         omega
       clear hx
       generalize (M.take k).foldl stepP [] = Q at HO HT hql
       by_cases e1 : x = []
       · subst e1
         have hem : (bs ([] : T)).toList.isEmpty = true := by rw [bs_toList]; rfl
         go_wp2
         go_roundw
         case rel => exact ⟨k + 1, by go_num, by omega, by rw [HT.out, stepP, if_pos (.inl rfl)]; exact HO.out, HBW.out⟩
         case measure => simp [intOf]; omega
       by_cases e2 : x = [46]
       · subst e2
         have hem : (bs ([46] : T)).toList.isEmpty = false := by rw [bs_toList]; rfl
         have h46 : ((bs ([46] : T)).toList == [46]) = true := by rw [bs_toList]; rfl
         go_wp2
         go_roundw
         case rel => exact ⟨k + 1, by go_num, by omega, by rw [HT.out, stepP, if_pos (.inr rfl)]; exact HO.out, HBW.out⟩
         case measure => simp [intOf]; omega
       have hem : (bs x).toList.isEmpty = false := by rw [bs_toList]; cases x; exact absurd rfl e1; rfl
       have h46 : ((bs x).toList == [46]) = false := by rw [bs_toList]; simpa using e2
       by_cases e3 : x = [46, 46]
       · subst e3
         have h4646 : ((bs ([46, 46] : T)).toList == [46, 46]) = true := by rw [bs_toList]; rfl
         obtain ⟨A2, c2, rfl, hc2, hs2, _⟩ := HO.out.slice
         rw [List.length_map] at hc2 HO ⊢
         have hdl : (Q.dropLast.map bs) = (Q.map bs).take (Q.length - 1) := by rw [List.dropLast_eq_take, List.map_take]
         have HO2 := hide (HO.out.take (k := Q.length - 1) (by simp))
         rw [← hdl] at HO2
         clear hs2 hdl
         obtain ⟨m, hm⟩ : ∃ m, Q.length = m := ⟨_, rfl⟩
         rw [hm] at hc2 HO HO2 hql ⊢
         clear hm HO
         cases m with
         | zero =>
           go_wp2
           go_roundw
           case rel => exact ⟨k + 1, by go_num, by omega, by rw [HT.out, stepP, if_neg (by simp), if_pos rfl]; exact HO2.out, HBW.out⟩
           case measure => simp [intOf]; omega
         | succ m =>
           have hm1 : (m : Int) ≤ 19800000 := by omega
           have hm2 : max (0 : Int) (m : Int) = m := by omega
           go_wp2
           go_roundw
           case rel => exact ⟨k + 1, by go_num, by omega, by rw [HT.out, stepP, if_neg (by simp), if_pos rfl]; exact HO2.out, HBW.out⟩
           case measure => simp [intOf]; omega
       · have h4646 : ((bs x).toList == [46, 46]) = false := by rw [bs_toList]; simpa using e3
         have hb0 : W.heap.size ≤ wr.heap.size := HBW.out.size
         obtain ⟨v4, w4, r4, o4, g4, b4⟩ := run_appS (c := 1) (OwnS.alloc HO.out (.cells #[.string (bs x)] 9)) (sr_new wr (bs x)) (by simp; omega) (by simp; omega)
         have HO4 := hide o4
         have HB4 := hide ((HBW.out.alloc hb0 (.cells #[.string (bs x)] 9)).trans ((Below.refl W.heap.size _).grown g4 (by simp; omega) (fun q hq => (World.ownsRow.lt HO.out q hq).1)))
         clear o4 g4 b4
         go_wp2_with (at_builtin; refine wpList_app_run ?_ (.tmp 25) (.tmp 27) ?_ ?_ ?_ ?_ r4 ?_; exact rfl; exact rfl; exact rfl; exact rfl; exact rfl)
         go_roundw
         case rel => exact ⟨k + 1, by go_num, by omega, by rw [HT.out, stepP, if_neg (by simp [e1, e2]), if_neg e3, List.map_append]; exact HO4.out, HB4.out⟩
         case measure => simp [intOf]; omega
     · obtain rfl : k = n := by omega
       have HF := hide (show (M.take k).foldl stepP [] = R by rw [List.take_of_length_le (by have := HML.out; omega)]; exact HFL.out)
       rw [HF.out] at HO
       go_wp2
       go_ret
       refine ⟨⟨_, rfl, ?_⟩, below_up HB.out HBW.out HB.out.size⟩
       rw [HRR.out]
       exact HO.out.base HB.out.size
end
section
open Go.RowKit Go.Deep Ln Pth
attribute [local go_sem] bt_eq
theorem join_slashed : ∀ l : List T, 47 :: Lib.join l [47] = joinF l
 | [] => rfl
 | s :: l => by
   rw [joinF, if_neg (by simp)]
   induction l generalizing s with
   | nil => rw [Lib.join_one]; simp [slashed]
   | cons t l ih =>
     have := ih t
     rw [slashed_cons' , ← this]
     simp [Lib.join, List.intercalate]
where
 slashed_cons' {s : T} {r : List T} : slashed (s :: r) = 47 :: (s ++ slashed r) := by simp [slashed]
theorem pjoin_any (A : Option Addr) (c : Nat) (l : List T) (w : World) (hA : SR w A (l.map bs)) (hc : l.length ≤ c) (hn : l.length ≤ 66000000) (hl : (joinF l).length ≤ 66000000) :
   Calls Tryz.prog 105 #[.slice A l.length c] w fun e w' => e = .returned (.string (bs (joinF l))) ∧ Below w.heap.size w w' := by
 have hjl : (Lib.join l [47]).length ≤ 66000000 := by
   have := join_slashed l
   have h2 := congrArg List.length this
   simp only [List.length_cons] at h2
   omega
 have HJ : Hid (Calls Tryz.prog 160 #[.slice A l.length c, .string ⟨#[47]⟩] w fun e w' => e = .returned (.string (bs (Lib.join l [47]))) ∧ Below w.heap.size w w') := by
   cases l with
   | nil => exact hide ((Tryz.strings_Join_none A c ⟨#[47]⟩ w).mono fun e w' ⟨h1, h2⟩ => ⟨h1, h2 ▸ Below.refl _ _⟩)
   | cons s l =>
     obtain ⟨g, o, rfl, hg, _⟩ := hA 0 (bs s) rfl
     have hm : ((s :: l).map bs).map (·.data.toList) = s :: l := by
       rw [List.map_map]
       conv => rhs; rw [← List.map_id (s :: l)]
       apply List.map_congr_left
       intro x _
       exact bs_list x
     have := Tryz.strings_Join g o c ((s :: l).map bs) ⟨#[47]⟩ w (fun j x hj => by
       obtain ⟨g', o', e, _, hc'⟩ := hA j x hj
       injection e with e
       injection e with e1 e2
       subst e1 e2
       exact hc') hg (by rw [List.length_map]; omega) (by rw [List.length_map]; exact hc) (by rw [hm]; show (Lib.join (s :: l) [47]).length ≤ _; omega)
     rw [hm, List.length_map] at this
     exact hide this
 have HE := hide (show (⟨#[47]⟩ : ByteArray) ++ bs (Lib.join l [47]) = bs (joinF l) by rw [← join_slashed l]; exact bs_app [47] _)
 have z1 : (bs (Lib.join l [47])).size ≤ 66000000 := by rw [bs_size]; exact hjl
 generalize bs (Lib.join l [47]) = s1 at HJ HE z1
 generalize bs (joinF l) = s2 at HE ⊢
 obtain ⟨n, hn⟩ : ∃ n, l.length = n := ⟨_, rfl⟩
 rw [hn] at HJ ⊢
 clear hA hc hl hjl hn
 go_enter Tryz.func105, Tryz.ntmps105
 go_wp2_with fail
 refine HJ.out.mono ?_
 rintro e w' ⟨rfl, hb⟩
 have HB := hide hb
 clear hb
 go_wp2
 go_ret
 refine ⟨?_, HB.out⟩
 rw [← HE.out]
 rfl
theorem has0_any (l : T) (w : World) : Calls Tryz.prog 101 #[.string (bs l), .string ⟨#[0]⟩] w fun e w' => e = .returned (.bool (decide (0 ∈ l))) ∧ w = w' := by
 have := Tryz.strings_Contains_one (bs l) 0 w
 rw [bs_list, show decide (0 ≤ Lib.indexByte l 0) = decide ((0 : UInt8) ∈ l) from decide_eq_decide.2 (ixb_mem 0 l)] at this
 exact this.mono fun e w' ⟨h1, h2⟩ => ⟨h1, h2.symm⟩
theorem abs1_any (s : ByteArray) (w : World) (h : s.size ≤ 9223372036854775807) : Calls Tryz.prog 104 #[.string s] w fun e w' => e = .returned (.bool (decide (60 < s.size))) ∧ w = w' := by
 have h1 : (s.size : Int) ≤ 9223372036854775807 := by omega
 by_cases hs : 60 < s.size
 · have h2 : (60 : Int) < (s.size : Int) := by omega
   rw [decide_eq_true hs]
   clear hs
   go_enter Tryz.func104, Tryz.ntmps104
   go_wp2
   go_ret
   exact ⟨rfl, rfl⟩
 · have h2 : decide (60 < (s.size : Int)) = false := by simp; omega
   rw [decide_eq_false hs]
   clear hs
   go_enter Tryz.func104, Tryz.ntmps104
   go_wp2
   go_ret
   exact ⟨rfl, rfl⟩
def AbsPost (a : T × Nat) (w : World) (e : Ending) (w' : World) : Prop := e = .returned (.tuple #[.string (bs a.1), .int .i64 a.2]) ∧ Below w.heap.size w w'
theorem abs_any (cwd p : T) (w : World) (hm : MX w) (h1 : cwd.length ≤ 6600000) (h2 : p.length ≤ 6600000) :
   Calls Tryz.prog 49 #[.string (bs cwd), .string (bs p)] w (AbsPost (absF cwd p) w) := by
 have HC0 := hide (fun W => has0_any cwd W)
 have HP0 := hide (fun W => has0_any p W)
 have HPA := hide (fun W h => parts_any cwd p W h h1 h2)
 have HM := hide hm
 clear hm
 by_cases c1 : p = []
 · subst c1
   have hem : (bs ([] : T)).toList.isEmpty = true := by rw [bs_toList]; rfl
   have HR := hide (show absF cwd [] = ([], 1) from if_pos (.inl rfl))
   go_enter Tryz.func49, Tryz.ntmps49
   go_wp2
   go_ret2
   unfold AbsPost
   rw [HR.out]
   exact ⟨rfl, Below.refl _ _⟩
 have hem : (bs p).toList.isEmpty = false := by rw [bs_toList]; cases p; exact absurd rfl c1; rfl
 by_cases c2 : 0 ∈ cwd
 · rw [decide_eq_true c2] at HC0
   have HR := hide (show absF cwd p = ([], 1) from if_pos (.inr (.inl c2)))
   clear c2
   go_enter Tryz.func49, Tryz.ntmps49
   go_wp2_with fail
   refine (HC0.out _).mono ?_
   rintro e w' ⟨rfl, rfl⟩
   go_wp2
   go_ret2
   unfold AbsPost
   rw [HR.out]
   exact ⟨rfl, Below.refl _ _⟩
 rw [decide_eq_false c2] at HC0
 by_cases c3 : 0 ∈ p
 · rw [decide_eq_true c3] at HP0
   have HR := hide (show absF cwd p = ([], 1) from if_pos (.inr (.inr c3)))
   clear c3 c2
   go_enter Tryz.func49, Tryz.ntmps49
   go_wp2_with fail
   refine (HC0.out _).mono ?_
   rintro e w' ⟨rfl, rfl⟩
   go_wp2_with fail
   refine (HP0.out _).mono ?_
   rintro e w' ⟨rfl, rfl⟩
   go_wp2
   go_ret2
   unfold AbsPost
   rw [HR.out]
   exact ⟨rfl, Below.refl _ _⟩
 rw [decide_eq_false c3] at HP0
 have hR : absF cwd p = if longF (partsF cwd p) = false ∧ (partsF cwd p).length ≤ 20 ∧ (joinF (partsF cwd p)).length ≤ 200 then (joinF (partsF cwd p), 0) else ([], 3) := by
   unfold absF
   rw [if_neg (by rintro (h | h | h); exact c1 h; exact c2 h; exact c3 h)]
 have hpl := partsF_len cwd p
 have hjl := joinF_len cwd p
 obtain ⟨L, hL⟩ : ∃ L, partsF cwd p = L := ⟨_, rfl⟩
 rw [hL] at hR HPA hpl hjl
 have HR := hide hR
 clear c1 c2 c3 hL hR
 go_enter Tryz.func49, Tryz.ntmps49
 go_wp2_with fail
 refine (HC0.out _).mono ?_
 rintro e w' ⟨rfl, rfl⟩
 go_wp2_with fail
 refine (HP0.out _).mono ?_
 rintro e w' ⟨rfl, rfl⟩
 go_wp2_with fail
 refine (HPA.out w HM.out).mono ?_
 rintro e w1 ⟨⟨v, rfl, ho⟩, hb1⟩
 obtain ⟨A, c, rfl, hc, hsr, _⟩ := OwnS.slice ho
 have HA := hide hsr
 have HB1 := hide hb1
 rw [List.length_map] at hc ⊢
 have hln : L.any (fun s => decide (60 < s.length)) = longF L := rfl
 have HCF := hide (contf_any (fun s => decide (60 < s.size)) 104 #[] (fun _ _ => by kernel_rfl) A c (L.map bs) w1 (by rw [List.length_map]; omega) HA.out (fun W x hx hb => by
   obtain ⟨y, hy, rfl⟩ := List.mem_map.1 hx
   refine (abs1_any (bs y) W (by rw [bs_size]; have := hjl.2 y hy; omega)).mono ?_
   rintro e w' ⟨h1, rfl⟩
   exact ⟨h1, hb⟩))
 have hany : (L.map bs).any (fun s => decide (60 < s.size)) = longF L := by
   unfold longF
   rw [List.any_map]
   congr 1
 rw [hany, List.length_map] at HCF
 clear hany hln ho hb1 hsr
 have HPJ := hide (fun W (h : Below w1.heap.size w1 W) => pjoin_any A c L W (HA.out.below h) hc (by omega) (by omega))
 obtain ⟨n, hn⟩ : ∃ n, L.length = n := ⟨_, rfl⟩
 have zj : (bs (joinF L)).size = (joinF L).length := bs_size _
 obtain ⟨J, hJ⟩ : ∃ J, joinF L = J := ⟨_, rfl⟩
 obtain ⟨lg, hlg⟩ : ∃ b, longF L = b := ⟨_, rfl⟩
 obtain ⟨sj, hsj⟩ : ∃ s, bs J = s := ⟨_, rfl⟩
 obtain ⟨jn, hjn⟩ : ∃ s, J.length = s := ⟨_, rfl⟩
 rw [hJ, hjn, hsj] at zj
 rw [hJ, hjn] at hjl
 rw [hn] at HPJ HCF hpl ⊢
 rw [hJ, hsj] at HPJ
 rw [hlg] at HCF
 have hR := HR.out
 rw [hJ, hn, hlg, hjn] at hR
 have HRR := hide hR
 have HSJ := hide hsj
 have hjl1 := hjl.1
 clear hR HR hJ hlg hsj hjn hn hjl hc
 have hn1 : (n : Int) ≤ 19800000 := by omega
 go_wp2_with fail
 refine HCF.out.mono ?_
 rintro e w2 ⟨rfl, hb2⟩
 have HB2 := hide (below_up HB1.out hb2 HB1.out.size)
 have HBJ := hide hb2
 clear hb2
 go_wp2_with fail
 refine (HPJ.out w2 HBJ.out).mono ?_
 rintro e w3 ⟨rfl, hb3⟩
 have HB3 := hide (below_up HB2.out hb3 HB2.out.size)
 clear hb3
 cases lg with
 | true =>
   have HE := hide (show absF cwd p = ([], 3) by rw [HRR.out, if_neg (by simp)])
   go_wp2
   go_ret2
   unfold AbsPost
   rw [HE.out]
   exact ⟨rfl, HB3.out⟩
 | false =>
   by_cases d1 : n ≤ 20
   · by_cases d2 : jn ≤ 200
     · have HE := hide (show absF cwd p = (J, 0) by rw [HRR.out, if_pos ⟨rfl, d1, d2⟩])
       have e1 : (n : Int) ≤ 20 := by omega
       have e2 : (jn : Int) ≤ 200 := by omega
       go_wp2
       go_ret2
       unfold AbsPost
       rw [HE.out, HSJ.out]
       exact ⟨rfl, HB3.out⟩
     · have HE := hide (show absF cwd p = ([], 3) by rw [HRR.out, if_neg (by rintro ⟨_, _, h⟩; exact d2 h)])
       have e1 : (n : Int) ≤ 20 := by omega
       have e2 : decide ((jn : Int) ≤ 200) = false := by simp; omega
       go_wp2
       go_ret2
       unfold AbsPost
       rw [HE.out]
       exact ⟨rfl, HB3.out⟩
   · have HE := hide (show absF cwd p = ([], 3) by rw [HRR.out, if_neg (by rintro ⟨_, h, _⟩; exact d1 h)])
     have e1 : decide ((n : Int) ≤ 20) = false := by simp; omega
     go_wp2
     go_ret2
     unfold AbsPost
     rw [HE.out]
     exact ⟨rfl, HB3.out⟩
end
section
open Go.RowKit Go.Deep Ln Pth
attribute [local go_sem] bt_eq
end
section
open Go.RowKit
theorem conv_SB (w : World) (l : List UInt8) (hl : l.length ≤ 1000000) : ∃ c w', (convert 9 55 (.string (bs l))).run Tryz.prog w = .ok (.slice (some ⟨w.heap.size, 0, none⟩) l.length c) w' ∧ RG encB 1 w' (some ⟨w.heap.size, 0, none⟩) l ∧ Below w.heap.size w w' ∧ l.length ≤ c ∧ c ≤ 9223372036854775807 ∧ w.heap.size < w'.heap.size := by
 have h := run_bytes_of_string (P := Tryz.prog) w 9 55 5 (bs l) Tryz.underlying9 Tryz.underlying55 Tryz.underlying5
 have h1 := grownCap_ge w (bs l).size 0 5
 have h2 := grownCap_le_maxLen w (bs l).size 0 5 (by rw [bs_size]; unfold maxLen; omega)
 rw [bs_size] at h h1 h2
 generalize grownCap w l.length 0 5 = C at h h1 h2
 refine ⟨C, _, h, ?_, ?_, h1, by unfold maxLen at h2; omega, by simp⟩
 · intro k x hk
   have hkl := (List.getElem?_eq_some_iff.1 hk).1
   refine ⟨_, _, rfl, by simp, fun j u hj => ?_⟩
   cases j with
   | succ j => simp [encB] at hj
   | zero =>
     have hu : u = .int .u8 x.toNat := by simpa [encB] using hj.symm
     have hx : (bs l).data[k]'(by simpa [bs] using hkl) = x := by
       have := (List.getElem?_eq_some_iff.1 hk).2
       simpa [bs] using this
     have hb := bytesRow_at (bs l) C k (by simpa [bs] using hkl)
     rw [hx] at hb
     rw [hu]
     have hp := heapNewO w.drew (.cells (bytesRow (bs l) C) 5 ((bytesRow (bs l) C).size, (bytesRow (bs l) C).size + 1))
     unfold World.cell?
     rw [show (w.drew).heap.size = w.heap.size from rfl] at hp
     simp only [hp, Nat.zero_add, Nat.mul_one, Nat.add_zero]
     exact hb
 · exact (Below.refl _ _).drew.alloc (Nat.le_refl _) _
where
 heapNewO (w : World) (o : Obj) : (w.alloc o).heap[w.heap.size]? = some o := by
   show (w.heap.push o)[w.heap.size]? = some o
   simp
end
section
open Go.RowKit Go.Deep Go.Maps Ln Pth Vf
attribute [local go_sem] bt_eq
theorem kind_any (g : Nat) (S : St) (q : T) (w : World) (h : Hs (VS g S) w) (hq : q.length ≤ 100000) :
   Calls Tryz.prog 42 #[.pointer (some ⟨g, 0, none⟩), .string (bs q)] w fun e w' => e = .returned (.int .i64 (kindM S.m q)) ∧ Below w.heap.size w w' := by
 obtain ⟨b, P, hgb, hg, hm, hS, _⟩ := VS.opn h
 have hl := nlook hm (s := bs q) (by rw [bs_size]; omega)
 have hc0 := cellOf hg (j := 0) rfl
 have hk : kindM S.m q = if q = [47] then 2 else match getG P (bs q) with
     | none => 0
     | some e => if e.nd.dir = true then 2 else 1 := by
   unfold kindM
   rw [hS, strip_get]
   cases getG P (bs q) <;> rfl
 clear h hg hm hS
 by_cases h1 : q = [47]
 · have ht : ((bs q).toList == [47]) = true := by rw [bs_toList, h1]; rfl
   rw [if_pos h1] at hk
   have HK := hide hk
   clear hk h1
   cases hgp : getG P (bs q) with
   | none =>
     rw [hgp] at hl
     unfold valN zN at hl
     clear hgp
     simp only [Option.isSome_none] at hl
     go_enter Tryz.func42, Tryz.ntmps42
     go_wp2
     go_ret
     refine ⟨?_, (Below.refl _ _).alloc (Nat.le_refl _) _⟩
     rw [HK.out]; rfl
   | some e =>
     rw [hgp] at hl
     unfold valN encN at hl
     clear hgp
     simp only [Option.isSome_some] at hl
     go_enter Tryz.func42, Tryz.ntmps42
     go_wp2
     go_ret
     refine ⟨?_, (Below.refl _ _).alloc (Nat.le_refl _) _⟩
     rw [HK.out]; rfl
 · have ht : ((bs q).toList == [47]) = false := by rw [bs_toList]; simpa using h1
   rw [if_neg h1] at hk
   clear h1
   cases hgp : getG P (bs q) with
   | none =>
     rw [hgp] at hl hk
     unfold valN zN at hl
     have HK := hide hk
     clear hgp hk
     simp only [Option.isSome_none] at hl
     go_enter Tryz.func42, Tryz.ntmps42
     go_wp2
     go_ret
     refine ⟨?_, (Below.refl _ _).alloc (Nat.le_refl _) _⟩
     rw [HK.out]; rfl
   | some e =>
     rw [hgp] at hl hk
     unfold valN encN at hl
     clear hgp
     simp only [Option.isSome_some] at hl hk
     obtain ⟨db, hdb⟩ : ∃ d, e.nd.dir = d := ⟨_, rfl⟩
     rw [hdb] at hl hk
     have HK := hide hk
     clear hk hdb
     cases db with
     | true =>
       go_enter Tryz.func42, Tryz.ntmps42
       go_wp2
       go_ret
       refine ⟨?_, (Below.refl _ _).alloc (Nat.le_refl _) _⟩
       rw [HK.out]; rfl
     | false =>
       go_enter Tryz.func42, Tryz.ntmps42
       go_wp2
       go_ret
       refine ⟨?_, (Below.refl _ _).alloc (Nat.le_refl _) _⟩
       rw [HK.out]; rfl
theorem way_any (g : Nat) (S : St) (q : T) (w : World) (h : Hs (VS g S) w) (hq : q.length ≤ 100000) :
   Calls Tryz.prog 96 #[.pointer (some ⟨g, 0, none⟩), .string (bs q)] w fun e w' => e = .returned (.int .i64 (wayM S.m q)) ∧ Below w.heap.size w w' := by
 have H := hide h
 clear h
 have HK := hide (fun k W (hb : Below w.heap.size w W) => kind_any g S (q.take k) W (H.out.below (VS.fr g S) hb) (by rw [List.length_take]; omega))
 obtain ⟨R, hR⟩ : ∃ R, wayM S.m q = R := ⟨_, rfl⟩
 have HR := hide hR
 rw [hR]
 clear hR
 have hz : (bs q).size = q.length := bs_size q
 obtain ⟨n, hn⟩ : ∃ n, q.length = n := ⟨_, rfl⟩
 have HN := hide hn
 rw [hn] at hq hz
 clear hn
 have hn1 : (n : Int) ≤ 100000 := by omega
 obtain ⟨cp, W, hcv, hrg, hbw, hcp, hcp2, hsz⟩ := conv_SB w q (by rw [HN.out]; omega)
 rw [HN.out] at hcv hcp
 have HRG := hide hrg
 have HBW := hide hbw
 clear hrg hbw hcp hcp2
 go_enter Tryz.func96, Tryz.ntmps96
 go_wp2
 go_loopw [10] (fun v10 wr => ∃ k : Nat, v10 = .int .i64 k ∧ k ≤ n ∧ Hid (wayB S.m q (n - k) k = R) ∧ Below W.heap.size W wr) (fun v10 _ => n - (intOf v10).toNat)
 case atStart => exact ⟨0, rfl, by omega, by have := HR.out; unfold wayM at this; rwa [HN.out] at this, Below.refl _ _⟩
 case round =>
   obtain ⟨k, rfl, hk, HWB, hb⟩ := hrel
   have HB := hide hb
   have HBR := hide (below_up HBW.out hb HBW.out.size)
   have HRR := hide (HRG.out.below hb)
   clear hb
   by_cases hlt : k < n
   · obtain ⟨x, hx⟩ : ∃ x, q[k]? = some x := ⟨q[k]'(by have := HN.out; omega), gE _⟩
     obtain ⟨gs, o, e, hg, hc⟩ := HRR.out k x hx
     injection e with e
     injection e with e1 e2
     subst e1 e2
     have hc1 : wr.cell? ⟨w.heap.size, 0 + k, none⟩ = some (.int .u8 x.toNat) := by
       have := hc 0 _ rfl
       simpa using this
     rw [Nat.zero_add] at hc1
     clear hc
     have b1 : (k : Int) < (n : Int) := by omega
     have hstep : wayB S.m q (n - k) k = if q.getD k 0 ≠ 47 ∨ k = 0 then wayB S.m q (n - (k + 1)) (k + 1) else if kindM S.m (q.take k) = 0 then 6 else if kindM S.m (q.take k) = 1 then 11 else wayB S.m q (n - (k + 1)) (k + 1) := by
       rw [show n - k = (n - (k + 1)) + 1 by omega, wayB, if_neg (by have := HN.out; omega)]
     have hxg : q.getD k 0 = x := by simp [hx]
     rw [hxg, HWB.out] at hstep
     have HST := hide hstep
     clear hx hxg hstep HWB
     have hx256 : x.toNat < 256 := x.toNat_lt
     by_cases e1 : x = 47
     · have hx47 : ((x.toNat : Int) == 47) = true := by rw [e1]; rfl
       have hx47' : ((x.toNat : Int) != 47) = false := by rw [e1]; rfl
       by_cases e2 : k = 0
       · subst e2
         have HN2 := hide (show wayB S.m q (n - (0 + 1)) (0 + 1) = R by rw [HST.out, if_pos (.inr rfl)])
         clear HST
         go_wp2
         go_roundw
         case rel => exact ⟨1, by go_num, by omega, HN2.out, HB.out⟩
         case measure => simp [intOf]; omega
       · have hk0 : ((k : Int) == 0) = false := by simpa using e2
         have HEX := hide (show (bs q).extract 0 k = bs (q.take k) by rw [ext_bs]; simp)
         have HKK := hide (HK.out k wr HBR.out)
         have hst := HST.out
         rw [if_neg (by rintro (h | h); exact h e1; exact e2 h)] at hst
         have HS2 := hide hst
         obtain ⟨kk, hkk⟩ : ∃ kk, kindM S.m (q.take k) = kk := ⟨_, rfl⟩
         rw [hkk] at HKK HS2
         clear hst HST hkk
         rw [← HEX.out] at HKK
         go_wp2_with fail
         refine HKK.out.mono ?_
         rintro e w' ⟨rfl, hb'⟩
         have HB' := hide (below_up HB.out hb' HB.out.size)
         have HBR' := hide (below_up HBR.out hb' HBR.out.size)
         clear hb'
         by_cases k0 : kk = 0
         · subst k0
           have HF := hide (show R = 6 by rw [HS2.out, if_pos rfl])
           go_wp2
           go_ret
           refine ⟨?_, HBR'.out⟩
           rw [HF.out]
           rfl
         by_cases k1 : kk = 1
         · subst k1
           have HF := hide (show R = 11 by rw [HS2.out]; rfl)
           go_wp2
           go_ret
           refine ⟨?_, HBR'.out⟩
           rw [HF.out]
           rfl
         have k0' : ((kk : Int) == 0) = false := by simp; omega
         have k1' : ((kk : Int) == 1) = false := by simp; omega
         have HF := hide (show wayB S.m q (n - (k + 1)) (k + 1) = R by rw [HS2.out, if_neg k0, if_neg k1])
         clear HS2 k0 k1
         go_wp2
         go_roundw
         case rel => exact ⟨k + 1, by go_num, by omega, HF.out, HB'.out⟩
         case measure => simp [intOf]; omega
     · have hx47 : ((x.toNat : Int) == 47) = false := by
         simp only [beq_eq_false_iff_ne]
         intro h
         apply e1
         have h2 : x.toNat = (47 : UInt8).toNat := by have : (47 : UInt8).toNat = 47 := rfl; omega
         exact UInt8.toNat_inj.1 h2
       have hx47' : ((x.toNat : Int) != 47) = true := by simpa using hx47
       have HN2 := hide (show wayB S.m q (n - (k + 1)) (k + 1) = R by rw [HST.out, if_pos (.inl e1)])
       clear HST e1
       go_wp2
       go_roundw
       case rel => exact ⟨k + 1, by go_num, by omega, HN2.out, HB.out⟩
       case measure => simp [intOf]; omega
   · obtain rfl : k = n := by omega
     have HE := hide (show (0 : Nat) = R by rw [← HWB.out, Nat.sub_self]; rfl)
     go_wp2
     go_ret
     refine ⟨?_, HBR.out⟩
     rw [← HE.out]
     rfl
end
section
open Go.RowKit Go.Deep Go.Maps Ln Pth Vf
attribute [local go_sem] bt_eq
theorem absF_len (p : T) : (absF [47] p).1.length ≤ 200 := by
 rcases absF_cases [47] p with ⟨l, g, e, _⟩ | ⟨e, _⟩
 · rw [e]; exact g.len
 · rw [e]; simp
theorem absS_len (S : St) (p : T) : (absS S p).1.length ≤ 200 := by
 unfold absS
 split
 · simp
 · split
   · simp
   · exact absF_len p
theorem fld0 (x y z : Value) (w : World) : (Instr.field 96 (.agg #[x, y, z]) 0).run Tryz.prog w = .ok x w := by kernel_rfl
theorem fld1 (x y z : Value) (w : World) : (Instr.field 96 (.agg #[x, y, z]) 1).run Tryz.prog w = .ok y w := by kernel_rfl
theorem fld2 (x y z : Value) (w : World) : (Instr.field 96 (.agg #[x, y, z]) 2).run Tryz.prog w = .ok z w := by kernel_rfl
theorem mkMap (w : World) : (Instr.makeMap 86 none).run Tryz.prog w = .ok (.map (some w.heap.size)) (w.alloc (.map #[] 0)) := by kernel_rfl
attribute [local go_sem] fld0 fld1 fld2 mkMap
theorem ne0 {n : Nat} (h : n ≠ 0) : ((n : Int) != 0) = true ∧ ((n : Int) == 0) = false := by
 constructor
 · simpa using h
 · simpa using h
theorem vabs_any (g : Nat) (S : St) (p : T) (w : World) (h : Hs (VS g S) w) (hm : MX w) (hp : p.length ≤ 50000) :
   Calls Tryz.prog 41 #[.pointer (some ⟨g, 0, none⟩), .string (bs p)] w (AbsPost (absS S p) w) := by
 have HA := hide (abs_any [47] p w hm (by simp) (by omega))
 have hl := absF_len p
 have HW := hide (fun W (hb : Below w.heap.size w W) => way_any g S (absF [47] p).1 W (h.below (VS.fr g S) hb) (by omega))
 have hR : absS S p = if (absF [47] p).2 ≠ 0 then ([], (absF [47] p).2) else if wayM S.m (absF [47] p).1 ≠ 0 then ([], wayM S.m (absF [47] p).1) else ((absF [47] p).1, 0) := rfl
 unfold AbsPost at HA
 obtain ⟨q, hq⟩ : ∃ q, (absF [47] p).1 = q := ⟨_, rfl⟩
 obtain ⟨e, he⟩ : ∃ q, (absF [47] p).2 = q := ⟨_, rfl⟩
 rw [hq] at HA HW hR hl
 rw [he] at HA hR
 obtain ⟨y, hy⟩ : ∃ y, wayM S.m q = y := ⟨_, rfl⟩
 rw [hy] at HW hR
 have HR := hide hR
 clear hR hq he hy h hm
 by_cases c1 : e = 0
 · subst c1
   go_enter Tryz.func41, Tryz.ntmps41
   go_wp2_with fail
   refine HA.out.mono ?_
   rintro e w1 ⟨rfl, hb⟩
   have HB := hide hb
   clear hb
   go_wp2_with fail
   refine (HW.out w1 HB.out).mono ?_
   rintro e w2 ⟨rfl, hb⟩
   have HB2 := hide (below_up HB.out hb HB.out.size)
   clear hb
   by_cases c2 : y = 0
   · subst c2
     have HE := hide (show absS S p = (q, 0) from HR.out)
     go_wp2
     go_ret2
     unfold AbsPost
     rw [HE.out]
     exact ⟨rfl, HB2.out⟩
   · obtain ⟨t1, t2⟩ := ne0 c2
     have HE := hide (show absS S p = ([], y) by rw [HR.out, if_neg (by simp), if_pos c2])
     clear c2
     go_wp2
     go_ret2
     unfold AbsPost
     rw [HE.out]
     exact ⟨rfl, HB2.out⟩
 · obtain ⟨t1, t2⟩ := ne0 c1
   have HE := hide (show absS S p = ([], e) by rw [HR.out, if_pos c1])
   clear c1
   go_enter Tryz.func41, Tryz.ntmps41
   go_wp2_with fail
   refine HA.out.mono ?_
   rintro e w1 ⟨rfl, hb⟩
   have HB := hide hb
   clear hb
   go_wp2
   go_ret2
   unfold AbsPost
   rw [HE.out]
   exact ⟨rfl, HB.out⟩
theorem vfound_any (g : Nat) (S : St) (p : T) (w : World) (h : Hs (VS g S) w) (hm : MX w) (hp : p.length ≤ 50000) :
   Calls Tryz.prog 63 #[.pointer (some ⟨g, 0, none⟩), .string (bs p)] w (AbsPost (foundS S p) w) := by
 have HA := hide (vabs_any g S p w h hm hp)
 have hl := absS_len S p
 have HK := hide (fun W (hb : Below w.heap.size w W) => kind_any g S (absS S p).1 W (h.below (VS.fr g S) hb) (by omega))
 have hR : foundS S p = ((absS S p).1, if (absS S p).2 = 0 ∧ kindM S.m (absS S p).1 = 0 then 6 else (absS S p).2) := rfl
 unfold AbsPost at HA
 obtain ⟨q, hq⟩ : ∃ q, (absS S p).1 = q := ⟨_, rfl⟩
 obtain ⟨e, he⟩ : ∃ q, (absS S p).2 = q := ⟨_, rfl⟩
 rw [hq] at HA HK hR hl
 rw [he] at HA hR
 obtain ⟨y, hy⟩ : ∃ y, kindM S.m q = y := ⟨_, rfl⟩
 rw [hy] at HK hR
 have HR := hide hR
 clear hR hq he hy h hm
 by_cases c1 : e = 0
 · subst c1
   go_enter Tryz.func63, Tryz.ntmps63
   go_wp2_with fail
   refine HA.out.mono ?_
   rintro e w1 ⟨rfl, hb⟩
   have HB := hide hb
   clear hb
   go_wp2_with fail
   refine (HK.out w1 HB.out).mono ?_
   rintro e w2 ⟨rfl, hb⟩
   have HB2 := hide (below_up HB.out hb HB.out.size)
   clear hb
   by_cases c2 : y = 0
   · subst c2
     have HE := hide (show foundS S p = (q, 6) from HR.out)
     go_wp2
     go_ret2
     unfold AbsPost
     rw [HE.out]
     exact ⟨rfl, HB2.out⟩
   · obtain ⟨t1, t2⟩ := ne0 c2
     have HE := hide (show foundS S p = (q, 0) by rw [HR.out, if_neg (by rintro ⟨_, h⟩; exact c2 h)])
     clear c2
     go_wp2
     go_ret2
     unfold AbsPost
     rw [HE.out]
     exact ⟨rfl, HB2.out⟩
 · obtain ⟨t1, t2⟩ := ne0 c1
   have HE := hide (show foundS S p = (q, e) by rw [HR.out, if_neg (by rintro ⟨h, _⟩; exact c1 h)])
   clear c1
   go_enter Tryz.func63, Tryz.ntmps63
   go_wp2_with fail
   refine HA.out.mono ?_
   rintro e w1 ⟨rfl, hb⟩
   have HB := hide hb
   clear hb
   go_wp2
   go_ret2
   unfold AbsPost
   rw [HE.out]
   exact ⟨rfl, HB.out⟩
theorem vnew_any (n b : Int) (w : World) (h1 : -9223372036854775808 ≤ n) (h2 : n ≤ 9223372036854775807) (h3 : -9223372036854775808 ≤ b) (h4 : b ≤ 9223372036854775807) :
   Calls Tryz.prog 14 #[.int .i64 n, .int .i64 b] w fun e w' => e = .returned (.pointer (some ⟨w.heap.size + 1, 0, none⟩)) ∧ Below w.heap.size w w' ∧ VS (w.heap.size + 1) (newS n b) (fun k => w.heap.size ≤ k ∧ k < w'.heap.size) (fun _ => False) w' ∧ w'.heap.size = w.heap.size + 2 := by
 have ho := World.ownsMap_made w Tryz.prog 9 hR
 have e1 : min (max (0 : Int) n) 10000 = ((newS n b).nodes : Nat) := by simp only [newS]; omega
 have e2 : min (max (0 : Int) b) 1048576 = ((newS n b).bytes : Nat) := by simp only [newS]; omega
 have E1 := hide e1
 have E2 := hide e2
 have HO := hide ho
 clear e1 e2 ho
 go_enter Tryz.func14, Tryz.ntmps14
 go_wp2
 go_ret
 have hb1 : Below w.heap.size w (w.alloc (.map #[] 0)) := (Below.refl _ _).alloc (Nat.le_refl _) _
 refine ⟨by simp, hb1.alloc (by simp) _, ?_, by simp⟩
 refine ⟨w.heap.size, [], ⟨by omega, by simp⟩, ⟨Nat.le_refl _, by simp; omega⟩, by omega, ?_, ?_, rfl, fun x hx => by cases hx⟩
 · have := heapNew (w.alloc (.map #[] 0)) (.cells #[.map (some w.heap.size), .int .i64 (min (max 0 n) 10000), .int .i64 (min (max 0 b) 1048576), .int .i64 0, .int .i64 0] 88)
   rw [← E1.out, ← E2.out, show ((newS n b).used : Int) = 0 from rfl, show ((newS n b).clock : Int) = 0 from rfl]
   simpa using this
 · exact MapN.of (w := w.alloc (.map #[] 0)) (own_tightN (P := []) HO.out) (Below.heap_alloc _ _ _ (by simp))
end
section
open Go.RowKit Go.Deep Go.Maps Ln Pth Vf
attribute [local go_sem] bt_eq fld0 fld1 fld2 mkMap
end
end Go.Proofs.YtpheeheikigenaaGreatDoor

namespace Go.Proofs.YtpheeheikigenaaGreatDoor
section
open Go.RowKit Go.Deep Go.Sort
end
section
open Go.RowKit Go.Deep Go.Maps Ln Pth Vf
attribute [local go_sem] bt_eq fld0 fld1 fld2 mkMap
end
section
open Go.RowKit Go.Deep Go.Maps Ln Pth Vf
attribute [local go_sem] bt_eq fld0 fld1 fld2 mkMap
end
section
open Go.RowKit Go.Deep
end
section
open Go.RowKit Go.Deep Go.Maps Ln Pth Vf
attribute [local go_sem] bt_eq fld0 fld1 fld2 mkMap
theorem node_at {g : Nat} {S : St} {w : World} (h : Hs (VS g S) w) (q : T) (hq : q.length ≤ 100000) : ∃ (b : Nat) (db : Bool) (A : Option Addr) (c tm : Nat), w.cell? ⟨g, 0, none⟩ = some (.map (some b)) ∧
   (Instr.lookup 86 (.map (some b)) (.string (bs q)) false).run Tryz.prog w = .ok (.agg #[.bool db, .slice A (dataM S.m q).length c, .int .i64 tm]) w ∧ RG encB 1 w A (dataM S.m q) ∧ tm = timeM S.m q ∧ (∀ n, getG S.m (bs q) = some n → db = n.dir) := by
 obtain ⟨b, P, hgb, hg, hm, hS, hx⟩ := VS.opn h
 have hlk := nlook1 hm (s := bs q) (by rw [bs_size]; omega)
 unfold dataM timeM
 rw [hS, strip_get]
 cases hgp : getG P (bs q) with
 | none =>
   rw [hgp] at hlk
   exact ⟨b, false, none, 0, 0, cellOf hg (j := 0) rfl, hlk, RG.nil _ _, rfl, fun n hn => by cases hn⟩
 | some e =>
   rw [hgp] at hlk
   exact ⟨b, e.nd.dir, e.A, e.c, e.nd.time, cellOf hg (j := 0) rfl, hlk, hx _ (getG_mem hgp), rfl, fun n hn => by injection hn with hn; rw [← hn]⟩
end
section
open Go.RowKit Go.Deep Go.Maps Ln Pth Vf
attribute [local go_sem] bt_eq fld0 fld1 fld2 mkMap
end
section
open Go.RowKit Go.Deep Go.Maps Ln Pth Vf
attribute [local go_sem] bt_eq fld0 fld1 fld2 mkMap
theorem valsB (D : List UInt8) : valsG encB D = (D.map fun b => (b.toNat : Int)).map (Value.int .u8) := by
 unfold valsG encB
 rw [List.map_map]
 induction D with
 | nil => rfl
 | cons x D ih => rw [List.flatMap_cons, List.map_cons, ih]; rfl
theorem bclone_any (A : Option Addr) (c : Nat) (D : List UInt8) (w : World) (hA : RG encB 1 w A D) (hl : D.length ≤ 10000000) :
   Calls Tryz.prog 197 #[.slice A D.length c] w fun e w' => (∃ v, e = .returned v ∧ OwnY w' w.heap.size v D) ∧ Below w.heap.size w w' := by
 cases A with
 | none =>
   have hD : D = [] := by
     cases D with
     | nil => rfl
     | cons b l =>
       obtain ⟨g, o, e, _⟩ := hA 0 b rfl
       cases e
   subst hD
   refine (Tryz.bytes_Clone_nil 0 c w).mono ?_
   rintro e w' ⟨rfl, rfl⟩
   exact ⟨⟨_, rfl, OwnG.nil _ _⟩, Below.refl _ _⟩
 | some a =>
   refine (Tryz.bytes_Clone_at a D.length c (D.map fun b => (b.toNat : Int)) w (by simp) (by omega) (fun i hi => ?_)).mono ?_
   · obtain ⟨g, o, e, _, h1⟩ := hA i D[i] (List.getElem?_eq_getElem hi)
     injection e with e
     subst e
     have h2 := h1 0 _ rfl
     rw [Nat.mul_one, Nat.add_zero] at h2
     have e2 : (Addr.mk g o none).add i = ⟨g, o + i, none⟩ := by
       unfold Addr.add
       split
       · rename_i h0; subst h0; rfl
       · rfl
     rw [e2, h2]
     simp [hi]
   · rintro e w' ⟨v, rfl, ho, _, hb⟩
     refine ⟨⟨v, rfl, ?_⟩, hb⟩
     show World.ownsRow _ _ _ _ _ _ _
     rw [valsB]
     exact ho
def VReadPost (r : T × Nat) (w : World) (e : Ending) (w' : World) : Prop := (∃ v, e = .returned (.tuple #[v, .int .i64 r.2]) ∧ OwnY w' w.heap.size v r.1) ∧ Below w.heap.size w w'
theorem vread_any (g : Nat) (S : St) (hS : WfS S) (p : T) (w : World) (h : Hs (VS g S) w) (hm : MX w) (hp : p.length ≤ 50000) :
   Calls Tryz.prog 145 #[.pointer (some ⟨g, 0, none⟩), .string (bs p)] w (VReadPost (readS S p) w) := by
 have HA := hide (vfound_any g S p w h hm hp)
 have hl : (foundS S p).1.length ≤ 200 := absS_len S p
 have HK := hide (fun W (hb : Below w.heap.size w W) => kind_any g S (foundS S p).1 W (h.below (VS.fr g S) hb) (by omega))
 have HND := hide (fun W (hb : Below w.heap.size w W) => node_at (h.below (VS.fr g S) hb) (foundS S p).1 (by omega))
 have hdl := dataM_len hS (foundS S p).1
 have hus := hS.bytes
 have hb20 := hS.b20
 have hR : readS S p = if (foundS S p).2 ≠ 0 then ([], (foundS S p).2) else if kindM S.m (foundS S p).1 = 2 then ([], 10) else (dataM S.m (foundS S p).1, 0) := rfl
 unfold AbsPost at HA
 obtain ⟨q, hq⟩ : ∃ q, (foundS S p).1 = q := ⟨_, rfl⟩
 obtain ⟨e, he⟩ : ∃ q, (foundS S p).2 = q := ⟨_, rfl⟩
 rw [hq] at HA HK HND hR hl hdl
 rw [he] at HA hR
 obtain ⟨y, hy⟩ : ∃ y, kindM S.m q = y := ⟨_, rfl⟩
 rw [hy] at HK hR
 have HR := hide hR
 clear hR hq he hy h hm
 by_cases c1 : e = 0
 case neg =>
   obtain ⟨t1, t2⟩ := ne0 c1
   have HE := hide (HR.out.trans (if_pos c1))
   clear c1
   go_enter Tryz.func145, Tryz.ntmps145
   go_wp2_with fail
   refine HA.out.mono ?_
   rintro e w1 ⟨rfl, hb⟩
   have HB := hide hb
   clear hb
   go_wp2
   go_ret2
   unfold VReadPost
   rw [HE.out]
   exact ⟨⟨_, rfl, OwnG.nil _ _⟩, HB.out⟩
 subst c1
 have hRQ := HR.out.trans (if_neg (by simp))
 by_cases c2 : y = 2
 · subst c2
   have HE := hide (hRQ.trans (if_pos rfl))
   clear hRQ
   go_enter Tryz.func145, Tryz.ntmps145
   go_wp2_with fail
   refine HA.out.mono ?_
   rintro e w1 ⟨rfl, hb⟩
   have HB := hide hb
   clear hb
   go_wp2_with fail
   refine (HK.out w1 HB.out).mono ?_
   rintro e w2 ⟨rfl, hb⟩
   have HB2 := hide (below_up HB.out hb HB.out.size)
   clear hb
   go_wp2
   go_ret2
   unfold VReadPost
   rw [HE.out]
   exact ⟨⟨_, rfl, OwnG.nil _ _⟩, HB2.out⟩
 · have c2' : ((y : Int) == 2) = false := by simp; omega
   have HE := hide (hRQ.trans (if_neg c2))
   clear hRQ c2
   obtain ⟨D, hD⟩ : ∃ D, dataM S.m q = D := ⟨_, rfl⟩
   rw [hD] at HE HND hdl
   clear hD
   go_enter Tryz.func145, Tryz.ntmps145
   go_wp2_with fail
   refine HA.out.mono ?_
   rintro e w1 ⟨rfl, hb⟩
   have HB := hide hb
   clear hb
   go_wp2_with fail
   refine (HK.out w1 HB.out).mono ?_
   rintro e w2 ⟨rfl, hb⟩
   have HB2 := hide (below_up HB.out hb HB.out.size)
   clear hb
   obtain ⟨bm, db, A0, c0, tm, hc0, hlk, hr0, _, _⟩ := HND.out w2 HB2.out
   have HC := hide (bclone_any A0 c0 D w2 hr0 (by omega))
   clear hr0
   go_wp2_with fail
   refine HC.out.mono ?_
   rintro e w3 ⟨⟨v, rfl, ho⟩, hb⟩
   have HB3 := hide (below_up HB2.out hb HB2.out.size)
   have HO := hide (ho.base HB2.out.size)
   clear hb ho
   go_wp2
   go_ret2
   unfold VReadPost
   rw [HE.out]
   exact ⟨⟨_, rfl, HO.out⟩, HB3.out⟩
end
section
open Go.RowKit Go.Deep Go.Maps Ln Pth Vf Rd
abbrev rty : TypeId := 79
abbrev ruty : TypeId := 38
def rowRl : RowT Tryz.prog 26 38 3 := { z := .agg #[.slice none 0 0, .slice none 0 0, .slice none 0 0], bytes := 72, und := Tryz.underlying26, info := by kernel_rfl, zlen := rfl, pos := by omega, sb := by omega }
theorem encRl_one (r : Rl) : ∀ u ∈ encRl r, u.oneCell' = true := by
 intro u hu
 simp [encRl, sv] at hu
 rcases hu with rfl | rfl | rfl <;> rfl
structure Rk where
 gf : Nat
 cwd : T
 bm : Nat
 bg : Nat
def rcells (C : Rk) (vr : Value) (deep files : Int) : Array Value := #[.pointer (some ⟨C.gf, 0, none⟩), .string (bs C.cwd), .map (some C.bm), .map (some C.bg), vr, .int .i64 deep, .int .i64 files]
def outR (r : Rl) : List (List ByteArray) := [r.tg.2.2, r.nd.2.2, r.rc.2.2]
def ofRS (r : RuleS) : List (List ByteArray) := [r.tg.map bs, r.nd.map bs, r.rc.map bs]
def RowN (w : World) (N : Nat → Prop) (x : SRow) : Prop := SR w x.1 x.2.2 ∧ x.2.2.length ≤ x.2.1 ∧ ∀ a, x.1 = some a → x.2.2 ≠ [] → N a.block
structure RD (w0 : World) (C : Rk) (g : Nat) (s : Sx) (deep : Int) (S : Nat → Prop) (w : World) : Prop where
 below : Below w0.heap.size w0 w
 sw : ∀ k, S k → w0.heap.size ≤ k ∧ k < w.heap.size
 sg : S g
 sm : S C.bm
 sh : S C.bg
 gne : g ≠ C.bm ∧ g ≠ C.bg ∧ C.bm ≠ C.bg
 mac : MapS w C.bm s.mac
 rise : RiseG s.mac
 giv : MSet w C.bg (s.giv.map bs)
 body : ∃ (vr : Value) (rl : List Rl), w.heap[g]? = some (.cells (rcells C vr deep s.files) rty) ∧ OwnG encRl 3 ruty w w0.heap.size vr rl ∧
   (∀ k, vr.ownBlock = some k → S k ∧ k ≠ g ∧ k ≠ C.bm ∧ k ≠ C.bg) ∧ rl.map outR = s.rules.map ofRS ∧
   (∀ r ∈ rl, RowN w (fun k => ¬ S k) r.tg ∧ RowN w (fun k => ¬ S k) r.nd) ∧ (∀ r ∈ rl.dropLast, RowN w (fun k => ¬ S k) r.rc) ∧
   ∀ r, rl.getLast? = some r → OwnS w w0.heap.size (sv r.rc) r.rc.2.2 ∧ ∀ k, (sv r.rc).ownBlock = some k → S k ∧ k ≠ g ∧ k ≠ C.bm ∧ k ≠ C.bg ∧ vr.ownBlock ≠ some k
def RDP (w0 : World) (C : Rk) (g : Nat) (s : Sx) (deep : Int) (S : Nat → Prop) (w w' : World) : Prop := ∃ S', RD w0 C g s deep S' w' ∧ Kp w w' S ∧ ∀ k, S' k → S k ∨ w.heap.size ≤ k
theorem RowN.below {w w' : World} {N : Nat → Prop} {x : SRow} (h : RowN w N x) (hb : Below w.heap.size w w') : RowN w' N x := ⟨h.1.below hb, h.2⟩
theorem SR.ofK {w w' : World} {A : Option Addr} {L : List ByteArray} (h : SR w A L) (hs : w.heap.size ≤ w'.heap.size) (hb : ∀ a, A = some a → L ≠ [] → a.block < w.heap.size → w'.heap[a.block]? = w.heap[a.block]?) : SR w' A L := fun k s hk => by
 obtain ⟨g, o, e, hg, h1⟩ := h k s hk
 have hne : L ≠ [] := by rintro rfl; simp at hk
 have := hb _ e hne hg
 exact ⟨g, o, e, by omega, (World.cell?_of_block (a := ⟨g, o + k, none⟩) this).trans h1⟩
theorem RowN.kp {w w' : World} {S : Nat → Prop} {x : SRow} (h : RowN w (fun k => ¬ S k) x) (hk : Kp w w' S) : RowN w' (fun k => ¬ S k) x :=
 ⟨h.1.ofK hk.size fun a e hne hl => hk.block _ hl (h.2.2 a e hne), h.2⟩
theorem RowN.mono {w : World} {N N' : Nat → Prop} {x : SRow} (h : RowN w N x) (hw : ∀ k, k < w.heap.size → N k → N' k) : RowN w N' x :=
 ⟨h.1, h.2.1, fun a e hne => by
   obtain ⟨s, L, hL⟩ : ∃ s L, x.2.2 = s :: L := by
     cases hx : x.2.2 with
     | nil => exact absurd hx hne
     | cons s L => exact ⟨s, L, rfl⟩
   obtain ⟨g, o, e2, hg, _⟩ := h.1 0 s (by rw [hL]; rfl)
   rw [e] at e2
   injection e2 with e2
   subst e2
   exact hw _ hg (h.2.2 _ e hne)⟩
theorem RD.step {w0 w w' : World} {C : Rk} {g : Nat} {s : Sx} {deep : Int} {S : Nat → Prop} (h : RD w0 C g s deep S w) (hb : Below w.heap.size w w') : RD w0 C g s deep S w' := by
 obtain ⟨vr, rl, h1, h2, h3, h4, h5, h6, h7⟩ := h.body
 have hl := fun k hk => (h.sw k hk).2
 refine ⟨h.below.trans (hb.mono h.below.size), fun k hk => ⟨(h.sw k hk).1, Nat.lt_of_lt_of_le (hl k hk) hb.size⟩, h.sg, h.sm, h.sh, h.gne, h.mac.of (hb.block _ (hl _ h.sm)), h.rise, h.giv.of (hb.block _ (hl _ h.sh)), vr, rl, (hb.block g (hl g h.sg)).trans h1, ?_, h3, h4, fun r hr => ⟨(h5 r hr).1.below hb, (h5 r hr).2.below hb⟩, fun r hr => (h6 r hr).below hb, fun r hr => ⟨?_, (h7 r hr).2⟩⟩
 · exact ownsRow_of h2 fun k e => hb.block k (hl k (h3 k e).1)
 · exact ownsRow_of (h7 r hr).1 fun k e => hb.block k (hl k ((h7 r hr).2 k e).1)
theorem RD.toP {w0 w w' : World} {C : Rk} {g : Nat} {s : Sx} {deep : Int} {S : Nat → Prop} (h : RD w0 C g s deep S w) (hb : Below w.heap.size w w') : RDP w0 C g s deep S w w' := ⟨S, h.step hb, Kp.of_below hb S, fun _ hk => .inl hk⟩
theorem RDP.go {w0 w w' w'' : World} {C : Rk} {g : Nat} {s : Sx} {deep : Int} {S S' : Nat → Prop} (k : Kp w w' S) (gr : ∀ q, S' q → S q ∨ w.heap.size ≤ q) (h : RDP w0 C g s deep S' w' w'') : RDP w0 C g s deep S w w'' := by
 obtain ⟨T2, f2, k2, gr2⟩ := h
 refine ⟨T2, f2, k.trans (k2.mono gr), fun q hq => ?_⟩
 rcases gr2 q hq with h | h
 · exact gr q h
 · exact .inr (Nat.le_trans k.size h)
theorem RDP.after {w0 w w1 w' : World} {C : Rk} {g : Nat} {s : Sx} {deep : Int} {S : Nat → Prop} (hb : Below w.heap.size w w1) (h : RDP w0 C g s deep S w1 w') : RDP w0 C g s deep S w w' := RDP.go (Kp.of_below hb S) (fun _ e => .inl e) h
theorem RD.lt {w0 w : World} {C : Rk} {g : Nat} {s : Sx} {deep : Int} {S : Nat → Prop} (h : RD w0 C g s deep S w) : g < w.heap.size := (h.sw g h.sg).2
theorem RD.cells {w0 w : World} {C : Rk} {g : Nat} {s : Sx} {deep : Int} {S : Nat → Prop} (h : RD w0 C g s deep S w) : ∃ A c, w.cell? ⟨g, 0, none⟩ = some (.pointer (some ⟨C.gf, 0, none⟩)) ∧ w.cell? ⟨g, 1, none⟩ = some (.string (bs C.cwd)) ∧ w.cell? ⟨g, 2, none⟩ = some (.map (some C.bm)) ∧ w.cell? ⟨g, 3, none⟩ = some (.map (some C.bg)) ∧ w.cell? ⟨g, 4, none⟩ = some (.slice A s.rules.length c) ∧ w.cell? ⟨g, 5, none⟩ = some (.int .i64 deep) ∧ w.cell? ⟨g, 6, none⟩ = some (.int .i64 s.files) ∧ ∀ j, w.frozen? ⟨g, j, none⟩ = false := by
 obtain ⟨vr, rl, h1, h2, h3, h4, _⟩ := h.body
 obtain ⟨A, c, rfl, _⟩ := h2.slice encRl_len
 have hl : rl.length = s.rules.length := by have := congrArg List.length h4; simpa using this
 exact ⟨A, c, cellOf h1 rfl, cellOf h1 rfl, cellOf h1 rfl, cellOf h1 rfl, by rw [← hl]; exact cellOf h1 rfl, cellOf h1 rfl, cellOf h1 rfl, fun j => by simp [World.frozen?, h1]⟩
theorem rkp_set {w : World} {g j : Nat} {v : Value} : Kp w (w.setCell ⟨g, j, none⟩ v) (fun k => k = g) := objKp
theorem rsetA {w : World} {g j : Nat} {cs : Array Value} {t : TypeId} (h : w.heap[g]? = some (.cells cs t)) (v : Value) : (w.setCell ⟨g, j, none⟩ v).heap[g]? = some (.cells (cs.setIfInBounds j v) t) := by
 unfold World.setCell
 simp [Array.getElem?_modify, h]
theorem RD.setN {w0 w w' : World} {C : Rk} {g : Nat} {s s' : Sx} {deep deep' : Int} {S : Nat → Prop} (h : RD w0 C g s deep S w) (hs : s'.mac = s.mac ∧ s'.giv = s.giv ∧ s'.rules = s.rules) (hk : Kp w w' (fun k => k = g)) (hz : w'.heap.size = w.heap.size)
   (hc : ∀ vr, w.heap[g]? = some (.cells (rcells C vr deep s.files) rty) → w'.heap[g]? = some (.cells (rcells C vr deep' s'.files) rty)) : RD w0 C g s' deep' S w' := by
 obtain ⟨vr, rl, h1, h2, h3, h4, h5, h6, h7⟩ := h.body
 obtain ⟨e1, e2, e3⟩ := hs
 have hl := fun k hk => (h.sw k hk).2
 have hkS : Kp w w' S := hk.mono fun k e => e ▸ h.sg
 refine ⟨hk.below h.below (Nat.le_refl _) (fun k e => by subst e; exact (h.sw _ h.sg).1), fun k q => ⟨(h.sw k q).1, by rw [hz]; exact hl k q⟩, h.sg, h.sm, h.sh, h.gne, by rw [e1]; exact h.mac.of (hk.block _ (hl _ h.sm) (fun e => h.gne.1 e.symm)), by rw [e1]; exact h.rise, by rw [e2]; exact h.giv.of (hk.block _ (hl _ h.sh) (fun e => h.gne.2.1 e.symm)), vr, rl, hc vr h1, ?_, h3, by rw [e3]; exact h4, fun r hr => ⟨(h5 r hr).1.kp hkS, (h5 r hr).2.kp hkS⟩, fun r hr => (h6 r hr).kp hkS, fun r hr => ⟨?_, (h7 r hr).2⟩⟩
 · exact ownsRow_of h2 fun k e => hk.block k (hl k (h3 k e).1) (h3 k e).2.1
 · exact ownsRow_of (h7 r hr).1 fun k e => hk.block k (hl k ((h7 r hr).2 k e).1) ((h7 r hr).2 k e).2.1
theorem RD.deepS {w0 w : World} {C : Rk} {g : Nat} {s : Sx} {deep : Int} {S : Nat → Prop} (h : RD w0 C g s deep S w) (d : Int) : RD w0 C g s d S (w.setCell ⟨g, 5, none⟩ (.int .i64 d)) :=
 h.setN ⟨rfl, rfl, rfl⟩ rkp_set (by simp) fun vr hv => by rw [rsetA hv]; rfl
theorem RD.filesS {w0 w : World} {C : Rk} {g : Nat} {s : Sx} {deep : Int} {S : Nat → Prop} (h : RD w0 C g s deep S w) (n : Nat) : RD w0 C g { s with files := n } deep S (w.setCell ⟨g, 6, none⟩ (.int .i64 n)) :=
 h.setN (s' := { s with files := n }) ⟨rfl, rfl, rfl⟩ rkp_set (by simp) fun vr hv => by rw [rsetA hv]; rfl
theorem RD.macS {w0 w w' : World} {C : Rk} {g : Nat} {s : Sx} {deep : Int} {S : Nat → Prop} (h : RD w0 C g s deep S w) {P : KV ByteArray} (hm : MapS w' C.bm P) (hr : RiseG P) (hk : Kp w w' (fun k => k = C.bm)) (hz : w'.heap.size = w.heap.size) : RD w0 C g { s with mac := P } deep S w' := by
 obtain ⟨vr, rl, h1, h2, h3, h4, h5, h6, h7⟩ := h.body
 have hl := fun k hk => (h.sw k hk).2
 have hkS : Kp w w' S := hk.mono fun k e => e ▸ h.sm
 refine ⟨hk.below h.below (Nat.le_refl _) (fun k e => by subst e; exact (h.sw _ h.sm).1), fun k q => ⟨(h.sw k q).1, by rw [hz]; exact hl k q⟩, h.sg, h.sm, h.sh, h.gne, hm, hr, h.giv.of (hk.block _ (hl _ h.sh) (fun e => h.gne.2.2 e.symm)), vr, rl, (hk.block g (hl g h.sg) h.gne.1).trans h1, ?_, h3, h4, fun r hr => ⟨(h5 r hr).1.kp hkS, (h5 r hr).2.kp hkS⟩, fun r hr => (h6 r hr).kp hkS, fun r hr => ⟨?_, (h7 r hr).2⟩⟩
 · exact ownsRow_of h2 fun k e => hk.block k (hl k (h3 k e).1) (h3 k e).2.2.1
 · exact ownsRow_of (h7 r hr).1 fun k e => hk.block k (hl k ((h7 r hr).2 k e).1) ((h7 r hr).2 k e).2.2.1
end
section
open Go.RowKit Go.Deep Go.Maps Ln Pth Vf Rd
theorem sv_own {x : SRow} {k : Nat} : (sv x).ownBlock = some k ↔ ∃ a, x.1 = some a ∧ a.block = k := by
 unfold sv Value.ownBlock
 cases x.1 with
 | none => simp
 | some a => simp
theorem rl_len {rl : List Rl} {L : List RuleS} (h : rl.map outR = L.map ofRS) : rl.length = L.length := by have := congrArg List.length h; simpa using this
theorem RD.addRule {w0 wb w : World} {C : Rk} {g : Nat} {s : Sx} {deep : Int} {S : Nat → Prop} (h : RD w0 C g s deep S wb) (hb : Below wb.heap.size wb w) (r : Rl) (rs : RuleS) (ho : outR r = ofRS rs)
   (htg : RowN w (fun k => wb.heap.size ≤ k ∧ (sv r.rc).ownBlock ≠ some k) r.tg) (hnd : RowN w (fun k => wb.heap.size ≤ k ∧ (sv r.rc).ownBlock ≠ some k) r.nd) (hrc : OwnS w wb.heap.size (sv r.rc) r.rc.2.2) (hl : s.rules.length ≤ 1000)
   {A : Option Addr} {n c : Nat} (hvr : w.cell? ⟨g, 4, none⟩ = some (.slice A n c)) :
   ∃ A4 c4 w4, (Builtin.append_ #[26, 26] 26 #[.slice A n c, .slice (some ⟨w.heap.size, 0, none⟩) 1 1]).run Tryz.prog (w.alloc (.cells #[sv r.tg, sv r.nd, sv r.rc] ruty)) = .ok (.slice A4 (n + 1) c4) w4 ∧
     w4.cell? ⟨g, 4, none⟩ = some (.slice A n c) ∧ w4.frozen? ⟨g, 4, none⟩ = false ∧ RDP w0 C g { s with rules := s.rules ++ [rs] } deep S wb (w4.setCell ⟨g, 4, none⟩ (.slice A4 (n + 1) c4)) := by
 have hw := h.step hb
 obtain ⟨vr, rl, h1, h2, h3, h4, h5, h6, h7⟩ := h.body
 have hl0 := fun k hk => (h.sw k hk).2
 have hgl := hl0 g h.sg
 have hvr2 : w.cell? ⟨g, 4, none⟩ = some vr := (hb.cell (p := ⟨g, 4, none⟩) hgl).trans (cellOf h1 rfl)
 rw [hvr] at hvr2
 obtain rfl := Option.some.inj hvr2
 have h2w : OwnG encRl 3 ruty w w0.heap.size (.slice A n c) rl := ownsRow_of h2 fun k e => hb.block k (hl0 k (h3 k e).1)
 obtain ⟨A', c', e, _, _, _, _⟩ := h2w.slice encRl_len
 injection e with e1 e2 e3
 have hwz : w0.heap.size ≤ w.heap.size := hw.below.size
 have hx : RG encRl 3 (w.alloc (.cells #[sv r.tg, sv r.nd, sv r.rc] ruty)) (some ⟨w.heap.size, 0, none⟩) [r] := rg_new (enc := encRl) (n := 3) w r ruty
 obtain ⟨v4, w4, r4, o4, g4, b4⟩ := run_appG rowRl encRl_len encRl_one (c := 1) (OwnG.alloc h2w (.cells #[sv r.tg, sv r.nd, sv r.rc] ruty)) hx (by simp; omega) (by have := rl_len h4; simp; omega)
 obtain ⟨A4, c4, rfl, _, _, _, _⟩ := o4.slice encRl_len
 rw [List.length_append, List.length_singleton, ← e2] at r4 b4
 have ho4 : OwnG encRl 3 ruty w4 w0.heap.size (.slice A4 (n + 1) c4) (rl ++ [r]) := by
   have := o4
   rw [List.length_append, List.length_singleton, ← e2] at this
   exact this
 have hza : (w.alloc (.cells #[sv r.tg, sv r.nd, sv r.rc] ruty)).heap.size = w.heap.size + 1 := by simp
 have hbz := hb.size
 have hown : ∀ k, (Value.slice A n c).ownBlock = some k → S k ∧ k ≠ g ∧ k ≠ C.bm ∧ k ≠ C.bg := h3
 have hk4 : Kp wb w4 (fun k => (Value.slice A n c).ownBlock = some k) := by
   have hba : Below w.heap.size w (w.alloc (.cells #[sv r.tg, sv r.nd, sv r.rc] ruty)) := (Below.refl _ _).alloc (Nat.le_refl _) _
   exact (Kp.of_below (hb.trans (hba.mono hbz)) _).trans ⟨g4.os, g4.tape, g4.output, g4.size, fun k hk hn => g4.block k hk fun e => hn (.inl e.symm)⟩
 have hks : Kp w4 (w4.setCell ⟨g, 4, none⟩ (.slice A4 (n + 1) c4)) (fun k => k = g) := rkp_set
 have hk : Kp wb (w4.setCell ⟨g, 4, none⟩ (.slice A4 (n + 1) c4)) (fun k => k = g ∨ (Value.slice A n c).ownBlock = some k) := (hk4.mono fun k e => .inr e).trans (hks.mono fun k e => .inl (.inl e))
 have hkS : Kp wb (w4.setCell ⟨g, 4, none⟩ (.slice A4 (n + 1) c4)) S := hk.mono fun k e => e.elim (fun e => e ▸ h.sg) fun e => (hown k e).1
 have hg4 := (hk4.block g hgl (fun e => (hown g e).2.1 rfl)).trans h1
 have hv4 : ∀ k, (Value.slice A4 (n + 1) c4).ownBlock = some k → (Value.slice A n c).ownBlock = some k ∨ k = w.heap.size + 1 := fun k e => by
   rcases b4 with q | q
   · exact .inl (q ▸ e)
   · rw [q, hza] at e; injection e with e; exact .inr e.symm
 have hrb : ∀ k, (sv r.rc).ownBlock = some k → wb.heap.size ≤ k ∧ k < w.heap.size := fun k e => hrc.lt k e
 have hz4 : w.heap.size + 1 ≤ w4.heap.size := by have := g4.size; omega
 have hkw4 : ∀ k, k < w.heap.size → (Value.slice A n c).ownBlock ≠ some k → w4.heap[k]? = w.heap[k]? := fun k hk1 hk2 => (g4.block k (by omega) (fun e => hk2 e.symm)).trans (Below.heap_alloc _ _ _ hk1)
 have hkw : ∀ k, k < w.heap.size → k ≠ g → (Value.slice A n c).ownBlock ≠ some k → (w4.setCell ⟨g, 4, none⟩ (.slice A4 (n + 1) c4)).heap[k]? = w.heap[k]? := fun k hk1 hk2 hk3 => (hks.block k (by omega) hk2).trans (hkw4 k hk1 hk3)
 let S' : Nat → Prop := fun k => (S k ∧ ∀ q, rl.getLast? = some q → (sv q.rc).ownBlock ≠ some k) ∨ (Value.slice A4 (n + 1) c4).ownBlock = some k ∨ (sv r.rc).ownBlock = some k
 have hSl : ∀ k, S k → (∀ q, rl.getLast? = some q → (sv q.rc).ownBlock ≠ some k) → S' k := fun k e1 e2 => .inl ⟨e1, e2⟩
 have keep : ∀ k, S k → (k = g ∨ k = C.bm ∨ k = C.bg ∨ (Value.slice A n c).ownBlock = some k) → S' k := fun k e1 e2 => hSl k e1 fun q hq e3 => by
   obtain ⟨_, p2, p3, p4, p5⟩ := (h7 q hq).2 k e3
   rcases e2 with e2 | e2 | e2 | e2
   · exact p2 e2
   · exact p3 e2
   · exact p4 e2
   · exact p5 e2
 have hrow : ∀ x : SRow, RowN wb (fun k => ¬ S k) x → RowN (w4.setCell ⟨g, 4, none⟩ (.slice A4 (n + 1) c4)) (fun k => ¬ S' k) x := fun x hx => by
   have h8 := hx.kp hkS
   refine ⟨h8.1, h8.2.1, fun a e hne => ?_⟩
   have hns := hx.2.2 a e hne
   have hlt : a.block < wb.heap.size := by
     obtain ⟨s1, L, hL⟩ : ∃ s L, x.2.2 = s :: L := by
       cases hx2 : x.2.2 with
       | nil => exact absurd hx2 hne
       | cons s L => exact ⟨s, L, rfl⟩
     obtain ⟨g', o', e', hg', _⟩ := hx.1 0 s1 (by rw [hL]; rfl)
     rw [e] at e'
     injection e' with e'
     subst e'
     exact hg'
   rintro (q | q | q)
   · exact hns q.1
   · rcases hv4 _ q with q | q
     · exact hns (hown _ q).1
     · omega
   · have := (hrb _ q).1; omega
 have hnew : ∀ x : SRow, RowN w (fun k => wb.heap.size ≤ k ∧ (sv r.rc).ownBlock ≠ some k) x → RowN (w4.setCell ⟨g, 4, none⟩ (.slice A4 (n + 1) c4)) (fun k => ¬ S' k) x := fun x hx => by
   have hns : ∀ a, x.1 = some a → x.2.2 ≠ [] → a.block < w.heap.size := fun a e hne => by
     obtain ⟨s1, L, hL⟩ : ∃ s L, x.2.2 = s :: L := by
       cases hx2 : x.2.2 with
       | nil => exact absurd hx2 hne
       | cons s L => exact ⟨s, L, rfl⟩
     obtain ⟨g', o', e', hg', _⟩ := hx.1 0 s1 (by rw [hL]; rfl)
     rw [e] at e'
     injection e' with e'
     subst e'
     exact hg'
   refine ⟨hx.1.ofK (by simpa using (show w.heap.size ≤ w4.heap.size by omega)) fun a e hne hl2 => hkw _ hl2 (fun e2 => by have := (hx.2.2 a e hne).1; omega) (fun e2 => by have := hl0 _ (hown _ e2).1; have := (hx.2.2 a e hne).1; omega), hx.2.1, fun a e hne => ?_⟩
   obtain ⟨q1, q2⟩ := hx.2.2 a e hne
   have q3 := hns a e hne
   rintro (q | q | q)
   · have := hl0 _ q.1; omega
   · rcases hv4 _ q with q | q
     · have := hl0 _ (hown _ q).1; omega
     · omega
   · exact q2 q
 refine ⟨A4, c4, w4, r4, cellOf hg4 rfl, by simp [World.frozen?, hg4], S', ?_, hkS, fun k e => ?_⟩
 · refine ⟨hkS.below h.below (Nat.le_refl _) fun k e => (h.sw k e).1, fun k e => ?_, keep _ h.sg (.inl rfl), keep _ h.sm (.inr (.inl rfl)), keep _ h.sh (.inr (.inr (.inl rfl))), h.gne, ?_, h.rise, ?_, .slice A4 (n + 1) c4, rl ++ [r], ?_, ?_, ?_, ?_, ?_, ?_, ?_⟩
   · rcases e with e | e | e
     · exact ⟨(h.sw k e.1).1, Nat.lt_of_lt_of_le (hl0 k e.1) hkS.size⟩
     · have := ho4.lt k e
       exact ⟨this.1, by simpa using this.2⟩
     · have := hrb k e
       have := h.below.size
       exact ⟨by omega, by simp; omega⟩
   · exact h.mac.of (hk.block _ (hl0 _ h.sm) (fun e => e.elim (fun e => h.gne.1 e.symm) fun e => (hown _ e).2.2.1 rfl))
   · exact h.giv.of (hk.block _ (hl0 _ h.sh) (fun e => e.elim (fun e => h.gne.2.1 e.symm) fun e => (hown _ e).2.2.2 rfl))
   · rw [rsetA hg4]; rfl
   · exact ownsRow_of ho4 fun k e => hks.block k (ho4.lt k e).2 fun e2 => by
       rcases hv4 k e with q | q
       · exact (hown k q).2.1 e2
       · omega
   · intro k e
     refine ⟨.inr (.inl e), ?_⟩
     rcases hv4 k e with q | q
     · exact (hown k q).2
     · have m1 := hl0 _ h.sm
       have m2 := hl0 _ h.sh
       exact ⟨by omega, by omega, by omega⟩
   · rw [List.map_append, h4]
     show _ = (s.rules ++ [rs]).map ofRS
     rw [List.map_append]
     show _ ++ [outR r] = _ ++ [ofRS rs]
     rw [ho]
   · intro q hq
     rcases List.mem_append.1 hq with hq | hq
     · exact ⟨hrow _ (h5 q hq).1, hrow _ (h5 q hq).2⟩
     · rw [List.mem_singleton.1 hq]
       exact ⟨hnew _ htg, hnew _ hnd⟩
   · rw [List.dropLast_concat]
     intro q hq
     by_cases hq2 : rl.getLast? = some q ∧ q ∉ rl.dropLast
     · obtain ⟨p1, p2⟩ := h7 q hq2.1
       obtain ⟨B, d, e, hd, hs, hbk⟩ := p1.slice
       have hsv : sv q.rc = .slice q.rc.1 q.rc.2.2.length q.rc.2.1 := rfl
       rw [hsv] at e
       injection e with f1 f2 f3
       refine ⟨(f1 ▸ hs : SR wb q.rc.1 q.rc.2.2).ofK hkS.size fun a e hne hl2 => ?_, by omega, fun a e hne => ?_⟩
       · have hk9 := p2 a.block (sv_own.2 ⟨a, e, rfl⟩)
         exact hk.block _ hl2 fun z => z.elim hk9.2.1 hk9.2.2.2.2
       · have hso := sv_own.2 ⟨a, e, rfl⟩
         have hk9 := p2 a.block hso
         have hbl := hl0 _ hk9.1
         rintro (z | z | z)
         · exact z.2 q hq2.1 hso
         · rcases hv4 _ z with z | z
           · exact hk9.2.2.2.2 z
           · omega
         · have := (hrb _ z).1; omega
     · have hq3 : q ∈ rl.dropLast := by
         by_cases hl9 : q ∈ rl.dropLast
         · exact hl9
         · have hne : rl ≠ [] := by rintro rfl; cases hq
           have e : rl = rl.dropLast ++ [rl.getLast hne] := (List.dropLast_concat_getLast hne).symm
           rw [e] at hq
           rcases List.mem_append.1 hq with hq | hq
           · exact absurd hq hl9
           · exact absurd ⟨by rw [List.getLast?_eq_some_getLast hne, List.mem_singleton.1 hq], hl9⟩ hq2
       exact hrow _ (h6 q hq3)
   · intro q hq
     rw [List.getLast?_concat] at hq
     obtain rfl := Option.some.inj hq
     refine ⟨OwnS.base (show OwnS (w4.setCell ⟨g, 4, none⟩ (.slice A4 (n + 1) c4)) wb.heap.size (sv r.rc) r.rc.2.2 from ownsRow_of (w' := w4.setCell ⟨g, 4, none⟩ (.slice A4 (n + 1) c4)) hrc fun k e => hkw k (hrb k e).2 (fun e2 => by have := (hrb k e).1; omega) (fun e2 => by have := hl0 _ (hown _ e2).1; have := (hrb k e).1; omega)) h.below.size, fun k e => ⟨.inr (.inr e), ?_⟩⟩
     have m0 := (hrb k e)
     have m1 := hl0 _ h.sm
     have m2 := hl0 _ h.sh
     refine ⟨by omega, by omega, by omega, fun z => ?_⟩
     rcases hv4 k z with z | z
     · have := hl0 _ (hown _ z).1; omega
     · omega
 · rcases e with e | e | e
   · exact .inl e.1
   · rcases hv4 k e with q | q
     · exact .inl (hown k q).1
     · exact .inr (by omega)
   · exact .inr (hrb k e).1
theorem RD.addLine {w0 w : World} {C : Rk} {g : Nat} {s : Sx} {deep : Int} {S : Nat → Prop} (h : RD w0 C g s deep S w) {ls : List RuleS} {q : RuleS} (hs : s.rules = ls ++ [q]) (x : T) (hl : q.rc.length ≤ 10000000) :
   ∃ gr c B m d B4 d4 w4, w.cell? ⟨g, 4, none⟩ = some (.slice (some ⟨gr, 0, none⟩) (ls.length + 1) c) ∧ w.cell? ⟨gr, ls.length * 3 + 2, none⟩ = some (.slice B m d) ∧
     (Builtin.append_ #[23, 23] 23 #[.slice B m d, .slice (some ⟨w.heap.size, 0, none⟩) 1 1]).run Tryz.prog (w.alloc (.cells #[.string (bs x)] 9)) = .ok (.slice B4 (m + 1) d4) w4 ∧
     w4.cell? ⟨gr, ls.length * 3 + 2, none⟩ = some (.slice B m d) ∧ w4.frozen? ⟨gr, ls.length * 3 + 2, none⟩ = false ∧
     RDP w0 C g { s with rules := ls ++ [{ q with rc := q.rc ++ [x] }] } deep S w (w4.setCell ⟨gr, ls.length * 3 + 2, none⟩ (.slice B4 (m + 1) d4)) ∧
     gr ≠ g ∧ gr < w.heap.size ∧ ∀ k, k < w.heap.size → (k = g ∨ k = gr ∨ ¬ S k) → w4.heap[k]? = w.heap[k]? := by
 obtain ⟨vr, rl, h1, h2, h3, h4, h5, h6, h7⟩ := h.body
 have hl0 := fun k hk => (h.sw k hk).2
 rw [hs, List.map_append] at h4
 have hne : rl ≠ [] := by rintro rfl; simp at h4
 obtain ⟨ri, r, rfl⟩ : ∃ ri r, rl = ri ++ [r] := ⟨rl.dropLast, rl.getLast hne, (List.dropLast_concat_getLast hne).symm⟩
 rw [List.map_append] at h4
 obtain ⟨h4a, h4b⟩ := List.append_inj' h4 rfl
 have hil : ri.length = ls.length := rl_len h4a
 have h4r : outR r = ofRS q := by simpa using h4b
 rw [List.dropLast_concat] at h6
 obtain ⟨p1, p2⟩ := h7 r (by simp)
 have hrcl : r.rc.2.2 = q.rc.map bs := by
   unfold outR ofRS at h4r
   injection h4r with _ h4r
   injection h4r with _ h4r
   injection h4r with h4r
 obtain ⟨A, c, rfl, hcc, hrg, hbk, hz0⟩ := h2.slice encRl_len
 obtain ⟨gr, o, e, hgr, hcr⟩ := hrg ls.length r (by rw [List.getElem?_append_right (by omega), hil]; simp)
 subst e
 obtain ⟨g2, e⟩ := hz0 _ rfl
 injection e with e1 e2
 subst e1 e2
 have hln : (ri ++ [r]).length = ls.length + 1 := by rw [List.length_append, hil]; rfl
 rw [hln] at h1 h2 h3 p2 hcc hbk
 have hgrS := h3 gr rfl
 have hrcc : w.cell? ⟨gr, ls.length * 3 + 2, none⟩ = some (sv r.rc) := by have := hcr 2 _ rfl; simpa using this
 have hn1 : r.rc.2.2.length ≤ 10000000 := by rw [hrcl, List.length_map]; exact hl
 have hsvr : sv r.rc = .slice r.rc.1 r.rc.2.2.length r.rc.2.1 := rfl
 have hwz := h.below.size
 obtain ⟨v4, w4, r4, o4, g4, b4⟩ := run_appS (c := 1) (OwnS.alloc p1 (.cells #[.string (bs x)] 9)) (sr_new w (bs x)) (by simp; omega) (by simp; omega)
 obtain ⟨B4, d4, rfl, hd4, _, _⟩ := o4.slice
 have hml : (r.rc.2.2 ++ [bs x]).length = r.rc.2.2.length + 1 := by simp
 rw [hml] at r4 b4 hd4
 have ho4 : OwnS w4 w0.heap.size (.slice B4 (r.rc.2.2.length + 1) d4) (r.rc.2.2 ++ [bs x]) := by
   have := o4
   rw [hml] at this
   exact this
 have hza : (w.alloc (.cells #[.string (bs x)] 9)).heap.size = w.heap.size + 1 := by simp
 have hz4 : w.heap.size + 1 ≤ w4.heap.size := by have := g4.size; omega
 have hgrl := hl0 gr hgrS.1
 have hkw4 : ∀ k, k < w.heap.size → (sv r.rc).ownBlock ≠ some k → w4.heap[k]? = w.heap[k]? := fun k hk1 hk2 => (g4.block k (by omega) (fun e => hk2 e.symm)).trans (Below.heap_alloc _ _ _ hk1)
 have hgr4 := hkw4 gr hgrl (fun e => (p2 gr e).2.2.2.2 rfl)
 have hv4 : ∀ k, (Value.slice B4 (r.rc.2.2.length + 1) d4).ownBlock = some k → (sv r.rc).ownBlock = some k ∨ k = w.heap.size + 1 := fun k e => by
   rcases b4 with z | z
   · exact .inl (z ▸ e)
   · rw [z, hza] at e; injection e with e; exact .inr e.symm
 have h2w4 : OwnG encRl 3 ruty w4 w0.heap.size (.slice (some ⟨gr, 0, none⟩) (ls.length + 1) c) (ri ++ [r]) := ownsRow_of h2 fun k e => by
   have e' : some gr = some k := e
   injection e' with e'
   subst e'
   exact hgr4
 have h2' : w4.ownsRow w0.heap.size ruty 3 (.slice (some ⟨gr, 0, none⟩) (ls.length + 1) c) (ls.length + 1) (valsG encRl (ri ++ [r])) := by
   have := h2w4
   unfold OwnG at this
   rw [hln] at this
   exact this
 obtain ⟨_, hfz, hput⟩ := ownsRow_put h2' (i := ls.length * 3 + 2) (by omega) (.slice B4 (r.rc.2.2.length + 1) d4)
 obtain ⟨r', hr'⟩ : ∃ r' : Rl, r' = ⟨r.tg, r.nd, (B4, d4, r.rc.2.2 ++ [bs x])⟩ := ⟨_, rfl⟩
 have hsv' : sv r'.rc = .slice B4 (r.rc.2.2.length + 1) d4 := by rw [hr']; unfold sv; rw [hml]
 have hvals : (valsG encRl (ri ++ [r])).set (ls.length * 3 + 2) (.slice B4 (r.rc.2.2.length + 1) d4) = valsG encRl (ri ++ [r']) := by
   have hvl : (valsG encRl ri).length = ls.length * 3 := by rw [valsG_len encRl_len, hil]
   rw [valsG_app, valsG_app, List.set_append, if_neg (by omega), hvl, show ls.length * 3 + 2 - ls.length * 3 = 2 by omega]
   congr 1
   show [sv r.tg, sv r.nd, sv r.rc].set 2 _ ++ [] = encRl r' ++ []
   unfold encRl
   rw [hsv', hr']
   rfl
 rw [hvals] at hput
 have hks : Kp w4 (w4.setCell ⟨gr, ls.length * 3 + 2, none⟩ (.slice B4 (r.rc.2.2.length + 1) d4)) (fun k => k = gr) := rkp_set
 have hk4 : Kp w w4 (fun k => (sv r.rc).ownBlock = some k) := by
   have hba : Below w.heap.size w (w.alloc (.cells #[.string (bs x)] 9)) := (Below.refl _ _).alloc (Nat.le_refl _) _
   exact (Kp.of_below hba _).trans ⟨g4.os, g4.tape, g4.output, g4.size, fun k hk hn => g4.block k hk fun e => hn (.inl e.symm)⟩
 have hk : Kp w (w4.setCell ⟨gr, ls.length * 3 + 2, none⟩ (.slice B4 (r.rc.2.2.length + 1) d4)) (fun k => k = gr ∨ (sv r.rc).ownBlock = some k) := (hk4.mono fun k e => .inr e).trans (hks.mono fun k e => .inl (.inl e))
 have hkS : Kp w (w4.setCell ⟨gr, ls.length * 3 + 2, none⟩ (.slice B4 (r.rc.2.2.length + 1) d4)) S := hk.mono fun k e => e.elim (fun e => e ▸ hgrS.1) fun e => (p2 k e).1
 let S' : Nat → Prop := fun k => S k ∨ (Value.slice B4 (r.rc.2.2.length + 1) d4).ownBlock = some k
 have hrow : ∀ y : SRow, RowN w (fun k => ¬ S k) y → RowN (w4.setCell ⟨gr, ls.length * 3 + 2, none⟩ (.slice B4 (r.rc.2.2.length + 1) d4)) (fun k => ¬ S' k) y := fun y hy => by
   have h8 := hy.mono (N' := fun k => ¬ S' k) fun k hk1 hk2 => by
     rintro (z | z)
     · exact hk2 z
     · rcases hv4 k z with z | z
       · exact hk2 (p2 k z).1
       · omega
   exact h8.kp (hkS.mono fun k e => .inl e)
 refine ⟨gr, c, r.rc.1, r.rc.2.2.length, r.rc.2.1, B4, d4, w4, cellOf h1 rfl, hrcc, r4, (World.cell?_of_block (a := ⟨gr, ls.length * 3 + 2, none⟩) hgr4).trans hrcc, hfz, ⟨S', ?_, hkS, fun k e => ?_⟩, hgrS.2.1, hgrl, fun k hk1 hk2 => hkw4 k hk1 fun e => ?_⟩
 rotate_left 2
 · rcases hk2 with rfl | rfl | hk2
   · exact (p2 _ e).2.1 rfl
   · exact (p2 _ e).2.2.2.2 rfl
   · exact hk2 (p2 _ e).1
 · refine ⟨hkS.below h.below (Nat.le_refl _) fun k e => (h.sw k e).1, fun k e => ?_, .inl h.sg, .inl h.sm, .inl h.sh, h.gne, ?_, h.rise, ?_, .slice (some ⟨gr, 0, none⟩) (ls.length + 1) c, ri ++ [r'], ?_, ?_, fun k e => ?_, ?_, ?_, ?_, ?_⟩
   · rcases e with e | e
     · exact ⟨(h.sw k e).1, Nat.lt_of_lt_of_le (hl0 k e) hkS.size⟩
     · have := ho4.lt k e
       exact ⟨this.1, by simpa using this.2⟩
   · exact h.mac.of (hk.block _ (hl0 _ h.sm) fun e => e.elim (fun e => hgrS.2.2.1 e.symm) fun e => (p2 _ e).2.2.1 rfl)
   · exact h.giv.of (hk.block _ (hl0 _ h.sh) fun e => e.elim (fun e => hgrS.2.2.2 e.symm) fun e => (p2 _ e).2.2.2.1 rfl)
   · exact (hk.block g (hl0 g h.sg) fun e => e.elim (fun e => hgrS.2.1 e.symm) fun e => (p2 _ e).2.1 rfl).trans h1
   · unfold OwnG
     rw [show (ri ++ [r']).length = ls.length + 1 by rw [List.length_append, hil]; rfl]
     exact hput
   · have := h3 k e
     exact ⟨.inl this.1, this.2⟩
   · rw [List.map_append]
     show ri.map outR ++ [outR r'] = (ls ++ [({ q with rc := q.rc ++ [x] } : RuleS)]).map ofRS
     rw [h4a, List.map_append]
     congr 1
     show [outR r'] = [ofRS { q with rc := q.rc ++ [x] }]
     congr 1
     unfold outR ofRS at h4r ⊢
     injection h4r with f1 h4r
     injection h4r with f2 h4r
     rw [hr', f1, f2, hrcl]
     simp
   · intro y hy
     rcases List.mem_append.1 hy with hy | hy
     · exact ⟨hrow _ (h5 y (by simp [hy])).1, hrow _ (h5 y (by simp [hy])).2⟩
     · rw [List.mem_singleton.1 hy, hr']
       exact ⟨hrow _ (h5 r (by simp)).1, hrow _ (h5 r (by simp)).2⟩
   · rw [List.dropLast_concat]
     exact fun y hy => hrow _ (h6 y hy)
   · intro y hy
     rw [List.getLast?_concat] at hy
     obtain rfl := Option.some.inj hy
     rw [hsv']
     refine ⟨?_, fun k e => ⟨.inr e, ?_⟩⟩
     · have : r'.rc.2.2 = r.rc.2.2 ++ [bs x] := by rw [hr']
       rw [this]
       exact ownsRow_of ho4 fun k e => hks.block k (ho4.lt k e).2 fun e2 => by
         rcases hv4 k e with z | z
         · exact (p2 k z).2.2.2.2 (by rw [e2]; rfl)
         · omega
     · have m1 := hl0 _ h.sm
       have m2 := hl0 _ h.sh
       have m3 := hl0 _ h.sg
       rcases hv4 k e with z | z
       · exact (p2 k z).2
       · refine ⟨by omega, by omega, by omega, fun e2 => ?_⟩
         have e' : some gr = some k := e2
         injection e' with e'
         omega
 · rcases e with e | e
   · exact .inl e
   · rcases hv4 k e with z | z
     · exact .inl (p2 k z).1
     · exact .inr (by omega)
end
section
open Go.RowKit Go.Deep
attribute [local go_sem] bt_eq
theorem cont_any (A : Option Addr) (c : Nat) (L : List ByteArray) (x : ByteArray) (w : World) (hA : SR w A L) (hl : L.length ≤ 1000000) :
   Calls Tryz.prog 296 #[.slice A L.length c, .string x] w fun e w' => e = .returned (.bool (Lib.containsS L x)) ∧ w = w' := by
 cases L with
 | nil => exact (Tryz.slices_Contains_string_empty A c x w).mono fun e w' ⟨h1, h2⟩ => ⟨h1, h2.symm⟩
 | cons y L =>
   obtain ⟨g, o, rfl, _, _⟩ := hA 0 y rfl
   have := Tryz.slices_Contains_string g o (y :: L).length c (y :: L) x w (Nat.le_refl _) (by omega) (fun j hj => by
     obtain ⟨g', o', e, _, hc⟩ := hA j ((y :: L)[j]) (List.getElem?_eq_getElem hj)
     injection e with e
     injection e with e1 e2
     subst e1 e2
     rw [hc]
     congr 2
     rw [List.getD_eq_getElem?_getD, List.getElem?_eq_getElem hj]
     rfl)
   rw [List.take_length] at this
   exact this.mono fun e w' ⟨h1, h2⟩ => ⟨h1, h2.symm⟩
theorem stemIs_any (s : ByteArray) (w : World) : Calls Tryz.prog 200 #[.string s] w fun e w' => e = .returned (.bool (isP s)) ∧ w = w' := by
 have h := Tryz.strings_Contains_one s 37 w
 rw [show decide (0 ≤ Lib.indexByte s.data.toList 37) = isP s from decide_eq_decide.2 (ixb_mem 37 _)] at h
 have H := hide h
 clear h
 generalize isP s = b at *
 go_enter Tryz.func200, Tryz.ntmps200
 go_wp2_with fail
 refine H.out.mono ?_
 rintro e w' ⟨rfl, rfl⟩
 go_wp2
 go_ret
 exact ⟨rfl, rfl⟩
theorem OwnS.below' {w w' : World} {base : Nat} {v : Value} {L : List ByteArray} (h : OwnS w base v L) (hb : Below w.heap.size w w') : OwnS w' base v L := by
 obtain ⟨h1, h2⟩ := h
 refine ⟨h1, h2.imp id ?_⟩
 rintro ⟨g, cap, cur, e, hg, hh, r⟩
 exact ⟨g, cap, cur, e, hg, (hb.block g (Array.getElem?_eq_some_iff.1 hh).1).trans hh, r⟩
end
section
open Go.RowKit Go.Deep Go.Maps Ln Pth Vf
attribute [local go_sem] bt_eq
theorem cut_any (p : T) (w : World) (hm : MX w) (hp : p.length ≤ 6600000) : Calls Tryz.prog 147 #[.string (bs p), .string ⟨#[37]⟩] w fun e w' => e = .returned (.tuple #[.string (bs (frontT p)), .string (bs (backT p)), .bool (cutsT p)]) ∧ Below w.heap.size w w' := by
 obtain ⟨m, hm⟩ := hm
 refine (Tryz.strings_Cut (bs p) ⟨#[37]⟩ m w (by rw [bs_size]; omega) hm).mono ?_
 rintro e w' ⟨h, n, rfl⟩
 refine ⟨?_, below_drewN (Below.refl _ _) n⟩
 rw [h, bs_list]
 rfl
theorem hpre_any (s p : T) (w : World) : Calls Tryz.prog 48 #[.string (bs s), .string (bs p)] w fun e w' => e = .returned (.bool (Lib.hasPrefix s p)) ∧ w = w' := by
 refine (Tryz.strings_HasPrefix (bs s) (bs p) w).mono ?_
 rintro e w' ⟨h1, h2⟩
 rw [bs_list, bs_list] at h1
 exact ⟨h1, h2.symm⟩
theorem hsuf_any (s p : T) (w : World) (hs : s.length ≤ 6600000) : Calls Tryz.prog 302 #[.string (bs s), .string (bs p)] w fun e w' => e = .returned (.bool (Lib.hasSuffix s p)) ∧ w = w' := by
 refine (Tryz.strings_HasSuffix (bs s) (bs p) w (by rw [bs_size]; omega)).mono ?_
 rintro e w' ⟨h1, h2⟩
 rw [bs_list, bs_list] at h1
 exact ⟨h1, h2.symm⟩
theorem bs_eqv (a b : T) : ((bs a).toList == (bs b).toList) = decide (a = b) := by
 rw [bs_toList, bs_toList]
 by_cases h : a = b
 · subst h; simp
 · simp [h]
theorem match_any (p s : T) (w : World) (hm : MX w) (hp : p.length ≤ 6600000) (hs : s.length ≤ 6600000) :
   Calls Tryz.prog 298 #[.string (bs p), .string (bs s)] w fun e w' => e = .returned (.tuple #[.string (bs (matchT p s).1), .bool (matchT p s).2]) ∧ Below w.heap.size w w' := by
 have HC := hide (cut_any p w hm hp)
 have h1 := front_len p
 have h2 := back_len p
 have hR : matchT p s = if cutsT p = false then ([], decide (s = p)) else if s.length ≤ (frontT p).length + (backT p).length then ([], false) else if Lib.hasPrefix s (frontT p) = false then ([], false) else if Lib.hasSuffix s (backT p) = false then ([], false) else ((s.drop (frontT p).length).take (s.length - (backT p).length - (frontT p).length), true) := rfl
 generalize frontT p = fr at *
 generalize backT p = bk at *
 generalize cutsT p = cb at *
 have HPR := hide (fun W => hpre_any s fr W)
 have HSU := hide (fun W => hsuf_any s bk W hs)
 have zs : (bs s).size = s.length := bs_size s
 have zf : (bs fr).size = fr.length := bs_size fr
 have zb : (bs bk).size = bk.length := bs_size bk
 have HEQ := hide (bs_eqv s p)
 have HR := hide hR
 clear hR hm
 have HEX := hide (fun i j => ext_bs s i j)
 obtain ⟨sl, hsl⟩ : ∃ k, s.length = k := ⟨_, rfl⟩
 obtain ⟨fl, hfl⟩ : ∃ k, fr.length = k := ⟨_, rfl⟩
 obtain ⟨bl, hbl⟩ : ∃ k, bk.length = k := ⟨_, rfl⟩
 rw [hsl] at zs hs HR
 rw [hfl] at zf h1 HR
 rw [hbl] at zb h2 HR
 clear hsl hfl hbl
 cases cb with
 | false =>
   have HE := hide (HR.out.trans (if_pos rfl))
   obtain ⟨q, hq⟩ : ∃ q, decide (s = p) = q := ⟨_, rfl⟩
   rw [hq] at HEQ HE
   clear hq
   have heq := HEQ.out
   go_enter Tryz.func298, Tryz.ntmps298
   go_wp2_with fail
   refine HC.out.mono ?_
   rintro e w1 ⟨rfl, hb⟩
   have HB := hide hb
   clear hb
   go_wp2
   go_ret2
   rw [HE.out]
   exact ⟨rfl, HB.out⟩
 | true =>
   have hr1 := HR.out.trans (if_neg (by simp))
   by_cases c1 : sl ≤ fl + bl
   · have HE := hide (hr1.trans (if_pos c1))
     have d1 : decide ((sl : Int) ≤ (fl : Int) + (bl : Int)) = true := by simp; omega
     clear hr1
     go_enter Tryz.func298, Tryz.ntmps298
     go_wp2_with fail
     refine HC.out.mono ?_
     rintro e w1 ⟨rfl, hb⟩
     have HB := hide hb
     clear hb
     go_wp2
     go_ret2
     rw [HE.out]
     exact ⟨rfl, HB.out⟩
   have d1 : decide ((sl : Int) ≤ (fl : Int) + (bl : Int)) = false := by simp; omega
   have hr2 := hr1.trans (if_neg c1)
   obtain ⟨b2, hb2⟩ : ∃ b, Lib.hasPrefix s fr = b := ⟨_, rfl⟩
   obtain ⟨b3, hb3⟩ : ∃ b, Lib.hasSuffix s bk = b := ⟨_, rfl⟩
   rw [hb2] at HPR hr2
   rw [hb3] at HSU hr2
   clear hr1 hb2 hb3
   cases b2 with
   | false =>
     have HE := hide (hr2.trans (if_pos rfl))
     clear hr2
     go_enter Tryz.func298, Tryz.ntmps298
     go_wp2_with fail
     refine HC.out.mono ?_
     rintro e w1 ⟨rfl, hb⟩
     have HB := hide hb
     clear hb
     go_wp2_with fail
     refine (HPR.out w1).mono ?_
     rintro e w' ⟨rfl, rfl⟩
     go_wp2
     go_ret2
     rw [HE.out]
     exact ⟨rfl, HB.out⟩
   | true =>
     have hr3 := hr2.trans (if_neg (by simp))
     clear hr2
     cases b3 with
     | false =>
       have HE := hide (hr3.trans (if_pos rfl))
       clear hr3
       go_enter Tryz.func298, Tryz.ntmps298
       go_wp2_with fail
       refine HC.out.mono ?_
       rintro e w1 ⟨rfl, hb⟩
       have HB := hide hb
       clear hb
       go_wp2_with fail
       refine (HPR.out w1).mono ?_
       rintro e w' ⟨rfl, rfl⟩
       go_wp2_with fail
       refine (HSU.out w1).mono ?_
       rintro e w' ⟨rfl, rfl⟩
       go_wp2
       go_ret2
       rw [HE.out]
       exact ⟨rfl, HB.out⟩
     | true =>
       have HE := hide (hr3.trans (if_neg (by simp)))
       have HX := hide (HEX.out fl (sl - bl))
       have b4 : fl ≤ sl - bl := by omega
       have b5 : ((sl - bl : Nat) : Int) = (sl : Int) - (bl : Int) := by omega
       clear hr3
       go_enter Tryz.func298, Tryz.ntmps298
       go_wp2_with fail
       refine HC.out.mono ?_
       rintro e w1 ⟨rfl, hb⟩
       have HB := hide hb
       clear hb
       go_wp2_with fail
       refine (HPR.out w1).mono ?_
       rintro e w' ⟨rfl, rfl⟩
       go_wp2_with fail
       refine (HSU.out w1).mono ?_
       rintro e w' ⟨rfl, rfl⟩
       go_wp2
       go_ret2
       rw [HE.out]
       refine ⟨?_, HB.out⟩
       show Ending.returned (.tuple #[.string ((bs s).extract fl (sl - bl)), .bool true]) = _
       rw [HX.out]
theorem fill_any (p st : T) (w : World) (hm : MX w) (hp : p.length ≤ 6600000) (hs : st.length ≤ 6600000) :
   Calls Tryz.prog 299 #[.string (bs p), .string (bs st)] w fun e w' => e = .returned (.string (bs (fillT p st))) ∧ Below w.heap.size w w' := by
 have HC := hide (cut_any p w hm hp)
 have h1 := front_len p
 have h2 := back_len p
 have hR : fillT p st = if cutsT p = false then p else frontT p ++ st ++ backT p := rfl
 generalize frontT p = fr at *
 generalize backT p = bk at *
 generalize cutsT p = cb at *
 have HAP := hide (show bs fr ++ bs st ++ bs bk = bs (fr ++ st ++ bk) by rw [bs_app, bs_app])
 have zf : (bs fr).size = fr.length := bs_size fr
 have zb : (bs bk).size = bk.length := bs_size bk
 have zs : (bs st).size = st.length := bs_size st
 have HR := hide hR
 clear hR hm
 cases cb with
 | false =>
   have HE := hide (HR.out.trans (if_pos rfl))
   go_enter Tryz.func299, Tryz.ntmps299
   go_wp2_with fail
   refine HC.out.mono ?_
   rintro e w1 ⟨rfl, hb⟩
   have HB := hide hb
   clear hb
   go_wp2
   go_ret
   rw [HE.out]
   exact ⟨rfl, HB.out⟩
 | true =>
   have HE := hide (HR.out.trans (if_neg (by simp)))
   go_enter Tryz.func299, Tryz.ntmps299
   go_wp2_with fail
   refine HC.out.mono ?_
   rintro e w1 ⟨rfl, hb⟩
   have HB := hide hb
   clear hb
   go_wp2
   go_ret
   rw [HE.out, ← HAP.out]
   exact ⟨rfl, HB.out⟩
end
section
section
variable {P : Program} {ops : Array Oper} {Q : Exit → Act → World → Prop} {md : Region.Mode} {S : World → Prop}
theorem wpAnyH_tk {i d : Nat} {oi : Oper} {v : Value} {fuel : Nat} {listed : Array Bool} {a : Act} {w : World} (hi : ops[i]? = some oi) (hd : oi.dst = some d)
   (hs : Region.noSelect ops = true) (hf : Region.free md ops listed i = true) (hr : (Region.ready md ops listed).contains i = true)
   (hQ : ∀ c a w, Q (.panic c) (a.put oi.dst v) w → Q (.panic c) a w) (hy : YieldsIf P ops S oi v a) (hS : S w)
   (h : wpAnyH P md ops Q S fuel (listed.setIfInBounds i true) { a with tmps := a.tmps.setIfInBounds d v } w) : wpAnyH P md ops Q S (fuel + 1) listed a w :=
 wpAnyH_take hi hs hf hr hQ hy hS (by rw [hd]; exact h)
theorem tq {i d : Nat} {oi : Oper} {v : Value} {fuel : Nat} {listed : Array Bool} {a : Act} {w : World} (hi : ops[i]? = some oi) (hd : oi.dst = some d)
   (hc : (Region.noSelect ops && (Region.free md ops listed i && ((Region.ready md ops listed).contains i && Region.wanted oi (yielded ops a.tmps)))) = true)
   (hQ : ∀ c a w, Q (.panic c) (a.put oi.dst v) w → Q (.panic c) a w) (hy : ∀ w, S w → (execOp a.eval oi).run P w = .ok (.value v) w) (hS : S w)
   (h : wpAnyH P md ops Q S fuel (listed.setIfInBounds i true) { a with tmps := a.tmps.setIfInBounds d v } w) : wpAnyH P md ops Q S (fuel + 1) listed a w := by
 simp only [Bool.and_eq_true] at hc
 exact wpAnyH_tk hi hd hc.1 hc.2.1 hc.2.2.1 hQ (Or.inl ⟨hc.2.2.2, hy⟩) hS h
theorem rq {k : Nat} {o : Oper} {fuel : Nat} {listed : Array Bool} {a : Act} {w : World} (ho : ops[k]? = some o) (hr : Region.ready md ops listed = [k]) (hw : Region.wanted o (yielded ops a.tmps) = true)
   (h : ∀ K' : Act → World → Prop, Shut (∀ a w, S w → (S w → wpAnyH P md ops Q S fuel (listed.setIfInBounds k true) a w) → K' a w) → Oper.wp P o a w K' Q) : wpAnyH P md ops Q S (fuel + 1) listed a w :=
 wpAnyH_ready hr (by simp) (AllReadyH.cons ho (fun K hK => by rw [if_pos hw]; exact h K hK) AllReadyH.nil)
theorem sA {α : Type} {l : List α} {i : Nat} {a : α} : l.toArray.setIfInBounds i a = (l.set i a).toArray := List.setIfInBounds_toArray l i a
theorem sB {α : Type} {x : α} {xs : List α} {a : α} : (x :: xs).set 0 a = a :: xs := List.set_cons_zero
theorem sC {α : Type} {x : α} {xs : List α} {i : Nat} {a : α} : (x :: xs).set (i + 1) a = x :: xs.set i a := List.set_cons_succ
theorem step_app_run {o : Oper} {a : Act} {w : World} {K : Act → World → Prop} {X : Prop} {t : TypeId} {v xv v' : Value} {w' : World} (hgd : o.guard = none) (s x : Operand)
   (ho : o.op = .call { callee := .builtin .append, args := #[s, x], argTypes := #[t, t] }) (ht : o.type = t) (hs : a.eval s = v) (hx : a.eval x = xv)
   (hrun : (Builtin.append_ #[t, t] t #[v, xv]).run P w = .ok v' w') (hk : K (a.put o.dst v') w') : if Region.wanted o (yielded ops a.tmps) = true then Oper.wp P o a w K Q else X := by
 have hw : Region.wanted o (yielded ops a.tmps) = true := by simp [Region.wanted, hgd]
 rw [if_pos hw]
 unfold Oper.wp execOp
 simp only [ho, resolve, invoke, builtin, Sem.run_bind, Sem.run_pure, Result.andThen_ok, List.map_toArray, List.map_cons, List.map_nil, hs, hx, ht, hrun]
 exact hk
end
end
section
open Go.RowKit Go.Deep Ln Mc
attribute [local go_sem] bt_eq
def pwm (c : Nat) : List PanicEntry := [{ v := .iface 268 (.agg #[.int .i64 c]), recovered := false }]
theorem mfail_any (c : Nat) (w : World) : Calls Tryz.prog 273 #[.int .i64 c] w fun e w' => e = .panicked (pwm c) ∧ w = w' := by
 go_enter Tryz.func273, Tryz.ntmps273
 go_wp2
 exact ⟨rfl, rfl, rfl⟩
theorem cutc_any (p : T) (c : UInt8) (w : World) (hm : MX w) (hp : p.length ≤ 66000000) : Calls Tryz.prog 147 #[.string (bs p), .string ⟨#[c]⟩] w fun e w' => e = .returned (.tuple #[.string (bs (Lib.cut p [c]).1), .string (bs (Lib.cut p [c]).2.1), .bool (Lib.cut p [c]).2.2]) ∧ Below w.heap.size w w' := by
 obtain ⟨m, hm⟩ := hm
 refine (Tryz.strings_Cut (bs p) ⟨#[c]⟩ m w (by rw [bs_size]; omega) hm).mono ?_
 rintro e w' ⟨h, n, rfl⟩
 refine ⟨?_, below_drewN (Below.refl _ _) n⟩
 rw [h, bs_list]
 rfl
theorem ixb_at (c : UInt8) : ∀ p : T, (c ∉ p ∧ Lib.indexByte p c = -1) ∨ ∃ a b, p = a ++ c :: b ∧ (∀ d ∈ a, d ≠ c) ∧ Lib.indexByte p c = (a.length : Int)
 | [] => .inl ⟨by simp, rfl⟩
 | d :: p => by
   by_cases e : d = c
   · subst e
     exact .inr ⟨[], p, rfl, by simp, by rw [Lib.indexByte, if_pos (by simp)]; rfl⟩
   · rcases ixb_at c p with ⟨h1, h2⟩ | ⟨a, b, h1, h2, h3⟩
     · exact .inl ⟨by simp [h1, Ne.symm e], by rw [Lib.indexByte, if_neg (by simpa using e), h2]; rfl⟩
     · refine .inr ⟨d :: a, b, by rw [h1]; rfl, fun x hx => ?_, ?_⟩
       · rcases List.mem_cons.1 hx with rfl | hx
         · exact e
         · exact h2 x hx
       · rw [Lib.indexByte, if_neg (by simpa using e), h3, if_neg (by simp only [beq_iff_eq]; omega)]
         simp
theorem cut_at (p : T) (c : UInt8) : (c ∉ p ∧ Lib.cut p [c] = (p, [], false)) ∨ ∃ a b, p = a ++ c :: b ∧ (∀ d ∈ a, d ≠ c) ∧ Lib.cut p [c] = (a, b, true) := by
 have h0 : Lib.cut p [c] = if 0 ≤ Lib.indexByte p c then (p.take (Lib.indexByte p c).toNat, p.drop ((Lib.indexByte p c).toNat + 1), true) else (p, [], false) := by
   unfold Lib.cut
   rw [Lib.index_one]
   rfl
 rcases ixb_at c p with ⟨h1, h2⟩ | ⟨a, b, h1, h2, h3⟩
 · exact .inl ⟨h1, by rw [h0, h2]; rfl⟩
 · refine .inr ⟨a, b, h1, h2, ?_⟩
   rw [h0, h3, if_pos (by omega), Int.toNat_natCast]
   subst h1
   simp
theorem mname_any (l : T) (w : World) (hl : l.length ≤ 1000000) : Calls Tryz.prog 35 #[.string (bs l)] w fun e w' => e = .returned (.bool (nameF l)) ∧ Below w.heap.size w w' := by
 obtain ⟨n, hn⟩ : ∃ n, l.length = n := ⟨_, rfl⟩
 have HN := hide hn
 have hsz : (bs l).size = n := by rw [bs_size, hn]
 by_cases h0 : l = []
 · subst h0
   rw [show bs ([] : T) = ⟨#[]⟩ from rfl]
   go_enter Tryz.func35, Tryz.ntmps35
   go_wp2
   go_ret
   exact ⟨rfl, Below.refl _ _⟩
 have hne : (bs l).toList.isEmpty = false := by
   rw [bs_toList]
   cases l with
   | nil => exact absurd rfl h0
   | cons _ _ => rfl
 by_cases h6 : 60 < n
 · have h6i : (60 : Int) < (n : Int) := by omega
   have HF := hide (show nameF l = false by unfold nameF; rw [decide_eq_false (by omega)]; simp)
   clear h0 hn
   go_enter Tryz.func35, Tryz.ntmps35
   go_wp2
   go_ret
   rw [HF.out]
   exact ⟨rfl, Below.refl _ _⟩
 have h6i : ¬ (60 : Int) < (n : Int) := by omega
 obtain ⟨cp, W, hcv, hrg, hbw, hcp, hcp2, hsz2⟩ := conv_SB w l (by omega)
 rw [hn] at hcv
 have HRG := hide hrg
 have HBW := hide hbw
 have HF := hide (show nameF l = l.all nameC by unfold nameF; rw [decide_eq_true (by omega)]; cases l with | nil => exact absurd rfl h0 | cons _ _ => simp)
 clear hrg hbw hcp hcp2 h0 hn
 go_enter Tryz.func35, Tryz.ntmps35
 go_wp2
 go_loopw [4, 15] (fun _ v15 wr => ∃ k : Nat, v15 = .int .i64 k ∧ k ≤ n ∧ Hid ((l.take k).all nameC = true) ∧ W = wr) (fun _ v15 _ => n - (intOf v15).toNat)
 case atStart => exact ⟨0, rfl, by omega, hide rfl, rfl⟩
 case round =>
   obtain ⟨k, rfl, hk, HA, rfl⟩ := hrel
   by_cases hlt : k < n
   case neg =>
     obtain rfl : k = n := by omega
     have htk : l.take k = l := List.take_of_length_le (by have := HN.out; omega)
     have HA2 := hide (htk ▸ HA.out)
     clear htk
     go_wp2
     go_ret
     rw [HF.out, HA2.out]
     exact ⟨rfl, HBW.out⟩
   obtain ⟨c, hc⟩ : ∃ c, l[k]? = some c := ⟨l[k]'(by have := HN.out; omega), gE _⟩
   obtain ⟨g, o, e, hg, hcc⟩ := HRG.out k c hc
   injection e with e
   injection e with e1 e2
   subst e1 e2
   have hc0 : W.cell? ⟨w.heap.size, k, none⟩ = some (.int .u8 c.toNat) := by have := hcc 0 _ rfl; simpa using this
   have b1 : (k : Int) < (n : Int) := by omega
   obtain ⟨m, hm⟩ : ∃ m, c.toNat = m := ⟨_, rfl⟩
   rw [hm] at hc0
   have hm256 : m < 256 := by rw [← hm]; exact UInt8.toNat_lt c
   have HC := hide hc
   have HM := hide hm
   have hcases : m < 45 ∨ m = 45 ∨ m = 46 ∨ m = 47 ∨ (48 ≤ m ∧ m ≤ 57) ∨ (58 ≤ m ∧ m ≤ 64) ∨ (65 ≤ m ∧ m ≤ 90) ∨ (91 ≤ m ∧ m ≤ 94) ∨ m = 95 ∨ m = 96 ∨ (97 ≤ m ∧ m ≤ 122) ∨ 122 < m := by omega
   have HNC := hide (show nameC c = ((decide (97 ≤ m) && decide (m ≤ 122)) || (decide (65 ≤ m) && decide (m ≤ 90)) || (decide (48 ≤ m) && decide (m ≤ 57)) || decide (m = 95) || decide (m = 46) || decide (m = 45)) by
     subst hm
     have e : ∀ d : UInt8, (c == d) = decide (c.toNat = d.toNat) := fun d => by
       rw [Bool.eq_iff_iff, beq_iff_eq, decide_eq_true_iff]
       exact UInt8.toNat_inj.symm
     unfold nameC
     rw [e, e, e]
     rfl)
   have HNO := hide (fun (h : nameC c = false) => show nameF l = false by
     rw [HF.out, List.all_eq_false]
     exact ⟨c, List.mem_of_getElem? HC.out, by rw [h]; simp⟩)
   have HYES := hide (fun (h : nameC c = true) => show (l.take (k + 1)).all nameC = true by
     rw [List.take_add_one, HC.out, List.all_append, HA.out]
     simp [h])
   clear hc hm hcc
   have hdec : ∀ b : Bool, b = true ∨ b = false := fun b => by cases b <;> simp
   rcases hcases with q | q | q | q | q | q | q | q | q | q | q | q
   · (first | (have t0 : (97 : Int) ≤ (m : Int) := by omega) | (have t0 : ¬ (97 : Int) ≤ (m : Int) := by omega))
     (first | (have t1 : (m : Int) ≤ (122 : Int) := by omega) | (have t1 : ¬ (m : Int) ≤ (122 : Int) := by omega))
     (first | (have t2 : (65 : Int) ≤ (m : Int) := by omega) | (have t2 : ¬ (65 : Int) ≤ (m : Int) := by omega))
     (first | (have t3 : (m : Int) ≤ (90 : Int) := by omega) | (have t3 : ¬ (m : Int) ≤ (90 : Int) := by omega))
     (first | (have t4 : (48 : Int) ≤ (m : Int) := by omega) | (have t4 : ¬ (48 : Int) ≤ (m : Int) := by omega))
     (first | (have t5 : (m : Int) ≤ (57 : Int) := by omega) | (have t5 : ¬ (m : Int) ≤ (57 : Int) := by omega))
     (first | (have t6 : (((m : Nat) : Int) == 95) = true := by simp only [beq_iff_eq]; omega) | (have t6 : (((m : Nat) : Int) == 95) = false := by simp only [beq_eq_false_iff_ne]; omega))
     (first | (have t7 : (((m : Nat) : Int) == 46) = true := by simp only [beq_iff_eq]; omega) | (have t7 : (((m : Nat) : Int) == 46) = false := by simp only [beq_eq_false_iff_ne]; omega))
     (first | (have t8 : (((m : Nat) : Int) == 45) = true := by simp only [beq_iff_eq]; omega) | (have t8 : (((m : Nat) : Int) == 45) = false := by simp only [beq_eq_false_iff_ne]; omega))
     have HG := hide (HNO.out (by rw [HNC.out]; simp; omega))
     clear hdec
     go_wp2
     go_ret
     rw [HG.out]
     exact ⟨rfl, HBW.out⟩
   · (first | (have t0 : (97 : Int) ≤ (m : Int) := by omega) | (have t0 : ¬ (97 : Int) ≤ (m : Int) := by omega))
     (first | (have t1 : (m : Int) ≤ (122 : Int) := by omega) | (have t1 : ¬ (m : Int) ≤ (122 : Int) := by omega))
     (first | (have t2 : (65 : Int) ≤ (m : Int) := by omega) | (have t2 : ¬ (65 : Int) ≤ (m : Int) := by omega))
     (first | (have t3 : (m : Int) ≤ (90 : Int) := by omega) | (have t3 : ¬ (m : Int) ≤ (90 : Int) := by omega))
     (first | (have t4 : (48 : Int) ≤ (m : Int) := by omega) | (have t4 : ¬ (48 : Int) ≤ (m : Int) := by omega))
     (first | (have t5 : (m : Int) ≤ (57 : Int) := by omega) | (have t5 : ¬ (m : Int) ≤ (57 : Int) := by omega))
     (first | (have t6 : (((m : Nat) : Int) == 95) = true := by simp only [beq_iff_eq]; omega) | (have t6 : (((m : Nat) : Int) == 95) = false := by simp only [beq_eq_false_iff_ne]; omega))
     (first | (have t7 : (((m : Nat) : Int) == 46) = true := by simp only [beq_iff_eq]; omega) | (have t7 : (((m : Nat) : Int) == 46) = false := by simp only [beq_eq_false_iff_ne]; omega))
     (first | (have t8 : (((m : Nat) : Int) == 45) = true := by simp only [beq_iff_eq]; omega) | (have t8 : (((m : Nat) : Int) == 45) = false := by simp only [beq_eq_false_iff_ne]; omega))
     have HG := hide (HYES.out (by rw [HNC.out]; simp; omega))
     clear hdec
     go_wp2
     exact ⟨⟨k + 1, by go_num, by omega, hide HG.out, trivial⟩, by simp [intOf]; omega⟩
   · (first | (have t0 : (97 : Int) ≤ (m : Int) := by omega) | (have t0 : ¬ (97 : Int) ≤ (m : Int) := by omega))
     (first | (have t1 : (m : Int) ≤ (122 : Int) := by omega) | (have t1 : ¬ (m : Int) ≤ (122 : Int) := by omega))
     (first | (have t2 : (65 : Int) ≤ (m : Int) := by omega) | (have t2 : ¬ (65 : Int) ≤ (m : Int) := by omega))
     (first | (have t3 : (m : Int) ≤ (90 : Int) := by omega) | (have t3 : ¬ (m : Int) ≤ (90 : Int) := by omega))
     (first | (have t4 : (48 : Int) ≤ (m : Int) := by omega) | (have t4 : ¬ (48 : Int) ≤ (m : Int) := by omega))
     (first | (have t5 : (m : Int) ≤ (57 : Int) := by omega) | (have t5 : ¬ (m : Int) ≤ (57 : Int) := by omega))
     (first | (have t6 : (((m : Nat) : Int) == 95) = true := by simp only [beq_iff_eq]; omega) | (have t6 : (((m : Nat) : Int) == 95) = false := by simp only [beq_eq_false_iff_ne]; omega))
     (first | (have t7 : (((m : Nat) : Int) == 46) = true := by simp only [beq_iff_eq]; omega) | (have t7 : (((m : Nat) : Int) == 46) = false := by simp only [beq_eq_false_iff_ne]; omega))
     (first | (have t8 : (((m : Nat) : Int) == 45) = true := by simp only [beq_iff_eq]; omega) | (have t8 : (((m : Nat) : Int) == 45) = false := by simp only [beq_eq_false_iff_ne]; omega))
     have HG := hide (HYES.out (by rw [HNC.out]; simp; omega))
     clear hdec
     go_wp2
     exact ⟨⟨k + 1, by go_num, by omega, hide HG.out, trivial⟩, by simp [intOf]; omega⟩
   · (first | (have t0 : (97 : Int) ≤ (m : Int) := by omega) | (have t0 : ¬ (97 : Int) ≤ (m : Int) := by omega))
     (first | (have t1 : (m : Int) ≤ (122 : Int) := by omega) | (have t1 : ¬ (m : Int) ≤ (122 : Int) := by omega))
     (first | (have t2 : (65 : Int) ≤ (m : Int) := by omega) | (have t2 : ¬ (65 : Int) ≤ (m : Int) := by omega))
     (first | (have t3 : (m : Int) ≤ (90 : Int) := by omega) | (have t3 : ¬ (m : Int) ≤ (90 : Int) := by omega))
     (first | (have t4 : (48 : Int) ≤ (m : Int) := by omega) | (have t4 : ¬ (48 : Int) ≤ (m : Int) := by omega))
     (first | (have t5 : (m : Int) ≤ (57 : Int) := by omega) | (have t5 : ¬ (m : Int) ≤ (57 : Int) := by omega))
     (first | (have t6 : (((m : Nat) : Int) == 95) = true := by simp only [beq_iff_eq]; omega) | (have t6 : (((m : Nat) : Int) == 95) = false := by simp only [beq_eq_false_iff_ne]; omega))
     (first | (have t7 : (((m : Nat) : Int) == 46) = true := by simp only [beq_iff_eq]; omega) | (have t7 : (((m : Nat) : Int) == 46) = false := by simp only [beq_eq_false_iff_ne]; omega))
     (first | (have t8 : (((m : Nat) : Int) == 45) = true := by simp only [beq_iff_eq]; omega) | (have t8 : (((m : Nat) : Int) == 45) = false := by simp only [beq_eq_false_iff_ne]; omega))
     have HG := hide (HNO.out (by rw [HNC.out]; simp; omega))
     clear hdec
     go_wp2
     go_ret
     rw [HG.out]
     exact ⟨rfl, HBW.out⟩
   · (first | (have t0 : (97 : Int) ≤ (m : Int) := by omega) | (have t0 : ¬ (97 : Int) ≤ (m : Int) := by omega))
     (first | (have t1 : (m : Int) ≤ (122 : Int) := by omega) | (have t1 : ¬ (m : Int) ≤ (122 : Int) := by omega))
     (first | (have t2 : (65 : Int) ≤ (m : Int) := by omega) | (have t2 : ¬ (65 : Int) ≤ (m : Int) := by omega))
     (first | (have t3 : (m : Int) ≤ (90 : Int) := by omega) | (have t3 : ¬ (m : Int) ≤ (90 : Int) := by omega))
     (first | (have t4 : (48 : Int) ≤ (m : Int) := by omega) | (have t4 : ¬ (48 : Int) ≤ (m : Int) := by omega))
     (first | (have t5 : (m : Int) ≤ (57 : Int) := by omega) | (have t5 : ¬ (m : Int) ≤ (57 : Int) := by omega))
     (first | (have t6 : (((m : Nat) : Int) == 95) = true := by simp only [beq_iff_eq]; omega) | (have t6 : (((m : Nat) : Int) == 95) = false := by simp only [beq_eq_false_iff_ne]; omega))
     (first | (have t7 : (((m : Nat) : Int) == 46) = true := by simp only [beq_iff_eq]; omega) | (have t7 : (((m : Nat) : Int) == 46) = false := by simp only [beq_eq_false_iff_ne]; omega))
     (first | (have t8 : (((m : Nat) : Int) == 45) = true := by simp only [beq_iff_eq]; omega) | (have t8 : (((m : Nat) : Int) == 45) = false := by simp only [beq_eq_false_iff_ne]; omega))
     have HG := hide (HYES.out (by rw [HNC.out]; simp; omega))
     clear hdec
     go_wp2
     exact ⟨⟨k + 1, by go_num, by omega, hide HG.out, trivial⟩, by simp [intOf]; omega⟩
   · (first | (have t0 : (97 : Int) ≤ (m : Int) := by omega) | (have t0 : ¬ (97 : Int) ≤ (m : Int) := by omega))
     (first | (have t1 : (m : Int) ≤ (122 : Int) := by omega) | (have t1 : ¬ (m : Int) ≤ (122 : Int) := by omega))
     (first | (have t2 : (65 : Int) ≤ (m : Int) := by omega) | (have t2 : ¬ (65 : Int) ≤ (m : Int) := by omega))
     (first | (have t3 : (m : Int) ≤ (90 : Int) := by omega) | (have t3 : ¬ (m : Int) ≤ (90 : Int) := by omega))
     (first | (have t4 : (48 : Int) ≤ (m : Int) := by omega) | (have t4 : ¬ (48 : Int) ≤ (m : Int) := by omega))
     (first | (have t5 : (m : Int) ≤ (57 : Int) := by omega) | (have t5 : ¬ (m : Int) ≤ (57 : Int) := by omega))
     (first | (have t6 : (((m : Nat) : Int) == 95) = true := by simp only [beq_iff_eq]; omega) | (have t6 : (((m : Nat) : Int) == 95) = false := by simp only [beq_eq_false_iff_ne]; omega))
     (first | (have t7 : (((m : Nat) : Int) == 46) = true := by simp only [beq_iff_eq]; omega) | (have t7 : (((m : Nat) : Int) == 46) = false := by simp only [beq_eq_false_iff_ne]; omega))
     (first | (have t8 : (((m : Nat) : Int) == 45) = true := by simp only [beq_iff_eq]; omega) | (have t8 : (((m : Nat) : Int) == 45) = false := by simp only [beq_eq_false_iff_ne]; omega))
     have HG := hide (HNO.out (by rw [HNC.out]; simp; omega))
     clear hdec
     go_wp2
     go_ret
     rw [HG.out]
     exact ⟨rfl, HBW.out⟩
   · (first | (have t0 : (97 : Int) ≤ (m : Int) := by omega) | (have t0 : ¬ (97 : Int) ≤ (m : Int) := by omega))
     (first | (have t1 : (m : Int) ≤ (122 : Int) := by omega) | (have t1 : ¬ (m : Int) ≤ (122 : Int) := by omega))
     (first | (have t2 : (65 : Int) ≤ (m : Int) := by omega) | (have t2 : ¬ (65 : Int) ≤ (m : Int) := by omega))
     (first | (have t3 : (m : Int) ≤ (90 : Int) := by omega) | (have t3 : ¬ (m : Int) ≤ (90 : Int) := by omega))
     (first | (have t4 : (48 : Int) ≤ (m : Int) := by omega) | (have t4 : ¬ (48 : Int) ≤ (m : Int) := by omega))
     (first | (have t5 : (m : Int) ≤ (57 : Int) := by omega) | (have t5 : ¬ (m : Int) ≤ (57 : Int) := by omega))
     (first | (have t6 : (((m : Nat) : Int) == 95) = true := by simp only [beq_iff_eq]; omega) | (have t6 : (((m : Nat) : Int) == 95) = false := by simp only [beq_eq_false_iff_ne]; omega))
     (first | (have t7 : (((m : Nat) : Int) == 46) = true := by simp only [beq_iff_eq]; omega) | (have t7 : (((m : Nat) : Int) == 46) = false := by simp only [beq_eq_false_iff_ne]; omega))
     (first | (have t8 : (((m : Nat) : Int) == 45) = true := by simp only [beq_iff_eq]; omega) | (have t8 : (((m : Nat) : Int) == 45) = false := by simp only [beq_eq_false_iff_ne]; omega))
     have HG := hide (HYES.out (by rw [HNC.out]; simp; omega))
     clear hdec
     go_wp2
     exact ⟨⟨k + 1, by go_num, by omega, hide HG.out, trivial⟩, by simp [intOf]; omega⟩
   · (first | (have t0 : (97 : Int) ≤ (m : Int) := by omega) | (have t0 : ¬ (97 : Int) ≤ (m : Int) := by omega))
     (first | (have t1 : (m : Int) ≤ (122 : Int) := by omega) | (have t1 : ¬ (m : Int) ≤ (122 : Int) := by omega))
     (first | (have t2 : (65 : Int) ≤ (m : Int) := by omega) | (have t2 : ¬ (65 : Int) ≤ (m : Int) := by omega))
     (first | (have t3 : (m : Int) ≤ (90 : Int) := by omega) | (have t3 : ¬ (m : Int) ≤ (90 : Int) := by omega))
     (first | (have t4 : (48 : Int) ≤ (m : Int) := by omega) | (have t4 : ¬ (48 : Int) ≤ (m : Int) := by omega))
     (first | (have t5 : (m : Int) ≤ (57 : Int) := by omega) | (have t5 : ¬ (m : Int) ≤ (57 : Int) := by omega))
     (first | (have t6 : (((m : Nat) : Int) == 95) = true := by simp only [beq_iff_eq]; omega) | (have t6 : (((m : Nat) : Int) == 95) = false := by simp only [beq_eq_false_iff_ne]; omega))
     (first | (have t7 : (((m : Nat) : Int) == 46) = true := by simp only [beq_iff_eq]; omega) | (have t7 : (((m : Nat) : Int) == 46) = false := by simp only [beq_eq_false_iff_ne]; omega))
     (first | (have t8 : (((m : Nat) : Int) == 45) = true := by simp only [beq_iff_eq]; omega) | (have t8 : (((m : Nat) : Int) == 45) = false := by simp only [beq_eq_false_iff_ne]; omega))
     have HG := hide (HNO.out (by rw [HNC.out]; simp; omega))
     clear hdec
     go_wp2
     go_ret
     rw [HG.out]
     exact ⟨rfl, HBW.out⟩
   · (first | (have t0 : (97 : Int) ≤ (m : Int) := by omega) | (have t0 : ¬ (97 : Int) ≤ (m : Int) := by omega))
     (first | (have t1 : (m : Int) ≤ (122 : Int) := by omega) | (have t1 : ¬ (m : Int) ≤ (122 : Int) := by omega))
     (first | (have t2 : (65 : Int) ≤ (m : Int) := by omega) | (have t2 : ¬ (65 : Int) ≤ (m : Int) := by omega))
     (first | (have t3 : (m : Int) ≤ (90 : Int) := by omega) | (have t3 : ¬ (m : Int) ≤ (90 : Int) := by omega))
     (first | (have t4 : (48 : Int) ≤ (m : Int) := by omega) | (have t4 : ¬ (48 : Int) ≤ (m : Int) := by omega))
     (first | (have t5 : (m : Int) ≤ (57 : Int) := by omega) | (have t5 : ¬ (m : Int) ≤ (57 : Int) := by omega))
     (first | (have t6 : (((m : Nat) : Int) == 95) = true := by simp only [beq_iff_eq]; omega) | (have t6 : (((m : Nat) : Int) == 95) = false := by simp only [beq_eq_false_iff_ne]; omega))
     (first | (have t7 : (((m : Nat) : Int) == 46) = true := by simp only [beq_iff_eq]; omega) | (have t7 : (((m : Nat) : Int) == 46) = false := by simp only [beq_eq_false_iff_ne]; omega))
     (first | (have t8 : (((m : Nat) : Int) == 45) = true := by simp only [beq_iff_eq]; omega) | (have t8 : (((m : Nat) : Int) == 45) = false := by simp only [beq_eq_false_iff_ne]; omega))
     have HG := hide (HYES.out (by rw [HNC.out]; simp; omega))
     clear hdec
     go_wp2
     exact ⟨⟨k + 1, by go_num, by omega, hide HG.out, trivial⟩, by simp [intOf]; omega⟩
   · (first | (have t0 : (97 : Int) ≤ (m : Int) := by omega) | (have t0 : ¬ (97 : Int) ≤ (m : Int) := by omega))
     (first | (have t1 : (m : Int) ≤ (122 : Int) := by omega) | (have t1 : ¬ (m : Int) ≤ (122 : Int) := by omega))
     (first | (have t2 : (65 : Int) ≤ (m : Int) := by omega) | (have t2 : ¬ (65 : Int) ≤ (m : Int) := by omega))
     (first | (have t3 : (m : Int) ≤ (90 : Int) := by omega) | (have t3 : ¬ (m : Int) ≤ (90 : Int) := by omega))
     (first | (have t4 : (48 : Int) ≤ (m : Int) := by omega) | (have t4 : ¬ (48 : Int) ≤ (m : Int) := by omega))
     (first | (have t5 : (m : Int) ≤ (57 : Int) := by omega) | (have t5 : ¬ (m : Int) ≤ (57 : Int) := by omega))
     (first | (have t6 : (((m : Nat) : Int) == 95) = true := by simp only [beq_iff_eq]; omega) | (have t6 : (((m : Nat) : Int) == 95) = false := by simp only [beq_eq_false_iff_ne]; omega))
     (first | (have t7 : (((m : Nat) : Int) == 46) = true := by simp only [beq_iff_eq]; omega) | (have t7 : (((m : Nat) : Int) == 46) = false := by simp only [beq_eq_false_iff_ne]; omega))
     (first | (have t8 : (((m : Nat) : Int) == 45) = true := by simp only [beq_iff_eq]; omega) | (have t8 : (((m : Nat) : Int) == 45) = false := by simp only [beq_eq_false_iff_ne]; omega))
     have HG := hide (HNO.out (by rw [HNC.out]; simp; omega))
     clear hdec
     go_wp2
     go_ret
     rw [HG.out]
     exact ⟨rfl, HBW.out⟩
   · (first | (have t0 : (97 : Int) ≤ (m : Int) := by omega) | (have t0 : ¬ (97 : Int) ≤ (m : Int) := by omega))
     (first | (have t1 : (m : Int) ≤ (122 : Int) := by omega) | (have t1 : ¬ (m : Int) ≤ (122 : Int) := by omega))
     (first | (have t2 : (65 : Int) ≤ (m : Int) := by omega) | (have t2 : ¬ (65 : Int) ≤ (m : Int) := by omega))
     (first | (have t3 : (m : Int) ≤ (90 : Int) := by omega) | (have t3 : ¬ (m : Int) ≤ (90 : Int) := by omega))
     (first | (have t4 : (48 : Int) ≤ (m : Int) := by omega) | (have t4 : ¬ (48 : Int) ≤ (m : Int) := by omega))
     (first | (have t5 : (m : Int) ≤ (57 : Int) := by omega) | (have t5 : ¬ (m : Int) ≤ (57 : Int) := by omega))
     (first | (have t6 : (((m : Nat) : Int) == 95) = true := by simp only [beq_iff_eq]; omega) | (have t6 : (((m : Nat) : Int) == 95) = false := by simp only [beq_eq_false_iff_ne]; omega))
     (first | (have t7 : (((m : Nat) : Int) == 46) = true := by simp only [beq_iff_eq]; omega) | (have t7 : (((m : Nat) : Int) == 46) = false := by simp only [beq_eq_false_iff_ne]; omega))
     (first | (have t8 : (((m : Nat) : Int) == 45) = true := by simp only [beq_iff_eq]; omega) | (have t8 : (((m : Nat) : Int) == 45) = false := by simp only [beq_eq_false_iff_ne]; omega))
     have HG := hide (HYES.out (by rw [HNC.out]; simp; omega))
     clear hdec
     go_wp2
     exact ⟨⟨k + 1, by go_num, by omega, hide HG.out, trivial⟩, by simp [intOf]; omega⟩
   · (first | (have t0 : (97 : Int) ≤ (m : Int) := by omega) | (have t0 : ¬ (97 : Int) ≤ (m : Int) := by omega))
     (first | (have t1 : (m : Int) ≤ (122 : Int) := by omega) | (have t1 : ¬ (m : Int) ≤ (122 : Int) := by omega))
     (first | (have t2 : (65 : Int) ≤ (m : Int) := by omega) | (have t2 : ¬ (65 : Int) ≤ (m : Int) := by omega))
     (first | (have t3 : (m : Int) ≤ (90 : Int) := by omega) | (have t3 : ¬ (m : Int) ≤ (90 : Int) := by omega))
     (first | (have t4 : (48 : Int) ≤ (m : Int) := by omega) | (have t4 : ¬ (48 : Int) ≤ (m : Int) := by omega))
     (first | (have t5 : (m : Int) ≤ (57 : Int) := by omega) | (have t5 : ¬ (m : Int) ≤ (57 : Int) := by omega))
     (first | (have t6 : (((m : Nat) : Int) == 95) = true := by simp only [beq_iff_eq]; omega) | (have t6 : (((m : Nat) : Int) == 95) = false := by simp only [beq_eq_false_iff_ne]; omega))
     (first | (have t7 : (((m : Nat) : Int) == 46) = true := by simp only [beq_iff_eq]; omega) | (have t7 : (((m : Nat) : Int) == 46) = false := by simp only [beq_eq_false_iff_ne]; omega))
     (first | (have t8 : (((m : Nat) : Int) == 45) = true := by simp only [beq_iff_eq]; omega) | (have t8 : (((m : Nat) : Int) == 45) = false := by simp only [beq_eq_false_iff_ne]; omega))
     have HG := hide (HNO.out (by rw [HNC.out]; simp; omega))
     clear hdec
     go_wp2
     go_ret
     rw [HG.out]
     exact ⟨rfl, HBW.out⟩
end
section
open Go.RowKit Go.Deep Ln Mc
attribute [local go_sem] bt_eq
def prB (x : T × T) : Pr := (bs x.1, bs x.2)
theorem lastV_none {l : Mp} {n : T} (h : ∀ x ∈ l, x.1 ≠ n) : lastV l n = none := by
 unfold lastV
 rw [List.find?_eq_none.2 (fun x hx => by simpa using h x (by simpa using hx))]
 rfl
theorem lastV_at {l : Mp} {n : T} {k : Nat} {x : T × T} (h : l[k]? = some x) (hx : x.1 = n) (hd : ∀ y ∈ l.drop (k + 1), y.1 ≠ n) : lastV l n = some x.2 := by
 have hk := (List.getElem?_eq_some_iff.1 h).1
 have e : l = l.take k ++ x :: l.drop (k + 1) := by
   rw [List.getElem?_eq_getElem hk] at h
   injection h with h
   rw [← h, ← List.drop_eq_getElem_cons hk, List.take_append_drop]
 unfold lastV
 rw [e, List.reverse_append, List.reverse_cons, List.append_assoc, List.find?_append, List.find?_eq_none.2 (fun y hy => by simpa using hd y (by simpa using hy))]
 simp [hx]
theorem mlast_any (A : Option Addr) (c : Nat) (l : Mp) (nm : T) (w : World) (hA : PR w A (l.map prB)) (hl : l.length ≤ 1000000) :
   Calls Tryz.prog 295 #[.slice A l.length c, .string (bs nm)] w fun e w' => e = .returned (.tuple #[.string (bs ((lastV l nm).getD [])), .bool (lastV l nm).isSome]) ∧ w = w' := by
 have HA := hide hA
 obtain ⟨n, hn⟩ : ∃ n, l.length = n := ⟨_, rfl⟩
 have HN := hide hn
 rw [hn] at hl ⊢
 clear hA hn
 go_enter Tryz.func295, Tryz.ntmps295
 go_wp2
 go_loopw [6] (fun v6 wr => ∃ k : Nat, v6 = .int .i64 ((k : Int) - 1) ∧ k ≤ n ∧ Hid (∀ x ∈ l.drop k, x.1 ≠ nm) ∧ w = wr) (fun v6 _ => (intOf v6 + 1).toNat)
 case atStart => exact ⟨n, by go_num, by omega, hide (by rw [List.drop_of_length_le (by have := HN.out; omega)]; simp), rfl⟩
 case round =>
   obtain ⟨k, rfl, hk, HD, rfl⟩ := hrel
   cases k with
   | zero =>
     have b0 : ¬ (0 : Int) ≤ ((0 : Nat) : Int) - 1 := by omega
     have HL := hide (lastV_none (l := l) (n := nm) (by simpa using HD.out))
     go_wp2
     go_ret2
     rw [HL.out]
     exact ⟨rfl, rfl⟩
   | succ k =>
     have hki : (((k + 1 : Nat) : Int) - 1) = (k : Int) := by omega
     rw [hki]
     have b0 : (0 : Int) ≤ (k : Int) := by omega
     obtain ⟨x, hx⟩ : ∃ x, l[k]? = some x := ⟨l[k]'(by have := HN.out; omega), gE _⟩
     obtain ⟨g, o, rfl, hg, hc1, hc2⟩ := HA.out k (prB x) (by rw [List.getElem?_map, hx]; rfl)
     have b1 : (k : Int) < (n : Int) := by omega
     unfold prB at hc1 hc2
     dsimp only at hc1 hc2
     have HX := hide hx
     clear hx
     by_cases he : x.1 = nm
     · have HL := hide (lastV_at HX.out he HD.out)
       rw [he] at hc1
       go_wp2
       go_ret2
       rw [HL.out]
       exact ⟨rfl, rfl⟩
     · have hne : ((bs x.1).toList == (bs nm).toList) = false := by rw [bs_toList, bs_toList]; simpa using he
       have HDN := hide (show ∀ y ∈ l.drop k, y.1 ≠ nm from fun y hy => by
         have hkl := (List.getElem?_eq_some_iff.1 HX.out).1
         rw [List.drop_eq_getElem_cons hkl] at hy
         rcases List.mem_cons.1 hy with rfl | hy
         · have := HX.out
           rw [List.getElem?_eq_getElem hkl] at this
           injection this with this
           rw [this]; exact he
         · exact HD.out y hy)
       clear he
       go_wp2
       exact ⟨⟨k, by go_num, by omega, HDN, trivial⟩, by simp [intOf]⟩
theorem closeF_step (o x : UInt8) (l : T) (n k : Nat) (c : UInt8) (h : l.drop k = c :: l.drop (k + 1)) : (closeF o x n (l.drop k)).map (· + k) =
   if c = o then (closeF o x (n + 1) (l.drop (k + 1))).map (· + (k + 1)) else if c = x then (if n = 0 then some k else (closeF o x (n - 1) (l.drop (k + 1))).map (· + (k + 1))) else (closeF o x n (l.drop (k + 1))).map (· + (k + 1)) := by
 have e : ∀ m, ((closeF o x m (l.drop (k + 1))).map (· + 1)).map (· + k) = (closeF o x m (l.drop (k + 1))).map (· + (k + 1)) := fun m => by
   rw [Option.map_map]
   congr 1
   funext j
   simp only [Function.comp]
   omega
 rw [h, closeF]
 split
 · exact e _
 · split
   · split
     · simp
     · exact e _
   · exact e _
theorem closed_any (l : T) (o x : UInt8) (w : World) (hl : l.length ≤ 1000000) :
   Calls Tryz.prog 286 #[.string (bs l), .int .u8 o.toNat, .int .u8 x.toNat] w fun e w' => (match closeF o x 0 l with | some k => e = .returned (.int .i64 k) | none => e = .panicked (pwm 2)) ∧ w = w' := by
 obtain ⟨n, hn⟩ : ∃ n, l.length = n := ⟨_, rfl⟩
 have HN := hide hn
 have hsz : (bs l).size = n := by rw [bs_size, hn]
 obtain ⟨r, hr⟩ : ∃ r, closeF o x 0 l = r := ⟨_, rfl⟩
 have HR := hide hr
 obtain ⟨on, hon⟩ : ∃ m, o.toNat = m := ⟨_, rfl⟩
 obtain ⟨xn, hxn⟩ : ∃ m, x.toNat = m := ⟨_, rfl⟩
 have HO := hide hon
 have HX := hide hxn
 rw [hr, hon, hxn]
 rw [hn] at hl
 clear hn hr hon hxn
 go_enter Tryz.func286, Tryz.ntmps286
 go_wp2
 go_loopw [7, 8, 11] (fun v7 _ v11 wr => ∃ k m : Nat, v11 = .int .i64 k ∧ v7 = .int .i64 m ∧ k ≤ n ∧ m ≤ k ∧ Hid ((closeF o x m (l.drop k)).map (· + k) = r) ∧ w = wr) (fun _ _ v11 _ => n - (intOf v11).toNat)
 case atStart => exact ⟨0, 0, rfl, rfl, by omega, by omega, hide (by rw [List.drop_zero, HR.out]; simp), rfl⟩
 case round =>
   obtain ⟨k, m, rfl, rfl, hk, hmk, HC, rfl⟩ := hrel
   by_cases hlt : k < n
   case neg =>
     obtain rfl : k = n := by omega
     have hrn : r = none := by rw [← HC.out, List.drop_of_length_le (by have := HN.out; omega)]; rfl
     subst hrn
     clear HC HR
     go_wp2_with fail
     refine (mfail_any 2 _).mono ?_
     rintro e w' ⟨rfl, rfl⟩
     exact ⟨rfl, rfl, rfl⟩
   have b1 : (k : Int) < (n : Int) := by omega
   have hkl : k < l.length := by have := HN.out; omega
   obtain ⟨c, hc⟩ : ∃ c, l[k]? = some c := ⟨l[k]'hkl, gE _⟩
   have hdc : l.drop k = c :: l.drop (k + 1) := by
     rw [List.drop_eq_getElem_cons hkl]
     rw [List.getElem?_eq_getElem hkl] at hc
     injection hc with hc
     rw [hc]
   have hb : bt (bs l) k = c.toNat := by
     rw [← bt_eq (bs l) k (by omega)]
     rw [List.getElem?_eq_getElem hkl] at hc
     injection hc with hc
     rw [← hc]
     rfl
   have hst := closeF_step o x l m k c hdc
   rw [HC.out] at hst
   have eo : c = o ↔ c.toNat = on := by rw [← HO.out]; exact UInt8.toNat_inj.symm
   have ex : c = x ↔ c.toNat = xn := by rw [← HX.out]; exact UInt8.toNat_inj.symm
   rw [← hb] at eo ex
   have HST := hide hst
   clear hst hdc hc hb
   by_cases h1 : c = o
   · have q1 : (((bt (bs l) k : Nat) : Int) == (on : Int)) = true := by simp only [beq_iff_eq]; have := eo.1 h1; omega
     have HC2 := hide (HST.out.trans (if_pos h1)).symm
     clear eo ex h1
     go_wp2
     exact ⟨⟨k + 1, m + 1, by go_num, by go_num, by omega, by omega, HC2, trivial⟩, by simp [intOf]; omega⟩
   have q1 : (((bt (bs l) k : Nat) : Int) == (on : Int)) = false := by simp only [beq_eq_false_iff_ne]; intro h; exact h1 (eo.2 (by omega))
   by_cases h2 : c = x
   · have q2 : (((bt (bs l) k : Nat) : Int) == (xn : Int)) = true := by simp only [beq_iff_eq]; have := ex.1 h2; omega
     by_cases h3 : m = 0
     · subst h3
       have hrk : r = some k := by rw [HST.out, if_neg h1, if_pos h2, if_pos rfl]
       subst hrk
       clear eo ex h1 h2 HST HC HR
       go_wp2
       go_ret
       exact ⟨rfl, rfl⟩
     · have q3 : (((m : Nat) : Int) == 0) = false := by simp only [beq_eq_false_iff_ne]; omega
       have HC2 := hide (show (closeF o x (m - 1) (l.drop (k + 1))).map (· + (k + 1)) = r by rw [HST.out, if_neg h1, if_pos h2, if_neg h3])
       clear eo ex h1 h2
       go_wp2
       exact ⟨⟨k + 1, m - 1, by go_num, by go_num, by omega, by omega, HC2, trivial⟩, by simp [intOf]; omega⟩
   · have q2 : (((bt (bs l) k : Nat) : Int) == (xn : Int)) = false := by simp only [beq_eq_false_iff_ne]; intro h; exact h2 (ex.2 (by omega))
     have HC2 := hide (show (closeF o x m (l.drop (k + 1))).map (· + (k + 1)) = r by rw [HST.out, if_neg h1, if_neg h2])
     clear eo ex h1 h2
     go_wp2
     exact ⟨⟨k + 1, m, by go_num, by go_num, by omega, by omega, HC2, trivial⟩, by simp [intOf]; omega⟩
end
section
open Go.RowKit Go.Deep Ln Mc
attribute [local go_sem] bt_eq
theorem mclone_any (A : Option Addr) (c : Nat) (L : List ByteArray) (w : World) (hA : SR w A L) (hl : L.length ≤ 1000000) :
   Calls Tryz.prog 301 #[.slice A L.length c] w fun e w' => (∃ v, e = .returned v ∧ OwnS w' w.heap.size v L) ∧ Below w.heap.size w w' := by
 cases A with
 | none =>
   have hL : L = [] := by
     cases L with
     | nil => rfl
     | cons b l =>
       obtain ⟨g, o, e, _⟩ := hA 0 b rfl
       cases e
   subst hL
   refine (Tryz.slices_Clone_string_nil 0 c w).mono ?_
   rintro e w' ⟨rfl, rfl⟩
   exact ⟨⟨_, rfl, OwnS.nil _ _⟩, Below.refl _ _⟩
 | some a =>
   cases L with
   | nil =>
     refine (Tryz.slices_Clone_string_zero a c w).mono ?_
     rintro e w' ⟨v, rfl, ho, _, hb⟩
     exact ⟨⟨v, rfl, ho⟩, hb⟩
   | cons x L =>
     obtain ⟨g, o, e, _, _⟩ := hA 0 x rfl
     injection e with e
     subst e
     refine (Tryz.slices_Clone_string g o (x :: L).length c (x :: L) w (Nat.le_refl _) (by omega) (fun j hj => ?_)).mono ?_
     · obtain ⟨g', o', e, _, hc⟩ := hA j ((x :: L)[j]) (List.getElem?_eq_getElem hj)
       injection e with e
       injection e with e1 e2
       subst e1 e2
       rw [hc]
       congr 2
       rw [List.getD_eq_getElem?_getD, List.getElem?_eq_getElem hj]
       rfl
     · rintro e w' ⟨v, rfl, ho, _, hb⟩
       rw [List.take_length] at ho
       exact ⟨⟨v, rfl, ho⟩, hb⟩
theorem jn_any (A : Option Addr) (c : Nat) (l : List T) (s : UInt8) (w : World) (hA : SR w A (l.map bs)) (hc : l.length ≤ c) (hl : (Lib.join l [s]).length ≤ 140737488355328) (hn : l.length ≤ 140737488355328) :
   Calls Tryz.prog 160 #[.slice A l.length c, .string ⟨#[s]⟩] w fun e w' => e = .returned (.string (bs (Lib.join l [s]))) ∧ Below w.heap.size w w' := by
 cases l with
 | nil => exact (Tryz.strings_Join_none A c ⟨#[s]⟩ w).mono fun e w' ⟨h1, h2⟩ => ⟨h1, h2 ▸ Below.refl _ _⟩
 | cons x l =>
   obtain ⟨g, o, rfl, hg, _⟩ := hA 0 (bs x) rfl
   have hm : ((x :: l).map bs).map (·.data.toList) = x :: l := by
     rw [List.map_map]
     conv => rhs; rw [← List.map_id (x :: l)]
     apply List.map_congr_left
     intro y _
     exact bs_list y
   have := Tryz.strings_Join g o c ((x :: l).map bs) ⟨#[s]⟩ w (fun j y hj => by
     obtain ⟨g', o', e, _, hc'⟩ := hA j y hj
     injection e with e
     injection e with e1 e2
     subst e1 e2
     exact hc') hg (by rw [List.length_map]; exact hn) (by rw [List.length_map]; exact hc) (by rw [hm]; exact hl)
   rw [hm, List.length_map] at this
   exact this
theorem mwords_any (l : T) (w : World) (hl : l.length ≤ 4294967296) : Calls Tryz.prog 144 #[.string (bs l)] w fun e w' => ∃ g, e = .returned (.slice (some ⟨g, 0, none⟩) (wordsF l []).length (wordsF l []).length) ∧ OwnS w' w.heap.size (.slice (some ⟨g, 0, none⟩) (wordsF l []).length (wordsF l []).length) ((wordsF l []).map bs) ∧ Below w.heap.size w w' := by
 refine (words_any (bs l) w (by rw [bs_size]; exact hl)).mono ?_
 rintro e w' ⟨g, h1, _, h2, h3⟩
 rw [fields_words] at h1 h2
 rw [List.length_map] at h1 h2
 refine ⟨g, h1, ?_, h3⟩
 unfold OwnS strVals
 rw [List.length_map]
 exact h2
def swW (frm dst w : T) : T := if Lib.hasSuffix w frm then w.take (w.length - frm.length) ++ dst else w
theorem suf_len {a b : T} (h : Lib.hasSuffix a b = true) : b.length ≤ a.length := by
 unfold Lib.hasSuffix at h
 simp at h
 exact h.length_le
theorem stemSwap_any (A : Option Addr) (c : Nat) (L : List T) (frm dst : T) (w : World) (hA : SR w A (L.map bs)) (hl : L.length ≤ 1000000) (hf : frm.length ≤ 1000000) (hd : dst.length ≤ 1000000) (hz : ∀ x ∈ L, x.length ≤ 1000000) :
   Calls Tryz.prog 297 #[.slice A L.length c, .string (bs frm), .string (bs dst)] w fun e w' => (∃ v, e = .returned v ∧ OwnS w' w.heap.size v ((L.map (swW frm dst)).map bs)) ∧ Below w.heap.size w w' := by
 have HC := hide (mclone_any A c (L.map bs) w hA (by rw [List.length_map]; exact hl))
 rw [List.length_map] at HC
 have HZ := hide hz
 obtain ⟨n, hn⟩ : ∃ n, L.length = n := ⟨_, rfl⟩
 have HN := hide hn
 rw [hn] at HC hl ⊢
 have zf : (bs frm).size = frm.length := bs_size frm
 have zd : (bs dst).size = dst.length := bs_size dst
 clear hA hz hn
 go_enter Tryz.func297, Tryz.ntmps297
 go_wp2_with fail
 refine HC.out.mono ?_
 rintro e w1 ⟨⟨v, rfl, ho⟩, hb1⟩
 obtain ⟨A1, c1, rfl, _, _, _⟩ := ho.slice
 rw [List.length_map, HN.out] at ho
 have HO := hide ho
 have HB1 := hide hb1
 rw [List.length_map, HN.out]
 clear ho hb1 HC
 go_wp2
 go_loopw [8, 9, 14] (fun _ _ v14 wr => ∃ k : Nat, v14 = .int .i64 k ∧ k ≤ n ∧ Hid (OwnS wr w.heap.size (.slice A1 n c1) (((L.take k).map (swW frm dst) ++ L.drop k).map bs)) ∧ Hid (Below w.heap.size w wr)) (fun _ _ v14 _ => n - (intOf v14).toNat)
 case atStart => exact ⟨0, rfl, by omega, by simpa using HO, HB1⟩
 case round =>
   obtain ⟨wo, hwo⟩ : ∃ Z, Z = wr := ⟨_, rfl⟩
   subst hwo
   obtain ⟨k, rfl, hk, HW, HB⟩ := hrel
   by_cases hlt : k < n
   case neg =>
     obtain rfl : k = n := by omega
     have HW2 := hide (show OwnS wo w.heap.size (.slice A1 k c1) ((L.map (swW frm dst)).map bs) by
       have := HW.out
       rw [List.take_of_length_le (by have := HN.out; omega), List.drop_of_length_le (by have := HN.out; omega), List.append_nil] at this
       exact this)
     go_wp2
     go_ret
     exact ⟨⟨_, rfl, HW2.out⟩, HB.out⟩
   have b1 : (k : Int) < (n : Int) := by omega
   obtain ⟨x, hx⟩ : ∃ x, L[k]? = some x := ⟨L[k]'(by have := HN.out; omega), gE _⟩
   have hx2 : (((L.take k).map (swW frm dst) ++ L.drop k).map bs)[k]? = some (bs x) := by rw [List.getElem?_map, upd_at _ hx]; rfl
   obtain ⟨hnn, g, rfl, hcx, hgb, hgl⟩ := HW.out.at hx2
   have hxz := HZ.out x (List.mem_of_getElem? hx)
   have HSF := hide (hsuf_any x frm wo (by omega))
   have zx : (bs x).size = x.length := bs_size x
   cases hsf : Lib.hasSuffix x frm with
   | false =>
     have HW2 := hide (show OwnS wo w.heap.size (.slice (some ⟨g, 0, none⟩) n c1) (((L.take (k + 1)).map (swW frm dst) ++ L.drop (k + 1)).map bs) by
       rw [← upd_same _ hx (by unfold swW; rw [hsf]; rfl)]; exact HW.out)
     rw [hsf] at HSF
     clear hx hx2 hnn hsf
     go_wp2_with fail
     refine HSF.out.mono ?_
     rintro e w' ⟨rfl, rfl⟩
     go_wp2
     exact ⟨⟨k + 1, by go_num, by omega, HW2, HB⟩, by simp [intOf]; omega⟩
   | true =>
     have hsl := suf_len hsf
     have hst := HW.out.setAt hnn hlt (bs (swW frm dst x))
     obtain ⟨hfz, hst2⟩ := hst
     rw [← List.map_set, upd_set _ hx] at hst2
     have HW2 := hide hst2
     have HE := hide (show (bs x).extract 0 (x.length - frm.length) ++ bs dst = bs (swW frm dst x) by
       rw [ext_bs, bs_app]
       unfold swW
       rw [hsf]
       simp)
     have hez : ((bs x).extract 0 (x.length - frm.length)).size ≤ 1000000 := by rw [ByteArray.size_extract]; omega
     have HBS := hide (show Below w.heap.size w (wo.setCell ⟨g, k, none⟩ (.string (bs (swW frm dst x)))) from HB.out.setCell (p := ⟨g, k, none⟩) hgb _)
     rw [hsf] at HSF
     clear hx hx2 hnn hsf hst2
     go_wp2_with fail
     refine HSF.out.mono ?_
     rintro e w' ⟨rfl, rfl⟩
     go_wp2
     rw [HE.out]
     exact ⟨⟨k + 1, by go_num, by omega, HW2, HBS⟩, by simp [intOf]; omega⟩
theorem join_len (sep : List UInt8) (M : Nat) : ∀ l : List T, (∀ x ∈ l, x.length ≤ M) → (Lib.join l sep).length ≤ l.length * (M + sep.length)
 | [], _ => by simp [Lib.join_nil]
 | x :: l, h => by
   have key : ∀ r : List T, (∀ x ∈ r, x.length ≤ M) → (Lib.joinTail sep r).length ≤ r.length * (M + sep.length) := by
     intro r
     induction r with
     | nil => intro _; simp [Lib.joinTail]
     | cons y r ih =>
       intro hr
       have h1 := ih fun z hz => hr z (by simp [hz])
       have h2 := hr y (by simp)
       have e : Lib.joinTail sep (y :: r) = sep ++ y ++ Lib.joinTail sep r := by simp [Lib.joinTail]
       rw [e, List.length_append, List.length_append, List.length_cons, Nat.succ_mul]
       omega
   have h1 := key l fun z hz => h z (by simp [hz])
   have h2 := h x (by simp)
   rw [Lib.join_cons, List.length_append, List.length_cons, Nat.succ_mul]
   omega
theorem wordsF_le : ∀ (l w : T), (wordsF l w).length ≤ l.length + 1 ∧ ∀ x ∈ wordsF l w, x.length ≤ w.length + l.length
 | [], w => by
   unfold wordsF
   split
   · simp
   · simp
 | c :: l, w => by
   have h1 := wordsF_le l []
   have h2 := wordsF_le l (w ++ [c])
   have e : wordsF (c :: l) w = if wblk c = true then (if w = [] then wordsF l [] else w :: wordsF l []) else wordsF l (w ++ [c]) := rfl
   rw [e]
   split
   · split
     · exact ⟨by simp; omega, fun x hx => by have := h1.2 x hx; simp at this ⊢; omega⟩
     · refine ⟨by simp; omega, fun x hx => ?_⟩
       rcases List.mem_cons.1 hx with rfl | hx
       · omega
       · have := h1.2 x hx; simp at this ⊢; omega
   · exact ⟨by simp; omega, fun x hx => by have := h2.2 x hx; simp at this ⊢; omega⟩
theorem swapW_len (frm dst w : T) : (swapW frm dst w).length ≤ 2 * dst.length + w.length := by
 unfold swapW
 split
 · split
   · have h1 := fillT_len dst (matchT frm w).1
     have h2 := matchT_len frm w
     omega
   · omega
 · split
   · simp; omega
   · omega
theorem swapF_len {v frm dst : T} (hv : v.length ≤ 900000) (hd : dst.length ≤ 1000000) : (swapF v frm dst).length ≤ 4000000000000 := by
 obtain ⟨h1, h2⟩ := wordsF_le v []
 have h3 := join_len [32] 3000000 ((wordsF v []).map (swapW frm dst)) (fun x hx => by
   obtain ⟨y, hy, rfl⟩ := List.mem_map.1 hx
   have h4 := h2 y hy
   have h5 := swapW_len frm dst y
   simp at h4
   omega)
 unfold swapF
 rw [List.length_map] at h3
 have : (wordsF v []).length * (3000000 + [(32 : UInt8)].length) ≤ 1000001 * 3000001 := Nat.mul_le_mul (by omega) (by simp)
 omega
theorem swapped_any (v frm dst : T) (w : World) (hm : MX w) (hv : v.length ≤ 900000) (hf : frm.length ≤ 1000000) (hd : dst.length ≤ 1000000) :
   Calls Tryz.prog 294 #[.string (bs v), .string (bs frm), .string (bs dst)] w fun e w' => e = .returned (.string (bs (swapF v frm dst))) ∧ Below w.heap.size w w' := by
 have HWD := hide (mwords_any v w (by omega))
 have HSL := hide (swapF_len (frm := frm) hv hd)
 obtain ⟨h1, h2⟩ := wordsF_le v []
 obtain ⟨L, hL⟩ : ∃ L, wordsF v [] = L := ⟨_, rfl⟩
 have HSD := hide (show swapF v frm dst = Lib.join (L.map (swapW frm dst)) [32] by rw [← hL]; rfl)
 rw [HSD.out] at HSL ⊢
 rw [hL] at HWD h1 h2
 have HZ := hide (show ∀ x ∈ L, x.length ≤ 1000000 from fun x hx => by have := h2 x hx; simp at this; omega)
 obtain ⟨n, hn⟩ : ∃ n, L.length = n := ⟨_, rfl⟩
 have HN := hide hn
 have hn1 : n ≤ 900001 := by omega
 rw [hn] at HWD
 have HIS := hide (fun W => stemIs_any (bs frm) W)
 have HP := hide (show isP (bs frm) = decide ((37 : UInt8) ∈ frm) by unfold isP; rw [bs_list])
 obtain ⟨pb, hpb⟩ : ∃ b, decide ((37 : UInt8) ∈ frm) = b := ⟨_, rfl⟩
 rw [HP.out, hpb] at HIS
 have HPB := hide hpb
 clear h1 h2 hL hn HP hpb HSD
 go_enter Tryz.func294, Tryz.ntmps294
 go_wp2_with fail
 refine HWD.out.mono ?_
 rintro e w1 ⟨g, rfl, ho, hb1⟩
 have HO := hide ho
 have HB1 := hide hb1
 have HM := hide (hm.below hb1)
 have HM0 := hide hm
 clear ho hb1 HWD hm
 cases pb with
 | false =>
   have hno : (37 : UInt8) ∉ frm := by simpa using HPB.out
   have HEQ := hide (show swapW frm dst = swW frm dst from funext fun x => by unfold swapW swW; rw [if_neg hno])
   clear hno
   go_wp2_with fail
   refine (HIS.out _).mono ?_
   rintro e w2 ⟨rfl, rfl⟩
   obtain ⟨_, c0, e0, _, hsr, _⟩ := HO.out.slice
   injection e0 with e1 e2 e3
   subst e1
   have HSW := hide (stemSwap_any (some ⟨g, 0, none⟩) n L frm dst w1 hsr (by have := HN.out; omega) hf hd HZ.out)
   rw [HN.out] at HSW
   clear hsr e2 e3
   go_wp2_with fail
   refine HSW.out.mono ?_
   rintro e w3 ⟨⟨v3, rfl, ho3⟩, hb3⟩
   obtain ⟨A3, c3, rfl, hc3, hs3, _⟩ := ho3.slice
   rw [HEQ.out] at HSL
   have HJ := hide (jn_any A3 c3 (L.map (swW frm dst)) 32 w3 hs3 (by rw [List.length_map] at hc3 ⊢; rw [List.length_map] at hc3; exact hc3) (by have := HSL.out; omega) (by rw [List.length_map]; have := HN.out; omega))
   have HB3 := hide (HB1.out.trans (hb3.mono HB1.out.size))
   rw [List.length_map, List.length_map] at *
   rw [HN.out] at HJ ⊢
   clear ho3 hs3 hb3 hc3
   go_wp2_with fail
   refine HJ.out.mono ?_
   rintro e w4 ⟨rfl, hb4⟩
   have HB4 := hide (HB3.out.trans (hb4.mono HB3.out.size))
   clear hb4
   go_wp2
   go_ret
   rw [HEQ.out]
   exact ⟨rfl, HB4.out⟩
 | true =>
   have hyes : (37 : UInt8) ∈ frm := by simpa using HPB.out
   have HEQ := hide (fun x => show swapW frm dst x = if (matchT frm x).2 then fillT dst (matchT frm x).1 else x by unfold swapW; rw [if_pos hyes])
   clear hyes
   go_wp2_with fail
   refine (HIS.out _).mono ?_
   rintro e w2 ⟨rfl, rfl⟩
   go_wp2
   go_loopw [8, 9, 10, 11, 24] (fun _ _ _ _ v24 wr => ∃ k : Nat, v24 = .int .i64 k ∧ k ≤ n ∧ Hid (OwnS wr w.heap.size (.slice (some ⟨g, 0, none⟩) n n) (((L.take k).map (swapW frm dst) ++ L.drop k).map bs)) ∧ Hid (Below w.heap.size w wr) ∧ Hid (MX wr)) (fun _ _ _ _ v24 _ => n - (intOf v24).toNat)
   case atStart => exact ⟨0, rfl, by omega, by simpa using HO, HB1, HM⟩
   case round =>
     obtain ⟨wo, hwo⟩ : ∃ Z, Z = wr := ⟨_, rfl⟩
     subst hwo
     obtain ⟨k, rfl, hk, HW, HB, HMX⟩ := hrel
     by_cases hlt : k < n
     case neg =>
       obtain rfl : k = n := by omega
       have hw := HW.out
       rw [List.take_of_length_le (by have := HN.out; omega), List.drop_of_length_le (by have := HN.out; omega), List.append_nil] at hw
       obtain ⟨_, c0, e0, _, hsr, _⟩ := hw.slice
       injection e0 with e1 e2 e3
       subst e1
       have HJ := hide (jn_any (some ⟨g, 0, none⟩) k (L.map (swapW frm dst)) 32 wo hsr (by rw [List.length_map]; have := HN.out; omega) (by have := HSL.out; omega) (by rw [List.length_map]; have := HN.out; omega))
       rw [List.length_map, HN.out] at HJ
       clear hw hsr e2 e3
       go_wp2_with fail
       refine HJ.out.mono ?_
       rintro e w4 ⟨rfl, hb4⟩
       have HB4 := hide (HB.out.trans (hb4.mono HB.out.size))
       clear hb4
       go_wp2
       go_ret
       exact ⟨rfl, HB4.out⟩
     have b1 : (k : Int) < (n : Int) := by omega
     obtain ⟨x, hx⟩ : ∃ x, L[k]? = some x := ⟨L[k]'(by have := HN.out; omega), gE _⟩
     have hx2 : (((L.take k).map (swapW frm dst) ++ L.drop k).map bs)[k]? = some (bs x) := by rw [List.getElem?_map, upd_at _ hx]; rfl
     obtain ⟨hnn, g', e', hcx, hgb, hgl⟩ := HW.out.at hx2
     have HNN := hide hnn
     clear hnn
     injection e' with e'
     injection e' with e'
     subst e'
     have hxz := HZ.out x (List.mem_of_getElem? hx)
     have HMT := hide (match_any frm x wo HMX.out (by omega) (by omega))
     have hml := matchT_len frm x
     have HFL := hide (fun W (hb : Below wo.heap.size wo W) => fill_any dst (matchT frm x).1 W (HMX.out.below hb) (by omega) (by omega))
     have HSX := hide (HEQ.out x)
     obtain ⟨y, hy⟩ : ∃ y, (matchT frm x).1 = y := ⟨_, rfl⟩
     obtain ⟨ok, hok⟩ : ∃ y, (matchT frm x).2 = y := ⟨_, rfl⟩
     rw [hy, hok] at HMT HSX
     rw [hy] at HFL
     clear hml hy hok
     have HX := hide hx
     clear hx hx2
     cases ok with
     | false =>
       rw [if_neg (by simp)] at HSX
       go_wp2_with fail
       refine HMT.out.mono ?_
       rintro e w2 ⟨rfl, hb2⟩
       have HW2 := hide (show OwnS w2 w.heap.size (.slice (some ⟨g, 0, none⟩) n n) (((L.take (k + 1)).map (swapW frm dst) ++ L.drop (k + 1)).map bs) by
         rw [← upd_same _ HX.out HSX.out]; exact ownsRow_of HW.out fun q hq => hb2.block q (HW.out.lt q hq).2)
       have HB2 := hide (HB.out.trans (hb2.mono HB.out.size))
       have HM2 := hide (HMX.out.below hb2)
       clear hb2
       go_wp2
       exact ⟨⟨k + 1, by go_num, by omega, HW2, HB2, HM2⟩, by simp [intOf]; omega⟩
     | true =>
       rw [if_pos rfl] at HSX
       go_wp2_with fail
       refine HMT.out.mono ?_
       rintro e w2 ⟨rfl, hb2⟩
       have HB2 := hide hb2
       clear hb2
       go_wp2_with fail
       refine (HFL.out _ HB2.out).mono ?_
       rintro e w3 ⟨rfl, hb3⟩
       rw [← HSX.out]
       have hb23 := HB2.out.trans (hb3.mono HB2.out.size)
       have hw3 : OwnS w3 w.heap.size (.slice (some ⟨g, 0, none⟩) n n) (((L.take k).map (swapW frm dst) ++ L.drop k).map bs) := ownsRow_of HW.out fun q hq => hb23.block q (HW.out.lt q hq).2
       obtain ⟨hfz, hst2⟩ := hw3.setAt HNN.out hlt (bs (swapW frm dst x))
       have hcx3 : w3.cell? ⟨g, k, none⟩ = some (.string (bs x)) := (hb23.cell (p := ⟨g, k, none⟩) hgl).trans hcx
       rw [← List.map_set, upd_set _ HX.out] at hst2
       have HW2 := hide hst2
       have hb0 := HB.out.trans (hb23.mono HB.out.size)
       have HBS := hide (show Below w.heap.size w (w3.setCell ⟨g, k, none⟩ (.string (bs (swapW frm dst x)))) from hb0.setCell (p := ⟨g, k, none⟩) hgb _)
       have HM4 := hide (show MX (w3.setCell ⟨g, k, none⟩ (.string (bs (swapW frm dst x)))) from HM0.out.below HBS.out)
       clear hb23 hb3 hw3 hst2 hb0
       go_wp2
       exact ⟨⟨k + 1, by go_num, by omega, HW2, HBS, HM4⟩, by simp [intOf]; omega⟩
end
section
open Go.RowKit Go.Shelf
theorem bldInfo : (Tryz.prog.info? 122).map (·.size) = some 2 := by kernel_rfl
theorem bldLies : liesAt Tryz.prog Tryz.prog.depth 122 (2 / Tryz.prog.cellsOf 122) 0 122 1 = true := by kernel_rfl
theorem bytInfo : (Tryz.prog.info? 5).map (fun i => (i.zero, i.size, i.bytes)) = some (some (.int .u8 0), 1, 1) := by kernel_rfl
abbrev Bld (B b : Nat) (l : List UInt8) (w : World) : Prop := Lib.IsBuilder 122 5 B b (Lib.byteCells l) w
theorem neBld : 122 ≠ 5 := by decide
theorem bldCells (l : List UInt8) (s : ByteArray) : Lib.byteCells l ++ Lib.strCells s = Lib.byteCells (l ++ s.data.toList) := by
 unfold Lib.byteCells Lib.strCells
 first | rfl | (rw [List.map_append]; rfl) | simp
theorem Bld.fresh (w : World) : Bld w.heap.size w.heap.size [] (w.alloc (.cells #[.pointer none, .slice none 0 0] 122)) :=
 .inl ⟨Nat.le_refl _, .slice none 0 0, heapNew w _, World.ownsRow_nil _ _ _ _, by simp [Value.ownBlock]⟩
end
section
open Go.RowKit Go.Deep Ln Mc
attribute [local go_sem] bt_eq
abbrev ety : TypeId := 272
structure Xc where
 lA : Option Addr
 lc : Nat
 l : Mp
 aA : Option Addr
 ac : Nat
 a : Mp
def xcs (C : Xc) (opn : List T) (deep refs : Int) : List Cl := [.v (.slice C.lA C.l.length C.lc), .v (.slice C.aA C.a.length C.ac), Cl.s (opn.map bs), .v (.int .i64 deep), .v (.int .i64 refs)]
structure XOk (w0 : World) (C : Xc) : Prop where
 l : PR w0 C.lA (C.l.map prB)
 a : PR w0 C.aA (C.a.map prB)
 ll : C.l.length ≤ 1000000
 al : C.a.length ≤ 1000000
 lz : ∀ x ∈ C.l, x.2.length ≤ 9223372036854775807
 az : ∀ x ∈ C.a, x.2.length ≤ 900000
 mx : MX w0
def TEnd (w0 : World) (C : Xc) (gx : Nat) (opn : List T) (deep : Int) (P : Nat → Prop) (w : World) (r : R) (e : Ending) (w' : World) : Prop := match r with
 | .error c => e = .panicked (pwm c) ∧ ∃ (opn' : List T) (d' r' : Int), OIP w0 ety gx (xcs C opn' d' r') P w w'
 | .ok (t, n) => e = .returned (.string (bs t)) ∧ OIP w0 ety gx (xcs C opn deep n) P w w'
theorem bldLen_any (B b : Nat) (l : List UInt8) (w : World) (h : Bld B b l w) : Calls Tryz.prog 274 #[.pointer (some ⟨b, 0, none⟩)] w fun e w' => e = .returned (.int .i64 l.length) ∧ w = w' := by
 have key : ∀ p, Lib.BuilderAt 122 5 B b p (Lib.byteCells l) w → ∃ A c, w.cell? ⟨b, 1, none⟩ = some (.slice A l.length c) := by
   rintro p ⟨h1, v, h2, h3, h4⟩
   have hl : (Lib.byteCells l).length = l.length := by simp [Lib.byteCells]
   rcases h3.2 with ⟨rfl, hn⟩ | ⟨g, cap, cur, rfl, _⟩
   · exact ⟨none, 0, by rw [Lib.cell_of_heap h2, ← hl, hn]; rfl⟩
   · exact ⟨_, _, by rw [Lib.cell_of_heap h2, ← hl]; rfl⟩
 obtain ⟨A, c, hc⟩ : ∃ A c, w.cell? ⟨b, 1, none⟩ = some (.slice A l.length c) := by
   rcases h with h | h
   · exact key _ h
   · exact key _ h
 obtain ⟨n, hn⟩ : ∃ n, l.length = n := ⟨_, rfl⟩
 rw [hn] at hc ⊢
 clear h key hn
 go_enter Tryz.func274, Tryz.ntmps274
 go_wp2
 go_ret
 exact ⟨rfl, rfl⟩
def TCon (w0 : World) (C : Xc) (gx : Nat) (d : Nat) : Prop := ∀ (opn : List T) (s : T) (refs : Nat) (P : Nat → Prop) (w : World), OI w0 ety gx (xcs C opn ((40 : Int) - (d : Nat)) refs) P w → opn.length + d ≤ 40 → d ≤ 40 → s.length ≤ 9223372036854775807 → refs ≤ 10000 →
 Calls Tryz.prog 247 #[.pointer (some ⟨gx, 0, none⟩), .string (bs s)] w (TEnd w0 C gx opn ((40 : Int) - (d : Nat)) P w (textF C.a C.l d opn s refs))
theorem oip_go {w0 w w' w'' : World} {ty : TypeId} {g : Nat} {cs' : List Cl} {T T' : Nat → Prop} (k : Kp w w' T) (gr : ∀ q, T' q → T q ∨ w.heap.size ≤ q) (h : OIP w0 ty g cs' T' w' w'') : OIP w0 ty g cs' T w w'' := by
 obtain ⟨T2, f2, k2, gr2⟩ := h
 refine ⟨T2, f2, k.trans (k2.mono gr), fun q hq => ?_⟩
 rcases gr2 q hq with h | h
 · exact gr q h
 · exact .inr (Nat.le_trans k.size h)
theorem TEnd.go {w0 : World} {C : Xc} {gx : Nat} {opn : List T} {deep : Int} {P P' : Nat → Prop} {w w1 w' : World} {c : Nat} {e : Ending} (k : Kp w w1 P) (gr : ∀ q, P' q → P q ∨ w.heap.size ≤ q) {opn' : List T} {d' : Int} (h : TEnd w0 C gx opn' d' P' w1 (.error c) e w') : TEnd w0 C gx opn deep P w (.error c) e w' := by
 obtain ⟨h1, o, d, r, h2⟩ := h
 exact ⟨h1, o, d, r, oip_go k gr h2⟩
theorem mvalue_any (w0 : World) (C : Xc) (hC : XOk w0 C) (gx d : Nat) (hT : TCon w0 C gx d) (opn : List T) (nm : T) (refs : Nat) (P : Nat → Prop) (w : World) (h : OI w0 ety gx (xcs C opn ((40 : Int) - (d : Nat)) refs) P w) (ho : opn.length + d < 40) (hr : refs ≤ 10000) :
   Calls Tryz.prog 293 #[.pointer (some ⟨gx, 0, none⟩), .string (bs nm)] w (TEnd w0 C gx opn ((40 : Int) - (d : Nat)) P w (valueF C.a C.l (textF C.a C.l d) opn nm refs)) := by
 have HI := hide h
 have HT := hide hT
 have HC := hide hC
 have hc0 := h.cellV (j := 0) rfl
 have hc1 := h.cellV (j := 1) rfl
 have HL1 := hide (mlast_any C.aA C.ac C.a nm w (hC.a.below h.below) hC.al)
 have HL2 := hide (mlast_any C.lA C.lc C.l nm w (hC.l.below h.below) hC.ll)
 have HV := hide (show valueF C.a C.l (textF C.a C.l d) opn nm refs = (match lastV C.a nm with | some v => .ok (v, refs) | none => match lastV C.l nm with | none => .ok ([], refs) | some v => if nm ∈ opn then .error 18 else textF C.a C.l d (opn ++ [nm]) v refs) from rfl)
 obtain ⟨R0, hR⟩ : ∃ R, valueF C.a C.l (textF C.a C.l d) opn nm refs = R := ⟨_, rfl⟩
 rw [hR] at HV ⊢
 have HLZ := hide (fun v (hv : lastV C.l nm = some v) => show v.length ≤ 9223372036854775807 from by obtain ⟨x, hx, rfl⟩ := lastV_mem hv; exact hC.lz x hx)
 obtain ⟨r1, h1⟩ : ∃ r, lastV C.a nm = r := ⟨_, rfl⟩
 obtain ⟨r2, h2⟩ : ∃ r, lastV C.l nm = r := ⟨_, rfl⟩
 rw [h1, h2] at HV
 rw [h1] at HL1
 rw [h2] at HL2 HLZ
 clear h hT hC hR h1 h2
 cases r1 with
 | some v =>
   have HV2 := hide (show R0 = .ok (v, refs) from HV.out)
   go_enter Tryz.func293, Tryz.ntmps293
   go_wp2_with fail
   refine HL1.out.mono ?_
   rintro e w' ⟨rfl, rfl⟩
   go_wp2
   go_ret
   rw [HV2.out]
   exact ⟨rfl, OIP.self HI.out⟩
 | none =>
   cases r2 with
   | none =>
     have HV2 := hide (show R0 = .ok ([], refs) from HV.out)
     go_enter Tryz.func293, Tryz.ntmps293
     go_wp2_with fail
     refine HL1.out.mono ?_
     rintro e w' ⟨rfl, rfl⟩
     go_wp2_with fail
     refine HL2.out.mono ?_
     rintro e w' ⟨rfl, rfl⟩
     go_wp2
     go_ret
     rw [HV2.out]
     exact ⟨rfl, OIP.self HI.out⟩
   | some v =>
     have HV2 := hide (show R0 = if nm ∈ opn then .error 18 else textF C.a C.l d (opn ++ [nm]) v refs from HV.out)
     have hvz := HLZ.out v rfl
     obtain ⟨A2, c2, hc2, hos, _, hsr, _⟩ := HI.out.cellS (j := 2) (L := opn.map bs) rfl
     have HCT := hide (cont_any A2 c2 (opn.map bs) (bs nm) w hsr (by rw [List.length_map]; omega))
     have HCE := hide (show Lib.containsS (opn.map bs) (bs nm) = decide (nm ∈ opn) by
       rw [Bool.eq_iff_iff, Lib.containsS_iff, decide_eq_true_iff, List.mem_map]
       exact ⟨fun ⟨x, hx, e⟩ => bs_inj e ▸ hx, fun h => ⟨nm, h, rfl⟩⟩)
     rw [HCE.out] at HCT
     rw [List.length_map] at hc2 HCT
     clear hos hsr
     by_cases hin : nm ∈ opn
     · have HV3 := hide (show R0 = .error 18 by rw [HV2.out, if_pos hin])
       rw [decide_eq_true hin] at HCT
       clear hin HCE
       go_enter Tryz.func293, Tryz.ntmps293
       go_wp2_with fail
       refine HL1.out.mono ?_
       rintro e w' ⟨rfl, rfl⟩
       go_wp2_with fail
       refine HL2.out.mono ?_
       rintro e w' ⟨rfl, rfl⟩
       go_wp2_with fail
       refine HCT.out.mono ?_
       rintro e w' ⟨rfl, rfl⟩
       go_wp2_with fail
       refine (mfail_any 18 _).mono ?_
       rintro e w' ⟨rfl, rfl⟩
       refine ⟨rfl, ?_⟩
       rw [HV3.out]
       exact ⟨rfl, opn, _, _, OIP.self HI.out⟩
     · have HV3 := hide (show R0 = textF C.a C.l d (opn ++ [nm]) v refs by rw [HV2.out, if_neg hin])
       rw [decide_eq_false hin] at HCT
       obtain ⟨A4, c4, w4, hrun, h41, h42, P1, hoi, hkp, hgr⟩ := HI.out.app (j := 2) (L := opn.map bs) rfl hc2 (bs nm) (by rw [List.length_map]; omega)
       have hset : (xcs C opn ((40 : Int) - (d : Nat)) refs).set 2 (Cl.s (opn.map bs ++ [bs nm])) = xcs C (opn ++ [nm]) ((40 : Int) - (d : Nat)) refs := by simp [xcs]
       rw [hset] at hoi
       have HTX := hide (HT.out (opn ++ [nm]) v refs P1 _ hoi (by rw [List.length_append, List.length_singleton]; omega) (by omega) hvz hr)
       have HKP := hide hkp
       have HGR := hide hgr
       obtain ⟨r, hr2⟩ : ∃ r, textF C.a C.l d (opn ++ [nm]) v refs = r := ⟨_, rfl⟩
       rw [hr2] at HV3 HTX
       have HRUN := hide hrun
       clear hin HCE hset hoi hkp hgr hr2 hrun
       go_enter Tryz.func293, Tryz.ntmps293
       go_wp2_with fail
       refine HL1.out.mono ?_
       rintro e w' ⟨rfl, rfl⟩
       go_wp2_with fail
       refine HL2.out.mono ?_
       rintro e w' ⟨rfl, rfl⟩
       go_wp2_with fail
       refine HCT.out.mono ?_
       rintro e w' ⟨rfl, rfl⟩
       go_wp2_with (at_builtin; refine wpList_app_run ?_ (.tmp 43) (.tmp 45) ?_ ?_ ?_ ?_ HRUN.out ?_; exact rfl; exact rfl; exact rfl; exact rfl; exact rfl)
       refine HTX.out.mono ?_
       rintro e w6 hend
       cases r with
       | error c2 =>
         obtain ⟨rfl, hx⟩ := hend
         refine ⟨rfl, ?_⟩
         rw [HV3.out]
         exact TEnd.go HKP.out HGR.out (opn' := opn ++ [nm]) (d' := (40 : Int) - (d : Nat)) ⟨rfl, hx⟩
       | ok x =>
         obtain ⟨t, n⟩ := x
         obtain ⟨rfl, P2, hoi2, hk2, hg2⟩ := hend
         have hsx : xcs C (opn ++ [nm]) ((40 : Int) - (d : Nat)) n = (xcs C (opn ++ [nm]) ((40 : Int) - (d : Nat)) n).set 2 (Cl.s (opn.map bs ++ [bs nm])) := by simp [xcs]
         obtain ⟨gA, c9, hcell, hle, hop⟩ := OI.popS (cs := xcs C (opn ++ [nm]) ((40 : Int) - (d : Nat)) n) hoi2 (j := 2) (L := opn.map bs) (x := bs nm) (by simp [xcs])
         have hset2 : (xcs C (opn ++ [nm]) ((40 : Int) - (d : Nat)) n).set 2 (Cl.s (opn.map bs)) = xcs C opn ((40 : Int) - (d : Nat)) n := by simp [xcs]
         rw [hset2, List.length_map] at hop
         rw [List.length_map] at hcell hle
         have hfz := hoi2.free 2
         have HFIN := hide (oip_go HKP.out HGR.out (oip_go hk2 hg2 hop))
         obtain ⟨m, hm⟩ : ∃ m, opn.length = m := ⟨_, rfl⟩
         rw [hm] at hcell hle HFIN
         have hm40 : m ≤ 40 := by omega
         clear hop hset2 hsx hoi2 hk2 hg2 hm
         go_wp2_with fail
         go_region
         go_wp2
         go_ret
         rw [HV3.out]
         refine ⟨rfl, ?_⟩
         first | exact HFIN.out | exact HFIN.out.step (Below.refl _ _).drew | exact HFIN.out.step (below_drewN (Below.refl _ _) _)
end
section
open Go.RowKit Go.Deep Ln Mc
attribute [local go_sem] bt_eq
theorem refdown_any (gb gx : Nat) (dv : Int) (u : FrameMode) (w : World) (hb : w.cell? ⟨gb, 0, none⟩ = some (.pointer (some ⟨gx, 0, none⟩))) (hx : w.cell? ⟨gx, 3, none⟩ = some (.int .i64 dv)) (hf : w.frozen? ⟨gx, 3, none⟩ = false) :
   CallsD Tryz.prog 292 #[.pointer (some ⟨gb, 0, none⟩)] u w fun e u' w' => u' = u ∧ e = .returned (.tuple #[]) ∧ w' = w.setCell ⟨gx, 3, none⟩ (.int .i64 (wrap64 (dv - 1))) := by
 refine callsD_of_wp (R := fun e w' => e = .returned (.tuple #[]) ∧ w' = w.setCell ⟨gx, 3, none⟩ (.int .i64 (wrap64 (dv - 1)))) Tryz.func292 rfl ?_
 rw [show ((#[.pointer (some ⟨gb, 0, none⟩)] : Array Value) ++ Array.replicate (Tryz.f292.ntmps - (#[.pointer (some ⟨gb, 0, none⟩)] : Array Value).size) undef) = #[.pointer (some ⟨gb, 0, none⟩), undef, undef, undef, undef, undef, undef, undef] from rfl]
 go_wp2
 go_end0
 exact ⟨rfl, rfl⟩
theorem pwm_settle (c : Nat) : settle (.panicking (pwm c)) = .panicking (pwm c) := rfl
theorem mref_any (w0 : World) (C : Xc) (hC : XOk w0 C) (gx d : Nat) (hT : ∀ d', d = d' + 1 → TCon w0 C gx d') (opn : List T) (s : T) (refs : Nat) (P : Nat → Prop) (w : World) (h : OI w0 ety gx (xcs C opn ((40 : Int) - (d : Nat)) refs) P w) (ho : opn.length + d ≤ 40) (hd : d ≤ 40) (hs : s.length ≤ 9223372036854775807) (hr : refs ≤ 10000) :
   Calls Tryz.prog 287 #[.pointer (some ⟨gx, 0, none⟩), .string (bs s)] w (TEnd w0 C gx opn ((40 : Int) - (d : Nat)) P w (refD C.a C.l d opn s refs)) := by
 have hmf : ∀ (fn : Fn) (first cap : Array Value) (w : World), (Instr.makeFunc fn first cap).run Tryz.prog w = .ok (.func fn first cap) w := fun _ _ _ _ => rfl
 have hbx := (Below.refl w.heap.size w).alloc (Nat.le_refl _) (.cells #[.pointer (some ⟨gx, 0, none⟩)] 270)
 have hI := h.step hbx
 have hgl := h.lt
 have hPg : ¬ P w.heap.size := fun e => by have := (h.tw _ e).2; omega
 have hgb : (w.alloc (.cells #[.pointer (some ⟨gx, 0, none⟩)] 270)).cell? ⟨w.heap.size, 0, none⟩ = some (.pointer (some ⟨gx, 0, none⟩)) := cellOf (heapNew w _) rfl
 have hsz : (w.alloc (.cells #[.pointer (some ⟨gx, 0, none⟩)] 270)).heap.size = w.heap.size + 1 := by simp
 have hc3 := hI.cellV (j := 3) rfl
 have hf3 := hI.free 3
 have hgbu := hgb
 obtain ⟨gb, hgbe⟩ : ∃ g, w.heap.size = g := ⟨_, rfl⟩
 obtain ⟨wb, hwb⟩ : ∃ W, w.alloc (.cells #[.pointer (some ⟨gx, 0, none⟩)] 270) = W := ⟨_, rfl⟩
 rw [hgbe] at hgb hPg hsz
 rw [hwb] at hI hgb hsz hbx
 have HWB := hide hwb
 have HGB := hide hgbe
 have HBX := hide hbx
 cases d with
 | zero =>
   have HI := hide (OIP.after HBX.out (OIP.self hI))
   clear h hI hT hwb hgbe hbx hgb
   go_enter_defers Tryz.func287, Tryz.ntmps287
   go_wp2_with fail
   refine (mfail_any 3 _).mono ?_
   rintro e w' ⟨rfl, rfl⟩
   rw [HWB.out]
   show TEnd w0 C gx opn ((40 : Int) - ((0 : Nat) : Int)) P w (refD C.a C.l 0 opn s refs) (.panicked (pwm 3)) wb
   exact ⟨rfl, opn, _, _, HI.out⟩
 | succ d =>
   obtain ⟨D, hD⟩ : ∃ D : Int, (40 : Int) - ((d + 1 : Nat) : Int) = D := ⟨_, rfl⟩
   rw [hD] at h hI hc3 ⊢
   have hD1 : (40 : Int) - (d : Nat) = D + 1 := by omega
   have hD0 : 0 ≤ D := by omega
   have hD40 : D < 40 := by omega
   have hne : (D == 40) = false := by simp only [beq_eq_false_iff_ne]; omega
   have HWB2 := hide (show (w.setCell ⟨gx, 3, none⟩ (.int .i64 (D + 1))).alloc (.cells #[.pointer (some ⟨gx, 0, none⟩)] 270) = wb.setCell ⟨gx, 3, none⟩ (.int .i64 (D + 1)) by rw [← HWB.out]; exact (World.setCell_alloc_past _ _ _ _ (by omega)).symm)
   obtain ⟨P1, hoi, hkp, hgr⟩ := hI.setV (j := 3) rfl (.int .i64 (D + 1))
   have hset : (xcs C opn D refs).set 3 (.v (.int .i64 (D + 1))) = xcs C opn ((40 : Int) - (d : Nat)) refs := by rw [hD1]; rfl
   rw [hset] at hoi
   have hP1 : ¬ P1 gb := fun e => by
     rcases hgr _ e with q | q
     · exact hPg q
     · omega
   have hgb1 := hkp.cell hgb hPg
   have hsz1 : (wb.setCell ⟨gx, 3, none⟩ (.int .i64 (D + 1))).heap.size = gb + 1 := by simpa using hsz
   have HTX := hide (hT d rfl opn s refs P1 _ hoi (by omega) (by omega) hs hr)
   have HK1 := hide ((Kp.of_below HBX.out P).trans (hkp.mono fun k e => .inl e))
   have HG1 := hide (fun q (e : P1 q) => show P q ∨ w.heap.size ≤ q from (hgr q e).imp_right (fun z => by have := HBX.out.size; omega))
   have HF := hide (show refD C.a C.l (d + 1) opn s refs = refF C.a C.l (textF C.a C.l d) opn s refs from rfl)
   obtain ⟨R0, hR0⟩ : ∃ R, refD C.a C.l (d + 1) opn s refs = R := ⟨_, rfl⟩
   rw [hR0] at HF ⊢
   obtain ⟨r, hr2⟩ : ∃ r, textF C.a C.l d opn s refs = r := ⟨_, rfl⟩
   have HR2 := hide hr2
   rw [hr2] at HTX
   clear hoi hkp hgr hset h hI hR0 hr2 hwb hgbe hbx hgb
   go_enter_defers Tryz.func287, Tryz.ntmps287
   go_wp2_with fail
   rw [HGB.out, HWB2.out]
   refine HTX.out.mono ?_
   rintro e w2 hend
   cases r with
   | error c =>
     obtain ⟨rfl, opn', d', r', P2, hoi2, hk2, hg2⟩ := hend
     have hgb2 := hk2.cell hgb1 hP1
     have hc32 := hoi2.cellV (j := 3) rfl
     have hf32 := hoi2.free 3
     have HFIN := hide (oip_go HK1.out HG1.out (oip_go hk2 hg2 (hoi2.setV (j := 3) rfl (.int .i64 (wrap64 (d' - 1))))))
     have HRE := hide (show R0 = .error c by rw [HF.out]; unfold refF; rw [HR2.out])
     clear hoi2 hk2 hg2
     refine leaves_cons (f := 292) (args := #[.pointer (some ⟨gb, 0, none⟩)]) (by simp) (by simp [go_sem]) ?_
     refine (refdown_any gb gx d' _ w2 hgb2 hc32 hf32).mono ?_
     rintro e u' w3 ⟨rfl, rfl, rfl⟩
     show Leaves _ _ _ _ [] (settle (.panicking (pwm c))) _
     rw [pwm_settle]
     show TEnd w0 C gx opn D P w R0 (.panicked (pwm c)) _
     rw [HRE.out]
     exact ⟨rfl, opn', _, _, HFIN.out⟩
   | ok x =>
     obtain ⟨t, n⟩ := x
     obtain ⟨rfl, P2, hoi2, hk2, hg2⟩ := hend
     have hoi2' : OI w0 ety gx (xcs C opn ((40 : Int) - (d : Nat)) n) P2 w2 := hoi2
     have hgb2 := hk2.cell hgb1 hP1
     have hP2 : ¬ P2 gb := fun e => by
       rcases hg2 _ e with q | q
       · exact hP1 q
       · omega
     have hgl2 := World.block_lt_of_cell? w2 _ hgb2
     have HKA := hide ((HK1.out.trans (hk2.mono fun k e => by rcases HG1.out k e with q | q; exact .inl q; exact .inr q)))
     have HGA := hide (fun q (e : P2 q) => show P q ∨ w.heap.size ≤ q from by
       rcases hg2 q e with z | z
       · exact HG1.out q z
       · exact .inr (Nat.le_trans HK1.out.size z))
     have hn := textF_refs d hr HR2.out
     have htl := textF_len HR2.out
     have hmx := hC.mx.below hoi2'.below
     have hc1l := cut_len t 58
     have hc2l := cut_len (Lib.cut t [58]).2.1 61
     have HC1 := hide (cutc_any t 58 w2 hmx (by omega))
     have HC2 := hide (fun W (hb : Below w2.heap.size w2 W) => cutc_any (Lib.cut t [58]).2.1 61 W (hmx.below hb) (by omega))
     have HRO := hide (show R0 = if (Lib.cut t [58]).2.2 = true ∧ (Lib.cut (Lib.cut t [58]).2.1 [61]).2.2 = true then (match valueF C.a C.l (textF C.a C.l d) opn (Lib.cut t [58]).1 n with | .error e => .error e | .ok (v, r') => .ok (swapF v (Lib.cut (Lib.cut t [58]).2.1 [61]).1 (Lib.cut (Lib.cut t [58]).2.1 [61]).2.1, r')) else valueF C.a C.l (textF C.a C.l d) opn t n from by rw [HF.out]; unfold refF; rw [HR2.out]; rfl)
     obtain ⟨n1, hn1⟩ : ∃ z, (Lib.cut t [58]).1 = z := ⟨_, rfl⟩
     obtain ⟨k1, hk1⟩ : ∃ z, (Lib.cut t [58]).2.2 = z := ⟨_, rfl⟩
     obtain ⟨rs, hrs⟩ : ∃ z, (Lib.cut t [58]).2.1 = z := ⟨_, rfl⟩
     rw [hrs] at HC2 HRO hc2l
     obtain ⟨fr, hfr⟩ : ∃ z, (Lib.cut rs [61]).1 = z := ⟨_, rfl⟩
     obtain ⟨ds, hds⟩ : ∃ z, (Lib.cut rs [61]).2.1 = z := ⟨_, rfl⟩
     obtain ⟨k2, hk22⟩ : ∃ z, (Lib.cut rs [61]).2.2 = z := ⟨_, rfl⟩
     rw [hn1, hk1, hrs] at HC1
     rw [hfr, hds, hk22] at HC2
     rw [hn1, hk1, hfr, hds, hk22] at HRO
     rw [hrs] at hc1l
     rw [hfr, hds] at hc2l
     have HVL := hide (fun (nm : T) W (hb : Below w2.heap.size w2 W) => mvalue_any w0 C hC gx d (hT d rfl) opn nm n P2 W (hoi2'.step hb) (by omega) hn)
     have HSW := hide (fun (v : T) W (hv : v.length ≤ 900000) (hm : MX W) => swapped_any v fr ds W hm hv (by omega) (by omega))
     have HVZ := hide (fun (nm : T) (v : T) r' (e : valueF C.a C.l (textF C.a C.l d) opn nm n = .ok (v, r')) => valueF_len hC.az e)
     have hwr : wrap64 ((40 : Int) - (d : Nat) - 1) = D := by
       have : (40 : Int) - (d : Nat) - 1 = D := by omega
       rw [this]
       unfold wrap64
       omega
     have HWR := hide hwr
     have HMX := hide hC.mx
     have HST := hide (fun (n' : Nat) => show (xcs C opn ((40 : Int) - (d : Nat)) n').set 3 (.v (.int .i64 D)) = xcs C opn D n' from rfl)
     clear hn1 hk1 hrs hfr hds hk22 hc1l hc2l hoi2 hoi2' hk2 hg2 htl hmx hn hwr
     go_wp2_with fail
     refine HC1.out.mono ?_
     rintro e w3 ⟨rfl, hb3⟩
     have HB3 := hide hb3
     clear hb3
     go_wp2_with fail
     refine (HC2.out _ HB3.out).mono ?_
     rintro e w4 ⟨rfl, hb4⟩
     have HB4 := hide (HB3.out.trans (hb4.mono HB3.out.size))
     have hgb4 := (HB4.out.cell (p := ⟨gb, 0, none⟩) hgl2).trans hgb2
     clear hb4
     by_cases hsw : k1 = true ∧ k2 = true
     · obtain ⟨rfl, rfl⟩ := hsw
       have HRO2 := hide (HRO.out.trans (if_pos ⟨rfl, rfl⟩))
       have HV := hide (HVL.out n1 w4 HB4.out)
       have HVZ1 := hide (HVZ.out n1)
       obtain ⟨r, hr3⟩ : ∃ r, valueF C.a C.l (textF C.a C.l d) opn n1 n = r := ⟨_, rfl⟩
       rw [hr3] at HV HRO2 HVZ1
       clear hr3
       go_wp2_with fail
       refine HV.out.mono ?_
       rintro e w5 hend
       cases r with
       | error c =>
         obtain ⟨rfl, opn', d', r', P3, hoi3, hk3, hg3⟩ := hend
         have hgb3 := hk3.cell ((HB4.out.cell (p := ⟨gb, 0, none⟩) hgl2).trans hgb2) hP2
         have hc33 := hoi3.cellV (j := 3) rfl
         have hf33 := hoi3.free 3
         have HFIN := hide (oip_go HKA.out HGA.out (OIP.after HB4.out (oip_go hk3 hg3 (hoi3.setV (j := 3) rfl (.int .i64 (wrap64 (d' - 1)))))))
         have HRE := hide (show R0 = .error c from HRO2.out)
         clear hoi3 hk3 hg3
         refine leaves_cons (f := 292) (args := #[.pointer (some ⟨gb, 0, none⟩)]) (by simp) (by simp [go_sem]) ?_
         refine (refdown_any gb gx d' _ w5 hgb3 hc33 hf33).mono ?_
         rintro e u' w6 ⟨rfl, rfl, rfl⟩
         show Leaves _ _ _ _ [] (settle (.panicking (pwm c))) _
         rw [pwm_settle]
         show TEnd w0 C gx opn D P w R0 (.panicked (pwm c)) _
         rw [HRE.out]
         exact ⟨rfl, opn', _, _, HFIN.out⟩
       | ok x =>
         obtain ⟨v, n'⟩ := x
         obtain ⟨rfl, P3, hoi3, hk3, hg3⟩ := hend
         have hoi3' : OI w0 ety gx (xcs C opn ((40 : Int) - (d : Nat)) n') P3 w5 := hoi3
         have hgb3 := hk3.cell ((HB4.out.cell (p := ⟨gb, 0, none⟩) hgl2).trans hgb2) hP2
         have hgl3 := World.block_lt_of_cell? w5 _ hgb3
         have HS := hide (HSW.out v w5 (HVZ1.out v n' rfl) (HMX.out.below hoi3'.below))
         have HRE := hide (show R0 = .ok (swapF v fr ds, n') from HRO2.out)
         have HOI := hide hoi3'
         have HKB := hide (fun (W : World) (q : OIP w0 ety gx (xcs C opn D n') P3 w5 W) => oip_go HKA.out HGA.out (OIP.after HB4.out (oip_go hk3 hg3 q)))
         clear hoi3 hoi3' hk3 hg3
         go_wp2_with fail
         refine HS.out.mono ?_
         rintro e w6 ⟨rfl, hb6⟩
         have hgb6 := (hb6.cell (p := ⟨gb, 0, none⟩) hgl3).trans hgb3
         have hoi6 := HOI.out.step hb6
         have hc36 := hoi6.cellV (j := 3) rfl
         have hf36 := hoi6.free 3
         have hfin := hoi6.setV (j := 3) rfl (.int .i64 D)
         rw [HST.out] at hfin
         have HFIN := hide (HKB.out _ (OIP.after hb6 hfin))
         clear hoi6 hfin hb6
         go_wp2
         refine leaves_cons (f := 292) (args := #[.pointer (some ⟨gb, 0, none⟩)]) (by simp) (by simp [go_sem]) ?_
         refine (refdown_any gb gx ((40 : Int) - (d : Nat)) _ w6 hgb6 hc36 hf36).mono ?_
         rintro e u' w7 ⟨rfl, rfl, rfl⟩
         rw [HWR.out]
         refine ⟨.string (bs (swapF v fr ds)), by simp [results, Tryz.results287, go_sem], ?_⟩
         rw [HRE.out]
         exact ⟨rfl, HFIN.out⟩
     · have HRO2 := hide (HRO.out.trans (if_neg hsw))
       have HV := hide (HVL.out t w4 HB4.out)
       obtain ⟨r, hr3⟩ : ∃ r, valueF C.a C.l (textF C.a C.l d) opn t n = r := ⟨_, rfl⟩
       rw [hr3] at HV HRO2
       clear hr3
       have hkk : k1 = false ∨ (k1 = true ∧ k2 = false) := by
         cases k1 <;> cases k2 <;> simp at hsw ⊢
       clear hsw
       rcases hkk with rfl | ⟨rfl, rfl⟩
       · go_wp2_with fail
         refine HV.out.mono ?_
         rintro e w5 hend
         cases r with
         | error c =>
           obtain ⟨rfl, opn', d', r', P3, hoi3, hk3, hg3⟩ := hend
           have hgb3 := hk3.cell ((HB4.out.cell (p := ⟨gb, 0, none⟩) hgl2).trans hgb2) hP2
           have hc33 := hoi3.cellV (j := 3) rfl
           have hf33 := hoi3.free 3
           have HFIN := hide (oip_go HKA.out HGA.out (OIP.after HB4.out (oip_go hk3 hg3 (hoi3.setV (j := 3) rfl (.int .i64 (wrap64 (d' - 1)))))))
           have HRE := hide (show R0 = .error c from HRO2.out)
           clear hoi3 hk3 hg3
           refine leaves_cons (f := 292) (args := #[.pointer (some ⟨gb, 0, none⟩)]) (by simp) (by simp [go_sem]) ?_
           refine (refdown_any gb gx d' _ w5 hgb3 hc33 hf33).mono ?_
           rintro e u' w6 ⟨rfl, rfl, rfl⟩
           show Leaves _ _ _ _ [] (settle (.panicking (pwm c))) _
           rw [pwm_settle]
           show TEnd w0 C gx opn D P w R0 (.panicked (pwm c)) _
           rw [HRE.out]
           exact ⟨rfl, opn', _, _, HFIN.out⟩
         | ok x =>
           obtain ⟨v, n'⟩ := x
           obtain ⟨rfl, P3, hoi3, hk3, hg3⟩ := hend
           have hoi3' : OI w0 ety gx (xcs C opn ((40 : Int) - (d : Nat)) n') P3 w5 := hoi3
           have hgb3 := hk3.cell ((HB4.out.cell (p := ⟨gb, 0, none⟩) hgl2).trans hgb2) hP2
           have HRE := hide (show R0 = .ok (v, n') from HRO2.out)
           have hc36 := hoi3'.cellV (j := 3) rfl
           have hf36 := hoi3'.free 3
           have hfin := hoi3'.setV (j := 3) rfl (.int .i64 D)
           rw [HST.out] at hfin
           have HFIN := hide (oip_go HKA.out HGA.out (OIP.after HB4.out (oip_go hk3 hg3 hfin)))
           clear hoi3 hoi3' hk3 hg3 hfin
           go_wp2
           refine leaves_cons (f := 292) (args := #[.pointer (some ⟨gb, 0, none⟩)]) (by simp) (by simp [go_sem]) ?_
           refine (refdown_any gb gx ((40 : Int) - (d : Nat)) _ w5 hgb3 hc36 hf36).mono ?_
           rintro e u' w7 ⟨rfl, rfl, rfl⟩
           rw [HWR.out]
           refine ⟨.string (bs v), by simp [results, Tryz.results287, go_sem], ?_⟩
           rw [HRE.out]
           exact ⟨rfl, HFIN.out⟩
       · go_wp2_with fail
         refine HV.out.mono ?_
         rintro e w5 hend
         cases r with
         | error c =>
           obtain ⟨rfl, opn', d', r', P3, hoi3, hk3, hg3⟩ := hend
           have hgb3 := hk3.cell ((HB4.out.cell (p := ⟨gb, 0, none⟩) hgl2).trans hgb2) hP2
           have hc33 := hoi3.cellV (j := 3) rfl
           have hf33 := hoi3.free 3
           have HFIN := hide (oip_go HKA.out HGA.out (OIP.after HB4.out (oip_go hk3 hg3 (hoi3.setV (j := 3) rfl (.int .i64 (wrap64 (d' - 1)))))))
           have HRE := hide (show R0 = .error c from HRO2.out)
           clear hoi3 hk3 hg3
           refine leaves_cons (f := 292) (args := #[.pointer (some ⟨gb, 0, none⟩)]) (by simp) (by simp [go_sem]) ?_
           refine (refdown_any gb gx d' _ w5 hgb3 hc33 hf33).mono ?_
           rintro e u' w6 ⟨rfl, rfl, rfl⟩
           show Leaves _ _ _ _ [] (settle (.panicking (pwm c))) _
           rw [pwm_settle]
           show TEnd w0 C gx opn D P w R0 (.panicked (pwm c)) _
           rw [HRE.out]
           exact ⟨rfl, opn', _, _, HFIN.out⟩
         | ok x =>
           obtain ⟨v, n'⟩ := x
           obtain ⟨rfl, P3, hoi3, hk3, hg3⟩ := hend
           have hoi3' : OI w0 ety gx (xcs C opn ((40 : Int) - (d : Nat)) n') P3 w5 := hoi3
           have hgb3 := hk3.cell ((HB4.out.cell (p := ⟨gb, 0, none⟩) hgl2).trans hgb2) hP2
           have HRE := hide (show R0 = .ok (v, n') from HRO2.out)
           have hc36 := hoi3'.cellV (j := 3) rfl
           have hf36 := hoi3'.free 3
           have hfin := hoi3'.setV (j := 3) rfl (.int .i64 D)
           rw [HST.out] at hfin
           have HFIN := hide (oip_go HKA.out HGA.out (OIP.after HB4.out (oip_go hk3 hg3 hfin)))
           clear hoi3 hoi3' hk3 hg3 hfin
           go_wp2
           refine leaves_cons (f := 292) (args := #[.pointer (some ⟨gb, 0, none⟩)]) (by simp) (by simp [go_sem]) ?_
           refine (refdown_any gb gx ((40 : Int) - (d : Nat)) _ w5 hgb3 hc36 hf36).mono ?_
           rintro e u' w7 ⟨rfl, rfl, rfl⟩
           rw [HWR.out]
           refine ⟨.string (bs v), by simp [results, Tryz.results287, go_sem], ?_⟩
           rw [HRE.out]
           exact ⟨rfl, HFIN.out⟩
end
section
open Go.RowKit Go.Deep Ln Mc
attribute [local go_sem] bt_eq
def OEnd (w0 : World) (C : Xc) (gx : Nat) (opn : List T) (deep : Int) (P : Nat → Prop) (w : World) (r : Except Nat (T × Nat × Nat)) (e : Ending) (w' : World) : Prop := match r with
 | .error c => e = .panicked (pwm c) ∧ ∃ (opn' : List T) (d' r' : Int), OIP w0 ety gx (xcs C opn' d' r') P w w'
 | .ok (t, k, n) => e = .returned (.tuple #[.string (bs t), .int .i64 k]) ∧ OIP w0 ety gx (xcs C opn deep n) P w w'
def RCon (w0 : World) (C : Xc) (gx : Nat) (opn : List T) (deep : Int) (ref : T → Nat → R) : Prop := ∀ (s : T) (refs : Nat) (P : Nat → Prop) (w : World), OI w0 ety gx (xcs C opn deep refs) P w → s.length ≤ 9223372036854775807 → refs ≤ 10000 →
 Calls Tryz.prog 287 #[.pointer (some ⟨gx, 0, none⟩), .string (bs s)] w (TEnd w0 C gx opn deep P w (ref s refs))
theorem bt_head (c : UInt8) (t : T) : bt (bs (c :: t)) 0 = c.toNat := by
 rw [← bt_eq (bs (c :: t)) 0 (by rw [bs_size]; simp)]
 rfl
theorem mone_any (w0 : World) (C : Xc) (gx : Nat) (opn : List T) (deep : Int) (ref : T → Nat → R) (hR : RCon w0 C gx opn deep ref) (l : T) (refs : Nat) (P : Nat → Prop) (w : World) (h : OI w0 ety gx (xcs C opn deep refs) P w) (hl : l.length ≤ 16384) (hr : refs ≤ 10000) :
   Calls Tryz.prog 275 #[.pointer (some ⟨gx, 0, none⟩), .string (bs l)] w (OEnd w0 C gx opn deep P w (oneF ref l refs)) := by
 have HI := hide h
 have HR := hide hR
 cases l with
 | nil =>
   have HO := hide (show oneF ref [] refs = .ok ([36], 0, refs) from rfl)
   clear h hR
   rw [show bs ([] : T) = ⟨#[]⟩ from rfl]
   go_enter Tryz.func275, Tryz.ntmps275
   go_wp2
   go_ret2
   rw [HO.out]
   exact ⟨rfl, OIP.self HI.out⟩
 | cons c t =>
   obtain ⟨R0, hR0⟩ : ∃ R, oneF ref (c :: t) refs = R := ⟨_, rfl⟩
   have HO := hide (show R0 = if c = 36 then .ok ([36], 1, refs) else if 10000 < refs + 1 then .error 3 else if c = 40 then (match closeF 40 41 0 t with | none => .error 2 | some n => match ref (t.take n) (refs + 1) with | .error e => .error e | .ok (y, r) => .ok (y, n + 2, r)) else if c = 123 then (match closeF 123 125 0 t with | none => .error 2 | some n => match ref (t.take n) (refs + 1) with | .error e => .error e | .ok (y, r) => .ok (y, n + 2, r)) else (match ref [c] (refs + 1) with | .error e => .error e | .ok (y, r) => .ok (y, 1, r)) from hR0.symm)
   rw [hR0]
   have hne : (bs (c :: t)).toList.isEmpty = false := by rw [bs_toList]; rfl
   have hsz : (bs (c :: t)).size = t.length + 1 := by rw [bs_size]; rfl
   have hb0 := bt_head c t
   have he1 : (bs (c :: t)).extract 1 (t.length + 1) = bs t := by rw [ext_bs]; simp
   have HE1 := hide he1
   have HE2 := hide (fun k => show (bs (c :: t)).extract 1 (1 + k) = bs (t.take k) by rw [ext_bs]; simp)
   have HE3 := hide (show (bs (c :: t)).extract 0 1 = bs [c] by rw [ext_bs]; simp)
   have htl : t.length ≤ 16383 := by simp at hl; omega
   obtain ⟨s, hs⟩ : ∃ s, bs (c :: t) = s := ⟨_, rfl⟩
   rw [hs] at hne hsz hb0 HE1 HE2 HE3 ⊢
   have hb1 := hb0
   obtain ⟨m, hm⟩ : ∃ m, c.toNat = m := ⟨_, rfl⟩
   rw [hm] at hb0
   have ec : ∀ d : UInt8, c = d ↔ m = d.toNat := fun d => by rw [← hm]; exact UInt8.toNat_inj.symm
   have e36 := ec 36
   have e40 := ec 40
   have e123 := ec 123
   have n36 : (36 : UInt8).toNat = 36 := rfl
   have n40 : (40 : UInt8).toNat = 40 := rfl
   have n123 : (123 : UInt8).toNat = 123 := rfl
   have hc4 := h.cellV (j := 4) rfl
   have hf4 := h.free 4
   have hp1 : (0 : Int) < (t.length : Int) + 1 := by omega
   clear h hR ec hs hR0 he1 hb1 hm hl
   by_cases h36 : c = 36
   · have q1 : (((bt s 0 : Nat) : Int) == 36) = true := by simp only [beq_iff_eq]; have := e36.1 h36; omega
     have HO2 := hide (HO.out.trans (if_pos h36))
     clear e36 e40 e123 h36
     go_enter Tryz.func275, Tryz.ntmps275
     go_wp2
     go_ret2
     rw [HO2.out]
     exact ⟨rfl, OIP.self HI.out⟩
   have q1 : (((bt s 0 : Nat) : Int) == 36) = false := by simp only [beq_eq_false_iff_ne]; intro e; exact h36 (e36.2 (by omega))
   have HO2 := hide (HO.out.trans (if_neg h36))
   obtain ⟨P1, hoi, hkp, hgr⟩ := HI.out.setV (j := 4) rfl (.int .i64 ((refs : Int) + 1))
   have hc41 := hoi.cellV (j := 4) (x := .int .i64 ((refs : Int) + 1)) rfl
   have hset : (xcs C opn deep refs).set 4 (.v (.int .i64 ((refs : Int) + 1))) = xcs C opn deep ((refs + 1 : Nat) : Int) := rfl
   rw [hset] at hoi
   have HK := hide hkp
   have HG := hide hgr
   have HOI := hide hoi
   clear hset hoi hkp hgr e36 h36
   by_cases hbig : 10000 < refs + 1
   · have q2 : (10000 : Int) < (refs : Int) + 1 := by omega
     have HO3 := hide (HO2.out.trans (if_pos hbig))
     have HFI := hide (oip_go HK.out HG.out (OIP.self HOI.out))
     clear e40 e123 hbig
     go_enter Tryz.func275, Tryz.ntmps275
     go_wp2_with fail
     refine (mfail_any 3 _).mono ?_
     rintro e w' ⟨rfl, rfl⟩
     refine ⟨rfl, ?_⟩
     rw [HO3.out]
     exact ⟨rfl, opn, _, _, HFI.out⟩
   have q2 : ¬ (10000 : Int) < (refs : Int) + 1 := by omega
   have HO3 := hide (HO2.out.trans (if_neg hbig))
   clear hbig HO HO2
   by_cases h40 : c = 40
   · have q3 : (((bt s 0 : Nat) : Int) == 40) = true := by simp only [beq_iff_eq]; have := e40.1 h40; omega
     have HO4 := hide (HO3.out.trans (if_pos h40))
     have HCL := hide (fun W => closed_any t 40 41 W (by omega))
     rw [show ((40 : UInt8).toNat : Nat) = 40 from rfl, show ((41 : UInt8).toNat : Nat) = 41 from rfl] at HCL
     obtain ⟨cl, hcl⟩ : ∃ r, closeF 40 41 0 t = r := ⟨_, rfl⟩
     have HCK := hide (fun k (e : closeF 40 41 0 t = some k) => closeF_lt 40 41 0 t k e)
     rw [hcl] at HO4 HCL HCK
     clear e40 e123 h40 hcl
     go_enter Tryz.func275, Tryz.ntmps275
     go_wp2_with fail
     rw [show s.extract 1 (t.length + 1) = bs t from HE1.out]
     refine (HCL.out _).mono ?_
     rintro e w2 ⟨hcl, rfl⟩
     cases cl with
     | none =>
       replace hcl : e = .panicked (pwm 2) := hcl
       subst hcl
       have HFI := hide (oip_go HK.out HG.out (OIP.self HOI.out))
       have HO5 := hide (show R0 = .error 2 from HO4.out)
       refine ⟨rfl, ?_⟩
       rw [HO5.out]
       exact ⟨rfl, opn, _, _, HFI.out⟩
     | some k =>
       replace hcl : e = .returned (.int .i64 k) := hcl
       subst hcl
       have hkl := HCK.out k rfl
       have HRF := hide (HR.out (t.take k) (refs + 1) P1 _ HOI.out (by rw [List.length_take]; omega) (by omega))
       have HO5 := hide (show R0 = (match ref (t.take k) (refs + 1) with | .error e => .error e | .ok (y, r) => .ok (y, k + 2, r)) from HO4.out)
       obtain ⟨r, hr2⟩ : ∃ r, ref (t.take k) (refs + 1) = r := ⟨_, rfl⟩
       rw [hr2] at HO5 HRF
       have HEK := hide (HE2.out k)
       have hk1 : (1 : Int) ≤ 1 + (k : Int) := by omega
       have hk2 : 1 + (k : Int) ≤ (t.length : Int) + 1 := by omega
       clear hr2
       go_wp2_with fail
       rw [HEK.out]
       refine HRF.out.mono ?_
       rintro e w3 hend
       cases r with
       | error c2 =>
         obtain ⟨rfl, o', d', r', hoi⟩ := hend
         have HFI := hide (oip_go HK.out HG.out hoi)
         have HO6 := hide (show R0 = .error c2 from HO5.out)
         refine ⟨rfl, ?_⟩
         rw [HO6.out]
         exact ⟨rfl, o', _, _, HFI.out⟩
       | ok z =>
         obtain ⟨y, n⟩ := z
         obtain ⟨rfl, hoi⟩ := hend
         have HFI := hide (oip_go HK.out HG.out hoi)
         have HO6 := hide (show R0 = .ok (y, k + 2, n) from HO5.out)
         clear hoi
         go_wp2
         go_ret2
         rw [HO6.out]
         exact ⟨rfl, HFI.out⟩
   have q3 : (((bt s 0 : Nat) : Int) == 40) = false := by simp only [beq_eq_false_iff_ne]; intro e; exact h40 (e40.2 (by omega))
   have HO3B := hide (HO3.out.trans (if_neg h40))
   clear e40 h40 HO3
   by_cases h123 : c = 123
   · have q4 : (((bt s 0 : Nat) : Int) == 123) = true := by simp only [beq_iff_eq]; have := e123.1 h123; omega
     have HO4 := hide (HO3B.out.trans (if_pos h123))
     have HCL := hide (fun W => closed_any t 123 125 W (by omega))
     rw [show ((123 : UInt8).toNat : Nat) = 123 from rfl, show ((125 : UInt8).toNat : Nat) = 125 from rfl] at HCL
     obtain ⟨cl, hcl⟩ : ∃ r, closeF 123 125 0 t = r := ⟨_, rfl⟩
     have HCK := hide (fun k (e : closeF 123 125 0 t = some k) => closeF_lt 123 125 0 t k e)
     rw [hcl] at HO4 HCL HCK
     clear e123 h123 hcl
     go_enter Tryz.func275, Tryz.ntmps275
     go_wp2_with fail
     rw [show s.extract 1 (t.length + 1) = bs t from HE1.out]
     refine (HCL.out _).mono ?_
     rintro e w2 ⟨hcl, rfl⟩
     cases cl with
     | none =>
       replace hcl : e = .panicked (pwm 2) := hcl
       subst hcl
       have HFI := hide (oip_go HK.out HG.out (OIP.self HOI.out))
       have HO5 := hide (show R0 = .error 2 from HO4.out)
       refine ⟨rfl, ?_⟩
       rw [HO5.out]
       exact ⟨rfl, opn, _, _, HFI.out⟩
     | some k =>
       replace hcl : e = .returned (.int .i64 k) := hcl
       subst hcl
       have hkl := HCK.out k rfl
       have HRF := hide (HR.out (t.take k) (refs + 1) P1 _ HOI.out (by rw [List.length_take]; omega) (by omega))
       have HO5 := hide (show R0 = (match ref (t.take k) (refs + 1) with | .error e => .error e | .ok (y, r) => .ok (y, k + 2, r)) from HO4.out)
       obtain ⟨r, hr2⟩ : ∃ r, ref (t.take k) (refs + 1) = r := ⟨_, rfl⟩
       rw [hr2] at HO5 HRF
       have HEK := hide (HE2.out k)
       have hk1 : (1 : Int) ≤ 1 + (k : Int) := by omega
       have hk2 : 1 + (k : Int) ≤ (t.length : Int) + 1 := by omega
       clear hr2
       go_wp2_with fail
       rw [HEK.out]
       refine HRF.out.mono ?_
       rintro e w3 hend
       cases r with
       | error c2 =>
         obtain ⟨rfl, o', d', r', hoi⟩ := hend
         have HFI := hide (oip_go HK.out HG.out hoi)
         have HO6 := hide (show R0 = .error c2 from HO5.out)
         refine ⟨rfl, ?_⟩
         rw [HO6.out]
         exact ⟨rfl, o', _, _, HFI.out⟩
       | ok z =>
         obtain ⟨y, n⟩ := z
         obtain ⟨rfl, hoi⟩ := hend
         have HFI := hide (oip_go HK.out HG.out hoi)
         have HO6 := hide (show R0 = .ok (y, k + 2, n) from HO5.out)
         clear hoi
         go_wp2
         go_ret2
         rw [HO6.out]
         exact ⟨rfl, HFI.out⟩
   have q4 : (((bt s 0 : Nat) : Int) == 123) = false := by simp only [beq_eq_false_iff_ne]; intro e; exact h123 (e123.2 (by omega))
   have HO4 := hide (HO3B.out.trans (if_neg h123))
   have HRF := hide (HR.out [c] (refs + 1) P1 _ HOI.out (by simp) (by omega))
   obtain ⟨r, hr2⟩ : ∃ r, ref [c] (refs + 1) = r := ⟨_, rfl⟩
   rw [hr2] at HO4 HRF
   clear hr2 e123 h123
   go_enter Tryz.func275, Tryz.ntmps275
   go_wp2_with fail
   rw [HE3.out]
   refine HRF.out.mono ?_
   rintro e w3 hend
   cases r with
   | error c2 =>
     obtain ⟨rfl, o', d', r', hoi⟩ := hend
     have HFI := hide (oip_go HK.out HG.out hoi)
     have HO6 := hide (show R0 = .error c2 from HO4.out)
     refine ⟨rfl, ?_⟩
     rw [HO6.out]
     exact ⟨rfl, o', _, _, HFI.out⟩
   | ok z =>
     obtain ⟨y, n⟩ := z
     obtain ⟨rfl, hoi⟩ := hend
     have HFI := hide (oip_go HK.out HG.out hoi)
     have HO6 := hide (show R0 = .ok (y, 1, n) from HO4.out)
     clear hoi
     go_wp2
     go_ret2
     rw [HO6.out]
     exact ⟨rfl, HFI.out⟩
end
section
open Go.RowKit Go.Shelf
def bldT (b : Nat) (w : World) (k : Nat) : Prop := k = b ∨ ∃ v, w.cell? ⟨b, 1, none⟩ = some v ∧ v.ownBlock = some k
open Go.Lib in
theorem app_str_lies {P : Program} {w : World} (base : Nat) (t u ty e : TypeId) (i : TypeInfo) (ht : P.underlying t = some (.slice e)) (hu : P.underlying u = some .string) (hi : P.info? e = some i) (hz : i.zero = some (.int .u8 0)) (hsize : i.size = 1) (hby : i.bytes = 1)
   (v : Value) (n : Nat) (xs : List Value) (hown : w.ownsRow base e 1 v n xs) (s : ByteArray) (h63 : n + s.size ≤ maxLen) (hbytes : n + s.size ≤ 140737488355328) (hbase : base ≤ w.heap.size) :
   ∃ v' w', (Builtin.append_ #[t, u] ty #[v, .string s]).run P w = .ok v' w' ∧ w'.ownsRow base e 1 v' (n + s.size) (xs ++ strCells s) ∧ w.grownBy w' v.ownBlock ∧ (v'.ownBlock = v.ownBlock ∨ v'.ownBlock = some w.heap.size) := by
 obtain ⟨v', w', h1, h2, h3, h4⟩ := run_append_own_string (P := P) w base t u ty e i ht hu hi hz hsize hby v n xs hown s h63 hbytes hbase
 refine ⟨v', w', h1, h2, h3, ?_⟩
 have hsmall : n + s.size ≤ 9223372036854775807 := by simp only [maxLen] at h63; omega
 have hxl : xs.length = n := by simpa using hown.1
 have key : ∀ {va : Value} {wa : World}, (Builtin.append_ #[t, u] ty #[v, .string s]).run P w = .ok va wa → va = v' := fun {va wa} h => by
   rw [h1] at h
   injection h with q1 q2
   exact q1.symm
 rcases hown.2 with ⟨rfl, rfl⟩ | ⟨g, cap, cur, rfl, hbg, hg, hnc, hcm, hcs, htake⟩
 · by_cases hm : s.size = 0
   · rw [h4.2 ⟨rfl, hm⟩]; exact .inl rfl
   · have hr := run_append_nil_string (P := P) w t u ty e i (.int .u8 0) ht hu hi hz s (by omega) (by omega) (by rw [hby]; omega)
     rw [← key hr]
     exact .inr rfl
 · by_cases hroom : n + s.size ≤ cap
   · have hcs' : cur.size = cap := by simpa using hcs
     have hr := run_append_room_string (P := P) w t u ty e i ht hu hi hsize g n cap cur hg s hroom (by omega)
     rw [← key hr]
     exact .inl rfl
   · have holds : ∀ j u, xs[j]? = some u → w.cell? ((⟨g, 0, none⟩ : Addr).add j) = some u := hown.cells (g := g) rfl
     have hr := run_append_grow_string (P := P) w t u ty e i (.int .u8 0) ht hu hi hz ⟨g, 0, none⟩ n cap xs (by rw [hsize]; simpa using hxl) holds s (by omega) (by omega) (by rw [hby]; exact growslice_fits (by omega) (by omega))
     rw [← key hr]
     exact .inr rfl
theorem wpList_app_strL {P : Program} (w : World) {ops : Array Oper} {rest : List Oper} {o : Oper} {a : Act} {Q : Exit → Act → World → Prop} (hgd : o.guard = none) (sl x : Operand) (t u : TypeId)
   (ho : o.op = .call { callee := .builtin .append, args := #[sl, x], argTypes := #[t, u] })
   (base : Nat) (e : TypeId) (i : TypeInfo) (ht : P.underlying t = some (.slice e)) (hu : P.underlying u = some .string) (hi : P.info? e = some i) (hz : i.zero = some (.int .u8 0))
   (hsize : i.size = 1) (hby : i.bytes = 1)
   (v : Value) (n : Nat) (xs : List Value) (hs : a.eval sl = v) (hown : w.ownsRow base e 1 v n xs) (s : ByteArray) (hx : a.eval x = .string s)
   (h63 : n + s.size ≤ maxLen) (hbytes : n + s.size ≤ 140737488355328) (hbase : base ≤ w.heap.size)
   (h : ∀ v' w', w'.ownsRow base e 1 v' (n + s.size) (xs ++ Lib.strCells s) → w.grownBy w' v.ownBlock → (v'.ownBlock = v.ownBlock ∨ v'.ownBlock = some w.heap.size) → wpList P ops Q rest (a.put o.dst v') w') : wpList P ops Q (o :: rest) a w := by
 refine wpList_plain hgd fun K hK => ?_
 obtain ⟨v', w', hr, h2, h3, h4⟩ := app_str_lies (P := P) (w := w) base t u o.type e i ht hu hi hz hsize hby v n xs hown s h63 hbytes hbase
 unfold Oper.wp execOp
 simp only [ho, resolve, invoke, builtin, Sem.run_bind, Sem.run_pure, Result.andThen_ok, List.map_toArray, List.map_cons, List.map_nil, hs, hx, hr]
 exact hK _ _ (h v' w' h2 h3 h4)
theorem Kp.refl' (w : World) (T : Nat → Prop) : Kp w w T := ⟨rfl, rfl, rfl, Nat.le_refl _, fun _ _ _ => rfl⟩
theorem copyCheckQ_any (B b : Nat) (bs : List Value) (w : World) (h : Lib.IsBuilder 122 5 B b bs w) :
   Calls Tryz.prog 117 #[.pointer (some ⟨b, 0, none⟩)] w fun e w' => e = .returned (.tuple #[]) ∧ Lib.BuilderAt 122 5 B b (.pointer (some ⟨b, 0, none⟩)) bs w' ∧ Below B w w' ∧ Kp w w' (fun k => k = b) ∧ w'.cell? ⟨b, 1, none⟩ = w.cell? ⟨b, 1, none⟩ := by
 obtain ⟨j, hj, hjs⟩ := Option.map_eq_some_iff.1 bldInfo
 have u35 := run_underlying Tryz.underlying120
 rcases h with h | h
 · have h0 := h.cell0
   have hsh := h.shape
   have hfz := h.frozen0
   have HB := hide h
   clear h
   go_enter Tryz.func117, Tryz.ntmps117
   go_wp2
   rw [Lib.run_to_unsafe w ⟨b, 0, none⟩ Tryz.underlying120 Tryz.underlying218 hj (by rw [hjs]; decide) hsh (Nat.zero_lt_succ 1)]
   simp only [Result.andThen]
   rw [Oper.upon_value]
   go_wp2
   rw [run_callFunc_extern Tryz.func176 (by kernel_rfl) (by kernel_rfl) (by kernel_rfl) (e := Extern.AbiNoEscape.same) (by kernel_rfl)]
   rw [Lib.run_noEscape]
   simp only [Result.andThen]
   rw [Oper.upon_value]
   go_wp2
   rw [Lib.run_from_unsafe w ⟨b, 0, none⟩ Tryz.underlying218 Tryz.underlying120 hj hsh bldLies]
   simp only [Result.andThen]
   rw [Oper.upon_value]
   go_wp2
   go_end0
   exact ⟨rfl, HB.out.used _, (Below.refl B w).setCell (p := ⟨b, 0, none⟩) HB.out.1 _, objKp, World.cell?_setCell_other _ _ _ _ (by intro e; injection e with e1 e2; cases e2)⟩
 · have h0 := h.cell0
   have HB := hide h
   clear h
   go_enter Tryz.func117, Tryz.ntmps117
   go_wp2
   rw [Lib.run_neq_ptr_same _ _ Tryz.underlying120 hj]
   go_wp2
   go_end0
   exact ⟨rfl, HB.out, Below.refl B w, Kp.refl' _ _, rfl⟩
theorem writeStrQ_any (B b : Nat) (l : List UInt8) (s : ByteArray) (w : World) (h : Bld B b l w) (hlen : l.length + s.size ≤ 140737488355328) (hBw : B ≤ w.heap.size) :
   Calls Tryz.prog 65 #[.pointer (some ⟨b, 0, none⟩), .string s] w fun e w' => e = .returned (.tuple #[.int .i64 s.size, .nilIface]) ∧ Bld B b (l ++ s.data.toList) w' ∧ Below B w w' ∧ Kp w w' (bldT b w) ∧ ∀ k, bldT b w' k → bldT b w k ∨ w.heap.size ≤ k := by
 obtain ⟨i0, hi, hz0, hz1, hz2⟩ := info_parts bytInfo
 have HC := hide (copyCheckQ_any B b _ w h)
 have hbl : (Lib.byteCells l).length = l.length := by simp [Lib.byteCells]
 have HBL := hide hbl
 obtain ⟨bs, hbs⟩ : ∃ bs, Lib.byteCells l = bs := ⟨_, rfl⟩
 have HBS := hide hbs
 unfold Bld at h
 rw [hbs] at HC h
 rw [hbs] at hbl
 have HBL2 := hide hbl
 clear h hbs hbl
 go_enter Tryz.func65, Tryz.ntmps65
 go_wp2_with fail
 refine HC.out.mono ?_
 rintro e w1 ⟨rfl, h1, hb1, hk1, hcc⟩
 obtain ⟨hB, v, hbk, hown, hne⟩ := h1
 have HCC := hide hcc
 clear hcc
 have c0 : w1.cell? ⟨b, 0, none⟩ = some (.pointer (some ⟨b, 0, none⟩)) := by rw [Lib.cell_of_heap hbk]; rfl
 have c1 : w1.cell? ⟨b, 1, none⟩ = some v := by rw [Lib.cell_of_heap hbk]; rfl
 go_wp2_with (at_builtin; refine wpList_app_strL _ rfl _ _ 55 9 rfl B 5 i0 Tryz.underlying55 Tryz.underlying9 hi hz0 hz1 hz2 _ _ _ rfl hown s rfl ?c3 ?c4 ?c5 ?_)
 case c3 => unfold maxLen; have := HBL2.out; omega
 case c4 => have := HBL2.out; omega
 case c5 => have := hb1.size; omega
 intro v' w2 hown' hgrow hv'
 have hlt : b < w1.heap.size := (Array.getElem?_eq_some_iff.1 hbk).1
 have hb2 : w2.heap[b]? = some (.cells #[.pointer (some ⟨b, 0, none⟩), v] 122 (0, 0)) := by
   rw [hgrow.block b hlt (fun e => hne e.symm)]
   exact hbk
 have d0 : w2.cell? ⟨b, 0, none⟩ = some (.pointer (some ⟨b, 0, none⟩)) := by rw [Lib.cell_of_heap hb2]; rfl
 have d1 : w2.cell? ⟨b, 1, none⟩ = some v := by rw [Lib.cell_of_heap hb2]; rfl
 have f1 : w2.frozen? ⟨b, 1, none⟩ = false := Lib.frozen_of_heap hb2 1
 obtain ⟨ao, n', cap, rfl⟩ : ∃ ao n' cap, v' = .slice ao n' cap := by
   rcases hown'.2 with ⟨hv, _⟩ | ⟨g, cap, cur, hv, _⟩
   · exact ⟨_, _, _, hv⟩
   · exact ⟨_, _, _, hv⟩
 go_wp2
 go_ret2
 have hvw : ∀ k, v.ownBlock = some k → bldT b w k := fun k e => .inr ⟨v, by rw [← HCC.out]; exact c1, e⟩
 have hgK : Kp w1 w2 (fun k => v.ownBlock = some k) := ⟨hgrow.os, hgrow.tape, hgrow.output, hgrow.size, fun k hk hn => hgrow.block k hk (fun e => hn e.symm)⟩
 have hsK : Kp w2 (w2.setCell ⟨b, 1, none⟩ (.slice ao n' cap)) (fun k => k = b) := objKp
 refine ⟨rfl, .inr ?_, ?_, ?_, ?_⟩
 · rw [← bldCells, HBS.out]
   exact Lib.BuilderAt.put hB hb2 (bs' := bs ++ Lib.strCells s) (by rw [List.length_append, Lib.strCells_length]; exact hown') neBld
 · exact (hb1.grown hgrow (by have := hb1.size; omega) (fun k hk => (hown.lt k hk).1)).setCell (p := ⟨b, 1, none⟩) hB _
 · exact (hk1.mono fun k e => .inl e).trans ((hgK.mono fun k e => .inl (hvw k e)).trans (hsK.mono fun k e => .inl (.inl (.inl e))))
 · intro k hk
   rcases hk with rfl | ⟨u, hu, e⟩
   · exact .inl (.inl rfl)
   · have hu2 : (w2.setCell ⟨b, 1, none⟩ (.slice ao n' cap)).cell? ⟨b, 1, none⟩ = some (.slice ao n' cap) := World.cell?_setCell_same _ _ _ d1
     rw [hu2] at hu
     injection hu with hu
     subst hu
     rcases hv' with q | q
     · exact .inl (hvw k (q ▸ e))
     · rw [q] at e
       injection e with e
       have := hk1.size
       exact .inr (by omega)
theorem OI.kp {w0 w w' : World} {ty : TypeId} {g : Nat} {cs : List Cl} {T Q : Nat → Prop} (h : OI w0 ty g cs T w) (hk : Kp w w' Q) (hn : ∀ k, T k → ¬ Q k) (hb : Below w0.heap.size w0 w') : OI w0 ty g cs T w' := by
 obtain ⟨vs, h1, h2, h3, h4⟩ := h.body
 have hbk : ∀ k, T k → w'.heap[k]? = w.heap[k]? := fun k e => hk.block k (h.tw k e).2 (hn k e)
 refine ⟨hb, h.tg, fun k e => ⟨(h.tw k e).1, Nat.lt_of_lt_of_le (h.tw k e).2 hk.size⟩, vs, (hbk g h.tg).trans h1, h2, fun j c u hc hu => ?_, h4⟩
 obtain ⟨h5, h6⟩ := h3 j c u hc hu
 exact ⟨h5.of fun hr k e => hbk k (h6 hr k e).1, h6⟩
theorem Bld.kp {B b : Nat} {l : List UInt8} {w w' : World} {Q : Nat → Prop} (h : Bld B b l w) (hk : Kp w w' Q) (hn : ∀ k, bldT b w k → ¬ Q k) : Bld B b l w' ∧ ∀ k, bldT b w' k → bldT b w k := by
 have hlt : b < w.heap.size := by
   rcases h with ⟨_, v, h2, _⟩ | ⟨_, v, h2, _⟩ <;> exact (Array.getElem?_eq_some_iff.1 h2).1
 have hbb := hk.block b hlt (hn b (.inl rfl))
 have hc : w'.cell? ⟨b, 1, none⟩ = w.cell? ⟨b, 1, none⟩ := World.cell?_of_block (a := ⟨b, 1, none⟩) hbb
 have key : ∀ p, Lib.BuilderAt 122 5 B b p (Lib.byteCells l) w → Lib.BuilderAt 122 5 B b p (Lib.byteCells l) w' := by
   rintro p ⟨h1, v, h2, h3, h4⟩
   have hv : w.cell? ⟨b, 1, none⟩ = some v := by rw [Lib.cell_of_heap h2]; rfl
   exact ⟨h1, v, hbb.trans h2, ownsRow_of h3 fun k e => hk.block k (h3.lt k e).2 (hn k (.inr ⟨v, hv, e⟩)), h4⟩
 refine ⟨h.imp (key _) (key _), fun k e => ?_⟩
 rcases e with e | ⟨v, h1, h2⟩
 · exact .inl e
 · exact .inr ⟨v, by rw [← hc]; exact h1, h2⟩
theorem Bld.lt {B b : Nat} {l : List UInt8} {w : World} (h : Bld B b l w) : ∀ k, bldT b w k → B ≤ k ∧ k < w.heap.size := by
 have key : ∀ p, Lib.BuilderAt 122 5 B b p (Lib.byteCells l) w → ∀ k, bldT b w k → B ≤ k ∧ k < w.heap.size := by
   rintro p ⟨h1, v, h2, h3, h4⟩ k hk
   have hv : w.cell? ⟨b, 1, none⟩ = some v := by rw [Lib.cell_of_heap h2]; rfl
   rcases hk with rfl | ⟨u, hu, e⟩
   · exact ⟨h1, (Array.getElem?_eq_some_iff.1 h2).1⟩
   · rw [hv] at hu
     injection hu with hu
     subst hu
     exact h3.lt k e
 rcases h with h | h
 · exact key _ h
 · exact key _ h
theorem OI.others {w0 w w' : World} {ty e : TypeId} {b : Nat} {g : Nat} {cs : List Cl} {T : Nat → Prop} (h : OI w0 ty g cs T w) (ho : Lib.OthersKept e (some b) w w') (hb : ¬ T b) (hty : ty ≠ e) (hcs : ∀ c ∈ cs, ∀ t n len vals, c = .r t n len vals → t ≠ e) (hz : w.heap.size ≤ w'.heap.size) (hbl : Below w0.heap.size w0 w') : OI w0 ty g cs T w' := by
 obtain ⟨vs, h1, h2, h3, h4⟩ := h.body
 have hg := ho g _ h1 (fun q => hb (by injection q with q; exact q ▸ h.tg)) (fun c fz q => by injection q with q1 q2; exact hty q2)
 refine ⟨hbl, h.tg, fun k q => ⟨(h.tw k q).1, Nat.lt_of_lt_of_le (h.tw k q).2 hz⟩, vs, hg, h2, fun j c u hc hu => ?_, h4⟩
 obtain ⟨h5, h6⟩ := h3 j c u hc hu
 refine ⟨?_, h6⟩
 cases c with
 | v x => exact h5
 | r t n len vals =>
   obtain ⟨q1, q2⟩ := h5
   refine ⟨q1, ?_⟩
   rcases q2 with q2 | ⟨gr, cap, cur, rfl, hgr, hh, r⟩
   · exact .inl q2
   · refine .inr ⟨gr, cap, cur, rfl, hgr, ?_, r⟩
     have hT := (h6 rfl gr rfl).1
     exact ho gr _ hh (fun q => hb (by injection q with q; exact q ▸ hT)) (fun c fz q => by injection q with q3 q4; exact hcs _ (List.mem_of_getElem? hc) t n len vals rfl q4)
end
end Go.Proofs.YtpheeheikigenaaGreatDoor
