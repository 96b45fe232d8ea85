/- Maps from texts to true: sets of texts. -/
import Derived.Test.YtmblmenafplccaaGreatDoorMapG
import Derived.Test.YtmblmenafplccaaGreatDoorSep
import Derived.Test.YtmblmenafplccaaGreatDoorRowG
import Derived.Maps.OwnSet
import Derived.Maps.StringElems
import Derived.Maps.Views
import Derived.StringKeys
import Derived.Lib.SlicesS
namespace Go.Proofs.YtmblmenafplccaaGreatDoor
open Go.RowKit Go.Deep Go.Maps

def hB (v : Value) : Option (DataW Value × List MemPlace) := some (.held v, [])
def fB (b : Bool) : DataW Value := .held (.bool b)
def valB : Option Bool → Value
  | none => .bool false
  | some b => .bool b
def MapB (w : World) (b : Nat) (P : KV Bool) : Prop := w.ownsMap Tryz.prog 9 hB b P.length (datG fB P)
theorem bkeyed : Keyed Tryz.prog 9 := string_keyed Tryz.underlying9
theorem bzero (w : World) : (zeroValue 4).run Tryz.prog w = .ok (.bool false) w := by kernel_rfl
theorem bkey {s : ByteArray} (h : s.size ≤ 9223372036854775807) : keyOf Tryz.prog 9 (.string s) = some (kLit s) := Go.WideMaps.keyOf_string_mk Tryz.underlying9 (by unfold maxLen; omega)
theorem own_tightB {w : World} {b n : Nat} {P : KV Bool} (h : w.ownsMap Tryz.prog 9 hB b n (datG fB P)) : MapB w b P := by
  obtain ⟨es, clock, h1, h2, h3, h4⟩ := h
  refine ⟨es, clock, h1, h2, ?_, h4⟩
  have := congrArg Maps.size h4
  rw [datG_size] at this
  rw [this]
  simp [Maps.size, length_sorted]
theorem MapB.of {w w' : World} {b : Nat} {P : KV Bool} (h : MapB w b P) (hb : w'.heap[b]? = w.heap[b]?) : MapB w' b P := by
  obtain ⟨es, clock, h1, h2⟩ := h
  exact ⟨es, clock, hb.trans h1, h2⟩
theorem MapB.lt {w : World} {b : Nat} {P : KV Bool} (h : MapB w b P) : b < w.heap.size := by
  obtain ⟨es, clock, h1, h2⟩ := h
  exact (Array.getElem?_eq_some_iff.1 h1).1
theorem bat_val {P : KV Bool} {s : ByteArray} {v : Value} {ps : List MemPlace} (h : hB v = some ((datG fB P).atKey (kLit s) (.held (.bool false)), ps)) : v = valB (getG P s) := by
  unfold hB at h
  rw [datG_at] at h
  cases hg : getG P s with
  | none => rw [hg] at h; injection h with h; injection h with h1 h2; injection h1
  | some e => rw [hg] at h; injection h with h; injection h with h1 h2; unfold fB at h1; injection h1
theorem blook1 {w : World} {b : Nat} {P : KV Bool} (h : MapB w b P) {s : ByteArray} (hs : s.size ≤ 9223372036854775807) :
    (Instr.lookup 80 (.map (some b)) (.string s) false).run Tryz.prog w = .ok (valB (getG P s)) w := by
  obtain ⟨v, ps, hrun, hv⟩ := h.lookup bkeyed Tryz.underlying80 (bzero w) (zd := .held (.bool false)) (zp := []) rfl (bkey hs)
  rw [hrun, bat_val hv]
theorem blen {w : World} {b : Nat} {P : KV Bool} (h : MapB w b P) (ty : TypeId) : (Builtin.len_ #[80] ty #[.map (some b)]).run Tryz.prog w = .ok (.int .i64 P.length) w := by
  rw [h.len Tryz.underlying80 ty, datG_size]
theorem turnedB {w w' : World} {b : Nat} (h : w.mapTurned w' b) : Kp w w' (fun k => k = b) :=
  ⟨h.grown.os, h.grown.tape, h.grown.output, h.grown.size, fun k hk hne => h.grown.block k hk (by intro e; injection e with e; exact hne e)⟩
theorem bstore {w : World} {b : Nat} {P : KV Bool} (h : MapB w b P) (hr : RiseG P) (hl : P.length ≤ 1000000) {s : ByteArray} (hs : s.size ≤ 9223372036854775807) (e : Bool) :
    ∃ w', (Instr.mapUpdate 80 (.map (some b)) (.string s) (.bool e)).run Tryz.prog w = .ok () w' ∧ MapB w' b (putG (s, e) P) ∧ Kp w w' (fun k => k = b) ∧ w'.heap.size = w.heap.size := by
  obtain ⟨w', h1, h2, h3⟩ := h.store bkeyed Tryz.underlying80 (by unfold maxLen; omega) (bkey hs) (val := .bool e) (d := fB e) (ps := []) rfl
  rw [datG_put fB hr] at h2
  refine ⟨w', h1, own_tightB h2, turnedB h3, ?_⟩
  obtain ⟨es, clock, es', clock', hb, rfl⟩ := h3
  simp [ChangeMaps.setBlock]
/-- the map of block b says true of the texts l, and of no others -/
def MSet (w : World) (b : Nat) (l : List ByteArray) : Prop := ∃ P : KV Bool, MapB w b P ∧ RiseG P ∧ P.length ≤ l.length ∧ ∀ s, getG P s = if Lib.containsS l s = true then some true else none
theorem MSet.of {w w' : World} {b : Nat} {l : List ByteArray} (h : MSet w b l) (hb : w'.heap[b]? = w.heap[b]?) : MSet w' b l := by
  obtain ⟨P, h1, h2⟩ := h
  exact ⟨P, h1.of hb, h2⟩
theorem MSet.lt {w : World} {b : Nat} {l : List ByteArray} (h : MSet w b l) : b < w.heap.size := by
  obtain ⟨P, h1, h2⟩ := h
  exact h1.lt
theorem MSet.look {w : World} {b : Nat} {l : List ByteArray} (h : MSet w b l) {s : ByteArray} (hs : s.size ≤ 9223372036854775807) :
    (Instr.lookup 80 (.map (some b)) (.string s) false).run Tryz.prog w = .ok (.bool (Lib.containsS l s)) w := by
  obtain ⟨P, h1, h2, h3, h4⟩ := h
  rw [blook1 h1 hs, h4]
  cases Lib.containsS l s <;> rfl
theorem MSet.made (w : World) : MSet (w.alloc (.map #[] 0)) w.heap.size [] :=
  ⟨[], own_tightB (P := []) (World.ownsMap_made w Tryz.prog 9 hB), RiseG.nil, Nat.le_refl _, fun s => by rw [show Lib.containsS [] s = false by rw [← Bool.not_eq_true, Lib.containsS_iff]; simp]; rfl⟩
theorem MSet.add {w : World} {b : Nat} {l : List ByteArray} (h : MSet w b l) (hl : l.length ≤ 1000000) {s : ByteArray} (hs : s.size ≤ 9223372036854775807) :
    ∃ w', (Instr.mapUpdate 80 (.map (some b)) (.string s) (.bool true)).run Tryz.prog w = .ok () w' ∧ MSet w' b (l ++ [s]) ∧ Kp w w' (fun k => k = b) ∧ w'.heap.size = w.heap.size := by
  obtain ⟨P, h1, h2, h3, h4⟩ := h
  obtain ⟨w', r1, r2, r3, r4⟩ := bstore h1 h2 (by omega) hs true
  refine ⟨w', r1, ⟨_, r2, RiseG.put _ h2, ?_, fun x => ?_⟩, r3, r4⟩
  · rw [putG_len _ h2, List.length_append, List.length_singleton]
    split <;> omega
  · rw [getG_put, h4]
    by_cases e : s = x
    · subst e
      rw [if_pos rfl, if_pos ((Lib.containsS_iff _ _).2 (by simp))]
    · rw [if_neg e]
      have : Lib.containsS (l ++ [s]) x = Lib.containsS l x := by
        rw [Bool.eq_iff_iff, Lib.containsS_iff, Lib.containsS_iff, List.mem_append, List.mem_singleton]
        constructor
        · rintro (h | h)
          · exact h
          · exact absurd h.symm e
        · exact .inl
      rw [this]
theorem nodup_len {α : Type} : ∀ {l m : List α}, l.Nodup → (∀ x ∈ l, x ∈ m) → l.length ≤ m.length
  | [], _, _, _ => Nat.zero_le _
  | x :: l, m, hn, h => by
    classical
    have h1 := List.nodup_cons.1 hn
    have hx := h x (by simp)
    have ih := nodup_len (m := m.erase x) h1.2 (fun y hy => (List.mem_erase_of_ne (fun (e : y = x) => h1.1 (e ▸ hy))).2 (h y (by simp [hy])))
    rw [List.length_erase_of_mem hx] at ih
    have := List.length_pos_of_mem hx
    simp only [List.length_cons]
    omega
/-- how many it has -/
theorem MSet.len {w : World} {b : Nat} {l : List ByteArray} (h : MSet w b l) (hn : l.Nodup) (ty : TypeId) : (Builtin.len_ #[80] ty #[.map (some b)]).run Tryz.prog w = .ok (.int .i64 l.length) w := by
  obtain ⟨P, h1, h2, h3, h4⟩ := h
  rw [blen h1]
  have : l.length ≤ P.length := by
    have hsub : ∀ x ∈ l, x ∈ P.map (·.1) := fun x hx => by
      have := h4 x
      rw [if_pos ((Lib.containsS_iff _ _).2 hx)] at this
      exact List.mem_map.2 ⟨_, getG_mem this, rfl⟩
    have := nodup_len hn hsub
    simpa using this
  rw [show P.length = l.length by omega]
end Go.Proofs.YtmblmenafplccaaGreatDoor
