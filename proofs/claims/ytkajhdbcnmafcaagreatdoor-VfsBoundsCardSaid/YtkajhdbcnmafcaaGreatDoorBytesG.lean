/- A slice of bytes of the call's own: what it reads as; its text. -/
import Derived.Test.YtkajhdbcnmafcaaGreatDoorRowG
import Derived.Test.YtkajhdbcnmafcaaGreatDoorBs
import Derived.Test.YtkajhdbcnmafcaaGreatDoorRowsWalk
namespace Go.Proofs.YtkajhdbcnmafcaaGreatDoor
open Go.RowKit Go.Deep
def encB (c : UInt8) : List Value := [.int .u8 c.toNat]
theorem encB_len (c : UInt8) : (encB c).length = 1 := rfl
theorem encB_one (c : UInt8) : ∀ u ∈ encB c, u.oneCell' = true := by
  intro u hu
  simp [encB] at hu
  subst hu; rfl
def rowB : RowT Tryz.prog 23 5 1 := { z := .int .u8 0, bytes := 1, und := Tryz.underlying23, info := by kernel_rfl, zlen := rfl, pos := by omega, sb := by omega }
abbrev OwnY (w : World) (base : Nat) (v : Value) (l : List UInt8) : Prop := OwnG encB 1 5 w base v l
theorem run_appY {w : World} {base : Nat} {v : Value} {L N : List UInt8} {A : Option Addr} {c : Nat} (h : OwnY w base v L) (hn : RG encB 1 w A N) (hbase : base ≤ w.heap.size) (hl : L.length + N.length ≤ 1000000) :
    ∃ v' w', (Builtin.append_ #[23, 23] 23 #[v, .slice A N.length c]).run Tryz.prog w = .ok v' w' ∧ OwnY w' base v' (L ++ N) ∧ w.grownBy w' v.ownBlock ∧ (v'.ownBlock = v.ownBlock ∨ v'.ownBlock = some w.heap.size) := run_appG rowB encB_len encB_one h hn hbase hl
theorem ry_new (w : World) (c : UInt8) (t : TypeId) : RG encB 1 (w.alloc (.cells #[.int .u8 c.toNat] t)) (some ⟨w.heap.size, 0, none⟩) [c] := rg_new w c t
theorem conv_nilY (w : World) (c : Nat) : (convert 23 9 (.slice none 0 c)).run Tryz.prog w = .ok (.string ⟨#[]⟩) w := by kernel_rfl
theorem ds_map (l : List UInt8) : ds ((List.range l.length).map fun i => (l.getD i 0).toNat) = bs l := by
  have : (List.range l.length).map (fun i => (l.getD i 0).toNat) = l.map UInt8.toNat := by
    apply List.ext_getElem
    · simp
    · intro i h1 h2
      simp at h1
      simp [h1]
  rw [this]
  apply ByteArray.ext
  apply Array.ext'
  simp only [ds, bs, strOfNums, List.map_map]
  conv => rhs; rw [← List.map_id l]
  congr 1
  congr 1
  funext c
  simp
/-- such a slice's text -/
theorem conv_Y {w : World} {base : Nat} {v : Value} {l : List UInt8} (h : OwnY w base v l) : (convert 23 9 v).run Tryz.prog w = .ok (.string (bs l)) w := by
  obtain ⟨A, c, rfl, hc, hr, _, hz⟩ := h.slice encB_len
  cases A with
  | none =>
    have hl : l = [] := by
      cases l with
      | nil => rfl
      | cons b l =>
        obtain ⟨g, o, e, _⟩ := hr 0 b rfl
        cases e
    subst hl
    exact conv_nilY w c
  | some a =>
    obtain ⟨g, rfl⟩ := hz a rfl
    have := conv_bytes (W := w) (g := g) (n := l.length) (cap := c) (f := fun i => (l.getD i 0).toNat) (fun i hi => by
      obtain ⟨g', o', e, _, h1⟩ := hr i l[i] (List.getElem?_eq_getElem hi)
      injection e with e
      injection e with e1 e2
      subst e1 e2
      have := h1 0 _ rfl
      rw [show 0 + i * 1 + 0 = i from by omega] at this
      rw [this]
      simp [hi])
    rw [ds_map] at this
    exact this
theorem bt_bs (l : List UInt8) (k : Nat) : bt (bs l) k = (l.getD k 0).toNat := by
  simp [bt, bs]
end Go.Proofs.YtkajhdbcnmafcaaGreatDoor
