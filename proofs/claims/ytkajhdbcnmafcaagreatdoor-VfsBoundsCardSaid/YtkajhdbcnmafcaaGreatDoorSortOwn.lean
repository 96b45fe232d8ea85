/- slices.Sort at texts of the call's own. -/
import Derived.Test.YtkajhdbcnmafcaaGreatDoorStrsWalk
import Derived.Test.YtkajhdbcnmafcaaGreatDoorShelfS
import Derived.Sort.OwnSorted
namespace Go.Proofs.YtkajhdbcnmafcaaGreatDoor
open Go.RowKit Go.Deep Go.Sort
theorem strVals_enc (F : List ByteArray) : strVals F = (F.map fun s => s.data.toList).map encStr := by
  unfold strVals
  rw [List.map_map]
  apply List.map_congr_left
  intro s _
  rfl
theorem enc_strVals (L : List (List UInt8)) : strVals (L.map fun l => (⟨l.toArray⟩ : ByteArray)) = L.map encStr := by
  unfold strVals
  rw [List.map_map]
  rfl
theorem sortOwn_any {w : World} {base : Nat} {v : Value} {F : List ByteArray} (h : OwnS w base v F) (hl : F.length ≤ 100000) :
    Calls Tryz.prog 98 #[v] w fun e w' => e = .returned (.tuple #[]) ∧ OwnS w' base v (((F.map fun s => s.data.toList).mergeSort fun x y => decide (x ≤ y)).map fun l => (⟨l.toArray⟩ : ByteArray)) ∧ w.grownBy w' v.ownBlock := by
  rcases h.2 with ⟨rfl, hn⟩ | ⟨g, cap, cur, rfl, hbg, hh, hc, hm, hs, ht⟩
  · have hF : F = [] := List.eq_nil_of_length_eq_zero hn
    subst hF
    exact (Tryz.slices_Sort_string_none none 0 w).mono fun e w' ⟨h1, h2⟩ => ⟨h1, by rw [h2]; simpa using OwnS.nil w base, by rw [h2]; exact World.grownBy.refl _ _⟩
  · have hlen : (F.map fun s => s.data.toList).length = F.length := by simp
    rw [Nat.mul_one] at ht
    have hH : Holds encStr w g 0 (F.map fun s => s.data.toList).toArray := holds_of_block hh (by rw [hlen, ht, strVals_enc])
    have := Tryz.slices_Sort_string g 0 cap (F.map fun s => s.data.toList) w hH (World.ownsRow.lt h g rfl).2 (by rw [hlen]; omega)
    rw [hlen] at this
    refine this.mono ?_
    rintro e w' ⟨rfl, n, os, rfl⟩
    refine ⟨rfl, ?_, grownBy_sorted _⟩
    have ho := ownsRow_sorted (n := n) (os := os) (ss := F.map fun s => s.data.toList) (ts := (F.map fun s => s.data.toList).mergeSort fun x y => decide (x ≤ y)) (by simp) hbg hh (by rw [hlen]; exact hc) hm hs
    unfold OwnS
    rw [enc_strVals]
    simpa using ho
end Go.Proofs.YtkajhdbcnmafcaaGreatDoor
