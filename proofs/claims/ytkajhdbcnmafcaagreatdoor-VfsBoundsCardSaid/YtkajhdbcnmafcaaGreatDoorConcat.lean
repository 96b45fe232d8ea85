/- Walk of slices.Concat at rows of bytes. -/
import Derived.Test.YtkajhdbcnmafcaaGreatDoorShelfH
import Derived.Test.YtkajhdbcnmafcaaGreatDoorBytesG
import Derived.Test.YtkajhdbcnmafcaaGreatDoorStrsWalk
namespace Go.Proofs.YtkajhdbcnmafcaaGreatDoor
open Go.RowKit Go.Deep
/-- rows of bytes, each where it lies -/
abbrev BRow := Option Addr × Nat × List UInt8
def SLB (w : World) (B : Option Addr) (L : List BRow) : Prop := ∀ (k : Nat) (x : BRow), L[k]? = some x → ∃ g o, B = some ⟨g, o, none⟩ ∧ g < w.heap.size ∧ w.cell? ⟨g, o + k, none⟩ = some (.slice x.1 x.2.2.length x.2.1) ∧ RG encB 1 w x.1 x.2.2
theorem SLB.below {w w' : World} {B : Option Addr} {L : List BRow} (h : SLB w B L) (hb : Below w.heap.size w w') : SLB w' B L := fun k x hx => by
  obtain ⟨g, o, e, hg, hc, hr⟩ := h k x hx
  exact ⟨g, o, e, Nat.lt_of_lt_of_le hg hb.size, (hb.cell (p := ⟨g, o + k, none⟩) hg).trans hc, hr.below hb⟩
theorem zeros_len (n : Nat) : (Builtin.zeroCells #[Value.int .u8 0] n).size = n := by
  unfold Builtin.zeroCells
  simp
theorem grow_any (n : Nat) (w : World) (hn : n ≤ 10000000) :
    Calls Tryz.prog 113 #[.slice none 0 0, .int .i64 n] w fun e w' => ∃ v, e = .returned v ∧ OwnG encB 1 5 w' w.heap.size v [] ∧ Below w.heap.size w w' := by
  by_cases h : n = 0
  · subst h
    refine (Any8.slices_Grow_room Tryz.grow113 none 0 0 0 w (by omega) (by omega) (by omega) (by omega)).mono ?_
    rintro e w' ⟨rfl, rfl⟩
    exact ⟨_, rfl, OwnG.nil _ _, Below.refl _ _⟩
  · obtain ⟨i0, hi, hz0, hz1, hz2⟩ := info_parts (rowB.info)
    have := Any8.slices_Grow_grow Tryz.grow113 i0 (.int .u8 0) hi hz0 (by rw [hz1]; omega) none 0 0 n [] w (by omega) (by omega) (by rw [hz2]; show (0 + n) * 1 ≤ _; omega) (by omega) (by simp) (fun _ => rfl) (fun a e => by cases e)
    refine this.mono ?_
    rintro e w' ⟨rfl, rfl⟩
    have g1 := grownCap_ge w (0 + n) 0 (Tryz.grow113_ren.t 25)
    have g2 := grownCap_le_maxLen w (0 + n) 0 (Tryz.grow113_ren.t 25) (by unfold maxLen; omega)
    refine ⟨_, rfl, ⟨rfl, .inr ⟨w.heap.size, _, _, rfl, Nat.le_refl _, heapNewC _ _, by simp, g2, ?_, by simp [valsG]⟩⟩, (Below.refl _ _).drew.alloc (Nat.le_refl _) _⟩
    show (#[] ++ Builtin.zeroCells #[Value.int .u8 0] (0 + n - 0) ++ Builtin.zeroCells #[Value.int .u8 0] (grownCap w (0 + n) 0 (Tryz.grow113_ren.t 25) - (0 + n))).size = _
    rw [Array.size_append, Array.size_append, zeros_len, zeros_len]
    simp only [List.size_toArray, List.length_nil]
    omega
where
  heapNewC (w : World) (o : Obj) : (w.alloc o).heap[w.heap.size]? = some o := by
    show (w.heap.push o)[w.heap.size]? = some o
    simp
def sumB (L : List BRow) : Nat := (L.map fun x => x.2.2.length).sum
def catB (L : List BRow) : List UInt8 := L.flatMap fun x => x.2.2
theorem sumB_take {L : List BRow} {k : Nat} {x : BRow} (h : L[k]? = some x) : sumB (L.take (k + 1)) = sumB (L.take k) + x.2.2.length := by
  unfold sumB
  rw [List.take_add_one, h]
  simp
theorem catB_take {L : List BRow} {k : Nat} {x : BRow} (h : L[k]? = some x) : catB (L.take (k + 1)) = catB (L.take k) ++ x.2.2 := by
  unfold catB
  rw [List.take_add_one, h]
  simp
theorem sumB_le (L : List BRow) (k : Nat) : sumB (L.take k) ≤ sumB L := by
  unfold sumB
  rw [List.map_take]
  conv => rhs; rw [← List.take_append_drop k (L.map _), List.sum_append]
  omega
theorem catB_len (L : List BRow) : (catB L).length = sumB L := by
  unfold catB sumB
  induction L with
  | nil => rfl
  | cons x L ih => simp [ih]
set_option maxRecDepth 100000 in
set_option maxHeartbeats 2000000 in
theorem concat_any (B : Option Addr) (c : Nat) (L : List BRow) (w : World) (hA : SLB w B L) (hl : L.length ≤ 1000) (hs : sumB L ≤ 900000) :
    Calls Tryz.prog 63 #[.slice B L.length c] w fun e w' => (∃ v, e = .returned v ∧ OwnG encB 1 5 w' w.heap.size v (catB L)) ∧ Below w.heap.size w w' := by
  have HA := hide hA
  clear hA
  obtain ⟨n, hn⟩ : ∃ n, L.length = n := ⟨_, rfl⟩
  have HN := hide hn
  rw [hn] at hl ⊢
  clear hn
  have hn1 : (n : Int) ≤ 1000 := by omega
  go_enter Tryz.func63, Tryz.ntmps63
  go_wp2
  go_loop [3, 5, 11] (fun v3 _ v11 => ∃ k s : Nat, v11 = .int .i64 k ∧ k ≤ n ∧ v3 = .int .i64 s ∧ Hid (s = sumB (L.take k)) ∧ s ≤ 900000) (fun _ _ v11 => n - (intOf v11).toNat)
  case atStart => exact ⟨0, 0, rfl, by omega, rfl, rfl, by omega⟩
  case round =>
    obtain ⟨k, s, rfl, hk, rfl, HS, hs2⟩ := hrel
    by_cases hlt : k < n
    · obtain ⟨x, hx⟩ : ∃ x, L[k]? = some x := ⟨L[k]'(by have := HN.out; omega), List.getElem?_eq_getElem _⟩
      obtain ⟨g, o, rfl, hg, hc, hr⟩ := HA.out k x hx
      have HT := hide (sumB_take hx)
      have hle := sumB_le L (k + 1)
      rw [HT.out, ← HS.out] at hle
      have b1 : (k : Int) < (n : Int) := by omega
      obtain ⟨m, hm⟩ : ∃ m, x.2.2.length = m := ⟨_, rfl⟩
      rw [hm] at hc hle HT
      clear hx hr hm
      have b2 : (s : Int) ≤ 900000 := by omega
      have b3 : (m : Int) ≤ 900000 := by omega
      go_wp2
      go_round
      case rel => exact ⟨k + 1, s + m, by go_num, by omega, by go_num, show s + m = sumB (L.take (k + 1)) by rw [HT.out, ← HS.out], by omega⟩
      case measure => simp [intOf]; omega
    · obtain rfl : k = n := by omega
      have HS3 := hide (show s = sumB L by rw [HS.out, List.take_of_length_le (by have := HN.out; omega)])
      have HG := hide (grow_any s w (by omega))
      clear HS
      go_wp2_with fail
      refine HG.out.mono ?_
      rintro e w1 ⟨v, rfl, ho, hb⟩
      have HO1 := hide ho
      have HB1 := hide hb
      clear ho hb
      go_wp2
      go_loopw [6, 8, 27] (fun v6 _ v27 wr => ∃ j : Nat, v27 = .int .i64 j ∧ j ≤ k ∧ OwnG encB 1 5 wr w.heap.size v6 (catB (L.take j)) ∧ Below w.heap.size w wr) (fun _ _ v27 _ => k - (intOf v27).toNat)
      case atStart => exact ⟨0, rfl, by omega, HO1.out, HB1.out⟩
      case round =>
        obtain ⟨j, rfl, hj, ho, hb⟩ := hrel
        have HO := hide ho
        have HB := hide hb
        have HAR := hide (HA.out.below hb)
        clear ho hb
        by_cases hlt2 : j < k
        · obtain ⟨x, hx⟩ : ∃ x, L[j]? = some x := ⟨L[j]'(by have := HN.out; omega), List.getElem?_eq_getElem _⟩
          obtain ⟨g, o, rfl, hg, hc, hr⟩ := HAR.out j x hx
          have hbw : w.heap.size ≤ wr.heap.size := HB.out.size
          have hlen : (catB (L.take j)).length + x.2.2.length ≤ 1000000 := by
            have h1 := sumB_take hx
            have h2 := sumB_le L (j + 1)
            rw [catB_len]
            omega
          obtain ⟨v', w4, r4, o4, g4, b4⟩ := run_appY (c := x.2.1) HO.out hr hbw hlen
          have HO4 := hide o4
          have HT := hide (catB_take hx)
          have HB4 := hide (HB.out.trans ((Below.refl w.heap.size _).grown g4 hbw (fun q hq => (HO.out.lt q hq).1)))
          have b1 : (j : Int) < (k : Int) := by omega
          clear o4 g4 b4 hx hr
          go_wp2_with (at_builtin; refine wpList_app_run ?_ (.tmp 31) (.tmp 32) ?_ ?_ ?_ ?_ r4 ?_; exact rfl; exact rfl; exact rfl; exact rfl; exact rfl)
          go_roundw
          case rel => exact ⟨j + 1, by go_num, by omega, by rw [HT.out]; exact HO4.out, HB4.out⟩
          case measure => simp [intOf]; omega
        · obtain rfl : j = k := by omega
          have HF := hide (show catB (L.take j) = catB L by rw [List.take_of_length_le (by have := HN.out; omega)])
          rw [HF.out] at HO
          go_wp2
          go_ret
          exact ⟨⟨_, rfl, HO.out⟩, HB.out⟩
end Go.Proofs.YtkajhdbcnmafcaaGreatDoor
