/- law12's Big and alive. -/
import Derived.Test.YthcgnfoijemcbaaFieldWalkB
import Derived.Test.YthcgnfoijemcbaaFieldTextA
namespace Go.Proofs.Ythcgnfoijemcbaa
open Go.RowKit Go.Deep
set_option linter.unusedSimpArgs false
set_option linter.unusedVariables false

theorem ne_toList {s : ByteArray} (h : s ≠ ⟨#[]⟩) : ¬ s.toList = [] := by
  intro e
  rw [ByteArray.toList_eq] at e
  exact h (ByteArray.ext (Array.toList_inj.1 e))
/-- a part that is not too great, and settled -/
def okP (x : Pt) : Bool := decide (x.text.size ≤ 300) && (decide (x.kind = 1) || decide (x.kind = 2)) && decide (x.name = ⟨#[]⟩) && decide (x.op = ⟨#[]⟩) && decide (x.wn = 0) && !x.q
def bigP (L : List Pt) : Bool := !(L.all okP && decide (L.length ≤ 40))
set_option maxRecDepth 100000 in
set_option maxHeartbeats 4000000 in
theorem big12_any (A : Option Addr) (c : Nat) (L : List Pt) (w : World) (h : RG encPt 6 w A L) (hl : L.length ≤ 9223372036854775807) (hs : ∀ x ∈ L, x.text.size ≤ 9223372036854775807 ∧ x.wn ≤ 9223372036854775807) :
    Calls Try.prog 8 #[.slice A L.length c] w fun e w' => e = .returned (.bool (bigP L)) ∧ w = w' := by
  have HR := hide h
  have HS := hide hs
  obtain ⟨n, hn⟩ : ∃ n, L.length = n := ⟨_, rfl⟩
  have HN := hide hn
  rw [hn] at hl ⊢
  clear h hs hn
  go_enter Try.func8, Try.ntmps8
  go_wp2
  go_loopw [3] (fun v3 wr => ∃ k : Nat, v3 = .int .i64 k ∧ k ≤ n ∧ Hid ((L.take k).all okP = true) ∧ w = wr) (fun v3 _ => n - (intOf v3).toNat)
  case atStart => exact ⟨0, rfl, by omega, rfl, rfl⟩
  case round =>
    obtain ⟨k, rfl, hk, HOK, rfl⟩ := hrel
    by_cases hlt : k < n
    · obtain ⟨x, hx⟩ : ∃ x, L[k]? = some x := ⟨L[k]'(by have := HN.out; omega), List.getElem?_eq_getElem _⟩
      obtain ⟨gs, o, rfl, hgs, hc⟩ := HR.out k x hx
      obtain ⟨z1, z2⟩ := HS.out x (List.mem_of_getElem? hx)
      have hc0 : w.cell? ⟨gs, o + k * 6, none⟩ = some (.int .i64 x.kind) := by have := hc 0 _ rfl; simpa using this
      have hc1 : w.cell? ⟨gs, o + k * 6 + 1, none⟩ = some (.string x.text) := hc 1 _ rfl
      have hc2 : w.cell? ⟨gs, o + k * 6 + 2, none⟩ = some (.string x.name) := hc 2 _ rfl
      have hc3 : w.cell? ⟨gs, o + k * 6 + 3, none⟩ = some (.string x.op) := hc 3 _ rfl
      have hc4 : w.cell? ⟨gs, o + k * 6 + 4, none⟩ = some (.slice x.wA x.wn x.wc) := hc 4 _ rfl
      have hc5 : w.cell? ⟨gs, o + k * 6 + 5, none⟩ = some (.bool x.q) := hc 5 _ rfl
      have b1 : (k : Int) < (n : Int) := by omega
      have HX := hide hx
      have HBAD := hide (fun (h : okP x = false) => show bigP L = true from by
        unfold bigP
        have : L.all okP = false := by
          rw [List.all_eq_false]
          exact ⟨x, List.mem_of_getElem? HX.out, by rw [h]; simp⟩
        rw [this]
        rfl)
      have HOX := hide (show okP x = (decide (x.text.size ≤ 300) && (decide (x.kind = 1) || decide (x.kind = 2)) && decide (x.name = ⟨#[]⟩) && decide (x.op = ⟨#[]⟩) && decide (x.wn = 0) && !x.q) from rfl)
      clear hc hx hgs
      obtain ⟨kd, tx, nm, op, wA, wn, wk, q⟩ := x
      dsimp only at hc0 hc1 hc2 hc3 hc4 hc5 z1 z2 HOX
      by_cases p3 : 300 < tx.size
      · have pi : (300 : Int) < (tx.size : Int) := by omega
        have HE := hide (HBAD.out (by rw [HOX.out]; simp; omega))
        go_wp2
        go_ret
        rw [HE.out]
        exact ⟨rfl, rfl⟩
      have pi : ¬ (300 : Int) < (tx.size : Int) := by omega
      by_cases k3 : kd ≠ 1 ∧ kd ≠ 2
      · have ki : (kd != 1) = true := by simpa using k3.1
        have kj : (kd != 2) = true := by simpa using k3.2
        have kk : ¬ kd = 1 := k3.1
        have kl : ¬ kd = 2 := k3.2
        have HE := hide (HBAD.out (by rw [HOX.out]; simp [k3.1, k3.2]))
        go_wp2
        go_ret
        rw [HE.out]
        exact ⟨rfl, rfl⟩
      have kor : kd = 1 ∨ kd = 2 := by omega
      rcases kor with rfl | rfl
      · have k1 : ((1 : Int) != 1) = false := rfl
        by_cases n3 : nm ≠ ⟨#[]⟩
        · have ni : ¬ nm.toList = [] := ne_toList n3
          have HE := hide (HBAD.out (by rw [HOX.out]; simp [n3]))
          go_wp2
          go_ret
          rw [HE.out]
          exact ⟨rfl, rfl⟩
        obtain rfl : nm = ⟨#[]⟩ := Classical.not_not.1 n3
        by_cases o3 : op ≠ ⟨#[]⟩
        · have oi : ¬ op.toList = [] := ne_toList o3
          have HE := hide (HBAD.out (by rw [HOX.out]; simp [o3]))
          go_wp2
          go_ret
          rw [HE.out]
          exact ⟨rfl, rfl⟩
        obtain rfl : op = ⟨#[]⟩ := Classical.not_not.1 o3
        by_cases w3 : 0 < wn
        · have wi : (0 : Int) < (wn : Int) := by omega
          have HE := hide (HBAD.out (by rw [HOX.out]; simp [w3]; try omega))
          go_wp2
          go_ret
          rw [HE.out]
          exact ⟨rfl, rfl⟩
        obtain rfl : wn = 0 := by omega
        by_cases q3 : q = true
        · subst q3
          have HE := hide (HBAD.out (by rw [HOX.out]; simp))
          go_wp2
          go_ret
          rw [HE.out]
          exact ⟨rfl, rfl⟩
        obtain rfl : q = false := by simpa using q3
        have HE := hide (show okP ⟨1, tx, ⟨#[]⟩, ⟨#[]⟩, wA, 0, wk, false⟩ = true by rw [HOX.out]; simp; omega)
        go_wp2
        refine ⟨⟨k + 1, by go_num, by omega, ?_, trivial⟩, by simp [intOf]; omega⟩
        show (L.take (k + 1)).all okP = true
        rw [List.take_add_one, HX.out, List.all_append, HOK.out]
        simp [HE.out]
      · have k1 : ((2 : Int) != 1) = true := rfl
        have k2 : ((2 : Int) != 2) = false := rfl
        by_cases n3 : nm ≠ ⟨#[]⟩
        · have ni : ¬ nm.toList = [] := ne_toList n3
          have HE := hide (HBAD.out (by rw [HOX.out]; simp [n3]))
          go_wp2
          go_ret
          rw [HE.out]
          exact ⟨rfl, rfl⟩
        obtain rfl : nm = ⟨#[]⟩ := Classical.not_not.1 n3
        by_cases o3 : op ≠ ⟨#[]⟩
        · have oi : ¬ op.toList = [] := ne_toList o3
          have HE := hide (HBAD.out (by rw [HOX.out]; simp [o3]))
          go_wp2
          go_ret
          rw [HE.out]
          exact ⟨rfl, rfl⟩
        obtain rfl : op = ⟨#[]⟩ := Classical.not_not.1 o3
        by_cases w3 : 0 < wn
        · have wi : (0 : Int) < (wn : Int) := by omega
          have HE := hide (HBAD.out (by rw [HOX.out]; simp [w3]; try omega))
          go_wp2
          go_ret
          rw [HE.out]
          exact ⟨rfl, rfl⟩
        obtain rfl : wn = 0 := by omega
        by_cases q3 : q = true
        · subst q3
          have HE := hide (HBAD.out (by rw [HOX.out]; simp))
          go_wp2
          go_ret
          rw [HE.out]
          exact ⟨rfl, rfl⟩
        obtain rfl : q = false := by simpa using q3
        have HE := hide (show okP ⟨2, tx, ⟨#[]⟩, ⟨#[]⟩, wA, 0, wk, false⟩ = true by rw [HOX.out]; simp; omega)
        go_wp2
        refine ⟨⟨k + 1, by go_num, by omega, ?_, trivial⟩, by simp [intOf]; omega⟩
        show (L.take (k + 1)).all okP = true
        rw [List.take_add_one, HX.out, List.all_append, HOK.out]
        simp [HE.out]
    · obtain rfl : n = k := by omega
      have htk : L.take n = L := List.take_of_length_le (by have := HN.out; omega)
      rw [htk] at HOK
      by_cases n6 : 40 < n
      · have ni : (40 : Int) < (n : Int) := by omega
        have HE := hide (show bigP L = true by unfold bigP; rw [HN.out, decide_eq_false (by omega)]; simp)
        clear htk
        go_wp2
        go_ret
        rw [HE.out]
        exact ⟨by simp, rfl⟩
      · have ni : ¬ (40 : Int) < (n : Int) := by omega
        have HE := hide (show bigP L = false by unfold bigP; rw [HOK.out, HN.out, decide_eq_true (by omega)]; rfl)
        clear htk
        go_wp2
        go_ret
        rw [HE.out]
        exact ⟨by simp, rfl⟩
set_option maxRecDepth 100000 in
set_option maxHeartbeats 2000000 in
theorem alive12_any (w : World) : Calls Try.prog 5 #[] w fun e w' => e = .returned (.bool true) ∧ Below w.heap.size w w' := by
  have hrow : RG encPt 6 (w.alloc (.cells #[.int .i64 1, .string ⟨#[97, 32, 98]⟩, .string ⟨#[]⟩, .string ⟨#[]⟩, .slice none 0 0, .bool false] tyP)) (some ⟨w.heap.size, 0, none⟩) [pT [97, 32, 98]] := rg_new (enc := encPt) w (pT [97, 32, 98]) tyP
  have HSP := hide (split_any (some ⟨w.heap.size, 0, none⟩) 1 [pT [97, 32, 98]] _ hrow (by decide) (by intro p hp; simp at hp; subst hp; decide))
  have HB := hide ((Below.refl w.heap.size w).alloc (Nat.le_refl _) (.cells #[.int .i64 1, .string ⟨#[97, 32, 98]⟩, .string ⟨#[]⟩, .string ⟨#[]⟩, .slice none 0 0, .bool false] tyP))
  have hsl : (splitS [pT [97, 32, 98]]).length = 2 := by decide
  have HSL := hide hsl
  clear hrow hsl
  go_enter Try.func5, Try.ntmps5
  go_wp2_with fail
  refine HSP.out.mono ?_
  rintro e wf hp
  obtain ⟨out, A, c, rfl, ho, _, _, hb⟩ := hp
  have hol : out.length = 2 := by rw [← HSL.out, ← ho, List.length_map]
  rw [hol]
  have HF := hide (HB.out.trans (hb.mono HB.out.size))
  clear hb ho hol
  go_wp2
  go_ret
  exact ⟨rfl, HF.out⟩
end Go.Proofs.Ythcgnfoijemcbaa
