/- Walks of glob.Quote and of the reference's (printed by genquote.py). -/
import Derived.Test.YthcgnfoijemcbaaQBase
import Derived.Deep.RegionHeld3
namespace Go.Proofs.Ythcgnfoijemcbaa.Qt
open Go.RowKit Go.Deep
set_option linter.unusedSimpArgs false
set_option linter.unusedVariables false
attribute [local go_sem] bt_eq

theorem own_slice {w : World} {base : Nat} {v : Value} {l : List Nat} (h : OwnB w base v l) : ∃ A c, v = .slice A l.length c := by
  rcases h.2 with ⟨rfl, hn⟩ | ⟨g, cap, cur, rfl, _⟩
  · exact ⟨none, 0, by rw [hn]⟩
  · exact ⟨_, cap, rfl⟩
theorem own_sliceN {w : World} {base n : Nat} {v : Value} {l : List Nat} (h : OwnB w base v l) (hn : l.length = n) : ∃ A c, v = .slice A n c := by
  subst hn; exact own_slice h
/-- a text out of its bytes -/
def sb (l : List Nat) : ByteArray := strOfNums (l.map fun n : Nat => (n : Int))
theorem sb_size (l : List Nat) : (sb l).size = l.length := by simp [sb, strOfNums_size]
theorem conv_own {W : World} {base : Nat} {v : Value} {l : List Nat} (h : OwnB W base v l) : (convert 36 9 v).run Try.prog W = .ok (.string (sb l)) W := by
  rcases h.2 with ⟨rfl, hn⟩ | ⟨g, cap, cur, rfl, _, hh, _⟩
  · have hl : l = [] := List.eq_nil_of_length_eq_zero hn
    subst hl
    exact run_convert_bytes_nil W 36 5 Try.underlying36 Try.underlying5 0 0 _ Try.underlying9
  · refine run_convert_bytes_arg W 36 5 Try.underlying36 Try.underlying5 g 0 l.length cap (l.map fun n : Nat => (n : Int)) (by simp) (fun i hi => ?_) _ Try.underlying9
    rw [Nat.zero_add, World.ownsRow.cellAt h i (by omega)]
    simp [nbytes, List.getD_eq_getElem?_getD, hi]
theorem below_gb {B : Nat} {wr w' : World} {o : Obj} {r : Option Nat} (hg : (wr.alloc o).grownBy w' r) (hr : ∀ k, r = some k → B ≤ k) (hB : B ≤ wr.heap.size) : Below B wr w' :=
  ((Below.refl B wr).alloc hB o).grown hg (by simp; omega) hr
/-- must a byte be quoted -/
def isSp (c : Nat) : Bool := c == 42 || c == 63 || c == 91 || c == 92
def q1 (c : Nat) : List Nat := if isSp c then [92, c] else [c]
/-- the quoted bytes of the first k of a text -/
def qb (t : Nat → Nat) (k : Nat) : List Nat := (List.range k).flatMap fun j => q1 (t j)
theorem qb_succ (t : Nat → Nat) (k : Nat) : qb t (k + 1) = qb t k ++ q1 (t k) := by simp [qb, List.range_succ, List.flatMap_append]
theorem qb_len (t : Nat → Nat) (k : Nat) : (qb t k).length ≤ 2 * k := by
  induction k with
  | zero => simp [qb]
  | succ k ih =>
    rw [qb_succ, List.length_append]
    have : (q1 (t k)).length ≤ 2 := by unfold q1; split <;> simp
    omega

set_option maxRecDepth 100000 in
set_option maxHeartbeats 1000000 in
theorem rquote_any (s : ByteArray) (w : World) (hs : s.size ≤ 1000) :
    Calls Try.prog 21 #[.string s] w fun e w' => e = .returned (.string (sb (qb (bt s) s.size))) ∧ Below w.heap.size w w' := by
  go_enter Try.func21, Try.ntmps21
  go_wp2
  go_loopw [3, 4] (fun v3 v4 wr => ∃ k : Nat, v4 = .int .i64 k ∧ k ≤ s.size ∧ OwnB wr w.heap.size v3 (qb (bt s) k) ∧ Below w.heap.size w wr) (fun _ v4 _ => s.size - (intOf v4).toNat)
  case atStart => exact ⟨0, rfl, by omega, World.ownsRow_nil _ _ _ _, Below.refl _ _⟩
  case round =>
    obtain ⟨k, rfl, hk, ho, hb⟩ := hrel
    obtain ⟨Ao, co, rfl⟩ := own_slice ho
    have hql := qb_len (bt s) k
    have HO := hide ho
    have HW := hide hb
    have hql2 : (qb (bt s) k).length ≤ 2000 := by omega
    clear ho hb hql
    by_cases hlt : k < s.size
    · have hor : isSp (bt s k) = (bt s k == 42 || bt s k == 63 || bt s k == 91 || bt s k == 92) := rfl
      have HOR := hide hor
      clear hor
      go_upto_region 5 with (fail)
      go_cut [32] from 11 to 32 (fun sc wx => sc = .bool (isSp (bt s k)) ∧ wr = wx)
      case first =>
        go_wp2
        all_goals go_meet
        all_goals refine ⟨?_, rfl⟩
        all_goals
          rw [HOR.out]
          go_light
          try simp only [beq_iff_eq, beq_eq_false_iff_ne] at *
          congr 1
          rw [Bool.eq_iff_iff]
          simp
          omega
      case rest =>
        obtain ⟨rfl, hw⟩ := hcut
        subst hw
        cases hsp : isSp (bt s k) with
        | true =>
          have HQ := hide (show qb (bt s) (k + 1) = (qb (bt s) k ++ [92]) ++ [bt s k] by rw [qb_succ, q1, if_pos hsp]; simp)
          clear hsp
          go_wp2_with (first | (at_builtin; refine wpList_appB wr ?_ (.tmp 33) (.tmp 34) ?_ w.heap.size (.slice Ao (qb (bt s) k).length co) (qb (bt s) k) ?_ HO.out 92 ?_ ?_ ?_ ?_; exact rfl; exact rfl; exact rfl; exact rfl; (first | omega | (simp; omega)); exact HW.out.size; intro v1 w1 ho1 hg1 hat1; obtain ⟨A1, c1, rfl⟩ := own_sliceN (n := (qb (bt s) k).length + 1) ho1 (by simp); have HW1 := hide (HW.out.trans (below_gb hg1 (fun k hk => (HO.out.lt k hk).1) HW.out.size)); have HO1 := hide ho1; clear ho1 hg1 hat1) | (at_builtin; refine wpList_appB w1 ?_ (.tmp 36) (.tmp 40) ?_ w.heap.size (.slice A1 ((qb (bt s) k).length + 1) c1) (qb (bt s) k ++ [92]) ?_ HO1.out (bt s k) ?_ ?_ ?_ ?_; exact rfl; exact rfl; exact rfl; exact rfl; (first | omega | (simp; omega)); exact HW1.out.size; intro v2 w2 ho2 hg2 hat2; obtain ⟨A2, c2, rfl⟩ := own_sliceN (n := (qb (bt s) k).length + 1 + 1) ho2 (by simp); have HW2 := hide (HW1.out.trans (below_gb hg2 (fun k hk => (HO1.out.lt k hk).1) HW1.out.size)); have HO2 := hide ho2; clear ho2 hg2 hat2))
          go_roundw
          case rel => exact ⟨k + 1, by go_num, by omega, by rw [HQ.out]; exact HO2.out, HW2.out⟩
          case measure => simp [intOf]; omega
        | false =>
          have HQ := hide (show qb (bt s) (k + 1) = qb (bt s) k ++ [bt s k] by rw [qb_succ, q1, if_neg (by simp [hsp])])
          clear hsp
          go_wp2_with (at_builtin; refine wpList_appB wr ?_ (.tmp 36) (.tmp 40) ?_ w.heap.size (.slice Ao (qb (bt s) k).length co) (qb (bt s) k) ?_ HO.out (bt s k) ?_ ?_ ?_ ?_; exact rfl; exact rfl; exact rfl; exact rfl; (first | omega | (simp; omega)); exact HW.out.size; intro v2 w2 ho2 hg2 hat2; obtain ⟨A2, c2, rfl⟩ := own_sliceN (n := (qb (bt s) k).length + 1) ho2 (by simp); have HW2 := hide (HW.out.trans (below_gb hg2 (fun k hk => (HO.out.lt k hk).1) HW.out.size)); have HO2 := hide ho2; clear ho2 hg2 hat2)
          go_roundw
          case rel => exact ⟨k + 1, by go_num, by omega, by rw [HQ.out]; exact HO2.out, HW2.out⟩
          case measure => simp [intOf]; omega
    · obtain rfl : k = s.size := by omega
      have hcv := conv_own HO.out
      go_wp2
      go_ret
      exact ⟨rfl, HW.out⟩

set_option maxRecDepth 100000 in
set_option maxHeartbeats 1000000 in
theorem quote_any (s : ByteArray) (w : World) (hs : s.size ≤ 1000) :
    Calls Try.prog 20 #[.string s] w fun e w' => e = .returned (.string (sb (qb (bt s) s.size))) ∧ Below w.heap.size w w' := by
  have hsb := run_bytes_of_string (P := Try.prog) w 9 36 5 s Try.underlying9 Try.underlying36 Try.underlying5
  generalize hC : grownCap w s.size 0 5 = C at hsb
  have hcl : ∀ j, j < s.size → ((w.alloc (.cells (bytesRow s C) 5 ((bytesRow s C).size, (bytesRow s C).size + 1))).drew).cell? ⟨w.heap.size, j, none⟩ = some (.int .u8 (bt s j)) := fun j hj => by
    show (w.alloc (.cells (bytesRow s C) 5 ((bytesRow s C).size, (bytesRow s C).size + 1))).cell? ⟨w.heap.size, j, none⟩ = _
    rw [World.cell?_alloc_mark, bytesRow_at s C j hj, ← bt_eq s j hj]
    rfl
  have HC0 := hide hcl
  have HC1 := hide hC
  clear hcl hC
  go_enter Try.func20, Try.ntmps20
  go_wp2_with fail
  clear hsb
  have hsz0 : w.heap.size < ((w.alloc (.cells (bytesRow s C) 5 ((bytesRow s C).size, (bytesRow s C).size + 1))).drew).heap.size := by simp
  have hb0 : Below w.heap.size w ((w.alloc (.cells (bytesRow s C) 5 ((bytesRow s C).size, (bytesRow s C).size + 1))).drew) := ((Below.refl _ _).alloc (Nat.le_refl _) _).drew
  generalize (w.alloc (.cells (bytesRow s C) 5 ((bytesRow s C).size, (bytesRow s C).size + 1))).drew = w1 at HC0 hsz0 hb0 ⊢
  have HC := HC0
  have hsz := hsz0
  have HB0 := hide hb0
  clear HC0 hsz0 hb0 HC1
  go_loopw [3, 9] (fun v3 v9 wr => ∃ k : Nat, v9 = .int .i64 k ∧ k ≤ s.size ∧ OwnB wr w1.heap.size v3 (qb (bt s) k) ∧ Below w1.heap.size w1 wr) (fun _ v9 _ => s.size - (intOf v9).toNat)
  case atStart => exact ⟨0, rfl, by omega, World.ownsRow_nil _ _ _ _, Below.refl _ _⟩
  case round =>
    obtain ⟨k, rfl, hk, ho, hb⟩ := hrel
    obtain ⟨Ao, co, rfl⟩ := own_slice ho
    have hql := qb_len (bt s) k
    have HO := hide ho
    have HW := hide hb
    have hql2 : (qb (bt s) k).length ≤ 2000 := by omega
    clear ho hb hql
    by_cases hlt : k < s.size
    · have hor : isSp (bt s k) = (bt s k == 42 || bt s k == 63 || bt s k == 91 || bt s k == 92) := rfl
      have HOR := hide hor
      clear hor
      have hcell := (HW.out.cell (p := ⟨w.heap.size, k, none⟩) hsz).trans (HC.out k hlt)
      go_upto_region 5 with (fail)
      go_cut [26] from 13 to 26 (fun sc wx => sc = .bool (isSp (bt s k)) ∧ wr = wx)
      case first =>
        by_cases e0 : bt s k = 42
        · have q0 : (((bt s k : Nat) : Int) == 42) = true := by simp only [beq_iff_eq]; omega
          have E0 := hide (show (bt s k == 42) = true by simp [e0])
          clear e0
          go_wp2
          go_meet
          refine ⟨?_, rfl⟩
          rw [HOR.out]
          simp [E0.out]
        have q0 : (((bt s k : Nat) : Int) == 42) = false := by simp only [beq_eq_false_iff_ne]; omega
        have E0 := hide (show (bt s k == 42) = false by simp [e0])
        by_cases e1 : bt s k = 63
        · have q1 : (((bt s k : Nat) : Int) == 63) = true := by simp only [beq_iff_eq]; omega
          have E1 := hide (show (bt s k == 63) = true by simp [e1])
          clear e0 e1
          go_wp2
          go_meet
          refine ⟨?_, rfl⟩
          rw [HOR.out]
          simp [E1.out]
        have q1 : (((bt s k : Nat) : Int) == 63) = false := by simp only [beq_eq_false_iff_ne]; omega
        have E1 := hide (show (bt s k == 63) = false by simp [e1])
        by_cases e2 : bt s k = 91
        · have q2 : (((bt s k : Nat) : Int) == 91) = true := by simp only [beq_iff_eq]; omega
          have E2 := hide (show (bt s k == 91) = true by simp [e2])
          clear e0 e1 e2
          go_wp2
          go_meet
          refine ⟨?_, rfl⟩
          rw [HOR.out]
          simp [E2.out]
        have q2 : (((bt s k : Nat) : Int) == 91) = false := by simp only [beq_eq_false_iff_ne]; omega
        have E2 := hide (show (bt s k == 91) = false by simp [e2])
        by_cases e3 : bt s k = 92
        · have q3 : (((bt s k : Nat) : Int) == 92) = true := by simp only [beq_iff_eq]; omega
          have E3 := hide (show (bt s k == 92) = true by simp [e3])
          clear e0 e1 e2 e3
          go_wp2
          go_meet
          refine ⟨?_, rfl⟩
          rw [HOR.out]
          simp [E3.out]
        have q3 : (((bt s k : Nat) : Int) == 92) = false := by simp only [beq_eq_false_iff_ne]; omega
        have E3 := hide (show (bt s k == 92) = false by simp [e3])
        clear e0 e1 e2 e3
        go_wp2
        go_meet
        refine ⟨?_, rfl⟩
        rw [HOR.out]
        simp [E0.out, E1.out, E2.out, E3.out]
      case rest =>
        obtain ⟨rfl, hw⟩ := hcut
        subst hw
        cases hsp : isSp (bt s k) with
        | true =>
          have HQ := hide (show qb (bt s) (k + 1) = (qb (bt s) k ++ [92]) ++ [bt s k] by rw [qb_succ, q1, if_pos hsp]; simp)
          clear hsp
          go_wp2_with (first | (at_builtin; refine wpList_appB wr ?_ (.tmp 27) (.tmp 28) ?_ w1.heap.size (.slice Ao (qb (bt s) k).length co) (qb (bt s) k) ?_ HO.out 92 ?_ ?_ ?_ ?_; exact rfl; exact rfl; exact rfl; exact rfl; (first | omega | (simp; omega)); exact HW.out.size; intro v1 x1 ho1 hg1 hat1; obtain ⟨A1, c1, rfl⟩ := own_sliceN (n := (qb (bt s) k).length + 1) ho1 (by simp); have HW1 := hide (HW.out.trans (below_gb hg1 (fun k hk => (HO.out.lt k hk).1) HW.out.size)); have HO1 := hide ho1; clear ho1 hg1 hat1) | (at_builtin; refine wpList_appB x1 ?_ (.tmp 30) (.tmp 32) ?_ w1.heap.size (.slice A1 ((qb (bt s) k).length + 1) c1) (qb (bt s) k ++ [92]) ?_ HO1.out (bt s k) ?_ ?_ ?_ ?_; exact rfl; exact rfl; exact rfl; exact rfl; (first | omega | (simp; omega)); exact HW1.out.size; intro v2 x2 ho2 hg2 hat2; obtain ⟨A2, c2, rfl⟩ := own_sliceN (n := (qb (bt s) k).length + 1 + 1) ho2 (by simp); have HW2 := hide (HW1.out.trans (below_gb hg2 (fun k hk => (HO1.out.lt k hk).1) HW1.out.size)); have HO2 := hide ho2; clear ho2 hg2 hat2))
          go_roundw
          case rel => exact ⟨k + 1, by go_num, by omega, by rw [HQ.out]; exact HO2.out, HW2.out⟩
          case measure => simp [intOf]; omega
        | false =>
          have HQ := hide (show qb (bt s) (k + 1) = qb (bt s) k ++ [bt s k] by rw [qb_succ, q1, if_neg (by simp [hsp])])
          clear hsp
          go_wp2_with (at_builtin; refine wpList_appB wr ?_ (.tmp 30) (.tmp 32) ?_ w1.heap.size (.slice Ao (qb (bt s) k).length co) (qb (bt s) k) ?_ HO.out (bt s k) ?_ ?_ ?_ ?_; exact rfl; exact rfl; exact rfl; exact rfl; (first | omega | (simp; omega)); exact HW.out.size; intro v2 x2 ho2 hg2 hat2; obtain ⟨A2, c2, rfl⟩ := own_sliceN (n := (qb (bt s) k).length + 1) ho2 (by simp); have HW2 := hide (HW.out.trans (below_gb hg2 (fun k hk => (HO.out.lt k hk).1) HW.out.size)); have HO2 := hide ho2; clear ho2 hg2 hat2)
          go_roundw
          case rel => exact ⟨k + 1, by go_num, by omega, by rw [HQ.out]; exact HO2.out, HW2.out⟩
          case measure => simp [intOf]; omega
    · obtain rfl : k = s.size := by omega
      have hcv := conv_own HO.out
      go_wp2
      go_ret
      exact ⟨rfl, below_up HB0.out HW.out HB0.out.size⟩
end Go.Proofs.Ythcgnfoijemcbaa.Qt
