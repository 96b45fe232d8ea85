/- The walk of the law GlobSets, from the contracts. -/
import Derived.Test.YtkhomdannnklhaaGlobLawA
import Derived.Test.YtkhomdannnklhaaGlobPlainB
namespace Go.Proofs.Ytkhomdannnklhaa
open Go.RowKit Go.Deep Qm.Glob
attribute [local go_sem] bt_eq

theorem bt_append (a b : ByteArray) (i : Nat) : bt (a ++ b) i = if i < a.size then bt a i else bt b (i - a.size) := by
  have e : (a ++ b).data = a.data ++ b.data := by simp
  simp only [bt, e, Array.getD_eq_getD_getElem?, Array.getElem?_append]
  have h : a.data.size = a.size := rfl
  rw [h]
  split <;> rfl
theorem bt_nums (xs : List Int) (i : Nat) : bt (strOfNums xs) i = (xs.getD i 0).toNat % 256 := by
  simp only [bt, strOfNums, Array.getD_eq_getD_getElem?, List.getElem?_toArray, List.getElem?_map, List.getD_eq_getElem?_getD]
  cases h : xs[i]? with
  | none => rfl
  | some x => simp
theorem conv3 (W : World) (x y z : Int) (n : Nat) (h : n = W.heap.size) : (convert 25 9 (.slice (some ⟨n, 0, none⟩) 3 3)).run Try.prog (W.alloc (.cells #[.int .u8 x, .int .u8 y, .int .u8 z] 5)) = .ok (.string (strOfNums [x, y, z])) (W.alloc (.cells #[.int .u8 x, .int .u8 y, .int .u8 z] 5)) := by
  subst h
  exact run_convert_bytes_arg _ 25 5 Try.underlying25 Try.underlying5 W.heap.size 0 3 3 [x, y, z] rfl (fun i hi => by
    rw [World.cell?_alloc_at _ _ _ _ rfl]
    have h : i = 0 ∨ i = 1 ∨ i = 2 := by omega
    rcases h with rfl | rfl | rfl <;> rfl) _ Try.underlying9
theorem conv2 (W : World) (x y : Int) (n : Nat) (h : n = W.heap.size) : (convert 25 9 (.slice (some ⟨n, 0, none⟩) 2 2)).run Try.prog (W.alloc (.cells #[.int .u8 x, .int .u8 y] 5)) = .ok (.string (strOfNums [x, y])) (W.alloc (.cells #[.int .u8 x, .int .u8 y] 5)) := by
  subst h
  exact run_convert_bytes_arg _ 25 5 Try.underlying25 Try.underlying5 W.heap.size 0 2 2 [x, y] rfl (fun i hi => by
    rw [World.cell?_alloc_at _ _ _ _ rfl]
    have h : i = 0 ∨ i = 1 := by omega
    rcases h with rfl | rfl <;> rfl) _ Try.underlying9
theorem conv1 (W : World) (x : Int) (n : Nat) (h : n = W.heap.size) : (convert 25 9 (.slice (some ⟨n, 0, none⟩) 1 1)).run Try.prog (W.alloc (.cells #[.int .u8 x] 5)) = .ok (.string (strOfNums [x])) (W.alloc (.cells #[.int .u8 x] 5)) := by
  subst h
  exact run_convert_bytes_arg _ 25 5 Try.underlying25 Try.underlying5 W.heap.size 0 1 1 [x] rfl (fun i hi => by
    rw [World.cell?_alloc_at _ _ _ _ rfl]
    obtain rfl : i = 0 := by omega
    rfl) _ Try.underlying9
attribute [local go_sem] conv1 conv2 conv3 strOfNums_size

theorem match_range (lo hi : Nat) (s : ByteArray) (hl : lo < 256) (hh : hi < 256) (a1 : lo ≠ 92) (a2 : hi ≠ 92) (a4 : hi ≠ 93) (a5 : lo ≠ 33) :
    gMatch (⟨#[91]⟩ ++ strOfNums [(lo : Int), 45, (hi : Int)] ++ ⟨#[93]⟩) s = (s.size == 1 && (decide (lo ≤ bt s 0) && decide (bt s 0 ≤ hi))) := by
  have hsz : ((⟨#[91]⟩ ++ strOfNums [(lo : Int), 45, (hi : Int)] ++ ⟨#[93]⟩ : ByteArray)).size = 5 := by simp [ByteArray.size_append, strOfNums_size]; rfl
  have h1 : ((⟨#[91]⟩ : ByteArray)).size = 1 := rfl
  have hb : ∀ i, bt (⟨#[91]⟩ ++ strOfNums [(lo : Int), 45, (hi : Int)] ++ ⟨#[93]⟩) i = if i < 4 then (if i < 1 then bt ⟨#[91]⟩ i else ([(lo : Int), 45, (hi : Int)].getD (i - 1) 0).toNat % 256) else bt ⟨#[93]⟩ (i - 4) := by
    intro i
    rw [bt_append, bt_append, bt_nums, ByteArray.size_append, strOfNums_size, h1]
    rfl
  have hi0 : gItems (bt (⟨#[91]⟩ ++ strOfNums [(lo : Int), 45, (hi : Int)] ++ ⟨#[93]⟩)) 5 = [giSet (addS noS lo (hi + 1))] :=
    items_range (by rw [hb]; rfl) (by rw [hb]; simp; omega) (by rw [hb]; rfl) (by rw [hb]; simp; omega) (by rw [hb]; rfl) a1 a2 a4 a5
  unfold gMatch
  rw [hsz, hi0, ← addS_one]
  exact E_set _ _ _
theorem match_notrange (lo hi : Nat) (s : ByteArray) (hl : lo < 256) (hh : hi < 256) (a1 : lo ≠ 92) (a2 : hi ≠ 92) (a4 : hi ≠ 93) :
    gMatch (⟨#[91, 33]⟩ ++ strOfNums [(lo : Int), 45, (hi : Int)] ++ ⟨#[93]⟩) s = (s.size == 1 && !(decide (lo ≤ bt s 0) && decide (bt s 0 ≤ hi))) := by
  have hsz : ((⟨#[91, 33]⟩ ++ strOfNums [(lo : Int), 45, (hi : Int)] ++ ⟨#[93]⟩ : ByteArray)).size = 6 := by simp [ByteArray.size_append, strOfNums_size]; rfl
  have h1 : ((⟨#[91, 33]⟩ : ByteArray)).size = 2 := rfl
  have hb : ∀ i, bt (⟨#[91, 33]⟩ ++ strOfNums [(lo : Int), 45, (hi : Int)] ++ ⟨#[93]⟩) i = if i < 5 then (if i < 2 then bt ⟨#[91, 33]⟩ i else ([(lo : Int), 45, (hi : Int)].getD (i - 2) 0).toNat % 256) else bt ⟨#[93]⟩ (i - 5) := by
    intro i
    rw [bt_append, bt_append, bt_nums, ByteArray.size_append, strOfNums_size, h1]
    rfl
  have hi0 : gItems (bt (⟨#[91, 33]⟩ ++ strOfNums [(lo : Int), 45, (hi : Int)] ++ ⟨#[93]⟩)) 6 = [giSet (fun c => !addS noS lo (hi + 1) c)] :=
    items_not (by rw [hb]; rfl) (by rw [hb]; rfl) (by rw [hb]; simp; omega) (by rw [hb]; rfl) (by rw [hb]; simp; omega) (by rw [hb]; rfl) a1 a2 a4
  unfold gMatch
  rw [hsz, hi0, ← addS_one]
  exact E_set _ _ _
theorem match_two (lo hi : Nat) (s : ByteArray) (hl : lo < 256) (hh : hi < 256) (a1 : lo ≠ 92) (a2 : hi ≠ 92) (a4 : hi ≠ 93) (a5 : lo ≠ 33) (a6 : hi ≠ 45) :
    gMatch (⟨#[91]⟩ ++ strOfNums [(lo : Int), (hi : Int)] ++ ⟨#[93]⟩) s = (s.size == 1 && (bt s 0 == lo || bt s 0 == hi)) := by
  have hsz : ((⟨#[91]⟩ ++ strOfNums [(lo : Int), (hi : Int)] ++ ⟨#[93]⟩ : ByteArray)).size = 4 := by simp [ByteArray.size_append, strOfNums_size]; rfl
  have h1 : ((⟨#[91]⟩ : ByteArray)).size = 1 := rfl
  have hb : ∀ i, bt (⟨#[91]⟩ ++ strOfNums [(lo : Int), (hi : Int)] ++ ⟨#[93]⟩) i = if i < 3 then (if i < 1 then bt ⟨#[91]⟩ i else ([(lo : Int), (hi : Int)].getD (i - 1) 0).toNat % 256) else bt ⟨#[93]⟩ (i - 3) := by
    intro i
    rw [bt_append, bt_append, bt_nums, ByteArray.size_append, strOfNums_size, h1]
    rfl
  have hi0 : gItems (bt (⟨#[91]⟩ ++ strOfNums [(lo : Int), (hi : Int)] ++ ⟨#[93]⟩)) 4 = [giSet (addS (addS noS lo (lo + 1)) hi (hi + 1))] :=
    items_two (by rw [hb]; rfl) (by rw [hb]; simp; omega) (by rw [hb]; simp; omega) (by rw [hb]; rfl) a1 a2 a4 a5 a6
  unfold gMatch
  rw [hsz, hi0, ← addS_two]
  exact E_set _ _ _
theorem one_num (c : Nat) (h : c < 256) : (strOfNums [(c : Int)]).size = 1 ∧ bt (strOfNums [(c : Int)]) 0 = c := ⟨rfl, by rw [bt_nums]; simp; omega⟩

set_option maxRecDepth 100000 in
set_option maxHeartbeats 1000000 in
theorem law_globSets (lo hi c : Int) (w0 : (Lit.int .u8 lo).wf = true) (w1 : (Lit.int .u8 hi).wf = true) (w2 : (Lit.int .u8 c).wf = true) (w : World) :
    Calls Try.prog 5 #[.int .u8 lo, .int .u8 hi, .int .u8 c] w fun e w' => e = .returned (.bool true) ∧ Below w.heap.size w w' := by
  have h0 : 0 ≤ lo ∧ lo ≤ 255 := by simpa [Lit.wf, IntKind.min, IntKind.max, IntKind.signed, IntKind.bits] using w0
  have h1 : 0 ≤ hi ∧ hi ≤ 255 := by simpa [Lit.wf, IntKind.min, IntKind.max, IntKind.signed, IntKind.bits] using w1
  have h2 : 0 ≤ c ∧ c ≤ 255 := by simpa [Lit.wf, IntKind.min, IntKind.max, IntKind.signed, IntKind.bits] using w2
  obtain ⟨lo, rfl⟩ := Int.eq_ofNat_of_zero_le h0.1
  obtain ⟨hi, rfl⟩ := Int.eq_ofNat_of_zero_le h1.1
  obtain ⟨c, rfl⟩ := Int.eq_ofNat_of_zero_le h2.1
  clear w0 w1 w2
  by_cases t0 : lo = 92
  · have g0 : ((lo : Int) == 92) = true := by simp only [beq_iff_eq]; omega
    clear t0
    go_enter Try.func5, Try.ntmps5
    go_wp2_with fail
    refine (alive1_any w).mono ?_
    rintro e w1 ⟨rfl, hb1⟩
    go_wp2
    go_ret
    exact ⟨rfl, hb1⟩
  have g0 : ((lo : Int) == 92) = false := by simp only [beq_eq_false_iff_ne]; omega
  by_cases t1 : hi = 92
  · have g1 : ((hi : Int) == 92) = true := by simp only [beq_iff_eq]; omega
    clear t0 t1
    go_enter Try.func5, Try.ntmps5
    go_wp2_with fail
    refine (alive1_any w).mono ?_
    rintro e w1 ⟨rfl, hb1⟩
    go_wp2
    go_ret
    exact ⟨rfl, hb1⟩
  have g1 : ((hi : Int) == 92) = false := by simp only [beq_eq_false_iff_ne]; omega
  by_cases t2 : lo = 93
  · have g2 : ((lo : Int) == 93) = true := by simp only [beq_iff_eq]; omega
    clear t0 t1 t2
    go_enter Try.func5, Try.ntmps5
    go_wp2_with fail
    refine (alive1_any w).mono ?_
    rintro e w1 ⟨rfl, hb1⟩
    go_wp2
    go_ret
    exact ⟨rfl, hb1⟩
  have g2 : ((lo : Int) == 93) = false := by simp only [beq_eq_false_iff_ne]; omega
  by_cases t3 : hi = 93
  · have g3 : ((hi : Int) == 93) = true := by simp only [beq_iff_eq]; omega
    clear t0 t1 t2 t3
    go_enter Try.func5, Try.ntmps5
    go_wp2_with fail
    refine (alive1_any w).mono ?_
    rintro e w1 ⟨rfl, hb1⟩
    go_wp2
    go_ret
    exact ⟨rfl, hb1⟩
  have g3 : ((hi : Int) == 93) = false := by simp only [beq_eq_false_iff_ne]; omega
  by_cases t4 : lo = 33
  · have g4 : ((lo : Int) == 33) = true := by simp only [beq_iff_eq]; omega
    clear t0 t1 t2 t3 t4
    go_enter Try.func5, Try.ntmps5
    go_wp2_with fail
    refine (alive1_any w).mono ?_
    rintro e w1 ⟨rfl, hb1⟩
    go_wp2
    go_ret
    exact ⟨rfl, hb1⟩
  have g4 : ((lo : Int) == 33) = false := by simp only [beq_eq_false_iff_ne]; omega
  by_cases t5 : lo = 45
  · have g5 : ((lo : Int) == 45) = true := by simp only [beq_iff_eq]; omega
    clear t0 t1 t2 t3 t4 t5
    go_enter Try.func5, Try.ntmps5
    go_wp2_with fail
    refine (alive1_any w).mono ?_
    rintro e w1 ⟨rfl, hb1⟩
    go_wp2
    go_ret
    exact ⟨rfl, hb1⟩
  have g5 : ((lo : Int) == 45) = false := by simp only [beq_eq_false_iff_ne]; omega
  by_cases t6 : hi = 45
  · have g6 : ((hi : Int) == 45) = true := by simp only [beq_iff_eq]; omega
    clear t0 t1 t2 t3 t4 t5 t6
    go_enter Try.func5, Try.ntmps5
    go_wp2_with fail
    refine (alive1_any w).mono ?_
    rintro e w1 ⟨rfl, hb1⟩
    go_wp2
    go_ret
    exact ⟨rfl, hb1⟩
  have g6 : ((hi : Int) == 45) = false := by simp only [beq_eq_false_iff_ne]; omega
  have HT := hide (show lo ≠ 92 ∧ hi ≠ 92 ∧ lo ≠ 93 ∧ hi ≠ 93 ∧ lo ≠ 33 ∧ lo ≠ 45 ∧ hi ≠ 45 from ⟨t0, t1, t2, t3, t4, t5, t6⟩)
  clear t0 t1 t2 t3 t4 t5 t6
  have hl8 : lo < 256 := by omega
  have hh8 : hi < 256 := by omega
  have hc8 : c < 256 := by omega
  have M1 := hide (fun s => match_range lo hi s hl8 hh8 HT.out.1 HT.out.2.1 HT.out.2.2.2.1 HT.out.2.2.2.2.1)
  have M2 := hide (fun s => match_notrange lo hi s hl8 hh8 HT.out.1 HT.out.2.1 HT.out.2.2.2.1)
  have M3 := hide (fun s => match_two lo hi s hl8 hh8 HT.out.1 HT.out.2.1 HT.out.2.2.2.1 HT.out.2.2.2.2.1 HT.out.2.2.2.2.2.2)
  have O := hide (one_num c hc8)
  by_cases hA : lo ≤ c
  · by_cases hB : c ≤ hi
    · skip
      --{A
      go_enter Try.func5, Try.ntmps5
      go_wp2_with fail
      refine (alive1_any w).mono ?_
      rintro e w1 ⟨rfl, hb1⟩
      go_wp2_with fail
      refine (match_any _ _ _ (by first | (simp [ByteArray.size_append, strOfNums_size]; done) | (simp [ByteArray.size_append, strOfNums_size]; decide)) (by first | (simp [strOfNums_size]; done) | (simp [ByteArray.size_append, strOfNums_size]; done) | decide)).mono ?_
      rintro e w2 ⟨rfl, hb2⟩
      rw [show gMatch _ _ = true from by rw [M1.out, O.out.1, O.out.2]; simp; omega]
      go_wp2_with fail
      refine (match_any _ _ _ (by first | (simp [ByteArray.size_append, strOfNums_size]; done) | (simp [ByteArray.size_append, strOfNums_size]; decide)) (by first | (simp [strOfNums_size]; done) | (simp [ByteArray.size_append, strOfNums_size]; done) | decide)).mono ?_
      rintro e w3 ⟨rfl, hb3⟩
      rw [show gMatch _ _ = false from by rw [M2.out, O.out.1, O.out.2]; simp; omega]
      go_wp2_with fail
      refine (match_any _ _ _ (by first | (simp [ByteArray.size_append, strOfNums_size]; done) | (simp [ByteArray.size_append, strOfNums_size]; decide)) (by first | (simp [strOfNums_size]; done) | (simp [ByteArray.size_append, strOfNums_size]; done) | decide)).mono ?_
      rintro e w4 ⟨rfl, hb4⟩
      rw [show gMatch _ _ = false from by rw [M1.out]; rfl]
      go_wp2_with fail
      refine (match_any _ _ _ (by first | (simp [ByteArray.size_append, strOfNums_size]; done) | (simp [ByteArray.size_append, strOfNums_size]; decide)) (by first | (simp [strOfNums_size]; done) | (simp [ByteArray.size_append, strOfNums_size]; done) | decide)).mono ?_
      rintro e w5 ⟨rfl, hb5⟩
      rw [show gMatch _ _ = false from by rw [M2.out, ByteArray.size_append, O.out.1]; rfl]
      go_wp2_with fail
      refine (match_any _ _ _ (by first | (simp [ByteArray.size_append, strOfNums_size]; done) | (simp [ByteArray.size_append, strOfNums_size]; decide)) (by first | (simp [strOfNums_size]; done) | decide)).mono ?_
      rintro e w6 ⟨rfl, hb6⟩
      rw [show gMatch _ _ = (c == lo || c == hi) from by rw [M3.out, O.out.1, O.out.2]; rfl]
      have HF := hide (show Below w.heap.size w w6 from by
        have s1 := hb1.size
        have s2 := hb2.size
        have s3 := hb3.size
        have s4 := hb4.size
        have s5 := hb5.size
        simp only [World.size_alloc] at s2 s3 s4 s5
        refine below_up ?_ hb6 (by simp only [World.size_alloc]; omega)
        refine Below.alloc ?_ (by omega) _
        refine below_up (below_up (below_up (below_up ?_ hb2 ?_) hb3 (by omega)) hb4 (by omega)) hb5 (by omega)
        · exact ((hb1.alloc (by omega) _).alloc (by simp only [World.size_alloc]; omega) _).alloc (by simp only [World.size_alloc]; omega) _
        · simp only [World.size_alloc]; omega)
      clear hb1 hb2 hb3 hb4 hb5 hb6
      by_cases e1 : c = lo
      · skip
        have q1 : ((c : Int) == (lo : Int)) = true := by rw [beq_cast]; simp only [beq_iff_eq]; exact e1
        rw [show (c == lo || c == hi) = true from by simp [e1]]
        clear e1
        go_wp2
        go_ret
        exact ⟨rfl, HF.out⟩
      · by_cases e2 : c = hi
        · skip
          have q1 : ((c : Int) == (lo : Int)) = false := by rw [beq_cast]; simp only [beq_eq_false_iff_ne, ne_eq]; exact e1
          have q3 : (c == lo) = false := by simp only [beq_eq_false_iff_ne, ne_eq]; exact e1
          have q2 : ((c : Int) == (hi : Int)) = true := by rw [beq_cast]; simp only [beq_iff_eq]; exact e2
          have q4 : (c == hi) = true := by simp only [beq_iff_eq]; exact e2
          rw [q3, q4]
          clear e1 e2
          go_wp2
          go_ret
          exact ⟨rfl, HF.out⟩
        · skip
          have q1 : ((c : Int) == (lo : Int)) = false := by rw [beq_cast]; simp only [beq_eq_false_iff_ne, ne_eq]; exact e1
          have q3 : (c == lo) = false := by simp only [beq_eq_false_iff_ne, ne_eq]; exact e1
          have q2 : ((c : Int) == (hi : Int)) = false := by rw [beq_cast]; simp only [beq_eq_false_iff_ne, ne_eq]; exact e2
          have q4 : (c == hi) = false := by simp only [beq_eq_false_iff_ne, ne_eq]; exact e2
          rw [q3, q4]
          clear e1 e2
          go_wp2
          go_ret
          exact ⟨rfl, HF.out⟩
      --}A
    · skip
      --{B
      go_enter Try.func5, Try.ntmps5
      go_wp2_with fail
      refine (alive1_any w).mono ?_
      rintro e w1 ⟨rfl, hb1⟩
      go_wp2_with fail
      refine (match_any _ _ _ (by first | (simp [ByteArray.size_append, strOfNums_size]; done) | (simp [ByteArray.size_append, strOfNums_size]; decide)) (by first | (simp [strOfNums_size]; done) | (simp [ByteArray.size_append, strOfNums_size]; done) | decide)).mono ?_
      rintro e w2 ⟨rfl, hb2⟩
      rw [show gMatch _ _ = false from by rw [M1.out, O.out.1, O.out.2]; simp; omega]
      go_wp2_with fail
      refine (match_any _ _ _ (by first | (simp [ByteArray.size_append, strOfNums_size]; done) | (simp [ByteArray.size_append, strOfNums_size]; decide)) (by first | (simp [strOfNums_size]; done) | (simp [ByteArray.size_append, strOfNums_size]; done) | decide)).mono ?_
      rintro e w3 ⟨rfl, hb3⟩
      rw [show gMatch _ _ = true from by rw [M2.out, O.out.1, O.out.2]; simp; omega]
      go_wp2_with fail
      refine (match_any _ _ _ (by first | (simp [ByteArray.size_append, strOfNums_size]; done) | (simp [ByteArray.size_append, strOfNums_size]; decide)) (by first | (simp [strOfNums_size]; done) | (simp [ByteArray.size_append, strOfNums_size]; done) | decide)).mono ?_
      rintro e w4 ⟨rfl, hb4⟩
      rw [show gMatch _ _ = false from by rw [M1.out]; rfl]
      go_wp2_with fail
      refine (match_any _ _ _ (by first | (simp [ByteArray.size_append, strOfNums_size]; done) | (simp [ByteArray.size_append, strOfNums_size]; decide)) (by first | (simp [strOfNums_size]; done) | (simp [ByteArray.size_append, strOfNums_size]; done) | decide)).mono ?_
      rintro e w5 ⟨rfl, hb5⟩
      rw [show gMatch _ _ = false from by rw [M2.out, ByteArray.size_append, O.out.1]; rfl]
      go_wp2_with fail
      refine (match_any _ _ _ (by first | (simp [ByteArray.size_append, strOfNums_size]; done) | (simp [ByteArray.size_append, strOfNums_size]; decide)) (by first | (simp [strOfNums_size]; done) | decide)).mono ?_
      rintro e w6 ⟨rfl, hb6⟩
      rw [show gMatch _ _ = (c == lo || c == hi) from by rw [M3.out, O.out.1, O.out.2]; rfl]
      have HF := hide (show Below w.heap.size w w6 from by
        have s1 := hb1.size
        have s2 := hb2.size
        have s3 := hb3.size
        have s4 := hb4.size
        have s5 := hb5.size
        simp only [World.size_alloc] at s2 s3 s4 s5
        refine below_up ?_ hb6 (by simp only [World.size_alloc]; omega)
        refine Below.alloc ?_ (by omega) _
        refine below_up (below_up (below_up (below_up ?_ hb2 ?_) hb3 (by omega)) hb4 (by omega)) hb5 (by omega)
        · exact ((hb1.alloc (by omega) _).alloc (by simp only [World.size_alloc]; omega) _).alloc (by simp only [World.size_alloc]; omega) _
        · simp only [World.size_alloc]; omega)
      clear hb1 hb2 hb3 hb4 hb5 hb6
      by_cases e1 : c = lo
      · skip
        have q1 : ((c : Int) == (lo : Int)) = true := by rw [beq_cast]; simp only [beq_iff_eq]; exact e1
        rw [show (c == lo || c == hi) = true from by simp [e1]]
        clear e1
        go_wp2
        go_ret
        exact ⟨rfl, HF.out⟩
      · by_cases e2 : c = hi
        · skip
          have q1 : ((c : Int) == (lo : Int)) = false := by rw [beq_cast]; simp only [beq_eq_false_iff_ne, ne_eq]; exact e1
          have q3 : (c == lo) = false := by simp only [beq_eq_false_iff_ne, ne_eq]; exact e1
          have q2 : ((c : Int) == (hi : Int)) = true := by rw [beq_cast]; simp only [beq_iff_eq]; exact e2
          have q4 : (c == hi) = true := by simp only [beq_iff_eq]; exact e2
          rw [q3, q4]
          clear e1 e2
          go_wp2
          go_ret
          exact ⟨rfl, HF.out⟩
        · skip
          have q1 : ((c : Int) == (lo : Int)) = false := by rw [beq_cast]; simp only [beq_eq_false_iff_ne, ne_eq]; exact e1
          have q3 : (c == lo) = false := by simp only [beq_eq_false_iff_ne, ne_eq]; exact e1
          have q2 : ((c : Int) == (hi : Int)) = false := by rw [beq_cast]; simp only [beq_eq_false_iff_ne, ne_eq]; exact e2
          have q4 : (c == hi) = false := by simp only [beq_eq_false_iff_ne, ne_eq]; exact e2
          rw [q3, q4]
          clear e1 e2
          go_wp2
          go_ret
          exact ⟨rfl, HF.out⟩
      --}B
  · skip
    --{C
    go_enter Try.func5, Try.ntmps5
    go_wp2_with fail
    refine (alive1_any w).mono ?_
    rintro e w1 ⟨rfl, hb1⟩
    go_wp2_with fail
    refine (match_any _ _ _ (by first | (simp [ByteArray.size_append, strOfNums_size]; done) | (simp [ByteArray.size_append, strOfNums_size]; decide)) (by first | (simp [strOfNums_size]; done) | (simp [ByteArray.size_append, strOfNums_size]; done) | decide)).mono ?_
    rintro e w2 ⟨rfl, hb2⟩
    rw [show gMatch _ _ = false from by rw [M1.out, O.out.1, O.out.2]; simp; omega]
    go_wp2_with fail
    refine (match_any _ _ _ (by first | (simp [ByteArray.size_append, strOfNums_size]; done) | (simp [ByteArray.size_append, strOfNums_size]; decide)) (by first | (simp [strOfNums_size]; done) | (simp [ByteArray.size_append, strOfNums_size]; done) | decide)).mono ?_
    rintro e w3 ⟨rfl, hb3⟩
    rw [show gMatch _ _ = true from by rw [M2.out, O.out.1, O.out.2]; simp; omega]
    go_wp2_with fail
    refine (match_any _ _ _ (by first | (simp [ByteArray.size_append, strOfNums_size]; done) | (simp [ByteArray.size_append, strOfNums_size]; decide)) (by first | (simp [strOfNums_size]; done) | (simp [ByteArray.size_append, strOfNums_size]; done) | decide)).mono ?_
    rintro e w4 ⟨rfl, hb4⟩
    rw [show gMatch _ _ = false from by rw [M1.out]; rfl]
    go_wp2_with fail
    refine (match_any _ _ _ (by first | (simp [ByteArray.size_append, strOfNums_size]; done) | (simp [ByteArray.size_append, strOfNums_size]; decide)) (by first | (simp [strOfNums_size]; done) | (simp [ByteArray.size_append, strOfNums_size]; done) | decide)).mono ?_
    rintro e w5 ⟨rfl, hb5⟩
    rw [show gMatch _ _ = false from by rw [M2.out, ByteArray.size_append, O.out.1]; rfl]
    go_wp2_with fail
    refine (match_any _ _ _ (by first | (simp [ByteArray.size_append, strOfNums_size]; done) | (simp [ByteArray.size_append, strOfNums_size]; decide)) (by first | (simp [strOfNums_size]; done) | decide)).mono ?_
    rintro e w6 ⟨rfl, hb6⟩
    rw [show gMatch _ _ = (c == lo || c == hi) from by rw [M3.out, O.out.1, O.out.2]; rfl]
    have HF := hide (show Below w.heap.size w w6 from by
      have s1 := hb1.size
      have s2 := hb2.size
      have s3 := hb3.size
      have s4 := hb4.size
      have s5 := hb5.size
      simp only [World.size_alloc] at s2 s3 s4 s5
      refine below_up ?_ hb6 (by simp only [World.size_alloc]; omega)
      refine Below.alloc ?_ (by omega) _
      refine below_up (below_up (below_up (below_up ?_ hb2 ?_) hb3 (by omega)) hb4 (by omega)) hb5 (by omega)
      · exact ((hb1.alloc (by omega) _).alloc (by simp only [World.size_alloc]; omega) _).alloc (by simp only [World.size_alloc]; omega) _
      · simp only [World.size_alloc]; omega)
    clear hb1 hb2 hb3 hb4 hb5 hb6
    by_cases e1 : c = lo
    · skip
      have q1 : ((c : Int) == (lo : Int)) = true := by rw [beq_cast]; simp only [beq_iff_eq]; exact e1
      rw [show (c == lo || c == hi) = true from by simp [e1]]
      clear e1
      go_wp2
      go_ret
      exact ⟨rfl, HF.out⟩
    · by_cases e2 : c = hi
      · skip
        have q1 : ((c : Int) == (lo : Int)) = false := by rw [beq_cast]; simp only [beq_eq_false_iff_ne, ne_eq]; exact e1
        have q3 : (c == lo) = false := by simp only [beq_eq_false_iff_ne, ne_eq]; exact e1
        have q2 : ((c : Int) == (hi : Int)) = true := by rw [beq_cast]; simp only [beq_iff_eq]; exact e2
        have q4 : (c == hi) = true := by simp only [beq_iff_eq]; exact e2
        rw [q3, q4]
        clear e1 e2
        go_wp2
        go_ret
        exact ⟨rfl, HF.out⟩
      · skip
        have q1 : ((c : Int) == (lo : Int)) = false := by rw [beq_cast]; simp only [beq_eq_false_iff_ne, ne_eq]; exact e1
        have q3 : (c == lo) = false := by simp only [beq_eq_false_iff_ne, ne_eq]; exact e1
        have q2 : ((c : Int) == (hi : Int)) = false := by rw [beq_cast]; simp only [beq_eq_false_iff_ne, ne_eq]; exact e2
        have q4 : (c == hi) = false := by simp only [beq_eq_false_iff_ne, ne_eq]; exact e2
        rw [q3, q4]
        clear e1 e2
        go_wp2
        go_ret
        exact ⟨rfl, HF.out⟩
    --}C
end Go.Proofs.Ytkhomdannnklhaa
