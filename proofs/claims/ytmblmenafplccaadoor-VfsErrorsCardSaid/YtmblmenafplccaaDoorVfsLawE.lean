/- Walk of the law VfsErrors. -/
import Derived.Test.YtmblmenafplccaaDoorVfsLawD
import Derived.Deep.RegionHeld3
namespace Go.Proofs.YtmblmenafplccaaDoor
open Go.RowKit Go.Deep Go.Maps Ln Pth Vf
attribute [local go_sem] bt_eq convYY

/-- the law's tables -/
def tabsW (w5 : World) : World := ((((((w5.alloc (.cells #[.string ⟨#[47, 100, 47, 102, 47, 120]⟩, .string ⟨#[47, 110, 47, 120]⟩, .string ⟨#[47, 110]⟩, .string ⟨#[47, 100]⟩, .string ⟨#[47, 100, 47, 102]⟩, .string ⟨#[47]⟩, .string ⟨#[]⟩, .string ⟨#[47, 100, 47, 101]⟩] 9)).alloc (.cells #[.int .i64 11, .int .i64 6, .int .i64 6, .int .i64 10, .int .i64 0, .int .i64 10, .int .i64 1, .int .i64 10] 3)).alloc (.cells #[.int .i64 11, .int .i64 6, .int .i64 6, .int .i64 0, .int .i64 11, .int .i64 0, .int .i64 1, .int .i64 0] 3)).alloc (.cells #[.int .i64 11, .int .i64 6, .int .i64 0, .int .i64 10, .int .i64 0, .int .i64 10, .int .i64 1, .int .i64 10] 3)).alloc (.cells #[.int .i64 11, .int .i64 6, .int .i64 0, .int .i64 12, .int .i64 12, .int .i64 12, .int .i64 1, .int .i64 12] 3)).alloc (.cells #[.int .i64 11, .int .i64 6, .int .i64 6, .int .i64 14, .int .i64 0, .int .i64 1, .int .i64 1, .int .i64 0] 3)).alloc (.cells #[.int .i64 11, .int .i64 6, .int .i64 0, .int .i64 0, .int .i64 0, .int .i64 0, .int .i64 1, .int .i64 0] 3)
theorem tabs_ok (w5 : World) : Below w5.heap.size w5 (tabsW w5) ∧ (tabsW w5).heap.size = w5.heap.size + 7 ∧ ∀ k, k < 8 → (tabsW w5).cell? ⟨w5.heap.size, k, none⟩ = some (.string (bs (lpE k))) ∧ (tabsW w5).cell? ⟨w5.heap.size + 1, k, none⟩ = some (.int .i64 (rdE k)) ∧ (tabsW w5).cell? ⟨w5.heap.size + 1 + 1, k, none⟩ = some (.int .i64 (liE k)) ∧ (tabsW w5).cell? ⟨w5.heap.size + 1 + 1 + 1, k, none⟩ = some (.int .i64 (wrE k)) ∧ (tabsW w5).cell? ⟨w5.heap.size + 1 + 1 + 1 + 1, k, none⟩ = some (.int .i64 (mkE k)) ∧ (tabsW w5).cell? ⟨w5.heap.size + 1 + 1 + 1 + 1 + 1, k, none⟩ = some (.int .i64 (rmE k)) ∧ (tabsW w5).cell? ⟨w5.heap.size + 1 + 1 + 1 + 1 + 1 + 1, k, none⟩ = some (.int .i64 (toE k)) := by
  have hb : ∀ (W : World) (o : Obj), w5.heap.size ≤ W.heap.size → Below w5.heap.size w5 W → Below w5.heap.size w5 (W.alloc o) := fun W o h1 h2 => h2.alloc h1 o
  refine ⟨?_, by unfold tabsW; simp, ?_⟩
  · unfold tabsW
    exact hb _ _ (by simp; omega) (hb _ _ (by simp; omega) (hb _ _ (by simp; omega) (hb _ _ (by simp; omega) (hb _ _ (by simp; omega) (hb _ _ (by simp) (hb _ _ (Nat.le_refl _) (Below.refl _ _)))))))
  · intro k hk
    have h0 : (tabsW w5).heap[w5.heap.size]? = some (.cells #[.string ⟨#[47, 100, 47, 102, 47, 120]⟩, .string ⟨#[47, 110, 47, 120]⟩, .string ⟨#[47, 110]⟩, .string ⟨#[47, 100]⟩, .string ⟨#[47, 100, 47, 102]⟩, .string ⟨#[47]⟩, .string ⟨#[]⟩, .string ⟨#[47, 100, 47, 101]⟩] 9) := by
      unfold tabsW
      rw [Below.heap_alloc _ _ _ (by simp <;> omega)]
      rw [Below.heap_alloc _ _ _ (by simp <;> omega)]
      rw [Below.heap_alloc _ _ _ (by simp <;> omega)]
      rw [Below.heap_alloc _ _ _ (by simp <;> omega)]
      rw [Below.heap_alloc _ _ _ (by simp <;> omega)]
      rw [Below.heap_alloc _ _ _ (by simp <;> omega)]
      exact heapNew _ _
    have h1 : (tabsW w5).heap[w5.heap.size + 1]? = some (.cells #[.int .i64 11, .int .i64 6, .int .i64 6, .int .i64 10, .int .i64 0, .int .i64 10, .int .i64 1, .int .i64 10] 3) := by
      unfold tabsW
      rw [Below.heap_alloc _ _ _ (by simp <;> omega)]
      rw [Below.heap_alloc _ _ _ (by simp <;> omega)]
      rw [Below.heap_alloc _ _ _ (by simp <;> omega)]
      rw [Below.heap_alloc _ _ _ (by simp <;> omega)]
      rw [Below.heap_alloc _ _ _ (by simp <;> omega)]
      have := heapNew (w5.alloc (.cells #[.string ⟨#[47, 100, 47, 102, 47, 120]⟩, .string ⟨#[47, 110, 47, 120]⟩, .string ⟨#[47, 110]⟩, .string ⟨#[47, 100]⟩, .string ⟨#[47, 100, 47, 102]⟩, .string ⟨#[47]⟩, .string ⟨#[]⟩, .string ⟨#[47, 100, 47, 101]⟩] 9)) (.cells #[.int .i64 11, .int .i64 6, .int .i64 6, .int .i64 10, .int .i64 0, .int .i64 10, .int .i64 1, .int .i64 10] 3)
      simpa using this
    have h2 : (tabsW w5).heap[w5.heap.size + 1 + 1]? = some (.cells #[.int .i64 11, .int .i64 6, .int .i64 6, .int .i64 0, .int .i64 11, .int .i64 0, .int .i64 1, .int .i64 0] 3) := by
      unfold tabsW
      rw [Below.heap_alloc _ _ _ (by simp <;> omega)]
      rw [Below.heap_alloc _ _ _ (by simp <;> omega)]
      rw [Below.heap_alloc _ _ _ (by simp <;> omega)]
      rw [Below.heap_alloc _ _ _ (by simp <;> omega)]
      have := heapNew ((w5.alloc (.cells #[.string ⟨#[47, 100, 47, 102, 47, 120]⟩, .string ⟨#[47, 110, 47, 120]⟩, .string ⟨#[47, 110]⟩, .string ⟨#[47, 100]⟩, .string ⟨#[47, 100, 47, 102]⟩, .string ⟨#[47]⟩, .string ⟨#[]⟩, .string ⟨#[47, 100, 47, 101]⟩] 9)).alloc (.cells #[.int .i64 11, .int .i64 6, .int .i64 6, .int .i64 10, .int .i64 0, .int .i64 10, .int .i64 1, .int .i64 10] 3)) (.cells #[.int .i64 11, .int .i64 6, .int .i64 6, .int .i64 0, .int .i64 11, .int .i64 0, .int .i64 1, .int .i64 0] 3)
      simpa using this
    have h3 : (tabsW w5).heap[w5.heap.size + 1 + 1 + 1]? = some (.cells #[.int .i64 11, .int .i64 6, .int .i64 0, .int .i64 10, .int .i64 0, .int .i64 10, .int .i64 1, .int .i64 10] 3) := by
      unfold tabsW
      rw [Below.heap_alloc _ _ _ (by simp <;> omega)]
      rw [Below.heap_alloc _ _ _ (by simp <;> omega)]
      rw [Below.heap_alloc _ _ _ (by simp <;> omega)]
      have := heapNew (((w5.alloc (.cells #[.string ⟨#[47, 100, 47, 102, 47, 120]⟩, .string ⟨#[47, 110, 47, 120]⟩, .string ⟨#[47, 110]⟩, .string ⟨#[47, 100]⟩, .string ⟨#[47, 100, 47, 102]⟩, .string ⟨#[47]⟩, .string ⟨#[]⟩, .string ⟨#[47, 100, 47, 101]⟩] 9)).alloc (.cells #[.int .i64 11, .int .i64 6, .int .i64 6, .int .i64 10, .int .i64 0, .int .i64 10, .int .i64 1, .int .i64 10] 3)).alloc (.cells #[.int .i64 11, .int .i64 6, .int .i64 6, .int .i64 0, .int .i64 11, .int .i64 0, .int .i64 1, .int .i64 0] 3)) (.cells #[.int .i64 11, .int .i64 6, .int .i64 0, .int .i64 10, .int .i64 0, .int .i64 10, .int .i64 1, .int .i64 10] 3)
      simpa using this
    have h4 : (tabsW w5).heap[w5.heap.size + 1 + 1 + 1 + 1]? = some (.cells #[.int .i64 11, .int .i64 6, .int .i64 0, .int .i64 12, .int .i64 12, .int .i64 12, .int .i64 1, .int .i64 12] 3) := by
      unfold tabsW
      rw [Below.heap_alloc _ _ _ (by simp <;> omega)]
      rw [Below.heap_alloc _ _ _ (by simp <;> omega)]
      have := heapNew ((((w5.alloc (.cells #[.string ⟨#[47, 100, 47, 102, 47, 120]⟩, .string ⟨#[47, 110, 47, 120]⟩, .string ⟨#[47, 110]⟩, .string ⟨#[47, 100]⟩, .string ⟨#[47, 100, 47, 102]⟩, .string ⟨#[47]⟩, .string ⟨#[]⟩, .string ⟨#[47, 100, 47, 101]⟩] 9)).alloc (.cells #[.int .i64 11, .int .i64 6, .int .i64 6, .int .i64 10, .int .i64 0, .int .i64 10, .int .i64 1, .int .i64 10] 3)).alloc (.cells #[.int .i64 11, .int .i64 6, .int .i64 6, .int .i64 0, .int .i64 11, .int .i64 0, .int .i64 1, .int .i64 0] 3)).alloc (.cells #[.int .i64 11, .int .i64 6, .int .i64 0, .int .i64 10, .int .i64 0, .int .i64 10, .int .i64 1, .int .i64 10] 3)) (.cells #[.int .i64 11, .int .i64 6, .int .i64 0, .int .i64 12, .int .i64 12, .int .i64 12, .int .i64 1, .int .i64 12] 3)
      simpa using this
    have h5 : (tabsW w5).heap[w5.heap.size + 1 + 1 + 1 + 1 + 1]? = some (.cells #[.int .i64 11, .int .i64 6, .int .i64 6, .int .i64 14, .int .i64 0, .int .i64 1, .int .i64 1, .int .i64 0] 3) := by
      unfold tabsW
      rw [Below.heap_alloc _ _ _ (by simp <;> omega)]
      have := heapNew (((((w5.alloc (.cells #[.string ⟨#[47, 100, 47, 102, 47, 120]⟩, .string ⟨#[47, 110, 47, 120]⟩, .string ⟨#[47, 110]⟩, .string ⟨#[47, 100]⟩, .string ⟨#[47, 100, 47, 102]⟩, .string ⟨#[47]⟩, .string ⟨#[]⟩, .string ⟨#[47, 100, 47, 101]⟩] 9)).alloc (.cells #[.int .i64 11, .int .i64 6, .int .i64 6, .int .i64 10, .int .i64 0, .int .i64 10, .int .i64 1, .int .i64 10] 3)).alloc (.cells #[.int .i64 11, .int .i64 6, .int .i64 6, .int .i64 0, .int .i64 11, .int .i64 0, .int .i64 1, .int .i64 0] 3)).alloc (.cells #[.int .i64 11, .int .i64 6, .int .i64 0, .int .i64 10, .int .i64 0, .int .i64 10, .int .i64 1, .int .i64 10] 3)).alloc (.cells #[.int .i64 11, .int .i64 6, .int .i64 0, .int .i64 12, .int .i64 12, .int .i64 12, .int .i64 1, .int .i64 12] 3)) (.cells #[.int .i64 11, .int .i64 6, .int .i64 6, .int .i64 14, .int .i64 0, .int .i64 1, .int .i64 1, .int .i64 0] 3)
      simpa using this
    have h6 : (tabsW w5).heap[w5.heap.size + 1 + 1 + 1 + 1 + 1 + 1]? = some (.cells #[.int .i64 11, .int .i64 6, .int .i64 0, .int .i64 0, .int .i64 0, .int .i64 0, .int .i64 1, .int .i64 0] 3) := by
      unfold tabsW
      have := heapNew ((((((w5.alloc (.cells #[.string ⟨#[47, 100, 47, 102, 47, 120]⟩, .string ⟨#[47, 110, 47, 120]⟩, .string ⟨#[47, 110]⟩, .string ⟨#[47, 100]⟩, .string ⟨#[47, 100, 47, 102]⟩, .string ⟨#[47]⟩, .string ⟨#[]⟩, .string ⟨#[47, 100, 47, 101]⟩] 9)).alloc (.cells #[.int .i64 11, .int .i64 6, .int .i64 6, .int .i64 10, .int .i64 0, .int .i64 10, .int .i64 1, .int .i64 10] 3)).alloc (.cells #[.int .i64 11, .int .i64 6, .int .i64 6, .int .i64 0, .int .i64 11, .int .i64 0, .int .i64 1, .int .i64 0] 3)).alloc (.cells #[.int .i64 11, .int .i64 6, .int .i64 0, .int .i64 10, .int .i64 0, .int .i64 10, .int .i64 1, .int .i64 10] 3)).alloc (.cells #[.int .i64 11, .int .i64 6, .int .i64 0, .int .i64 12, .int .i64 12, .int .i64 12, .int .i64 1, .int .i64 12] 3)).alloc (.cells #[.int .i64 11, .int .i64 6, .int .i64 6, .int .i64 14, .int .i64 0, .int .i64 1, .int .i64 1, .int .i64 0] 3)) (.cells #[.int .i64 11, .int .i64 6, .int .i64 0, .int .i64 0, .int .i64 0, .int .i64 0, .int .i64 1, .int .i64 0] 3)
      simpa using this
    refine ⟨cellOf h0 ?_, cellOf h1 ?_, cellOf h2 ?_, cellOf h3 ?_, cellOf h4 ?_, cellOf h5 ?_, cellOf h6 ?_⟩
    all_goals
      clear h0 h1 h2 h3 h4 h5 h6
      revert k
      exact eight rfl rfl rfl rfl rfl rfl rfl rfl
set_option linter.unusedSimpArgs false in
set_option maxRecDepth 100000 in
set_option maxHeartbeats 8000000 in
theorem law_vfsErrors (n : Int) (w : World) (hm : MX w) :
    Calls Tryd.prog 7 #[.int .i64 n] w fun e w' => e = .returned (.bool true) ∧ Below w.heap.size w w' := by
  have HM := hide hm
  clear hm
  go_enter Tryd.func7, Tryd.ntmps7
  go_wp2_with fail
  refine (alive4_any w HM.out).mono ?_
  rintro e w1 ⟨rfl, hb1⟩
  have HB1 := hide hb1
  clear hb1
  have HNW := hide (vnew_any 9 90 w1 (by omega) (by omega) (by omega) (by omega))
  go_wp2_with fail
  refine HNW.out.mono ?_
  rintro e w2 ⟨rfl, hb2, hv2, hs2⟩
  have HTA := hide (TA.new HB1.out 9 90 hb2 hv2 hs2)
  have hb0 : w.heap.size ≤ w1.heap.size := HB1.out.size
  clear hb2 hv2 hs2
  obtain ⟨b, hb⟩ : ∃ b, w1.heap.size = b := ⟨_, rfl⟩
  rw [hb] at HTA hb0 ⊢
  clear hb HNW
  go_wp2_with fail
  refine (TA.mkdir HTA.out hb0 HM.out (newS_wf 9 90) (by decide) [47, 100] (by decide)).mono ?_
  rintro e w3 ⟨rfl, ht3, _⟩
  rw [erA_e]
  have HT3 := hide (show TA b w erA w3 from ht3)
  clear ht3
  have HRY := hide (ry_newM w3 120 5 (1, 2))
  have hba := (Below.refl w3.heap.size w3).alloc (Nat.le_refl _) (.cells #[.int .u8 120] 5 (1, 2))
  have HT3A := hide (HT3.out.stay hba)
  clear hba
  go_wp2_with fail
  refine (TA.write HT3A.out hb0 HM.out erA_wf (by rw [erA_by]; omega) (by rw [erA_ck]; omega) [47, 100, 47, 102] (by decide) [120] (by decide) false _ 1 HRY.out).mono ?_
  rintro e w4 ⟨rfl, ht4, _⟩
  rw [erB_e]
  have HT4 := hide (show TA b w erB w4 from ht4)
  clear ht4
  go_wp2_with fail
  refine (TA.mkdir HT4.out hb0 HM.out erB_wf (by rw [erB_ck]; omega) [47, 100, 47, 101] (by decide)).mono ?_
  rintro e w5 ⟨rfl, ht5, _⟩
  rw [erS_e]
  have HT5 := hide (show TA b w erS w5 from ht5)
  clear ht5 HT3 HT3A HT4 HTA HRY
  have HTB := hide (tabs_ok w5)
  by_cases c1 : n < 0
  · have d1 : decide (n < 0) = true := by simp; omega
    go_wp2
    go_ret
    exact ⟨rfl, below_up HT5.out.below HTB.out.1 HT5.out.below.size⟩
  have d1 : decide (n < 0) = false := by simp; omega
  by_cases c2 : 8 ≤ n
  · have d2 : decide (8 ≤ n) = true := by simp; omega
    go_wp2
    go_ret
    exact ⟨rfl, below_up HT5.out.below HTB.out.1 HT5.out.below.size⟩
  have d2 : decide (8 ≤ n) = false := by simp; omega
  obtain ⟨k, rfl⟩ : ∃ k : Nat, n = (k : Int) := ⟨n.toNat, by omega⟩
  have hk : k < 8 := by omega
  clear c1 c2
  go_upto_if 49 with (fail)
  obtain ⟨W6, hW6⟩ : ∃ W, ((((((w5.alloc (.cells #[.string ⟨#[47, 100, 47, 102, 47, 120]⟩, .string ⟨#[47, 110, 47, 120]⟩, .string ⟨#[47, 110]⟩, .string ⟨#[47, 100]⟩, .string ⟨#[47, 100, 47, 102]⟩, .string ⟨#[47]⟩, .string ⟨#[]⟩, .string ⟨#[47, 100, 47, 101]⟩] 9)).alloc (.cells #[.int .i64 11, .int .i64 6, .int .i64 6, .int .i64 10, .int .i64 0, .int .i64 10, .int .i64 1, .int .i64 10] 3)).alloc (.cells #[.int .i64 11, .int .i64 6, .int .i64 6, .int .i64 0, .int .i64 11, .int .i64 0, .int .i64 1, .int .i64 0] 3)).alloc (.cells #[.int .i64 11, .int .i64 6, .int .i64 0, .int .i64 10, .int .i64 0, .int .i64 10, .int .i64 1, .int .i64 10] 3)).alloc (.cells #[.int .i64 11, .int .i64 6, .int .i64 0, .int .i64 12, .int .i64 12, .int .i64 12, .int .i64 1, .int .i64 12] 3)).alloc (.cells #[.int .i64 11, .int .i64 6, .int .i64 6, .int .i64 14, .int .i64 0, .int .i64 1, .int .i64 1, .int .i64 0] 3)).alloc (.cells #[.int .i64 11, .int .i64 6, .int .i64 0, .int .i64 0, .int .i64 0, .int .i64 0, .int .i64 1, .int .i64 0] 3) = W := ⟨_, rfl⟩
  have hW6' : tabsW w5 = W6 := hW6
  rw [hW6'] at HTB
  rw [hW6]
  clear hW6 hW6'
  have HB6 := hide (below_up HT5.out.below HTB.out.1 HT5.out.below.size)
  have HT6 := hide (HT5.out.stay HTB.out.1)
  obtain ⟨u0, u1, u2, u3, u4, u5, u6⟩ := HTB.out.2.2 k hk
  have hki : (k : Int) < 8 := by omega
  have hll := lpE_len k hk
  have hrd := read_any (b + 1) erS erS_wf (lpE k) W6 HT6.out.hs (HM.out.below HB6.out) (by omega)
  unfold ReadPost at hrd
  rw [er_rd k hk] at hrd
  have HRD := hide hrd
  clear hrd
  go_wp2_with fail
  refine HRD.out.mono ?_
  rintro e w7 ⟨⟨v7, rfl, _⟩, hb7⟩
  have HB7 := hide hb7
  have HB70 := hide (below_up HB6.out hb7 HB6.out.size)
  have HT7 := hide (HT6.out.stay hb7)
  have hli := list_any (b + 1) erS erS_wf (lpE k) w7 HT7.out.hs (HM.out.below HB70.out) (by omega)
  unfold ListPost at hli
  rw [er_li k hk] at hli
  have HLI := hide hli
  clear hli hb7
  go_wp2_with fail
  refine HLI.out.mono ?_
  rintro e w8 ⟨⟨v8, rfl, _⟩, hb8⟩
  have HB8 := hide (below_up HB7.out hb8 HB7.out.size)
  have HT8 := hide (HT7.out.stay hb8)
  clear hb8
  have HCC := hide (copy_cv HT8.out)
  have hs8 := HB8.out.size
  go_wp2_with fail
  refine (HCC.out w8 (Below.refl _ _)).mono ?_
  rintro e w9 ⟨g1, rfl, hv1, hb9⟩
  have HB9 := hide hb9
  clear hb9
  go_wp2_with fail
  refine (HCC.out w9 HB9.out).mono ?_
  rintro e w10 ⟨g2, rfl, hv2, hb10⟩
  have HB10 := hide (below_up HB9.out hb10 HB9.out.size)
  have HV1 := hide (hv1.below hb10)
  clear hb10 hv1
  go_wp2_with fail
  refine (HCC.out w10 HB10.out).mono ?_
  rintro e w11 ⟨g3, rfl, hv3, hb11⟩
  have HB11 := hide (below_up HB10.out hb11 HB10.out.size)
  have HV1' := hide (HV1.out.below hb11)
  have HV2 := hide (hv2.below hb11)
  clear hb11 hv2 HV1
  go_wp2_with fail
  refine (HCC.out w11 HB11.out).mono ?_
  rintro e w12 ⟨g4, rfl, hv4, hb12⟩
  have HB12 := hide (below_up HB8.out (below_up HB11.out hb12 HB11.out.size) HB8.out.size)
  have V1 := hide (HV1'.out.below hb12)
  have V2 := hide (HV2.out.below hb12)
  have V3 := hide (hv3.below hb12)
  have V4 := hide hv4
  have hbw := below_up HB6.out HB12.out HB6.out.size
  have HBW := hide hbw
  have hs68 := HB8.out.size
  have hs612 := HB12.out.size
  have hsd := HTB.out.2.1
  clear HV1' HV2 hb12 hv3 hv4 HB9 HB10 HB11 hbw
  have lt1 := World.block_lt_of_cell? _ _ u1
  have lt2 := World.block_lt_of_cell? _ _ u2
  have lt3 := World.block_lt_of_cell? _ _ u3
  have lt4 := World.block_lt_of_cell? _ _ u4
  have lt5 := World.block_lt_of_cell? _ _ u5
  have lt6 := World.block_lt_of_cell? _ _ u6
  dsimp only at lt1 lt2 lt3 lt4 lt5 lt6
  have t1 := (HB12.out.cell (p := ⟨w5.heap.size + 1, k, none⟩) lt1).trans u1
  have t2 := (HB12.out.cell (p := ⟨w5.heap.size + 1 + 1, k, none⟩) lt2).trans u2
  have t3 := (HB12.out.cell (p := ⟨w5.heap.size + 1 + 1 + 1, k, none⟩) lt3).trans u3
  have t4 := (HB12.out.cell (p := ⟨w5.heap.size + 1 + 1 + 1 + 1, k, none⟩) lt4).trans u4
  have t5 := (HB12.out.cell (p := ⟨w5.heap.size + 1 + 1 + 1 + 1 + 1, k, none⟩) lt5).trans u5
  have t6 := (HB12.out.cell (p := ⟨w5.heap.size + 1 + 1 + 1 + 1 + 1 + 1, k, none⟩) lt6).trans u6
  have hle := hide (show w.heap.size ≤ w8.heap.size from Nat.le_trans HB6.out.size hs68)
  have HKW := hide (fun (W : World) (hi : Nat) (hk : Kp w12 W (fun q => w8.heap.size ≤ q ∧ q < hi)) => hk.below HBW.out (Nat.le_refl _) (fun q h => Nat.le_trans hle.out h.1))
  have HX1 := hide (fun (W : World) (hk1 : Kp w12 W (fun q => w8.heap.size ≤ q ∧ q < w8.heap.size)) => show Calls Tryd.prog 11 #[.pointer (some ⟨g1, 0, none⟩), .string (bs (lpE k)), .slice none 0 0, .bool false] W fun e w' => e = .returned (.int .i64 (wrE k)) ∧ Kp w12 w' (fun q => w8.heap.size ≤ q ∧ q < w9.heap.size) from by
    have := V1.out.call hk1 (fun T N hv ok => write_any g1 erS (lpE k) [] false none 0 T N W hv ok erS_wf (HM.out.below (HKW.out W _ hk1)) (by omega) (by rw [erS_by]; omega) (by simp) (by rw [erS_ck]; omega) (RG.nil _ _))
    rw [er_wr k hk] at this
    exact this)
  have HX2 := hide (fun (W : World) (hk1 : Kp w12 W (fun q => w8.heap.size ≤ q ∧ q < w9.heap.size)) => show Calls Tryd.prog 15 #[.pointer (some ⟨g2, 0, none⟩), .string (bs (lpE k))] W fun e w' => e = .returned (.int .i64 (mkE k)) ∧ Kp w12 w' (fun q => w8.heap.size ≤ q ∧ q < w10.heap.size) from by
    have := V2.out.call hk1 (fun T N hv ok => mkdir_any g2 erS (lpE k) T N W hv ok erS_wf (HM.out.below (HKW.out W _ hk1)) (by omega) (by rw [erS_ck]; omega))
    rw [er_mk k hk] at this
    exact this)
  have HX3 := hide (fun (W : World) (hk1 : Kp w12 W (fun q => w8.heap.size ≤ q ∧ q < w10.heap.size)) => show Calls Tryd.prog 23 #[.pointer (some ⟨g3, 0, none⟩), .string (bs (lpE k))] W fun e w' => e = .returned (.int .i64 (rmE k)) ∧ Kp w12 w' (fun q => w8.heap.size ≤ q ∧ q < w11.heap.size) from by
    have := V3.out.call hk1 (fun T N hv ok => remove_any g3 erS (lpE k) T N W hv ok erS_wf (HM.out.below (HKW.out W _ hk1)) (by omega) (by rw [erS_ck]; omega))
    rw [er_rm k hk] at this
    exact this)
  have HX4 := hide (fun (W : World) (hk1 : Kp w12 W (fun q => w8.heap.size ≤ q ∧ q < w11.heap.size)) => show Calls Tryd.prog 17 #[.pointer (some ⟨g4, 0, none⟩), .string (bs (lpE k))] W fun e w' => e = .returned (.int .i64 (toE k)) ∧ Kp w12 w' (fun q => w8.heap.size ≤ q ∧ q < w12.heap.size) from by
    have := V4.out.call hk1 (fun T N hv ok => touch_any g4 erS (lpE k) T N W hv ok erS_wf (HM.out.below (HKW.out W _ hk1)) (by omega) (by rw [erS_by]; omega) (by rw [erS_ck]; omega))
    rw [er_to k hk] at this
    exact this)
  have HTC := hide (fun (W : World) (hi : Nat) (hk1 : Kp w12 W (fun q => w8.heap.size ≤ q ∧ q < hi)) (j : Nat) (v : Value) (hj : j < w8.heap.size) (hc : w12.cell? ⟨j, k, none⟩ = some v) => hk1.cell hc (fun h => Nat.lt_irrefl _ (Nat.lt_of_lt_of_le hj h.1)))
  obtain ⟨r1, hr1⟩ : ∃ r, rdE k = r := ⟨_, rfl⟩
  obtain ⟨r2, hr2⟩ : ∃ r, liE k = r := ⟨_, rfl⟩
  obtain ⟨r3, hr3⟩ : ∃ r, wrE k = r := ⟨_, rfl⟩
  obtain ⟨r4, hr4⟩ : ∃ r, mkE k = r := ⟨_, rfl⟩
  obtain ⟨r5, hr5⟩ : ∃ r, rmE k = r := ⟨_, rfl⟩
  obtain ⟨r6, hr6⟩ : ∃ r, toE k = r := ⟨_, rfl⟩
  rw [hr1] at t1 ⊢
  rw [hr2] at t2 ⊢
  rw [hr3] at t3 HX1
  rw [hr4] at t4 HX2
  rw [hr5] at t5 HX3
  rw [hr6] at t6 HX4
  have L1 := hide (show w5.heap.size + 1 < w8.heap.size by omega)
  have L2 := hide (show w5.heap.size + 1 + 1 < w8.heap.size by omega)
  have L3 := hide (show w5.heap.size + 1 + 1 + 1 < w8.heap.size by omega)
  have L4 := hide (show w5.heap.size + 1 + 1 + 1 + 1 < w8.heap.size by omega)
  have L5 := hide (show w5.heap.size + 1 + 1 + 1 + 1 + 1 < w8.heap.size by omega)
  have L6 := hide (show w5.heap.size + 1 + 1 + 1 + 1 + 1 + 1 < w8.heap.size by omega)
  have T12 := hide (And.intro t1 (And.intro t2 (And.intro t3 (And.intro t4 (And.intro t5 t6)))))
  clear hr1 hr2 hr3 hr4 hr5 hr6 u0 u1 u2 u3 u4 u5 u6 lt1 lt2 lt3 lt4 lt5 lt6 hsd hs68 hs612 HTB HCC V1 V2 V3 V4 HRD HLI HT6 HT7 HT8 HB6 HB7 HB70 HB8 HB12 hll
  go_wp2_with fail
  go_region_held3 (fun w' => w'.cell? ⟨w5.heap.size + 1, k, none⟩ = some (.int .i64 r1) ∧ w'.cell? ⟨w5.heap.size + 1 + 1, k, none⟩ = some (.int .i64 r2) ∧ w'.cell? ⟨w5.heap.size + 1 + 1 + 1, k, none⟩ = some (.int .i64 r3) ∧ w'.cell? ⟨w5.heap.size + 1 + 1 + 1 + 1, k, none⟩ = some (.int .i64 r4) ∧ w'.cell? ⟨w5.heap.size + 1 + 1 + 1 + 1 + 1, k, none⟩ = some (.int .i64 r5) ∧ w'.cell? ⟨w5.heap.size + 1 + 1 + 1 + 1 + 1 + 1, k, none⟩ = some (.int .i64 r6))
    (first | exact ⟨t1, t2, t3, t4, t5, t6⟩ | exact ⟨x1, x2, x3, x4, x5, x6⟩)
    (first
      | ((go_at_call 20; refine (num4_any _ _).mono ?_; rintro e w' ⟨rfl, rfl⟩))
      | ((go_at_call 11; refine (HX1.out _ ?_).mono ?_; exact Kp.of_below (Below.refl _ _).drew _; rintro e w' ⟨rfl, hk1⟩; have x1 := HTC.out _ _ hk1 _ _ L1.out T12.out.1; have x2 := HTC.out _ _ hk1 _ _ L2.out T12.out.2.1; have x3 := HTC.out _ _ hk1 _ _ L3.out T12.out.2.2.1; have x4 := HTC.out _ _ hk1 _ _ L4.out T12.out.2.2.2.1; have x5 := HTC.out _ _ hk1 _ _ L5.out T12.out.2.2.2.2.1; have x6 := HTC.out _ _ hk1 _ _ L6.out T12.out.2.2.2.2.2; have HK1 := hide hk1; clear hk1))
      | ((go_at_call 15; refine (HX2.out _ HK1.out).mono ?_; rintro e w' ⟨rfl, hk1⟩; clear x1 x2 x3 x4 x5 x6; have x1 := HTC.out _ _ hk1 _ _ L1.out T12.out.1; have x2 := HTC.out _ _ hk1 _ _ L2.out T12.out.2.1; have x3 := HTC.out _ _ hk1 _ _ L3.out T12.out.2.2.1; have x4 := HTC.out _ _ hk1 _ _ L4.out T12.out.2.2.2.1; have x5 := HTC.out _ _ hk1 _ _ L5.out T12.out.2.2.2.2.1; have x6 := HTC.out _ _ hk1 _ _ L6.out T12.out.2.2.2.2.2; have HK2 := hide hk1; clear hk1))
      | ((go_at_call 23; refine (HX3.out _ HK2.out).mono ?_; rintro e w' ⟨rfl, hk1⟩; clear x1 x2 x3 x4 x5 x6; have x1 := HTC.out _ _ hk1 _ _ L1.out T12.out.1; have x2 := HTC.out _ _ hk1 _ _ L2.out T12.out.2.1; have x3 := HTC.out _ _ hk1 _ _ L3.out T12.out.2.2.1; have x4 := HTC.out _ _ hk1 _ _ L4.out T12.out.2.2.2.1; have x5 := HTC.out _ _ hk1 _ _ L5.out T12.out.2.2.2.2.1; have x6 := HTC.out _ _ hk1 _ _ L6.out T12.out.2.2.2.2.2; have HK3 := hide hk1; clear hk1))
      | ((go_at_call 17; refine (HX4.out _ HK3.out).mono ?_; rintro e w' ⟨rfl, hk1⟩; clear x1 x2 x3 x4 x5 x6; have x1 := HTC.out _ _ hk1 _ _ L1.out T12.out.1; have x2 := HTC.out _ _ hk1 _ _ L2.out T12.out.2.1; have x3 := HTC.out _ _ hk1 _ _ L3.out T12.out.2.2.1; have x4 := HTC.out _ _ hk1 _ _ L4.out T12.out.2.2.2.1; have x5 := HTC.out _ _ hk1 _ _ L5.out T12.out.2.2.2.2.1; have x6 := HTC.out _ _ hk1 _ _ L6.out T12.out.2.2.2.2.2; have HK4 := hide hk1; clear hk1)))
  rename_i hHeld
  clear hHeld t1 t2 t3 t4 t5 t6 x1 x2 x3 x4 x5 x6
  go_wp2
  go_ret
  exact ⟨by simp, HKW.out _ _ HK4.out⟩
end Go.Proofs.YtmblmenafplccaaDoor
