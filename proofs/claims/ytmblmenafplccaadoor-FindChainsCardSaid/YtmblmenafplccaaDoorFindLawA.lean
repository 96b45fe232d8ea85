/- Walk of chapter 21's alive. -/
import Derived.Test.YtmblmenafplccaaDoorFindWalkJ
import Derived.Test.YtmblmenafplccaaDoorVfsTA
namespace Go.Proofs.YtmblmenafplccaaDoor
open Go.RowKit Go.Deep Go.Maps Ln Pth Vf
attribute [local go_sem] bt_eq

theorem sr_one {W : World} {g : Nat} {s : ByteArray} (h : W.heap[g]? = some (.cells #[.string s] 9)) : SR W (some ⟨g, 0, none⟩) [s] := by
  intro k x hk
  cases k with
  | zero =>
    simp at hk
    subst hk
    exact ⟨_, _, rfl, (Array.getElem?_eq_some_iff.1 h).1, cellOf h rfl⟩
  | succ k => simp at hk
theorem rg_rule {W : World} {g : Nat} {r : Rl} (h : W.heap[g]? = some (.cells #[sv r.tg, sv r.nd, sv r.rc] 33)) : RG encRl 3 W (some ⟨g, 0, none⟩) [r] := by
  intro k x hk
  cases k with
  | zero =>
    simp at hk
    subst hk
    refine ⟨_, _, rfl, (Array.getElem?_eq_some_iff.1 h).1, fun j u hu => ?_⟩
    match j, hu with
    | 0, hu => rw [show u = _ from (Option.some.inj hu).symm]; exact cellOf h rfl
    | 1, hu => rw [show u = _ from (Option.some.inj hu).symm]; exact cellOf h rfl
    | 2, hu => rw [show u = _ from (Option.some.inj hu).symm]; exact cellOf h rfl
    | j + 3, hu => simp [encRl] at hu
  | succ k => simp at hk
def alM (w : World) : List Rl := [⟨(some ⟨w.heap.size, 0, none⟩, 1, [⟨#[37, 46, 111]⟩]), (some ⟨w.heap.size + 1, 0, none⟩, 1, [⟨#[37, 46, 99]⟩]), (some ⟨w.heap.size + 1 + 1, 0, none⟩, 1, [⟨#[120]⟩])⟩]
def alW (w : World) : World := ((((w.alloc (.cells #[.string ⟨#[37, 46, 111]⟩] 9)).alloc (.cells #[.string ⟨#[37, 46, 99]⟩] 9)).alloc (.cells #[.string ⟨#[120]⟩] 9)).alloc (.cells #[.slice (some ⟨w.heap.size, 0, none⟩) 1 1, .slice (some ⟨w.heap.size + 1, 0, none⟩) 1 1, .slice (some ⟨w.heap.size + 1 + 1, 0, none⟩) 1 1] 33)).alloc (.cells #[.slice none 0 0, .slice (some ⟨w.heap.size + 1 + 1 + 1, 0, none⟩) 1 1] 27)
theorem alW_ok (w : World) : Below w.heap.size w (alW w) ∧ (alW w).heap[w.heap.size + 1 + 1 + 1 + 1]? = some (.cells #[.slice none 0 0, .slice (some ⟨w.heap.size + 1 + 1 + 1, 0, none⟩) 1 1] 27) ∧
    RLS (alW w) (some ⟨w.heap.size + 1 + 1 + 1, 0, none⟩) (alM w) := by
  have h0 : (alW w).heap[w.heap.size]? = some (.cells #[.string ⟨#[37, 46, 111]⟩] 9) := by
    unfold alW
    rw [Below.heap_alloc _ _ _ (by simp <;> omega), Below.heap_alloc _ _ _ (by simp <;> omega), Below.heap_alloc _ _ _ (by simp <;> omega), Below.heap_alloc _ _ _ (by simp)]
    exact heapNew _ _
  have h1 : (alW w).heap[w.heap.size + 1]? = some (.cells #[.string ⟨#[37, 46, 99]⟩] 9) := by
    unfold alW
    rw [Below.heap_alloc _ _ _ (by simp <;> omega), Below.heap_alloc _ _ _ (by simp <;> omega), Below.heap_alloc _ _ _ (by simp)]
    have := heapNew (w.alloc (.cells #[.string ⟨#[37, 46, 111]⟩] 9)) (.cells #[.string ⟨#[37, 46, 99]⟩] 9)
    simpa using this
  have h2 : (alW w).heap[w.heap.size + 1 + 1]? = some (.cells #[.string ⟨#[120]⟩] 9) := by
    unfold alW
    rw [Below.heap_alloc _ _ _ (by simp <;> omega), Below.heap_alloc _ _ _ (by simp)]
    have := heapNew ((w.alloc (.cells #[.string ⟨#[37, 46, 111]⟩] 9)).alloc (.cells #[.string ⟨#[37, 46, 99]⟩] 9)) (.cells #[.string ⟨#[120]⟩] 9)
    simpa using this
  have h3 : (alW w).heap[w.heap.size + 1 + 1 + 1]? = some (.cells #[.slice (some ⟨w.heap.size, 0, none⟩) 1 1, .slice (some ⟨w.heap.size + 1, 0, none⟩) 1 1, .slice (some ⟨w.heap.size + 1 + 1, 0, none⟩) 1 1] 33) := by
    unfold alW
    rw [Below.heap_alloc _ _ _ (by simp)]
    have := heapNew (((w.alloc (.cells #[.string ⟨#[37, 46, 111]⟩] 9)).alloc (.cells #[.string ⟨#[37, 46, 99]⟩] 9)).alloc (.cells #[.string ⟨#[120]⟩] 9)) (.cells #[.slice (some ⟨w.heap.size, 0, none⟩) 1 1, .slice (some ⟨w.heap.size + 1, 0, none⟩) 1 1, .slice (some ⟨w.heap.size + 1 + 1, 0, none⟩) 1 1] 33)
    simpa using this
  have h4 : (alW w).heap[w.heap.size + 1 + 1 + 1 + 1]? = some (.cells #[.slice none 0 0, .slice (some ⟨w.heap.size + 1 + 1 + 1, 0, none⟩) 1 1] 27) := by
    have := heapNew ((((w.alloc (.cells #[.string ⟨#[37, 46, 111]⟩] 9)).alloc (.cells #[.string ⟨#[37, 46, 99]⟩] 9)).alloc (.cells #[.string ⟨#[120]⟩] 9)).alloc (.cells #[.slice (some ⟨w.heap.size, 0, none⟩) 1 1, .slice (some ⟨w.heap.size + 1, 0, none⟩) 1 1, .slice (some ⟨w.heap.size + 1 + 1, 0, none⟩) 1 1] 33)) (.cells #[.slice none 0 0, .slice (some ⟨w.heap.size + 1 + 1 + 1, 0, none⟩) 1 1] 27)
    unfold alW
    simpa using this
  refine ⟨((((((Below.refl _ _).alloc (Nat.le_refl _) _).alloc (by simp) _).alloc (by simp <;> omega) _).alloc (by simp <;> omega) _).alloc (by simp <;> omega) _), h4, rg_rule h3, ?_⟩
  intro r hr
  unfold alM at hr
  obtain rfl := List.mem_singleton.1 hr
  exact ⟨sr_one h0, sr_one h1, sr_one h2, by simp, by simp, by simp⟩
theorem al_e1 : (writeS (newS 3 10) [47, 97, 46, 99] [] false).2 = 0 := by kernel_rfl
theorem al_plan (w : World) : planF (writeS (newS 3 10) [47, 97, 46, 99] [] false).1 [47] (alM w) [97, 46, 111] = ⟨[⟨#[97, 46, 99]⟩], [⟨#[120]⟩], [97], true⟩ := by kernel_rfl
theorem al_sz (w : World) : ((∀ r ∈ alM w, ∀ x ∈ r.tg.2.2, x.size ≤ 10000) ∧ (∀ r ∈ alM w, plainR r.tg.2.2 = false → ∀ x ∈ r.nd.2.2, x.size ≤ 10000) ∧ ∀ s ∈ specialR (alM w) suffixes, s.size ≤ 10000) ∧ (knownsF (alM w)).length ≤ 100000 ∧ (specialR (alM w) suffixes).length ≤ 100000 ∧ (specialR (alM w) (bs [97, 46, 111])).length ≤ 100000 := by
  refine ⟨⟨fun r hr => ?_, fun r hr _ => ?_, fun s hs => ?_⟩, of_decide_eq_true (by kernel_rfl), of_decide_eq_true (by kernel_rfl), of_decide_eq_true (by kernel_rfl)⟩
  · unfold alM at hr
    obtain rfl := List.mem_singleton.1 hr
    exact fun x hx => by simp at hx; subst hx; decide
  · unfold alM at hr
    obtain rfl := List.mem_singleton.1 hr
    exact fun x hx => by simp at hx; subst hx; decide
  · have : specialR (alM w) suffixes = [] := by kernel_rfl
    rw [this] at hs
    cases hs
set_option maxRecDepth 100000 in
set_option maxHeartbeats 2000000 in
theorem alive21_any (w : World) (hm : MX w) : Calls Tryd.prog 8 #[] w fun e w' => e = .returned (.bool true) ∧ Below w.heap.size w w' := by
  have HM := hide hm
  clear hm
  obtain ⟨hb, hmk, hrl⟩ := alW_ok w
  have HB := hide hb
  have HMK := hide hmk
  have HRL := hide hrl
  have hb0 : w.heap.size ≤ (alW w).heap.size := hb.size
  have HNW := hide (vnew_any 3 10 (alW w) (by omega) (by omega) (by omega) (by omega))
  have hml : w.heap.size + 1 + 1 + 1 + 1 < (alW w).heap.size := (Array.getElem?_eq_some_iff.1 hmk).1
  clear hb hmk hrl
  go_enter Tryd.func8, Tryd.ntmps8
  go_wp2_with fail
  refine HNW.out.mono ?_
  rintro e w2 ⟨rfl, hb2, hv2, hs2⟩
  have HTA := hide (TA.new HB.out 3 10 hb2 hv2 hs2)
  have hmk2 := (hb2.block _ hml).trans HMK.out
  have HB2 := hide hb2
  clear hb2 hv2 hs2
  obtain ⟨b, hbb⟩ : ∃ b, (alW w).heap.size = b := ⟨_, rfl⟩
  rw [hbb] at HTA hb0 hml ⊢
  go_wp2_with fail
  refine (TA.write HTA.out hb0 HM.out (newS_wf 3 10) (by decide) (by decide) [47, 97, 46, 99] (by decide) [] (by decide) false none 0 (RG.nil _ _)).mono ?_
  rintro e w3 ⟨rfl, ht3, hk3⟩
  have HT3 := hide ht3
  have hbz := HTA.out.below.size
  have hmk3 := (hk3.block (w.heap.size + 1 + 1 + 1 + 1) (Array.getElem?_eq_some_iff.1 hmk2).1 (fun h => by unfold T0 at h; omega)).trans hmk2
  have hx0 : w3.cell? ⟨w.heap.size + 1 + 1 + 1 + 1, 0, none⟩ = some (.slice none 0 0) := cellOf hmk3 (j := 0) rfl
  have hx1 : w3.cell? ⟨w.heap.size + 1 + 1 + 1 + 1, 1, none⟩ = some (.slice (some ⟨w.heap.size + 1 + 1 + 1, 0, none⟩) 1 1) := cellOf hmk3 (j := 1) rfl
  have hrl3 : RLS w3 (some ⟨w.heap.size + 1 + 1 + 1, 0, none⟩) (alM w) := HRL.out.below (show Below (alW w).heap.size (alW w) w3 from hk3.below HB2.out (Nat.le_refl _) (fun k h => by unfold T0 at h; omega))
  have hsz := al_sz w
  have HPL := hide (plan_any { mac := .slice none 0 0, A := some ⟨w.heap.size + 1 + 1 + 1, 0, none⟩, c := 1, L := alM w, gf := b + 1, S := (writeS (newS 3 10) [47, 97, 46, 99] [] false).1, cwd := [47], target := [97, 46, 111] } w3 ⟨hrl3, ht3.hs, HM.out.below ht3.below, by simp, by simp, by simp [alM]⟩ ⟨hsz.1.1, hsz.1.2.1, hsz.1.2.2, hsz.2.1, hsz.2.2.1⟩ hsz.2.2.2)
  dsimp only at HPL
  rw [al_plan] at HPL
  unfold PlanPost at HPL
  dsimp only at HPL
  rw [show bs [97] = ⟨#[97]⟩ from rfl] at HPL
  clear ht3 hk3 hmk2 hmk3 hrl3 hsz
  go_wp2_with fail
  refine HPL.out.mono ?_
  rintro e w4 ⟨vn, vr, rfl, ho1, ho2, hb4⟩
  obtain ⟨A6, c6, rfl, _, s6, _⟩ := ho1.slice
  obtain ⟨g6, o6, rfl, _, hc6⟩ := s6 0 _ rfl
  rw [Nat.add_zero] at hc6
  obtain ⟨A7, c7, rfl, _, _, _⟩ := ho2.slice
  have HB4 := hide (below_up HT3.out.below hb4 HT3.out.below.size)
  clear ho1 ho2 s6 hb4
  simp only [List.length_cons, List.length_nil, Nat.zero_add]
  go_wp2
  go_ret
  exact ⟨rfl, HB4.out.alloc HB4.out.size _⟩
end Go.Proofs.YtmblmenafplccaaDoor
