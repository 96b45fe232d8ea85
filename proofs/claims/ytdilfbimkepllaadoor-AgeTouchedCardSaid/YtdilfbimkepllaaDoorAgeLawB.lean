/- Walk of the law AgeTouched. -/
import Derived.Test.YtdilfbimkepllaaDoorAgeLawA
import Derived.Test.YtdilfbimkepllaaDoorAgeMath
import Derived.Test.YtdilfbimkepllaaDoorOpenInts
import Derived.Laws.BitsLemmas
import Derived.IntWalk
namespace Go.Proofs.YtdilfbimkepllaaDoor
open Go.RowKit Go.Deep Go.Maps Ln Pth Vf
attribute [local go_sem] bt_eq

theorem and1023 (x : Int) : ∃ z : Nat, z ≤ 1023 ∧ bits .and .i64 x 1023 = (z : Int) := by
  have h1 : (BitVec.ofInt 64 x &&& BitVec.ofInt 64 1023).toNat ≤ 1023 := by
    rw [BitVec.toNat_and]
    have h : (BitVec.ofInt 64 1023).toNat = 1023 := by decide
    rw [h]
    exact Nat.and_le_right
  refine ⟨(BitVec.ofInt 64 x &&& BitVec.ofInt 64 1023).toNat, h1, ?_⟩
  show IntKind.i64.wrap ((BitVec.ofInt 64 x &&& BitVec.ofInt 64 1023).toNat : Int) = _
  exact IntWalk.i64_in _ (by omega)
def pathsA : Array Value := #[.string ⟨#[47, 97]⟩, .string ⟨#[47, 98]⟩, .string ⟨#[47, 99]⟩]
/-- a file system, the paths, and when each was touched last -/
def TI (b : Nat) (w0 : World) (S : St) (ys : Array Value) (wr : World) : Prop := ∃ N, VS (b + 1) S (T0 b) N wr ∧ OkTN (T0 b) N wr ∧ ¬ N (b + 3) ∧ wr.heap[b + 2]? = some (.cells pathsA 9) ∧ wr.heap[b + 3]? = some (.cells ys 3) ∧ Below w0.heap.size w0 wr
theorem TI.touch {b : Nat} {w0 wr : World} {S : St} {ys : Array Value} (h : TI b w0 S ys wr) (h0 : w0.heap.size ≤ b) (hm : MX w0) (hS : WfS S) (hby : S.bytes ≤ 400000) (hck : S.clock ≤ 1000000000) (p : T) (hp : p.length ≤ 50000) :
    Calls Tryd.prog 14 #[.pointer (some ⟨b + 1, 0, none⟩), .string (bs p)] wr fun e w' => e = .returned (.int .i64 (touchS S p).2) ∧ TI b w0 (touchS S p).1 ys w' := by
  obtain ⟨N, hv, ok, hn, h2, h3, hb⟩ := h
  refine (touch_any (b + 1) S p (T0 b) N wr hv ok hS (hm.below hb) hp hby hck).mono ?_
  rintro e w' ⟨rfl, N', hv', hg, hk⟩
  have l2 := (Array.getElem?_eq_some_iff.1 h2).1
  have l3 := (Array.getElem?_eq_some_iff.1 h3).1
  refine ⟨rfl, N', hv', hg.2.2.2, fun h => ?_, (hk.block _ l2 (fun h => by unfold T0 at h; omega)).trans h2, (hk.block _ l3 (fun h => by unfold T0 at h; omega)).trans h3, hk.below hb (Nat.le_refl _) (fun k h => by unfold T0 at h; omega)⟩
  rcases hg.2.2.1 _ h with h | h
  · exact hn h
  · omega
theorem TI.store {b : Nat} {w0 wr : World} {S : St} {ys : Array Value} (h : TI b w0 S ys wr) (h0 : w0.heap.size ≤ b) (j : Nat) (v : Value) : TI b w0 S (ys.setIfInBounds j v) (wr.setCell ⟨b + 3, j, none⟩ v) := by
  obtain ⟨N, hv, ok, hn, h2, h3, hb⟩ := h
  have hk := kpSet wr (b + 3) j v
  have l2 := (Array.getElem?_eq_some_iff.1 h2).1
  refine ⟨N, VS.fr _ _ _ N N wr _ hv (fun k hk' => hk.block k (hk'.elim (fun h => (ok.1 k h).1) (ok.2 k)) (fun e => by
    subst e
    rcases hk' with h | h
    · unfold T0 at h; omega
    · exact hn h)) (fun _ h => h) hk.size, (GrowN.refl ok hk.size).2.2.2, hn, (hk.block _ l2 (by omega)).trans h2, heapSet h3 _, hk.below hb (Nat.le_refl _) (fun k e => by subst e; omega)⟩
set_option maxRecDepth 100000 in
set_option maxHeartbeats 8000000 in
theorem law_ageTouched (A : Option Addr) (c : Nat) (L : List Int) (hl : L.length ≤ maxLen) (hv : ∀ (k : Nat) (x : Int), L[k]? = some x → -9223372036854775808 ≤ x ∧ x ≤ 9223372036854775807) (w : World) (hm : MX w) (hA : IR w A L) :
    Calls Tryd.prog 4 #[.slice A L.length c] w fun e w' => e = .returned (.bool true) ∧ Below w.heap.size w w' := by
  unfold maxLen at hl
  have HA := hide hA
  have HV := hide hv
  have HM := hide hm
  clear hA hv hm
  obtain ⟨n, hn⟩ : ∃ n, L.length = n := ⟨_, rfl⟩
  rw [hn] at hl ⊢
  have HN := hide hn
  clear hn
  have hl1 : (n : Int) ≤ 9223372036854775807 := by omega
  go_enter Tryd.func4, Tryd.ntmps4
  go_wp2_with fail
  refine (alive23_any w HM.out).mono ?_
  rintro e w1 ⟨rfl, hb1⟩
  have HB1 := hide hb1
  clear hb1
  by_cases c1 : 30 < n
  · have d1 : (30 : Int) < (n : Int) := by omega
    go_wp2
    go_ret
    exact ⟨rfl, HB1.out⟩
  have d1 : (n : Int) ≤ 30 := by omega
  have HNW := hide (vnew_any 10 10 w1 (by omega) (by omega) (by omega) (by omega))
  go_wp2_with fail
  refine HNW.out.mono ?_
  rintro e w2 ⟨rfl, hb2, hv2, hs2⟩
  have HB2 := hide (below_up HB1.out hb2 HB1.out.size)
  rw [mkT_new] at hv2
  rw [show (fun k => w1.heap.size ≤ k ∧ k < w2.heap.size) = T0 w1.heap.size by funext k; unfold T0; rw [hs2]] at hv2
  have ok2 : OkTN (T0 w1.heap.size) (fun _ => False) w2 := ⟨fun k hk => ⟨by unfold T0 at hk; omega, fun h => h⟩, fun k h => h.elim⟩
  have hbb1 := (Below.refl w2.heap.size w2).alloc (Nat.le_refl _) (.cells pathsA 9)
  have hbb2 := hbb1.alloc (by simp) (.cells #[.int .i64 0, .int .i64 0, .int .i64 0] 3)
  have hti : TI w1.heap.size w (mkT 0 0 0 0) #[.int .i64 0, .int .i64 0, .int .i64 0] ((w2.alloc (.cells pathsA 9)).alloc (.cells #[.int .i64 0, .int .i64 0, .int .i64 0] 3)) := by
    refine ⟨_, (hv2.stay ok2 hbb2).1, (hv2.stay ok2 hbb2).2, fun h => h, ?_, ?_, below_up HB2.out hbb2 HB2.out.size⟩
    · rw [Below.heap_alloc _ _ _ (by simp; omega), show w1.heap.size + 2 = w2.heap.size by omega]
      exact heapNew _ _
    · have := heapNew (w2.alloc (.cells pathsA 9)) (.cells #[.int .i64 0, .int .i64 0, .int .i64 0] 3)
      rw [show w1.heap.size + 3 = w2.heap.size + 1 by omega]
      simpa using this
  have HTI := hide hti
  have HS2 := hide hs2
  have hb0 : w.heap.size ≤ w1.heap.size := HB1.out.size
  clear hb2 hv2 hti hbb1 hbb2 ok2
  obtain ⟨b, hb⟩ : ∃ b, w1.heap.size = b := ⟨_, rfl⟩
  rw [hb] at HTI hs2 hb0 ⊢
  have HBB := hide hb
  clear hb
  go_wp2
  obtain ⟨W, hW⟩ : ∃ W, ((w2.alloc (.cells pathsA 9)).alloc (.cells #[.int .i64 0, .int .i64 0, .int .i64 0] 3)) = W := ⟨_, rfl⟩
  rw [hW] at HTI
  unfold pathsA at hW
  rw [hW]
  clear hs2 hW HS2
  go_loopw [7, 8] (fun v7 _ wr => ∃ i x0 x1 x2 : Nat, v7 = .int .i64 i ∧ i ≤ n ∧ TI b w (mkT x0 x1 x2 i) #[.int .i64 x0, .int .i64 x1, .int .i64 x2] wr) (fun v7 _ _ => n - (intOf v7).toNat)
  case atStart => exact ⟨0, 0, 0, 0, rfl, by omega, HTI.out⟩
  case round =>
    obtain ⟨i, x0, x1, x2, rfl, hi, ht⟩ := hrel
    have HT := hide ht
    obtain ⟨N, _, _, _, hp2, hy2, hbw⟩ := ht
    have HBW := hide hbw
    by_cases hlt : i < n
    · obtain ⟨x, hx⟩ : ∃ x, L[i]? = some x := ⟨L[i]'(by have := HN.out; omega), List.getElem?_eq_getElem _⟩
      obtain ⟨gs, o, rfl, hg, hc⟩ := (HA.out.below hbw) i x hx
      obtain ⟨hx1, hx2⟩ := HV.out i x hx
      have b1 : (i : Int) < (n : Int) := by omega
      have hpa : pathsA = #[.string ⟨#[47, 97]⟩, .string ⟨#[47, 98]⟩, .string ⟨#[47, 99]⟩] := rfl
      have hq0 := cellOf hp2 (j := 0) rfl
      have hq1 := cellOf hp2 (j := 1) rfl
      have hq2 := cellOf hp2 (j := 2) rfl
      have hlb := (Array.getElem?_eq_some_iff.1 hy2).1
      clear hx hbw hp2 hy2 hpa
      obtain ⟨z, hz1, hz2⟩ := and1023 x
      have HTC := hide (fun (p : T) (hp : p.length ≤ 50000) => HT.out.touch hb0 HM.out (mkT_wf _ _ _ _) (by show (10 : Nat) ≤ _; omega) (by show i ≤ _; omega) p hp)
      have h3 : z % 3 = 0 ∨ z % 3 = 1 ∨ z % 3 = 2 := by omega
      rcases h3 with h3 | h3 | h3
      · have hz3 : (z : Int).tmod 3 = 0 := by rw [Int.tmod_eq_emod_of_nonneg (by omega)]; omega
        have hz4 : (z : Int) % 3 = 0 := by omega
        have HTU := HTC.out [47, 97] (by decide)
        rw [touch0] at HTU
        have HTV := hide HTU
        clear HTU h3 hz1
        go_wp2_with fail
        refine HTV.out.mono ?_
        rintro e w3 ⟨rfl, ht3⟩
        have HT3 := hide ht3
        obtain ⟨_, _, _, _, _, hy3, _⟩ := ht3
        have hy30 := cellOf hy3 (j := 0) rfl
        have hyf0 := freeOf hy3 0
        clear hy3
        go_wp2
        go_roundw
        case rel => exact ⟨i + 1, i + 1, x1, x2, by go_num, by omega, HT3.out.store hb0 0 (.int .i64 ((i + 1 : Nat) : Int))⟩
        case measure => simp [intOf]; omega
      · have hz3 : (z : Int).tmod 3 = 1 := by rw [Int.tmod_eq_emod_of_nonneg (by omega)]; omega
        have hz4 : (z : Int) % 3 = 1 := by omega
        have HTU := HTC.out [47, 98] (by decide)
        rw [touch1] at HTU
        have HTV := hide HTU
        clear HTU h3 hz1
        go_wp2_with fail
        refine HTV.out.mono ?_
        rintro e w3 ⟨rfl, ht3⟩
        have HT3 := hide ht3
        obtain ⟨_, _, _, _, _, hy3, _⟩ := ht3
        have hy30 := cellOf hy3 (j := 1) rfl
        have hyf0 := freeOf hy3 1
        clear hy3
        go_wp2
        go_roundw
        case rel => exact ⟨i + 1, x0, i + 1, x2, by go_num, by omega, HT3.out.store hb0 1 (.int .i64 ((i + 1 : Nat) : Int))⟩
        case measure => simp [intOf]; omega
      · have hz3 : (z : Int).tmod 3 = 2 := by rw [Int.tmod_eq_emod_of_nonneg (by omega)]; omega
        have hz4 : (z : Int) % 3 = 2 := by omega
        have HTU := HTC.out [47, 99] (by decide)
        rw [touch2] at HTU
        have HTV := hide HTU
        clear HTU h3 hz1
        go_wp2_with fail
        refine HTV.out.mono ?_
        rintro e w3 ⟨rfl, ht3⟩
        have HT3 := hide ht3
        obtain ⟨_, _, _, _, _, hy3, _⟩ := ht3
        have hy30 := cellOf hy3 (j := 2) rfl
        have hyf0 := freeOf hy3 2
        clear hy3
        go_wp2
        go_roundw
        case rel => exact ⟨i + 1, x0, x1, i + 1, by go_num, by omega, HT3.out.store hb0 2 (.int .i64 ((i + 1 : Nat) : Int))⟩
        case measure => simp [intOf]; omega
    · obtain rfl : i = n := by omega
      have hr0 := cellOf hy2 (j := 0) rfl
      have hr1 := cellOf hy2 (j := 1) rfl
      have hr2 := cellOf hy2 (j := 2) rfl
      obtain ⟨N9, hv9, ok9, _, _, _, _⟩ := HT.out
      have HH := hide (hs_of hv9 ok9)
      clear hp2 hy2 hbw hv9 ok9 HT
      have HOLD := hide (fun (X : World) (k : Nat) (hb : Below wr.heap.size wr X) (hsr : SR X (some ⟨k, 0, none⟩) bcL) => old_any (b + 1) (mkT x0 x1 x2 i) [47] (.slice none 0 0) none 0 [] ⟨#[97]⟩ (some ⟨k, 0, none⟩) 2 bcL none 0 [] X (HH.out.below (VS.fr _ _) hb) (HM.out.below (below_up HBW.out hb HBW.out.size)) (by decide) (by decide) hsr (by decide) (fun x hx => by simp [bcL] at hx; rcases hx with rfl | rfl <;> decide) (rls_nil _ _) (by simp) (by decide) (SR.nil _ _) (by simp))
      have HNWR := hide (fun (X : World) (k : Nat) (hb : Below wr.heap.size wr X) (hsr : SR X (some ⟨k, 0, none⟩) bcL) => newer_any (b + 1) (mkT x0 x1 x2 i) [47] ⟨#[97]⟩ (some ⟨k, 0, none⟩) 2 bcL X (HH.out.below (VS.fr _ _) hb) (HM.out.below (below_up HBW.out hb HBW.out.size)) (by decide) (by decide) hsr (by decide) (fun x hx => by simp [bcL] at hx; rcases hx with rfl | rfl <;> decide))
      have HNL := hide (fun h => newer_len x0 x1 x2 i h)
      rw [old_mk] at HOLD
      obtain ⟨NW, hNW⟩ : ∃ l, newerS (mkT x0 x1 x2 i) [47] ⟨#[97]⟩ bcL = l := ⟨_, rfl⟩
      rw [hNW] at HNWR HNL
      have hnwl : NW.length ≤ 2 := by rw [← hNW]; unfold newerS; exact List.length_filter_le _ _
      clear hNW
      have hlb2 : b + 3 < wr.heap.size := World.block_lt_of_cell? _ _ hr0
      have hbA := (Below.refl wr.heap.size wr).alloc (Nat.le_refl _) (.cells #[.string ⟨#[98]⟩, .string ⟨#[99]⟩] 9)
      have HO1 := hide (HOLD.out _ _ hbA.drew (show SR (wr.alloc (.cells #[.string ⟨#[98]⟩, .string ⟨#[99]⟩] 9)).drew (some ⟨wr.heap.size, 0, none⟩) bcL from SR.newL wr bcL 9))
      have HBA := hide (below_up HBW.out hbA.drew HBW.out.size)
      have HBA2 := hide (hbA.drew)
      clear hbA HOLD
      obtain ⟨WA, hWA⟩ : ∃ X, (wr.alloc (.cells #[.string ⟨#[98]⟩, .string ⟨#[99]⟩] 9)).drew = X := ⟨_, rfl⟩
      rw [hWA] at HO1 HBA HBA2
      have HWA := hide hWA
      clear hWA
      by_cases z0 : x0 = 0
      · have e0 : ((x0 : Int) == 0) = true := by simpa using z0
        rw [show (decide (x0 = 0) || (decide (x0 < x1) || decide (x0 < x2))) = true by simp [z0]] at HO1
        clear z0
        go_wp2
        go_region
        go_wp2_with fail
        rw [HWA.out]
        refine HO1.out.mono ?_
        rintro e w5 ⟨rfl, hb5⟩
        have hr05 := (hb5.cell (p := ⟨b + 2 + 1, 0, none⟩) (show b + 3 < _ by have := HBA2.out.size; omega)).trans ((HBA2.out.cell (p := ⟨b + 2 + 1, 0, none⟩) hlb2).trans hr0)
        have HB5 := hide (below_up HBA.out hb5 HBA.out.size)
        clear hb5
        go_wp2
        go_ret
        exact ⟨rfl, HB5.out⟩
      · have e0 : ((x0 : Int) == 0) = false := by simpa using z0
        have hNL := HNL.out z0
        rw [show (decide (x0 = 0) || (decide (x0 < x1) || decide (x0 < x2))) = (decide (x0 < x1) || decide (x0 < x2)) by simp [z0]] at HO1
        clear z0
        obtain ⟨nl, hnl⟩ : ∃ k, NW.length = k := ⟨_, rfl⟩
        rw [hnl] at hNL hnwl
        have HNLL := hide hnl
        clear hnl
        by_cases z1 : x0 < x1
        all_goals by_cases z2 : x0 < x2
        all_goals
          first
            | rw [decide_eq_true z1] at HO1 hNL
            | rw [decide_eq_false z1] at HO1 hNL
          first
            | rw [decide_eq_true z2] at HO1 hNL
            | rw [decide_eq_false z2] at HO1 hNL
          have hq1 : decide (x0 < x1) = decide (x0 < x1) := rfl
          have hq2 : decide (x0 < x2) = decide (x0 < x2) := rfl
          first
            | (conv at hq1 => rhs; rw [decide_eq_true z1])
            | (conv at hq1 => rhs; rw [decide_eq_false z1])
          first
            | (conv at hq2 => rhs; rw [decide_eq_true z2])
            | (conv at hq2 => rhs; rw [decide_eq_false z2])
          simp only [Bool.or_true, Bool.or_false] at HO1 hNL
          have hnn : decide ((0 : Int) < (nl : Int)) = decide (0 < nl) := decide_eq_decide.2 (by omega)
          rw [hNL] at hnn
          clear z1 z2
          go_wp2
          go_region
          go_wp2_with fail
          rw [HWA.out]
          refine HO1.out.mono ?_
          rintro e w5 ⟨rfl, hb5⟩
          have hr05 := (hb5.cell (p := ⟨b + 2 + 1, 0, none⟩) (show b + 3 < _ by have := HBA2.out.size; omega)).trans ((HBA2.out.cell (p := ⟨b + 2 + 1, 0, none⟩) hlb2).trans hr0)
          have HB5 := hide (below_up HBA.out hb5 HBA.out.size)
          have HB52 := hide (below_up HBA2.out hb5 HBA2.out.size)
          have hbC := (Below.refl w5.heap.size w5).alloc (Nat.le_refl _) (.cells #[.string ⟨#[98]⟩, .string ⟨#[99]⟩] 9)
          have HN1 := hide (HNWR.out _ _ (below_up HB52.out hbC HB52.out.size) (SR.newL w5 bcL 9))
          have HBC := hide (below_up HB5.out hbC HB5.out.size)
          clear hb5 hbC
          go_wp2_with fail
          refine HN1.out.mono ?_
          rintro e w6 ⟨⟨v, rfl, ho⟩, hb6⟩
          obtain ⟨A6, c6, rfl, hc6, _, _⟩ := ho.slice
          rw [HNLL.out] at hc6 ⊢
          have HB6 := hide (below_up HBC.out hb6 HBC.out.size)
          clear ho hb6
          go_wp2
          go_ret
          exact ⟨rfl, HB6.out⟩
end Go.Proofs.YtdilfbimkepllaaDoor
