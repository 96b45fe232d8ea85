/- Walk of the law AgePhony. -/
import Derived.Test.YtdilfbimkepllaaDoorAgeLawA
namespace Go.Proofs.YtdilfbimkepllaaDoor
open Go.RowKit Go.Deep Go.Maps Ln Pth Vf
attribute [local go_sem] bt_eq

/-- a file system of the call's own -/
def TA (b : Nat) (w0 : World) (S : St) (wr : World) : Prop := ∃ N, VS (b + 1) S (T0 b) N wr ∧ OkTN (T0 b) N wr ∧ Below w0.heap.size w0 wr
theorem TA.write {b : Nat} {w0 wr : World} {S : St} (h : TA b w0 S wr) (h0 : w0.heap.size ≤ b) (hm : MX w0) (hS : WfS S) (hby : S.bytes ≤ 400000) (hck : S.clock ≤ 1000000000) (p : T) (hp : p.length ≤ 50000) (d : T) (hd : d.length ≤ 400000) (more : Bool) (A : Option Addr) (c : Nat) (hA : RG encB 1 wr A d) :
    Calls Tryd.prog 12 #[.pointer (some ⟨b + 1, 0, none⟩), .string (bs p), .slice A d.length c, .bool more] wr fun e w' => e = .returned (.int .i64 (writeS S p d more).2) ∧ TA b w0 (writeS S p d more).1 w' ∧ Kp wr w' (T0 b) := by
  obtain ⟨N, hv, ok, hb⟩ := h
  refine (write_any (b + 1) S p d more A c (T0 b) N wr hv ok hS (hm.below hb) hp hby hd hck hA).mono ?_
  rintro e w' ⟨rfl, N', hv', hg, hk⟩
  exact ⟨rfl, ⟨N', hv', hg.2.2.2, hk.below hb (Nat.le_refl _) (fun k h => by unfold T0 at h; omega)⟩, hk⟩
theorem TA.new {w0 w1 w2 : World} (h0 : Below w0.heap.size w0 w1) (n m : Int) (hb : Below w1.heap.size w1 w2) (hv : VS (w1.heap.size + 1) (newS n m) (fun k => w1.heap.size ≤ k ∧ k < w2.heap.size) (fun _ => False) w2) (hs : w2.heap.size = w1.heap.size + 2) : TA w1.heap.size w0 (newS n m) w2 := by
  rw [show (fun k => w1.heap.size ≤ k ∧ k < w2.heap.size) = T0 w1.heap.size by funext k; unfold T0; rw [hs]] at hv
  exact ⟨_, hv, ⟨fun k hk => ⟨by unfold T0 at hk; omega, fun h => h⟩, fun k h => h.elim⟩, below_up h0 hb h0.size⟩
theorem TA.hs {b : Nat} {w0 wr : World} {S : St} (h : TA b w0 S wr) : Hs (VS (b + 1) S) wr := by
  obtain ⟨N, hv, ok, _⟩ := h
  exact ⟨_, N, hv, ok⟩
theorem TA.below {b : Nat} {w0 wr : World} {S : St} (h : TA b w0 S wr) : Below w0.heap.size w0 wr := by
  obtain ⟨N, hv, ok, hb⟩ := h
  exact hb
/-- the tree of the law -/
def phS (there : Bool) : St := (writeS (if there = true then (writeS (newS 5 5) [47, 98] [] false).1 else newS 5 5) [47, 97] [] false).1
def phM (phony : Bool) (a1 a2 : Option Addr) : List Rl := if phony = true then [⟨(a1, 1, [⟨#[46, 80, 72, 79, 78, 89]⟩]), (a2, 1, [⟨#[98]⟩]), (none, 0, [])⟩] else []
def phL (made : Bool) : List ByteArray := if made = true then [⟨#[98]⟩] else []
theorem ph_b (phony there : Bool) (a1 a2 : Option Addr) : oldS (phS there) [47] (phM phony a1 a2) ⟨#[98]⟩ [] [] = (phony || !there) := by
  cases phony <;> cases there <;> kernel_rfl
theorem ph_a (phony made there : Bool) (a1 a2 : Option Addr) : oldS (phS there) [47] (phM phony a1 a2) ⟨#[97]⟩ [⟨#[98]⟩] (phL made) = (made && (phony || !there)) := by
  cases phony <;> cases made <;> cases there <;> kernel_rfl
theorem ph_e1 : (writeS (newS 5 5) [47, 98] [] false).2 = 0 := by kernel_rfl
theorem ph_e2 : (writeS (writeS (newS 5 5) [47, 98] [] false).1 [47, 97] [] false).2 = 0 := by kernel_rfl
theorem ph_e3 : (writeS (newS 5 5) [47, 97] [] false).2 = 0 := by kernel_rfl
def phW (w : World) : World := (((w.alloc (.cells #[.slice none 0 0, .slice (some ⟨w.heap.size + 1 + 1 + 1, 0, none⟩) 1 1] 30)).alloc (.cells #[.string ⟨#[46, 80, 72, 79, 78, 89]⟩] 9)).alloc (.cells #[.string ⟨#[98]⟩] 9)).alloc (.cells #[.slice (some ⟨w.heap.size + 1, 0, none⟩) 1 1, .slice (some ⟨w.heap.size + 1 + 1, 0, none⟩) 1 1, .slice none 0 0] 33)
theorem phW_ok (w : World) : Below w.heap.size w (phW w) ∧ (phW w).heap[w.heap.size]? = some (.cells #[.slice none 0 0, .slice (some ⟨w.heap.size + 1 + 1 + 1, 0, none⟩) 1 1] 30) ∧
    RLS (phW w) (some ⟨w.heap.size + 1 + 1 + 1, 0, none⟩) (phM true (some ⟨w.heap.size + 1, 0, none⟩) (some ⟨w.heap.size + 1 + 1, 0, none⟩)) := by
  have h0 : (phW w).heap[w.heap.size]? = some (.cells #[.slice none 0 0, .slice (some ⟨w.heap.size + 1 + 1 + 1, 0, none⟩) 1 1] 30) := by
    unfold phW
    rw [Below.heap_alloc _ _ _ (by simp; omega), Below.heap_alloc _ _ _ (by simp; omega), Below.heap_alloc _ _ _ (by simp)]
    exact heapNew _ _
  have h1 : (phW w).heap[w.heap.size + 1]? = some (.cells #[.string ⟨#[46, 80, 72, 79, 78, 89]⟩] 9) := by
    unfold phW
    rw [Below.heap_alloc _ _ _ (by simp), Below.heap_alloc _ _ _ (by simp)]
    have := heapNew (w.alloc (.cells #[.slice none 0 0, .slice (some ⟨w.heap.size + 1 + 1 + 1, 0, none⟩) 1 1] 30)) (.cells #[.string ⟨#[46, 80, 72, 79, 78, 89]⟩] 9)
    simpa using this
  have h2 : (phW w).heap[w.heap.size + 1 + 1]? = some (.cells #[.string ⟨#[98]⟩] 9) := by
    unfold phW
    rw [Below.heap_alloc _ _ _ (by simp)]
    have := heapNew ((w.alloc (.cells #[.slice none 0 0, .slice (some ⟨w.heap.size + 1 + 1 + 1, 0, none⟩) 1 1] 30)).alloc (.cells #[.string ⟨#[46, 80, 72, 79, 78, 89]⟩] 9)) (.cells #[.string ⟨#[98]⟩] 9)
    simpa using this
  have h3 : (phW w).heap[w.heap.size + 1 + 1 + 1]? = some (.cells #[.slice (some ⟨w.heap.size + 1, 0, none⟩) 1 1, .slice (some ⟨w.heap.size + 1 + 1, 0, none⟩) 1 1, .slice none 0 0] 33) := by
    have := heapNew (((w.alloc (.cells #[.slice none 0 0, .slice (some ⟨w.heap.size + 1 + 1 + 1, 0, none⟩) 1 1] 30)).alloc (.cells #[.string ⟨#[46, 80, 72, 79, 78, 89]⟩] 9)).alloc (.cells #[.string ⟨#[98]⟩] 9)) (.cells #[.slice (some ⟨w.heap.size + 1, 0, none⟩) 1 1, .slice (some ⟨w.heap.size + 1 + 1, 0, none⟩) 1 1, .slice none 0 0] 33)
    unfold phW
    simpa using this
  have one : ∀ (g : Nat) (s : ByteArray), (phW w).heap[g]? = some (.cells #[.string s] 9) → SR (phW w) (some ⟨g, 0, none⟩) [s] := by
    intro g s h k x hk
    cases k with
    | zero =>
      simp at hk
      subst hk
      exact ⟨_, _, rfl, (Array.getElem?_eq_some_iff.1 h).1, cellOf h rfl⟩
    | succ k => simp at hk
  refine ⟨(((((Below.refl _ _).alloc (Nat.le_refl _) _).alloc (by simp) _).alloc (by simp; omega) _).alloc (by simp; omega) _), h0, ?_, ?_⟩
  · intro k r hk
    unfold phM at hk
    rw [if_pos rfl] at hk
    cases k with
    | zero =>
      simp at hk
      subst hk
      refine ⟨_, _, rfl, (Array.getElem?_eq_some_iff.1 h3).1, fun j u hu => ?_⟩
      match j, hu with
      | 0, hu => rw [show u = _ from (Option.some.inj hu).symm]; exact cellOf h3 rfl
      | 1, hu => rw [show u = _ from (Option.some.inj hu).symm]; exact cellOf h3 rfl
      | 2, hu => rw [show u = _ from (Option.some.inj hu).symm]; exact cellOf h3 rfl
      | j + 3, hu => simp [encRl] at hu
    | succ k => simp at hk
  · intro r hr
    unfold phM at hr
    rw [if_pos rfl] at hr
    obtain rfl := List.mem_singleton.1 hr
    exact ⟨one _ _ h1, one _ _ h2, SR.nil _ _, by simp, by simp, by simp⟩
set_option maxRecDepth 100000 in
set_option maxHeartbeats 8000000 in
theorem law_agePhony (phony made there : Bool) (w : World) (hm : MX w) :
    Calls Tryd.prog 3 #[.bool phony, .bool made, .bool there] w fun e w' => e = .returned (.bool true) ∧ Below w.heap.size w w' := by
  have HM := hide hm
  clear hm
  go_enter Tryd.func3, Tryd.ntmps3
  go_wp2_with fail
  refine (alive23_any w HM.out).mono ?_
  rintro e w1 ⟨rfl, hb1⟩
  have HB1 := hide hb1
  clear hb1
  have hb0 : w.heap.size ≤ w1.heap.size := HB1.out.size
  have HNW := hide (vnew_any 5 5 w1 (by omega) (by omega) (by omega) (by omega))
  go_wp2_with fail
  refine HNW.out.mono ?_
  rintro e w2 ⟨rfl, hb2, hv2, hs2⟩
  have HTA := hide (TA.new HB1.out 5 5 hb2 hv2 hs2)
  clear hb2 hv2 hs2
  obtain ⟨b, hb⟩ : ∃ b, w1.heap.size = b := ⟨_, rfl⟩
  rw [hb] at HTA hb0 ⊢
  have HBB := hide hb
  clear hb HNW
  have hth : there = false ∨ there = true := by cases there <;> simp
  rcases hth with hth | hth
  all_goals
    first
      | (obtain rfl : there = false := hth
         go_wp2_with fail
         refine (TA.write HTA.out hb0 HM.out (newS_wf 5 5) (by decide) (by decide) [47, 97] (by decide) [] (by decide) false none 0 (RG.nil _ _)).mono ?_
         rintro e w4 ⟨rfl, ht4, _⟩
         rw [ph_e3]
         have HT4 := hide (show TA b w (phS false) w4 from ht4)
         clear ht4)
      | (obtain rfl : there = true := hth
         go_wp2_with fail
         refine (TA.write HTA.out hb0 HM.out (newS_wf 5 5) (by decide) (by decide) [47, 98] (by decide) [] (by decide) false none 0 (RG.nil _ _)).mono ?_
         rintro e w3 ⟨rfl, ht3, _⟩
         rw [ph_e1]
         have HT3 := hide ht3
         clear ht3
         go_wp2_with fail
         refine (TA.write HT3.out hb0 HM.out (writeS_wf (newS_wf 5 5) _ _ _) (by decide +kernel) (by decide +kernel) [47, 97] (by decide) [] (by decide) false none 0 (RG.nil _ _)).mono ?_
         rintro e w4 ⟨rfl, ht4, _⟩
         rw [ph_e2]
         have HT4 := hide (show TA b w (phS true) w4 from ht4)
         clear ht4)
  all_goals
    have hp : (phony = false ∨ phony = true) := by cases phony <;> simp
    have hq : (made = false ∨ made = true) := by cases made <;> simp
    obtain ⟨W, R, rc, a1, a2, hbW, hcW, hrW, hworld⟩ : ∃ (W : World) (R : Option Addr) (rc : Nat) (a1 a2 : Option Addr), Below w4.heap.size w4 W ∧ W.heap[w4.heap.size]? = some (.cells #[.slice none 0 0, .slice R (phM phony a1 a2).length rc] 30) ∧ RLS W R (phM phony a1 a2) ∧
        ((phony = true ∧ W = phW w4 ∧ R = some ⟨w4.heap.size + 1 + 1 + 1, 0, none⟩ ∧ rc = 1) ∨ (phony = false ∧ W = w4.alloc (.cells #[.slice none 0 0, .slice none 0 0] 30) ∧ R = none ∧ rc = 0)) := by
      rcases hp with rfl | rfl
      · exact ⟨_, none, 0, none, none, (Below.refl _ _).alloc (Nat.le_refl _) _, heapNew _ _, ⟨RG.nil _ _, fun r h => by cases h⟩, .inr ⟨rfl, rfl, rfl, rfl⟩⟩
      · obtain ⟨h1, h2, h3⟩ := phW_ok w4
        exact ⟨_, _, 1, _, _, h1, h2, h3, .inl ⟨rfl, rfl, rfl, rfl⟩⟩
    have HBW := hide hbW
    have HCW := hide hcW
    have HRW := hide hrW
    have HOB := hide (fun X (hb : Below W.heap.size W X) => old_any (b + 1) _ [47] (.slice none 0 0) R rc (phM phony a1 a2) ⟨#[98]⟩ none 0 [] none 0 [] X (HT4.out.hs.below (VS.fr _ _) (below_up hbW hb hbW.size)) (HM.out.below (below_up HT4.out.below (below_up hbW hb hbW.size) HT4.out.below.size)) (by decide) (by decide) (SR.nil _ _) (by simp) (by simp) (hrW.below hb) (by unfold phM; split <;> simp) (by cases phony <;> (unfold phM; simp [specialR]) <;> split <;> simp) (SR.nil _ _) (by simp))
    have HOA := hide (fun X (hb : Below W.heap.size W X) (k : Nat) (hk : SR X (some ⟨k, 0, none⟩) [⟨#[98]⟩]) (lp : Option Addr) (lc : Nat) (hlp : SR X lp (phL made)) => old_any (b + 1) _ [47] (.slice none 0 0) R rc (phM phony a1 a2) ⟨#[97]⟩ (some ⟨k, 0, none⟩) 1 [⟨#[98]⟩] lp lc (phL made) X (HT4.out.hs.below (VS.fr _ _) (below_up hbW hb hbW.size)) (HM.out.below (below_up HT4.out.below (below_up hbW hb hbW.size) HT4.out.below.size)) (by decide) (by decide) hk (by simp) (fun x hx => by rw [List.mem_singleton.1 hx]; decide) (hrW.below hb) (by unfold phM; split <;> simp) (by cases phony <;> (unfold phM; simp [specialR]) <;> split <;> simp) hlp (by unfold phL; split <;> simp))
    rw [ph_b] at HOB
    rw [ph_a] at HOA
    have HTB := hide HT4.out.below
    clear hbW hcW hrW
    rcases hworld with ⟨rfl, rfl, rfl, rfl⟩ | ⟨rfl, rfl, rfl, rfl⟩
  all_goals
    rcases hq with rfl | rfl
  all_goals
    simp only [Bool.true_or, Bool.false_or, Bool.not_true, Bool.not_false, Bool.true_and, Bool.false_and] at HOB HOA
    go_wp2_with fail
    first
      | (refine (HOB.out _ (Below.refl _ _)).mono ?_
         rintro e w5 ⟨rfl, hb5⟩
         have HB5 := hide hb5
         have HLP := hide (fun (X : World) (_ : Below w5.heap.size w5 X) => (show SR X none (phL false) from SR.nil _ _)))
      | (refine (HOB.out _ ((Below.refl _ _).alloc (Nat.le_refl _) _)).mono ?_
         rintro e w5 ⟨rfl, hb5⟩
         have HB5 := hide (((Below.refl _ _).alloc (Nat.le_refl _) (.cells #[.string ⟨#[98]⟩] 9)).trans (hb5.mono (by simp)))
         have HLP := hide (fun (X : World) (hx : Below w5.heap.size w5 X) => (show SR X _ (phL true) from (SR.newL _ [⟨#[98]⟩] 9).below (below_up hb5 hx hb5.size))))
    have hmc := (HB5.out.block w4.heap.size (Array.getElem?_eq_some_iff.1 HCW.out).1).trans HCW.out
    have hm0 := cellOf hmc (j := 0) rfl
    have hm1 := cellOf hmc (j := 1) rfl
    have hbX := (Below.refl w5.heap.size w5).alloc (Nat.le_refl _) (.cells #[.string ⟨#[98]⟩] 9)
    have HBX := hide hbX
    have HSX := hide (SR.newL w5 [⟨#[98]⟩] 9)
    clear hmc hbX hb5 HOB
    try simp only [phW, World.size_alloc] at HLP
    go_wp2_with fail
    refine (HOA.out _ (below_up HB5.out HBX.out HB5.out.size) _ HSX.out _ _ (HLP.out _ HBX.out)).mono ?_
    rintro e w6 ⟨rfl, hb6⟩
    have HB6 := hide (below_up HTB.out (below_up HBW.out (below_up (below_up HB5.out HBX.out HB5.out.size) hb6 (below_up HB5.out HBX.out HB5.out.size).size) HBW.out.size) HTB.out.size)
    clear hb6
    go_wp2
    go_ret
    exact ⟨rfl, HB6.out⟩
end Go.Proofs.YtdilfbimkepllaaDoor
