/- What the law VfsLists needs: its file system, and the reference's list of names. -/
import Derived.Test.YtmblmenafplccaaDoorVfsLawA
import Derived.Test.YtmblmenafplccaaDoorVfsMath
import Derived.Test.YtmblmenafplccaaDoorStrsWalkC
import Derived.Test.YtmblmenafplccaaDoorRefAt
import Derived.Test.YtmblmenafplccaaDoorOpenRows
import Derived.Test.YtmblmenafplccaaDoorVfsWalkG
namespace Go.Proofs.YtmblmenafplccaaDoor
open Go.RowKit Go.Deep Go.Maps Ln Pth Vf

theorem putS_bs (s : T) : ∀ L : List T, putS (bs s) (L.map bs) = (putT s L).map bs
  | [] => rfl
  | y :: L => by
    have h1 : (sLt (bs y) (bs s) = true) ↔ y < s := sLt_iff _ _
    have h2 : bs y = bs s ↔ y = s := ⟨bs_inj, fun h => by rw [h]⟩
    show (if sLt (bs y) (bs s) then bs y :: putS (bs s) (L.map bs) else if bs y = bs s then bs y :: L.map bs else bs s :: bs y :: L.map bs) = _
    rw [putS_bs s L, putT]
    by_cases c1 : y < s
    · rw [if_pos (h1.2 c1), if_pos c1]; rfl
    · rw [if_neg (fun h => c1 (h1.1 h)), if_neg c1]
      by_cases c2 : y = s
      · rw [if_pos (h2.2 c2), if_pos c2]; rfl
      · rw [if_neg (fun h => c2 (h2.1 h)), if_neg c2]; rfl
theorem putT_len (s : T) : ∀ L : List T, (putT s L).length ≤ L.length + 1
  | [] => by simp [putT]
  | y :: L => by
    have := putT_len s L
    rw [putT]
    split
    · simp; omega
    · split <;> simp
/-- the file system that the law begins with -/
def liA : St := (mkdirS (newS 50 50) [47, 100]).1
def liB : St := (writeS liA [47, 120] [] false).1
theorem liA_wf : WfS liA := mkdirS_wf (newS_wf 50 50) _
theorem liA_by : liA.bytes = 50 := by kernel_rfl
theorem liA_ck : liA.clock = 1 := by kernel_rfl
theorem liA_e : (mkdirS (newS 50 50) [47, 100]).2 = 0 := by kernel_rfl
theorem liB_e : (writeS liA [47, 120] [] false).2 = 0 := by kernel_rfl
theorem liB_ck : liB.clock = 2 := by kernel_rfl
theorem liB_len : liB.m.length = 2 := by kernel_rfl
theorem liB_li : LI liB [] 0 := ⟨writeS_wf liA_wf _ _ _, by kernel_rfl, by kernel_rfl, by rw [liB_ck]; omega, by rw [liB_len]; omega, by kernel_rfl, by kernel_rfl⟩
theorem TA.mkdir {b : Nat} {w0 wr : World} {S : St} (h : TA b w0 S wr) (h0 : w0.heap.size ≤ b) (hm : MX w0) (hS : WfS S) (hck : S.clock ≤ 1000000000) (p : T) (hp : p.length ≤ 50000) :
    Calls Tryd.prog 15 #[.pointer (some ⟨b + 1, 0, none⟩), .string (bs p)] wr fun e w' => e = .returned (.int .i64 (mkdirS S p).2) ∧ TA b w0 (mkdirS S p).1 w' ∧ Kp wr w' (T0 b) := by
  obtain ⟨N, hv, ok, hb⟩ := h
  refine (mkdir_any (b + 1) S p (T0 b) N wr hv ok hS (hm.below hb) hp hck).mono ?_
  rintro e w' ⟨rfl, N', hv', hg, hk⟩
  exact ⟨rfl, ⟨N', hv', hg.2.2.2, hk.below hb (Nat.le_refl _) (fun k h => by unfold T0 at h; omega)⟩, hk⟩
theorem TA.touch {b : Nat} {w0 wr : World} {S : St} (h : TA b w0 S wr) (h0 : w0.heap.size ≤ b) (hm : MX w0) (hS : WfS S) (hby : S.bytes ≤ 400000) (hck : S.clock ≤ 1000000000) (p : T) (hp : p.length ≤ 50000) :
    Calls Tryd.prog 17 #[.pointer (some ⟨b + 1, 0, none⟩), .string (bs p)] wr fun e w' => e = .returned (.int .i64 (touchS S p).2) ∧ TA b w0 (touchS S p).1 w' ∧ Kp wr w' (T0 b) := by
  obtain ⟨N, hv, ok, hb⟩ := h
  refine (touch_any (b + 1) S p (T0 b) N wr hv ok hS (hm.below hb) hp hby hck).mono ?_
  rintro e w' ⟨rfl, N', hv', hg, hk⟩
  exact ⟨rfl, ⟨N', hv', hg.2.2.2, hk.below hb (Nat.le_refl _) (fun k h => by unfold T0 at h; omega)⟩, hk⟩
/-- it stays behind what is laid anew -/
theorem TA.stay {b : Nat} {w0 wr w' : World} {S : St} (h : TA b w0 S wr) (hb : Below wr.heap.size wr w') : TA b w0 S w' := by
  obtain ⟨N, hv, ok, h0⟩ := h
  exact ⟨N, (hv.stay ok hb).1, (hv.stay ok hb).2, below_up h0 hb h0.size⟩
/-- a list of names, beside the file system -/
theorem SR.ta {b : Nat} {w0 wr w' : World} {S : St} {A : Option Addr} {L : List ByteArray} (h : TA b w0 S wr) (hs : SR wr A L) (hk : Kp wr w' (T0 b)) : SR w' A L := fun k s hks => by
  obtain ⟨g, o, e, hg, hc⟩ := hs k s hks
  obtain ⟨N, ⟨b', P, h1, h2, hgb, hf, ⟨es, ck, hm, _⟩, _⟩, _⟩ := h
  have hx : ¬ T0 b g := fun ht => by
    unfold T0 at ht h2
    by_cases e1 : g = b + 1
    · subst e1
      simp only [World.cell?, hf] at hc
      generalize o + k = j at hc
      match j, hc with
      | 0, hc => simp at hc
      | 1, hc => simp at hc
      | 2, hc => simp at hc
      | 3, hc => simp at hc
      | 4, hc => simp at hc
      | j + 5, hc => simp at hc
    · have e2 : g = b' := by omega
      subst e2
      simp [World.cell?, hm] at hc
  refine ⟨g, o, e, Nat.lt_of_lt_of_le hg hk.size, ?_⟩
  have hbk := hk.block g hg hx
  unfold World.cell? at hc ⊢
  rw [hbk]
  exact hc
theorem li_list {S : St} {want : List T} {i : Nat} (h : LI S want i) : listS S [47, 100] = (want, 0) := by
  have hw : wayM S.m [47, 100] = 0 := by
    have := way_join S.m (l := [[100]]) (by intro s hs; rw [List.mem_singleton.1 hs]; simp)
    exact this
  have ha : absS S [47, 100] = ([47, 100], 0) := by
    unfold absS
    rw [show absF [47] [47, 100] = ([47, 100], 0) by kernel_rfl]
    simp only [ne_eq, not_true_eq_false, if_false]
    rw [hw]
    rfl
  have hf : foundS S [47, 100] = ([47, 100], 0) := by
    unfold foundS
    rw [ha, h.dir]
    rfl
  unfold listS
  rw [hf, h.dir, h.names]
  rfl
end Go.Proofs.YtmblmenafplccaaDoor
