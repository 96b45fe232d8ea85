/- What the law VfsErrors needs: its file system, its paths, and what each call tells; a copy as a thing in blocks of its own. -/
import Derived.Test.YtmblmenafplccaaDoorVfsLawB
import Derived.Test.YtmblmenafplccaaDoorVfsWalkH
namespace Go.Proofs.YtmblmenafplccaaDoor
open Go.RowKit Go.Deep Go.Maps Ln Pth Vf

def erA : St := (mkdirS (newS 9 90) [47, 100]).1
def erB : St := (writeS erA [47, 100, 47, 102] [120] false).1
def erS : St := (mkdirS erB [47, 100, 47, 101]).1
theorem erA_wf : WfS erA := mkdirS_wf (newS_wf 9 90) _
theorem erB_wf : WfS erB := writeS_wf erA_wf _ _ _
theorem erS_wf : WfS erS := mkdirS_wf erB_wf _
theorem erA_e : (mkdirS (newS 9 90) [47, 100]).2 = 0 := by kernel_rfl
theorem erB_e : (writeS erA [47, 100, 47, 102] [120] false).2 = 0 := by kernel_rfl
theorem erS_e : (mkdirS erB [47, 100, 47, 101]).2 = 0 := by kernel_rfl
theorem erA_by : erA.bytes = 90 := by kernel_rfl
theorem erA_ck : erA.clock = 1 := by kernel_rfl
theorem erB_ck : erB.clock = 2 := by kernel_rfl
theorem erS_by : erS.bytes = 90 := by kernel_rfl
theorem erS_ck : erS.clock = 3 := by kernel_rfl
/-- the path of each number -/
def lpE (k : Nat) : T := [[47, 100, 47, 102, 47, 120], [47, 110, 47, 120], [47, 110], [47, 100], [47, 100, 47, 102], [47], [], [47, 100, 47, 101]].getD k []
def rdE (k : Nat) : Nat := [11, 6, 6, 10, 0, 10, 1, 10].getD k 0
def liE (k : Nat) : Nat := [11, 6, 6, 0, 11, 0, 1, 0].getD k 0
def wrE (k : Nat) : Nat := [11, 6, 0, 10, 0, 10, 1, 10].getD k 0
def mkE (k : Nat) : Nat := [11, 6, 0, 12, 12, 12, 1, 12].getD k 0
def rmE (k : Nat) : Nat := [11, 6, 6, 14, 0, 1, 1, 0].getD k 0
def toE (k : Nat) : Nat := [11, 6, 0, 0, 0, 0, 1, 0].getD k 0
theorem eight {P : Nat → Prop} (h0 : P 0) (h1 : P 1) (h2 : P 2) (h3 : P 3) (h4 : P 4) (h5 : P 5) (h6 : P 6) (h7 : P 7) : ∀ k, k < 8 → P k
  | 0, _ => h0
  | 1, _ => h1
  | 2, _ => h2
  | 3, _ => h3
  | 4, _ => h4
  | 5, _ => h5
  | 6, _ => h6
  | 7, _ => h7
  | k + 8, h => absurd h (by omega)
theorem er_rd : ∀ k, k < 8 → (readS erS (lpE k)).2 = rdE k := eight (by kernel_rfl) (by kernel_rfl) (by kernel_rfl) (by kernel_rfl) (by kernel_rfl) (by kernel_rfl) (by kernel_rfl) (by kernel_rfl)
theorem er_li : ∀ k, k < 8 → (listS erS (lpE k)).2 = liE k := eight (by kernel_rfl) (by kernel_rfl) (by kernel_rfl) (by kernel_rfl) (by kernel_rfl) (by kernel_rfl) (by kernel_rfl) (by kernel_rfl)
theorem er_wr : ∀ k, k < 8 → (writeS erS (lpE k) [] false).2 = wrE k := eight (by kernel_rfl) (by kernel_rfl) (by kernel_rfl) (by kernel_rfl) (by kernel_rfl) (by kernel_rfl) (by kernel_rfl) (by kernel_rfl)
theorem er_mk : ∀ k, k < 8 → (mkdirS erS (lpE k)).2 = mkE k := eight (by kernel_rfl) (by kernel_rfl) (by kernel_rfl) (by kernel_rfl) (by kernel_rfl) (by kernel_rfl) (by kernel_rfl) (by kernel_rfl)
theorem er_rm : ∀ k, k < 8 → (removeS erS (lpE k)).2 = rmE k := eight (by kernel_rfl) (by kernel_rfl) (by kernel_rfl) (by kernel_rfl) (by kernel_rfl) (by kernel_rfl) (by kernel_rfl) (by kernel_rfl)
theorem er_to : ∀ k, k < 8 → (touchS erS (lpE k)).2 = toE k := eight (by kernel_rfl) (by kernel_rfl) (by kernel_rfl) (by kernel_rfl) (by kernel_rfl) (by kernel_rfl) (by kernel_rfl) (by kernel_rfl)
theorem lpE_len : ∀ k, k < 8 → (lpE k).length ≤ 6 := eight (by decide) (by decide) (by decide) (by decide) (by decide) (by decide) (by decide) (by decide)
/-- behind a copy: both -/
def CopQ (g : Nat) (S : St) (e : Ending) : AsnN := fun T N w => ∃ g', e = .returned (.pointer (some ⟨g', 0, none⟩)) ∧ sep (VS g S) (VS g' S) T N w
theorem copy_spec (g : Nat) (S : St) : SpecN Tryd.prog 22 #[.pointer (some ⟨g, 0, none⟩)] (VS g S) (CopQ g S) := by
  intro T N w h ok
  refine (copy_any g S T N w h ok).mono ?_
  rintro e w' ⟨g', rfl, hv, hb⟩
  refine ⟨fun k => T k ∨ (w.heap.size ≤ k ∧ k < w'.heap.size), N, ⟨g', rfl, T, _, (h.stay ok hb).1, hv, fun k h => .inl h, fun k h => .inr h, fun k h1 h2 => ?_⟩, ⟨fun k hk => hk.imp_right (·.1), fun k h => h, fun k h => .inl h, fun k hk => ?_, fun k hk => Nat.lt_of_lt_of_le (ok.2 k hk) hb.size⟩, Kp.of_below hb T⟩
  · have := (ok.1 k h1).1; omega
  · rcases hk with hk | hk
    · exact ⟨Nat.lt_of_lt_of_le (ok.1 k hk).1 hb.size, (ok.1 k hk).2⟩
    · exact ⟨hk.2, fun h => by have := ok.2 k h; omega⟩
/-- behind a call that changes it -/
def FsQ (g : Nat) (r : St × Nat) (e : Ending) : AsnN := fun T N w => e = .returned (.int .i64 r.2) ∧ VS g r.1 T N w
theorem fs_spec {f : FuncId} {args : Array Value} {g : Nat} {S : St} {r : St × Nat} (H : World → Prop) (h : ∀ T N w, VS g S T N w → OkTN T N w → H w → Calls Tryd.prog f args w (FsPost g r T N w)) : ∀ T N w, VS g S T N w → OkTN T N w → H w → Calls Tryd.prog f args w fun e w' => ∃ T' N', FsQ g r e T' N' w' ∧ GrowN w w' T N T' N' ∧ Kp w w' T := by
  intro T N w hv ok hw
  refine (h T N w hv ok hw).mono ?_
  rintro e w' ⟨rfl, N', hv', hg, hk⟩
  exact ⟨T, N', ⟨rfl, hv'⟩, hg, hk⟩
/-- a copy, in blocks of its own; what it reads lies below B -/
def CV (B lo hi g : Nat) (S : St) (w : World) : Prop := B ≤ lo ∧ lo ≤ hi ∧ ∃ N, VS g S (fun k => lo ≤ k ∧ k < hi) N w ∧ OkTN (fun k => lo ≤ k ∧ k < hi) N w ∧ ∀ k, N k → k < B
theorem CV.keep {B lo hi g : Nat} {S : St} {w w' : World} (h : CV B lo hi g S w) (hk : Kp w w' (fun k => B ≤ k ∧ k < lo)) : CV B lo hi g S w' := by
  obtain ⟨h1, h2, N, hv, ok, hN⟩ := h
  refine ⟨h1, h2, N, VS.fr g S _ N N w w' hv (fun k hk' => hk.block k (hk'.elim (fun h => (ok.1 k h).1) (ok.2 k)) (fun c => ?_)) (fun _ h => h) hk.size, (GrowN.refl ok hk.size).2.2.2, hN⟩
  rcases hk' with h | h
  · omega
  · have := hN k h; omega
theorem CV.below {B lo hi g : Nat} {S : St} {w w' : World} (h : CV B lo hi g S w) (hb : Below w.heap.size w w') : CV B lo hi g S w' := h.keep (Kp.of_below hb _)
theorem CV.call {B lo hi g : Nat} {S : St} {r : St × Nat} {w W : World} {f : FuncId} {args : Array Value} (h : CV B lo hi g S w) (hk : Kp w W (fun k => B ≤ k ∧ k < lo)) (hf : ∀ T N, VS g S T N W → OkTN T N W → Calls Tryd.prog f args W (FsPost g r T N W)) :
    Calls Tryd.prog f args W fun e w' => e = .returned (.int .i64 r.2) ∧ Kp w w' (fun k => B ≤ k ∧ k < hi) := by
  obtain ⟨h1, h2, N, hv, ok, hN⟩ := h.keep hk
  refine (hf _ N hv ok).mono ?_
  rintro e w' ⟨rfl, N', _, _, hk2⟩
  exact ⟨rfl, (hk.mono (fun k hk => by omega)).trans (hk2.mono (fun k hk => .inl (by omega)))⟩
theorem copy_cv {b : Nat} {w0 w8 : World} {S : St} (h : TA b w0 S w8) (W : World) (hb : Below w8.heap.size w8 W) : Calls Tryd.prog 22 #[.pointer (some ⟨b + 1, 0, none⟩)] W fun e w' => ∃ g', e = .returned (.pointer (some ⟨g', 0, none⟩)) ∧ CV w8.heap.size W.heap.size w'.heap.size g' S w' ∧ Below W.heap.size W w' := by
  obtain ⟨N, hv, ok, hbw⟩ := h
  have hN := ok.2
  obtain ⟨hv2, ok2⟩ := hv.stay ok hb
  refine (copy_any (b + 1) S (T0 b) N W hv2 ok2).mono ?_
  rintro e w' ⟨g', rfl, hv3, hb3⟩
  exact ⟨g', rfl, ⟨hb.size, hb3.size, N, hv3, ⟨fun k hk => ⟨hk.2, fun h => by have := hN k h; have := hb.size; omega⟩, fun k hk => by have := hN k hk; have := hb.size; have := hb3.size; omega⟩, hN⟩, hb3⟩
end Go.Proofs.YtmblmenafplccaaDoor
