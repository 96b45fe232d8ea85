/- Walk of the law AgePhony. -/
import Derived.Test.YtmblmenafplccaaDoorAgeLawA
namespace Go.Proofs.YtmblmenafplccaaDoor
open Go.RowKit Go.Deep Go.Maps Ln Pth Vf
attribute [local go_sem] bt_eq

/-- a file system of the call's own -/
def TA (b : Nat) (w0 : World) (S : St) (wr : World) : Prop := ∃ N, VS (b + 1) S (T0 b) N wr ∧ OkTN (T0 b) N wr ∧ Below w0.heap.size w0 wr
theorem TA.write {b : Nat} {w0 wr : World} {S : St} (h : TA b w0 S wr) (h0 : w0.heap.size ≤ b) (hm : MX w0) (hS : WfS S) (hby : S.bytes ≤ 400000) (hck : S.clock ≤ 1000000000) (p : T) (hp : p.length ≤ 50000) (d : T) (hd : d.length ≤ 400000) (more : Bool) (A : Option Addr) (c : Nat) (hA : RG encB 1 wr A d) :
    Calls Tryd.prog 11 #[.pointer (some ⟨b + 1, 0, none⟩), .string (bs p), .slice A d.length c, .bool more] wr fun e w' => e = .returned (.int .i64 (writeS S p d more).2) ∧ TA b w0 (writeS S p d more).1 w' ∧ Kp wr w' (T0 b) := by
  obtain ⟨N, hv, ok, hb⟩ := h
  refine (write_any (b + 1) S p d more A c (T0 b) N wr hv ok hS (hm.below hb) hp hby hd hck hA).mono ?_
  rintro e w' ⟨rfl, N', hv', hg, hk⟩
  exact ⟨rfl, ⟨N', hv', hg.2.2.2, hk.below hb (Nat.le_refl _) (fun k h => by unfold T0 at h; omega)⟩, hk⟩
theorem TA.new {w0 w1 w2 : World} (h0 : Below w0.heap.size w0 w1) (n m : Int) (hb : Below w1.heap.size w1 w2) (hv : VS (w1.heap.size + 1) (newS n m) (fun k => w1.heap.size ≤ k ∧ k < w2.heap.size) (fun _ => False) w2) (hs : w2.heap.size = w1.heap.size + 2) : TA w1.heap.size w0 (newS n m) w2 := by
  rw [show (fun k => w1.heap.size ≤ k ∧ k < w2.heap.size) = T0 w1.heap.size by funext k; unfold T0; rw [hs]] at hv
  exact ⟨_, hv, ⟨fun k hk => ⟨by unfold T0 at hk; omega, fun h => h⟩, fun k h => h.elim⟩, below_up h0 hb h0.size⟩
theorem TA.hs {b : Nat} {w0 wr : World} {S : St} (h : TA b w0 S wr) : Hs (VS (b + 1) S) wr := by
  obtain ⟨N, hv, ok, _⟩ := h
  exact ⟨_, N, hv, ok⟩
theorem TA.below {b : Nat} {w0 wr : World} {S : St} (h : TA b w0 S wr) : Below w0.heap.size w0 wr := by
  obtain ⟨N, hv, ok, hb⟩ := h
  exact hb
/-- the tree of the law -/
def phS (there : Bool) : St := (writeS (if there = true then (writeS (newS 5 5) [47, 98] [] false).1 else newS 5 5) [47, 97] [] false).1
def phM (phony : Bool) (a1 a2 : Option Addr) : List Rl := if phony = true then [⟨(a1, 1, [⟨#[46, 80, 72, 79, 78, 89]⟩]), (a2, 1, [⟨#[98]⟩]), (none, 0, [])⟩] else []
def phL (made : Bool) : List ByteArray := if made = true then [⟨#[98]⟩] else []
theorem ph_b (phony there : Bool) (a1 a2 : Option Addr) : oldS (phS there) [47] (phM phony a1 a2) ⟨#[98]⟩ [] [] = (phony || !there) := by
  cases phony <;> cases there <;> kernel_rfl
theorem ph_a (phony made there : Bool) (a1 a2 : Option Addr) : oldS (phS there) [47] (phM phony a1 a2) ⟨#[97]⟩ [⟨#[98]⟩] (phL made) = (made && (phony || !there)) := by
  cases phony <;> cases made <;> cases there <;> kernel_rfl
theorem ph_e1 : (writeS (newS 5 5) [47, 98] [] false).2 = 0 := by kernel_rfl
theorem ph_e2 : (writeS (writeS (newS 5 5) [47, 98] [] false).1 [47, 97] [] false).2 = 0 := by kernel_rfl
theorem ph_e3 : (writeS (newS 5 5) [47, 97] [] false).2 = 0 := by kernel_rfl
def phW (w : World) : World := (((w.alloc (.cells #[.slice none 0 0, .slice (some ⟨w.heap.size + 1 + 1 + 1, 0, none⟩) 1 1] 27)).alloc (.cells #[.string ⟨#[46, 80, 72, 79, 78, 89]⟩] 9)).alloc (.cells #[.string ⟨#[98]⟩] 9)).alloc (.cells #[.slice (some ⟨w.heap.size + 1, 0, none⟩) 1 1, .slice (some ⟨w.heap.size + 1 + 1, 0, none⟩) 1 1, .slice none 0 0] 33)
theorem phW_ok (w : World) : Below w.heap.size w (phW w) ∧ (phW w).heap[w.heap.size]? = some (.cells #[.slice none 0 0, .slice (some ⟨w.heap.size + 1 + 1 + 1, 0, none⟩) 1 1] 27) ∧
    RLS (phW w) (some ⟨w.heap.size + 1 + 1 + 1, 0, none⟩) (phM true (some ⟨w.heap.size + 1, 0, none⟩) (some ⟨w.heap.size + 1 + 1, 0, none⟩)) := by
  have h0 : (phW w).heap[w.heap.size]? = some (.cells #[.slice none 0 0, .slice (some ⟨w.heap.size + 1 + 1 + 1, 0, none⟩) 1 1] 27) := by
    unfold phW
    rw [Below.heap_alloc _ _ _ (by simp; omega), Below.heap_alloc _ _ _ (by simp; omega), Below.heap_alloc _ _ _ (by simp)]
    exact heapNew _ _
  have h1 : (phW w).heap[w.heap.size + 1]? = some (.cells #[.string ⟨#[46, 80, 72, 79, 78, 89]⟩] 9) := by
    unfold phW
    rw [Below.heap_alloc _ _ _ (by simp), Below.heap_alloc _ _ _ (by simp)]
    have := heapNew (w.alloc (.cells #[.slice none 0 0, .slice (some ⟨w.heap.size + 1 + 1 + 1, 0, none⟩) 1 1] 27)) (.cells #[.string ⟨#[46, 80, 72, 79, 78, 89]⟩] 9)
    simpa using this
  have h2 : (phW w).heap[w.heap.size + 1 + 1]? = some (.cells #[.string ⟨#[98]⟩] 9) := by
    unfold phW
    rw [Below.heap_alloc _ _ _ (by simp)]
    have := heapNew ((w.alloc (.cells #[.slice none 0 0, .slice (some ⟨w.heap.size + 1 + 1 + 1, 0, none⟩) 1 1] 27)).alloc (.cells #[.string ⟨#[46, 80, 72, 79, 78, 89]⟩] 9)) (.cells #[.string ⟨#[98]⟩] 9)
    simpa using this
  have h3 : (phW w).heap[w.heap.size + 1 + 1 + 1]? = some (.cells #[.slice (some ⟨w.heap.size + 1, 0, none⟩) 1 1, .slice (some ⟨w.heap.size + 1 + 1, 0, none⟩) 1 1, .slice none 0 0] 33) := by
    have := heapNew (((w.alloc (.cells #[.slice none 0 0, .slice (some ⟨w.heap.size + 1 + 1 + 1, 0, none⟩) 1 1] 27)).alloc (.cells #[.string ⟨#[46, 80, 72, 79, 78, 89]⟩] 9)).alloc (.cells #[.string ⟨#[98]⟩] 9)) (.cells #[.slice (some ⟨w.heap.size + 1, 0, none⟩) 1 1, .slice (some ⟨w.heap.size + 1 + 1, 0, none⟩) 1 1, .slice none 0 0] 33)
    unfold phW
    simpa using this
  have one : ∀ (g : Nat) (s : ByteArray), (phW w).heap[g]? = some (.cells #[.string s] 9) → SR (phW w) (some ⟨g, 0, none⟩) [s] := by
    intro g s h k x hk
    cases k with
    | zero =>
      simp at hk
      subst hk
      exact ⟨_, _, rfl, (Array.getElem?_eq_some_iff.1 h).1, cellOf h rfl⟩
    | succ k => simp at hk
  refine ⟨(((((Below.refl _ _).alloc (Nat.le_refl _) _).alloc (by simp) _).alloc (by simp; omega) _).alloc (by simp; omega) _), h0, ?_, ?_⟩
  · intro k r hk
    unfold phM at hk
    rw [if_pos rfl] at hk
    cases k with
    | zero =>
      simp at hk
      subst hk
      refine ⟨_, _, rfl, (Array.getElem?_eq_some_iff.1 h3).1, fun j u hu => ?_⟩
      match j, hu with
      | 0, hu => rw [show u = _ from (Option.some.inj hu).symm]; exact cellOf h3 rfl
      | 1, hu => rw [show u = _ from (Option.some.inj hu).symm]; exact cellOf h3 rfl
      | 2, hu => rw [show u = _ from (Option.some.inj hu).symm]; exact cellOf h3 rfl
      | j + 3, hu => simp [encRl] at hu
    | succ k => simp at hk
  · intro r hr
    unfold phM at hr
    rw [if_pos rfl] at hr
    obtain rfl := List.mem_singleton.1 hr
    exact ⟨one _ _ h1, one _ _ h2, SR.nil _ _, by simp, by simp, by simp⟩
end Go.Proofs.YtmblmenafplccaaDoor
