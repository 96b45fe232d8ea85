/- Walk of field.Split's end: what was gathered is done. -/
import Derived.Test.YthcgnfoijemcbaaFieldRep
import Derived.StillTailTactics
namespace Go.Proofs.Ythcgnfoijemcbaa
open Go.RowKit Go.Deep
set_option linter.unusedSimpArgs false
set_option linter.unusedVariables false
attribute [local go_sem] bt_eq

def SpP (w0 : World) (po pn : Nat) (s : Sp) (m : Nat) (w' : World) : Prop := ∃ (out : List FR) (vo vn : Value), out.map FR.L = s.1 ∧ out.length ≤ m ∧ SpI w0 po pn out s.2 vo vn w'
set_option maxRecDepth 100000 in
set_option maxHeartbeats 2000000 in
theorem end_any (w0 : World) (po pn : Nat) (s : Sp) (m : Nat) (w : World) (h : SpP w0 po pn s m w) (hm : m ≤ 1000000) (hn : s.2.length ≤ 1000000) :
    Calls Try.prog 15 #[.pointer (some ⟨pn, 0, none⟩), .pointer (some ⟨po, 0, none⟩)] w fun e w' => e = .returned (.tuple #[]) ∧ SpP w0 po pn (flushS s) (m + 1) w' := by
  obtain ⟨out, vo, vn, ho1, ho2, hi⟩ := h
  obtain ⟨os, now⟩ := s
  dsimp only at ho1 hi hn
  subst ho1
  obtain ⟨A0, c0, rfl, _, _, _, _⟩ := hi.oo.slice encFR_len
  obtain ⟨A, c, rfl, _, _, _, _⟩ := hi.on.slice encPt_len
  have hcn := cellOfF hi.hn (j := 0) rfl
  have hfn := freeOfF hi.hn 0
  have hco := cellOfF hi.ho (j := 0) rfl
  by_cases hne : now = []
  · subst hne
    have HF := hide hi.flush0
    rw [List.length_nil] at hcn
    clear hi
    go_enter Try.func15, Try.ntmps15
    go_wp2
    go_end0
    exact ⟨rfl, out, _, _, by simp [flushS], by omega, HF.out⟩
  · obtain ⟨A', c', w4, hrun, ⟨h1, h2⟩, ⟨h3, h4⟩, h5⟩ := hi.flush1 hne (by omega)
    have HF := hide h5
    have hfl : flushS (out.map FR.L, now) = (out.map FR.L ++ [now], []) := by unfold flushS; rw [if_neg hne]
    rw [hfl]
    have hlp : 0 < now.length := List.length_pos_iff.2 hne
    obtain ⟨n, hn2⟩ : ∃ n, now.length = n := ⟨_, rfl⟩
    obtain ⟨n0, hn0⟩ : ∃ n, out.length = n := ⟨_, rfl⟩
    rw [hn2] at hcn hrun h3 hlp
    rw [hn0] at hco hrun h1 h3 h4
    have HN0 := hide hn0
    have hlpi : (0 : Int) < (n : Int) := by omega
    clear hi h5 hne hn2 hfl hn0
    go_enter Try.func15, Try.ntmps15
    go_wp2_with (at_builtin; refine wpList_app_run ?_ (.tmp 5) (.tmp 7) ?_ ?_ ?_ ?_ hrun ?_; exact rfl; exact rfl; exact rfl; exact rfl; exact rfl)
    go_end0
    have hf := HF.out
    rw [HN0.out] at hf
    exact ⟨rfl, out ++ [⟨A, c, now⟩], _, _, by simp, by rw [List.length_append, List.length_singleton]; omega, hf⟩
end Go.Proofs.Ythcgnfoijemcbaa
