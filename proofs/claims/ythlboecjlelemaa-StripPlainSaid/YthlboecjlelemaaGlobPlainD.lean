/- Plain facts on patterns that are one text: the program and the reference agree, and the text is matched; no program in sight. -/
import Derived.Test.YthlboecjlelemaaGlobPlainC
namespace Qm.Glob
def PairR (R : GI → RI → Prop) : List GI → List RI → Prop
  | [], [] => True
  | x :: a, y :: b => R x y ∧ PairR R a b
  | _, _ => False
theorem pair_gen {R : GI → RI → Prop} (k1 : ∀ c, R (giOne c) (rByte c)) (k2 : R giAny rAny) (k3 : R giStar rStar) (k4 : ∀ S nt lo hi, R (giSet S) ⟨3, 0, nt, lo, hi⟩) (t : Nat → Nat) (n : Nat) : ∀ f i, PairR R (gIt t n f i) (rIt t n f i)
  | 0, _ => trivial
  | f + 1, i => by
    have ih := pair_gen k1 k2 k3 k4 t n f
    rw [gIt, rIt]
    by_cases h : i < n
    · rw [if_pos h, if_pos h]
      by_cases h1 : t i = 42
      · rw [if_pos h1, if_pos h1]; exact ⟨k3, ih _⟩
      · rw [if_neg h1, if_neg h1]
        by_cases h2 : t i = 63
        · rw [if_pos h2, if_pos h2]; exact ⟨k2, ih _⟩
        · rw [if_neg h2, if_neg h2]
          by_cases h3 : t i = 92
          · have h5 : ¬ (t i = 91 ∧ (rSetOf t n (i + 1)).2.2 < n) := by omega
            rw [if_pos h3, if_neg h5]
            by_cases h4 : i + 1 < n
            · rw [if_pos h4, rOne, if_pos ⟨h3, h4⟩]; exact ⟨k1 _, ih _⟩
            · rw [if_neg h4, rOne, if_neg (fun h => h4 h.2), h3]; exact ⟨k1 _, ih _⟩
          · rw [if_neg h3]
            have hr : rOne t n i = (t i, 1) := by rw [rOne, if_neg (fun h => h3 h.1)]
            by_cases h4 : t i = 91
            · rw [if_pos h4, gBracket_rSet (by omega)]
              by_cases h5 : (rSetOf t n (i + 1)).2.2 < n
              · have h6 : t i = 91 ∧ (rSetOf t n (i + 1)).2.2 < n := ⟨h4, h5⟩
                rw [if_pos h5, if_pos h6]; exact ⟨k4 _ _ _ _, ih _⟩
              · have h6 : ¬ (t i = 91 ∧ (rSetOf t n (i + 1)).2.2 < n) := fun h => h5 h.2
                rw [if_neg h5, if_neg h6, hr, h4]; exact ⟨k1 _, ih _⟩
            · have h6 : ¬ (t i = 91 ∧ (rSetOf t n (i + 1)).2.2 < n) := fun h => h4 h.1
              rw [if_neg h4, if_neg h6, hr]; exact ⟨k1 _, ih _⟩
    · rw [if_neg h, if_neg h]; trivial
/-- plain on both sides, with one byte -/
def SameP (x : GI) (y : RI) : Prop := x.plain = (y.kind == 0) ∧ (x.plain = true → x.c = y.c ∧ x = giOne x.c)
theorem sameP_it (t : Nat → Nat) (n f i : Nat) : PairR SameP (gIt t n f i) (rIt t n f i) :=
  pair_gen (fun _ => ⟨rfl, fun _ => ⟨rfl, rfl⟩⟩) ⟨rfl, fun h => (by cases h)⟩ ⟨rfl, fun h => (by cases h)⟩ (fun _ _ _ _ => ⟨rfl, fun h => (by cases h)⟩) t n f i
theorem sameP_all : ∀ {a : List GI} {b : List RI}, PairR SameP a b → a.all GI.plain = b.all (fun x => x.kind == 0) ∧ (a.all GI.plain = true → a.map GI.c = b.map RI.c ∧ a = (a.map GI.c).map giOne)
  | [], [], _ => ⟨rfl, fun _ => ⟨rfl, rfl⟩⟩
  | x :: a, y :: b, h => by
    have ih := sameP_all h.2
    refine ⟨by simp only [List.all_cons, ih.1, h.1.1], fun hp => ?_⟩
    simp only [List.all_cons, Bool.and_eq_true] at hp
    have h1 := h.1.2 hp.1
    have h2 := ih.2 hp.2
    refine ⟨by simp only [List.map_cons, h1.1, h2.1], ?_⟩
    simp only [List.map_cons]
    rw [← h1.2, ← h2.2]
  | [], _ :: _, h => h.elim
  | _ :: _, [], h => h.elim
theorem E_text {t : Nat → Nat} {cs : List Nat} : ∀ k i, k ≤ cs.length → E (fun k => ((cs.map giOne).getD k giStar).star) (fun k c => ((cs.map giOne).getD k giStar).S c) t k i = (i == k && (List.range k).all fun j => t j == cs.getD j 0)
  | 0, 0, _ => rfl
  | 0, _ + 1, _ => rfl
  | k + 1, 0, h => by
    have hg : (cs.map giOne).getD k giStar = giOne (cs.getD k 0) := by simp [List.getD_eq_getElem?_getD, show k < cs.length from by omega]
    rw [Es0, hg]; rfl
  | k + 1, i + 1, h => by
    have hg : (cs.map giOne).getD k giStar = giOne (cs.getD k 0) := by simp [List.getD_eq_getElem?_getD, show k < cs.length from by omega]
    rw [Ess, hg, E_text k i (by omega), List.range_succ, List.all_append]
    simp only [giOne, Bool.false_eq_true, if_false, addS, Bool.false_or, List.all_cons, List.all_nil, Bool.and_true]
    have e : (i + 1 == k + 1) = (i == k) := by rw [Bool.eq_iff_iff]; simp
    rw [e, Bool.and_assoc]
    by_cases hik : i = k
    · subst hik
      congr 2
      rw [Bool.eq_iff_iff]
      simp
      omega
    · have : (i == k) = false := by simpa using hik
      simp [this]
theorem EL_text (t : Nat → Nat) (cs : List Nat) (i : Nat) : EL (cs.map giOne) t i = (i == cs.length && (List.range cs.length).all fun j => t j == cs.getD j 0) := by
  unfold EL
  rw [List.length_map]
  exact E_text _ _ (Nat.le_refl _)
end Qm.Glob
