/- Expressions within parentheses and between blanks: what the whole comes to. -/
import Derived.Test.YtpjbklajjikgjaaDoorArithMathJ
namespace Go.Proofs.YtpjbklajjikgjaaDoor
open Go.RowKit Go.Deep Qm.Base

theorem valT_nz {l : List UInt8} {e : Nat} (h : valT l = .error e) : e ≠ 0 := by
  unfold valT at h
  split at h
  · cases h
  · split at h <;> (split at h <;> first | (cases h; done) | (injection h with h; omega))
theorem KP_nz (P : List Pr) : ∀ l e, (KP P).nv l = .error e → e ≠ 0 := by
  intro l e h
  have h : nvF P ⟨l.toArray⟩ = .error e := h
  unfold nvF at h
  split at h
  · injection h with h; omega
  · exact valT_nz h
/-- between blanks -/
theorem whole_blanks (P : List Pr) (l : List UInt8) (h : l.length ≤ 4000) : evalF P (bs (32 :: (l ++ [10]))) = evalF P (bs l) := by
  rw [evalF_bs P _ (by simp; omega), evalF_bs P _ (by omega)]
  have e : Ar.exR (KP P) 41 (32 :: (l ++ [10])) false = Ar.exR (KP P) 41 (l ++ [10]) false := by
    rw [Ar.exR_succ (KP P) 40, Ar.exR_succ (KP P) 40, Ar.F_eq _ _ (by omega), Ar.F_eq _ _ (by omega), Ar.una_blk _ _ _ _ (by rfl)]
  rw [e]
  have hr := Ar.exR_end (KP_nz P) 41 l (l ++ [10]) false (.inl rfl)
  generalize Ar.exR (KP P) 41 l false = x at hr
  generalize Ar.exR (KP P) 41 (l ++ [10]) false = x' at hr
  cases x with
  | error e =>
    rcases hr with ⟨h1, _⟩ | ⟨_, rfl⟩
    · cases h1
    · rfl
  | ok y =>
    obtain ⟨v, u, z⟩ := y
    rcases hr with ⟨h1, _⟩ | ⟨u', rfl, hq⟩
    · cases h1
    · have hs : Ar.sk u' = [] ↔ Ar.sk u = [] := by
        have hk := hq.sk
        constructor
        · intro h0
          rcases hk with hk | ⟨hk, _⟩
          · rw [h0] at hk; simp at hk
          · exact hk
        · intro h0
          rcases hq with rfl | ⟨_, rfl⟩
          · rw [Ar.sk_app h0]; rfl
          · rfl
      show (if Ar.sk u' = [] then _ else _) = (if Ar.sk u = [] then _ else _)
      by_cases h0 : Ar.sk u = []
      · rw [if_pos h0, if_pos (hs.2 h0)]
      · rw [if_neg h0, if_neg (fun c => h0 (hs.1 c))]
theorem evalF_opd (P : List Pr) (l : List UInt8) (h : l.length ≤ 4000) {n : Int} (he : evalF P (bs l) = (n, 0)) : Ar.OpdE (KP P) l n := by
  rw [evalF_bs P _ (by omega)] at he
  have hn := Ar.exR_nz (t := [10]) (.inl rfl) (KP_nz P) 41 l false
  generalize hx : Ar.exR (KP P) 41 l false = x at he hn
  cases x with
  | error e =>
    have : e = 0 := congrArg Prod.snd he
    exact absurd this (hn e rfl)
  | ok y =>
    obtain ⟨v, u, z⟩ := y
    have he : (if Ar.sk u = [] then (if z = true then ((0 : Int), 15) else (v, 0)) else (0, 2)) = (n, 0) := he
    by_cases h0 : Ar.sk u = []
    · rw [if_pos h0] at he
      cases z with
      | true =>
        have h15 : (15 : Nat) = 0 := congrArg Prod.snd he
        omega
      | false =>
        have : v = n := congrArg Prod.fst he
        subst this
        exact Ar.OpdE.mk (KP_nz P) hx h0
    · rw [if_neg h0] at he
      have h15 : (2 : Nat) = 0 := congrArg Prod.snd he
      omega
/-- within parentheses -/
theorem whole_par (P : List Pr) (l : List UInt8) (h : l.length ≤ 4000) {n : Int} (he : evalF P (bs l) = (n, 0)) : evalF P (bs (40 :: (l ++ [41]))) = (n, 0) ∨ evalF P (bs (40 :: (l ++ [41]))) = (0, 3) := by
  have ho := evalF_opd P l h he
  rw [evalF_bs P _ (by simp; omega), Ar.exR_succ (KP P) 40]
  rcases Ar.F_oneE ho 40 1 (by omega) (by omega) (t := []) (.inr (by decide)) with hF | hF
  · left
    rw [show (40 :: (l ++ [41]) : List UInt8) = 40 :: l ++ 41 :: [] from by simp, hF]; rfl
  · right
    rw [show (40 :: (l ++ [41]) : List UInt8) = 40 :: l ++ 41 :: [] from by simp, hF]; rfl
theorem KP_pure (P : List Pr) (i : Nat) (h : i < 16) (a b : Int) : (KP P).dop (Ar.opN i) a b false = (dopV (Ar.opN i) a b, false) := by
  show (dopV (Ar.opN i) a b, dopZ (Ar.opN i) b false) = _
  have h2 : dopZ (Ar.opN i) b false = false := by
    unfold dopZ
    rw [if_neg]
    rintro ⟨h1, _⟩
    have hc : i = 0 ∨ i = 1 ∨ i = 2 ∨ i = 3 ∨ i = 4 ∨ i = 5 ∨ i = 6 ∨ i = 7 ∨ i = 8 ∨ i = 9 ∨ i = 10 ∨ i = 11 ∨ i = 12 ∨ i = 13 ∨ i = 14 ∨ i = 15 := by omega
    rcases hc with rfl | rfl | rfl | rfl | rfl | rfl | rfl | rfl | rfl | rfl | rfl | rfl | rfl | rfl | rfl | rfl <;> (revert h1; decide)
  rw [h2]
theorem sums_minus (P : List Pr) (a b : List UInt8) (ha : a.length ≤ 1000) (hb : b.length ≤ 1000) {n m : Int} (h1 : evalF P (bs a) = (n, 0)) (h2 : evalF P (bs b) = (m, 0)) :
    evalF P (bs (40 :: a ++ 41 :: 45 :: 40 :: b ++ [41])) = (wrap64 (n - m), 0) ∨ evalF P (bs (40 :: a ++ 41 :: 45 :: 40 :: b ++ [41])) = (0, 3) := by
  rw [evalF_bs P _ (by simp; omega), Ar.exR_succ (KP P) 40]
  have e : (40 :: a ++ 41 :: 45 :: 40 :: b ++ [41] : List UInt8) = 40 :: a ++ 41 :: (Ar.opT 14 ++ (40 :: b ++ 41 :: [])) := by
    show _ = 40 :: a ++ 41 :: ([45] ++ _); simp
  rw [e]
  rcases Ar.F_twoE (evalF_opd P a (by omega) h1) (evalF_opd P b (by omega) h2) 40 14 (by omega) (by omega) (t := []) (by decide) with hF | hF
  · left; rw [hF, KP_pure P 14 (by omega)]; rfl
  · right; rw [hF]; rfl
theorem sums_same (P : List Pr) (a b : List UInt8) (ha : a.length ≤ 1000) (hb : b.length ≤ 1000) {n m : Int} (h1 : evalF P (bs a) = (n, 0)) (h2 : evalF P (bs b) = (m, 0)) :
    evalF P (bs (40 :: 40 :: a ++ 41 :: 61 :: 61 :: 40 :: b ++ [41, 41])) = (trI (n == m), 0) ∨ evalF P (bs (40 :: 40 :: a ++ 41 :: 61 :: 61 :: 40 :: b ++ [41, 41])) = (0, 3) := by
  rw [evalF_bs P _ (by simp; omega), Ar.exR_succ (KP P) 40]
  have e : (40 :: 40 :: a ++ 41 :: 61 :: 61 :: 40 :: b ++ [41, 41] : List UInt8) = 40 :: (40 :: a ++ 41 :: (Ar.opT 5 ++ (40 :: b ++ 41 :: [41]))) := by
    show _ = 40 :: (40 :: a ++ 41 :: ([61, 61] ++ _)); simp
  rw [e, Ar.F_eq _ _ (by omega), Ar.una_par, Ar.exR_succ (KP P) 39]
  rcases Ar.F_twoE (evalF_opd P a (by omega) h1) (evalF_opd P b (by omega) h2) 39 5 (by omega) (by omega) (t := [41]) (by decide) with hF | hF
  · left
    rw [hF, KP_pure P 5 (by omega), Ar.bd_ok]
    rw [show Ar.clo (dopV (Ar.opN 5) n m, Ar.sk [41], false) = .ok (dopV (Ar.opN 5) n m, [], false) from rfl, Ar.bd_ok, Ar.it_end _ _ _ _ _ _ (.inr (by decide))]
    rfl
  · right; rw [hF]; rfl
end Go.Proofs.YtpjbklajjikgjaaDoor
