/- Two operators between digits. -/
import Derived.Test.YtpjbklajjikgjaaDoorArithMathF
namespace Go.Proofs.YtpjbklajjikgjaaDoor.Ar

theorem okA_op (i : Nat) (hi : i < 18) (t : List UInt8) (h : okB t) : okA (opT i ++ t) := ⟨(opT_facts i hi t h).2.2.2.1, (opT_facts i hi t h).2.2.2.2⟩
theorem okB_dig {D : List UInt8} (h0 : D ≠ []) (hD : ∀ c ∈ D, dgl c = true) (t : List UInt8) : okB (D ++ t) := by
  cases D with
  | nil => exact absurd rfl h0
  | cons c D =>
    have h := (dgl_iff c).1 (hD c (by simp))
    have n : ∀ k : UInt8, (c.toNat < k.toNat ∨ k.toNat < c.toNat) → c ≠ k := by rintro k hk rfl; omega
    exact ⟨n 124 (by left; show _ < 124; omega), n 38 (by right; show 38 < _; omega), n 61 (by left; show _ < 61; omega), n 60 (by left; show _ < 60; omega), n 62 (by left; show _ < 62; omega)⟩
theorem okB_par (t : List UInt8) : okB (40 :: t) := by exact ⟨by show (40 : UInt8) ≠ _; decide, by show (40 : UInt8) ≠ _; decide, by show (40 : UInt8) ≠ _; decide, by show (40 : UInt8) ≠ _; decide, by show (40 : UInt8) ≠ _; decide⟩
theorem okA_nil : okA [] := ⟨rfl, rfl⟩
theorem okA_par (t : List UInt8) : okA (41 :: t) := ⟨rfl, rfl⟩
/-- two operands of digits, within parentheses -/
theorem two_par (K : Kn) (r p : Nat) (hp : p < 18) {A B : List UInt8} (a0 : A ≠ []) (b0 : B ≠ []) (hA : ∀ c ∈ A, dgl c = true) (hB : ∀ c ∈ B, dgl c = true) (z : Bool) :
    Opd K (r + 1) (40 :: (A ++ (opT p ++ B)) ++ [41]) (K.dop (opN p) (K.num A) (K.num B) z).1 z (K.dop (opN p) (K.num A) (K.num B) z).2 := by
  refine Opd.par K (r + 1) (fun t => ?_)
  have h := F_two K r 1 p (by omega) hp (lev_opN p hp) (g := []) (g' := []) (by simp) (by simp) (Opd.dig K r z a0 hA) (Opd.dig K r z b0 hB) (t := 41 :: t)
    (okA_op p hp _ (okB_dig b0 hB _)) (okB_dig b0 hB _) (okA_par t) (.inr (by rfl))
  rw [exR_succ]
  simp only [List.nil_append] at h
  rw [show A ++ (opT p ++ B) ++ 41 :: t = A ++ (opT p ++ (B ++ 41 :: t)) from by simp, h]
  rfl
section
variable (K : Kn) (r p q : Nat) (hp : p < 18) (hq : q < 18) {A B C : List UInt8} (a0 : A ≠ []) (b0 : B ≠ []) (c0 : C ≠ []) (hA : ∀ c ∈ A, dgl c = true) (hB : ∀ c ∈ B, dgl c = true) (hC : ∀ c ∈ C, dgl c = true)
include hp hq a0 b0 c0 hA hB hC
theorem left_plain (h : lev (opN q) ≤ lev (opN p)) (z : Bool) : exR K (r + 1) (A ++ (opT p ++ (B ++ (opT q ++ C)))) z =
    .ok ((K.dop (opN q) (K.dop (opN p) (K.num A) (K.num B) z).1 (K.num C) (K.dop (opN p) (K.num A) (K.num B) z).2).1, [], (K.dop (opN q) (K.dop (opN p) (K.num A) (K.num B) z).1 (K.num C) (K.dop (opN p) (K.num A) (K.num B) z).2).2) := by
  obtain ⟨f1, f2, f3, _, _⟩ := opT_facts q hq C (by have := okB_dig c0 hC []; rwa [List.append_nil] at this)
  have hCB : okB C := by have := okB_dig c0 hC []; rwa [List.append_nil] at this
  have h1 := lev_opN q hq
  have h2 := lev_opN p hp
  rw [exR_succ, F_eq K r (by omega), Opd.dig K r z a0 hA _ (okA_op p hp _ (okB_dig b0 hB _)), bd_ok]
  have e1 := it_opn K r 1 p hp h2 (g := []) (by simp) (okB_dig b0 hB (opT q ++ C)) (K.num A) z (F_one K r (lev (opN p) + 1) (by omega) (Opd.dig K r z b0 hB) (okA_op q hq C hCB) (by rw [f3, f1]; left; omega))
  rw [List.nil_append, f3] at e1
  rw [e1]
  have hF := F_one K r (lev (opN q) + 1) (by omega) (t := []) (Opd.dig K r (K.dop (opN p) (K.num A) (K.num B) z).2 c0 hC) okA_nil (.inr (by decide))
  rw [List.append_nil] at hF
  have e2 := it_opn K r 1 q hq h1 (g := []) (by simp) hCB (K.dop (opN p) (K.num A) (K.num B) z).1 (K.dop (opN p) (K.num A) (K.num B) z).2 hF
  rw [List.nil_append] at e2
  rw [e2, it_end K r 1 _ _ _ (.inr (by decide))]
  rfl
theorem left_par (z : Bool) : exR K (r + 1 + 1) (40 :: (A ++ (opT p ++ B)) ++ [41] ++ (opT q ++ C)) z =
    .ok ((K.dop (opN q) (K.dop (opN p) (K.num A) (K.num B) z).1 (K.num C) (K.dop (opN p) (K.num A) (K.num B) z).2).1, [], (K.dop (opN q) (K.dop (opN p) (K.num A) (K.num B) z).1 (K.num C) (K.dop (opN p) (K.num A) (K.num B) z).2).2) := by
  have hCB := okB_dig c0 hC []
  have h := F_two K (r + 1) 1 q (by omega) hq (lev_opN q hq) (g := []) (g' := []) (by simp) (by simp) (two_par K r p hp a0 b0 hA hB z) (Opd.dig K (r + 1) _ c0 hC) (t := [])
    (okA_op q hq _ hCB) hCB okA_nil (.inr (by decide))
  simp only [List.nil_append, List.append_nil] at h
  rw [exR_succ, h]
  rfl
theorem right_plain (h : lev (opN p) < lev (opN q)) (z : Bool) : exR K (r + 1) (A ++ (opT p ++ (B ++ (opT q ++ C)))) z =
    .ok ((K.dop (opN p) (K.num A) (K.dop (opN q) (K.num B) (K.num C) z).1 (K.dop (opN q) (K.num B) (K.num C) z).2).1, [], (K.dop (opN p) (K.num A) (K.dop (opN q) (K.num B) (K.num C) z).1 (K.dop (opN q) (K.num B) (K.num C) z).2).2) := by
  have hCB := okB_dig c0 hC []
  have h1 := lev_opN q hq
  have h2 := lev_opN p hp
  have hi := F_two K r (lev (opN p) + 1) q (by omega) hq (by omega) (g := []) (g' := []) (by simp) (by simp) (Opd.dig K r z b0 hB) (Opd.dig K r z c0 hC) (t := [])
    (okA_op q hq _ hCB) hCB okA_nil (.inr (by decide))
  simp only [List.nil_append, List.append_nil] at hi
  rw [exR_succ, F_eq K r (by omega), Opd.dig K r z a0 hA _ (okA_op p hp _ (okB_dig b0 hB _)), bd_ok]
  have e1 := it_opn K r 1 p hp h2 (g := []) (by simp) (okB_dig b0 hB (opT q ++ C)) (K.num A) z hi
  rw [List.nil_append] at e1
  rw [e1, it_end K r 1 _ _ _ (.inr (by decide))]
  rfl
theorem right_par (z : Bool) : exR K (r + 1 + 1) (A ++ (opT p ++ (40 :: (B ++ (opT q ++ C)) ++ [41]))) z =
    .ok ((K.dop (opN p) (K.num A) (K.dop (opN q) (K.num B) (K.num C) z).1 (K.dop (opN q) (K.num B) (K.num C) z).2).1, [], (K.dop (opN p) (K.num A) (K.dop (opN q) (K.num B) (K.num C) z).1 (K.dop (opN q) (K.num B) (K.num C) z).2).2) := by
  have h := F_two K (r + 1) 1 p (by omega) hp (lev_opN p hp) (g := []) (g' := []) (by simp) (by simp) (Opd.dig K (r + 1) z a0 hA) (two_par K r q hq b0 c0 hB hC z) (t := [])
    (okA_op p hp _ (okB_par _)) (okB_par _) okA_nil (.inr (by decide))
  simp only [List.nil_append, List.append_nil] at h
  rw [exR_succ, h]
  rfl
end
end Go.Proofs.YtpjbklajjikgjaaDoor.Ar
