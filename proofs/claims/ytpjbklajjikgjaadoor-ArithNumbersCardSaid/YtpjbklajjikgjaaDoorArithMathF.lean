/- Operators by their place in the law's list; operands; two operators. -/
import Derived.Test.YtpjbklajjikgjaaDoorArithMathE
namespace Go.Proofs.YtpjbklajjikgjaaDoor.Ar

/-- the operators in the law's order -/
def opT : Nat → List UInt8
  | 0 => [124, 124] | 1 => [38, 38] | 2 => [124] | 3 => [94] | 4 => [38] | 5 => [61, 61] | 6 => [33, 61] | 7 => [60] | 8 => [60, 61]
  | 9 => [62] | 10 => [62, 61] | 11 => [60, 60] | 12 => [62, 62] | 13 => [43] | 14 => [45] | 15 => [42] | 16 => [47] | _ => [37]
def opN : Nat → Nat
  | 0 => 1 | 1 => 2 | 2 => 3 | 3 => 4 | 4 => 5 | 5 => 6 | 6 => 7 | 7 => 10 | 8 => 8
  | 9 => 11 | 10 => 9 | 11 => 12 | 12 => 13 | 13 => 14 | 14 => 15 | 15 => 16 | 16 => 17 | _ => 18
theorem lev_opN (i : Nat) (h : i < 18) : 1 ≤ lev (opN i) := by
  have : ∀ i : Fin 18, 1 ≤ lev (opN i.1) := by decide
  exact this ⟨i, h⟩
/-- what may stand behind an operator -/
def okB (t : List UInt8) : Prop := t.headD 0 ≠ 124 ∧ t.headD 0 ≠ 38 ∧ t.headD 0 ≠ 61 ∧ t.headD 0 ≠ 60 ∧ t.headD 0 ≠ 62
theorem opT_facts (i : Nat) (hi : i < 18) (t : List UInt8) (h : okB t) : opc (opT i ++ t) = opN i ∧ (opT i ++ t).drop (ow (opN i)) = t ∧ sk (opT i ++ t) = opT i ++ t ∧ dgl ((opT i ++ t).headD 0) = false ∧ stl ((opT i ++ t).headD 0) = false := by
  obtain ⟨h1, h2, h3, h4, h5⟩ := h
  have hc : i = 0 ∨ i = 1 ∨ i = 2 ∨ i = 3 ∨ i = 4 ∨ i = 5 ∨ i = 6 ∨ i = 7 ∨ i = 8 ∨ i = 9 ∨ i = 10 ∨ i = 11 ∨ i = 12 ∨ i = 13 ∨ i = 14 ∨ i = 15 ∨ i = 16 ∨ i = 17 := by omega
  rcases hc with rfl | rfl | rfl | rfl | rfl | rfl | rfl | rfl | rfl | rfl | rfl | rfl | rfl | rfl | rfl | rfl | rfl | rfl
  all_goals
    refine ⟨?_, rfl, rfl, by rfl, by rfl⟩
    unfold opc
    simp only [opT, opN, List.cons_append, List.nil_append, List.headD_cons, List.tail_cons]
    unfold opc2
    simp [h1, h2, h3, h4, h5, -List.headD_eq_head?_getD]
theorem sk_blks {g : List UInt8} (hg : ∀ c ∈ g, blk c = true) (l : List UInt8) : sk (g ++ l) = sk l := by
  induction g with
  | nil => rfl
  | cons c g ih =>
    rw [List.cons_append]
    show List.dropWhile blk (c :: (g ++ l)) = _
    rw [List.dropWhile_cons, if_pos (hg c (by simp))]
    exact ih (fun d hd => hg d (by simp [hd]))
theorem una_blks (K : Kn) (E : Ex) {g : List UInt8} (hg : ∀ c ∈ g, blk c = true) (l : List UInt8) (z : Bool) : una K E (g ++ l) z = una K E l z := by
  induction g with
  | nil => rfl
  | cons c g ih => rw [List.cons_append, una_blk K E _ z (hg c (by simp)), ih (fun d hd => hg d (by simp [hd]))]
theorem F_blks (K : Kn) (r L : Nat) (hL : 1 ≤ L) {g : List UInt8} (hg : ∀ c ∈ g, blk c = true) (l : List UInt8) (z : Bool) : F K r L (g ++ l) z = F K r L l z := by
  rw [F_eq K r hL, F_eq K r hL, una_blks K _ hg]
/-- what may stand behind an operand -/
def okA (t : List UInt8) : Prop := dgl (t.headD 0) = false ∧ stl (t.headD 0) = false
/-- an operand -/
def Opd (K : Kn) (r : Nat) (A : List UInt8) (v : Int) (z z' : Bool) : Prop := ∀ t, okA t → una K (exR K r) (A ++ t) z = .ok (v, t, z')
theorem Opd.dig (K : Kn) (r : Nat) {D : List UInt8} (z : Bool) (h0 : D ≠ []) (hD : ∀ c ∈ D, dgl c = true) : Opd K r D (K.num D) z z := fun _ ht => una_dig K _ z h0 hD ht.1
theorem Opd.par (K : Kn) (r : Nat) {A : List UInt8} {v : Int} {z z' : Bool} (h : ∀ t, exR K r (A ++ 41 :: t) z = .ok (v, 41 :: t, z')) : Opd K r (40 :: A ++ [41]) v z z' := fun t _ => by
  rw [show 40 :: A ++ [41] ++ t = 40 :: (A ++ 41 :: t) from by simp, una_par, h t, bd_ok, clo_ok]
theorem F_one (K : Kn) (r L : Nat) (hL : 1 ≤ L) {A t : List UInt8} {v : Int} {z z' : Bool} (hA : Opd K r A v z z') (hk : okA t) (ht : lev (opc (sk t)) < L ∨ lev (opc (sk t)) = 0) : F K r L (A ++ t) z = .ok (v, sk t, z') := by
  rw [F_eq K r hL, hA t hk, bd_ok, it_end K r L v t z' ht]
/-- an operator on the way -/
theorem it_opn (K : Kn) (r L i : Nat) (hi : i < 18) (hL : L ≤ lev (opN i)) {g w : List UInt8} (hg : ∀ c ∈ g, blk c = true) (hw : okB w) (v : Int) (z : Bool) {b : Int} {u' : List UInt8} {z' : Bool}
    (hF : F K r (lev (opN i) + 1) w z = .ok (b, u', z')) :
    it (stF K r L) (v, g ++ (opT i ++ w), z) = it (stF K r L) ((K.dop (opN i) v b z').1, u', (K.dop (opN i) v b z').2) := by
  obtain ⟨f1, f2, f3, _, _⟩ := opT_facts i hi w hw
  have h1 := lev_opN i hi
  have hs : sk (g ++ (opT i ++ w)) = opT i ++ w := by rw [sk_blks hg, f3]
  have := it_go K r L v (g ++ (opT i ++ w)) z (by rw [hs, f1]; omega) (b := b) (u' := u') (z' := z') (by rw [hs, f1, f2]; exact hF)
  rw [this, hs, f1]
/-- two operands -/
theorem F_two (K : Kn) (r L i : Nat) (hL1 : 1 ≤ L) (hi : i < 18) (hL : L ≤ lev (opN i)) {g g' A B t : List UInt8} (hg : ∀ c ∈ g, blk c = true) (hg' : ∀ c ∈ g', blk c = true) {a b : Int} {z z1 z2 : Bool}
    (hA : Opd K r A a z z1) (hB : Opd K r B b z1 z2) (hok : okA (g ++ (opT i ++ (g' ++ (B ++ t))))) (hw : okB (g' ++ (B ++ t))) (ht : okA t) (he : lev (opc (sk t)) < L ∨ lev (opc (sk t)) = 0) :
    F K r L (A ++ (g ++ (opT i ++ (g' ++ (B ++ t))))) z = .ok ((K.dop (opN i) a b z2).1, sk t, (K.dop (opN i) a b z2).2) := by
  rw [F_eq K r hL1, hA _ hok, bd_ok, it_opn K r L i hi hL hg hw a z1 (b := b) (u' := sk t) (z' := z2)]
  · rw [it_end K r L _ _ _ (by rw [sk_sk]; exact he), sk_sk]
  · rw [F_blks K r _ (by omega) hg']
    exact F_one K r _ (by omega) hB ht (by omega)
end Go.Proofs.YtpjbklajjikgjaaDoor.Ar
