/- Numbers as texts, below nought too, and two of them with an operator between. -/
import Derived.Test.YtpjbklajjikgjaaDoorArithMathK
namespace Go.Proofs.YtpjbklajjikgjaaDoor
open Go.RowKit Go.Deep Qm.Base

/-- the least number's digits -/
def minD : List UInt8 := [57, 50, 50, 51, 51, 55, 50, 48, 51, 54, 56, 53, 52, 55, 55, 53, 56, 48, 56]
/-- a number as Go prints it -/
def intB (a : Int) : List UInt8 := if a = -9223372036854775808 then 45 :: minD else if a < 0 then 45 :: dB (-a).toNat else dB a.toNat
/-- a text is a number's -/
def IntT (l : List UInt8) (a : Int) : Prop := ∃ s D, l = s ++ D ∧ D ≠ [] ∧ (∀ c ∈ D, Ar.dgl c = true) ∧ D.length ≤ 19 ∧ ((s = [] ∧ nI D = a) ∨ (s = [45] ∧ wrap64 (-(nI D)) = a))
theorem intB_form (a : Int) (h : -9223372036854775808 ≤ a ∧ a ≤ 9223372036854775807) : IntT (intB a) a := by
  unfold intB
  split
  · rename_i h1
    subst h1
    refine ⟨[45], minD, rfl, by decide, by decide, by decide, .inr ⟨rfl, ?_⟩⟩
    have e : numN minD = 9223372036854775808 := by decide
    unfold nI
    rw [e]
    unfold wrap64
    omega
  · split
    · obtain ⟨n, hn⟩ : ∃ n : Nat, a = -(n : Int) := ⟨a.natAbs, by omega⟩
      subst hn
      rw [show (-(-(n : Int))).toNat = n from by omega]
      have hn : n ≤ 9223372036854775807 := by omega
      refine ⟨[45], dB n, rfl, dB_pos n, dB_dgl n, dB_len n hn, .inr ⟨rfl, ?_⟩⟩
      rw [nI_dB n hn]
      unfold wrap64
      omega
    · obtain ⟨n, hn⟩ : ∃ n : Nat, a = (n : Int) := ⟨a.toNat, by omega⟩
      subst hn
      rw [show ((n : Int)).toNat = n from by omega]
      have hn : n ≤ 9223372036854775807 := by omega
      exact ⟨[], dB n, rfl, dB_pos n, dB_dgl n, dB_len n hn, .inl ⟨rfl, nI_dB n hn⟩⟩
theorem IntT.len {l : List UInt8} {a : Int} (h : IntT l a) : l.length ≤ 20 := by
  obtain ⟨s, D, rfl, _, _, hl, h⟩ := h
  rcases h with ⟨rfl, _⟩ | ⟨rfl, _⟩ <;> simp <;> omega
theorem KP_nv (P : List Pr) (l : List UInt8) : (KP P).nv l = nvF P ⟨l.toArray⟩ := rfl
/-- such a text within parentheses -/
theorem IntT.par {l : List UInt8} {a : Int} (h : IntT l a) (P : List Pr) (r : Nat) (z : Bool) : Ar.Opd (KP P) (r + 1) (40 :: l ++ [41]) a z z := by
  obtain ⟨s, D, rfl, h0, hD, hl, h⟩ := h
  refine Ar.Opd.par (KP P) (r + 1) (fun t => ?_)
  rw [Ar.exR_succ, Ar.F_eq _ _ (by omega)]
  have hu := Ar.Opd.dig (KP P) r z h0 hD (41 :: t) (Ar.okA_par t)
  have hend : ∀ v, Ar.it (Ar.stF (KP P) r 1) (v, 41 :: t, z) = .ok (v, 41 :: t, z) := fun v => Ar.it_end _ _ _ _ _ _ (.inr (by rfl))
  rcases h with ⟨rfl, h⟩ | ⟨rfl, h⟩
  · rw [List.nil_append, hu, Ar.bd_ok, hend]
    have hn : (KP P).num D = a := h
    rw [hn]
  · have h61 : (D ++ 41 :: t).headD 0 ≠ 61 := (Ar.okB_dig h0 hD (41 :: t)).2.2.1
    rw [List.append_assoc]
    show Ar.bd (Ar.una (KP P) _ (45 :: (D ++ 41 :: t)) z) _ = _
    rw [Ar.una_sg _ _ _ (by rfl) (by simp [Ar.isSg]), hu, Ar.bd_ok, Ar.bd_ok]
    have hn : (KP P).ap 45 ((KP P).num D) = a := by
      have h2 : (KP P).ap 45 ((KP P).num D) = apV 45 (nI D) := rfl
      rw [h2, apV, if_pos rfl, h]
    rw [hn, hend]
theorem dig_noblk {c : UInt8} (h : Ar.dgl c = true) : Ar.blk c = false := (Ar.dgl_facts h).1
theorem trR_dig {s D : List UInt8} (h0 : D ≠ []) (hD : ∀ c ∈ D, Ar.dgl c = true) : trR (s ++ D) = s ++ D := by
  unfold trR
  rw [List.reverse_append]
  cases hr : D.reverse with
  | nil => exact absurd (by simpa using hr) h0
  | cons c l =>
    have hc : c ∈ D := by
      have : c ∈ D.reverse := by rw [hr]; simp
      simpa using this
    rw [List.cons_append, List.dropWhile_cons, if_neg (by rw [dig_noblk (hD c hc)]; decide)]
    have := congrArg List.reverse hr
    rw [List.reverse_reverse] at this
    rw [this]
    simp
/-- such a text as a value -/
theorem IntT.val {l : List UInt8} {a : Int} (h : IntT l a) : valT (trB l) = .ok a := by
  obtain ⟨s, D, rfl, h0, hD, hl, h⟩ := h
  have hall : D.all Ar.dgl = true := by simpa using hD
  have hd2 : dig2 D = (nI D, true) := by
    unfold dig2
    rw [if_pos hall]
    cases D with
    | nil => exact absurd rfl h0
    | cons c D => rfl
  have hne : ∀ c : UInt8, Ar.blk c = false → ∀ l : List UInt8, Ar.sk (c :: l) = c :: l := by
    intro c hc l
    show List.dropWhile Ar.blk (c :: l) = _
    rw [List.dropWhile_cons, if_neg (by rw [hc]; decide)]
  rcases h with ⟨rfl, h⟩ | ⟨rfl, h⟩
  · have hs : Ar.sk ([] ++ D) = [] ++ D := by
      cases D with
      | nil => exact absurd rfl h0
      | cons c D => exact hne c (dig_noblk (hD c (by simp))) D
    rw [trB_eq, hs, trR_dig h0 hD, List.nil_append]
    have h45 : D.headD 0 ≠ 45 := by
      cases D with
      | nil => exact absurd rfl h0
      | cons c D =>
        have h1 := (dgl_iff c).1 (hD c (by simp))
        rintro (rfl : c = 45)
        have : (45 : UInt8).toNat = 45 := rfl
        omega
    unfold valT
    rw [if_neg h0, if_neg h45, hd2, if_pos rfl, h]
  · have hs : Ar.sk ([45] ++ D) = [45] ++ D := hne 45 (by rfl) D
    rw [trB_eq, hs, trR_dig h0 hD]
    show valT (45 :: D) = _
    unfold valT
    rw [if_neg (by simp), if_pos (show (45 :: D).headD 0 = (45 : UInt8) from rfl)]
    rw [List.tail_cons, hd2, if_pos rfl, h]
/-- what an operator makes of two numbers -/
def numV (i : Nat) (a b : Int) : Int × Nat := if (i = 16 ∨ i = 17) ∧ b = 0 then (0, 15) else (dopV (Ar.opN i) a b, 0)
theorem dopZ_opN (i : Nat) (hi : i < 18) (b : Int) : dopZ (Ar.opN i) b false = decide ((i = 16 ∨ i = 17) ∧ b = 0) := by
  unfold dopZ
  have hc : i = 0 ∨ i = 1 ∨ i = 2 ∨ i = 3 ∨ i = 4 ∨ i = 5 ∨ i = 6 ∨ i = 7 ∨ i = 8 ∨ i = 9 ∨ i = 10 ∨ i = 11 ∨ i = 12 ∨ i = 13 ∨ i = 14 ∨ i = 15 ∨ i = 16 ∨ i = 17 := by omega
  by_cases hb : b = 0
  · subst hb
    rcases hc with rfl | rfl | rfl | rfl | rfl | rfl | rfl | rfl | rfl | rfl | rfl | rfl | rfl | rfl | rfl | rfl | rfl | rfl <;> rfl
  · rw [if_neg (fun h => hb h.2)]
    symm
    rw [decide_eq_false_iff_not]
    exact fun h => hb h.2
theorem wholeF_num (i : Nat) (hi : i < 18) (P : List Pr) (a b : Int) : wholeF (.ok (((KP P).dop (Ar.opN i) a b false).1, Ar.sk [], ((KP P).dop (Ar.opN i) a b false).2)) = numV i a b := by
  show (if Ar.sk (Ar.sk []) = [] then (if dopZ (Ar.opN i) b false = true then ((0 : Int), 15) else (dopV (Ar.opN i) a b, 0)) else (0, 2)) = numV i a b
  rw [if_pos (by rfl), dopZ_opN i hi]
  unfold numV
  by_cases h : (i = 16 ∨ i = 17) ∧ b = 0
  · rw [if_pos (by simpa using h), if_pos h]
  · rw [if_neg (by simpa using h), if_neg h]
/-- blanks, or none -/
def blG (q : Bool) : List UInt8 := if q = true then [32, 9, 10] else []
theorem blG_blk (q : Bool) : ∀ c ∈ blG q, Ar.blk c = true := by cases q <;> decide
theorem okA_bl (q : Bool) (i : Nat) (hi : i < 18) (t : List UInt8) (h : Ar.okB t) : Ar.okA (blG q ++ (Ar.opT i ++ t)) := by
  cases q with
  | false => exact Ar.okA_op i hi t h
  | true => exact ⟨rfl, rfl⟩
theorem okB_bl (q : Bool) {t : List UInt8} (h : Ar.okB t) : Ar.okB (blG q ++ t) := by
  cases q with
  | false => exact h
  | true => exact ⟨by show (32 : UInt8) ≠ _; decide, by show (32 : UInt8) ≠ _; decide, by show (32 : UInt8) ≠ _; decide, by show (32 : UInt8) ≠ _; decide, by show (32 : UInt8) ≠ _; decide⟩
theorem num_par (P : List Pr) (A B : List UInt8) (a b : Int) (hA : IntT A a) (hB : IntT B b) (i : Nat) (hi : i < 18) (q : Bool) (hT : (Ar.opT i).length ≤ 2) :
    evalF P (bs (40 :: A ++ [41] ++ (blG q ++ (Ar.opT i ++ (blG q ++ (40 :: B ++ [41])))))) = numV i a b := by
  have la := hA.len
  have lb := hB.len
  have lq : (blG q).length ≤ 3 := by cases q <;> decide
  rw [evalF_F _ _ (by simp only [List.length_append, List.length_cons, List.length_nil]; omega)]
  have := Ar.F_two (KP P) (39 + 1) 1 i (by omega) hi (Ar.lev_opN i hi) (blG_blk q) (blG_blk q) (t := []) (hA.par P 39 false) (hB.par P 39 false)
    (okA_bl q i hi _ (okB_bl q (Ar.okB_par _))) (okB_bl q (Ar.okB_par _)) Ar.okA_nil (.inr (by decide))
  rw [List.append_nil] at this
  rw [this, wholeF_num i hi]
theorem num_names (A B : List UInt8) (a b : Int) (hA : IntT A a) (hB : IntT B b) (i : Nat) (hi : i < 18) (q : Bool) (hT : (Ar.opT i).length ≤ 2) :
    evalF [(⟨#[120]⟩, bs A), (⟨#[121]⟩, bs B)] (bs ([120] ++ (blG q ++ (Ar.opT i ++ (blG q ++ [121]))))) = numV i a b := by
  have lq : (blG q).length ≤ 3 := by cases q <;> decide
  have hx : (KP [(⟨#[120]⟩, bs A), (⟨#[121]⟩, bs B)]).nv [120] = .ok a := by
    rw [KP_nv]
    unfold nvF
    rw [if_neg (by decide)]
    have e : lastV [((⟨#[120]⟩ : ByteArray), bs A), (⟨#[121]⟩, bs B)] ⟨[120].toArray⟩ = bs A := by
      unfold lastV
      simp only [List.foldl_cons, List.foldl_nil]
      rw [if_neg (by decide)]
      simp
    rw [e, bs_list]
    exact hA.val
  have hy : (KP [(⟨#[120]⟩, bs A), (⟨#[121]⟩, bs B)]).nv [121] = .ok b := by
    rw [KP_nv]
    unfold nvF
    rw [if_neg (by decide)]
    have e : lastV [((⟨#[120]⟩ : ByteArray), bs A), (⟨#[121]⟩, bs B)] ⟨[121].toArray⟩ = bs B := by
      unfold lastV
      simp only [List.foldl_cons, List.foldl_nil]
      simp
    rw [e, bs_list]
    exact hB.val
  generalize [((⟨#[120]⟩ : ByteArray), bs A), (⟨#[121]⟩, bs B)] = P at *
  rw [evalF_F _ _ (by simp only [List.length_append, List.length_cons, List.length_nil]; omega)]
  have hoy : ∀ t, Ar.okB ([121] ++ t) := fun t => ⟨by show (121 : UInt8) ≠ _; decide, by show (121 : UInt8) ≠ _; decide, by show (121 : UInt8) ≠ _; decide, by show (121 : UInt8) ≠ _; decide, by show (121 : UInt8) ≠ _; decide⟩
  have := Ar.F_two (KP P) 40 1 i (by omega) hi (Ar.lev_opN i hi) (blG_blk q) (blG_blk q) (t := []) (Ar.Opd.name (KP P) 40 (A := [120]) false (by simp) (by rfl) hx) (Ar.Opd.name (KP P) 40 (A := [121]) false (by simp) (by rfl) hy)
    (okA_bl q i hi _ (okB_bl q (hoy _))) (okB_bl q (hoy _)) Ar.okA_nil (.inr (by decide))
  rw [List.append_nil] at this
  rw [this, wholeF_num i hi]
end Go.Proofs.YtpjbklajjikgjaaDoor
