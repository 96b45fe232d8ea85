/- Parsing texts that are put together: digits, signs, blanks, parentheses, operators. -/
import Derived.Test.YtpjbklajjikgjaaDoorArithRefH
namespace Go.Proofs.YtpjbklajjikgjaaDoor.Ar

/-- an expression within r parentheses yet to come, from the level L on -/
def F (K : Kn) (r L : Nat) : Ex := frm K (exR K r) 10 L
theorem exR_suf (K : Kn) (r : Nat) : SufE (exR K r) := by rw [← ex_same]; exact exB_suf K r
theorem exR_succ (K : Kn) (r : Nat) (l : List UInt8) (z : Bool) : exR K (r + 1) l z = F K r 1 l z := rfl
theorem F_suf (K : Kn) (r L : Nat) : SufE (F K r L) := frm_suf (exR_suf K r) 10 L
def stF (K : Kn) (r L : Nat) : Step := stepR K L (fun k => F K r (k + 1))
theorem stF_dec (K : Kn) (r L : Nat) : Dec (stF K r L) := stepR_dec (fun k => F_suf K r (k + 1))
theorem F_eq (K : Kn) (r : Nat) {L : Nat} (hL : 1 ≤ L) (l : List UInt8) (z : Bool) : F K r L l z = bd (una K (exR K r) l z) (it (stF K r L)) := frm_eq7 (exR_suf K r) hL l z
/-- nothing more -/
theorem it_end (K : Kn) (r L : Nat) (v : Int) (u : List UInt8) (z : Bool) (h : lev (opc (sk u)) < L ∨ lev (opc (sk u)) = 0) : it (stF K r L) (v, u, z) = .ok (v, sk u, z) := by
  apply it_out (stF_dec K r L)
  unfold stF stepR
  rw [if_pos h]
theorem it_go (K : Kn) (r L : Nat) (v : Int) (u : List UInt8) (z : Bool) (h : ¬ (lev (opc (sk u)) < L ∨ lev (opc (sk u)) = 0)) {b : Int} {u' : List UInt8} {z' : Bool}
    (hF : F K r (lev (opc (sk u)) + 1) ((sk u).drop (ow (opc (sk u)))) z = .ok (b, u', z')) :
    it (stF K r L) (v, u, z) = it (stF K r L) ((K.dop (opc (sk u)) v b z').1, u', (K.dop (opc (sk u)) v b z').2) := by
  apply it_on (stF_dec K r L)
  unfold stF stepR
  rw [if_neg h]
  show (match F K r (lev (opc (sk u)) + 1) ((sk u).drop (ow (opc (sk u)))) z with | .error e => _ | .ok (b, u, z) => _) = _
  rw [hF]
theorem it_bad (K : Kn) (r L : Nat) (v : Int) (u : List UInt8) (z : Bool) (h : ¬ (lev (opc (sk u)) < L ∨ lev (opc (sk u)) = 0)) {e : Nat}
    (hF : F K r (lev (opc (sk u)) + 1) ((sk u).drop (ow (opc (sk u)))) z = .error e) :
    it (stF K r L) (v, u, z) = .error e := by
  apply it_error (stF_dec K r L)
  unfold stF stepR
  rw [if_neg h]
  show (match F K r (lev (opc (sk u)) + 1) ((sk u).drop (ow (opc (sk u)))) z with | .error e => _ | .ok (b, u, z) => _) = _
  rw [hF]
/-- what stands ahead of no sign and no blank -/
theorem sgn_none {c : UInt8} {l : List UInt8} (h1 : blk c = false) (h2 : isSg c (l.headD 0) = false) : sgn (c :: l) = ([], c :: l) := by
  rw [sgn, if_neg (by simp [h1]), if_neg (by rw [h2]; decide)]
theorem sgn_blk {c : UInt8} {l : List UInt8} (h1 : blk c = true) : sgn (c :: l) = sgn l := by
  rw [sgn, if_pos h1]
theorem una_blk (K : Kn) (E : Ex) {c : UInt8} (l : List UInt8) (z : Bool) (h1 : blk c = true) : una K E (c :: l) z = una K E l z := by
  unfold una; rw [sgn_blk h1]
theorem una_none (K : Kn) (E : Ex) {c : UInt8} {l : List UInt8} (z : Bool) (h1 : blk c = false) (h2 : isSg c (l.headD 0) = false) : una K E (c :: l) z = prim K E (c :: l) z := by
  unfold una
  rw [sgn_none h1 h2]
  cases prim K E (c :: l) z <;> rfl
/-- a sign -/
theorem una_sg (K : Kn) (E : Ex) {c : UInt8} {l : List UInt8} (z : Bool) (h1 : blk c = false) (h2 : isSg c (l.headD 0) = true) :
    una K E (c :: l) z = bd (una K E l z) fun x => .ok (K.ap c x.1, x.2.1, x.2.2) := by
  unfold una
  rw [sgn, if_neg (by simp [h1]), if_pos h2, bd_assoc]
  rfl
theorem dgl_facts {c : UInt8} (h : dgl c = true) : blk c = false ∧ (∀ d, isSg c d = false) ∧ c ≠ 40 ∧ stl c = false := by
  have h1 := (dgl_iff c).1 h
  have n : ∀ k : UInt8, (c.toNat < k.toNat ∨ k.toNat < c.toNat) → c ≠ k := by rintro k hk rfl; omega
  refine ⟨?_, ?_, n 40 (by right; show 40 < _; omega), ?_⟩
  · simp only [blk, Bool.or_eq_false_iff, beq_eq_false_iff_ne]
    exact ⟨⟨n 32 (by right; show 32 < _; omega), n 9 (by right; show 9 < _; omega)⟩, n 10 (by right; show 10 < _; omega)⟩
  · intro d
    have e1 : (c == 43) = false := by simpa using n 43 (by right; show 43 < _; omega)
    have e2 : (c == 45) = false := by simpa using n 45 (by right; show 45 < _; omega)
    have e3 : (c == 126) = false := by simpa using n 126 (by left; show _ < 126; omega)
    have e4 : (c == 33) = false := by simpa using n 33 (by right; show 33 < _; omega)
    simp [isSg, e1, e2, e3, e4]
  · have a1 : ¬ (97 : UInt8) ≤ c := by rw [UInt8.le_iff_toNat_le]; show ¬ 97 ≤ _; omega
    have a2 : ¬ (65 : UInt8) ≤ c := by rw [UInt8.le_iff_toNat_le]; show ¬ 65 ≤ _; omega
    have a3 : (c == 95) = false := by simpa using n 95 (by left; show _ < 95; omega)
    simp [stl, a1, a2, a3]
theorem take_dgl {D t : List UInt8} (hD : ∀ c ∈ D, dgl c = true) (ht : dgl (t.headD 0) = false) : (D ++ t).takeWhile dgl = D := by
  induction D with
  | nil => cases t with
    | nil => rfl
    | cons c t => simp only [List.nil_append, List.takeWhile_cons]; rw [if_neg (by simpa using ht)]
  | cons c D ih =>
    rw [List.cons_append, List.takeWhile_cons, if_pos (hD c (by simp)), ih (fun d hd => hD d (by simp [hd]))]
/-- digits -/
theorem una_dig (K : Kn) (E : Ex) {D t : List UInt8} (z : Bool) (h0 : D ≠ []) (hD : ∀ c ∈ D, dgl c = true) (ht : dgl (t.headD 0) = false) : una K E (D ++ t) z = .ok (K.num D, t, z) := by
  have hg : dgn (D ++ t) = D.length := by unfold dgn; rw [take_dgl hD ht]
  cases D with
  | nil => exact absurd rfl h0
  | cons c D =>
    obtain ⟨f1, f2, f3, f4⟩ := dgl_facts (hD c (by simp))
    rw [List.cons_append, una_none K E z f1 (f2 _)]
    rw [List.cons_append] at hg
    unfold prim
    rw [hg, if_neg (by simpa using f3), if_neg (by simp [nmn, f4]), if_pos (by simp)]
    rw [← List.cons_append, List.take_left, List.drop_left]
/-- parentheses -/
theorem una_par (K : Kn) (E : Ex) (l : List UInt8) (z : Bool) : una K E (40 :: l) z = bd (E l z) clo := by
  rw [una_none K E z (by rfl) (by cases l <;> rfl)]
  unfold prim
  rw [if_pos (show (40 :: l).headD 0 = (40 : UInt8) from rfl)]
  rfl
theorem clo_ok (v : Int) (t : List UInt8) (z : Bool) : clo (v, 41 :: t, z) = .ok (v, t, z) := by
  unfold clo
  have : sk (41 :: t) = 41 :: t := rfl
  simp only [this]
  rfl
theorem F_par_ok (K : Kn) (r L : Nat) (hL : 1 ≤ L) {l t : List UInt8} {z z' : Bool} {v : Int} (h : exR K r l z = .ok (v, 41 :: t, z')) (ht : lev (opc (sk t)) < L ∨ lev (opc (sk t)) = 0) : F K r L (40 :: l) z = .ok (v, sk t, z') := by
  rw [F_eq K r hL, una_par, h, bd_ok, clo_ok, bd_ok, it_end K r L v t z' ht]
/-- digits within n parentheses -/
theorem deep_ok (K : Kn) {D : List UInt8} (h0 : D ≠ []) (hD : ∀ c ∈ D, dgl c = true) : ∀ (n r : Nat) (t : List UInt8) (z : Bool), n < r → sk t = t → lev (opc t) = 0 → dgl (t.headD 0) = false →
    exR K r (List.replicate n 40 ++ D ++ List.replicate n 41 ++ t) z = .ok (K.num D, t, z)
  | 0, r + 1, t, z, _, h1, h2, h3 => by
    rw [exR_succ, F_eq K r (by omega)]
    show bd (una K (exR K r) ([] ++ D ++ [] ++ t) z) _ = _
    rw [List.nil_append, List.append_nil, una_dig K _ z h0 hD h3, bd_ok, it_end K r 1 _ _ _ (by rw [h1]; right; exact h2), h1]
  | n + 1, r + 1, t, z, h, h1, h2, h3 => by
    have ih := deep_ok K h0 hD n r (41 :: t) z (by omega) rfl (by rfl) (by rfl)
    rw [exR_succ, List.replicate_succ, List.replicate_succ']
    show F K r 1 (40 :: (List.replicate n 40 ++ D ++ (List.replicate n 41 ++ [41]) ++ t)) z = _
    rw [show List.replicate n 40 ++ D ++ (List.replicate n 41 ++ [41]) ++ t = List.replicate n (40 : UInt8) ++ D ++ List.replicate n 41 ++ 41 :: t from by simp]
    rw [F_par_ok K r 1 (by omega) ih (by rw [h1]; right; exact h2), h1]
  | n, 0, t, z, h, _, _, _ => by omega
theorem deep_bad (K : Kn) (D : List UInt8) : ∀ (r n : Nat) (t : List UInt8) (z : Bool), r ≤ n → exR K r (List.replicate n 40 ++ t) z = .error 3
  | 0, n, t, z, _ => rfl
  | r + 1, n + 1, t, z, h => by
    have ih := deep_bad K D r n t z (by omega)
    rw [exR_succ, List.replicate_succ, F_eq K r (by omega), List.cons_append, una_par, ih]
    rfl
end Go.Proofs.YtpjbklajjikgjaaDoor.Ar
