/- Texts with more behind them, and with fewer parentheses to come: what parsing makes of both. -/
import Derived.Test.YtpjbklajjikgjaaDoorArithMathH
namespace Go.Proofs.YtpjbklajjikgjaaDoor.Ar

/-- what may stand behind: a line's end, or a closing parenthesis and more -/
def Tl (t : List UInt8) : Prop := t = [10] ∨ ∃ t', t = 41 :: t'
/-- a text, and it with t behind (of which blanks may be gone) -/
def Q (t l l' : List UInt8) : Prop := l' = l ++ t ∨ (l = [] ∧ l' = sk t)
/-- two results: of m, the second one may be an error 3 for any number; without m, errors are the same -/
def RR (m : Bool) (t : List UInt8) (x x' : R) : Prop := match x with
  | .error e => (m = true ∧ e ≠ 0) ∨ (m = false ∧ x' = .error e)
  | .ok (v, u, z) => (m = true ∧ x' = .error 3) ∨ ∃ u', x' = .ok (v, u', z) ∧ Q t u u'
theorem RR.three {t : List UInt8} {x : R} (h : ∀ e, x = .error e → e ≠ 0) : RR true t x (.error 3) := by
  cases x with
  | error e => exact .inl ⟨rfl, h e rfl⟩
  | ok y => exact .inl ⟨rfl, rfl⟩
theorem RR.nz {t : List UInt8} {x x' : R} (h : RR true t x x') : ∀ e, x = .error e → e ≠ 0 := by
  rintro e rfl
  rcases h with ⟨_, h⟩ | ⟨h, _⟩
  · exact h
  · cases h
theorem RR.bd {m : Bool} {t : List UInt8} {x x' : R} {f f' : St → R} (h : RR m t x x') (hf : ∀ v u z u', Q t u u' → RR m t (f (v, u, z)) (f' (v, u', z))) (hn : m = true → ∀ v u z e, f (v, u, z) = .error e → e ≠ 0) : RR m t (bd x f) (bd x' f') := by
  cases x with
  | error e =>
    rcases h with ⟨h1, h2⟩ | ⟨h1, rfl⟩
    · exact .inl ⟨h1, h2⟩
    · exact .inr ⟨h1, rfl⟩
  | ok y =>
    obtain ⟨v, u, z⟩ := y
    rcases h with ⟨rfl, rfl⟩ | ⟨u', rfl, hq⟩
    · exact RR.three (hn rfl v u z)
    · exact hf v u z u' hq
section
variable {t : List UInt8} (ht : Tl t)
include ht
theorem Tl.h1 : t.headD 0 = 10 ∨ t.headD 0 = 41 := by
  rcases ht with rfl | ⟨t', rfl⟩
  · exact .inl rfl
  · exact .inr rfl
theorem Tl.ne : t ≠ [] := by
  rcases ht with rfl | ⟨t', rfl⟩ <;> simp
theorem Tl.sk : (Ar.sk t = [] ∧ t = [10]) ∨ Ar.sk t = t := by
  rcases ht with rfl | ⟨t', rfl⟩
  · exact .inl ⟨rfl, rfl⟩
  · exact .inr rfl
theorem Tl.h2 : (Ar.sk t).headD 0 = 0 ∨ (Ar.sk t).headD 0 = 41 := by
  rcases ht with rfl | ⟨t', rfl⟩
  · exact .inl rfl
  · exact .inr rfl
/-- the first byte -/
theorem Q.hd {l l' : List UInt8} (h : Q t l l') : l'.headD 0 = l.headD 0 ∨ (l = [] ∧ (l'.headD 0 = 0 ∨ l'.headD 0 = 10 ∨ l'.headD 0 = 41)) := by
  rcases h with rfl | ⟨rfl, rfl⟩
  · cases l with
    | nil =>
      right
      refine ⟨rfl, ?_⟩
      rw [List.nil_append]
      rcases ht.h1 with h | h
      · exact .inr (.inl h)
      · exact .inr (.inr h)
    | cons c l => exact .inl rfl
  · right
    refine ⟨rfl, ?_⟩
    rcases ht.h2 with h | h
    · exact .inl h
    · exact .inr (.inr h)
theorem Q.hdP {l l' : List UInt8} (h : Q t l l') {α : Type} (f : UInt8 → α) (h1 : f 10 = f 0) (h2 : f 41 = f 0) : f (l'.headD 0) = f (l.headD 0) := by
  rcases h.hd ht with e | ⟨rfl, e | e | e⟩
  · rw [e]
  · rw [e]; rfl
  · rw [e, h1]; rfl
  · rw [e, h2]; rfl
omit ht in
theorem Q.mk (l : List UInt8) : Q t l (l ++ t) := .inl rfl
omit ht in
theorem Q.sk {l l' : List UInt8} (h : Q t l l') : Q t (Ar.sk l) (Ar.sk l') := by
  rcases h with rfl | ⟨rfl, rfl⟩
  · induction l with
    | nil => exact .inr ⟨rfl, rfl⟩
    | cons c l ih =>
      by_cases hc : blk c = true
      · have e1 : Ar.sk (c :: l) = Ar.sk l := by show List.dropWhile blk (c :: l) = _; rw [List.dropWhile_cons, if_pos hc]; rfl
        have e2 : Ar.sk (c :: l ++ t) = Ar.sk (l ++ t) := by show List.dropWhile blk (c :: (l ++ t)) = _; rw [List.dropWhile_cons, if_pos hc]; rfl
        rw [e1, e2]; exact ih
      · have e1 : Ar.sk (c :: l) = c :: l := by show List.dropWhile blk (c :: l) = _; rw [List.dropWhile_cons, if_neg hc]
        have e2 : Ar.sk (c :: l ++ t) = c :: l ++ t := by show List.dropWhile blk (c :: (l ++ t)) = _; rw [List.dropWhile_cons, if_neg hc]; rfl
        rw [e1, e2]; exact .inl rfl
  · exact .inr ⟨rfl, sk_sk t⟩
omit ht in
theorem opc2_snd (c : UInt8) : opc2 c 10 = opc2 c 0 ∧ opc2 c 41 = opc2 c 0 := by
  unfold opc2
  constructor <;> rfl
theorem Q.opc {l l' : List UInt8} (h : Q t l l') : Ar.opc l' = Ar.opc l ∨ (lev (Ar.opc l) = 0 ∧ lev (Ar.opc l') = 0) := by
  cases l with
  | nil =>
    right
    refine ⟨by decide, ?_⟩
    have : ∀ c d, c = (0 : UInt8) ∨ c = 10 ∨ c = 41 → lev (opc2 c d) = 0 := by
      intro c d hc
      rcases hc with rfl | rfl | rfl <;> rfl
    unfold Ar.opc
    rcases h.hd ht with e | ⟨_, e⟩
    · exact this _ _ (.inl e)
    · exact this _ _ e
  | cons c l =>
    left
    rcases h with rfl | ⟨h, _⟩
    · show opc2 c ((l ++ t).headD 0) = opc2 c (l.headD 0)
      exact (Q.mk l).hdP ht (opc2 c) (opc2_snd c).1 (opc2_snd c).2
    · cases h
omit ht in
theorem ow_le {l : List UInt8} (h : lev (Ar.opc l) ≠ 0) : ow (Ar.opc l) ≤ l.length := by
  cases l with
  | nil => exact absurd (by decide) h
  | cons c l =>
    cases l with
    | nil =>
      have h256 : ∀ n : Fin 256, ow (opc2 (UInt8.ofNat n.1) 0) = 1 := by decide +kernel
      have : ow (opc2 c 0) = 1 := by
        have := h256 ⟨c.toNat, c.toNat_lt⟩
        simpa using this
      have e : Ar.opc [c] = opc2 c 0 := rfl
      rw [e, this]; simp
    | cons d l =>
      have : ow (Ar.opc (c :: d :: l)) ≤ 2 := by unfold ow; split <;> omega
      simp only [List.length_cons]; omega
omit ht in
theorem Q.op {l l' : List UInt8} (h : Q t l l') (hl : lev (Ar.opc l) ≠ 0) : Q t (l.drop (ow (Ar.opc l))) (l'.drop (ow (Ar.opc l))) := by
  rcases h with rfl | ⟨rfl, rfl⟩
  · rw [List.drop_append_of_le_length (ow_le hl)]; exact .inl rfl
  · exact absurd (by decide) hl
theorem Q.sgn : ∀ {l l' : List UInt8}, Q t l l' → (Ar.sgn l').1 = (Ar.sgn l).1 ∧ Q t (Ar.sgn l).2 (Ar.sgn l').2
  | [], l', h => by
    have h0 : Ar.sgn [] = ([], []) := rfl
    rw [h0]
    rcases ht with rfl | ⟨t', rfl⟩
    · rcases h with rfl | ⟨_, rfl⟩
      · exact ⟨rfl, .inr ⟨rfl, rfl⟩⟩
      · exact ⟨rfl, .inr ⟨rfl, rfl⟩⟩
    · have e : Ar.sgn (41 :: t') = ([], 41 :: t') := by
        rw [Ar.sgn, if_neg (by decide), if_neg (by simp [isSg])]
      rcases h with rfl | ⟨_, rfl⟩
      · show (Ar.sgn (41 :: t')).1 = _ ∧ Q _ _ (Ar.sgn (41 :: t')).2
        rw [e]; exact ⟨rfl, .inl rfl⟩
      · show (Ar.sgn (41 :: t')).1 = _ ∧ Q _ _ (Ar.sgn (41 :: t')).2
        rw [e]; exact ⟨rfl, .inl rfl⟩
  | c :: l, l', h => by
    rcases h with rfl | ⟨h, _⟩
    · obtain ⟨i1, i2⟩ := Q.sgn (Q.mk l)
      have hh : isSg c ((l ++ t).headD 0) = isSg c (l.headD 0) := (Q.mk l).hdP ht (isSg c) (by simp [isSg]) (by simp [isSg])
      rw [List.cons_append, Ar.sgn, Ar.sgn, hh]
      by_cases h1 : blk c = true
      · rw [if_pos h1, if_pos h1]; exact ⟨i1, i2⟩
      rw [if_neg h1, if_neg h1]
      by_cases h2 : isSg c (l.headD 0) = true
      · rw [if_pos h2, if_pos h2]; exact ⟨by rw [i1], i2⟩
      · rw [if_neg h2, if_neg h2]; exact ⟨rfl, .inl rfl⟩
    · cases h
omit ht in
theorem tw_app {p : UInt8 → Bool} {t : List UInt8} (h : p (t.headD 0) = false) (h0 : t ≠ []) (l : List UInt8) : (l ++ t).takeWhile p = l.takeWhile p := by
  induction l with
  | nil =>
    cases t with
    | nil => exact absurd rfl h0
    | cons c t => rw [List.nil_append, List.takeWhile_cons, if_neg (by simpa using h)]; rfl
  | cons c l ih => rw [List.cons_append, List.takeWhile_cons, List.takeWhile_cons, ih]
theorem Tl.hp {p : UInt8 → Bool} (h1 : p 10 = false) (h2 : p 41 = false) : p (t.headD 0) = false := by
  rcases ht.h1 with h | h <;> rw [h] <;> assumption
theorem Q.nmn {l l' : List UInt8} (h : Q t l l') : Ar.nmn l' = Ar.nmn l := by
  cases l with
  | nil =>
    have : ∀ l' : List UInt8, (l'.headD 0 = 0 ∨ l'.headD 0 = 10 ∨ l'.headD 0 = 41) → Ar.nmn l' = 0 := by
      intro l' h'
      cases l' with
      | nil => rfl
      | cons c l' =>
        have hc : stl c = false := by
          rcases h' with e | e | e <;> (obtain rfl : c = _ := e; rfl)
        rw [Ar.nmn, hc]; rfl
    rcases h.hd ht with e | ⟨_, e⟩
    · exact this _ (.inl e)
    · exact this _ e
  | cons c l =>
    rcases h with rfl | ⟨h, _⟩
    · rw [List.cons_append, Ar.nmn, Ar.nmn, tw_app (ht.hp (by rfl) (by rfl)) ht.ne]
    · cases h
theorem Q.dgn {l l' : List UInt8} (h : Q t l l') : Ar.dgn l' = Ar.dgn l := by
  rcases h with rfl | ⟨rfl, rfl⟩
  · unfold Ar.dgn; rw [tw_app (ht.hp (by rfl) (by rfl)) ht.ne]
  · rcases ht with rfl | ⟨t', rfl⟩ <;> rfl
omit ht in
theorem Q.ld {l l' : List UInt8} (h : Q t l l') (n : Nat) (hn : n ≤ l.length) (h0 : 0 < n) : l'.take n = l.take n ∧ Q t (l.drop n) (l'.drop n) := by
  rcases h with rfl | ⟨rfl, rfl⟩
  · rw [List.take_append_of_le_length hn, List.drop_append_of_le_length hn]; exact ⟨rfl, .inl rfl⟩
  · simp at hn; omega
omit ht in
theorem nmn_le (l : List UInt8) : Ar.nmn l ≤ l.length := by
  cases l with
  | nil => exact Nat.le_refl _
  | cons c l =>
    rw [Ar.nmn]
    split
    · have := (List.takeWhile_prefix (l := l) fun d => stl d || dgl d).length_le
      simp only [List.length_cons]; omega
    · omega
omit ht in
theorem dgn_le (l : List UInt8) : Ar.dgn l ≤ l.length := (List.takeWhile_prefix dgl).length_le
theorem clo_RR {m : Bool} (hm : m = false → t = [10]) {v : Int} {u u' : List UInt8} {z : Bool} (h : Q t u u') : RR m t (clo (v, u, z)) (clo (v, u', z)) := by
  have hs := h.sk
  unfold clo
  simp only
  by_cases h1 : (Ar.sk u).headD 0 = 41
  · cases hu : Ar.sk u with
    | nil => rw [hu] at h1; cases h1
    | cons c u1 =>
      rw [hu] at h1 hs
      rcases hs with hs | ⟨hs, _⟩
      · rw [hs]
        rw [if_pos h1, if_pos (show ((c :: u1) ++ t).headD 0 = 41 from h1)]
        exact .inr ⟨_, rfl, .inl rfl⟩
      · cases hs
  · rw [if_neg h1]
    cases m with
    | true => exact .inl ⟨rfl, by decide⟩
    | false =>
      have ht10 := hm rfl
      subst ht10
      have h2 : ¬ (Ar.sk u').headD 0 = 41 := by
        rcases hs with hs | ⟨_, hs⟩
        · rw [hs]
          cases hu : Ar.sk u with
          | nil => decide
          | cons c u1 => rw [hu] at h1; exact h1
        · rw [hs]; decide
      rw [if_neg h2]
      exact .inr ⟨rfl, rfl⟩
omit ht in
theorem clo_nz (x : St) (e : Nat) (h : clo x = .error e) : e ≠ 0 := by
  unfold clo at h
  split at h
  · cases h
  · injection h with h; omega
/-- two expressions that go together -/
def RE (m : Bool) (t : List UInt8) (E E' : Ex) : Prop := ∀ l l' z, Q t l l' → RR m t (E l z) (E' l' z)
variable {K : Kn} (hK : ∀ l e, K.nv l = .error e → e ≠ 0) {m : Bool} (hm : m = false → t = [10])
include hK hm
theorem prim_RR {E E' : Ex} (hE : RE m t E E') : RE m t (prim K E) (prim K E') := by
  intro l l' z h
  unfold prim
  by_cases h1 : l.headD 0 = 40
  · cases l with
    | nil => cases h1
    | cons c l =>
      rcases h with rfl | ⟨h, _⟩
      · rw [if_pos h1, if_pos (show (c :: l ++ t).headD 0 = 40 from h1)]
        refine RR.bd (hE _ _ _ (.inl rfl)) (fun v u z u' h => clo_RR ht hm h) (fun _ v u z e he => clo_nz _ e he)
      · cases h
  · have h2 : ¬ l'.headD 0 = 40 := by
      rcases h.hd ht with e | ⟨_, e | e | e⟩
      · rw [e]; exact h1
      · rw [e]; decide
      · rw [e]; decide
      · rw [e]; decide
    rw [if_neg h1, if_neg h2, h.nmn ht, h.dgn ht]
    by_cases h3 : 0 < nmn l
    · rw [if_pos h3, if_pos h3]
      obtain ⟨e1, e2⟩ := h.ld (nmn l) (nmn_le l) h3
      rw [e1]
      cases hv : K.nv (l.take (nmn l)) with
      | error e =>
        cases m with
        | true => exact .inl ⟨rfl, hK _ _ hv⟩
        | false => exact .inr ⟨rfl, rfl⟩
      | ok v => exact .inr ⟨_, rfl, e2⟩
    · rw [if_neg h3, if_neg h3]
      by_cases h4 : 0 < dgn l
      · rw [if_pos h4, if_pos h4]
        obtain ⟨e1, e2⟩ := h.ld (dgn l) (dgn_le l) h4
        rw [e1]
        exact .inr ⟨_, rfl, e2⟩
      · rw [if_neg h4, if_neg h4]
        cases m with
        | true => exact .inl ⟨rfl, by decide⟩
        | false => exact .inr ⟨rfl, rfl⟩
theorem una_RR {E E' : Ex} (hE : RE m t E E') : RE m t (una K E) (una K E') := by
  intro l l' z h
  obtain ⟨h1, h2⟩ := h.sgn ht
  unfold una
  rw [h1]
  exact RR.bd (prim_RR ht hK hm hE _ _ z h2) (fun v u z u' h => .inr ⟨u', rfl, h⟩) (fun _ v u z e he => by cases he)
omit hK in
theorem it_RR {L : Nat} {F F' : Nat → Ex} (hs : ∀ k, SufE (F k)) (hs' : ∀ k, SufE (F' k)) (hF : ∀ k, RE m t (F k) (F' k)) :
    ∀ n v u z u', u.length < n → Q t u u' → RR m t (it (stepR K L F) (v, u, z)) (it (stepR K L F') (v, u', z))
  | 0, _, _, _, _, h, _ => by omega
  | n + 1, v, u, z, u', hn, h => by
    have hk := h.sk
    have ho' := hk.opc ht
    by_cases hl : lev (opc (Ar.sk u)) < L ∨ lev (opc (Ar.sk u)) = 0
    · have e1 : stepR K L F (v, u, z) = .ok (.inr (v, Ar.sk u, z)) := if_pos hl
      have e2 : stepR K L F' (v, u', z) = .ok (.inr (v, Ar.sk u', z)) := if_pos (by
        rcases ho' with ho | ⟨_, ho⟩
        · rw [ho]; exact hl
        · exact .inr ho)
      rw [it_out (stepR_dec hs) e1, it_out (stepR_dec hs') e2]
      exact .inr ⟨_, rfl, hk⟩
    · have ho : opc (Ar.sk u') = opc (Ar.sk u) := by
        rcases ho' with ho | ⟨ho, _⟩
        · exact ho
        · exact absurd (.inr ho) hl
      have hd := hk.op (by omega)
      have hr := hF (lev (opc (Ar.sk u))) _ _ z hd
      have q1 : stepR K L F (v, u, z) = match F (lev (opc (Ar.sk u))) ((Ar.sk u).drop (ow (opc (Ar.sk u)))) z with
        | .error e => .error e
        | .ok (b, u1, z) => .ok (.inl ((K.dop (opc (Ar.sk u)) v b z).1, u1, (K.dop (opc (Ar.sk u)) v b z).2)) := if_neg hl
      have q2 : stepR K L F' (v, u', z) = match F' (lev (opc (Ar.sk u))) ((Ar.sk u').drop (ow (opc (Ar.sk u)))) z with
        | .error e => .error e
        | .ok (b, u1, z) => .ok (.inl ((K.dop (opc (Ar.sk u)) v b z).1, u1, (K.dop (opc (Ar.sk u)) v b z).2)) := by
        have hl' : ¬ (lev (opc (Ar.sk u')) < L ∨ lev (opc (Ar.sk u')) = 0) := by rw [ho]; exact hl
        have this : stepR K L F' (v, u', z) = match F' (lev (opc (Ar.sk u'))) ((Ar.sk u').drop (ow (opc (Ar.sk u')))) z with
          | .error e => .error e
          | .ok (b, u1, z) => .ok (.inl ((K.dop (opc (Ar.sk u')) v b z).1, u1, (K.dop (opc (Ar.sk u')) v b z).2)) := if_neg hl'
        rw [ho] at this
        exact this
      generalize hx : F (lev (opc (Ar.sk u))) ((Ar.sk u).drop (ow (opc (Ar.sk u)))) z = x at hr q1
      generalize hx' : F' (lev (opc (Ar.sk u))) ((Ar.sk u').drop (ow (opc (Ar.sk u)))) z = x' at hr q2
      cases x with
      | error e =>
        rw [it_error (stepR_dec hs) q1]
        rcases hr with ⟨h1, h2⟩ | ⟨h1, rfl⟩
        · exact .inl ⟨h1, h2⟩
        · rw [it_error (stepR_dec hs') q2]; exact .inr ⟨h1, rfl⟩
      | ok y =>
        obtain ⟨b, u1, z1⟩ := y
        have hlt : u1.length < u.length := step_lt (by omega) (hs _ _ _ _ _ _ hx)
        rw [it_on (stepR_dec hs) q1]
        rcases hr with ⟨h1, rfl⟩ | ⟨u1', rfl, hq⟩
        · rw [it_error (stepR_dec hs') q2]
          have this := it_RR (L := L) hs hs' hF n (K.dop (opc (Ar.sk u)) v b z1).1 u1 (K.dop (opc (Ar.sk u)) v b z1).2 (u1 ++ t) (by omega) (.inl rfl)
          clear it_RR
          subst h1
          exact RR.three this.nz
        · rw [it_on (stepR_dec hs') q2]
          exact it_RR hs hs' hF n _ _ _ _ (by omega) hq
theorem frm_RR {E E' : Ex} (hs : SufE E) (hs' : SufE E') (hE : RE m t E E') : ∀ k L, RE m t (frm K E k L) (frm K E' k L)
  | 0, L => fun l l' z h => by
    rw [frm_zero, frm_zero]
    exact RR.bd (una_RR ht hK hm hE l l' z h) (fun v u z u' h => .inr ⟨_, rfl, h.sk⟩) (fun _ v u z e he => by cases he)
  | k + 1, L => fun l l' z h => by
    rw [frm_succ, frm_succ]
    have hh := fun j => frm_RR hs hs' hE k (j + 1)
    have hi := fun v u z u' h => it_RR (K := K) ht hm (L := L) (fun j => frm_suf hs k (j + 1)) (fun j => frm_suf hs' k (j + 1)) hh (u.length + 1) v u z u' (by omega) h
    exact RR.bd (una_RR ht hK hm hE l l' z h) hi (fun h1 v u z e he => by
      subst h1
      exact (hi v u z (u ++ t) (.inl rfl)).nz e he)
omit hm in
theorem exR_nz (d : Nat) : ∀ l z e, exR K d l z = .error e → e ≠ 0 := by
  induction d with
  | zero => intro l z e h; injection h with h; omega
  | succ d ih =>
    intro l z e h
    have := frm_RR ht hK (m := true) (by intro h; cases h) (exR_suf K d) (E' := fun _ _ => .error 3) (fun l z v u z' h => by cases h) (fun l l' z _ => RR.three (ih l z)) 10 1 l (l ++ t) z (.inl rfl)
    exact this.nz e h
omit hm in
/-- fewer parentheses to come: the same, or an error 3 -/
theorem exR_less (d : Nat) : ∀ r, RE true t (exR K (r + d)) (exR K r)
  | 0 => fun l l' z _ => RR.three (exR_nz ht hK _ l z)
  | r + 1 => by
    rw [show r + 1 + d = (r + d) + 1 from by omega]
    exact frm_RR ht hK (by intro h; cases h) (exR_suf K _) (exR_suf K _) (exR_less d r) 10 1
end
/-- a blank behind -/
theorem exR_end {K : Kn} (hK : ∀ l e, K.nv l = .error e → e ≠ 0) : ∀ r, RE false [10] (exR K r) (exR K r)
  | 0 => fun _ _ _ _ => .inr ⟨rfl, rfl⟩
  | r + 1 => frm_RR (.inl rfl) hK (by intro _; rfl) (exR_suf K _) (exR_suf K _) (exR_end hK r) 10 1
theorem sk_app {u t : List UInt8} (h : sk u = []) : sk (u ++ t) = sk t := by
  induction u with
  | nil => rfl
  | cons c u ih =>
    have e : sk (c :: u) = if blk c = true then sk u else c :: u := List.dropWhile_cons
    rw [e] at h
    split at h
    · rename_i hc
      show List.dropWhile blk (c :: (u ++ t)) = _
      rw [List.dropWhile_cons, if_pos hc]
      exact ih h
    · cases h
/-- an expression, within parentheses -/
def OpdE (K : Kn) (A : List UInt8) (v : Int) : Prop := ∀ r, r ≤ 41 → ∀ t, una K (exR K r) (40 :: A ++ 41 :: t) false = .ok (v, t, false) ∨ una K (exR K r) (40 :: A ++ 41 :: t) false = .error 3
theorem OpdE.mk {K : Kn} (hK : ∀ l e, K.nv l = .error e → e ≠ 0) {A u : List UInt8} {v : Int} (h : exR K 41 A false = .ok (v, u, false)) (hu : sk u = []) : OpdE K A v := by
  intro r hr t
  have h1 := exR_less (t := 41 :: t) (.inr ⟨t, rfl⟩) hK (41 - r) r A (A ++ 41 :: t) false (.inl rfl)
  rw [show r + (41 - r) = 41 from by omega, h] at h1
  rw [List.cons_append, una_par]
  rcases h1 with ⟨_, h1⟩ | ⟨u', h1, hq⟩
  · right; rw [h1]; rfl
  · left
    rw [h1, bd_ok]
    have hs : sk u' = 41 :: t := by
      rcases hq with rfl | ⟨rfl, rfl⟩
      · rw [sk_app hu]; rfl
      · rw [sk_sk]; rfl
    unfold clo
    simp only [hs]
    rfl
theorem F_oneE {K : Kn} {A : List UInt8} {v : Int} (h : OpdE K A v) (r L : Nat) (hr : r ≤ 41) (hL : 1 ≤ L) {t : List UInt8} (ht : lev (opc (sk t)) < L ∨ lev (opc (sk t)) = 0) :
    F K r L (40 :: A ++ 41 :: t) false = .ok (v, sk t, false) ∨ F K r L (40 :: A ++ 41 :: t) false = .error 3 := by
  rw [F_eq K r hL]
  rcases h r hr t with h | h
  · left; rw [h, bd_ok, it_end K r L v t false ht]
  · right; rw [h]; rfl
/-- two expressions within parentheses, an operator between -/
theorem F_twoE {K : Kn} {A B : List UInt8} {a b : Int} (hA : OpdE K A a) (hB : OpdE K B b) (r i : Nat) (hr : r ≤ 41) (hi : i < 18) {t : List UInt8} (ht : lev (opc (sk t)) = 0) :
    F K r 1 (40 :: A ++ 41 :: (opT i ++ (40 :: B ++ 41 :: t))) false = .ok ((K.dop (opN i) a b false).1, sk t, (K.dop (opN i) a b false).2) ∨ F K r 1 (40 :: A ++ 41 :: (opT i ++ (40 :: B ++ 41 :: t))) false = .error 3 := by
  have hw : okB (40 :: B ++ 41 :: t) := okB_par _
  obtain ⟨f1, f2, f3, _, _⟩ := opT_facts i hi _ hw
  have h1 := lev_opN i hi
  rw [F_eq K r (by omega)]
  rcases hA r hr (opT i ++ (40 :: B ++ 41 :: t)) with h | h
  · rw [h, bd_ok]
    rcases F_oneE hB r (lev (opN i) + 1) hr (by omega) (t := t) (.inr ht) with hF | hF
    · left
      have := it_opn K r 1 i hi h1 (g := []) (by simp) hw a false hF
      rw [List.nil_append] at this
      rw [this, it_end K r 1 _ _ _ (by rw [sk_sk]; exact .inr ht), sk_sk]
    · right
      exact it_bad K r 1 a _ false (by rw [f3, f1]; omega) (by rw [f3, f1, f2]; exact hF)
  · right; rw [h]; rfl
end Go.Proofs.YtpjbklajjikgjaaDoor.Ar
