/- The plain law of expressions: reading level by level, and reading by the operators' strength, come to the same. -/
import Derived.Lib.Hide
namespace Go.Proofs.YtpjbklajjikgjaaDoor.Ar

/-- a value, what is left of the text, whether something was divided by nought -/
abbrev St := Int × List UInt8 × Bool
abbrev R := Except Nat St
def bd (r : R) (f : St → R) : R := match r with
  | .error e => .error e
  | .ok x => f x
theorem bd_ok (x : St) (f : St → R) : bd (.ok x) f = f x := rfl
theorem bd_error (e : Nat) (f : St → R) : bd (.error e) f = .error e := rfl
theorem bd_assoc (r : R) (f g : St → R) : bd (bd r f) g = bd r (fun x => bd (f x) g) := by cases r <;> rfl
theorem bd_congr {r : R} {f g : St → R} (h : ∀ x, r = .ok x → f x = g x) : bd r f = bd r g := by
  cases r with
  | error e => rfl
  | ok x => exact h x rfl
/-- steps: on, or out -/
abbrev Step := St → Except Nat (St ⊕ St)
def iterF (st : Step) : Nat → St → R
  | 0, x => .ok x
  | f + 1, x => match st x with
    | .error e => .error e
    | .ok (.inr y) => .ok y
    | .ok (.inl y) => iterF st f y
def mu (x : St) : Nat := x.2.1.length
def Dec (st : Step) : Prop := ∀ x y, st x = .ok (.inl y) → mu y < mu x
theorem iterF_irr {st : Step} (h : Dec st) : ∀ f f' x, mu x < f → mu x < f' → iterF st f x = iterF st f' x
  | 0, _, x, h1, _ => by omega
  | _, 0, x, _, h2 => by omega
  | f + 1, f' + 1, x, h1, h2 => by
    rw [iterF, iterF]
    cases hs : st x with
    | error e => rfl
    | ok s => cases s with
      | inr y => rfl
      | inl y =>
        have := h x y hs
        exact iterF_irr h f f' y (by omega) (by omega)
def it (st : Step) (x : St) : R := iterF st (mu x + 1) x
theorem it_eq {st : Step} (h : Dec st) (x : St) : it st x = match st x with
    | .error e => .error e
    | .ok (.inr y) => .ok y
    | .ok (.inl y) => it st y := by
  rw [it, iterF]
  cases hs : st x with
  | error e => rfl
  | ok s => cases s with
    | inr y => rfl
    | inl y =>
      have := h x y hs
      exact iterF_irr h _ _ y (by omega) (by omega)
theorem it_error {st : Step} (h : Dec st) {x : St} {e : Nat} (hs : st x = .error e) : it st x = .error e := by rw [it_eq h, hs]
theorem it_out {st : Step} (h : Dec st) {x y : St} (hs : st x = .ok (.inr y)) : it st x = .ok y := by rw [it_eq h, hs]
theorem it_on {st : Step} (h : Dec st) {x y : St} (hs : st x = .ok (.inl y)) : it st x = it st y := by rw [it_eq h, hs]

def blk (c : UInt8) : Bool := c == 32 || c == 9 || c == 10
/-- a text without the blanks ahead -/
def sk (l : List UInt8) : List UInt8 := l.dropWhile blk
theorem sk_suf (l : List UInt8) : sk l <:+ l := List.dropWhile_suffix _
theorem sk_len (l : List UInt8) : (sk l).length ≤ l.length := (sk_suf l).length_le
theorem sk_sk (l : List UInt8) : sk (sk l) = sk l := by
  induction l with
  | nil => rfl
  | cons c l ih =>
    have e : sk (c :: l) = if blk c = true then sk l else c :: l := List.dropWhile_cons
    rw [e]
    split
    · exact ih
    · rename_i h
      rw [e, if_neg h]
/-- the operator of two bytes: its number, 0: none -/
def opc2 (c d : UInt8) : Nat :=
  if c = 124 then (if d = 124 then 1 else 3)
  else if c = 38 then (if d = 38 then 2 else 5)
  else if c = 94 then 4
  else if c = 61 then (if d = 61 then 6 else 0)
  else if c = 33 then (if d = 61 then 7 else 19)
  else if c = 60 then (if d = 61 then 8 else if d = 60 then 12 else 10)
  else if c = 62 then (if d = 61 then 9 else if d = 62 then 13 else 11)
  else if c = 43 then 14
  else if c = 45 then 15
  else if c = 42 then 16
  else if c = 47 then 17
  else if c = 37 then 18
  else if c = 126 then 20
  else if c = 40 then 21
  else if c = 41 then 22
  else 0
def opc (l : List UInt8) : Nat := opc2 (l.headD 0) (l.tail.headD 0)
/-- an operator's level, from 1 on; 0: it stands between no two -/
def lev (k : Nat) : Nat :=
  if k = 1 then 1 else if k = 2 then 2 else if k = 3 then 3 else if k = 4 then 4 else if k = 5 then 5 else if k = 6 ∨ k = 7 then 6
  else if k = 8 ∨ k = 9 ∨ k = 10 ∨ k = 11 then 7 else if k = 12 ∨ k = 13 then 8 else if k = 14 ∨ k = 15 then 9 else if k = 16 ∨ k = 17 ∨ k = 18 then 10 else 0
/-- how many bytes it has -/
def ow (k : Nat) : Nat := if k = 1 ∨ k = 2 ∨ k = 6 ∨ k = 7 ∨ k = 8 ∨ k = 9 ∨ k = 12 ∨ k = 13 then 2 else 1
theorem ow_pos (k : Nat) : 1 ≤ ow k := by unfold ow; split <;> omega
theorem opc_nil : opc [] = 0 := by decide
theorem lev_le (k : Nat) : lev k ≤ 10 := by unfold lev; repeat' split
                                            all_goals omega
theorem lev_zero : lev 0 = 0 := by decide
/-- what names, operators, signs and digits come to -/
structure Kn where
  nv : List UInt8 → Except Nat Int
  dop : Nat → Int → Int → Bool → Int × Bool
  ap : UInt8 → Int → Int
  num : List UInt8 → Int
abbrev Ex := List UInt8 → Bool → R
def SufE (E : Ex) : Prop := ∀ l z v u z', E l z = .ok (v, u, z') → u <:+ l
def stepB (K : Kn) (L : Nat) (nx : Ex) : Step := fun x =>
  if lev (opc (sk x.2.1)) = L then
    match nx ((sk x.2.1).drop (ow (opc (sk x.2.1)))) x.2.2 with
    | .error e => .error e
    | .ok (b, u, z) => .ok (.inl ((K.dop (opc (sk x.2.1)) x.1 b z).1, u, (K.dop (opc (sk x.2.1)) x.1 b z).2))
  else .ok (.inr (x.1, sk x.2.1, x.2.2))
def stepR (K : Kn) (L : Nat) (F : Nat → Ex) : Step := fun x =>
  if lev (opc (sk x.2.1)) < L ∨ lev (opc (sk x.2.1)) = 0 then .ok (.inr (x.1, sk x.2.1, x.2.2))
  else
    match F (lev (opc (sk x.2.1))) ((sk x.2.1).drop (ow (opc (sk x.2.1)))) x.2.2 with
    | .error e => .error e
    | .ok (b, u, z) => .ok (.inl ((K.dop (opc (sk x.2.1)) x.1 b z).1, u, (K.dop (opc (sk x.2.1)) x.1 b z).2))
theorem step_lt {l u : List UInt8} (h0 : lev (opc (sk l)) ≠ 0) (hu : u <:+ (sk l).drop (ow (opc (sk l)))) : u.length < l.length := by
  have h1 := hu.length_le
  have h2 := sk_len l
  have h3 := ow_pos (opc (sk l))
  rw [List.length_drop] at h1
  have h4 : (sk l).length ≠ 0 := by
    intro h
    rw [List.eq_nil_of_length_eq_zero h] at h0
    exact h0 (by decide)
  omega
theorem step_suf {l u : List UInt8} (hu : u <:+ (sk l).drop (ow (opc (sk l)))) : u <:+ l := hu.trans ((List.drop_suffix _ _).trans (sk_suf l))
theorem stepB_dec {K : Kn} {L : Nat} {nx : Ex} (hL : 1 ≤ L) (hn : SufE nx) : Dec (stepB K L nx) := by
  intro x y h
  unfold stepB at h
  split at h
  · rename_i hl
    split at h
    · cases h
    · rename_i b u z he
      injection h with h
      injection h with h
      subst h
      exact step_lt (by omega) (hn _ _ _ _ _ he)
  · injection h with h
    cases h
theorem stepR_dec {K : Kn} {L : Nat} {F : Nat → Ex} (hn : ∀ k, SufE (F k)) : Dec (stepR K L F) := by
  intro x y h
  unfold stepR at h
  split at h
  · injection h with h
    cases h
  · rename_i hl
    split at h
    · cases h
    · rename_i b u z he
      injection h with h
      injection h with h
      subst h
      exact step_lt (by omega) (hn _ _ _ _ _ _ he)
/-- what holds behind steps -/
theorem it_ind {st : Step} (h : Dec st) (P : St → St → Prop) (h1 : ∀ x y, st x = .ok (.inr y) → P x y) (h2 : ∀ x y y', st x = .ok (.inl y) → P y y' → P x y') :
    ∀ x y, it st x = .ok y → P x y := by
  have key : ∀ n x y, mu x < n → it st x = .ok y → P x y := by
    intro n
    induction n with
    | zero => intro x y hx; omega
    | succ n ih =>
      intro x y hx hy
      rw [it_eq h] at hy
      cases hs : st x with
      | error e => rw [hs] at hy; cases hy
      | ok s => cases s with
        | inr y' => rw [hs] at hy; injection hy with hy; subst hy; exact h1 _ _ hs
        | inl y' =>
          rw [hs] at hy
          exact h2 _ _ _ hs (ih y' y (by have := h x y' hs; omega) hy)
  exact fun x y => key (mu x + 1) x y (by omega)
theorem stepB_suf {K : Kn} {L : Nat} {nx : Ex} (hL : 1 ≤ L) (hn : SufE nx) {x y : St} (h : it (stepB K L nx) x = .ok y) : y.2.1 <:+ x.2.1 := by
  refine it_ind (stepB_dec hL hn) (fun x y => y.2.1 <:+ x.2.1) ?_ ?_ x y h
  · intro x y h
    unfold stepB at h
    split at h
    · split at h <;> cases h
    · injection h with h
      injection h with h
      subst h
      exact sk_suf _
  · intro x y y' h hp
    unfold stepB at h
    split at h
    · split at h
      · cases h
      · rename_i b u z he
        injection h with h
        injection h with h
        subst h
        exact hp.trans (step_suf (hn _ _ _ _ _ he))
    · injection h with h
      cases h
theorem stepR_suf {K : Kn} {L : Nat} {F : Nat → Ex} (hn : ∀ k, SufE (F k)) {x y : St} (h : it (stepR K L F) x = .ok y) : y.2.1 <:+ x.2.1 ∧ sk y.2.1 = y.2.1 ∧ (lev (opc y.2.1) < L ∨ lev (opc y.2.1) = 0) := by
  refine it_ind (stepR_dec hn) (fun x y => y.2.1 <:+ x.2.1 ∧ sk y.2.1 = y.2.1 ∧ (lev (opc y.2.1) < L ∨ lev (opc y.2.1) = 0)) ?_ ?_ x y h
  · intro x y h
    unfold stepR at h
    split at h
    · rename_i hl
      injection h with h
      injection h with h
      subst h
      exact ⟨sk_suf _, sk_sk _, hl⟩
    · split at h <;> cases h
  · intro x y y' h hp
    unfold stepR at h
    split at h
    · injection h with h
      cases h
    · split at h
      · cases h
      · rename_i b u z he
        injection h with h
        injection h with h
        subst h
        exact ⟨hp.1.trans (step_suf (hn _ _ _ _ _ _ he)), hp.2⟩

def isSg (c d : UInt8) : Bool := c == 43 || c == 45 || c == 126 || (c == 33 && !(d == 61))
/-- the signs ahead, and what stands behind them and the blanks -/
def sgn : List UInt8 → List UInt8 × List UInt8
  | [] => ([], [])
  | c :: l => if blk c = true then sgn l else if isSg c (l.headD 0) = true then (c :: (sgn l).1, (sgn l).2) else ([], c :: l)
theorem sgn_suf : ∀ l, (sgn l).2 <:+ l
  | [] => List.suffix_refl _
  | c :: l => by
    rw [sgn]
    split
    · exact (sgn_suf l).trans (List.suffix_cons c l)
    · split
      · exact (sgn_suf l).trans (List.suffix_cons c l)
      · exact List.suffix_refl _
def stl (c : UInt8) : Bool := (decide (97 ≤ c) && decide (c ≤ 122)) || (decide (65 ≤ c) && decide (c ≤ 90)) || c == 95
def dgl (c : UInt8) : Bool := decide (48 ≤ c) && decide (c ≤ 57)
/-- how many bytes of a name stand ahead -/
def nmn : List UInt8 → Nat
  | [] => 0
  | c :: l => if stl c = true then 1 + (l.takeWhile fun d => stl d || dgl d).length else 0
def dgn (l : List UInt8) : Nat := (l.takeWhile dgl).length
/-- behind a closing parenthesis -/
def clo (x : St) : R := if (sk x.2.1).headD 0 = 41 then .ok (x.1, (sk x.2.1).tail, x.2.2) else .error 2
def prim (K : Kn) (E : Ex) (l : List UInt8) (z : Bool) : R :=
  if l.headD 0 = 40 then bd (E l.tail z) clo
  else if 0 < nmn l then match K.nv (l.take (nmn l)) with
    | .error e => .error e
    | .ok v => .ok (v, l.drop (nmn l), z)
  else if 0 < dgn l then .ok (K.num (l.take (dgn l)), l.drop (dgn l), z)
  else .error 2
def una (K : Kn) (E : Ex) (l : List UInt8) (z : Bool) : R :=
  bd (prim K E (sgn l).2 z) fun x => .ok ((sgn l).1.foldr K.ap x.1, x.2.1, x.2.2)
def binF (K : Kn) (E : Ex) : Nat → Ex
  | 0 => una K E
  | k + 1 => fun l z => bd (binF K E k l z) (it (stepB K (10 - k) (binF K E k)))
def frm (K : Kn) (E : Ex) : Nat → Nat → Ex
  | 0, _ => fun l z => bd (una K E l z) (fun x => .ok (x.1, sk x.2.1, x.2.2))
  | m + 1, L => fun l z => bd (una K E l z) (it (stepR K L (fun k => frm K E m (k + 1))))
theorem binF_succ (K : Kn) (E : Ex) (k : Nat) (l : List UInt8) (z : Bool) : binF K E (k + 1) l z = bd (binF K E k l z) (it (stepB K (10 - k) (binF K E k))) := rfl
theorem frm_zero (K : Kn) (E : Ex) (L : Nat) (l : List UInt8) (z : Bool) : frm K E 0 L l z = bd (una K E l z) (fun x => .ok (x.1, sk x.2.1, x.2.2)) := rfl
theorem frm_succ (K : Kn) (E : Ex) (m L : Nat) (l : List UInt8) (z : Bool) : frm K E (m + 1) L l z = bd (una K E l z) (it (stepR K L (fun k => frm K E m (k + 1)))) := rfl
theorem prim_suf {K : Kn} {E : Ex} (hE : SufE E) : SufE (prim K E) := by
  intro l z v u z' h
  unfold prim at h
  split at h
  · cases he : E l.tail z with
    | error e => rw [he] at h; cases h
    | ok x =>
      rw [he, bd_ok] at h
      unfold clo at h
      split at h
      · injection h with h
        have h2 : (sk x.2.1).tail = u := by rw [Prod.mk.injEq, Prod.mk.injEq] at h; exact h.2.1
        subst h2
        exact (List.tail_suffix _).trans ((sk_suf _).trans ((hE _ _ _ _ _ he).trans (List.tail_suffix _)))
      · cases h
  · split at h
    · split at h
      · cases h
      · injection h with h
        rw [Prod.mk.injEq, Prod.mk.injEq] at h
        rw [← h.2.1]
        exact List.drop_suffix _ _
    · split at h
      · injection h with h
        rw [Prod.mk.injEq, Prod.mk.injEq] at h
        rw [← h.2.1]
        exact List.drop_suffix _ _
      · cases h
theorem una_suf {K : Kn} {E : Ex} (hE : SufE E) : SufE (una K E) := by
  intro l z v u z' h
  unfold una at h
  cases he : prim K E (sgn l).2 z with
  | error e => rw [he] at h; cases h
  | ok x =>
    rw [he, bd_ok] at h
    injection h with h
    rw [Prod.mk.injEq, Prod.mk.injEq] at h
    rw [← h.2.1]
    exact (prim_suf hE _ _ _ _ _ he).trans (sgn_suf l)
theorem binF_suf {K : Kn} {E : Ex} (hE : SufE E) : ∀ k, k ≤ 10 → SufE (binF K E k)
  | 0, _ => una_suf hE
  | k + 1, hk => by
    have ih := binF_suf (K := K) hE k (by omega)
    intro l z v u z' h
    rw [binF_succ] at h
    cases he : binF K E k l z with
    | error e => rw [he] at h; cases h
    | ok x =>
      rw [he, bd_ok] at h
      exact (stepB_suf (by omega) ih h).trans (ih _ _ _ _ _ he)
theorem frm_suf {K : Kn} {E : Ex} (hE : SufE E) : ∀ m L, SufE (frm K E m L)
  | 0, L => by
    intro l z v u z' h
    rw [frm_zero] at h
    cases he : una K E l z with
    | error e => rw [he] at h; cases h
    | ok x =>
      rw [he, bd_ok] at h
      injection h with h
      rw [Prod.mk.injEq, Prod.mk.injEq] at h
      rw [← h.2.1]
      exact (sk_suf _).trans (una_suf hE _ _ _ _ _ he)
  | m + 1, L => by
    have ih := fun k => frm_suf (K := K) hE m (k + 1)
    intro l z v u z' h
    rw [frm_succ] at h
    cases he : una K E l z with
    | error e => rw [he] at h; cases h
    | ok x =>
      rw [he, bd_ok] at h
      exact (stepR_suf ih h).1.trans (una_suf hE _ _ _ _ _ he)
/-- the steps of two kinds are alike -/
theorem it_congr {st st' : Step} (he : ∀ x, st x = st' x) (x : St) : it st x = it st' x := by
  have : st = st' := funext he
  rw [this]
theorem frm_irr {K : Kn} {E : Ex} (hE : SufE E) : ∀ m L, 11 ≤ L + m → frm K E m L = frm K E (m + 1) L
  | 0, L, h => by
    funext l z
    rw [frm_zero, frm_succ]
    refine bd_congr fun x _ => ?_
    rw [it_out (stepR_dec fun k => frm_suf hE 0 (k + 1))]
    unfold stepR
    rw [if_pos]
    left
    have := lev_le (opc (sk x.2.1))
    omega
  | m + 1, L, h => by
    funext l z
    rw [frm_succ, frm_succ]
    refine bd_congr fun x _ => ?_
    refine it_congr (fun x => ?_) x
    unfold stepR
    split
    · rfl
    · rename_i hl
      have := frm_irr (K := K) hE m (lev (opc (sk x.2.1)) + 1) (by omega)
      simp only [this]
theorem frm_irr' {K : Kn} {E : Ex} (hE : SufE E) : ∀ d m L, 11 ≤ L + m → frm K E m L = frm K E (m + d) L
  | 0, m, L, _ => rfl
  | d + 1, m, L, h => by rw [frm_irr' hE d m L h, frm_irr hE (m + d) L (by omega)]; rfl
/-- all levels from one on are that level's operators between all levels from the next on -/
theorem fuse {K : Kn} {L : Nat} {F : Nat → Ex} (hL : 1 ≤ L) (hn : ∀ k, SufE (F k)) (hs : ∀ l z v u z', F L l z = .ok (v, u, z') → lev (opc (sk u)) < L + 1) :
    ∀ x, it (stepR K L F) x = bd (it (stepR K (L + 1) F) x) (it (stepB K L (F L))) := by
  have dR := fun L => stepR_dec (K := K) (L := L) hn
  have dB := stepB_dec (K := K) hL (hn L)
  have key : ∀ n x, mu x < n → it (stepR K L F) x = bd (it (stepR K (L + 1) F) x) (it (stepB K L (F L))) := by
    intro n
    induction n with
    | zero => intro x hx; omega
    | succ n ih =>
      intro x hx
      by_cases h1 : lev (opc (sk x.2.1)) < L ∨ lev (opc (sk x.2.1)) = 0
      · rw [it_out (dR L) (show stepR K L F x = _ from if_pos h1), it_out (dR (L + 1)) (show stepR K (L + 1) F x = _ from if_pos (by omega)), bd_ok]
        rw [it_out dB (y := (x.1, sk x.2.1, x.2.2))]
        unfold stepB
        simp only [sk_sk]
        rw [if_neg (by omega)]
      · by_cases h2 : lev (opc (sk x.2.1)) = L
        · have e1 : stepR K L F x = match F L ((sk x.2.1).drop (ow (opc (sk x.2.1)))) x.2.2 with
              | .error e => .error e
              | .ok (b, u, z) => .ok (.inl ((K.dop (opc (sk x.2.1)) x.1 b z).1, u, (K.dop (opc (sk x.2.1)) x.1 b z).2)) := by
            unfold stepR
            rw [if_neg h1, h2]
          have e2 : stepB K L (F L) (x.1, sk x.2.1, x.2.2) = match F L ((sk x.2.1).drop (ow (opc (sk x.2.1)))) x.2.2 with
              | .error e => .error e
              | .ok (b, u, z) => .ok (.inl ((K.dop (opc (sk x.2.1)) x.1 b z).1, u, (K.dop (opc (sk x.2.1)) x.1 b z).2)) := by
            unfold stepB
            simp only [sk_sk]
            rw [if_pos h2]
          rw [it_out (dR (L + 1)) (show stepR K (L + 1) F x = _ from if_pos (by omega)), bd_ok]
          cases he : F L ((sk x.2.1).drop (ow (opc (sk x.2.1)))) x.2.2 with
          | error e =>
            rw [he] at e1 e2
            rw [it_error (dR L) e1, it_error dB e2]
          | ok y =>
            obtain ⟨b, u, z⟩ := y
            rw [he] at e1 e2
            rw [it_on (dR L) e1, it_on dB e2]
            have hlt : u.length < x.2.1.length := step_lt (by omega) (hn _ _ _ _ _ _ he)
            rw [ih _ (by unfold mu at hx ⊢; simp only; omega)]
            have hst := hs _ _ _ _ _ he
            rw [it_out (dR (L + 1)) (show stepR K (L + 1) F (_, u, _) = _ from if_pos (by simp only; omega)), bd_ok]
            simp only
            rw [it_eq dB, it_eq dB]
            unfold stepB
            simp only [sk_sk]
        · have e1 : stepR K L F x = match F (lev (opc (sk x.2.1))) ((sk x.2.1).drop (ow (opc (sk x.2.1)))) x.2.2 with
              | .error e => .error e
              | .ok (b, u, z) => .ok (.inl ((K.dop (opc (sk x.2.1)) x.1 b z).1, u, (K.dop (opc (sk x.2.1)) x.1 b z).2)) := by
            unfold stepR
            rw [if_neg h1]
          have e2 : stepR K (L + 1) F x = match F (lev (opc (sk x.2.1))) ((sk x.2.1).drop (ow (opc (sk x.2.1)))) x.2.2 with
              | .error e => .error e
              | .ok (b, u, z) => .ok (.inl ((K.dop (opc (sk x.2.1)) x.1 b z).1, u, (K.dop (opc (sk x.2.1)) x.1 b z).2)) := by
            unfold stepR
            rw [if_neg (by omega)]
          cases he : F (lev (opc (sk x.2.1))) ((sk x.2.1).drop (ow (opc (sk x.2.1)))) x.2.2 with
          | error e =>
            rw [he] at e1 e2
            rw [it_error (dR L) e1, it_error (dR (L + 1)) e2, bd_error]
          | ok y =>
            obtain ⟨b, u, z⟩ := y
            rw [he] at e1 e2
            rw [it_on (dR L) e1, it_on (dR (L + 1)) e2]
            have hlt : u.length < x.2.1.length := step_lt (by omega) (hn _ _ _ _ _ _ he)
            exact ih _ (by unfold mu at hx ⊢; simp only; omega)
  exact fun x => key (mu x + 1) x (by omega)
/-- a result, behind the blanks -/
def skR (r : R) : R := bd r fun x => .ok (x.1, sk x.2.1, x.2.2)
theorem stepB_alike {K : Kn} {L : Nat} {f g : Ex} (hL : 1 ≤ L) (hf : SufE f) (hg : SufE g) (h : ∀ l z, skR (f l z) = skR (g l z)) :
    ∀ x y : St, x.1 = y.1 → sk x.2.1 = sk y.2.1 → x.2.2 = y.2.2 → it (stepB K L f) x = it (stepB K L g) y := by
  have df := stepB_dec (K := K) hL hf
  have dg := stepB_dec (K := K) hL hg
  have key : ∀ n (x y : St), mu x < n → x.1 = y.1 → sk x.2.1 = sk y.2.1 → x.2.2 = y.2.2 → it (stepB K L f) x = it (stepB K L g) y := by
    intro n
    induction n with
    | zero => intro x y hx; omega
    | succ n ih =>
      intro x y hx h1 h2 h3
      by_cases hl : lev (opc (sk x.2.1)) = L
      · have e1 : stepB K L f x = _ := if_pos hl
        have e2 : stepB K L g y = _ := if_pos (h2 ▸ hl)
        rw [← h2, ← h1, ← h3] at e2
        have hh := h ((sk x.2.1).drop (ow (opc (sk x.2.1)))) x.2.2
        cases he : f ((sk x.2.1).drop (ow (opc (sk x.2.1)))) x.2.2 with
        | error e =>
          cases hd : g ((sk x.2.1).drop (ow (opc (sk x.2.1)))) x.2.2 with
          | error e' =>
            rw [he, hd] at hh
            injection hh with hh
            subst hh
            rw [he] at e1
            rw [hd] at e2
            rw [it_error df e1, it_error dg e2]
          | ok q => rw [he, hd] at hh; cases hh
        | ok p =>
          cases hd : g ((sk x.2.1).drop (ow (opc (sk x.2.1)))) x.2.2 with
          | error e' => rw [he, hd] at hh; cases hh
          | ok q =>
            obtain ⟨b, u, z⟩ := p
            obtain ⟨b', u', z'⟩ := q
            rw [he, hd] at hh
            simp only [skR, bd_ok] at hh
            injection hh with hh
            rw [Prod.mk.injEq, Prod.mk.injEq] at hh
            obtain ⟨hb, hu, hz⟩ := hh
            subst hb hz
            rw [he] at e1
            rw [hd] at e2
            rw [it_on df e1, it_on dg e2]
            have hlt : u.length < x.2.1.length := step_lt (by omega) (hf _ _ _ _ _ he)
            exact ih _ _ (by unfold mu at hx ⊢; simp only; omega) rfl hu rfl
      · have e1 : stepB K L f x = _ := if_neg hl
        have e2 : stepB K L g y = _ := if_neg (h2 ▸ hl)
        rw [it_out df e1, it_out dg e2, h1, h2, h3]
  exact fun x y => key (mu x + 1) x y (by omega)
theorem frm_stop {K : Kn} {E : Ex} (hE : SufE E) (m L : Nat) (hL : 11 ≤ L + m) (h1 : 1 ≤ L) {l : List UInt8} {z : Bool} {v : Int} {u : List UInt8} {z' : Bool} (h : frm K E m L l z = .ok (v, u, z')) :
    sk u = u ∧ lev (opc (sk u)) < L := by
  rw [frm_irr hE m L hL, frm_succ] at h
  cases he : una K E l z with
  | error e => rw [he] at h; cases h
  | ok x =>
    rw [he, bd_ok] at h
    obtain ⟨_, h2, h3⟩ := stepR_suf (fun k => frm_suf hE m (k + 1)) h
    simp only at h2 h3
    rw [h2]
    exact ⟨rfl, by omega⟩
/-- both ways come to the same, behind the blanks -/
theorem both {K : Kn} {E : Ex} (hE : SufE E) : ∀ k, k ≤ 10 → ∀ l z, skR (binF K E k l z) = frm K E 10 (11 - k) l z
  | 0, _, l, z => by
    have : frm K E 10 11 = frm K E 0 11 := (frm_irr' hE 10 0 11 (by omega)).symm
    rw [show 11 - 0 = 11 from rfl, this]
    rfl
  | k + 1, hk, l, z => by
    have ih := both (K := K) hE k (by omega)
    obtain ⟨L, hL⟩ : ∃ L, L = 10 - k := ⟨_, rfl⟩
    rw [show 11 - (k + 1) = L from by omega]
    rw [show 11 - k = L + 1 from by omega] at ih
    have hF : ∀ kk, SufE ((fun kk => frm K E 9 (kk + 1)) kk) := fun kk => frm_suf hE 9 (kk + 1)
    have hF9 : frm K E 9 (L + 1) = frm K E 10 (L + 1) := frm_irr hE 9 (L + 1) (by omega)
    have hsB := binF_suf (K := K) hE k (by omega)
    rw [frm_succ, binF_succ, ← hL]
    rw [show (it (stepR K L fun k => frm K E 9 (k + 1))) = fun x => bd (it (stepR K (L + 1) fun k => frm K E 9 (k + 1)) x) (it (stepB K L (frm K E 9 (L + 1)))) from
      funext (fuse (by omega) hF (fun l z v u z' h => (frm_stop hE 9 (L + 1) (by omega) (by omega) h).2))]
    rw [← bd_assoc]
    have e : bd (una K E l z) (it (stepR K (L + 1) fun k => frm K E 9 (k + 1))) = frm K E 10 (L + 1) l z := rfl
    rw [e, ← ih l z]
    unfold skR
    rw [bd_assoc, bd_assoc]
    refine bd_congr fun x hx => ?_
    rw [bd_ok]
    have h1 : it (stepB K L (binF K E k)) x = it (stepB K L (frm K E 9 (L + 1))) (x.1, sk x.2.1, x.2.2) := by
      refine stepB_alike (by omega) hsB (hF L) (fun l z => ?_) _ _ rfl (sk_sk _).symm rfl
      show _ = skR (frm K E 9 (L + 1) l z)
      rw [ih, hF9]
      cases hh : frm K E 10 (L + 1) l z with
      | error e => rfl
      | ok y =>
        obtain ⟨v, u, z'⟩ := y
        simp only [skR, bd_ok, (frm_stop hE 10 (L + 1) (by omega) (by omega) hh).1]
    rw [h1]
    cases hh : it (stepB K L (frm K E 9 (L + 1))) (x.1, sk x.2.1, x.2.2) with
    | error e => rfl
    | ok y =>
      rw [bd_ok]
      have : sk y.2.1 = y.2.1 := by
        refine it_ind (stepB_dec (K := K) (L := L) (by omega) (hF L)) (fun _ y => sk y.2.1 = y.2.1) ?_ (fun _ _ _ _ h => h) _ y hh
        intro x y h
        unfold stepB at h
        split at h
        · split at h <;> cases h
        · injection h with h
          injection h with h
          subst h
          exact sk_sk _
      rw [this]
/-- expressions within so many parentheses -/
def exB (K : Kn) : Nat → Ex
  | 0 => fun _ _ => .error 3
  | r + 1 => binF K (exB K r) 10
def exR (K : Kn) : Nat → Ex
  | 0 => fun _ _ => .error 3
  | r + 1 => frm K (exR K r) 10 1
theorem exB_suf (K : Kn) : ∀ r, SufE (exB K r)
  | 0 => fun _ _ _ _ _ h => by cases h
  | r + 1 => binF_suf (exB_suf K r) 10 (by omega)
theorem binF_sk {K : Kn} {E : Ex} (hE : SufE E) {k : Nat} (hk : k < 10) (l : List UInt8) (z : Bool) : skR (binF K E (k + 1) l z) = binF K E (k + 1) l z := by
  rw [binF_succ]
  cases he : binF K E k l z with
  | error e => rfl
  | ok x =>
    rw [bd_ok]
    cases hh : it (stepB K (10 - k) (binF K E k)) x with
    | error e => rfl
    | ok y =>
      have : sk y.2.1 = y.2.1 := by
        refine it_ind (stepB_dec (K := K) (L := 10 - k) (by omega) (binF_suf hE k (by omega))) (fun _ y => sk y.2.1 = y.2.1) ?_ (fun _ _ _ _ h => h) _ y hh
        intro x y h
        unfold stepB at h
        split at h
        · split at h <;> cases h
        · injection h with h
          injection h with h
          subst h
          exact sk_sk _
      simp only [skR, bd_ok, this]
theorem ex_same (K : Kn) : ∀ r, exB K r = exR K r
  | 0 => rfl
  | r + 1 => by
    funext l z
    rw [exB, exR, ← ex_same K r, ← both (exB_suf K r) 10 (by omega), binF_sk (exB_suf K r) (by omega)]
end Go.Proofs.YtpjbklajjikgjaaDoor.Ar
