/- graph.Order as a relation between plain data: how a search goes from goals to needs. No program in sight. The makefile of the law GraphRings: what is planned for each of its targets. No program in sight. -/
import Derived.Test.YtmblmenafplccaaGreatDoorFindMath
import Derived.Test.YtmblmenafplccaaGreatDoorDigitsWalk
import Derived.Test.YtmblmenafplccaaGreatDoorFindMathB
namespace Go.Proofs.YtmblmenafplccaaGreatDoor
open Ln Pth Vf
set_option linter.unusedSimpArgs false
set_option linter.unusedVariables false

/-- a target that waits, and its needs that are next -/
abbrev Opn := ByteArray × List ByteArray
/-- a search: what waits (the last one first), what was met, what is done -/
structure Se where
  way : List Opn
  met : List ByteArray
  done : List ByteArray
def se0 : Se := ⟨[], [], []⟩
section
variable (P : ByteArray → Pn) (is : ByteArray → Bool)
/-- a target is met: an error, and the search -/
def entF (x : ByteArray) (s : Se) : Nat × Se :=
  if Lib.containsS s.met x = true then (if (s.way.any fun o => decide (o.1 = x)) = true then 18 else 0, s)
  else if 1000 ≤ s.met.length ∨ 200 ≤ s.way.length then (3, s)
  else if (P x).rule = false ∧ is x = false then (19, s)
  else (0, ⟨(x, (P x).needs) :: s.way, s.met ++ [x], s.done⟩)
/-- what waits and wants no more is done; the next need -/
def popF : List Opn → List ByteArray → List Opn × List ByteArray × Option ByteArray
  | [], d => ([], d, none)
  | (t, []) :: r, d => popF r (d ++ [t])
  | (t, n :: ns) :: r, d => ((t, ns) :: r, d, some n)
/-- from a target on: what becomes of a search, and the error -/
inductive GoR : ByteArray → Se → Se → Nat → Prop
  | err {x s e s'} : entF P is x s = (e, s') → e ≠ 0 → GoR x s s' e
  | fin {x s s' d} : entF P is x s = (0, s') → popF s'.way s'.done = ([], d, none) → GoR x s ⟨[], s'.met, d⟩ 0
  | more {x s s' w d n r e} : entF P is x s = (0, s') → popF s'.way s'.done = (w, d, some n) → GoR n ⟨w, s'.met, d⟩ r e → GoR x s r e
inductive OrR : List ByteArray → Se → Se → Nat → Prop
  | nil {s} : OrR [] s s 0
  | err {x l s r e} : GoR P is x s r e → e ≠ 0 → OrR (x :: l) s r e
  | cons {x l s s' r e} : GoR P is x s s' 0 → OrR l s' r e → OrR (x :: l) s r e
end
theorem pop_none : ∀ {w : List Opn} {d : List ByteArray} {w' d'}, popF w d = (w', d', none) → w' = []
  | [], d, w', d', h => by simp [popF] at h; exact h.1
  | (t, []) :: r, d, w', d', h => pop_none (w := r) (d := d ++ [t]) h
  | (t, n :: ns) :: r, d, w', d', h => by simp [popF] at h
/-! what holds of every search -/
def ndsum (w : List Opn) : Nat := (w.map fun o => o.2.length).sum
theorem pop_sum : ∀ {w : List Opn} {d : List ByteArray} {w' d' n}, popF w d = (w', d', some n) → ndsum w = ndsum w' + 1
  | [], d, w', d', n, h => by simp [popF] at h
  | (t, []) :: r, d, w', d', n, h => by
    have := pop_sum (w := r) (d := d ++ [t]) h
    unfold ndsum at this ⊢
    rw [List.map_cons, List.sum_cons, this]
    simp
  | (t, m :: ns) :: r, d, w', d', n, h => by
    simp only [popF, Prod.mk.injEq] at h
    obtain ⟨rfl, _, _⟩ := h
    unfold ndsum
    rw [List.map_cons, List.sum_cons, List.map_cons, List.sum_cons]
    simp only [List.length_cons]
    omega
def mu (s : Se) : Nat := (1000 - s.met.length) * 1000000 + ndsum s.way
structure SeOk (Gd : ByteArray → Prop) (s : Se) : Prop where
  met : s.met.length ≤ 1000
  way : s.way.length ≤ 200
  sum : s.done.length + s.way.length = s.met.length
  gd : ∀ o ∈ s.way, ∀ y ∈ o.2, Gd y
theorem SeOk.start (Gd : ByteArray → Prop) : SeOk Gd se0 := ⟨by simp [se0], by simp [se0], by simp [se0], fun o ho => by simp [se0] at ho⟩
theorem SeOk.pop {Gd : ByteArray → Prop} {t : ByteArray} {r : List Opn} {m d : List ByteArray} (h : SeOk Gd ⟨(t, []) :: r, m, d⟩) : SeOk Gd ⟨r, m, d ++ [t]⟩ := by
  have h1 := h.way
  have h2 := h.sum
  simp only [List.length_cons] at h1 h2
  exact ⟨h.met, by dsimp only; omega, by dsimp only; rw [List.length_append, List.length_singleton]; omega, fun o ho => h.gd o (by simp [ho])⟩
theorem SeOk.next {Gd : ByteArray → Prop} {t n : ByteArray} {ns : List ByteArray} {r : List Opn} {m d : List ByteArray} (h : SeOk Gd ⟨(t, n :: ns) :: r, m, d⟩) : SeOk Gd ⟨(t, ns) :: r, m, d⟩ ∧ Gd n := by
  refine ⟨⟨h.met, h.way, h.sum, fun o ho y hy => ?_⟩, h.gd (t, n :: ns) (by simp) n (by simp)⟩
  rcases List.mem_cons.1 ho with e | ho
  · exact h.gd (t, n :: ns) (by simp) y (by rw [e] at hy; simp [hy])
  · exact h.gd o (by simp [ho]) y hy
/-- why a target can't be met -/
def mayF (P : ByteArray → Pn) (is : ByteArray → Bool) (x : ByteArray) (s : Se) : Nat := if 1000 ≤ s.met.length ∨ 200 ≤ s.way.length then 3 else if (P x).rule = false ∧ is x = false then 19 else 0
theorem ent_old {P : ByteArray → Pn} {is : ByteArray → Bool} {x : ByteArray} {s : Se} (h : Lib.containsS s.met x = true) : entF P is x s = (if (s.way.any fun o => decide (o.1 = x)) = true then 18 else 0, s) := by
  unfold entF; rw [if_pos h]
theorem ent_no {P : ByteArray → Pn} {is : ByteArray → Bool} {x : ByteArray} {s : Se} (h : Lib.containsS s.met x = false) (hm : mayF P is x s ≠ 0) : entF P is x s = (mayF P is x s, s) := by
  unfold entF mayF at *
  rw [if_neg (by rw [h]; simp)]
  split
  · rfl
  · rename_i h1
    rw [if_neg h1] at hm
    split
    · rfl
    · rename_i h2; rw [if_neg h2] at hm; exact absurd rfl hm
theorem ent_yes {P : ByteArray → Pn} {is : ByteArray → Bool} {x : ByteArray} {s : Se} (h : Lib.containsS s.met x = false) (hm : mayF P is x s = 0) : entF P is x s = (0, ⟨(x, (P x).needs) :: s.way, s.met ++ [x], s.done⟩) ∧ s.met.length < 1000 ∧ s.way.length < 200 := by
  unfold entF mayF at *
  rw [if_neg (by rw [h]; simp)]
  split
  · rename_i h1; rw [if_pos h1] at hm; cases hm
  · rename_i h1
    rw [if_neg h1] at hm
    split
    · rename_i h2; rw [if_pos h2] at hm; cases hm
    · exact ⟨rfl, by omega, by omega⟩
theorem SeOk.ent {Gd : ByteArray → Prop} {x : ByteArray} {n : List ByteArray} {s : Se} (h : SeOk Gd s) (h1 : s.met.length < 1000) (h2 : s.way.length < 200) (hn : ∀ y ∈ n, Gd y) : SeOk Gd ⟨(x, n) :: s.way, s.met ++ [x], s.done⟩ := by
  have h3 := h.sum
  refine ⟨by simp; omega, by simp; omega, by simp; omega, fun o ho y hy => ?_⟩
  rcases List.mem_cons.1 ho with rfl | ho
  · exact hn y hy
  · exact h.gd o ho y hy
/-! a chain, and a ring -/
theorem ofNat_map_inj : ∀ {a b : List Nat}, (∀ c ∈ a, c < 256) → (∀ c ∈ b, c < 256) → a.map UInt8.ofNat = b.map UInt8.ofNat → a = b
  | [], [], _, _, _ => rfl
  | [], y :: b, _, _, h => by simp at h
  | x :: a, [], _, _, h => by simp at h
  | x :: a, y :: b, ha, hb, h => by
    rw [List.map_cons, List.map_cons] at h
    injection h with h1 h2
    have h3 := congrArg UInt8.toNat h1
    have hx := ha x (by simp)
    have hy := hb y (by simp)
    rw [UInt8.toNat_ofNat', UInt8.toNat_ofNat', Nat.mod_eq_of_lt hx, Nat.mod_eq_of_lt hy] at h3
    rw [h3, ofNat_map_inj (fun c hc => ha c (by simp [hc])) (fun c hc => hb c (by simp [hc])) h2]
def tT (i : Nat) : T := 116 :: (Qm.Base.dgL i).map UInt8.ofNat
def tN (i : Nat) : ByteArray := bs (tT i)
theorem tN_inj {i j : Nat} (h : tN i = tN j) : i = j := by
  have h1 := bs_inj h
  injection h1 with _ h1
  refine Qm.Base.dgL_inj (ofNat_map_inj (fun c hc => ?_) (fun c hc => ?_) h1)
  · have := Qm.Base.dgL_mem i c hc; omega
  · have := Qm.Base.dgL_mem j c hc; omega
theorem ds_bs (l : List Nat) : ds l = bs (l.map UInt8.ofNat) := by
  apply ByteArray.ext
  unfold ds strOfNums bs
  rw [List.map_map]
  rfl
theorem tN_cat (i : Nat) : (⟨#[116]⟩ : ByteArray) ++ ds (Qm.Base.dgL i) = tN i := by
  rw [ds_bs, show (⟨#[116]⟩ : ByteArray) = bs [116] from rfl, bs_app]
  rfl
theorem tN_size {i : Nat} (h : i < 1000) : (tN i).size ≤ 4 := by
  have := Qm.Base.dgL_len i 2 h
  unfold tN tT
  rw [bs_size]
  simp
  omega
/-- the needs of the i-th of n -/
def ndN (n back i : Nat) : List ByteArray := if i + 1 < n then [tN (i + 1)] else if back < n then [tN back] else []
/-- the targets below i, the last one first, none of which wants more -/
def wayN : Nat → List Opn
  | 0 => []
  | i + 1 => (tN i, []) :: wayN i
def metN : Nat → List ByteArray
  | 0 => []
  | i + 1 => metN i ++ [tN i]
def doneN : Nat → List ByteArray
  | 0 => []
  | i + 1 => tN i :: doneN i
theorem metN_len : ∀ i, (metN i).length = i
  | 0 => rfl
  | i + 1 => by rw [metN, List.length_append, metN_len i]; rfl
theorem wayN_len : ∀ i, (wayN i).length = i
  | 0 => rfl
  | i + 1 => by rw [wayN, List.length_cons, wayN_len i]
theorem doneN_len : ∀ i, (doneN i).length = i
  | 0 => rfl
  | i + 1 => by rw [doneN, List.length_cons, doneN_len i]
theorem metN_mem : ∀ {i : Nat} {x : ByteArray}, x ∈ metN i ↔ ∃ j, j < i ∧ x = tN j
  | 0, x => by simp [metN]
  | i + 1, x => by
    rw [metN, List.mem_append, metN_mem, List.mem_singleton]
    constructor
    · rintro (⟨j, hj, e⟩ | e)
      · exact ⟨j, by omega, e⟩
      · exact ⟨i, by omega, e⟩
    · rintro ⟨j, hj, e⟩
      by_cases h : j = i
      · subst h; exact .inr e
      · exact .inl ⟨j, by omega, e⟩
theorem wayN_any : ∀ {i : Nat} {x : ByteArray}, ((wayN i).any fun o => decide (o.1 = x)) = true ↔ ∃ j, j < i ∧ x = tN j
  | 0, x => by simp [wayN]
  | i + 1, x => by
    rw [wayN, List.any_cons, Bool.or_eq_true, wayN_any, decide_eq_true_eq]
    constructor
    · rintro (e | ⟨j, hj, e⟩)
      · exact ⟨i, by omega, e.symm⟩
      · exact ⟨j, by omega, e⟩
    · rintro ⟨j, hj, e⟩
      by_cases h : j = i
      · subst h; exact .inl e.symm
      · exact .inr ⟨j, by omega, e⟩
theorem popN : ∀ (i : Nat) (d : List ByteArray), popF (wayN i) d = ([], d ++ doneN i, none)
  | 0, d => by simp [wayN, popF, doneN]
  | i + 1, d => by rw [wayN, popF, popN i, doneN]; simp
section
variable {P : ByteArray → Pn} {is : ByteArray → Bool} {n back : Nat}
theorem ent_new (hP : ∀ i, i < n → (P (tN i)).rule = true ∧ (P (tN i)).needs = ndN n back i) (hn : n ≤ 60) {i : Nat} (hi : i < n) :
    entF P is (tN i) ⟨wayN i, metN i, []⟩ = (0, ⟨(tN i, ndN n back i) :: wayN i, metN (i + 1), []⟩) := by
  unfold entF
  have h1 : ¬ Lib.containsS (metN i) (tN i) = true := by
    rw [Lib.containsS_iff, metN_mem]
    rintro ⟨j, hj, e⟩
    have := tN_inj e
    omega
  rw [if_neg h1, if_neg (by rw [metN_len, wayN_len]; omega), if_neg (by rw [(hP i hi).1]; simp), (hP i hi).2]
  rfl
theorem ring_go (hP : ∀ i, i < n → (P (tN i)).rule = true ∧ (P (tN i)).needs = ndN n back i) (hn : n ≤ 60) {x : ByteArray} {s r : Se} {e : Nat} (h : GoR P is x s r e) :
    ∀ i, i < n → x = tN i → s = ⟨wayN i, metN i, []⟩ → (back < n → e = 18) ∧ (¬ back < n → e = 0 ∧ r = ⟨[], metN n, doneN n⟩) := by
  induction h with
  | err h1 h2 =>
    rintro i hi rfl rfl
    rw [ent_new hP hn hi] at h1
    injection h1 with h1
    exact absurd h1.symm h2
  | fin h1 h2 =>
    rintro i hi rfl rfl
    rw [ent_new hP hn hi] at h1
    injection h1 with h0 h1
    subst h1
    by_cases h3 : i + 1 < n
    · rw [show ndN n back i = [tN (i + 1)] by unfold ndN; rw [if_pos h3]] at h2
      simp [popF] at h2
    · obtain rfl : n = i + 1 := by omega
      by_cases h4 : back < i + 1
      · rw [show ndN (i + 1) back i = [tN back] by unfold ndN; rw [if_neg h3, if_pos h4]] at h2
        simp [popF] at h2
      · rw [show ndN (i + 1) back i = [] by unfold ndN; rw [if_neg h3, if_neg h4]] at h2
        have h5 := popN (i + 1) []
        rw [wayN] at h5
        rw [h5] at h2
        injection h2 with _ h2
        injection h2 with h2 _
        refine ⟨fun h => absurd h h4, fun _ => ⟨rfl, ?_⟩⟩
        rw [← h2]
        simp
  | more h1 h2 h3 ih =>
    rintro i hi rfl rfl
    rw [ent_new hP hn hi] at h1
    injection h1 with h0 h1
    subst h1
    by_cases h4 : i + 1 < n
    · rw [show ndN n back i = [tN (i + 1)] by unfold ndN; rw [if_pos h4]] at h2
      simp only [popF, Prod.mk.injEq, Option.some.injEq] at h2
      obtain ⟨rfl, rfl, rfl⟩ := h2
      exact ih (i + 1) h4 rfl rfl
    · obtain rfl : n = i + 1 := by omega
      by_cases h5 : back < i + 1
      · rw [show ndN (i + 1) back i = [tN back] by unfold ndN; rw [if_neg h4, if_pos h5]] at h2
        simp only [popF, Prod.mk.injEq, Option.some.injEq] at h2
        obtain ⟨rfl, rfl, rfl⟩ := h2
        refine ⟨fun _ => ?_, fun h => absurd h5 h⟩
        have he : entF P is (tN back) ⟨(tN i, []) :: wayN i, metN (i + 1), []⟩ = (18, ⟨(tN i, []) :: wayN i, metN (i + 1), []⟩) := by
          unfold entF
          rw [if_pos ((Lib.containsS_iff _ _).2 (metN_mem.2 ⟨back, h5, rfl⟩)), if_pos]
          exact (wayN_any (i := i + 1)).2 ⟨back, h5, rfl⟩
        cases h3 with
        | err h6 h7 => rw [he] at h6; injection h6 with h6; exact h6.symm
        | fin h6 h7 => rw [he] at h6; injection h6 with h6; omega
        | more h6 h7 h8 => rw [he] at h6; injection h6 with h6; omega
      · rw [show ndN (i + 1) back i = [] by unfold ndN; rw [if_neg h4, if_neg h5]] at h2
        have h6 := popN (i + 1) []
        rw [wayN] at h6
        rw [h6] at h2
        injection h2 with _ h2
        injection h2 with _ h2
        cases h2
end
end Go.Proofs.YtmblmenafplccaaGreatDoor
namespace Go.Proofs.YtmblmenafplccaaGreatDoor
open Ln Pth Vf
set_option linter.unusedSimpArgs false
set_option linter.unusedVariables false

def IsRg (n back i : Nat) (r : Rl) : Prop := r.tg.2.2 = [tN i] ∧ r.nd.2.2 = ndN n back i ∧ r.rc.2.2 = []
inductive RgL (n back : Nat) : Nat → List Rl → Prop
  | nil : RgL n back 0 []
  | app {i L r} : RgL n back i L → IsRg n back i r → RgL n back (i + 1) (L ++ [r])
section
variable {n back : Nat}
theorem rg_len : ∀ {k : Nat} {L : List Rl}, RgL n back k L → L.length = k
  | _, _, .nil => rfl
  | _, _, .app h _ => by rw [List.length_append, rg_len h]; rfl
theorem rg_mem {k : Nat} {L : List Rl} (h : RgL n back k L) : ∀ r ∈ L, ∃ j, j < k ∧ IsRg n back j r := by
  induction h with
  | nil => intro r hr; cases hr
  | app h1 h2 ih =>
    intro r hr
    rcases List.mem_append.1 hr with h | h
    · obtain ⟨j, hj, e⟩ := ih r h
      exact ⟨j, by omega, e⟩
    · obtain rfl := List.mem_singleton.1 h
      exact ⟨_, Nat.lt_succ_self _, h2⟩
theorem tT_no (i : Nat) {c : UInt8} (h1 : c ≠ 116) (h2 : c < 48) : c ∉ tT i := by
  intro h
  rcases List.mem_cons.1 h with h | h
  · exact h1 h
  · obtain ⟨d, hd, rfl⟩ := List.mem_map.1 h
    have := Qm.Base.dgL_mem i d hd
    have h3 := UInt8.lt_iff_toNat_lt.1 h2
    rw [UInt8.toNat_ofNat', Nat.mod_eq_of_lt (by omega)] at h3
    have : (48 : UInt8).toNat = 48 := rfl
    omega
theorem rg_plain {i : Nat} {r : Rl} (h : IsRg n back i r) : plainR r.tg.2.2 = true := by
  rw [h.1]
  unfold plainR
  simp only [List.any_cons, List.any_nil, Bool.or_false]
  unfold isP tN
  rw [bs_list, decide_eq_false (tT_no i (by decide) (by decide))]
  rfl
theorem rg_of {i : Nat} {r : Rl} (h : IsRg n back i r) (x : ByteArray) : ofR x r = decide (x = tN i) := by
  unfold ofR
  rw [rg_plain h, h.1, Bool.true_and, Bool.eq_iff_iff, Lib.containsS_iff, decide_eq_true_eq, List.mem_singleton]
theorem nd_needs (i : Nat) : needsF [] (ndN n back i) = ndN n back i := by
  unfold ndN
  split
  · rfl
  · split <;> rfl
theorem rg_gathers {k : Nat} {L : List Rl} (h : RgL n back k L) : (∀ i, gathersF (tN i) L = if i < k then ⟨ndN n back i, [], [], true⟩ else noPn) ∧ ∀ x, (∀ j, x ≠ tN j) → gathersF x L = noPn := by
  induction h with
  | nil => exact ⟨fun i => by rw [if_neg (by omega)]; rfl, fun x _ => rfl⟩
  | app h1 h2 ih =>
    rename_i k L r
    have hf : ∀ x, gathersF x (L ++ [r]) = gatherF x (gathersF x L) r := fun x => by unfold gathersF; rw [List.foldl_append]; rfl
    refine ⟨fun i => ?_, fun x hx => ?_⟩
    · rw [hf, ih.1, gatherF, rg_of h2]
      by_cases e : i = k
      · subst e
        rw [if_pos (by simp), if_neg (Nat.lt_irrefl i), if_pos (Nat.lt_succ_self i), h2.2.1, h2.2.2]
        show (⟨needsF [] (ndN n back i), _, _, _⟩ : Pn) = _
        rw [nd_needs]
        rfl
      · rw [if_neg (by simp; exact fun h => e (tN_inj h))]
        by_cases e2 : i < k
        · rw [if_pos e2, if_pos (by omega)]
        · rw [if_neg e2, if_neg (by omega)]
    · rw [hf, ih.2 x hx, gatherF, rg_of h2, if_neg (by simp; exact hx k)]
theorem firstO_no {α β : Type} {f : α → Option β} : ∀ {l : List α}, (∀ a ∈ l, f a = none) → firstO f l = none
  | [], _ => rfl
  | a :: l, h => by rw [firstO, h a (by simp)]; exact firstO_no fun b hb => h b (by simp [hb])
theorem rg_fits {k : Nat} {L : List Rl} (h : RgL n back k L) (S : St) (cwd target : T) (p : Pn) : fitsF S cwd L target p = p := by
  have hm := rg_mem h
  unfold fitsF
  rw [firstO_no fun r hr => by
    obtain ⟨j, _, e⟩ := hm r hr
    unfold pat1
    rw [if_pos (rg_plain e)], firstO_no fun r hr => by
    obtain ⟨j, _, e⟩ := hm r hr
    unfold suf1
    rw [if_pos (by rw [e.2.2]; rfl)]]
theorem rg_plan {L : List Rl} (h : RgL n back n L) (S : St) {i : Nat} (hi : i < n) : planF S [47] L (tT i) = ⟨ndN n back i, [], [], true⟩ := by
  have hg := (rg_gathers h).1 i
  rw [if_pos hi] at hg
  unfold planF
  rw [show specT (tT i) = false from special_false (by decide), if_neg (by simp), show bs (tT i) = tN i from rfl, hg, if_pos rfl, rg_fits h]
theorem rg_none {L : List Rl} (h : RgL n back n L) (S : St) : planF S [47] L [117] = noPn := by
  have hg := (rg_gathers h).2 (bs [117]) (fun j e => by
    have := bs_inj e
    unfold tT at this
    injection this with h1
    exact absurd h1 (by decide))
  unfold planF
  rw [show specT [117] = false from special_false (by decide), if_neg (by simp), hg, if_pos (show noPn.recipe = [] from rfl), rg_fits h]
theorem ndN_mem {i : Nat} {x : ByteArray} (h : x ∈ ndN n back i) : ∃ j, j < n ∧ x = tN j := by
  unfold ndN at h
  split at h
  · exact ⟨i + 1, by assumption, List.mem_singleton.1 h⟩
  · split at h
    · exact ⟨back, by assumption, List.mem_singleton.1 h⟩
    · cases h
/-- sizes -/
theorem rg_special {L : List Rl} (hb : ∀ r ∈ L, r.nd.2.2.length ≤ 1) (name : ByteArray) : (specialR L name).length ≤ L.length := by
  unfold specialR

  induction L with
  | nil => simp
  | cons r L ih =>
    rw [List.flatMap_cons, List.length_append, List.length_cons]
    have := ih (fun r hr => hb r (by simp [hr]))
    have := hb r (by simp)
    split
    · omega
    · rw [List.length_nil]; omega
theorem nd_len (i : Nat) : (ndN n back i).length ≤ 1 := by
  unfold ndN
  split
  · simp
  · split <;> simp
theorem rg_sizes {L : List Rl} (h : RgL n back n L) (hn : n ≤ 60) : (∀ r ∈ L, ∀ x ∈ r.tg.2.2, x.size ≤ 10000) ∧ (∀ r ∈ L, ∀ x ∈ r.nd.2.2, x.size ≤ 10000) ∧ (∀ name, ∀ s ∈ specialR L name, s.size ≤ 10000) ∧ (knownsF L).length ≤ 100000 ∧ (∀ name, (specialR L name).length ≤ 100000) ∧ L.length ≤ 60 := by
  have hm := rg_mem h
  have hl := rg_len h
  have hnd : ∀ r ∈ L, ∀ x ∈ r.nd.2.2, x.size ≤ 10000 := fun r hr x hx => by
    obtain ⟨j, hj, e⟩ := hm r hr
    rw [e.2.1] at hx
    obtain ⟨k, hk, rfl⟩ := ndN_mem hx
    have := tN_size (i := k) (by omega)
    omega
  refine ⟨fun r hr x hx => ?_, hnd, fun name s hs => ?_, ?_, fun name => ?_, by omega⟩
  · obtain ⟨j, hj, e⟩ := hm r hr
    rw [e.1] at hx
    obtain rfl := List.mem_singleton.1 hx
    have := tN_size (i := j) (by omega)
    omega
  · unfold specialR at hs
    obtain ⟨r, hr, h2⟩ := List.mem_flatMap.1 hs
    split at h2
    · exact hnd r hr s h2
    · cases h2
  · unfold knownsF
    have : ∀ L : List Rl, (∀ r ∈ L, r.tg.2.2.length ≤ 1) → (L.flatMap fun r => if plainR r.tg.2.2 = true then r.tg.2.2 else []).length ≤ L.length := by
      intro L
      induction L with
      | nil => intro _; simp
      | cons r L ih =>
        intro hb
        rw [List.flatMap_cons, List.length_append, List.length_cons]
        have := ih (fun r hr => hb r (by simp [hr]))
        have := hb r (by simp)
        split
        · omega
        · rw [List.length_nil]; omega
    have := this L (fun r hr => by
      obtain ⟨j, _, e⟩ := hm r hr
      rw [e.1]; simp)
    omega
  · have := rg_special (fun r hr => by
      obtain ⟨j, _, e⟩ := hm r hr
      rw [e.2.1]; exact nd_len j) name
    omega
end
end Go.Proofs.YtmblmenafplccaaGreatDoor
