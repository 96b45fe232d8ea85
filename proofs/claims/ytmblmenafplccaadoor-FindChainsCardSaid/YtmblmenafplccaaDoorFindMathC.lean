/- Plain facts for the law FindChains: which of its rules fits first. No program in sight. -/
import Derived.Test.YtmblmenafplccaaDoorFindMathB
import Derived.Test.YtmblmenafplccaaDoorFindWalkI
namespace Go.Proofs.YtmblmenafplccaaDoor
open Ln Pth Vf

def sT (i : Nat) : T := [46, 115, UInt8.ofNat (48 + i)]
theorem sT_inj {i j : Nat} (hi : i < 10) (hj : j < 10) (h : sT i = sT j) : i = j := by
  have h1 : UInt8.ofNat (48 + i) = UInt8.ofNat (48 + j) := by
    injection h with _ h
    injection h with _ h
    injection h with h _
  have := congrArg UInt8.toNat h1
  rw [UInt8.toNat_ofNat', UInt8.toNat_ofNat'] at this
  omega
structure IsPt (i : Nat) (r : Rl) : Prop where
  t : r.tg.2.2 = [bs [37, 46, 111]]
  n : r.nd.2.2 = [bs (37 :: sT i)]
  r : r.rc.2.2 = [bs (114 :: sT i)]
structure IsKn (st : T) (i : Nat) (r : Rl) : Prop where
  t : r.tg.2.2 = [bs (st ++ sT i)]
  n : r.nd.2.2 = []
  r : r.rc.2.2 = []
/-- the law's rules, so far -/
inductive ChL (st : T) (known : Bool) (D : List Bool) : Nat → List Rl → Prop
  | nil : ChL st known D 0 []
  | no {i : Nat} {L : List Rl} {p : Rl} (h : ChL st known D i L) (hp : IsPt i p) (hd : ¬ (D[i]? = some true ∧ known = true)) : ChL st known D (i + 1) (L ++ [p])
  | yes {i : Nat} {L : List Rl} {p k : Rl} (h : ChL st known D i L) (hp : IsPt i p) (hd : D[i]? = some true) (hk : known = true) (hkn : IsKn st i k) : ChL st known D (i + 1) (L ++ [p] ++ [k])
/-- the first that is there -/
def wantN (D : List Bool) : Nat → Option Nat
  | 0 => none
  | i + 1 => match wantN D i with
    | some j => some j
    | none => if D[i]? = some true then some i else none
theorem firstO_app {α β : Type} (f : α → Option β) : ∀ (l m : List α), firstO f (l ++ m) = match firstO f l with
    | some b => some b
    | none => firstO f m
  | [], m => rfl
  | a :: l, m => by
    rw [List.cons_append, firstO, firstO]
    cases f a with
    | some b => rfl
    | none => exact firstO_app f l m
theorem firstO_none' {α β : Type} (f : α → Option β) : ∀ l : List α, (∀ x ∈ l, f x = none) → firstO f l = none
  | [], _ => rfl
  | a :: l, h => by
    rw [firstO, h a (by simp)]
    exact firstO_none' f l (fun x hx => h x (by simp [hx]))
theorem knowns_app (L M : List Rl) : knownsF (L ++ M) = knownsF L ++ knownsF M := by unfold knownsF; rw [List.flatMap_append]
theorem pt_plain {i : Nat} {r : Rl} (h : IsPt i r) : plainR r.tg.2.2 = false := by rw [h.t]; kernel_rfl
theorem kn_plain {st : T} (hs : lowT st) {i : Nat} (hi : i < 10) {r : Rl} (h : IsKn st i r) : plainR r.tg.2.2 = true := by
  unfold plainR
  rw [h.t]
  simp only [List.any_cons, List.any_nil, Bool.or_false]
  rw [isP_bs]
  · rfl
  · intro e
    rcases List.mem_append.1 e with e | e
    · exact low_mem hs (by decide) e
    · simp only [sT, List.mem_cons, List.not_mem_nil, or_false] at e
      rcases e with e | e | e
      · cases e
      · cases e
      · have := congrArg UInt8.toNat e
        rw [UInt8.toNat_ofNat'] at this
        have h37 : (37 : UInt8).toNat = 37 := rfl
        omega
theorem ch_all {st : T} {known : Bool} {D : List Bool} {i : Nat} {L : List Rl} (h : ChL st known D i L) : ∀ r ∈ L, (∃ j, j < i ∧ IsPt j r) ∨ (∃ j, j < i ∧ IsKn st j r) := by
  induction h with
  | nil => intro r hr; cases hr
  | no h hp hd ih =>
    intro r hr
    rcases List.mem_append.1 hr with hr | hr
    · rcases ih r hr with ⟨j, h1, h2⟩ | ⟨j, h1, h2⟩
      · exact .inl ⟨j, by omega, h2⟩
      · exact .inr ⟨j, by omega, h2⟩
    · rw [List.mem_singleton.1 hr]
      exact .inl ⟨_, by omega, hp⟩
  | yes h hp hd hk hkn ih =>
    intro r hr
    rcases List.mem_append.1 hr with hr | hr
    · rcases List.mem_append.1 hr with hr | hr
      · rcases ih r hr with ⟨j, h1, h2⟩ | ⟨j, h1, h2⟩
        · exact .inl ⟨j, by omega, h2⟩
        · exact .inr ⟨j, by omega, h2⟩
      · rw [List.mem_singleton.1 hr]
        exact .inl ⟨_, by omega, hp⟩
    · rw [List.mem_singleton.1 hr]
      exact .inr ⟨_, by omega, hkn⟩
theorem ch_len {st : T} {known : Bool} {D : List Bool} {i : Nat} {L : List Rl} (h : ChL st known D i L) : L.length ≤ 2 * i := by
  induction h with
  | nil => exact Nat.le_refl _
  | no h hp hd ih => simp only [List.length_append, List.length_cons, List.length_nil]; omega
  | yes h hp hd hk hkn ih => simp only [List.length_append, List.length_cons, List.length_nil]; omega
/-- what is known: those that are there, if so -/
theorem ch_knows {st : T} (hs : lowT st) {known : Bool} {D : List Bool} {i : Nat} {L : List Rl} (h : ChL st known D i L) (hi : i ≤ 9) {j : Nat} (hj : j < 10) : bs (st ++ sT j) ∈ knownsF L ↔ j < i ∧ D[j]? = some true ∧ known = true := by
  induction h with
  | nil => simp [knownsF]
  | @no i L p h hp hd ih =>
    have e : knownsF [p] = [] := by
      unfold knownsF
      rw [List.flatMap_cons, if_neg (by rw [pt_plain hp]; simp)]
      rfl
    rw [knowns_app, e, List.append_nil, ih (by omega)]
    constructor
    · rintro ⟨h1, h2⟩; exact ⟨by omega, h2⟩
    · rintro ⟨h1, h2⟩
      refine ⟨?_, h2⟩
      rcases Nat.lt_succ_iff_lt_or_eq.1 h1 with h1 | rfl
      · exact h1
      · exact absurd h2 hd
  | @yes i L p k h hp hd hk hkn ih =>
    have e : knownsF [p] = [] := by
      unfold knownsF
      rw [List.flatMap_cons, if_neg (by rw [pt_plain hp]; simp)]
      rfl
    have e2 : knownsF [k] = [bs (st ++ sT i)] := by
      unfold knownsF
      rw [List.flatMap_cons, if_pos (kn_plain hs (by omega) hkn), hkn.t]
      rfl
    rw [knowns_app, knowns_app, e, e2, List.append_nil, List.mem_append, ih (by omega), List.mem_singleton]
    constructor
    · rintro (⟨h1, h2⟩ | h1)
      · exact ⟨by omega, h2⟩
      · obtain rfl := sT_inj hj (by omega) (List.append_cancel_left (bs_inj h1))
        exact ⟨by omega, hd, hk⟩
    · rintro ⟨h1, h2⟩
      rcases Nat.lt_succ_iff_lt_or_eq.1 h1 with h1 | rfl
      · exact .inl ⟨h1, h2⟩
      · exact .inr rfl
theorem match_o {c : UInt8} {st : T} : matchT [37, 46, 111] ((c :: st) ++ [46, 111]) = (c :: st, true) := by
  have h1 : cutsT [37, 46, 111] = true := by kernel_rfl
  have h2 : frontT [37, 46, 111] = [] := by kernel_rfl
  have h3 : backT [37, 46, 111] = [46, 111] := by kernel_rfl
  unfold matchT
  rw [h1, h2, h3, if_neg (by simp), if_neg (by simp), if_neg (by unfold Lib.hasPrefix; simp), if_neg (by rw [isSuffix_app]; simp)]
  simp only [List.length_nil, List.drop_zero, Nat.sub_zero, List.length_append]
  rw [Nat.add_sub_cancel, List.take_left]
theorem fill_s {st : T} {i : Nat} : fillT (37 :: sT i) st = st ++ sT i := by
  have hx : Lib.index (37 :: sT i) [37] = 0 := by unfold Lib.index; simp
  unfold fillT
  have h1 : cutsT (37 :: sT i) = true := by unfold cutsT Lib.cut; rw [if_pos (by rw [hx]; decide)]
  have h2 : frontT (37 :: sT i) = [] := by unfold frontT Lib.cut; rw [if_pos (by rw [hx]; decide), hx]; rfl
  have h3 : backT (37 :: sT i) = sT i := by unfold backT Lib.cut; rw [if_pos (by rw [hx]; decide), hx]; rfl
  rw [h1, h2, h3, if_neg (by simp)]
  rfl
/-- the plan that the i-th rule makes -/
def chPn (st : T) (i : Nat) : Pn := ⟨[bs (st ++ sT i)], [bs (114 :: sT i)], st, true⟩
theorem pat_one {c : UInt8} {st : T} (S : St) (kl : List ByteArray) {i : Nat} {r : Rl} (h : IsPt i r) (hg : GoodN ((c :: st) ++ sT i)) (av : Bool) (hav : av = true ↔ (kindM S.m (47 :: ((c :: st) ++ sT i)) ≠ 0 ∨ bs ((c :: st) ++ sT i) ∈ kl)) :
    pat1 S [47] kl ((c :: st) ++ [46, 111]) noPn r = if av = true then some (chPn (c :: st) i) else none := by
  have hf : fillsF r (c :: st) = [bs ((c :: st) ++ sT i)] := by
    unfold fillsF
    rw [h.n]
    simp only [List.map_cons, List.map_nil]
    rw [bs_list, fill_s]
  have h1 : firstF ((c :: st) ++ [46, 111]) r.tg.2.2 = some (c :: st) := by
    rw [h.t, firstF, bs_list, match_o, if_pos rfl]
  unfold pat1
  rw [if_neg (by rw [pt_plain h]; simp), if_neg (by rw [h.r]; simp)]
  unfold patO
  rw [h1]
  dsimp only
  rw [hf, h.r]
  have ht : thereF S [47] kl [bs ((c :: st) ++ sT i)] = av := by
    unfold thereF lackF
    simp only [List.any_cons, List.any_nil, Bool.or_false]
    rw [bs_list, kindT_top S hg, Bool.eq_iff_iff, hav]
    by_cases hk : kindM S.m (47 :: ((c :: st) ++ sT i)) = 0
    · rw [decide_eq_true hk]
      simp only [Bool.true_and, Bool.not_not, ne_eq, hk, not_true_eq_false, false_or]
      exact Lib.containsS_iff _ _
    · rw [decide_eq_false hk, Bool.false_and]
      exact ⟨fun _ => .inl hk, fun _ => rfl⟩
  rw [ht]
  rfl
theorem ch_first {c : UInt8} {st : T} (hg : ∀ j, j < 10 → GoodN ((c :: st) ++ sT j)) {known : Bool} {D : List Bool} (S : St) (kl : List ByteArray) (hav : ∀ j, j < 10 → (D[j]? = some true ↔ (kindM S.m (47 :: ((c :: st) ++ sT j)) ≠ 0 ∨ bs ((c :: st) ++ sT j) ∈ kl))) {i : Nat} {L : List Rl} (h : ChL (c :: st) known D i L) (hi : i ≤ 9) :
    firstO (pat1 S [47] kl ((c :: st) ++ [46, 111]) noPn) L = (wantN D i).map (chPn (c :: st)) := by
  have one : ∀ {j : Nat} {p : Rl}, j < 10 → IsPt j p → pat1 S [47] kl ((c :: st) ++ [46, 111]) noPn p = if D[j]? = some true then some (chPn (c :: st) j) else none := by
    intro j p hj hp
    rw [pat_one S kl hp (hg j hj) (decide (D[j]? = some true)) (by rw [decide_eq_true_iff]; exact hav j hj)]
    simp only [decide_eq_true_eq]
  induction h with
  | nil => rfl
  | @no i L p h hp hd ih =>
    rw [firstO_app, ih (by omega), wantN]
    cases wantN D i with
    | some j => rfl
    | none =>
      simp only [Option.map_none, firstO]
      rw [one (by omega) hp]
      split
      · rename_i hx; split at hx
        · injection hx with hx; rw [← hx]; simp [*]
        · cases hx
      · rename_i hx; split at hx
        · cases hx
        · simp [*]
  | @yes i L p k h hp hd hk hkn ih =>
    rw [List.append_assoc, firstO_app, ih (by omega), wantN]
    cases wantN D i with
    | some j => rfl
    | none =>
      simp only [Option.map_none, List.singleton_append, firstO]
      rw [one (by omega) hp, if_pos hd, if_pos hd]
      rfl
theorem gathers_none {t : ByteArray} {L : List Rl} (h : ∀ r ∈ L, ofR t r = false) : gathersF t L = noPn := by
  unfold gathersF
  induction L with
  | nil => rfl
  | cons r L ih =>
    rw [List.foldl_cons]
    have e : gatherF t noPn r = noPn := by
      unfold gatherF
      rw [if_neg (by rw [h r (by simp)]; simp)]
    rw [e]
    exact ih (fun x hx => h x (by simp [hx]))
/-- what the law's makefile plans -/
theorem ch_plan {c : UInt8} {st : T} (hs : lowT (c :: st)) (hg : ∀ j, j < 10 → GoodN ((c :: st) ++ sT j)) {known : Bool} {D : List Bool} (S : St) {n : Nat} {L : List Rl} (h : ChL (c :: st) known D n L) (hn : n ≤ 8) (hD : D.length = n) (hk : ∀ j, j < 10 → (kindM S.m (47 :: ((c :: st) ++ sT j)) ≠ 0 ↔ (D[j]? = some true ∧ known = false))) :
    planF S [47] L ((c :: st) ++ [46, 111]) = match wantN D n with
      | none => noPn
      | some j => chPn (c :: st) j := by
  have hc := low_head hs
  have hsp : specT ((c :: st) ++ [46, 111]) = false := special_false hc.1
  have hof : ∀ r ∈ L, ofR (bs ((c :: st) ++ [46, 111])) r = false := by
    intro r hr
    unfold ofR
    rcases ch_all h r hr with ⟨j, h1, h2⟩ | ⟨j, h1, h2⟩
    · rw [pt_plain h2, Bool.false_and]
    · rw [h2.t, contS_ne, Bool.and_false]
      rw [List.mem_singleton]
      intro e
      have := congrArg List.length (List.append_cancel_left (bs_inj e))
      simp [sT] at this
  unfold planF
  rw [if_neg (by rw [hsp]; simp), gathers_none hof, if_pos (show noPn.recipe = [] from rfl)]
  have hav : ∀ j, j < 10 → (D[j]? = some true ↔ (kindM S.m (47 :: ((c :: st) ++ sT j)) ≠ 0 ∨ bs ((c :: st) ++ sT j) ∈ knownsF L)) := by
    intro j hj
    rw [hk j hj, ch_knows hs h (by omega) hj]
    constructor
    · intro hd
      have hjn : j < n := by rw [← hD]; exact (List.getElem?_eq_some_iff.1 hd).1
      cases known
      · exact .inl ⟨hd, rfl⟩
      · exact .inr ⟨hjn, hd, rfl⟩
    · rintro (⟨h1, _⟩ | ⟨_, h1, _⟩) <;> exact h1
  have hf := ch_first hg S (knownsF L) hav h (by omega)
  cases hw : wantN D n with
  | some j =>
    rw [hw] at hf
    exact fits_1 hf
  | none =>
    rw [hw] at hf
    refine fits_3 hf (firstO_none' _ _ fun r hr => ?_)
    unfold suf1
    rcases ch_all h r hr with ⟨j, h1, h2⟩ | ⟨j, h1, h2⟩
    · rw [if_neg (by rw [h2.r]; simp)]
      exact sufO_1 (pt_plain h2)
    · rw [if_pos (by rw [h2.r]; rfl)]
/-- the law's tree, so far -/
structure FsC (st : T) (known : Bool) (D : List Bool) (i : Nat) (S : St) : Prop where
  wf : WfS S
  nodes : S.nodes = 20
  bytes : S.bytes = 100
  used : S.used = 0
  clock : S.clock ≤ i
  len : S.m.length ≤ i
  keys : ∀ j, j < 10 → ((getG S.m (bs (47 :: (st ++ sT j)))).isSome = true ↔ (j < i ∧ D[j]? = some true ∧ known = false))
theorem FsC.new (st : T) (known : Bool) (D : List Bool) : FsC st known D 0 (newS 20 100) :=
  ⟨newS_wf 20 100, rfl, rfl, rfl, Nat.le_refl _, Nat.le_refl _, fun j _ => by simp [newS, getG]⟩
theorem FsC.no {st : T} {known : Bool} {D : List Bool} {i : Nat} {S : St} (h : FsC st known D i S) (hd : ¬ (D[i]? = some true ∧ known = false)) : FsC st known D (i + 1) S :=
  ⟨h.wf, h.nodes, h.bytes, h.used, by have := h.clock; omega, by have := h.len; omega, fun j hj => by
    rw [h.keys j hj]
    constructor
    · rintro ⟨h1, h2⟩; exact ⟨by omega, h2⟩
    · rintro ⟨h1, h2⟩
      refine ⟨?_, h2⟩
      rcases Nat.lt_succ_iff_lt_or_eq.1 h1 with h1 | rfl
      · exact h1
      · exact absurd h2 hd⟩
theorem FsC.yes {st : T} {known : Bool} {D : List Bool} {i : Nat} {S : St} (h : FsC st known D i S) (hi : i < 9) (hg : GoodN (st ++ sT i)) (hd : D[i]? = some true) (hk : known = false) : FsC st known D (i + 1) (writeS S (47 :: (st ++ sT i)) [] false).1 := by
  have hn : getG S.m (bs (47 :: (st ++ sT i))) = none := by
    cases hx : getG S.m (bs (47 :: (st ++ sT i))) with
    | none => rfl
    | some e =>
      have := (h.keys i (by omega)).1 (by rw [hx]; rfl)
      omega
  obtain ⟨h1, h2, h3, h4, h5, h6⟩ := write_top S hg hn (by rw [h.nodes]; have := h.len; omega) (by rw [h.used]; omega)
  refine ⟨writeS_wf h.wf _ _ _, by rw [h3, h.nodes], by rw [h4, h.bytes], by rw [h5, h.used], by rw [h6]; have := h.clock; omega, ?_, fun j hj => ?_⟩
  · rw [h2, putG_len _ h.wf.rise]
    have := h.len
    split <;> omega
  · rw [h2, getG_put]
    by_cases e : i = j
    · subst e
      rw [if_pos rfl]
      exact ⟨fun _ => ⟨by omega, hd, hk⟩, fun _ => rfl⟩
    · rw [if_neg (fun he => e (sT_inj (by omega) hj (List.append_cancel_left (by
        have := bs_inj he
        injection this with _ this)))), h.keys j hj]
      constructor
      · rintro ⟨h1, h2⟩; exact ⟨by omega, h2⟩
      · rintro ⟨h1, h2⟩; exact ⟨by omega, h2⟩
theorem FsC.kinds {st : T} {known : Bool} {D : List Bool} {n : Nat} {S : St} (h : FsC st known D n S) (hD : D.length = n) (hg : ∀ j, j < 10 → GoodN (st ++ sT j)) : ∀ j, j < 10 → (kindM S.m (47 :: (st ++ sT j)) ≠ 0 ↔ (D[j]? = some true ∧ known = false)) := by
  intro j hj
  have hk : kindM S.m (47 :: (st ++ sT j)) ≠ 0 ↔ (getG S.m (bs (47 :: (st ++ sT j)))).isSome = true := by
    unfold kindM
    rw [if_neg (top_ne _ (hg j hj))]
    cases getG S.m (bs (47 :: (st ++ sT j))) with
    | none => simp
    | some e =>
      simp only [Option.isSome_some, iff_true]
      split <;> omega
  rw [hk, h.keys j hj]
  constructor
  · rintro ⟨_, h2⟩; exact h2
  · intro h2
    refine ⟨?_, h2⟩
    rw [← hD]
    exact (List.getElem?_eq_some_iff.1 h2.1).1
/-- names of the law -/
theorem good_s {st : T} (hs : lowT st) (hn : st ≠ []) (hl : st.length ≤ 30) : ∀ j, j < 10 → GoodN (st ++ sT j) := by
  intro j hj
  cases st with
  | nil => exact absurd rfl hn
  | cons c l =>
    have hc := low_head hs
    have hx : ∀ x : UInt8, (x = 47 ∨ x = 0) → x ∉ (c :: l) ++ sT j := by
      intro x hx e
      rcases List.mem_append.1 e with e | e
      · refine low_mem hs ?_ e
        rcases hx with rfl | rfl <;> decide
      · simp only [sT, List.mem_cons, List.not_mem_nil, or_false] at e
        rcases hx with rfl | rfl
        all_goals
          rcases e with e | e | e
          · cases e
          · cases e
          · have := congrArg UInt8.toNat e
            rw [UInt8.toNat_ofNat'] at this
            have h47 : (47 : UInt8).toNat = 47 := rfl
            have h0 : (0 : UInt8).toNat = 0 := rfl
            omega
    refine ⟨⟨by simp, ?_, ?_, hx 47 (.inl rfl)⟩, ?_, hx 0 (.inr rfl)⟩
    · intro e
      injection e with e _
      exact hc.1 e
    · intro e
      injection e with e _
      exact hc.1 e
    · simp only [List.length_append, sT, List.length_cons, List.length_nil] at hl ⊢
      omega
theorem wantN_lt {D : List Bool} : ∀ {n j : Nat}, wantN D n = some j → j < n ∧ D[j]? = some true
  | 0, j, h => by cases h
  | n + 1, j, h => by
    rw [wantN] at h
    cases hw : wantN D n with
    | some k =>
      rw [hw] at h
      injection h with h
      subst h
      have := wantN_lt hw
      exact ⟨by omega, this.2⟩
    | none =>
      rw [hw] at h
      dsimp only at h
      split at h
      · rename_i hd
        injection h with h
        subst h
        exact ⟨by omega, hd⟩
      · cases h
end Go.Proofs.YtmblmenafplccaaDoor
