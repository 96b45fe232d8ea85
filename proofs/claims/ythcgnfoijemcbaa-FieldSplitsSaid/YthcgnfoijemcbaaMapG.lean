/- Maps from texts as rising lists: what the datum of such a map is behind a look-up, a store, a delete. No program in sight. -/
import Derived.Maps.Views
import Derived.Sort.Walk0
import Derived.Lib.Hide
import Derived.StringKeys
import Derived.Sort.KeysCollected
namespace Go.Proofs.Ythcgnfoijemcbaa
open Go.RowKit Go.Maps

def kLit (s : ByteArray) : Lit := .string s.data.toList
theorem kLit_inj {a b : ByteArray} (h : kLit a = kLit b) : a = b := by
  injection h with h
  exact ByteArray.ext (Array.ext' h)
/-- one text is ahead of another -/
def sLt (a b : ByteArray) : Bool := Op.bytesLess a.toList b.toList
theorem before_lt : ∀ a b : List UInt8, bytesBefore a b = decide (a < b)
  | [], [] => by simp [bytesBefore]
  | [], _ :: _ => by simp [bytesBefore]
  | _ :: _, [] => by simp [bytesBefore]
  | a :: r, b :: s => by
    rw [bytesBefore, before_lt r s, Bool.eq_iff_iff]
    simp only [Bool.or_eq_true, Bool.and_eq_true, decide_eq_true_eq, beq_iff_eq, List.cons_lt_cons_iff]
theorem sLt_iff (a b : ByteArray) : sLt a b = true ↔ a.data.toList < b.data.toList := by
  rw [sLt, bytesLess_eq, ByteArray.toList_eq, ByteArray.toList_eq, decide_eq_true_iff]
theorem before_sLt (a b : ByteArray) : (kLit a).before (kLit b) = sLt a b := by
  show bytesBefore a.data.toList b.data.toList = _
  rw [before_lt, Bool.eq_iff_iff, sLt_iff, decide_eq_true_iff]
theorem sLt_irr (a : ByteArray) : sLt a a = false := by
  rw [← Bool.not_eq_true, sLt_iff]; exact List.lt_irrefl _
theorem sLt_trans (a b c : ByteArray) (h : sLt a b = true) (k : sLt b c = true) : sLt a c = true :=
  (sLt_iff a c).2 (List.lt_trans ((sLt_iff a b).1 h) ((sLt_iff b c).1 k))
theorem sLt_tot (a b : ByteArray) (h : sLt a b = false) : a = b ∨ sLt b a = true := by
  rw [← Bool.not_eq_true, sLt_iff] at h
  by_cases k : sLt b a = true
  · exact .inr k
  · rw [sLt_iff] at k
    exact .inl (ByteArray.ext (Array.ext' (List.le_antisymm (List.not_lt.1 k) (List.not_lt.1 h))))
theorem same_kLit (a b : ByteArray) : (kLit a).sameKey (kLit b) = decide (a = b) := by
  rw [Bool.eq_iff_iff, decide_eq_true_iff]
  constructor
  · intro h; exact kLit_inj (WideAt.sameKey_eq h)
  · rintro rfl; exact WideAt.sameKey_self (by simp [kLit, WideAt.IsKeyLit])
section
variable {α H : Type}
/-- a map as a list by rising names -/
abbrev KV (α : Type) := List (ByteArray × α)
def getG (P : KV α) (n : ByteArray) : Option α := (P.find? fun x => decide (x.1 = n)).map (·.2)
def putG (x : ByteArray × α) : KV α → KV α
  | [] => [x]
  | y :: P => if sLt y.1 x.1 = true then y :: putG x P else if y.1 = x.1 then x :: P else x :: y :: P
def delG (n : ByteArray) (P : KV α) : KV α := P.filter fun x => !decide (x.1 = n)
def RiseG (P : KV α) : Prop := P.Pairwise fun a b => sLt a.1 b.1 = true
theorem getG_nil (n : ByteArray) : getG ([] : KV α) n = none := rfl
theorem getG_cons (y : ByteArray × α) (P : KV α) (n : ByteArray) : getG (y :: P) n = if y.1 = n then some y.2 else getG P n := by
  unfold getG
  rw [List.find?_cons]
  by_cases h : y.1 = n <;> simp [h]
theorem getG_del (P : KV α) (m n : ByteArray) : getG (delG m P) n = if m = n then none else getG P n := by
  unfold delG
  induction P with
  | nil => simp [getG]
  | cons y P ih =>
    rw [List.filter_cons]
    by_cases h : y.1 = m
    · rw [if_neg (by simp [h]), ih, getG_cons, h]
      by_cases e : m = n <;> simp [e]
    · rw [if_pos (by simp [h]), getG_cons, ih, getG_cons]
      by_cases e : m = n
      · subst e; simp [h]
      · simp [e]
theorem getG_put (x : ByteArray × α) (n : ByteArray) : ∀ P : KV α, getG (putG x P) n = if x.1 = n then some x.2 else getG P n
  | [] => by rw [putG, getG_cons]
  | y :: P => by
    rw [putG]
    by_cases h : sLt y.1 x.1 = true
    · rw [if_pos h, getG_cons, getG_put x n P, getG_cons]
      by_cases e : x.1 = n
      · have : y.1 ≠ n := fun e2 => by rw [e2, ← e, sLt_irr] at h; cases h
        simp [e, this]
      · simp [e]
    · rw [if_neg h]
      by_cases e : y.1 = x.1
      · rw [if_pos e, getG_cons, getG_cons, e]
        by_cases e2 : x.1 = n <;> simp [e2]
      · rw [if_neg e, getG_cons]
theorem RiseG.nil : RiseG ([] : KV α) := List.Pairwise.nil
theorem RiseG.del {P : KV α} (h : RiseG P) (n : ByteArray) : RiseG (delG n P) := List.Pairwise.filter _ h
theorem mem_putG {x z : ByteArray × α} : ∀ {P : KV α}, z ∈ putG x P → z = x ∨ z ∈ P
  | [], h => by simpa [putG] using h
  | y :: P, h => by
    rw [putG] at h
    split at h
    · rcases List.mem_cons.1 h with h | h
      · exact .inr (by simp [h])
      · rcases mem_putG h with h | h
        · exact .inl h
        · exact .inr (by simp [h])
    · split at h
      · rcases List.mem_cons.1 h with h | h
        · exact .inl h
        · exact .inr (by simp [h])
      · rcases List.mem_cons.1 h with h | h
        · exact .inl h
        · exact .inr h
theorem RiseG.put (x : ByteArray × α) : ∀ {P : KV α}, RiseG P → RiseG (putG x P)
  | [], _ => by simp [RiseG, putG]
  | y :: P, h => by
    have h1 := List.pairwise_cons.1 h
    rw [putG]
    by_cases e : sLt y.1 x.1 = true
    · rw [if_pos e]
      refine List.pairwise_cons.2 ⟨fun z hz => ?_, RiseG.put x h1.2⟩
      rcases mem_putG hz with rfl | hz
      · exact e
      · exact h1.1 z hz
    · rw [if_neg e]
      by_cases e2 : y.1 = x.1
      · rw [if_pos e2]
        exact List.pairwise_cons.2 ⟨fun z hz => e2 ▸ h1.1 z hz, h1.2⟩
      · rw [if_neg e2]
        have e3 : sLt x.1 y.1 = true := (sLt_tot y.1 x.1 (by simpa using e)).resolve_left e2
        refine List.pairwise_cons.2 ⟨fun z hz => ?_, h⟩
        rcases List.mem_cons.1 hz with rfl | hz
        · exact e3
        · exact sLt_trans _ _ _ e3 (h1.1 z hz)
theorem RiseG.ne {y : ByteArray × α} {P : KV α} (h : RiseG (y :: P)) : ∀ z ∈ P, z.1 ≠ y.1 := fun z hz e => by
  have := (List.pairwise_cons.1 h).1 z hz
  rw [e, sLt_irr] at this; cases this
theorem getG_none_of {n : ByteArray} {P : KV α} (h : ∀ z ∈ P, z.1 ≠ n) : getG P n = none := by
  unfold getG
  rw [List.find?_eq_none.2 (fun z hz => by simpa using h z hz)]; rfl
theorem getG_mem {n : ByteArray} {v : α} {P : KV α} (h : getG P n = some v) : (n, v) ∈ P := by
  unfold getG at h
  cases hf : P.find? (fun x => decide (x.1 = n)) with
  | none => rw [hf] at h; cases h
  | some y =>
    rw [hf] at h
    have h1 := List.mem_of_find?_eq_some hf
    have h2 := List.find?_some hf
    have h3 : y.2 = v := by simpa using h
    have h4 : y.1 = n := by simpa using h2
    rw [← h3, ← h4]; exact h1
theorem mem_getG {n : ByteArray} {v : α} : ∀ {P : KV α}, RiseG P → (n, v) ∈ P → getG P n = some v
  | [], _, h => by cases h
  | y :: P, hr, h => by
    rw [getG_cons]
    rcases List.mem_cons.1 h with rfl | h
    · rw [if_pos rfl]
    · rw [if_neg (fun e => RiseG.ne hr _ h e.symm)]
      exact mem_getG (List.pairwise_cons.1 hr).2 h
theorem putG_len (x : ByteArray × α) : ∀ {P : KV α}, RiseG P → (putG x P).length = if (getG P x.1).isSome then P.length else P.length + 1
  | [], _ => by simp [putG, getG]
  | y :: P, h => by
    have h1 := List.pairwise_cons.1 h
    rw [putG, getG_cons]
    by_cases e : sLt y.1 x.1 = true
    · have e2 : y.1 ≠ x.1 := fun e2 => by rw [e2, sLt_irr] at e; cases e
      rw [if_pos e, if_neg e2, List.length_cons, putG_len x h1.2]
      split <;> simp
    · rw [if_neg e]
      by_cases e2 : y.1 = x.1
      · simp [e2]
      · have e3 : sLt x.1 y.1 = true := (sLt_tot y.1 x.1 (by simpa using e)).resolve_left e2
        have e4 : getG P x.1 = none := getG_none_of (fun z hz e5 => by
          have := sLt_trans _ _ _ e3 (h1.1 z hz)
          rw [e5, sLt_irr] at this; cases this)
        rw [if_neg e2, if_neg e2, e4]
        simp
theorem delG_len (n : ByteArray) : ∀ {P : KV α}, RiseG P → (delG n P).length + (if (getG P n).isSome then 1 else 0) = P.length
  | [], _ => rfl
  | y :: P, h => by
    have h1 := List.pairwise_cons.1 h
    have ih := delG_len n h1.2
    unfold delG at ih ⊢
    rw [List.filter_cons, getG_cons]
    by_cases e : y.1 = n
    · subst e
      have e4 : getG P y.1 = none := getG_none_of (RiseG.ne h)
      rw [e4] at ih
      rw [if_neg (by simp), if_pos rfl]
      simp at ih ⊢
      omega
    · rw [if_pos (by simpa using e), if_neg e]
      simp only [List.length_cons]
      omega
/-- two rising lists with the same at each name are one -/
theorem RiseG.ext {P Q : KV α} (hP : RiseG P) (hQ : RiseG Q) (h : ∀ n, getG P n = getG Q n) : P = Q := by
  induction P generalizing Q with
  | nil =>
    cases Q with
    | nil => rfl
    | cons y Q => have := h y.1; rw [getG_nil, getG_cons, if_pos rfl] at this; cases this
  | cons x P ih =>
    cases Q with
    | nil => have := h x.1; rw [getG_nil, getG_cons, if_pos rfl] at this; cases this
    | cons y Q =>
      have a1 := List.pairwise_cons.1 hP
      have a2 := List.pairwise_cons.1 hQ
      have hxy : x.1 = y.1 := by
        have m1 := getG_mem (P := y :: Q) (n := x.1) (v := x.2) (by rw [← h, getG_cons, if_pos rfl])
        have m2 := getG_mem (P := x :: P) (n := y.1) (v := y.2) (by rw [h, getG_cons, if_pos rfl])
        rcases List.mem_cons.1 m1 with e | m1
        · exact congrArg Prod.fst e
        · rcases List.mem_cons.1 m2 with e | m2
          · exact (congrArg Prod.fst e).symm
          · have l1 := a2.1 _ m1
            have l2 := a1.1 _ m2
            have := sLt_trans _ _ _ l1 l2
            rw [sLt_irr] at this; cases this
      have hv : x.2 = y.2 := by
        have := h x.1
        rw [getG_cons, getG_cons, if_pos rfl, if_pos hxy.symm] at this
        injection this
      have he : x = y := Prod.ext hxy hv
      subst he
      rw [ih a1.2 a2.2 (fun n => ?_)]
      by_cases hn : x.1 = n
      · subst hn
        rw [getG_none_of (RiseG.ne hP), getG_none_of (RiseG.ne hQ)]
      · have := h n
        rw [getG_cons, getG_cons, if_neg hn, if_neg hn] at this
        exact this
/-- the datum of such a map -/
def datG (f : α → DataW H) (P : KV α) : DataW H := .map (P.map fun x => (kLit x.1, f x.2))
variable (f : α → DataW H)
theorem datG_has (P : KV α) (n : ByteArray) : Maps.has (datG f P) (kLit n) = (getG P n).isSome := by
  unfold datG
  rw [Maps.has_eq]
  induction P with
  | nil => rfl
  | cons y P ih =>
    rw [List.map_cons, List.any_cons, ih, getG_cons, same_kLit]
    by_cases e : y.1 = n <;> simp [e]
theorem datG_at (P : KV α) (n : ByteArray) (z : DataW H) : (datG f P).atKey (kLit n) z = (match getG P n with | some v => f v | none => z) := by
  unfold datG DataW.atKey
  simp only
  induction P with
  | nil => rfl
  | cons y P ih =>
    rw [List.map_cons, List.find?_cons, getG_cons, same_kLit]
    by_cases e : y.1 = n
    · simp [e]
    · rw [if_neg e]
      simp only [decide_eq_false e]
      exact ih
theorem datG_size (P : KV α) : Maps.size (datG f P) = P.length := by
  unfold datG; rw [Maps.size_eq, List.length_map]
theorem datG_del (P : KV α) (n : ByteArray) : (datG f P).del (kLit n) = datG f (delG n P) := by
  unfold datG DataW.del delG
  simp only
  congr 1
  induction P with
  | nil => rfl
  | cons y P ih =>
    rw [List.map_cons, List.filter_cons, List.filter_cons, same_kLit]
    by_cases e : y.1 = n
    · rw [if_neg (by simp [e]), if_neg (by simp [e])]; exact ih
    · rw [if_pos (by simp [e]), if_pos (by simp [e]), List.map_cons, ih]
theorem datG_put {P : KV α} (h : RiseG P) (n : ByteArray) (v : α) : (datG f P).put (kLit n) (f v) = datG f (putG (n, v) P) := by
  have hd : (datG f P).put (kLit n) (f v) = .map (DataW.insert (kLit n, f v) ((delG n P).map fun x => (kLit x.1, f x.2))) := by
    have := datG_del f P n
    unfold datG DataW.del at this
    unfold datG DataW.put
    injection this with this
    simp only [this]
  rw [hd]
  unfold datG
  congr 1
  induction P with
  | nil => rfl
  | cons y P ih =>
    have h1 := List.pairwise_cons.1 h
    have ih := ih h1.2 (by
      have := datG_del f P n
      unfold datG DataW.del at this
      unfold datG DataW.put
      injection this with this
      simp only [this])
    rw [putG]
    unfold delG
    rw [List.filter_cons]
    by_cases e : sLt y.1 n = true
    · have e2 : y.1 ≠ n := fun e2 => by rw [e2, sLt_irr] at e; cases e
      rw [if_pos e, if_pos (by simpa using e2), List.map_cons, List.map_cons, DataW.insert, before_sLt]
      have e3 : sLt n y.1 = false := by
        cases hc : sLt n y.1 with
        | false => rfl
        | true => have := sLt_trans _ _ _ e hc; rw [sLt_irr] at this; cases this
      rw [e3]
      simp only [Bool.false_eq_true, if_false]
      rw [← ih]; rfl
    · have hfil : P.filter (fun x => !decide (x.1 = n)) = P := by
        apply List.filter_eq_self.2
        intro z hz
        have : sLt n z.1 = true := by
          rcases sLt_tot y.1 n (by simpa using e) with e2 | e2
          · rw [← e2]; exact h1.1 z hz
          · exact sLt_trans _ _ _ e2 (h1.1 z hz)
        have : z.1 ≠ n := fun e5 => by rw [e5, sLt_irr] at this; cases this
        simpa using this
      rw [if_neg e]
      by_cases e2 : y.1 = n
      · rw [if_pos e2, if_neg (by simp [e2]), hfil, List.map_cons]
        cases P with
        | nil => rfl
        | cons z P =>
          rw [List.map_cons, DataW.insert, before_sLt]
          have hz : sLt n z.1 = true := by rw [← e2]; exact h1.1 z (by simp)
          rw [if_pos hz]
      · have e3 : sLt n y.1 = true := (sLt_tot y.1 n (by simpa using e)).resolve_left e2
        rw [if_neg e2, if_pos (by simp [e2]), hfil, List.map_cons, DataW.insert, before_sLt, if_pos e3, List.map_cons, List.map_cons]
theorem datG_keys (P : KV α) : strKeys (datG f P) = P.map fun x => x.1.data.toList := by
  unfold datG strKeys
  simp only [List.map_map]
  rfl
theorem rise_sorted {P : KV α} (h : RiseG P) : (P.map fun x => x.1.data.toList).Pairwise (fun a b => decide (a ≤ b) = true) := by
  rw [List.pairwise_map]
  refine List.Pairwise.imp (fun {a b} hab => ?_) h
  rw [decide_eq_true_iff]
  exact List.le_of_lt ((sLt_iff _ _).1 hab)
/-- the keys, sorted -/
theorem sort_keys {P : KV α} (h : RiseG P) {ss : List (List UInt8)} (hp : ss.Perm (strKeys (datG f P))) : ss.mergeSort (fun x y => decide (x ≤ y)) = P.map fun x => x.1.data.toList := by
  rw [datG_keys] at hp
  have htr : ∀ a b c : List UInt8, decide (a ≤ b) = true → decide (b ≤ c) = true → decide (a ≤ c) = true := by
    intro a b c h1 h2
    rw [decide_eq_true_iff] at *
    exact List.le_trans h1 h2
  have htot : ∀ a b : List UInt8, (decide (a ≤ b) || decide (b ≤ a)) = true := by
    intro a b
    rw [Bool.or_eq_true, decide_eq_true_iff, decide_eq_true_iff]
    exact List.le_total a b
  have hs := List.pairwise_mergeSort htr htot ss
  refine List.Perm.eq_of_pairwise (fun a b _ _ h1 h2 => ?_) hs (rise_sorted h) ((List.mergeSort_perm ss _).trans hp)
  rw [decide_eq_true_iff] at h1 h2
  exact List.le_antisymm h1 h2
end
end Go.Proofs.Ythcgnfoijemcbaa
