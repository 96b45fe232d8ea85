/- find.Plan and its kin, as plain functions. -/
import Derived.Test.YtmblmenafplccaaGreatDoorRulesRep
import Derived.Test.YtmblmenafplccaaGreatDoorVfsMath
import Derived.Lib.IndexMore
import Derived.Lib.SlTrimSet
import Derived.Lib.Strings
namespace Go.Proofs.YtmblmenafplccaaGreatDoor
open Ln Pth Vf

/-- what Plan tells -/
structure Pn where
  needs : List ByteArray
  recipe : List ByteArray
  stem : T
  rule : Bool
def noPn : Pn := ⟨[], [], [], false⟩
def needF (l : List ByteArray) (s : ByteArray) : List ByteArray := if Lib.containsS l s = true then l else l ++ [s]
def needsF (l n : List ByteArray) : List ByteArray := n.foldl needF l
def addN (p : Pn) (n : List ByteArray) : Pn := { p with needs := needsF p.needs n }
theorem needF_len (l : List ByteArray) (s : ByteArray) : (needF l s).length ≤ l.length + 1 := by
  unfold needF
  split <;> simp
theorem needsF_len : ∀ (n l : List ByteArray), (needsF l n).length ≤ l.length + n.length
  | [], l => by simp [needsF]
  | s :: n, l => by
    have := needsF_len n (needF l s)
    have h2 := needF_len l s
    have : (needsF l (s :: n)) = needsF (needF l s) n := rfl
    rw [this, List.length_cons]
    omega
theorem needsF_take {l n : List ByteArray} {k : Nat} {x : ByteArray} (h : n[k]? = some x) : needsF l (n.take (k + 1)) = needF (needsF l (n.take k)) x := by
  unfold needsF
  rw [List.take_add_one, h, List.foldl_append]
  rfl
def frontT (p : T) : T := (Lib.cut p [37]).1
def backT (p : T) : T := (Lib.cut p [37]).2.1
def cutsT (p : T) : Bool := (Lib.cut p [37]).2.2
theorem front_len (p : T) : (frontT p).length ≤ p.length := by
  unfold frontT Lib.cut
  split
  · rw [List.length_take]; omega
  · exact Nat.le_refl _
theorem back_len (p : T) : (backT p).length ≤ p.length := by
  unfold backT Lib.cut
  split
  · rw [List.length_drop]; omega
  · simp
def matchT (p s : T) : T × Bool :=
  if cutsT p = false then ([], decide (s = p))
  else if s.length ≤ (frontT p).length + (backT p).length then ([], false)
  else if Lib.hasPrefix s (frontT p) = false then ([], false)
  else if Lib.hasSuffix s (backT p) = false then ([], false)
  else ((s.drop (frontT p).length).take (s.length - (backT p).length - (frontT p).length), true)
theorem matchT_len (p s : T) : (matchT p s).1.length ≤ s.length := by
  unfold matchT
  split
  · simp
  · split
    · simp
    · split
      · simp
      · split
        · simp
        · simp only [List.length_take, List.length_drop]; omega
def fillT (p st : T) : T := if cutsT p = false then p else frontT p ++ st ++ backT p
theorem fillT_len (p st : T) : (fillT p st).length ≤ 2 * p.length + st.length := by
  have h1 := front_len p
  have h2 := back_len p
  unfold fillT
  split
  · omega
  · simp only [List.length_append]; omega
/-- the capital letters, and _ -/
def azT : T := [65, 66, 67, 68, 69, 70, 71, 72, 73, 74, 75, 76, 77, 78, 79, 80, 81, 82, 83, 84, 85, 86, 87, 88, 89, 90, 95]
def specT (s : T) : Bool := decide (1 < s.length) && (decide (s.getD 0 0 = 46) && decide (Lib.trimS (s.drop 1) azT = []))
def kindT (S : St) (cwd s : T) : Nat := if (absF cwd s).2 ≠ 0 then 0 else kindS S (absF cwd s).1
/-- whether a need is neither there nor known -/
def lackF (S : St) (cwd : T) (kl : List ByteArray) (s : ByteArray) : Bool := decide (kindT S cwd s.data.toList = 0) && !Lib.containsS kl s
def thereF (S : St) (cwd : T) (kl l : List ByteArray) : Bool := !l.any (lackF S cwd kl)
def takesF (p : Pn) (needs recipe : List ByteArray) (st : T) : Pn := ⟨needsF p.needs needs, recipe, st, true⟩
def fillsF (r : Rl) (st : T) : List ByteArray := r.nd.2.2.map fun s => bs (fillT s.data.toList st)
/-- the first of a rule's targets that fits, and its stem -/
def firstF (target : T) : List ByteArray → Option T
  | [] => none
  | t :: l => if (matchT t.data.toList target).2 = true then some (matchT t.data.toList target).1 else firstF target l
def patO (S : St) (cwd : T) (kl : List ByteArray) (target : T) (r : Rl) (p : Pn) : Option Pn :=
  match firstF target r.tg.2.2 with
  | none => none
  | some st => if thereF S cwd kl (fillsF r st) = true then some (takesF p (fillsF r st) r.rc.2.2 st) else none
/-- Two: the suffixes -/
def twoGo (all : List ByteArray) (t : T) : List ByteArray → T × T × Bool
  | [] => (t, [], Lib.containsS all (bs t))
  | a :: l => if (Lib.hasPrefix t a.data.toList && Lib.containsS all (bs (t.drop a.size))) = true then (a.data.toList, t.drop a.size, true) else twoGo all t l
def twoF (t : T) (l : List ByteArray) : T × T × Bool := twoGo l t l
def sufO (S : St) (cwd : T) (kl : List ByteArray) (target : T) (l : List ByteArray) (r : Rl) (p : Pn) : Option Pn :=
  if plainR r.tg.2.2 = false then none else
  if 0 < r.nd.2.2.length then none else
  match r.tg.2.2 with
  | [t] =>
    if specT t.data.toList = true then none else
    if Lib.hasPrefix t.data.toList [46] = false then none else
    if (twoF t.data.toList l).2.2 = false then none else
    if Lib.hasSuffix target (twoF t.data.toList l).2.1 = false then none else
    if target.length ≤ (twoF t.data.toList l).2.1.length then none else
    let st := Lib.trimSuffix target (twoF t.data.toList l).2.1
    let from_ := st ++ (twoF t.data.toList l).1
    if from_ = target then none else
    if kindT S cwd from_ ≠ 1 ∧ Lib.containsS kl (bs from_) = false then none else
    some (takesF p [bs from_] r.rc.2.2 st)
  | _ => none
def knownsF (L : List Rl) : List ByteArray := L.flatMap fun r => if plainR r.tg.2.2 = true then r.tg.2.2 else []
def suffixes : ByteArray := ⟨#[46, 83, 85, 70, 70, 73, 88, 69, 83]⟩
def pat1 (S : St) (cwd : T) (kl : List ByteArray) (target : T) (p : Pn) (r : Rl) : Option Pn :=
  if plainR r.tg.2.2 = true then none else if r.rc.2.2.length = 0 then none else patO S cwd kl target r p
def suf1 (S : St) (cwd : T) (kl : List ByteArray) (target : T) (l : List ByteArray) (p : Pn) (r : Rl) : Option Pn :=
  if r.rc.2.2.length = 0 then none else sufO S cwd kl target l r p
def firstO {α β : Type} (f : α → Option β) : List α → Option β
  | [] => none
  | a :: l => match f a with
    | some b => some b
    | none => firstO f l
theorem firstO_take {α β : Type} (f : α → Option β) : ∀ (l : List α) (k : Nat), firstO f (l.take k) = none → firstO f l = firstO f (l.drop k)
  | [], k, _ => by simp
  | a :: l, 0, _ => rfl
  | a :: l, k + 1, h => by
    rw [List.take_succ_cons, firstO] at h
    rw [List.drop_succ_cons, firstO]
    cases hf : f a with
    | some b => rw [hf] at h; cases h
    | none => rw [hf] at h; exact firstO_take f l k h
theorem firstO_at {α β : Type} (f : α → Option β) (l : List α) (k : Nat) (x : α) (h : firstO f (l.take k) = none) (hx : l[k]? = some x) : firstO f l = match f x with
    | some b => some b
    | none => firstO f (l.drop (k + 1)) := by
  rw [firstO_take f l k h]
  have : l.drop k = x :: l.drop (k + 1) := by
    have hk := (List.getElem?_eq_some_iff.1 hx)
    obtain ⟨h1, h2⟩ := hk
    rw [List.drop_eq_getElem_cons h1, h2]
  rw [this, firstO]
theorem firstO_step {α β : Type} (f : α → Option β) : ∀ (l : List α) (k : Nat) (x : α), firstO f (l.take k) = none → l[k]? = some x → f x = none → firstO f (l.take (k + 1)) = none
  | a :: l, 0, x, _, hx, hf => by
    simp only [List.getElem?_cons_zero] at hx
    injection hx with hx
    subst hx
    simp [firstO, hf]
  | a :: l, k + 1, x, h, hx, hf => by
    rw [List.take_succ_cons, firstO] at h ⊢
    cases ha : f a with
    | some b => rw [ha] at h; cases h
    | none => rw [ha] at h; exact firstO_step f l k x h (by simpa using hx) hf
def fitsF (S : St) (cwd : T) (L : List Rl) (target : T) (p : Pn) : Pn :=
  match firstO (pat1 S cwd (knownsF L) target p) L with
  | some q => q
  | none => match firstO (suf1 S cwd (knownsF L) target (specialR L suffixes) p) L with
    | some q => q
    | none => p
def gatherF (target : ByteArray) (p : Pn) (r : Rl) : Pn := if ofR target r = true then ⟨needsF p.needs r.nd.2.2, if 0 < r.rc.2.2.length then r.rc.2.2 else p.recipe, p.stem, true⟩ else p
def gathersF (target : ByteArray) (L : List Rl) : Pn := L.foldl (gatherF target) noPn
theorem gathers_take {target : ByteArray} {L : List Rl} {k : Nat} {r : Rl} (h : L[k]? = some r) : gathersF target (L.take (k + 1)) = gatherF target (gathersF target (L.take k)) r := by
  unfold gathersF
  rw [List.take_add_one, h, List.foldl_append]
  rfl
def planF (S : St) (cwd : T) (L : List Rl) (target : T) : Pn :=
  if specT target = true then noPn else
  if (gathersF (bs target) L).recipe = [] then fitsF S cwd L target (gathersF (bs target) L) else gathersF (bs target) L
theorem knowns_take {L : List Rl} {k : Nat} {r : Rl} (h : L[k]? = some r) : knownsF (L.take (k + 1)) = knownsF (L.take k) ++ if plainR r.tg.2.2 = true then r.tg.2.2 else [] := by
  unfold knownsF
  rw [List.take_add_one, h]
  simp
end Go.Proofs.YtmblmenafplccaaGreatDoor
