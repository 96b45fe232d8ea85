/- Plain law of file systems: what each call makes of a file system. No program in sight. -/
import Derived.Test.YtdilfbimkepllaaDoorMapG
import Derived.Test.YtdilfbimkepllaaDoorPathMath
import Derived.Test.YtdilfbimkepllaaDoorBs
namespace Go.Proofs.YtdilfbimkepllaaDoor.Vf
open Ln Pth

structure Nd where
  dir : Bool
  data : T
  time : Nat
abbrev Mp := KV Nd
def kindM (m : Mp) (q : T) : Nat := if q = [47] then 2 else match getG m (bs q) with
  | none => 0
  | some n => if n.dir = true then 2 else 1
/-- why there is no way to a path, from a byte on -/
def wayB (m : Mp) (q : T) : Nat → Nat → Nat
  | 0, _ => 0
  | f + 1, i => if q.length ≤ i then 0 else if q.getD i 0 ≠ 47 ∨ i = 0 then wayB m q f (i + 1) else
    if kindM m (q.take i) = 0 then 6 else if kindM m (q.take i) = 1 then 11 else wayB m q f (i + 1)
def wayM (m : Mp) (q : T) : Nat := wayB m q q.length 0
structure St where
  m : Mp
  nodes : Nat
  bytes : Nat
  used : Nat
  clock : Nat
def newS (nodes bytes : Int) : St := ⟨[], (min (max 0 nodes) 10000).toNat, (min (max 0 bytes) 1048576).toNat, 0, 0⟩
/-- a whole path, to which there is a way, or an error -/
def absS (S : St) (p : T) : T × Nat := if (absF [47] p).2 ≠ 0 then ([], (absF [47] p).2) else if wayM S.m (absF [47] p).1 ≠ 0 then ([], wayM S.m (absF [47] p).1) else ((absF [47] p).1, 0)
def foundS (S : St) (p : T) : T × Nat := ((absS S p).1, if (absS S p).2 = 0 ∧ kindM S.m (absS S p).1 = 0 then 6 else (absS S p).2)
def kindS (S : St) (p : T) : Nat := if (absS S p).2 ≠ 0 then 0 else kindM S.m (absS S p).1
def dataM (m : Mp) (q : T) : T := match getG m (bs q) with
  | none => []
  | some n => n.data
def timeM (m : Mp) (q : T) : Nat := match getG m (bs q) with
  | none => 0
  | some n => n.time
def timeS (S : St) (p : T) : Nat := if (absS S p).2 ≠ 0 then 0 else timeM S.m (absS S p).1
/-- what all below a path begin with -/
def frontF (q : T) : T := (if q.getLast? = some 47 then q.dropLast else q) ++ [47]
def preB (fr : T) (s : T) : Bool := fr.isPrefixOf s
def belowM (m : Mp) (q : T) : List T := (m.map fun x => x.1.data.toList).filter (preB (frontF q))
def namesM (m : Mp) (q : T) : List T := ((belowM m q).map (List.drop (frontF q).length)).filter fun s => decide (47 ∉ s)
def listS (S : St) (p : T) : List T × Nat := if (foundS S p).2 ≠ 0 then ([], (foundS S p).2) else if kindM S.m (foundS S p).1 = 1 then ([], 11) else (namesM S.m (foundS S p).1, 0)
def readS (S : St) (p : T) : T × Nat := if (foundS S p).2 ≠ 0 then ([], (foundS S p).2) else if kindM S.m (foundS S p).1 = 2 then ([], 10) else (dataM S.m (foundS S p).1, 0)
def putS (S : St) (q : T) (dir : Bool) (data : T) : St := { S with clock := S.clock + 1, m := putG (bs q, ⟨dir, data, S.clock + 1⟩) S.m }
/-- Write -/
def writeQ (S : St) (q b : T) (more : Bool) : St × Nat := if kindM S.m q = 2 then (S, 10) else
  let old := dataM S.m q
  let was := if more = true then old else []
  if S.m.length + (if kindM S.m q = 0 then 1 else 0) ≤ S.nodes ∧ S.used + (was.length + b.length) ≤ S.bytes + old.length then
    ({ putS S q false (was ++ b) with used := S.used + (was.length + b.length) - old.length }, 0) else (S, 13)
def writeS (S : St) (p b : T) (more : Bool) : St × Nat := if (absS S p).2 ≠ 0 then (S, (absS S p).2) else writeQ S (absS S p).1 b more
def mkdirS (S : St) (p : T) : St × Nat := if (absS S p).2 ≠ 0 then (S, (absS S p).2) else if kindM S.m (absS S p).1 ≠ 0 then (S, 12) else
  if S.m.length + 1 ≤ S.nodes ∧ S.used ≤ S.bytes then (putS S (absS S p).1 true [], 0) else (S, 13)
def removeS (S : St) (p : T) : St × Nat := if (foundS S p).2 ≠ 0 then (S, (foundS S p).2) else if (foundS S p).1 = [47] then (S, 1) else
  if belowM S.m (foundS S p).1 ≠ [] then (S, 14) else ({ S with m := delG (bs (foundS S p).1) S.m, used := S.used - (dataM S.m (foundS S p).1).length, clock := S.clock + 1 }, 0)
def touchS (S : St) (p : T) : St × Nat := if (absS S p).2 ≠ 0 then (S, (absS S p).2) else if (absS S p).1 = [47] then (S, 0) else match getG S.m (bs (absS S p).1) with
  | none => writeS S p [] false
  | some n => (putS S (absS S p).1 n.dir n.data, 0)
/-- what stands below one path, below another one -/
def moveB (m : Mp) (a b : T) (L : List T) : Mp := L.foldl (fun m q => match getG m (bs q) with
  | none => delG (bs q) m
  | some n => delG (bs q) (putG (bs (b ++ q.drop a.length), n) m)) m
/-- what holds of every file system -/
structure WfS (S : St) : Prop where
  rise : RiseG S.m
  good : ∀ x ∈ S.m, ∃ l, GoodP l ∧ l ≠ [] ∧ x.1 = bs (joinF l)
  sum : S.used = (S.m.map fun x => x.2.data.length).sum
  nodes : S.m.length ≤ S.nodes
  bytes : S.used ≤ S.bytes
  n10 : S.nodes ≤ 10000
  b20 : S.bytes ≤ 1048576
theorem newS_wf (n b : Int) : WfS (newS n b) := ⟨RiseG.nil, by simp [newS], rfl, Nat.zero_le _, Nat.zero_le _, by simp only [newS]; omega, by simp only [newS]; omega⟩
theorem sum_mem {m : Mp} {x : ByteArray × Nd} (h : x ∈ m) : x.2.data.length ≤ (m.map fun x => x.2.data.length).sum := by
  induction m with
  | nil => cases h
  | cons y m ih =>
    rw [List.map_cons, List.sum_cons]
    rcases List.mem_cons.1 h with rfl | h
    · omega
    · have := ih h; omega
/-- how many bytes a node has -/
def szO : Option Nd → Nat
  | none => 0
  | some n => n.data.length
theorem dataM_sz (m : Mp) (q : T) : (dataM m q).length = szO (getG m (bs q)) := by
  unfold dataM
  cases getG m (bs q) <;> rfl
theorem sum_put (x : ByteArray × Nd) : ∀ {m : Mp}, RiseG m → ((putG x m).map fun x => x.2.data.length).sum + szO (getG m x.1) = (m.map fun x => x.2.data.length).sum + x.2.data.length
  | [], _ => by simp [putG, getG, szO]
  | y :: m, h => by
    have h1 := List.pairwise_cons.1 h
    rw [putG, getG_cons]
    by_cases e : sLt y.1 x.1 = true
    · have e2 : y.1 ≠ x.1 := fun e2 => by rw [e2, sLt_irr] at e; cases e
      have := sum_put x h1.2
      rw [if_pos e, if_neg e2, List.map_cons, List.map_cons, List.sum_cons, List.sum_cons]
      omega
    · rw [if_neg e]
      by_cases e2 : y.1 = x.1
      · simp only [e2, if_true, List.map_cons, List.sum_cons, szO]
        omega
      · have e3 : sLt x.1 y.1 = true := (sLt_tot y.1 x.1 (by simpa using e)).resolve_left e2
        have e4 : getG m x.1 = none := getG_none_of (fun z hz e5 => by
          have := sLt_trans _ _ _ e3 (h1.1 z hz)
          rw [e5, sLt_irr] at this; cases this)
        rw [if_neg e2, if_neg e2, e4]
        simp only [List.map_cons, List.sum_cons, szO]
        omega
theorem sum_del (n : ByteArray) : ∀ {m : Mp}, RiseG m → ((delG n m).map fun x => x.2.data.length).sum + szO (getG m n) = (m.map fun x => x.2.data.length).sum
  | [], _ => by simp [delG, getG, szO]
  | y :: m, h => by
    have h1 := List.pairwise_cons.1 h
    have ih := sum_del n h1.2
    unfold delG at ih ⊢
    rw [List.filter_cons, getG_cons]
    by_cases e : y.1 = n
    · subst e
      have e4 : getG m y.1 = none := getG_none_of (RiseG.ne h)
      rw [e4] at ih
      simp only [decide_true, Bool.not_true, Bool.false_eq_true, if_false, if_true, List.map_cons, List.sum_cons, szO]
      simp only [szO] at ih
      omega
    · simp only [decide_eq_false e, Bool.not_false, if_true, if_neg e, List.map_cons, List.sum_cons]
      omega
theorem dataM_len {S : St} (h : WfS S) (q : T) : (dataM S.m q).length ≤ S.used := by
  unfold dataM
  cases hg : getG S.m (bs q) with
  | none => simp
  | some n => rw [h.sum]; exact sum_mem (getG_mem hg)
end Go.Proofs.YtdilfbimkepllaaDoor.Vf
