/- Texts of mine, joined (VfsMath, DigitsWalk, RowsWalk, BytesG, VfsRep, SplitBs, PathWalkA, BytesConv, VfsWalkA, RefAt, PathRef, VfsRefA, Held): walks and plain facts that the claim uses, each as its own comment says. -/
import Derived.Test.YtaajofojbhdgaaaGreatDoorPTraceTellsProof0
import Derived.Maps.OwnSet
import Derived.Maps.StringElems
import Derived.Maps.Views
import Derived.StringKeys
import Derived.Lib.SplitLaws
import Derived.Lib.Bytealg
import Derived.Shelf.Strings.Split
import Derived.Lib.Join
import Derived.Laws.IdiomStrings
import Derived.BigQuiet
import Derived.Deep.QuietTactic
import Derived.StillTailTactics
import Derived.IntWalk
import Derived.Deep.LoopGhost
import Derived.Deep.RegionHeld3
/- Plain law of file systems: what each call makes of a file system. No program in sight. -/
namespace Go.Proofs.YtaajofojbhdgaaaGreatDoor.Vf
open Ln Pth

structure Nd where
  dir : Bool
  data : T
  time : Nat
abbrev Mp := KV Nd
def kindM (m : Mp) (q : T) : Nat := if q = [47] then 2 else match getG m (bs q) with
  | none => 0
  | some n => if n.dir = true then 2 else 1
/-- why there is no way to a path, from a byte on -/
def wayB (m : Mp) (q : T) : Nat → Nat → Nat
  | 0, _ => 0
  | f + 1, i => if q.length ≤ i then 0 else if q.getD i 0 ≠ 47 ∨ i = 0 then wayB m q f (i + 1) else
    if kindM m (q.take i) = 0 then 6 else if kindM m (q.take i) = 1 then 11 else wayB m q f (i + 1)
def wayM (m : Mp) (q : T) : Nat := wayB m q q.length 0
structure St where
  m : Mp
  nodes : Nat
  bytes : Nat
  used : Nat
  clock : Nat
def newS (nodes bytes : Int) : St := ⟨[], (min (max 0 nodes) 10000).toNat, (min (max 0 bytes) 1048576).toNat, 0, 0⟩
/-- a whole path, to which there is a way, or an error -/
def absS (S : St) (p : T) : T × Nat := if (absF [47] p).2 ≠ 0 then ([], (absF [47] p).2) else if wayM S.m (absF [47] p).1 ≠ 0 then ([], wayM S.m (absF [47] p).1) else ((absF [47] p).1, 0)
def foundS (S : St) (p : T) : T × Nat := ((absS S p).1, if (absS S p).2 = 0 ∧ kindM S.m (absS S p).1 = 0 then 6 else (absS S p).2)
def kindS (S : St) (p : T) : Nat := if (absS S p).2 ≠ 0 then 0 else kindM S.m (absS S p).1
def dataM (m : Mp) (q : T) : T := match getG m (bs q) with
  | none => []
  | some n => n.data
def timeM (m : Mp) (q : T) : Nat := match getG m (bs q) with
  | none => 0
  | some n => n.time
def timeS (S : St) (p : T) : Nat := if (absS S p).2 ≠ 0 then 0 else timeM S.m (absS S p).1
/-- what all below a path begin with -/
def frontF (q : T) : T := (if q.getLast? = some 47 then q.dropLast else q) ++ [47]
def preB (fr : T) (s : T) : Bool := fr.isPrefixOf s
def belowM (m : Mp) (q : T) : List T := (m.map fun x => x.1.data.toList).filter (preB (frontF q))
def namesM (m : Mp) (q : T) : List T := ((belowM m q).map (List.drop (frontF q).length)).filter fun s => decide (47 ∉ s)
def listS (S : St) (p : T) : List T × Nat := if (foundS S p).2 ≠ 0 then ([], (foundS S p).2) else if kindM S.m (foundS S p).1 = 1 then ([], 11) else (namesM S.m (foundS S p).1, 0)
def readS (S : St) (p : T) : T × Nat := if (foundS S p).2 ≠ 0 then ([], (foundS S p).2) else if kindM S.m (foundS S p).1 = 2 then ([], 10) else (dataM S.m (foundS S p).1, 0)
def putS (S : St) (q : T) (dir : Bool) (data : T) : St := { S with clock := S.clock + 1, m := putG (bs q, ⟨dir, data, S.clock + 1⟩) S.m }
/-- Write -/
def writeQ (S : St) (q b : T) (more : Bool) : St × Nat := if kindM S.m q = 2 then (S, 10) else
  let old := dataM S.m q
  let was := if more = true then old else []
  if S.m.length + (if kindM S.m q = 0 then 1 else 0) ≤ S.nodes ∧ S.used + (was.length + b.length) ≤ S.bytes + old.length then
    ({ putS S q false (was ++ b) with used := S.used + (was.length + b.length) - old.length }, 0) else (S, 13)
def writeS (S : St) (p b : T) (more : Bool) : St × Nat := if (absS S p).2 ≠ 0 then (S, (absS S p).2) else writeQ S (absS S p).1 b more
def mkdirS (S : St) (p : T) : St × Nat := if (absS S p).2 ≠ 0 then (S, (absS S p).2) else if kindM S.m (absS S p).1 ≠ 0 then (S, 12) else
  if S.m.length + 1 ≤ S.nodes ∧ S.used ≤ S.bytes then (putS S (absS S p).1 true [], 0) else (S, 13)
def removeS (S : St) (p : T) : St × Nat := if (foundS S p).2 ≠ 0 then (S, (foundS S p).2) else if (foundS S p).1 = [47] then (S, 1) else
  if belowM S.m (foundS S p).1 ≠ [] then (S, 14) else ({ S with m := delG (bs (foundS S p).1) S.m, used := S.used - (dataM S.m (foundS S p).1).length, clock := S.clock + 1 }, 0)
def touchS (S : St) (p : T) : St × Nat := if (absS S p).2 ≠ 0 then (S, (absS S p).2) else if (absS S p).1 = [47] then (S, 0) else match getG S.m (bs (absS S p).1) with
  | none => writeS S p [] false
  | some n => (putS S (absS S p).1 n.dir n.data, 0)
/-- what stands below one path, below another one -/
def moveB (m : Mp) (a b : T) (L : List T) : Mp := L.foldl (fun m q => match getG m (bs q) with
  | none => delG (bs q) m
  | some n => delG (bs q) (putG (bs (b ++ q.drop a.length), n) m)) m
/-- what holds of every file system -/
structure WfS (S : St) : Prop where
  rise : RiseG S.m
  good : ∀ x ∈ S.m, ∃ l, GoodP l ∧ l ≠ [] ∧ x.1 = bs (joinF l)
  sum : S.used = (S.m.map fun x => x.2.data.length).sum
  nodes : S.m.length ≤ S.nodes
  bytes : S.used ≤ S.bytes
  n10 : S.nodes ≤ 10000
  b20 : S.bytes ≤ 1048576
theorem newS_wf (n b : Int) : WfS (newS n b) := ⟨RiseG.nil, by simp [newS], rfl, Nat.zero_le _, Nat.zero_le _, by simp only [newS]; omega, by simp only [newS]; omega⟩
theorem sum_mem {m : Mp} {x : ByteArray × Nd} (h : x ∈ m) : x.2.data.length ≤ (m.map fun x => x.2.data.length).sum := by
  induction m with
  | nil => cases h
  | cons y m ih =>
    rw [List.map_cons, List.sum_cons]
    rcases List.mem_cons.1 h with rfl | h
    · omega
    · have := ih h; omega
/-- how many bytes a node has -/
def szO : Option Nd → Nat
  | none => 0
  | some n => n.data.length
theorem dataM_sz (m : Mp) (q : T) : (dataM m q).length = szO (getG m (bs q)) := by
  unfold dataM
  cases getG m (bs q) <;> rfl
theorem sum_put (x : ByteArray × Nd) : ∀ {m : Mp}, RiseG m → ((putG x m).map fun x => x.2.data.length).sum + szO (getG m x.1) = (m.map fun x => x.2.data.length).sum + x.2.data.length
  | [], _ => by simp [putG, getG, szO]
  | y :: m, h => by
    have h1 := List.pairwise_cons.1 h
    rw [putG, getG_cons]
    by_cases e : sLt y.1 x.1 = true
    · have e2 : y.1 ≠ x.1 := fun e2 => by rw [e2, sLt_irr] at e; cases e
      have := sum_put x h1.2
      rw [if_pos e, if_neg e2, List.map_cons, List.map_cons, List.sum_cons, List.sum_cons]
      omega
    · rw [if_neg e]
      by_cases e2 : y.1 = x.1
      · simp only [e2, if_true, List.map_cons, List.sum_cons, szO]
        omega
      · have e3 : sLt x.1 y.1 = true := (sLt_tot y.1 x.1 (by simpa using e)).resolve_left e2
        have e4 : getG m x.1 = none := getG_none_of (fun z hz e5 => by
          have := sLt_trans _ _ _ e3 (h1.1 z hz)
          rw [e5, sLt_irr] at this; cases this)
        rw [if_neg e2, if_neg e2, e4]
        simp only [List.map_cons, List.sum_cons, szO]
        omega
theorem sum_del (n : ByteArray) : ∀ {m : Mp}, RiseG m → ((delG n m).map fun x => x.2.data.length).sum + szO (getG m n) = (m.map fun x => x.2.data.length).sum
  | [], _ => by simp [delG, getG, szO]
  | y :: m, h => by
    have h1 := List.pairwise_cons.1 h
    have ih := sum_del n h1.2
    unfold delG at ih ⊢
    rw [List.filter_cons, getG_cons]
    by_cases e : y.1 = n
    · subst e
      have e4 : getG m y.1 = none := getG_none_of (RiseG.ne h)
      rw [e4] at ih
      simp only [decide_true, Bool.not_true, Bool.false_eq_true, if_false, if_true, List.map_cons, List.sum_cons, szO]
      simp only [szO] at ih
      omega
    · simp only [decide_eq_false e, Bool.not_false, if_true, if_neg e, List.map_cons, List.sum_cons]
      omega
theorem dataM_len {S : St} (h : WfS S) (q : T) : (dataM S.m q).length ≤ S.used := by
  unfold dataM
  cases hg : getG S.m (bs q) with
  | none => simp
  | some n => rw [h.sum]; exact sum_mem (getG_mem hg)
end Go.Proofs.YtaajofojbhdgaaaGreatDoor.Vf

/-! Plain law of file systems: the way to a path, name by name; what lies below a path. No program in sight. -/
namespace Go.Proofs.YtaajofojbhdgaaaGreatDoor.Vf
open Ln Pth

/-- why there is no way, name by name -/
def wayL (m : Mp) (pre : List T) : List T → Nat
  | [] => 0
  | s :: r => if kindM m (joinF pre) = 0 then 6 else if kindM m (joinF pre) = 1 then 11 else wayL m (pre ++ [s]) r
theorem way_skip (m : Mp) (q : T) : ∀ (n f i : Nat), i + n ≤ q.length → (∀ j, j < n → q.getD (i + j) 0 ≠ 47) → wayB m q (n + f) i = wayB m q f (i + n)
  | 0, f, i, _, _ => by rw [Nat.zero_add]; rfl
  | n + 1, f, i, h, hj => by
    have h1 := hj 0 (by omega)
    rw [Nat.add_zero] at h1
    rw [show n + 1 + f = (n + f) + 1 by omega, wayB, if_neg (by omega), if_pos (.inl h1), way_skip m q n f (i + 1) (by omega) (fun j hj' => by
      have := hj (j + 1) (by omega)
      rwa [show i + 1 + j = i + (j + 1) by omega])]
    congr 1
    omega
theorem getD_app_right (a b : T) (j : Nat) : (a ++ b).getD (a.length + j) 0 = b.getD j 0 := by
  simp [List.getD_eq_getElem?_getD, List.getElem?_append_right]
theorem getD_ne {s : T} (h : 47 ∉ s) {j : Nat} (hj : j < s.length) : s.getD j 0 ≠ 47 := by
  rw [List.getD_eq_getElem?_getD, List.getElem?_eq_getElem hj]
  intro e
  exact h (by rw [← e]; exact List.getElem_mem _)
theorem slashed_cons (s : T) (r : List T) : slashed (s :: r) = 47 :: (s ++ slashed r) := by simp [slashed]
theorem way_names (m : Mp) : ∀ (rest pre : List T) (q : T), q = slashed pre ++ slashed rest → pre ≠ [] → (∀ s ∈ rest, 47 ∉ s) → wayB m q (slashed rest).length (slashed pre).length = wayL m pre rest
  | [], pre, q, _, _, _ => rfl
  | s :: r, pre, q, hq, hp, hs => by
    have hl : (slashed (s :: r)).length = s.length + (slashed r).length + 1 := by rw [slashed_cons]; simp
    have hql : q.length = (slashed pre).length + (slashed (s :: r)).length := by rw [hq, List.length_append]
    have h0 : q.getD (slashed pre).length 0 = 47 := by
      have := getD_app_right (slashed pre) (slashed (s :: r)) 0
      rw [Nat.add_zero] at this
      rw [hq, this, slashed_cons]; rfl
    have hpl : (slashed pre).length ≠ 0 := fun e => slashed_ne hp (List.length_eq_zero_iff.1 e)
    have ht : q.take (slashed pre).length = joinF pre := by rw [hq, List.take_left', joinF, if_neg hp]; rfl
    have hn : slashed (pre ++ [s]) = slashed pre ++ (47 :: s) := by rw [slashed_app]; simp [slashed]
    have ih := way_names m r (pre ++ [s]) q (by rw [hq, hn, slashed_cons]; simp) (by simp) (fun x hx => hs x (by simp [hx]))
    rw [hl, wayB, if_neg (by omega), if_neg (by rw [h0]; simpa using hpl), ht, wayL]
    split
    · rfl
    · split
      · rfl
      · rw [way_skip m q s.length (slashed r).length ((slashed pre).length + 1) (by omega) (fun j hj => by
          have := getD_app_right (slashed pre) (slashed (s :: r)) (j + 1)
          rw [hq, show (slashed pre).length + 1 + j = (slashed pre).length + (j + 1) by omega, this, slashed_cons, List.getD_cons_succ]
          rw [List.getD_eq_getElem?_getD, List.getElem?_append_left hj, ← List.getD_eq_getElem?_getD]
          exact getD_ne (hs s (by simp)) hj), ← ih, hn, List.length_append]
        congr 1
        simp only [List.length_cons]
        omega
/-- the way to a path of names -/
theorem way_join (m : Mp) : ∀ {l : List T}, (∀ s ∈ l, 47 ∉ s) → wayM m (joinF l) = match l with
    | [] => 0
    | s :: r => wayL m [s] r
  | [], _ => rfl
  | s :: r, h => by
    have e : joinF (s :: r) = slashed [s] ++ slashed r := by rw [joinF, if_neg (by simp), ← slashed_app]; rfl
    have e1 : slashed [s] = 47 :: s := by simp [slashed]
    have := way_names m r [s] (joinF (s :: r)) e (by simp) (fun x hx => h x (by simp [hx]))
    have hlen : (joinF (s :: r)).length = (s.length + (slashed r).length) + 1 := by rw [e, e1]; simp
    unfold wayM
    rw [hlen, wayB, if_neg (by omega), if_pos (.inr rfl), way_skip m _ s.length (slashed r).length 1 (by omega) (fun j hj => by
      rw [e, e1, List.cons_append, Nat.add_comm, List.getD_cons_succ, List.getD_eq_getElem?_getD, List.getElem?_append_left hj, ← List.getD_eq_getElem?_getD]
      exact getD_ne (h s (by simp)) hj)]
    rw [e1] at this
    simpa [Nat.add_comm] using this
end Go.Proofs.YtaajofojbhdgaaaGreatDoor.Vf

/-! Plain law of file systems: the names in a directory are rising, and those that are there. No program in sight. -/
namespace Go.Proofs.YtaajofojbhdgaaaGreatDoor.Vf
open Ln Pth

theorem tlt_irr (a : T) : ¬ a < a := List.lt_irrefl _
theorem rise_ext : ∀ {a b : List T}, a.Pairwise (· < ·) → b.Pairwise (· < ·) → (∀ x, x ∈ a ↔ x ∈ b) → a = b
  | [], [], _, _, _ => rfl
  | [], y :: b, _, _, h => absurd ((h y).2 (by simp)) (by simp)
  | x :: a, [], _, _, h => absurd ((h x).1 (by simp)) (by simp)
  | x :: a, y :: b, ha, hb, h => by
    have a1 := List.pairwise_cons.1 ha
    have b1 := List.pairwise_cons.1 hb
    have hxy : x = y := by
      rcases List.mem_cons.1 ((h x).1 (by simp)) with e | m1
      · exact e
      · rcases List.mem_cons.1 ((h y).2 (by simp)) with e | m2
        · exact e.symm
        · exact absurd (List.lt_trans (b1.1 _ m1) (a1.1 _ m2)) (tlt_irr _)
    subst hxy
    rw [rise_ext a1.2 b1.2 (fun z => ?_)]
    constructor
    · intro hz
      rcases List.mem_cons.1 ((h z).1 (by simp [hz])) with rfl | m
      · exact absurd (a1.1 _ hz) (tlt_irr _)
      · exact m
    · intro hz
      rcases List.mem_cons.1 ((h z).2 (by simp [hz])) with rfl | m
      · exact absurd (b1.1 _ hz) (tlt_irr _)
      · exact m
theorem app_lt (fr : T) {a b : T} : fr ++ a < fr ++ b ↔ a < b := by
  induction fr with
  | nil => rfl
  | cons c fr ih => rw [List.cons_append, List.cons_append, List.cons_lt_cons_iff]; simp [ih, UInt8.lt_irrefl]
theorem keys_rise {m : Mp} (h : RiseG m) : (m.map fun x => x.1.data.toList).Pairwise (· < ·) := by
  rw [List.pairwise_map]
  exact List.Pairwise.imp (fun {a b} hab => (sLt_iff _ _).1 hab) h
theorem preB_iff {fr s : T} : preB fr s = true ↔ ∃ r, s = fr ++ r := by
  unfold preB
  rw [List.isPrefixOf_iff_prefix]
  constructor
  · rintro ⟨r, hr⟩; exact ⟨r, hr.symm⟩
  · rintro ⟨r, rfl⟩; exact ⟨r, rfl⟩
theorem below_rise {m : Mp} (h : RiseG m) (q : T) : (belowM m q).Pairwise (· < ·) := List.Pairwise.filter _ (keys_rise h)
theorem mem_below {m : Mp} {q x : T} : x ∈ belowM m q ↔ ∃ r n, x = frontF q ++ r ∧ (bs x, n) ∈ m := by
  unfold belowM
  rw [List.mem_filter, preB_iff, List.mem_map]
  constructor
  · rintro ⟨⟨y, hy, rfl⟩, r, hr⟩
    exact ⟨r, y.2, hr, by rw [bs_of]; exact hy⟩
  · rintro ⟨r, n, hr, hm⟩
    exact ⟨⟨_, hm, bs_list x⟩, r, hr⟩
theorem mem_names {m : Mp} {q x : T} : x ∈ namesM m q ↔ 47 ∉ x ∧ ∃ n, (bs (frontF q ++ x), n) ∈ m := by
  unfold namesM
  rw [List.mem_filter, List.mem_map]
  simp only [decide_eq_true_eq]
  constructor
  · rintro ⟨⟨y, hy, rfl⟩, h47⟩
    obtain ⟨r, n, rfl, hm⟩ := mem_below.1 hy
    rw [List.drop_left] at h47 ⊢
    exact ⟨h47, n, hm⟩
  · rintro ⟨h47, n, hm⟩
    exact ⟨⟨frontF q ++ x, mem_below.2 ⟨x, n, rfl, hm⟩, List.drop_left⟩, h47⟩
theorem names_rise {m : Mp} (h : RiseG m) (q : T) : (namesM m q).Pairwise (· < ·) := by
  unfold namesM
  refine List.Pairwise.filter _ ?_
  rw [List.pairwise_map]
  refine List.Pairwise.imp_of_mem ?_ (below_rise h q)
  intro a b ha hb hab
  obtain ⟨r, _, rfl, _⟩ := mem_below.1 ha
  obtain ⟨s, _, rfl, _⟩ := mem_below.1 hb
  rw [List.drop_left, List.drop_left]
  exact (app_lt _).1 hab
/-- a text into a rising list, once -/
def putT (s : T) : List T → List T
  | [] => [s]
  | y :: l => if y < s then y :: putT s l else if y = s then y :: l else s :: y :: l
theorem mem_putT {s x : T} : ∀ {l : List T}, x ∈ putT s l ↔ x = s ∨ x ∈ l
  | [] => by simp [putT]
  | y :: l => by
    rw [putT]
    split
    · rw [List.mem_cons, mem_putT, List.mem_cons]
      constructor
      · rintro (h | h | h) <;> simp [h]
      · rintro (h | h | h) <;> simp [h]
    · split
      · rename_i e
        subst e
        simp
      · simp
theorem putT_rise (s : T) : ∀ {l : List T}, l.Pairwise (· < ·) → (putT s l).Pairwise (· < ·)
  | [], _ => by simp [putT]
  | y :: l, h => by
    have h1 := List.pairwise_cons.1 h
    rw [putT]
    split
    · rename_i e
      refine List.pairwise_cons.2 ⟨fun z hz => ?_, putT_rise s h1.2⟩
      rcases mem_putT.1 hz with rfl | hz
      · exact e
      · exact h1.1 z hz
    · rename_i e
      split
      · exact h
      · rename_i e2
        have e3 : s < y := by
          rcases List.le_total s y with h | h
          · rcases List.le_iff_lt_or_eq.1 h with h | h
            · exact h
            · exact absurd h.symm e2
          · rcases List.le_iff_lt_or_eq.1 h with h | h
            · exact absurd h e
            · exact absurd h e2
        refine List.pairwise_cons.2 ⟨fun z hz => ?_, h⟩
        rcases List.mem_cons.1 hz with rfl | hz
        · exact e3
        · exact List.lt_trans e3 (h1.1 z hz)
theorem mem_put {m : Mp} (h : RiseG m) {k : ByteArray} {v : Nd} {n : ByteArray} : (∃ u, (n, u) ∈ putG (k, v) m) ↔ n = k ∨ ∃ u, (n, u) ∈ m := by
  constructor
  · rintro ⟨u, hu⟩
    rcases mem_putG hu with e | e
    · injection e with e1 e2; exact .inl e1
    · exact .inr ⟨u, e⟩
  · intro hu
    have := getG_put (k, v) n m
    by_cases e : k = n
    · rw [if_pos e] at this
      exact ⟨v, getG_mem this⟩
    · rw [if_neg e] at this
      rcases hu with rfl | ⟨u, hu⟩
      · exact absurd rfl e
      · exact ⟨u, getG_mem (this.trans (mem_getG h hu))⟩
/-- a name is put into its directory -/
theorem names_put {m : Mp} (h : RiseG m) {q s : T} (hs : 47 ∉ s) (v : Nd) : namesM (putG (bs (frontF q ++ s), v) m) q = putT s (namesM m q) := by
  refine rise_ext (names_rise (RiseG.put _ h) q) (putT_rise s (names_rise h q)) (fun x => ?_)
  rw [mem_names, mem_putT, mem_names, mem_put h]
  constructor
  · rintro ⟨h1, h2⟩
    rcases h2 with h2 | h2
    · exact .inl (List.append_cancel_left (bs_inj h2))
    · exact .inr ⟨h1, h2⟩
  · rintro (rfl | ⟨h1, h2⟩)
    · exact ⟨hs, .inl rfl⟩
    · exact ⟨h1, .inr h2⟩
end Go.Proofs.YtaajofojbhdgaaaGreatDoor.Vf

/-! Plain law of file systems: what holds of every file system holds behind each call. No program in sight. -/
namespace Go.Proofs.YtaajofojbhdgaaaGreatDoor.Vf
open Ln Pth

theorem absS_good {S : St} {p : T} (h : (absS S p).2 = 0) : ∃ l, GoodP l ∧ (absS S p).1 = joinF l ∧ (absF [47] p) = (joinF l, 0) ∧ wayM S.m (joinF l) = 0 := by
  unfold absS at h ⊢
  by_cases h1 : (absF [47] p).2 ≠ 0
  · rw [if_pos h1] at h; exact absurd h h1
  · rw [if_neg h1] at h ⊢
    by_cases h2 : wayM S.m (absF [47] p).1 ≠ 0
    · rw [if_pos h2] at h; exact absurd h h2
    · rw [if_neg h2]
      rcases absF_cases [47] p with ⟨l, g, e, _⟩ | ⟨_, e⟩
      · refine ⟨l, g, by rw [e], e, ?_⟩
        rw [e] at h2
        simpa using h2
      · omega
theorem kind_le (m : Mp) (q : T) : kindM m q ≤ 2 := by
  unfold kindM
  split
  · omega
  · split
    · omega
    · split <;> omega
theorem root_kind {m : Mp} {q : T} (h : kindM m q ≠ 2) : q ≠ [47] := fun e => h (by rw [e]; rfl)
theorem getG_kind {m : Mp} {q : T} (h : kindM m q = 0) : getG m (bs q) = none := by
  unfold kindM at h
  split at h
  · cases h
  · cases hg : getG m (bs q) with
    | none => rfl
    | some n => rw [hg] at h; simp only at h; split at h <;> cases h
theorem getG_some_kind {m : Mp} {q : T} (hr : q ≠ [47]) (h : kindM m q ≠ 0) : ∃ n, getG m (bs q) = some n := by
  unfold kindM at h
  rw [if_neg hr] at h
  cases hg : getG m (bs q) with
  | none => rw [hg] at h; exact absurd rfl h
  | some n => exact ⟨n, rfl⟩
/-- a node is put -/
theorem put_wf {S : St} (h : WfS S) {l : List T} (hl : GoodP l) (hne : l ≠ []) (dir : Bool) (data : T) (used : Nat)
    (hu : used + (dataM S.m (joinF l)).length = S.used + data.length) (hb : used ≤ S.bytes) (hn : (putG (bs (joinF l), (⟨dir, data, S.clock + 1⟩ : Nd)) S.m).length ≤ S.nodes) :
    WfS { putS S (joinF l) dir data with used := used } := by
  refine ⟨RiseG.put _ h.rise, fun x hx => ?_, ?_, hn, hb, h.n10, h.b20⟩
  · rcases mem_putG hx with rfl | hx
    · exact ⟨l, hl, hne, rfl⟩
    · exact h.good x hx
  · have h1 := sum_put (bs (joinF l), (⟨dir, data, S.clock + 1⟩ : Nd)) h.rise
    have h2 := h.sum
    show used = ((putG (bs (joinF l), (⟨dir, data, S.clock + 1⟩ : Nd)) S.m).map fun x => x.2.data.length).sum
    rw [dataM_sz] at hu
    simp only at h1
    omega
theorem put_len {S : St} (h : WfS S) (k : ByteArray) (v : Nd) : (putG (k, v) S.m).length = S.m.length + (if (getG S.m k).isSome then 0 else 1) := by
  rw [putG_len _ h.rise]; split <;> rfl
theorem good_ne {l : List T} {q : T} (hq : q = joinF l) (h : q ≠ [47]) : l ≠ [] := fun e => h (by rw [hq, e]; rfl)
theorem write_wf {S : St} (h : WfS S) {l : List T} (hl : GoodP l) (b : T) (more : Bool) : WfS (writeQ S (joinF l) b more).1 := by
  unfold writeQ
  by_cases hk : kindM S.m (joinF l) = 2
  · rw [if_pos hk]; exact h
  · rw [if_neg hk]
    have hne : l ≠ [] := good_ne rfl (root_kind hk)
    have hd := dataM_len h (joinF l)
    simp only
    generalize hw : (if more = true then dataM S.m (joinF l) else []) = was
    by_cases hc : S.m.length + (if kindM S.m (joinF l) = 0 then 1 else 0) ≤ S.nodes ∧ S.used + (was.length + b.length) ≤ S.bytes + (dataM S.m (joinF l)).length
    · rw [if_pos hc]
      refine put_wf h hl hne false _ _ ?_ ?_ ?_
      · simp only [List.length_append]; omega
      · omega
      · rw [put_len h]
        by_cases h0 : kindM S.m (joinF l) = 0
        · rw [if_pos h0] at hc; split <;> omega
        · obtain ⟨n, hn⟩ := getG_some_kind (root_kind hk) h0
          have := h.nodes
          simpa [hn] using this
    · rw [if_neg hc]; exact h
theorem writeS_wf {S : St} (h : WfS S) (p b : T) (more : Bool) : WfS (writeS S p b more).1 := by
  unfold writeS
  split
  · exact h
  · rename_i h1
    obtain ⟨l, hl, e, _⟩ := absS_good (S := S) (p := p) (by simpa using h1)
    rw [e]
    exact write_wf h hl b more
theorem mkdirS_wf {S : St} (h : WfS S) (p : T) : WfS (mkdirS S p).1 := by
  unfold mkdirS
  split
  · exact h
  · rename_i h1
    obtain ⟨l, hl, e, _⟩ := absS_good (S := S) (p := p) (by simpa using h1)
    rw [e]
    split
    · exact h
    · rename_i hk
      have hk : kindM S.m (joinF l) = 0 := by simpa using hk
      have hne : l ≠ [] := good_ne rfl (root_kind (m := S.m) (by omega))
      have hg := getG_kind hk
      split
      · rename_i hc
        refine put_wf h hl hne true [] S.used ?_ hc.2 ?_
        · unfold dataM; rw [hg]
        · rw [put_len h, hg]; simpa using hc.1
      · exact h
theorem del_wf {S : St} (h : WfS S) (k : ByteArray) (clock : Nat) : WfS { S with m := delG k S.m, used := S.used - szO (getG S.m k), clock := clock } := by
  have h1 := sum_del k h.rise
  have h2 := h.sum
  have h3 := delG_len k h.rise
  have h4 := h.nodes
  have h5 := h.bytes
  refine ⟨RiseG.del h.rise k, fun x hx => h.good x ((List.mem_filter.1 hx).1), ?_, ?_, ?_, h.n10, h.b20⟩
  · show S.used - _ = ((delG k S.m).map fun x => x.2.data.length).sum
    omega
  · show (delG k S.m).length ≤ S.nodes
    omega
  · show S.used - _ ≤ S.bytes
    omega
theorem removeS_wf {S : St} (h : WfS S) (p : T) : WfS (removeS S p).1 := by
  unfold removeS
  split
  · exact h
  · split
    · exact h
    · split
      · exact h
      · rw [dataM_sz]
        exact del_wf h (bs (foundS S p).1) (S.clock + 1)
theorem touchS_wf {S : St} (h : WfS S) (p : T) : WfS (touchS S p).1 := by
  unfold touchS
  split
  · exact h
  · rename_i h1
    obtain ⟨l, hl, e, _⟩ := absS_good (S := S) (p := p) (by simpa using h1)
    split
    · exact h
    · rename_i h2
      cases hg : getG S.m (bs (absS S p).1) with
      | none => exact writeS_wf h p [] false
      | some n =>
        rw [e] at h2 hg ⊢
        have hne : l ≠ [] := good_ne rfl h2
        exact put_wf h hl hne n.dir n.data S.used (by unfold dataM; rw [hg]) h.bytes (by rw [put_len h, hg]; simpa using h.nodes)
end Go.Proofs.YtaajofojbhdgaaaGreatDoor.Vf

/-! Plain law: what a loop over a map has collected, in whatever order. No program in sight. -/
namespace Go.Proofs.YtaajofojbhdgaaaGreatDoor.Vf
open Ln Pth

theorem filt_step {keys : List ByteArray} (hnd : keys.Nodup) {x : ByteArray} (hx : x ∈ keys) {p q q' : ByteArray → Bool} (hq' : ∀ k, q' k = (q k || decide (k = x))) (hqx : q x = false) :
    (keys.filter fun k => p k && q' k).Perm ((keys.filter fun k => p k && q k) ++ if p x = true then [x] else []) := by
  induction keys with
  | nil => cases hx
  | cons y keys ih =>
    have hn := List.nodup_cons.1 hnd
    by_cases e : y = x
    · subst e
      have hrest : (keys.filter fun k => p k && q' k) = (keys.filter fun k => p k && q k) := by
        apply List.filter_congr
        intro k hk
        have : k ≠ y := fun e => hn.1 (e ▸ hk)
        rw [hq']
        simp [this]
      rw [List.filter_cons, List.filter_cons, hrest, hq', hqx]
      by_cases hp : p y = true
      · simp only [hp, Bool.true_and, Bool.false_or, decide_true, if_true, Bool.false_eq_true, if_false]
        exact List.perm_append_comm (l₁ := [y])
      · simp only [hp, Bool.false_and, Bool.false_eq_true, if_false, List.append_nil]
        exact List.Perm.refl _
    · have hx2 : x ∈ keys := by
        rcases List.mem_cons.1 hx with h | h
        · exact absurd h.symm e
        · exact h
      have ih := ih hn.2 hx2
      rw [List.filter_cons, List.filter_cons]
      have hqy : q' y = q y := by rw [hq']; simp [e]
      rw [hqy]
      split
      · exact ih.cons y
      · exact ih
theorem rise_nodup {α : Type} {P : KV α} (h : RiseG P) : (P.map (·.1)).Nodup := by
  rw [List.nodup_iff_pairwise_ne, List.pairwise_map]
  exact List.Pairwise.imp (fun {a b} hab e => by rw [e, sLt_irr] at hab; cases hab) h
/-- what is sorted is what stands in order -/
theorem sort_below {m : Mp} (h : RiseG m) (q : T) {ss : List (List UInt8)} (hp : ss.Perm (belowM m q)) : ss.mergeSort (fun x y => decide (x ≤ y)) = belowM m q := by
  have htr : ∀ a b c : List UInt8, decide (a ≤ b) = true → decide (b ≤ c) = true → decide (a ≤ c) = true := by
    intro a b c h1 h2
    rw [decide_eq_true_iff] at *
    exact List.le_trans h1 h2
  have htot : ∀ a b : List UInt8, (decide (a ≤ b) || decide (b ≤ a)) = true := by
    intro a b
    rw [Bool.or_eq_true, decide_eq_true_iff, decide_eq_true_iff]
    exact List.le_total a b
  have hs := List.pairwise_mergeSort htr htot ss
  refine List.Perm.eq_of_pairwise (fun a b _ _ h1 h2 => ?_) hs (List.Pairwise.imp (fun {a b} hab => ?_) (below_rise h q)) ((List.mergeSort_perm ss _).trans hp)
  · rw [decide_eq_true_iff] at h1 h2
    exact List.le_antisymm h1 h2
  · rw [decide_eq_true_iff]
    exact List.le_of_lt hab
theorem below_map (m : Mp) (q : T) : belowM m q = ((m.map (·.1)).filter fun k => preB (frontF q) k.data.toList).map (fun k => k.data.toList) := by
  unfold belowM
  rw [show (m.map fun x => x.1.data.toList) = (m.map (·.1)).map (fun k => k.data.toList) by rw [List.map_map]; rfl, List.filter_map]
  rfl
end Go.Proofs.YtaajofojbhdgaaaGreatDoor.Vf

/-! Plain law: what is put into a directory. No program in sight. -/
namespace Go.Proofs.YtaajofojbhdgaaaGreatDoor.Vf
open Ln Pth

/-- a name that may stand in a directory -/
structure GoodN (s : T) : Prop where
  ok : okN s
  len : s.length ≤ 60
  zero : 0 ∉ s
def inD (s : T) : T := 47 :: 100 :: 47 :: s
theorem inD_join (s : T) : inD s = joinF [[100], s] := by simp [inD, joinF, slashed]
theorem goodD {s : T} (h : GoodN s) : GoodP [[100], s] := by
  have hd : okN [100] := by simp [okN]
  refine ⟨?_, ?_, ?_, by simp, ?_⟩
  · intro x hx
    rcases List.mem_cons.1 hx with rfl | hx
    · exact hd
    · rw [List.mem_singleton.1 hx]; exact h.ok
  · intro x hx
    rcases List.mem_cons.1 hx with rfl | hx
    · simp
    · rw [List.mem_singleton.1 hx]; exact h.len
  · intro x hx
    rcases List.mem_cons.1 hx with rfl | hx
    · simp
    · rw [List.mem_singleton.1 hx]; exact h.zero
  · rw [← inD_join]
    have := h.len
    simp [inD]
    omega
/-- a file system with the directory /d, and its names -/
structure LI (S : St) (want : List T) (i : Nat) : Prop where
  wf : WfS S
  nodes : S.nodes = 50
  bytes : S.bytes = 50
  clock : S.clock ≤ 2 + i
  len : S.m.length ≤ 2 + i
  dir : kindM S.m [47, 100] = 2
  names : namesM S.m [47, 100] = want
theorem kind_put {m : Mp} {k : ByteArray} {v : Nd} {q : T} (hk : k ≠ bs q) : kindM (putG (k, v) m) q = kindM m q := by
  unfold kindM
  rw [getG_put, if_neg hk]
theorem inD_ne (s : T) : bs (inD s) ≠ bs [47, 100] := fun e => by
  have := congrArg List.length (bs_inj e)
  simp [inD] at this
theorem front_d : frontF [47, 100] = [47, 100, 47] := rfl
theorem LI.way {S : St} {want : List T} {i : Nat} (h : LI S want i) {s : T} (hs : GoodN s) : wayM S.m (inD s) = 0 := by
  rw [inD_join, way_join S.m (fun x hx => ((goodD hs).ok x hx).2.2.2)]
  show wayL S.m [[100]] [s] = 0
  have hk : kindM S.m (joinF [[100]]) = 2 := h.dir
  rw [wayL, hk]
  rfl
theorem LI.abs {S : St} {want : List T} {i : Nat} (h : LI S want i) {s : T} (hs : GoodN s) (p : T) (hp : absF [47] p = (inD s, 0)) : absS S p = (inD s, 0) := by
  unfold absS
  rw [hp]
  simp only [ne_eq, not_true_eq_false, if_false]
  rw [h.way hs]
  rfl
/-- a node is put into it -/
theorem LI.put {S : St} {want : List T} {i : Nat} (h : LI S want i) {s : T} (hs : GoodN s) (dir : Bool) (data : T) (used : Nat) (hw : WfS { putS S (inD s) dir data with used := used }) : LI { putS S (inD s) dir data with used := used } (putT s want) (i + 1) := by
  refine ⟨hw, h.nodes, h.bytes, ?_, ?_, ?_, ?_⟩
  · show S.clock + 1 ≤ _; have := h.clock; omega
  · show (putG (bs (inD s), (⟨dir, data, S.clock + 1⟩ : Nd)) S.m).length ≤ _
    rw [put_len h.wf]
    have := h.len
    split <;> omega
  · exact (kind_put (inD_ne s)).trans h.dir
  · show namesM (putG (bs (inD s), _) S.m) [47, 100] = _
    have := names_put h.wf.rise (q := [47, 100]) hs.ok.2.2.2 ⟨dir, data, S.clock + 1⟩
    rw [front_d] at this
    rw [← h.names]
    exact this
end Go.Proofs.YtaajofojbhdgaaaGreatDoor.Vf
/- Numbers written in digits; no program in sight. Walk of the reference's Digits. -/
namespace Qm.Base
/-- a number's digits, as bytes -/
def dgL (n : Nat) : List Nat := if h : n < 10 then [48 + n] else dgL (n / 10) ++ [48 + n % 10]
termination_by n
decreasing_by omega
def dgV (l : List Nat) : Nat := l.foldl (fun a d => a * 10 + (d - 48)) 0
end Qm.Base
namespace Go.Proofs.YtaajofojbhdgaaaGreatDoor
open Go.RowKit Go.Deep Qm.Base
/-- a text out of its bytes -/
def ds (l : List Nat) : ByteArray := strOfNums (l.map fun n : Nat => (n : Int))
end Go.Proofs.YtaajofojbhdgaaaGreatDoor
/- Slices of bytes made by the call: making one, reading it as a text. -/
namespace Go.Proofs.YtaajofojbhdgaaaGreatDoor
open Go.RowKit Go.Deep
end Go.Proofs.YtaajofojbhdgaaaGreatDoor
/- A slice of bytes of the call's own: what it reads as; its text. -/
namespace Go.Proofs.YtaajofojbhdgaaaGreatDoor
open Go.RowKit Go.Deep
def encB (c : UInt8) : List Value := [.int .u8 c.toNat]
theorem encB_len (c : UInt8) : (encB c).length = 1 := rfl
theorem encB_one (c : UInt8) : ∀ u ∈ encB c, u.oneCell' = true := by
  intro u hu
  simp [encB] at hu
  subst hu; rfl
def rowB : RowT Tryz.prog 66 5 1 := { z := .int .u8 0, bytes := 1, und := Tryz.underlying66, info := by kernel_rfl, zlen := rfl, pos := by omega, sb := by omega }
abbrev OwnY (w : World) (base : Nat) (v : Value) (l : List UInt8) : Prop := OwnG encB 1 5 w base v l
theorem run_appY {w : World} {base : Nat} {v : Value} {L N : List UInt8} {A : Option Addr} {c : Nat} (h : OwnY w base v L) (hn : RG encB 1 w A N) (hbase : base ≤ w.heap.size) (hl : L.length + N.length ≤ 1000000) :
    ∃ v' w', (Builtin.append_ #[66, 66] 66 #[v, .slice A N.length c]).run Tryz.prog w = .ok v' w' ∧ OwnY w' base v' (L ++ N) ∧ w.grownBy w' v.ownBlock ∧ (v'.ownBlock = v.ownBlock ∨ v'.ownBlock = some w.heap.size) := run_appG rowB encB_len encB_one h hn hbase (by omega)
theorem bt_bs (l : List UInt8) (k : Nat) : bt (bs l) k = (l.getD k 0).toNat := by
  simp [bt, bs]
end Go.Proofs.YtaajofojbhdgaaaGreatDoor
/- How the program's file system lies in memory: a map of nodes, and four numbers; the nodes' bytes never change. -/
namespace Go.Proofs.YtaajofojbhdgaaaGreatDoor
open Go.RowKit Go.Deep Go.Maps Ln Pth Vf

/-- a node: where its bytes lie -/
structure En where
  A : Option Addr
  c : Nat
  nd : Nd
def hR (v : Value) : Option (DataW Value × List MemPlace) := some (.held v, [])
def encN (e : En) : Value := .agg #[.bool e.nd.dir, .slice e.A e.nd.data.length e.c, .int .i64 e.nd.time]
def fN (e : En) : DataW Value := .held (encN e)
def zN : Value := .agg #[.bool false, .slice none 0 0, .int .i64 0]
def valN : Option En → Value
  | none => zN
  | some e => encN e
def MapN (w : World) (b : Nat) (P : KV En) : Prop := w.ownsMap Tryz.prog 9 hR b P.length (datG fN P)
theorem nkeyed : Keyed Tryz.prog 9 := string_keyed Tryz.underlying9
theorem nzero (w : World) : (zeroValue 115).run Tryz.prog w = .ok zN w := by kernel_rfl
theorem nkey {s : ByteArray} (h : s.size ≤ 9223372036854775807) : keyOf Tryz.prog 9 (.string s) = some (kLit s) := Go.WideMaps.keyOf_string_mk Tryz.underlying9 (by unfold maxLen; omega)
theorem own_tightN {w : World} {b n : Nat} {P : KV En} (h : w.ownsMap Tryz.prog 9 hR b n (datG fN P)) : MapN w b P := by
  obtain ⟨es, clock, h1, h2, h3, h4⟩ := h
  refine ⟨es, clock, h1, h2, ?_, h4⟩
  have := congrArg Maps.size h4
  rw [datG_size] at this
  rw [this]
  simp [Maps.size, length_sorted]
theorem MapN.of {w w' : World} {b : Nat} {P : KV En} (h : MapN w b P) (hb : w'.heap[b]? = w.heap[b]?) : MapN w' b P := by
  obtain ⟨es, clock, h1, h2⟩ := h
  exact ⟨es, clock, hb.trans h1, h2⟩
theorem MapN.lt {w : World} {b : Nat} {P : KV En} (h : MapN w b P) : b < w.heap.size := by
  obtain ⟨es, clock, h1, h2⟩ := h
  exact (Array.getElem?_eq_some_iff.1 h1).1
theorem nat_val {P : KV En} {s : ByteArray} {v : Value} {ps : List MemPlace} (h : hR v = some ((datG fN P).atKey (kLit s) (.held zN), ps)) : v = valN (getG P s) := by
  unfold hR at h
  rw [datG_at] at h
  cases hg : getG P s with
  | none => rw [hg] at h; injection h with h; injection h with h1 h2; injection h1
  | some e => rw [hg] at h; injection h with h; injection h with h1 h2; unfold fN at h1; injection h1
theorem nlook {w : World} {b : Nat} {P : KV En} (h : MapN w b P) {s : ByteArray} (hs : s.size ≤ 9223372036854775807) :
    (Instr.lookup 97 (.map (some b)) (.string s) true).run Tryz.prog w = .ok (.tuple #[valN (getG P s), .bool (getG P s).isSome]) w := by
  obtain ⟨v, ps, hrun, hv⟩ := h.look_ok nkeyed Tryz.underlying97 (nzero w) (zd := .held zN) (zp := []) rfl (nkey hs)
  rw [hrun, nat_val hv, datG_has]
theorem nlook1 {w : World} {b : Nat} {P : KV En} (h : MapN w b P) {s : ByteArray} (hs : s.size ≤ 9223372036854775807) :
    (Instr.lookup 97 (.map (some b)) (.string s) false).run Tryz.prog w = .ok (valN (getG P s)) w := by
  obtain ⟨v, ps, hrun, hv⟩ := h.lookup nkeyed Tryz.underlying97 (nzero w) (zd := .held zN) (zp := []) rfl (nkey hs)
  rw [hrun, nat_val hv]
theorem nlen {w : World} {b : Nat} {P : KV En} (h : MapN w b P) (ty : TypeId) : (Builtin.len_ #[97] ty #[.map (some b)]).run Tryz.prog w = .ok (.int .i64 P.length) w := by
  rw [h.len Tryz.underlying97 ty, datG_size]
theorem turnedN {w w' : World} {b : Nat} (h : w.mapTurned w' b) : Kp w w' (fun k => k = b) :=
  ⟨h.grown.os, h.grown.tape, h.grown.output, h.grown.size, fun k hk hne => h.grown.block k hk (by intro e; injection e with e; exact hne e)⟩
theorem ndrop {w : World} {b : Nat} {P : KV En} (h : MapN w b P) {s : ByteArray} (hs : s.size ≤ 9223372036854775807) (ty : TypeId) :
    ∃ w', (Builtin.delete_ #[97, 9] ty #[.map (some b), .string s]).run Tryz.prog w = .ok (.tuple #[]) w' ∧ MapN w' b (delG s P) ∧ Kp w w' (fun k => k = b) ∧ w'.heap.size = w.heap.size := by
  obtain ⟨w', h1, h2, h3⟩ := h.drop nkeyed Tryz.underlying97 (nkey hs) ty
  rw [datG_del] at h2
  refine ⟨w', h1, own_tightN h2, turnedN h3, ?_⟩
  obtain ⟨es, clock, es', clock', hb, rfl⟩ := h3
  simp [ChangeMaps.setBlock]
theorem nstore {w : World} {b : Nat} {P : KV En} (h : MapN w b P) (hr : RiseG P) (hl : P.length ≤ 1000000) {s : ByteArray} (hs : s.size ≤ 9223372036854775807) (e : En) :
    ∃ w', (Instr.mapUpdate 97 (.map (some b)) (.string s) (encN e)).run Tryz.prog w = .ok () w' ∧ MapN w' b (putG (s, e) P) ∧ Kp w w' (fun k => k = b) ∧ w'.heap.size = w.heap.size := by
  obtain ⟨w', h1, h2, h3⟩ := h.store nkeyed Tryz.underlying97 (by unfold maxLen; omega) (nkey hs) (val := encN e) (d := fN e) (ps := []) rfl
  rw [datG_put fN hr] at h2
  refine ⟨w', h1, own_tightN h2, turnedN h3, ?_⟩
  obtain ⟨es, clock, es', clock', hb, rfl⟩ := h3
  simp [ChangeMaps.setBlock]
/-! the nodes without their places -/
def stripN (P : KV En) : Mp := P.map fun x => (x.1, x.2.nd)
theorem strip_get (P : KV En) (n : ByteArray) : getG (stripN P) n = (getG P n).map (·.nd) := by
  unfold stripN
  induction P with
  | nil => rfl
  | cons y P ih => rw [List.map_cons, getG_cons, getG_cons, ih]; split <;> rfl
theorem strip_put (x : ByteArray × En) : ∀ P : KV En, stripN (putG x P) = putG (x.1, x.2.nd) (stripN P)
  | [] => rfl
  | y :: P => by
    have ih := strip_put x P
    unfold stripN at ih ⊢
    rw [putG, List.map_cons, putG]
    split
    · rw [List.map_cons, ih]
    · split
      · rfl
      · rfl
theorem strip_del (n : ByteArray) (P : KV En) : stripN (delG n P) = delG n (stripN P) := by
  unfold stripN delG
  rw [List.filter_map]; rfl
theorem strip_rise {P : KV En} : RiseG (stripN P) ↔ RiseG P := by
  unfold stripN RiseG
  rw [List.pairwise_map]
theorem strip_len (P : KV En) : (stripN P).length = P.length := by unfold stripN; simp
/-- a file system in blocks of its own -/
def VS (g : Nat) (S : St) : AsnN := fun T N w => ∃ (b : Nat) (P : KV En), T g ∧ T b ∧ g ≠ b ∧
  w.heap[g]? = some (.cells #[.map (some b), .int .i64 S.nodes, .int .i64 S.bytes, .int .i64 S.used, .int .i64 S.clock] 99) ∧
  MapN w b P ∧ S.m = stripN P ∧ ∀ x ∈ P, RG encB 1 w x.2.A x.2.nd.data ∧ ∀ a, x.2.A = some a → N a.block
theorem VS.fr (g : Nat) (S : St) : FrN (VS g S) := by
  rintro T N N' w w' ⟨b, P, h1, h2, h3, h4, h5, h6, h7⟩ hb hn hs
  exact ⟨b, P, h1, h2, h3, (hb g (.inl h1)).trans h4, h5.of (hb b (.inl h2)), h6, fun x hx => ⟨(h7 x hx).1.of hs (fun a e _ => hb a.block (.inr ((h7 x hx).2 a e))), fun a e => hn _ ((h7 x hx).2 a e)⟩⟩
/-- it holds of some blocks -/
def Hs (A : AsnN) (w : World) : Prop := ∃ T N, A T N w ∧ OkTN T N w
theorem Hs.below {A : AsnN} (hA : FrN A) {w w' : World} (h : Hs A w) (hb : Below w.heap.size w w') : Hs A w' := by
  obtain ⟨T, N, a, ok⟩ := h
  exact ⟨T, N, hA T N N w w' a (fun k hk => hb.block k (hk.elim (fun h => (ok.1 k h).1) (ok.2 k))) (fun _ h => h) hb.size, (GrowN.refl ok hb.size).2.2.2⟩
theorem InvN.hs {A : AsnN} {B : Nat} {w0 w : World} (h : InvN A B w0 w) : Hs A w := by
  obtain ⟨T, N, a, ok, _, _⟩ := h
  exact ⟨T, N, a, ok⟩
theorem VS.opn {g : Nat} {S : St} {w : World} (h : Hs (VS g S) w) : ∃ (b : Nat) (P : KV En), g ≠ b ∧
    w.heap[g]? = some (.cells #[.map (some b), .int .i64 S.nodes, .int .i64 S.bytes, .int .i64 S.used, .int .i64 S.clock] 99) ∧ MapN w b P ∧ S.m = stripN P ∧ ∀ x ∈ P, RG encB 1 w x.2.A x.2.nd.data := by
  obtain ⟨T, N, ⟨b, P, h1, h2, h3, h4, h5, h6, h7⟩, ok⟩ := h
  exact ⟨b, P, h3, h4, h5, h6, fun x hx => (h7 x hx).1⟩
theorem cellOf {w : World} {g : Nat} {cs : Array Value} {t : TypeId} (h : w.heap[g]? = some (.cells cs t)) {j : Nat} {v : Value} (hj : cs[j]? = some v) : w.cell? ⟨g, j, none⟩ = some v := by
  simpa [World.cell?, h] using hj
theorem freeOf {w : World} {g : Nat} {cs : Array Value} {t : TypeId} (h : w.heap[g]? = some (.cells cs t)) (j : Nat) : w.frozen? ⟨g, j, none⟩ = false := by
  simp [World.frozen?, h]
end Go.Proofs.YtaajofojbhdgaaaGreatDoor
/- A text parted at a byte: the library's pieces; the library's variable that a search reads. -/
namespace Go.Proofs.YtaajofojbhdgaaaGreatDoor
open Go.RowKit Ln

/-! the pieces -/
theorem splitK_spl (c : UInt8) : ∀ (k : Nat) (s : T), s.count c = k → Lib.splitK [c] 0 k s = spl c s
  | 0, s, h => by
    rw [Lib.splitK, spl_none (by rw [← List.count_eq_zero]; exact h)]
  | k + 1, s, h => by
    have hm : c ∈ s := List.count_pos_iff.1 (by omega)
    obtain ⟨a, b, rfl, ha⟩ := List.eq_append_cons_of_mem hm
    have hi : Lib.indexByte (a ++ c :: b) c = (a.length : Int) := by
      clear h hm
      induction a with
      | nil => simp [Lib.indexByte]
      | cons x a ih =>
        have hx : x ≠ c := fun e => ha (by simp [e])
        have ih := ih (fun hc => ha (by simp [hc]))
        rw [List.cons_append, Lib.indexByte, if_neg (by simpa using hx), ih]
        have : ((a.length : Int) == -1) = false := by simp
        rw [this]
        simp
    have hne : ((a.length : Int) == -1) = false := by simp
    have hcnt : b.count c = k := by
      rw [List.count_append, List.count_cons_self, List.count_eq_zero.2 ha] at h
      omega
    rw [Lib.splitK, Lib.index_one, hi, hne]
    simp only [Bool.false_eq_true, if_false, Int.toNat_natCast, Nat.add_zero, List.length_cons, List.length_nil]
    rw [spl_app b ha, List.take_left, show (a ++ c :: b).drop (a.length + (0 + 1)) = b from by rw [← List.drop_drop]; simp, splitK_spl c k b hcnt]
theorem split_bs (c : UInt8) (l : T) : Lib.splitB ⟨#[c]⟩ 0 (Lib.countB (bs l) ⟨#[c]⟩) (bs l) = (spl c l).map bs := by
  have h := Lib.splitB_data ⟨#[c]⟩ 0 (Lib.countB (bs l) ⟨#[c]⟩) (bs l)
  rw [bs_list] at h
  have hc : Lib.countB (bs l) ⟨#[c]⟩ = l.count c := by
    show Lib.count (bs l).data.toList [c] = _
    rw [bs_list]
    exact Lib.count_one c l
  rw [hc] at h ⊢
  rw [show (⟨#[c]⟩ : ByteArray).data.toList = [c] from rfl, splitK_spl c _ l rfl] at h
  rw [← h, List.map_map]
  conv => lhs; rw [← List.map_id (Lib.splitB _ _ _ _)]
  apply List.map_congr_left
  intro x _
  exact (bs_of x).symm
/-- bytealg.MaxLen holds a number -/
def MX (w : World) : Prop := ∃ m, w.cell? ⟨0, 0, none⟩ = some (.int .i64 m)
theorem MX.below {w w' : World} (h : MX w) (hb : Below w.heap.size w w') : MX w' := by
  obtain ⟨m, hm⟩ := h
  exact ⟨m, (hb.cell (p := ⟨0, 0, none⟩) (World.block_lt_of_cell? w _ hm)).trans hm⟩
end Go.Proofs.YtaajofojbhdgaaaGreatDoor
/- Walks of path.Parts and path.join. Walks of path.join and path.Abs. Walk of the program's path.Within. -/
namespace Go.Proofs.YtaajofojbhdgaaaGreatDoor
open Go.RowKit Go.Deep Ln Pth
attribute [local go_sem] bt_eq

theorem OwnS.take {w : World} {base : Nat} {A : Option Addr} {n c : Nat} {L : List ByteArray} (h : OwnS w base (.slice A n c) L) {k : Nat} (hk : k ≤ L.length) : OwnS w base (.slice A k c) (L.take k) := by
  obtain ⟨h1, h2⟩ := h
  have hl : (L.take k).length = k := by rw [List.length_take]; omega
  refine ⟨by unfold strVals; simp, ?_⟩
  rw [hl]
  rcases h2 with ⟨h3, h4⟩ | ⟨g, cap, cur, h3, h4, h5, h6, h7, h8, h9⟩
  · injection h3 with e1 e2 e3
    subst e1 e3
    obtain rfl : k = 0 := by omega
    exact .inl ⟨rfl, rfl⟩
  · injection h3 with e1 e2 e3
    subst e1 e3
    refine .inr ⟨g, c, cur, rfl, h4, h5, by omega, h7, h8, ?_⟩
    unfold strVals at h9 ⊢
    rw [List.map_take, ← h9, List.take_take]
    congr 1
    omega
theorem OwnS.base {w : World} {base base' : Nat} {v : Value} {L : List ByteArray} (h : OwnS w base v L) (hb : base' ≤ base) : OwnS w base' v L :=
  ⟨h.1, h.2.imp id fun ⟨g, cap, cur, e, hg, r⟩ => ⟨g, cap, cur, e, by omega, r⟩⟩
theorem SR.newL (w : World) (L : List ByteArray) (t : TypeId) : SR (w.alloc (.cells (L.map Value.string).toArray t)) (some ⟨w.heap.size, 0, none⟩) L := fun k x hk => by
  refine ⟨_, _, rfl, by simp, ?_⟩
  have h := heapNew w (.cells (L.map Value.string).toArray t)
  unfold World.cell?
  rw [h]
  simp [hk]
theorem OwnS.newL (w : World) (L : List ByteArray) {base : Nat} (hb : base ≤ w.heap.size) (hl : L.length ≤ 66000000) : OwnS (w.alloc (.cells (L.map Value.string).toArray 9)) base (.slice (some ⟨w.heap.size, 0, none⟩) L.length L.length) L := by
  refine ⟨by unfold strVals; simp, .inr ⟨_, _, _, rfl, hb, heapNew w _, Nat.le_refl _, by unfold maxLen; omega, by simp, ?_⟩⟩
  unfold strVals
  rw [Nat.mul_one, List.take_of_length_le (by simp)]
theorem split_cnt (l : T) (c : UInt8) : Lib.countB (bs l) ⟨#[c]⟩ + 1 = ((spl c l).map bs).length := by
  have := congrArg List.length (split_bs c l)
  rw [Lib.splitB_all _ (by simp [ByteArray.size]) 0 _ _ rfl] at this
  exact this
/-- the library's pieces of a text -/
theorem split_any (l : T) (c : UInt8) (w : World) (hm : MX w) (h : l.length ≤ 66000000) :
    Calls Tryz.prog 164 #[.string (bs l), .string ⟨#[c]⟩] w fun e w' => e = .returned (.slice (some ⟨w.heap.size, 0, none⟩) ((spl c l).map bs).length ((spl c l).map bs).length) ∧ w.alloc (.cells (((spl c l).map bs).map Value.string).toArray 9) = w' := by
  obtain ⟨mx, hmx⟩ := hm
  have := Tryz.strings_Split (bs l) ⟨#[c]⟩ mx w (by rw [bs_size]; omega) hmx (by simp [ByteArray.size])
  rw [split_cnt, split_bs] at this
  exact this.mono fun e w' ⟨h1, h2⟩ => ⟨h1, h2.symm⟩
theorem pre_slash (p : T) : Lib.hasPrefix (bs p).data.toList [47] = decide (p.head? = some 47) := by
  rw [bs_list]
  unfold Lib.hasPrefix
  cases p with
  | nil => rfl
  | cons c p =>
    rw [Bool.eq_iff_iff]
    simp only [List.isPrefixOf, List.head?_cons, Option.some.injEq, decide_eq_true_eq, Bool.and_eq_true, beq_iff_eq, and_true]
    exact eq_comm
theorem foldl_take {k : Nat} {L : List T} {x : T} (h : L[k]? = some x) : (L.take (k + 1)).foldl stepP [] = stepP ((L.take k).foldl stepP []) x := by
  rw [List.take_add_one, h, List.foldl_append]; rfl
set_option maxRecDepth 100000 in
set_option maxHeartbeats 2000000 in
theorem parts_any (cwd p : T) (w : World) (hm : MX w) (h1 : cwd.length ≤ 6600000) (h2 : p.length ≤ 6600000) :
    Calls Tryz.prog 131 #[.string (bs cwd), .string (bs p)] w fun e w' => (∃ v, e = .returned v ∧ OwnS w' w.heap.size v ((partsF cwd p).map bs)) ∧ Below w.heap.size w w' := by
  have HSP := hide (fun W h => split_any p 47 W h (by omega))
  have HSC := hide (fun W h => split_any cwd 47 W h (by omega))
  have HPR := hide (fun W => (Tryz.strings_HasPrefix (bs p) ⟨#[47]⟩ W).mono fun e w' ⟨h1, h2⟩ => (⟨h1, h2.symm⟩ : _ ∧ W = w'))
  rw [show (⟨#[47]⟩ : ByteArray).data.toList = [47] from rfl, pre_slash] at HPR
  have hl1 := spl_len 47 p
  have hl2 := spl_len 47 cwd
  have HM := hide hm
  obtain ⟨R, hR⟩ : ∃ R, partsF cwd p = R := ⟨_, rfl⟩
  have HRR := hide hR
  unfold partsF at hR
  obtain ⟨LP, hLP⟩ : ∃ L, (spl 47 p).map bs = L := ⟨_, rfl⟩
  obtain ⟨LC, hLC⟩ : ∃ L, (spl 47 cwd).map bs = L := ⟨_, rfl⟩
  have hlp : LP.length ≤ 6600001 := by rw [← hLP, List.length_map]; omega
  have hlc : LC.length ≤ 6600001 := by rw [← hLC, List.length_map]; omega
  have HLP := hide hLP
  have HLC := hide hLC
  rw [hLP] at HSP
  rw [hLC] at HSC
  clear hm hl1 hl2 hLP hLC
  by_cases hh : p.head? = some 47
  all_goals first
    | (rw [decide_eq_true hh] at HPR
       rw [if_pos hh] at hR
       have HR := hide hR
       clear hR hh
       go_enter Tryz.func131, Tryz.ntmps131
       go_wp2_with fail
       refine (HSP.out w HM.out).mono ?_
       rintro e w1 ⟨rfl, rfl⟩
       go_wp2_with fail
       refine (HPR.out _).mono ?_
       rintro e w' ⟨rfl, rfl⟩
       have HA := hide (SR.newL w LP 9)
       have HB := hide ((Below.refl w.heap.size w).alloc (Nat.le_refl _) (.cells (LP.map Value.string).toArray 9))
       have HFULL := hide (show ∃ M : List T, M.map bs = LP ∧ M.foldl stepP [] = R from ⟨_, HLP.out, HR.out⟩)
       obtain ⟨n, hn⟩ : ∃ n, LP.length = n := ⟨_, rfl⟩
       have hn2 : n ≤ 19800000 := by omega
       have HN := hide hn
       rw [hn]
       go_wp2
       generalize (some ⟨w.heap.size, 0, none⟩ : Option Addr) = A at HA ⊢
       generalize w.alloc (.cells (LP.map Value.string).toArray 9) = W at HA HB ⊢
       generalize LP = LL at HA HFULL HN)
    | (rw [decide_eq_false hh] at HPR
       rw [if_neg hh] at hR
       have HR := hide hR
       clear hR hh
       go_enter Tryz.func131, Tryz.ntmps131
       go_wp2_with fail
       refine (HSP.out w HM.out).mono ?_
       rintro e w1 ⟨rfl, rfl⟩
       have HA0 := hide (SR.newL w LP 9)
       have hb0 := (Below.refl w.heap.size w).alloc (Nat.le_refl _) (.cells (LP.map Value.string).toArray 9)
       have HB0 := hide hb0
       have HM0 := hide (HM.out.below hb0)
       clear hb0
       go_wp2_with fail
       refine (HPR.out _).mono ?_
       rintro e w' ⟨rfl, rfl⟩
       generalize (some ⟨w.heap.size, 0, none⟩ : Option Addr) = A0 at HA0 ⊢
       generalize w.alloc (.cells (LP.map Value.string).toArray 9) = W0 at HA0 HB0 HM0 ⊢
       go_wp2_with fail
       refine (HSC.out W0 HM0.out).mono ?_
       rintro e w' ⟨rfl, rfl⟩
       have hb1 := (Below.refl W0.heap.size W0).alloc (Nat.le_refl _) (.cells (LC.map Value.string).toArray 9)
       obtain ⟨v, W, hrun, ho, hg, hv⟩ := run_appS (c := LP.length) (OwnS.newL W0 LC (Nat.le_refl _) (by omega)) (HA0.out.below hb1) (by simp) (by omega)
       obtain ⟨A, c, rfl, hlc2, hsr, _⟩ := OwnS.slice ho
       have HA := hide hsr
       have HB := hide (below_up HB0.out (hb1.trans ((Below.refl W0.heap.size _).grown hg (by simp) (fun q hq => by
         injection hq with hq; rw [← hq]; exact Nat.le_refl _))) HB0.out.size)
       have HFULL := hide (show ∃ M : List T, M.map bs = LC ++ LP ∧ M.foldl stepP [] = R from ⟨_, by rw [List.map_append, HLC.out, HLP.out], HR.out⟩)
       have hn2 : (LC ++ LP).length ≤ 19800000 := by rw [List.length_append]; omega
       generalize LC ++ LP = LL at HA HFULL hrun hn2 hlc2
       clear ho hg hv hsr hb1
       go_wp2_with (at_builtin; refine wpList_app_run ?_ (.tmp 15) (.tmp 16) ?_ ?_ ?_ ?_ hrun ?_; exact rfl; exact rfl; exact rfl; exact rfl; exact rfl)
       obtain ⟨n, hn⟩ : ∃ n, LL.length = n := ⟨_, rfl⟩
       rw [hn] at hn2 ⊢
       have HN := hide hn
       clear hrun hlc2 hn)
  all_goals
    clear HSP HSC HPR HM HLP HLC
    obtain ⟨M, hM, hfull⟩ := HFULL.out
    have HFL := hide hfull
    have HMM := hide hM
    clear hM hfull HFULL
    have hn3 : (n : Int) ≤ 19800000 := by omega
    have HML := hide (show M.length = n by have := HN.out; rw [← HMM.out, List.length_map] at this; exact this)
    go_loopw [6, 20] (fun v6 v20 wr => ∃ k : Nat, v20 = .int .i64 k ∧ k ≤ n ∧ OwnS wr W.heap.size v6 (((M.take k).foldl stepP []).map bs) ∧ Below W.heap.size W wr) (fun _ v20 _ => n - (intOf v20).toNat)
    case atStart => exact ⟨0, rfl, by omega, OwnS.nil _ _, Below.refl _ _⟩
    case round =>
      obtain ⟨k, rfl, hk, ho, hbw⟩ := hrel
      have HO := hide ho
      have HAR := hide (HA.out.below hbw)
      have HBW := hide hbw
      clear ho hbw
      by_cases hlt : k < n
      · obtain ⟨x, hx⟩ : ∃ x, M[k]? = some x := ⟨M[k]'(by have := HML.out; omega), List.getElem?_eq_getElem _⟩
        obtain ⟨g, o, rfl, hg, hc⟩ := HAR.out k (bs x) (by rw [← HMM.out, List.getElem?_map, hx]; rfl)
        have HT := hide (foldl_take hx)
        have b1 : (k : Int) < (n : Int) := by omega
        have hql : ((M.take k).foldl stepP []).length ≤ 19800000 := by
          have := foldl_len (M.take k) []
          rw [List.length_take, List.length_nil] at this
          omega
        clear hx
        generalize (M.take k).foldl stepP [] = Q at HO HT hql
        by_cases e1 : x = []
        · subst e1
          have hem : (bs ([] : T)).toList.isEmpty = true := by rw [bs_toList]; rfl
          go_wp2
          go_roundw
          case rel => exact ⟨k + 1, by go_num, by omega, by rw [HT.out, stepP, if_pos (.inl rfl)]; exact HO.out, HBW.out⟩
          case measure => simp [intOf]; omega
        by_cases e2 : x = [46]
        · subst e2
          have hem : (bs ([46] : T)).toList.isEmpty = false := by rw [bs_toList]; rfl
          have h46 : ((bs ([46] : T)).toList == [46]) = true := by rw [bs_toList]; rfl
          go_wp2
          go_roundw
          case rel => exact ⟨k + 1, by go_num, by omega, by rw [HT.out, stepP, if_pos (.inr rfl)]; exact HO.out, HBW.out⟩
          case measure => simp [intOf]; omega
        have hem : (bs x).toList.isEmpty = false := by rw [bs_toList]; cases x; exact absurd rfl e1; rfl
        have h46 : ((bs x).toList == [46]) = false := by rw [bs_toList]; simpa using e2
        by_cases e3 : x = [46, 46]
        · subst e3
          have h4646 : ((bs ([46, 46] : T)).toList == [46, 46]) = true := by rw [bs_toList]; rfl
          obtain ⟨A2, c2, rfl, hc2, hs2, _⟩ := HO.out.slice
          rw [List.length_map] at hc2 HO ⊢
          have hdl : (Q.dropLast.map bs) = (Q.map bs).take (Q.length - 1) := by rw [List.dropLast_eq_take, List.map_take]
          have HO2 := hide (HO.out.take (k := Q.length - 1) (by simp))
          rw [← hdl] at HO2
          clear hs2 hdl
          obtain ⟨m, hm⟩ : ∃ m, Q.length = m := ⟨_, rfl⟩
          rw [hm] at hc2 HO HO2 hql ⊢
          clear hm HO
          cases m with
          | zero =>
            go_wp2
            go_roundw
            case rel => exact ⟨k + 1, by go_num, by omega, by rw [HT.out, stepP, if_neg (by simp), if_pos rfl]; exact HO2.out, HBW.out⟩
            case measure => simp [intOf]; omega
          | succ m =>
            have hm1 : (m : Int) ≤ 19800000 := by omega
            have hm2 : max (0 : Int) (m : Int) = m := by omega
            go_wp2
            go_roundw
            case rel => exact ⟨k + 1, by go_num, by omega, by rw [HT.out, stepP, if_neg (by simp), if_pos rfl]; exact HO2.out, HBW.out⟩
            case measure => simp [intOf]; omega
        · have h4646 : ((bs x).toList == [46, 46]) = false := by rw [bs_toList]; simpa using e3
          have hb0 : W.heap.size ≤ wr.heap.size := HBW.out.size
          obtain ⟨v4, w4, r4, o4, g4, b4⟩ := run_appS (c := 1) (OwnS.alloc HO.out (.cells #[.string (bs x)] 9)) (sr_new wr (bs x)) (by simp; omega) (by simp; omega)
          have HO4 := hide o4
          have HB4 := hide ((HBW.out.alloc hb0 (.cells #[.string (bs x)] 9)).trans ((Below.refl W.heap.size _).grown g4 (by simp; omega) (fun q hq => (World.ownsRow.lt HO.out q hq).1)))
          clear o4 g4 b4
          go_wp2_with (at_builtin; refine wpList_app_run ?_ (.tmp 25) (.tmp 27) ?_ ?_ ?_ ?_ r4 ?_; exact rfl; exact rfl; exact rfl; exact rfl; exact rfl)
          go_roundw
          case rel => exact ⟨k + 1, by go_num, by omega, by rw [HT.out, stepP, if_neg (by simp [e1, e2]), if_neg e3, List.map_append]; exact HO4.out, HB4.out⟩
          case measure => simp [intOf]; omega
      · obtain rfl : k = n := by omega
        have HF := hide (show (M.take k).foldl stepP [] = R by rw [List.take_of_length_le (by have := HML.out; omega)]; exact HFL.out)
        rw [HF.out] at HO
        go_wp2
        go_ret
        refine ⟨⟨_, rfl, ?_⟩, below_up HB.out HBW.out HB.out.size⟩
        rw [HRR.out]
        exact HO.out.base HB.out.size
end Go.Proofs.YtaajofojbhdgaaaGreatDoor
namespace Go.Proofs.YtaajofojbhdgaaaGreatDoor
open Go.RowKit Go.Deep Ln Pth
attribute [local go_sem] bt_eq

theorem join_slashed : ∀ l : List T, 47 :: Lib.join l [47] = joinF l
  | [] => rfl
  | s :: l => by
    rw [joinF, if_neg (by simp)]
    induction l generalizing s with
    | nil => rw [Lib.join_one]; simp [slashed]
    | cons t l ih =>
      have := ih t
      rw [slashed_cons' , ← this]
      simp [Lib.join, List.intercalate]
where
  slashed_cons' {s : T} {r : List T} : slashed (s :: r) = 47 :: (s ++ slashed r) := by simp [slashed]
set_option maxRecDepth 100000 in
set_option maxHeartbeats 400000 in
theorem pjoin_any (A : Option Addr) (c : Nat) (l : List T) (w : World) (hA : SR w A (l.map bs)) (hc : l.length ≤ c) (hn : l.length ≤ 66000000) (hl : (joinF l).length ≤ 66000000) :
    Calls Tryz.prog 133 #[.slice A l.length c] w fun e w' => e = .returned (.string (bs (joinF l))) ∧ Below w.heap.size w w' := by
  have hjl : (Lib.join l [47]).length ≤ 66000000 := by
    have := join_slashed l
    have h2 := congrArg List.length this
    simp only [List.length_cons] at h2
    omega
  have HJ : Hid (Calls Tryz.prog 165 #[.slice A l.length c, .string ⟨#[47]⟩] w fun e w' => e = .returned (.string (bs (Lib.join l [47]))) ∧ Below w.heap.size w w') := by
    cases l with
    | nil => exact hide ((Tryz.strings_Join_none A c ⟨#[47]⟩ w).mono fun e w' ⟨h1, h2⟩ => ⟨h1, h2 ▸ Below.refl _ _⟩)
    | cons s l =>
      obtain ⟨g, o, rfl, hg, _⟩ := hA 0 (bs s) rfl
      have hm : ((s :: l).map bs).map (·.data.toList) = s :: l := by
        rw [List.map_map]
        conv => rhs; rw [← List.map_id (s :: l)]
        apply List.map_congr_left
        intro x _
        exact bs_list x
      have := Tryz.strings_Join g o c ((s :: l).map bs) ⟨#[47]⟩ w (fun j x hj => by
        obtain ⟨g', o', e, _, hc'⟩ := hA j x hj
        injection e with e
        injection e with e1 e2
        subst e1 e2
        exact hc') hg (by rw [List.length_map]; omega) (by rw [List.length_map]; exact hc) (by rw [hm]; show (Lib.join (s :: l) [47]).length ≤ _; omega)
      rw [hm, List.length_map] at this
      exact hide this
  have HE := hide (show (⟨#[47]⟩ : ByteArray) ++ bs (Lib.join l [47]) = bs (joinF l) by rw [← join_slashed l]; exact bs_app [47] _)
  have z1 : (bs (Lib.join l [47])).size ≤ 66000000 := by rw [bs_size]; exact hjl
  generalize bs (Lib.join l [47]) = s1 at HJ HE z1
  generalize bs (joinF l) = s2 at HE ⊢
  obtain ⟨n, hn⟩ : ∃ n, l.length = n := ⟨_, rfl⟩
  rw [hn] at HJ ⊢
  clear hA hc hl hjl hn
  go_enter Tryz.func133, Tryz.ntmps133
  go_wp2_with fail
  refine HJ.out.mono ?_
  rintro e w' ⟨rfl, hb⟩
  have HB := hide hb
  clear hb
  go_wp2
  go_ret
  refine ⟨?_, HB.out⟩
  rw [← HE.out]
  rfl
theorem has0_any (l : T) (w : World) : Calls Tryz.prog 48 #[.string (bs l), .string ⟨#[0]⟩] w fun e w' => e = .returned (.bool (decide (0 ∈ l))) ∧ w = w' := by
  have := Tryz.strings_Contains_one (bs l) 0 w
  rw [bs_list, show decide (0 ≤ Lib.indexByte l 0) = decide ((0 : UInt8) ∈ l) from decide_eq_decide.2 (ixb_mem 0 l)] at this
  exact this.mono fun e w' ⟨h1, h2⟩ => ⟨h1, h2.symm⟩
set_option maxRecDepth 100000 in
theorem abs1_any (s : ByteArray) (w : World) (h : s.size ≤ 9223372036854775807) : Calls Tryz.prog 132 #[.string s] w fun e w' => e = .returned (.bool (decide (60 < s.size))) ∧ w = w' := by
  have h1 : (s.size : Int) ≤ 9223372036854775807 := by omega
  by_cases hs : 60 < s.size
  · have h2 : (60 : Int) < (s.size : Int) := by omega
    rw [decide_eq_true hs]
    clear hs
    go_enter Tryz.func132, Tryz.ntmps132
    go_wp2
    go_ret
    exact ⟨rfl, rfl⟩
  · have h2 : decide (60 < (s.size : Int)) = false := by simp; omega
    rw [decide_eq_false hs]
    clear hs
    go_enter Tryz.func132, Tryz.ntmps132
    go_wp2
    go_ret
    exact ⟨rfl, rfl⟩
/-- what Abs tells -/
def AbsPost (a : T × Nat) (w : World) (e : Ending) (w' : World) : Prop := e = .returned (.tuple #[.string (bs a.1), .int .i64 a.2]) ∧ Below w.heap.size w w'
set_option maxRecDepth 100000 in
set_option maxHeartbeats 1000000 in
theorem abs_any (cwd p : T) (w : World) (hm : MX w) (h1 : cwd.length ≤ 6600000) (h2 : p.length ≤ 6600000) :
    Calls Tryz.prog 97 #[.string (bs cwd), .string (bs p)] w (AbsPost (absF cwd p) w) := by
  have HC0 := hide (fun W => has0_any cwd W)
  have HP0 := hide (fun W => has0_any p W)
  have HPA := hide (fun W h => parts_any cwd p W h h1 h2)
  have HM := hide hm
  clear hm
  by_cases c1 : p = []
  · subst c1
    have hem : (bs ([] : T)).toList.isEmpty = true := by rw [bs_toList]; rfl
    have HR := hide (show absF cwd [] = ([], 1) from if_pos (.inl rfl))
    go_enter Tryz.func97, Tryz.ntmps97
    go_wp2
    go_ret2
    unfold AbsPost
    rw [HR.out]
    exact ⟨rfl, Below.refl _ _⟩
  have hem : (bs p).toList.isEmpty = false := by rw [bs_toList]; cases p; exact absurd rfl c1; rfl
  by_cases c2 : 0 ∈ cwd
  · rw [decide_eq_true c2] at HC0
    have HR := hide (show absF cwd p = ([], 1) from if_pos (.inr (.inl c2)))
    clear c2
    go_enter Tryz.func97, Tryz.ntmps97
    go_wp2_with fail
    refine (HC0.out _).mono ?_
    rintro e w' ⟨rfl, rfl⟩
    go_wp2
    go_ret2
    unfold AbsPost
    rw [HR.out]
    exact ⟨rfl, Below.refl _ _⟩
  rw [decide_eq_false c2] at HC0
  by_cases c3 : 0 ∈ p
  · rw [decide_eq_true c3] at HP0
    have HR := hide (show absF cwd p = ([], 1) from if_pos (.inr (.inr c3)))
    clear c3 c2
    go_enter Tryz.func97, Tryz.ntmps97
    go_wp2_with fail
    refine (HC0.out _).mono ?_
    rintro e w' ⟨rfl, rfl⟩
    go_wp2_with fail
    refine (HP0.out _).mono ?_
    rintro e w' ⟨rfl, rfl⟩
    go_wp2
    go_ret2
    unfold AbsPost
    rw [HR.out]
    exact ⟨rfl, Below.refl _ _⟩
  rw [decide_eq_false c3] at HP0
  have hR : absF cwd p = if longF (partsF cwd p) = false ∧ (partsF cwd p).length ≤ 20 ∧ (joinF (partsF cwd p)).length ≤ 200 then (joinF (partsF cwd p), 0) else ([], 3) := by
    unfold absF
    rw [if_neg (by rintro (h | h | h); exact c1 h; exact c2 h; exact c3 h)]
  have hpl := partsF_len cwd p
  have hjl := joinF_len cwd p
  obtain ⟨L, hL⟩ : ∃ L, partsF cwd p = L := ⟨_, rfl⟩
  rw [hL] at hR HPA hpl hjl
  have HR := hide hR
  clear c1 c2 c3 hL hR
  go_enter Tryz.func97, Tryz.ntmps97
  go_wp2_with fail
  refine (HC0.out _).mono ?_
  rintro e w' ⟨rfl, rfl⟩
  go_wp2_with fail
  refine (HP0.out _).mono ?_
  rintro e w' ⟨rfl, rfl⟩
  go_wp2_with fail
  refine (HPA.out w HM.out).mono ?_
  rintro e w1 ⟨⟨v, rfl, ho⟩, hb1⟩
  obtain ⟨A, c, rfl, hc, hsr, _⟩ := OwnS.slice ho
  have HA := hide hsr
  have HB1 := hide hb1
  rw [List.length_map] at hc ⊢
  have hln : L.any (fun s => decide (60 < s.length)) = longF L := rfl
  have HCF := hide (contf_any (fun s => decide (60 < s.size)) 132 #[] (fun _ _ => by kernel_rfl) A c (L.map bs) w1 (by rw [List.length_map]; omega) HA.out (fun W x hx hb => by
    obtain ⟨y, hy, rfl⟩ := List.mem_map.1 hx
    refine (abs1_any (bs y) W (by rw [bs_size]; have := hjl.2 y hy; omega)).mono ?_
    rintro e w' ⟨h1, rfl⟩
    exact ⟨h1, hb⟩))
  have hany : (L.map bs).any (fun s => decide (60 < s.size)) = longF L := by
    unfold longF
    rw [List.any_map]
    congr 1
  rw [hany, List.length_map] at HCF
  clear hany hln ho hb1 hsr
  have HPJ := hide (fun W (h : Below w1.heap.size w1 W) => pjoin_any A c L W (HA.out.below h) hc (by omega) (by omega))
  obtain ⟨n, hn⟩ : ∃ n, L.length = n := ⟨_, rfl⟩
  have zj : (bs (joinF L)).size = (joinF L).length := bs_size _
  obtain ⟨J, hJ⟩ : ∃ J, joinF L = J := ⟨_, rfl⟩
  obtain ⟨lg, hlg⟩ : ∃ b, longF L = b := ⟨_, rfl⟩
  obtain ⟨sj, hsj⟩ : ∃ s, bs J = s := ⟨_, rfl⟩
  obtain ⟨jn, hjn⟩ : ∃ s, J.length = s := ⟨_, rfl⟩
  rw [hJ, hjn, hsj] at zj
  rw [hJ, hjn] at hjl
  rw [hn] at HPJ HCF hpl ⊢
  rw [hJ, hsj] at HPJ
  rw [hlg] at HCF
  have hR := HR.out
  rw [hJ, hn, hlg, hjn] at hR
  have HRR := hide hR
  have HSJ := hide hsj
  have hjl1 := hjl.1
  clear hR HR hJ hlg hsj hjn hn hjl hc
  have hn1 : (n : Int) ≤ 19800000 := by omega
  go_wp2_with fail
  refine HCF.out.mono ?_
  rintro e w2 ⟨rfl, hb2⟩
  have HB2 := hide (below_up HB1.out hb2 HB1.out.size)
  have HBJ := hide hb2
  clear hb2
  go_wp2_with fail
  refine (HPJ.out w2 HBJ.out).mono ?_
  rintro e w3 ⟨rfl, hb3⟩
  have HB3 := hide (below_up HB2.out hb3 HB2.out.size)
  clear hb3
  cases lg with
  | true =>
    have HE := hide (show absF cwd p = ([], 3) by rw [HRR.out, if_neg (by simp)])
    go_wp2
    go_ret2
    unfold AbsPost
    rw [HE.out]
    exact ⟨rfl, HB3.out⟩
  | false =>
    by_cases d1 : n ≤ 20
    · by_cases d2 : jn ≤ 200
      · have HE := hide (show absF cwd p = (J, 0) by rw [HRR.out, if_pos ⟨rfl, d1, d2⟩])
        have e1 : (n : Int) ≤ 20 := by omega
        have e2 : (jn : Int) ≤ 200 := by omega
        go_wp2
        go_ret2
        unfold AbsPost
        rw [HE.out, HSJ.out]
        exact ⟨rfl, HB3.out⟩
      · have HE := hide (show absF cwd p = ([], 3) by rw [HRR.out, if_neg (by rintro ⟨_, _, h⟩; exact d2 h)])
        have e1 : (n : Int) ≤ 20 := by omega
        have e2 : decide ((jn : Int) ≤ 200) = false := by simp; omega
        go_wp2
        go_ret2
        unfold AbsPost
        rw [HE.out]
        exact ⟨rfl, HB3.out⟩
    · have HE := hide (show absF cwd p = ([], 3) by rw [HRR.out, if_neg (by rintro ⟨_, h, _⟩; exact d1 h)])
      have e1 : decide ((n : Int) ≤ 20) = false := by simp; omega
      go_wp2
      go_ret2
      unfold AbsPost
      rw [HE.out]
      exact ⟨rfl, HB3.out⟩
end Go.Proofs.YtaajofojbhdgaaaGreatDoor
namespace Go.Proofs.YtaajofojbhdgaaaGreatDoor
open Go.RowKit Go.Deep Ln Pth
set_option linter.unusedSimpArgs false
set_option linter.unusedVariables false
attribute [local go_sem] bt_eq

theorem map_bsI {a b : List T} : a.map bs = b.map bs ↔ a = b := by
  constructor
  · intro h
    have := congrArg (List.map (fun s : ByteArray => s.data.toList)) h
    simpa [List.map_map, Function.comp_def, bs_list] using this
  · rintro rfl; rfl
/-- slices.Equal of two rows of texts -/
theorem seq_any (A B : Option Addr) (c d : Nat) (xs ys : List ByteArray) (w : World) (h1 : SR w A xs) (h2 : SR w B ys) (hx : xs.length ≤ 1000000) (hy : ys.length ≤ 1000000) :
    Calls Tryz.prog 166 #[.slice A xs.length c, .slice B ys.length d] w fun e w' => e = .returned (.bool (decide (xs = ys))) ∧ Below w.heap.size w w' := by
  by_cases hl : xs.length = ys.length
  case neg =>
    refine (Tryz.slices_Equal_string_lens A B xs.length c ys.length d w hl).mono ?_
    rintro e w' ⟨rfl, rfl⟩
    rw [decide_eq_false (fun e => hl (by rw [e]))]
    exact ⟨rfl, Below.refl _ _⟩
  by_cases h0 : xs = []
  · subst h0
    have : ys = [] := List.eq_nil_of_length_eq_zero (by rw [← hl]; rfl)
    subst this
    refine (Tryz.slices_Equal_string_empty A B c 0 d w (by omega)).mono ?_
    rintro e w' ⟨rfl, rfl⟩
    exact ⟨rfl, Below.refl _ _⟩
  · have h0y : ys ≠ [] := fun e => h0 (List.eq_nil_of_length_eq_zero (by rw [hl, e]; rfl))
    obtain ⟨g1, o1, rfl, _, _⟩ := h1 0 _ (List.getElem?_eq_getElem (List.length_pos_iff.2 h0))
    obtain ⟨g2, o2, rfl, _, _⟩ := h2 0 _ (List.getElem?_eq_getElem (List.length_pos_iff.2 h0y))
    refine (Tryz.slices_Equal_string g1 o1 xs.length c g2 o2 ys.length d xs ys w (Nat.le_refl _) (Nat.le_refl _) (by omega) (by omega) (fun j hj => ?_) (fun j hj => ?_)).mono ?_
    · obtain ⟨g, o, e, _, h⟩ := h1 j _ (List.getElem?_eq_getElem hj)
      injection e with e
      injection e with e1 e2
      subst e1 e2
      rw [h, List.getD_eq_getElem?_getD, List.getElem?_eq_getElem hj]
      rfl
    · obtain ⟨g, o, e, _, h⟩ := h2 j _ (List.getElem?_eq_getElem hj)
      injection e with e
      injection e with e1 e2
      subst e1 e2
      rw [h, List.getD_eq_getElem?_getD, List.getElem?_eq_getElem hj]
      rfl
    · rintro e w' ⟨rfl, q, rfl⟩
      rw [List.take_length, List.take_length]
      exact ⟨rfl, below_drewN (Below.refl _ _) q⟩
set_option maxRecDepth 100000 in
set_option maxHeartbeats 1000000 in
theorem within_any (p q : T) (w : World) (hm : MX w) (h1 : p.length ≤ 90000) (h2 : q.length ≤ 90000) :
    Calls Tryz.prog 134 #[.string (bs p), .string (bs q)] w fun e w' => e = .returned (.bool (withinF p q)) ∧ Below w.heap.size w w' := by
  have HPA := hide (parts_any [47] p w hm (by simp) (by omega))
  have HQA := hide (fun W (hb : Below w.heap.size w W) => parts_any [47] q W (hm.below hb) (by simp) (by omega))
  rw [show bs [47] = ⟨#[47]⟩ from rfl] at HPA HQA
  have hpl := partsF_len [47] p
  have hql := partsF_len [47] q
  have hD : withinF p q = decide ((partsF [47] q).take (partsF [47] p).length = partsF [47] p) := rfl
  obtain ⟨L, hL⟩ : ∃ L, partsF [47] p = L := ⟨_, rfl⟩
  obtain ⟨M, hM⟩ : ∃ L, partsF [47] q = L := ⟨_, rfl⟩
  rw [hL] at HPA hpl hD
  rw [hM] at HQA hql hD
  have HD := hide hD
  clear hL hM hD
  go_enter Tryz.func134, Tryz.ntmps134
  go_wp2_with fail
  refine HPA.out.mono ?_
  rintro e w1 ⟨⟨v, rfl, ho⟩, hb1⟩
  obtain ⟨A, c, rfl, hc, hsr, _⟩ := OwnS.slice ho
  have HA := hide hsr
  have HB1 := hide hb1
  clear ho hb1 hsr
  go_wp2_with fail
  refine (HQA.out w1 HB1.out).mono ?_
  rintro e w2 ⟨⟨v, rfl, ho⟩, hb2⟩
  obtain ⟨B, d, rfl, hd, hsr, _⟩ := OwnS.slice ho
  have HA2 := hide (HA.out.below hb2)
  have HB2 := hide (below_up HB1.out hb2 HB1.out.size)
  have HM2 := hide hsr
  clear ho hb2 hsr
  rw [List.length_map] at hc hd ⊢
  (try rw [List.length_map])
  have hpl2 : L.length ≤ 100000 := by simp at hpl; omega
  have hql2 : M.length ≤ 100000 := by simp at hql; omega
  obtain ⟨n, hn⟩ : ∃ n, L.length = n := ⟨_, rfl⟩
  obtain ⟨m, hmm⟩ : ∃ n, M.length = n := ⟨_, rfl⟩
  have HN := hide hn
  have HMM := hide hmm
  rw [hn] at hc hpl2 ⊢
  rw [hmm] at hd hql2 ⊢
  clear hn hmm hpl hql
  by_cases h0 : n ≤ m
  · have d0 : decide ((n : Int) ≤ (m : Int)) = true := by simp; omega
    have d0' : decide (n ≤ m) = true := by simp; omega
    have hni : (n : Int) ≤ (d : Int) := by omega
    have hni2 : (n : Int) ≤ 100000 := by omega
    have hnn : (0 : Int) ≤ (n : Int) := by omega
    have hwr2 : IntKind.i64.wrap (n : Int) = (n : Int) := IntWalk.i64_in _ (by omega)
    have hsm := seq_any A B c d (L.map bs) ((M.take n).map bs) w2 HA2.out (by rw [List.map_take]; exact HM2.out.take n) (by rw [List.length_map, HN.out]; omega) (by rw [List.length_map, List.length_take]; omega)
    rw [show ((M.take n).map bs).length = n by rw [List.length_map, List.length_take, HMM.out]; omega, show (L.map bs).length = n by rw [List.length_map, HN.out], show decide (L.map bs = (M.take n).map bs) = withinF p q by
      rw [HD.out, HN.out]
      exact decide_eq_decide.2 (map_bsI.trans eq_comm)] at hsm
    have HSM := hide hsm
    clear hsm h0
    go_wp2_with fail
    refine HSM.out.mono ?_
    rintro e w3 ⟨rfl, hb3⟩
    have HB3 := hide (below_up HB2.out hb3 HB2.out.size)
    clear hb3
    go_wp2
    go_ret
    exact ⟨rfl, HB3.out⟩
  · have d0 : decide ((n : Int) ≤ (m : Int)) = false := by simp; omega
    have d0' : decide (n ≤ m) = false := by simp; omega
    have HE := hide (show withinF p q = false by
      rw [HD.out, decide_eq_false]
      intro h
      have := congrArg List.length h
      rw [List.length_take, HN.out, HMM.out] at this
      omega)
    clear h0
    go_wp2
    go_ret
    rw [HE.out]
    exact ⟨rfl, HB2.out⟩
end Go.Proofs.YtaajofojbhdgaaaGreatDoor
/- A text's bytes as a row of the call's own. -/
namespace Go.Proofs.YtaajofojbhdgaaaGreatDoor
open Go.RowKit

theorem conv_SB (w : World) (l : List UInt8) (hl : l.length ≤ 1000000) : ∃ c w', (convert 9 66 (.string (bs l))).run Tryz.prog w = .ok (.slice (some ⟨w.heap.size, 0, none⟩) l.length c) w' ∧ RG encB 1 w' (some ⟨w.heap.size, 0, none⟩) l ∧ Below w.heap.size w w' ∧ l.length ≤ c ∧ c ≤ 9223372036854775807 ∧ w.heap.size < w'.heap.size := by
  have h := run_bytes_of_string (P := Tryz.prog) w 9 66 5 (bs l) Tryz.underlying9 Tryz.underlying66 Tryz.underlying5
  have h1 := grownCap_ge w (bs l).size 0 5
  have h2 := grownCap_le_maxLen w (bs l).size 0 5 (by rw [bs_size]; unfold maxLen; omega)
  rw [bs_size] at h h1 h2
  generalize grownCap w l.length 0 5 = C at h h1 h2
  refine ⟨C, _, h, ?_, ?_, h1, by unfold maxLen at h2; omega, by simp⟩
  · intro k x hk
    have hkl := (List.getElem?_eq_some_iff.1 hk).1
    refine ⟨_, _, rfl, by simp, fun j u hj => ?_⟩
    cases j with
    | succ j => simp [encB] at hj
    | zero =>
      have hu : u = .int .u8 x.toNat := by simpa [encB] using hj.symm
      have hx : (bs l).data[k]'(by simpa [bs] using hkl) = x := by
        have := (List.getElem?_eq_some_iff.1 hk).2
        simpa [bs] using this
      have hb := bytesRow_at (bs l) C k (by simpa [bs] using hkl)
      rw [hx] at hb
      rw [hu]
      have hp := heapNewO w.drew (.cells (bytesRow (bs l) C) 5 ((bytesRow (bs l) C).size, (bytesRow (bs l) C).size + 1))
      unfold World.cell?
      rw [show (w.drew).heap.size = w.heap.size from rfl] at hp
      simp only [hp, Nat.zero_add, Nat.mul_one, Nat.add_zero]
      exact hb
  · exact (Below.refl _ _).drew.alloc (Nat.le_refl _) _
where
  heapNewO (w : World) (o : Obj) : (w.alloc o).heap[w.heap.size]? = some o := by
    show (w.heap.push o)[w.heap.size]? = some o
    simp
end Go.Proofs.YtaajofojbhdgaaaGreatDoor
/- Walks of the file system's kind and way. Walks of the file system's abs, found, Kind, Time, room and New. Walks of the file system's room and put. -/
namespace Go.Proofs.YtaajofojbhdgaaaGreatDoor
open Go.RowKit Go.Deep Go.Maps Ln Pth Vf
attribute [local go_sem] bt_eq

set_option maxRecDepth 100000 in
set_option maxHeartbeats 1000000 in
theorem kind_any (g : Nat) (S : St) (q : T) (w : World) (h : Hs (VS g S) w) (hq : q.length ≤ 100000) :
    Calls Tryz.prog 69 #[.pointer (some ⟨g, 0, none⟩), .string (bs q)] w fun e w' => e = .returned (.int .i64 (kindM S.m q)) ∧ Below w.heap.size w w' := by
  obtain ⟨b, P, hgb, hg, hm, hS, _⟩ := VS.opn h
  have hl := nlook hm (s := bs q) (by rw [bs_size]; omega)
  have hc0 := cellOf hg (j := 0) rfl
  have hk : kindM S.m q = if q = [47] then 2 else match getG P (bs q) with
      | none => 0
      | some e => if e.nd.dir = true then 2 else 1 := by
    unfold kindM
    rw [hS, strip_get]
    cases getG P (bs q) <;> rfl
  clear h hg hm hS
  by_cases h1 : q = [47]
  · have ht : ((bs q).toList == [47]) = true := by rw [bs_toList, h1]; rfl
    rw [if_pos h1] at hk
    have HK := hide hk
    clear hk h1
    cases hgp : getG P (bs q) with
    | none =>
      rw [hgp] at hl
      unfold valN zN at hl
      clear hgp
      simp only [Option.isSome_none] at hl
      go_enter Tryz.func69, Tryz.ntmps69
      go_wp2
      go_ret
      refine ⟨?_, (Below.refl _ _).alloc (Nat.le_refl _) _⟩
      rw [HK.out]; rfl
    | some e =>
      rw [hgp] at hl
      unfold valN encN at hl
      clear hgp
      simp only [Option.isSome_some] at hl
      go_enter Tryz.func69, Tryz.ntmps69
      go_wp2
      go_ret
      refine ⟨?_, (Below.refl _ _).alloc (Nat.le_refl _) _⟩
      rw [HK.out]; rfl
  · have ht : ((bs q).toList == [47]) = false := by rw [bs_toList]; simpa using h1
    rw [if_neg h1] at hk
    clear h1
    cases hgp : getG P (bs q) with
    | none =>
      rw [hgp] at hl hk
      unfold valN zN at hl
      have HK := hide hk
      clear hgp hk
      simp only [Option.isSome_none] at hl
      go_enter Tryz.func69, Tryz.ntmps69
      go_wp2
      go_ret
      refine ⟨?_, (Below.refl _ _).alloc (Nat.le_refl _) _⟩
      rw [HK.out]; rfl
    | some e =>
      rw [hgp] at hl hk
      unfold valN encN at hl
      clear hgp
      simp only [Option.isSome_some] at hl hk
      obtain ⟨db, hdb⟩ : ∃ d, e.nd.dir = d := ⟨_, rfl⟩
      rw [hdb] at hl hk
      have HK := hide hk
      clear hk hdb
      cases db with
      | true =>
        go_enter Tryz.func69, Tryz.ntmps69
        go_wp2
        go_ret
        refine ⟨?_, (Below.refl _ _).alloc (Nat.le_refl _) _⟩
        rw [HK.out]; rfl
      | false =>
        go_enter Tryz.func69, Tryz.ntmps69
        go_wp2
        go_ret
        refine ⟨?_, (Below.refl _ _).alloc (Nat.le_refl _) _⟩
        rw [HK.out]; rfl
set_option maxRecDepth 100000 in
set_option maxHeartbeats 1000000 in
theorem way_any (g : Nat) (S : St) (q : T) (w : World) (h : Hs (VS g S) w) (hq : q.length ≤ 100000) :
    Calls Tryz.prog 110 #[.pointer (some ⟨g, 0, none⟩), .string (bs q)] w fun e w' => e = .returned (.int .i64 (wayM S.m q)) ∧ Below w.heap.size w w' := by
  have H := hide h
  clear h
  have HK := hide (fun k W (hb : Below w.heap.size w W) => kind_any g S (q.take k) W (H.out.below (VS.fr g S) hb) (by rw [List.length_take]; omega))
  obtain ⟨R, hR⟩ : ∃ R, wayM S.m q = R := ⟨_, rfl⟩
  have HR := hide hR
  rw [hR]
  clear hR
  have hz : (bs q).size = q.length := bs_size q
  obtain ⟨n, hn⟩ : ∃ n, q.length = n := ⟨_, rfl⟩
  have HN := hide hn
  rw [hn] at hq hz
  clear hn
  have hn1 : (n : Int) ≤ 100000 := by omega
  obtain ⟨cp, W, hcv, hrg, hbw, hcp, hcp2, hsz⟩ := conv_SB w q (by rw [HN.out]; omega)
  rw [HN.out] at hcv hcp
  have HRG := hide hrg
  have HBW := hide hbw
  clear hrg hbw hcp hcp2
  go_enter Tryz.func110, Tryz.ntmps110
  go_wp2
  go_loopw [10] (fun v10 wr => ∃ k : Nat, v10 = .int .i64 k ∧ k ≤ n ∧ Hid (wayB S.m q (n - k) k = R) ∧ Below W.heap.size W wr) (fun v10 _ => n - (intOf v10).toNat)
  case atStart => exact ⟨0, rfl, by omega, by have := HR.out; unfold wayM at this; rwa [HN.out] at this, Below.refl _ _⟩
  case round =>
    obtain ⟨k, rfl, hk, HWB, hb⟩ := hrel
    have HB := hide hb
    have HBR := hide (below_up HBW.out hb HBW.out.size)
    have HRR := hide (HRG.out.below hb)
    clear hb
    by_cases hlt : k < n
    · obtain ⟨x, hx⟩ : ∃ x, q[k]? = some x := ⟨q[k]'(by have := HN.out; omega), List.getElem?_eq_getElem _⟩
      obtain ⟨gs, o, e, hg, hc⟩ := HRR.out k x hx
      injection e with e
      injection e with e1 e2
      subst e1 e2
      have hc1 : wr.cell? ⟨w.heap.size, 0 + k, none⟩ = some (.int .u8 x.toNat) := by
        have := hc 0 _ rfl
        simpa using this
      rw [Nat.zero_add] at hc1
      clear hc
      have b1 : (k : Int) < (n : Int) := by omega
      have hstep : wayB S.m q (n - k) k = if q.getD k 0 ≠ 47 ∨ k = 0 then wayB S.m q (n - (k + 1)) (k + 1) else if kindM S.m (q.take k) = 0 then 6 else if kindM S.m (q.take k) = 1 then 11 else wayB S.m q (n - (k + 1)) (k + 1) := by
        rw [show n - k = (n - (k + 1)) + 1 by omega, wayB, if_neg (by have := HN.out; omega)]
      have hxg : q.getD k 0 = x := by simp [hx]
      rw [hxg, HWB.out] at hstep
      have HST := hide hstep
      clear hx hxg hstep HWB
      have hx256 : x.toNat < 256 := x.toNat_lt
      by_cases e1 : x = 47
      · have hx47 : ((x.toNat : Int) == 47) = true := by rw [e1]; rfl
        have hx47' : ((x.toNat : Int) != 47) = false := by rw [e1]; rfl
        by_cases e2 : k = 0
        · subst e2
          have HN2 := hide (show wayB S.m q (n - (0 + 1)) (0 + 1) = R by rw [HST.out, if_pos (.inr rfl)])
          clear HST
          go_wp2
          go_roundw
          case rel => exact ⟨1, by go_num, by omega, HN2.out, HB.out⟩
          case measure => simp [intOf]; omega
        · have hk0 : ((k : Int) == 0) = false := by simpa using e2
          have HEX := hide (show (bs q).extract 0 k = bs (q.take k) by rw [ext_bs]; simp)
          have HKK := hide (HK.out k wr HBR.out)
          have hst := HST.out
          rw [if_neg (by rintro (h | h); exact h e1; exact e2 h)] at hst
          have HS2 := hide hst
          obtain ⟨kk, hkk⟩ : ∃ kk, kindM S.m (q.take k) = kk := ⟨_, rfl⟩
          rw [hkk] at HKK HS2
          clear hst HST hkk
          rw [← HEX.out] at HKK
          go_wp2_with fail
          refine HKK.out.mono ?_
          rintro e w' ⟨rfl, hb'⟩
          have HB' := hide (below_up HB.out hb' HB.out.size)
          have HBR' := hide (below_up HBR.out hb' HBR.out.size)
          clear hb'
          by_cases k0 : kk = 0
          · subst k0
            have HF := hide (show R = 6 by rw [HS2.out, if_pos rfl])
            go_wp2
            go_ret
            refine ⟨?_, HBR'.out⟩
            rw [HF.out]
            rfl
          by_cases k1 : kk = 1
          · subst k1
            have HF := hide (show R = 11 by rw [HS2.out]; rfl)
            go_wp2
            go_ret
            refine ⟨?_, HBR'.out⟩
            rw [HF.out]
            rfl
          have k0' : ((kk : Int) == 0) = false := by simp; omega
          have k1' : ((kk : Int) == 1) = false := by simp; omega
          have HF := hide (show wayB S.m q (n - (k + 1)) (k + 1) = R by rw [HS2.out, if_neg k0, if_neg k1])
          clear HS2 k0 k1
          go_wp2
          go_roundw
          case rel => exact ⟨k + 1, by go_num, by omega, HF.out, HB'.out⟩
          case measure => simp [intOf]; omega
      · have hx47 : ((x.toNat : Int) == 47) = false := by
          simp only [beq_eq_false_iff_ne]
          intro h
          apply e1
          have h2 : x.toNat = (47 : UInt8).toNat := by have : (47 : UInt8).toNat = 47 := rfl; omega
          exact UInt8.toNat_inj.1 h2
        have hx47' : ((x.toNat : Int) != 47) = true := by simpa using hx47
        have HN2 := hide (show wayB S.m q (n - (k + 1)) (k + 1) = R by rw [HST.out, if_pos (.inl e1)])
        clear HST e1
        go_wp2
        go_roundw
        case rel => exact ⟨k + 1, by go_num, by omega, HN2.out, HB.out⟩
        case measure => simp [intOf]; omega
    · obtain rfl : k = n := by omega
      have HE := hide (show (0 : Nat) = R by rw [← HWB.out, Nat.sub_self]; rfl)
      go_wp2
      go_ret
      refine ⟨?_, HBR.out⟩
      rw [← HE.out]
      rfl
end Go.Proofs.YtaajofojbhdgaaaGreatDoor
namespace Go.Proofs.YtaajofojbhdgaaaGreatDoor
open Go.RowKit Go.Deep Go.Maps Ln Pth Vf
attribute [local go_sem] bt_eq

theorem absF_len (p : T) : (absF [47] p).1.length ≤ 200 := by
  rcases absF_cases [47] p with ⟨l, g, e, _⟩ | ⟨e, _⟩
  · rw [e]; exact g.len
  · rw [e]; simp
theorem absS_len (S : St) (p : T) : (absS S p).1.length ≤ 200 := by
  unfold absS
  split
  · simp
  · split
    · simp
    · exact absF_len p
theorem fld0 (x y z : Value) (w : World) : (Instr.field 115 (.agg #[x, y, z]) 0).run Tryz.prog w = .ok x w := by kernel_rfl
theorem fld1 (x y z : Value) (w : World) : (Instr.field 115 (.agg #[x, y, z]) 1).run Tryz.prog w = .ok y w := by kernel_rfl
theorem fld2 (x y z : Value) (w : World) : (Instr.field 115 (.agg #[x, y, z]) 2).run Tryz.prog w = .ok z w := by kernel_rfl
theorem mkMap (w : World) : (Instr.makeMap 97 none).run Tryz.prog w = .ok (.map (some w.heap.size)) (w.alloc (.map #[] 0)) := by kernel_rfl
attribute [local go_sem] fld0 fld1 fld2 mkMap
theorem ne0 {n : Nat} (h : n ≠ 0) : ((n : Int) != 0) = true ∧ ((n : Int) == 0) = false := by
  constructor
  · simpa using h
  · simpa using h
set_option maxRecDepth 100000 in
set_option maxHeartbeats 1000000 in
theorem vabs_any (g : Nat) (S : St) (p : T) (w : World) (h : Hs (VS g S) w) (hm : MX w) (hp : p.length ≤ 50000) :
    Calls Tryz.prog 68 #[.pointer (some ⟨g, 0, none⟩), .string (bs p)] w (AbsPost (absS S p) w) := by
  have HA := hide (abs_any [47] p w hm (by simp) (by omega))
  have hl := absF_len p
  have HW := hide (fun W (hb : Below w.heap.size w W) => way_any g S (absF [47] p).1 W (h.below (VS.fr g S) hb) (by omega))
  have hR : absS S p = if (absF [47] p).2 ≠ 0 then ([], (absF [47] p).2) else if wayM S.m (absF [47] p).1 ≠ 0 then ([], wayM S.m (absF [47] p).1) else ((absF [47] p).1, 0) := rfl
  unfold AbsPost at HA
  obtain ⟨q, hq⟩ : ∃ q, (absF [47] p).1 = q := ⟨_, rfl⟩
  obtain ⟨e, he⟩ : ∃ q, (absF [47] p).2 = q := ⟨_, rfl⟩
  rw [hq] at HA HW hR hl
  rw [he] at HA hR
  obtain ⟨y, hy⟩ : ∃ y, wayM S.m q = y := ⟨_, rfl⟩
  rw [hy] at HW hR
  have HR := hide hR
  clear hR hq he hy h hm
  by_cases c1 : e = 0
  · subst c1
    go_enter Tryz.func68, Tryz.ntmps68
    go_wp2_with fail
    refine HA.out.mono ?_
    rintro e w1 ⟨rfl, hb⟩
    have HB := hide hb
    clear hb
    go_wp2_with fail
    refine (HW.out w1 HB.out).mono ?_
    rintro e w2 ⟨rfl, hb⟩
    have HB2 := hide (below_up HB.out hb HB.out.size)
    clear hb
    by_cases c2 : y = 0
    · subst c2
      have HE := hide (show absS S p = (q, 0) from HR.out)
      go_wp2
      go_ret2
      unfold AbsPost
      rw [HE.out]
      exact ⟨rfl, HB2.out⟩
    · obtain ⟨t1, t2⟩ := ne0 c2
      have HE := hide (show absS S p = ([], y) by rw [HR.out, if_neg (by simp), if_pos c2])
      clear c2
      go_wp2
      go_ret2
      unfold AbsPost
      rw [HE.out]
      exact ⟨rfl, HB2.out⟩
  · obtain ⟨t1, t2⟩ := ne0 c1
    have HE := hide (show absS S p = ([], e) by rw [HR.out, if_pos c1])
    clear c1
    go_enter Tryz.func68, Tryz.ntmps68
    go_wp2_with fail
    refine HA.out.mono ?_
    rintro e w1 ⟨rfl, hb⟩
    have HB := hide hb
    clear hb
    go_wp2
    go_ret2
    unfold AbsPost
    rw [HE.out]
    exact ⟨rfl, HB.out⟩
set_option maxRecDepth 100000 in
set_option maxHeartbeats 1000000 in
theorem vfound_any (g : Nat) (S : St) (p : T) (w : World) (h : Hs (VS g S) w) (hm : MX w) (hp : p.length ≤ 50000) :
    Calls Tryz.prog 93 #[.pointer (some ⟨g, 0, none⟩), .string (bs p)] w (AbsPost (foundS S p) w) := by
  have HA := hide (vabs_any g S p w h hm hp)
  have hl := absS_len S p
  have HK := hide (fun W (hb : Below w.heap.size w W) => kind_any g S (absS S p).1 W (h.below (VS.fr g S) hb) (by omega))
  have hR : foundS S p = ((absS S p).1, if (absS S p).2 = 0 ∧ kindM S.m (absS S p).1 = 0 then 6 else (absS S p).2) := rfl
  unfold AbsPost at HA
  obtain ⟨q, hq⟩ : ∃ q, (absS S p).1 = q := ⟨_, rfl⟩
  obtain ⟨e, he⟩ : ∃ q, (absS S p).2 = q := ⟨_, rfl⟩
  rw [hq] at HA HK hR hl
  rw [he] at HA hR
  obtain ⟨y, hy⟩ : ∃ y, kindM S.m q = y := ⟨_, rfl⟩
  rw [hy] at HK hR
  have HR := hide hR
  clear hR hq he hy h hm
  by_cases c1 : e = 0
  · subst c1
    go_enter Tryz.func93, Tryz.ntmps93
    go_wp2_with fail
    refine HA.out.mono ?_
    rintro e w1 ⟨rfl, hb⟩
    have HB := hide hb
    clear hb
    go_wp2_with fail
    refine (HK.out w1 HB.out).mono ?_
    rintro e w2 ⟨rfl, hb⟩
    have HB2 := hide (below_up HB.out hb HB.out.size)
    clear hb
    by_cases c2 : y = 0
    · subst c2
      have HE := hide (show foundS S p = (q, 6) from HR.out)
      go_wp2
      go_ret2
      unfold AbsPost
      rw [HE.out]
      exact ⟨rfl, HB2.out⟩
    · obtain ⟨t1, t2⟩ := ne0 c2
      have HE := hide (show foundS S p = (q, 0) by rw [HR.out, if_neg (by rintro ⟨_, h⟩; exact c2 h)])
      clear c2
      go_wp2
      go_ret2
      unfold AbsPost
      rw [HE.out]
      exact ⟨rfl, HB2.out⟩
  · obtain ⟨t1, t2⟩ := ne0 c1
    have HE := hide (show foundS S p = (q, e) by rw [HR.out, if_neg (by rintro ⟨h, _⟩; exact c1 h)])
    clear c1
    go_enter Tryz.func93, Tryz.ntmps93
    go_wp2_with fail
    refine HA.out.mono ?_
    rintro e w1 ⟨rfl, hb⟩
    have HB := hide hb
    clear hb
    go_wp2
    go_ret2
    unfold AbsPost
    rw [HE.out]
    exact ⟨rfl, HB.out⟩
set_option maxRecDepth 100000 in
set_option maxHeartbeats 1000000 in
theorem vkind_any (g : Nat) (S : St) (p : T) (w : World) (h : Hs (VS g S) w) (hm : MX w) (hp : p.length ≤ 50000) :
    Calls Tryz.prog 152 #[.pointer (some ⟨g, 0, none⟩), .string (bs p)] w fun e w' => e = .returned (.int .i64 (kindS S p)) ∧ Below w.heap.size w w' := by
  have HA := hide (vabs_any g S p w h hm hp)
  have hl := absS_len S p
  have HK := hide (fun W (hb : Below w.heap.size w W) => kind_any g S (absS S p).1 W (h.below (VS.fr g S) hb) (by omega))
  have hR : kindS S p = if (absS S p).2 ≠ 0 then 0 else kindM S.m (absS S p).1 := rfl
  unfold AbsPost at HA
  obtain ⟨q, hq⟩ : ∃ q, (absS S p).1 = q := ⟨_, rfl⟩
  obtain ⟨e, he⟩ : ∃ q, (absS S p).2 = q := ⟨_, rfl⟩
  rw [hq] at HA HK hR hl
  rw [he] at HA hR
  obtain ⟨y, hy⟩ : ∃ y, kindM S.m q = y := ⟨_, rfl⟩
  rw [hy] at HK hR
  have HR := hide hR
  clear hR hq he hy h hm
  by_cases c1 : e = 0
  · subst c1
    go_enter Tryz.func152, Tryz.ntmps152
    go_wp2_with fail
    refine HA.out.mono ?_
    rintro e w1 ⟨rfl, hb⟩
    have HB := hide hb
    clear hb
    go_wp2_with fail
    refine (HK.out w1 HB.out).mono ?_
    rintro e w2 ⟨rfl, hb⟩
    have HB2 := hide (below_up HB.out hb HB.out.size)
    clear hb
    go_wp2
    go_ret
    refine ⟨?_, HB2.out⟩
    rw [HR.out]
    rfl
  · obtain ⟨t1, t2⟩ := ne0 c1
    have HE := hide (show kindS S p = 0 by rw [HR.out, if_pos c1])
    clear c1
    go_enter Tryz.func152, Tryz.ntmps152
    go_wp2_with fail
    refine HA.out.mono ?_
    rintro e w1 ⟨rfl, hb⟩
    have HB := hide hb
    clear hb
    go_wp2
    go_ret
    refine ⟨?_, HB.out⟩
    rw [HE.out]
    rfl
set_option maxRecDepth 100000 in
set_option maxHeartbeats 1000000 in
theorem vnew_any (n b : Int) (w : World) (h1 : -9223372036854775808 ≤ n) (h2 : n ≤ 9223372036854775807) (h3 : -9223372036854775808 ≤ b) (h4 : b ≤ 9223372036854775807) :
    Calls Tryz.prog 28 #[.int .i64 n, .int .i64 b] w fun e w' => e = .returned (.pointer (some ⟨w.heap.size + 1, 0, none⟩)) ∧ Below w.heap.size w w' ∧ VS (w.heap.size + 1) (newS n b) (fun k => w.heap.size ≤ k ∧ k < w'.heap.size) (fun _ => False) w' ∧ w'.heap.size = w.heap.size + 2 := by
  have ho := World.ownsMap_made w Tryz.prog 9 hR
  have e1 : min (max (0 : Int) n) 10000 = ((newS n b).nodes : Nat) := by simp only [newS]; omega
  have e2 : min (max (0 : Int) b) 1048576 = ((newS n b).bytes : Nat) := by simp only [newS]; omega
  have E1 := hide e1
  have E2 := hide e2
  have HO := hide ho
  clear e1 e2 ho
  go_enter Tryz.func28, Tryz.ntmps28
  go_wp2
  go_ret
  have hb1 : Below w.heap.size w (w.alloc (.map #[] 0)) := (Below.refl _ _).alloc (Nat.le_refl _) _
  refine ⟨by simp, hb1.alloc (by simp) _, ?_, by simp⟩
  refine ⟨w.heap.size, [], ⟨by omega, by simp⟩, ⟨Nat.le_refl _, by simp; omega⟩, by omega, ?_, ?_, rfl, fun x hx => by cases hx⟩
  · have := heapNew (w.alloc (.map #[] 0)) (.cells #[.map (some w.heap.size), .int .i64 (min (max 0 n) 10000), .int .i64 (min (max 0 b) 1048576), .int .i64 0, .int .i64 0] 99)
    rw [← E1.out, ← E2.out, show ((newS n b).used : Int) = 0 from rfl, show ((newS n b).clock : Int) = 0 from rfl]
    simpa using this
  · exact MapN.of (w := w.alloc (.map #[] 0)) (own_tightN (P := []) HO.out) (Below.heap_alloc _ _ _ (by simp))
end Go.Proofs.YtaajofojbhdgaaaGreatDoor
namespace Go.Proofs.YtaajofojbhdgaaaGreatDoor
open Go.RowKit Go.Deep Go.Maps Ln Pth Vf
attribute [local go_sem] bt_eq fld0 fld1 fld2 mkMap

set_option maxRecDepth 100000 in
set_option maxHeartbeats 1000000 in
theorem room_any (g : Nat) (S : St) (hS : WfS S) (nodes : Nat) (grows : Int) (w : World) (h : Hs (VS g S) w) (hn : nodes ≤ 10) (h1 : -4000000 ≤ grows) (h2 : grows ≤ 4000000) :
    Calls Tryz.prog 70 #[.pointer (some ⟨g, 0, none⟩), .int .i64 nodes, .int .i64 grows] w fun e w' => e = .returned (.bool (decide ((S.m.length + nodes : Nat) ≤ S.nodes ∧ (S.used : Int) + grows ≤ (S.bytes : Int)))) ∧ Drew w w' := by
  obtain ⟨b, P, hgb, hg, hm, hsm, _⟩ := VS.opn h
  have hlen := nlen (hm.of (w' := w.drew) rfl) 3
  have hc0 := cellOf hg (j := 0) rfl
  have hc1 := cellOf hg (j := 1) rfl
  have hc2 := cellOf hg (j := 2) rfl
  have hc3 := cellOf hg (j := 3) rfl
  have b1 := hS.nodes
  have b2 := hS.bytes
  have b3 := hS.n10
  have b4 := hS.b20
  have hpl : S.m.length = P.length := by rw [hsm, strip_len]
  rw [hpl] at b1 ⊢
  obtain ⟨m, hm'⟩ : ∃ m, P.length = m := ⟨_, rfl⟩
  obtain ⟨sn, hsn⟩ : ∃ m, S.nodes = m := ⟨_, rfl⟩
  obtain ⟨sb, hsb⟩ : ∃ m, S.bytes = m := ⟨_, rfl⟩
  obtain ⟨su, hsu⟩ : ∃ m, S.used = m := ⟨_, rfl⟩
  rw [hm'] at hlen b1 ⊢
  rw [hsn] at hc1 b1 b3 ⊢
  rw [hsb] at hc2 b2 b4 ⊢
  rw [hsu] at hc3 b2 ⊢
  clear h hS hg hm hsm hpl hm' hsn hsb hsu
  have hn1 : (nodes : Int) ≤ 10 := by omega
  have hm1 : (m : Int) ≤ 10000 := by omega
  have hu1 : (su : Int) ≤ 1048576 := by omega
  have k1 : (m : Int) + (nodes : Int) = ((m + nodes : Nat) : Int) := by omega
  have w1 : IntKind.i64.wrap ((m : Int) + (nodes : Int)) = (m : Int) + (nodes : Int) := IntWalk.i64_in _ (by omega)
  have w2 : IntKind.i64.wrap ((su : Int) + grows) = (su : Int) + grows := IntWalk.i64_in _ (by omega)
  by_cases c1 : m + nodes ≤ sn
  · have d1 : (m : Int) + (nodes : Int) ≤ (sn : Int) := by omega
    by_cases c2 : (su : Int) + grows ≤ (sb : Int)
    · have HE := hide (show decide (m + nodes ≤ sn ∧ (su : Int) + grows ≤ (sb : Int)) = true from decide_eq_true ⟨c1, c2⟩)
      clear c1 k1
      go_enter Tryz.func70, Tryz.ntmps70
      go_wp2
      go_region
      go_wp2
      go_ret
      rw [HE.out]
      exact ⟨rfl, ⟨_, rfl⟩⟩
    · have HE := hide (show decide (m + nodes ≤ sn ∧ (su : Int) + grows ≤ (sb : Int)) = false from decide_eq_false (fun h => c2 h.2))
      have d2 : decide ((su : Int) + grows ≤ (sb : Int)) = false := by simp; omega
      clear c1 k1 c2
      go_enter Tryz.func70, Tryz.ntmps70
      go_wp2
      go_region
      go_wp2
      go_ret
      rw [HE.out]
      exact ⟨rfl, ⟨_, rfl⟩⟩
  · have d1 : decide ((m : Int) + (nodes : Int) ≤ (sn : Int)) = false := by simp; omega
    have HE := hide (show decide (m + nodes ≤ sn ∧ (su : Int) + grows ≤ (sb : Int)) = false from decide_eq_false (fun h => c1 h.1))
    clear c1 k1
    go_enter Tryz.func70, Tryz.ntmps70
    go_wp2
    go_region
    go_wp2
    go_ret
    rw [HE.out]
    exact ⟨rfl, ⟨_, rfl⟩⟩
theorem heapSet {w : World} {g j : Nat} {cs : Array Value} {t : TypeId} (h : w.heap[g]? = some (.cells cs t)) (v : Value) : (w.setCell ⟨g, j, none⟩ v).heap[g]? = some (.cells (cs.setIfInBounds j v) t) := by
  unfold World.setCell
  simp [Array.getElem?_modify, h]
set_option maxRecDepth 100000 in
set_option maxHeartbeats 1000000 in
theorem put_any (g : Nat) (S : St) (q : T) (e : En) (T N : Nat → Prop) (w : World) (h : VS g S T N w) (ok : OkTN T N w) (hr : RiseG S.m) (hl : S.m.length ≤ 100000) (hq : q.length ≤ 100000) (hc : S.clock ≤ 1000000000) (hd : RG encB 1 w e.A e.nd.data) (hN : ∀ a, e.A = some a → N a.block) :
    Calls Tryz.prog 71 #[.pointer (some ⟨g, 0, none⟩), .string (bs q), encN e] w fun e' w' => e' = .returned (.tuple #[]) ∧ VS g (Vf.putS S q e.nd.dir e.nd.data) T N w' ∧ Kp w w' T := by
  obtain ⟨b, P, h1, h2, hgb, hg, hm, hsm, hx⟩ := h
  have hc0 := cellOf hg (j := 0) rfl
  have hc4 := cellOf hg (j := 4) rfl
  have hf4 := freeOf hg 4
  have hgl := (ok.1 g h1).1
  have hbl := (ok.1 b h2).1
  have hck : (S.clock : Int) ≤ 1000000000 := by omega
  unfold encN
  go_enter Tryz.func71, Tryz.ntmps71
  go_wp2
  obtain ⟨W3, hW3⟩ : ∃ W, (w.setCell ⟨g, 4, none⟩ (.int .i64 ((S.clock : Int) + 1))).alloc (.cells #[.bool e.nd.dir, .slice e.A e.nd.data.length e.c, .int .i64 ((S.clock : Int) + 1)] 115) = W := ⟨_, rfl⟩
  have hsz3 : W3.heap.size = w.heap.size + 1 := by rw [← hW3]; simp
  have hk3 : Kp w W3 (fun k => k = g) := by
    rw [← hW3]
    refine ⟨rfl, rfl, rfl, by simp, fun k hk hne => ?_⟩
    rw [Below.heap_alloc _ _ _ (by simpa using hk)]
    exact Below.heap_setCell _ _ _ _ (by simpa using hne)
  have hg3 : W3.heap[g]? = some (.cells #[.map (some b), .int .i64 S.nodes, .int .i64 S.bytes, .int .i64 S.used, .int .i64 ((S.clock : Int) + 1)] 99) := by
    rw [← hW3, Below.heap_alloc _ _ _ (by simpa using hgl)]
    exact heapSet hg _
  have hb3 : W3.heap[b]? = w.heap[b]? := hk3.block b hbl (fun e => hgb e.symm)
  have hn3 := heapNew (w.setCell ⟨g, 4, none⟩ (.int .i64 ((S.clock : Int) + 1))) (.cells #[.bool e.nd.dir, .slice e.A e.nd.data.length e.c, .int .i64 ((S.clock : Int) + 1)] 115)
  rw [hW3, World.size_setCell] at hn3
  rw [hW3]
  have hc30 := cellOf hg3 (j := 0) rfl
  have hx0 := cellOf hn3 (j := 0) rfl
  have hx1 := cellOf hn3 (j := 1) rfl
  have hx2 := cellOf hn3 (j := 2) rfl
  have hrP : RiseG P := strip_rise.1 (hsm ▸ hr)
  have hlP : P.length ≤ 100000 := by rw [← strip_len, ← hsm]; exact hl
  obtain ⟨w4, hrun, hm4, hk4, hsz4⟩ := nstore (w := W3.drew) (hm.of (hb3.trans rfl)) hrP (by omega) (s := bs q) (by rw [bs_size]; omega) ⟨e.A, e.c, ⟨e.nd.dir, e.nd.data, S.clock + 1⟩⟩
  unfold encN at hrun
  simp only at hrun
  rw [show ((S.clock + 1 : Nat) : Int) = (S.clock : Int) + 1 by omega] at hrun
  have HM4 := hide hm4
  have HK4 := hide hk4
  have HG3 := hide hg3
  have HK3 := hide hk3
  have HSM := hide hsm
  have HX := hide hx
  clear hm4 hk4 hg3 hk3 hsm hx hm hg hb3 hn3 hW3 hc0 hc4
  go_region
  go_end0
  have hkT : Kp w w4 T := by
    have h3 : Kp w W3.drew (fun k => k = g) := ⟨HK3.out.os, HK3.out.tape, HK3.out.output, HK3.out.size, HK3.out.block⟩
    have h4 := (h3.mono (S' := T) (fun k e => by subst e; exact h1)).trans (HK4.out.mono (fun k e => by subst e; exact .inl h2))
    exact h4
  refine ⟨rfl, ⟨b, putG (bs q, ⟨e.A, e.c, ⟨e.nd.dir, e.nd.data, S.clock + 1⟩⟩) P, h1, h2, hgb, ?_, HM4.out, ?_, ?_⟩, hkT⟩
  · have := (HK4.out.block g (show g < W3.heap.size by omega) (fun e => hgb e)).trans HG3.out
    rw [this]
    rfl
  · show putG (bs q, _) S.m = _
    rw [strip_put, HSM.out]
  · intro x hx
    have hdk : ∀ (A : Option Addr) (D : List UInt8), RG encB 1 w A D → (∀ a, A = some a → N a.block) → RG encB 1 w4 A D := fun A D h hn => h.of hkT.size (fun a ea hlt => hkT.block a.block hlt (fun ht => (ok.1 _ ht).2 (hn a ea)))
    rcases mem_putG hx with rfl | hx
    · exact ⟨hdk _ _ hd hN, hN⟩
    · exact ⟨hdk _ _ (HX.out x hx).1 (HX.out x hx).2, (HX.out x hx).2⟩
end Go.Proofs.YtaajofojbhdgaaaGreatDoor
/- Walk of the reference's At. -/
namespace Go.Proofs.YtaajofojbhdgaaaGreatDoor
open Go.RowKit Go.Deep Ln
attribute [local go_sem] bt_eq

theorem getD_nat (l : T) (k : Nat) (n : Nat) (hn : n < 256) : ((((bt (bs l) k : Nat) : Int) == (n : Int))) = decide (l.getD k 0 = UInt8.ofNat n) := by
  rw [bt_bs, Bool.eq_iff_iff]
  simp only [beq_iff_eq, decide_eq_true_eq]
  constructor
  · intro h
    have : (l.getD k 0).toNat = n := by omega
    rw [← this]; simp
  · intro h
    rw [h]
    simp [UInt8.toNat_ofNat']
    omega
/-- where a byte is, from a place on -/
def ixFrom (l : T) (c : UInt8) (k : Nat) : Int := if Lib.indexByte (l.drop k) c = -1 then -1 else (k : Int) + Lib.indexByte (l.drop k) c
set_option maxRecDepth 100000 in
set_option maxHeartbeats 1000000 in
theorem rat0_any (l : T) (c : UInt8) (w : World) (h : l.length ≤ 59400000) : Calls Tryz.prog 51 #[.string (bs l), .int .u8 c.toNat] w fun e w' => e = .returned (.int .i64 (Lib.indexByte l c)) ∧ w = w' := by
  have hz : (bs l).size = l.length := bs_size l
  have hz1 : (bs l).size ≤ 59400000 := by omega
  have HZ := hide hz
  have HR0 := hide (show ixFrom l c 0 = Lib.indexByte l c by unfold ixFrom; rw [List.drop_zero]; split <;> omega)
  have hc256 : c.toNat < 256 := c.toNat_lt
  obtain ⟨R, hR⟩ : ∃ R, Lib.indexByte l c = R := ⟨_, rfl⟩
  rw [hR] at HR0 ⊢
  clear hz hR
  go_enter Tryz.func51, Tryz.ntmps51
  go_wp2
  go_loop [5] (fun v5 => ∃ k : Nat, v5 = .int .i64 k ∧ k ≤ (bs l).size ∧ Hid (ixFrom l c k = R)) (fun v5 => (bs l).size - (intOf v5).toNat)
  case atStart => exact ⟨0, rfl, by omega, HR0⟩
  case round =>
    obtain ⟨k, rfl, hk, HR⟩ := hrel
    by_cases hlt : k < (bs l).size
    · have hkl : k < l.length := by have := HZ.out; omega
      have q := getD_nat l k c.toNat hc256
      have hd : l.drop k = l.getD k 0 :: l.drop (k + 1) := by
        rw [List.drop_eq_getElem_cons hkl]; simp [hkl]
      by_cases he : l.getD k 0 = c
      · have g1 : (((bt (bs l) k : Nat) : Int) == ((c.toNat : Nat) : Int)) = true := by rw [q]; simpa using he
        have HE := hide (show (k : Int) = R by rw [← HR.out]; unfold ixFrom; rw [hd, Lib.indexByte, he]; simp)
        clear q hd he
        go_wp2
        go_ret
        refine ⟨?_, rfl⟩
        rw [← HE.out]
        rfl
      · have g1 : (((bt (bs l) k : Nat) : Int) == ((c.toNat : Nat) : Int)) = false := by rw [q]; simpa using he
        have HE := hide (show ixFrom l c (k + 1) = R by
          rw [← HR.out]
          unfold ixFrom
          have hne : (l.getD k 0 == c) = false := by simpa using he
          rw [hd, Lib.indexByte, hne]
          simp only [Bool.false_eq_true, if_false]
          have := ixb_ge c (l.drop (k + 1))
          by_cases h1 : Lib.indexByte (l.drop (k + 1)) c = -1
          · rw [h1]; rfl
          · have hb : (Lib.indexByte (l.drop (k + 1)) c == -1) = false := by simpa using h1
            rw [hb, if_neg h1]
            simp only [Bool.false_eq_true, if_false]
            rw [if_neg (by omega)]
            omega)
        clear q hd he
        go_wp2
        go_round
        case rel => exact ⟨k + 1, by go_num, by omega, HE⟩
        case measure => simp [intOf]; omega
    · have HE := hide (show (-1 : Int) = R by
        rw [← HR.out]
        unfold ixFrom
        rw [List.drop_of_length_le (by have := HZ.out; omega)]
        rfl)
      go_wp2
      go_ret
      refine ⟨?_, rfl⟩
      rw [← HE.out]
      rfl
end Go.Proofs.YtaajofojbhdgaaaGreatDoor
/- Walks of the reference's Begins, names, Parts, Write, Abs, Dir, Base, Within. Walks of the reference's Dir, Base, Within. -/
namespace Go.Proofs.YtaajofojbhdgaaaGreatDoor
open Go.RowKit Go.Deep Ln Pth
set_option linter.unusedSimpArgs false
set_option linter.unusedVariables false
attribute [local go_sem] bt_eq

theorem rbegins_eq (s x : ByteArray) (h : x.size ≤ s.size) : ((s.extract 0 x.size).toList == x.toList) = Lib.hasPrefix s.data.toList x.data.toList := by
  rw [← Lib.hasPrefix_of_take, Lib.toList_data, Lib.toList_data, Lib.extract_data]
  have h1 : x.data.toList.length ≤ s.data.toList.length := by simpa using h
  rw [decide_eq_true h1, Bool.true_and, List.drop_zero, Nat.sub_zero]
  have : x.data.toList.length = x.size := by simp
  rw [this]
theorem rbegins_no (s x : ByteArray) (h : ¬ x.size ≤ s.size) : Lib.hasPrefix s.data.toList x.data.toList = false := by
  rw [← Lib.hasPrefix_of_take]
  have h1 : ¬ x.data.toList.length ≤ s.data.toList.length := by simpa using h
  rw [decide_eq_false h1, Bool.false_and]
theorem retB {a b : Bool} (h : a = b) : Ending.returned (.bool a) = .returned (.bool b) := by rw [h]
set_option maxRecDepth 100000 in
set_option maxHeartbeats 400000 in
theorem rbegins_any (s x : ByteArray) (w : World) : Calls Tryz.prog 50 #[.string s, .string x] w fun e w' => e = .returned (.bool (Lib.hasPrefix s.data.toList x.data.toList)) ∧ w = w' := by
  by_cases h : x.size ≤ s.size
  · have HE := hide (rbegins_eq s x h)
    have hd : decide (x.size ≤ s.size) = true := by simpa using h
    have hi : (x.size : Int) ≤ (s.size : Int) := by omega
    go_enter Tryz.func50, Tryz.ntmps50
    go_wp2
    go_ret
    exact ⟨retB (by rw [← HE.out]), rfl⟩
  · have HE := hide (rbegins_no s x h)
    have hd : decide (x.size ≤ s.size) = false := by simpa using h
    go_enter Tryz.func50, Tryz.ntmps50
    go_wp2
    go_ret
    exact ⟨retB (by rw [HE.out]), rfl⟩
/-- the names of a path, behind others -/
def namesP (l : List T) (p : T) : List T := (spl 47 p).foldl stepP l
theorem parts_names (cwd p : T) : partsF cwd p = namesP (if p.head? = some 47 then [] else namesP [] cwd) p := by
  unfold partsF namesP
  split
  · rfl
  · rw [List.foldl_append]
theorem stepP_len (K : List T) (s : T) : (stepP K s).length ≤ K.length + 1 := by
  unfold stepP
  split
  · omega
  · split
    · rw [List.length_dropLast]; omega
    · simp
theorem dropT {p : T} {a i : Nat} (ha : a ≤ i) (hi : i < p.length) : p.drop a = (p.drop a).take (i - a) ++ p[i] :: p.drop (i + 1) := by
  conv => lhs; rw [← List.take_append_drop (i - a) (p.drop a)]
  rw [List.drop_drop, show a + (i - a) = i by omega, List.drop_eq_getElem_cons hi]
theorem takeT {p : T} {a i : Nat} (ha : a ≤ i) (hi : i < p.length) : (p.drop a).take (i + 1 - a) = (p.drop a).take (i - a) ++ [p[i]] := by
  rw [show i + 1 - a = (i - a) + 1 by omega, List.take_add_one, List.getElem?_drop, show a + (i - a) = i by omega, List.getElem?_eq_getElem hi]
  rfl
theorem below_gbX {B : Nat} {w wr w4 : World} {A : Option Addr} {k c : Nat} {L : List ByteArray} {o : Obj} (hb : Below B w wr) (g4 : (wr.alloc o).grownBy w4 (Value.slice A k c).ownBlock) (ho : OwnS wr B (.slice A k c) L) (hB : B ≤ wr.heap.size) : Below B w w4 := by
  have h1 := hb.alloc hB o
  exact h1.grown g4 (by simp; omega) (fun q hq => (World.ownsRow.lt ho q hq).1)
set_option maxRecDepth 100000 in
set_option maxHeartbeats 8000000 in
theorem rnames_any (B : Nat) (v : Value) (L : List T) (p : T) (w : World) (hv : OwnS w B v (L.map bs)) (hB : B ≤ w.heap.size) (hl : L.length ≤ 13200000) (hp : p.length ≤ 6600000) :
    Calls Tryz.prog 136 #[v, .string (bs p)] w fun e w' => (∃ v', e = .returned v' ∧ OwnS w' B v' ((namesP L p).map bs)) ∧ Below B w w' := by
  have HV := hide hv
  obtain ⟨R, hR⟩ : ∃ R, namesP L p = R := ⟨_, rfl⟩
  rw [hR]
  have ztx := bs_size p
  obtain ⟨n, hn⟩ : ∃ n, p.length = n := ⟨_, rfl⟩
  rw [hn] at ztx hp
  have HN := hide hn
  have HR := hide (show namesP L p = R from hR)
  have hni : (n : Int) ≤ 6600000 := by omega
  obtain ⟨A0, c0, e0, _, _, _⟩ := hv.slice
  subst e0
  clear hv hR hn
  go_enter Tryz.func136, Tryz.ntmps136
  go_wp2
  go_loopw [0, 5, 6, 7] (fun v0 v5 v6 _ wr => ∃ (i a : Nat) (K : List T), v5 = .int .i64 a ∧ v6 = .int .i64 i ∧ i ≤ n + 1 ∧ a ≤ i ∧ OwnS wr B v0 (K.map bs) ∧ Hid (i ≤ n → 47 ∉ (p.drop a).take (i - a)) ∧ Hid ((if i ≤ n then (spl 47 (p.drop a)).foldl stepP K else K) = R) ∧ K.length ≤ L.length + i ∧ Below B w wr) (fun _ _ v6 _ _ => n + 1 - (intOf v6).toNat)
  case atStart => exact ⟨0, 0, L, rfl, rfl, by omega, Nat.le_refl _, HV.out, (fun _ => by simp), (by rw [if_pos (Nat.zero_le _), List.drop_zero]; exact HR.out), by omega, Below.refl _ _⟩
  case round =>
    obtain ⟨i, a, K, rfl, rfl, hi, ha, hown, HNO, HF, hkl, hbl⟩ := hrel
    have HB := hide hbl
    have HO := hide hown
    obtain ⟨Ak, ck, ek, _, _, _⟩ := hown.slice
    subst ek
    have hbs : B ≤ wr.heap.size := by have := hbl.size; omega
    clear hown hbl
    by_cases hin : i ≤ n
    case neg =>
      have d1 : decide ((i : Int) ≤ (n : Int)) = false := by simp; omega
      have d1' : decide (i ≤ n) = false := by simp; omega
      have HE := hide (show K = R by have := HF.out; rwa [if_neg hin] at this)
      clear hin
      go_wp2
      go_ret
      refine ⟨⟨_, rfl, ?_⟩, HB.out⟩
      rw [← HE.out]
      exact HO.out
    have d1 : decide ((i : Int) ≤ (n : Int)) = true := by simp; omega
    have d1' : decide (i ≤ n) = true := by simp; omega
    have hno := HNO.out hin
    have hf := HF.out
    rw [if_pos hin] at hf
    obtain ⟨s, hs⟩ : ∃ s, (p.drop a).take (i - a) = s := ⟨_, rfl⟩
    have hex : (bs p).extract a i = bs s := by rw [ext_bs, hs]
    have hai : (a : Int) ≤ (i : Int) := by omega
    have hii : (i : Int) ≤ (n : Int) := by omega
    rw [hs] at hno
    have hkm : (K.map bs).length = K.length := List.length_map _
    rw [hkm] at HO ⊢
    have HKM := hide hkm
    obtain ⟨kn, hkn⟩ : ∃ k, K.length = k := ⟨_, rfl⟩
    have HKN := hide hkn
    rw [hkn] at HO hkl ⊢
    clear hkm hkn
    by_cases hlt : i < n
    · obtain ⟨ch, hch⟩ : ∃ x, p[i]'(by have := HN.out; omega) = x := ⟨_, rfl⟩
      have hbt : bt (bs p) i = ch.toNat := by
        unfold bt bs
        simp [← hch, HN.out, hlt]
      have d2 : decide ((i : Int) < (n : Int)) = true := by simp; omega
      have d2' : decide (i < n) = true := by simp; omega
      have htk := takeT (p := p) ha (by have := HN.out; omega)
      have hdr := dropT (p := p) ha (by have := HN.out; omega)
      rw [hch, hs] at htk hdr
      by_cases h47 : ch = 47
      case neg =>
        have h47n : ¬ ch.toNat = 47 := fun e => h47 (UInt8.toNat_inj.1 e)
        have d3 : (((ch.toNat : Nat) : Int) != 47) = true := by simp; omega
        have HNO2 := hide (show 47 ∉ (p.drop a).take (i + 1 - a) by
          rw [htk]
          intro h
          rcases List.mem_append.1 h with h | h
          · exact hno h
          · exact h47 (List.mem_singleton.1 h).symm)
        obtain ⟨cn, hcn⟩ : ∃ c, ch.toNat = c := ⟨_, rfl⟩
        rw [hcn] at hbt d3 h47n
        clear htk hdr hno hf hs hex h47 hch hcn
        go_wp2
        go_roundw
        case rel => exact ⟨i + 1, a, K, rfl, by go_num, by omega, by omega, HO.out, (fun _ => HNO2.out), (by rw [if_pos (by omega)]; have := HF.out; rwa [if_pos hin] at this), (by have := HKN.out; omega), HB.out⟩
        case measure => simp [intOf] <;> omega
      subst h47
      have d3 : (((47 : UInt8).toNat : Nat) : Int) = 47 := rfl
      rw [hdr, spl_app _ hno, List.foldl_cons] at hf
      have HF2 := hide (show (if i + 1 ≤ n then (spl 47 (p.drop (i + 1))).foldl stepP (stepP K s) else stepP K s) = R by rw [if_pos (by omega)]; exact hf)
      rw [show (47 : UInt8).toNat = 47 from rfl] at hbt
      clear htk hdr hno hf hs hch d3
      by_cases s0 : s = []
      · have e0 : (bs s).toList.isEmpty = true := by rw [bs_toList, s0]; rfl
        have HST := hide (show stepP K s = K by rw [s0, stepP_nil])
        clear s0
        go_wp2
        go_roundw
        case rel => exact ⟨i + 1, i + 1, stepP K s, by go_num, by go_num, by omega, Nat.le_refl _, (by rw [HST.out]; exact HO.out), (fun _ => by simp), HF2.out, (by have := stepP_len K s; have := HKN.out; omega), HB.out⟩
        case measure => simp [intOf] <;> omega
      have e0 : (bs s).toList.isEmpty = false := by rw [bs_toList]; cases s with | nil => exact absurd rfl s0 | cons _ _ => rfl
      by_cases s1 : s = [46]
      · have e1 : ((bs s).toList == [46]) = true := by rw [bs_toList, s1]; rfl
        have HST := hide (show stepP K s = K by rw [stepP, if_pos (.inr s1)])
        clear s0 s1
        go_wp2
        go_roundw
        case rel => exact ⟨i + 1, i + 1, stepP K s, by go_num, by go_num, by omega, Nat.le_refl _, (by rw [HST.out]; exact HO.out), (fun _ => by simp), HF2.out, (by have := stepP_len K s; have := HKN.out; omega), HB.out⟩
        case measure => simp [intOf] <;> omega
      have e1 : ((bs s).toList == [46]) = false := by rw [bs_toList]; simpa using s1
      by_cases s2 : s = [46, 46]
      · have e2 : ((bs s).toList == [46, 46]) = true := by rw [bs_toList, s2]; rfl
        have HST := hide (show stepP K s = K.dropLast by rw [stepP, if_neg (by rintro (h | h); exact s0 h; exact s1 h), if_pos s2])
        clear s0 s1 s2
        by_cases k0 : kn = 0
        · subst k0
          have HKE := hide (show K = [] from List.eq_nil_of_length_eq_zero HKN.out)
          go_wp2
          go_roundw
          case rel => exact ⟨i + 1, i + 1, stepP K s, by go_num, by go_num, by omega, Nat.le_refl _, (by rw [HST.out, HKE.out]; have := HO.out; rw [HKE.out] at this; exact this), (fun _ => by simp), HF2.out, (by have := stepP_len K s; have := HKN.out; omega), HB.out⟩
          case measure => simp [intOf] <;> omega
        · have k1 : decide ((0 : Int) < (kn : Int)) = true := by simp; omega
          have k1' : decide (0 < kn) = true := by simp; omega
          obtain ⟨km, rfl⟩ : ∃ k, kn = k + 1 := ⟨kn - 1, by omega⟩
          have hcap : km + 1 ≤ ck := by
            obtain ⟨A9, c9, e9, l9, _, _⟩ := HO.out.slice
            have := HKN.out
            rw [List.length_map] at e9 l9
            injection e9 with _ _ e9
            omega
          have hcapi : (km : Int) ≤ (ck : Int) := by omega
          have hwr : IntKind.i64.wrap ((km : Int) + 1 - 1) = (km : Int) := by rw [show (km : Int) + 1 - 1 = (km : Int) by omega]; exact IntWalk.i64_in _ (by omega)
          have hwr2 : IntKind.i64.wrap (km : Int) = (km : Int) := IntWalk.i64_in _ (by omega)
          have HOD := hide (show OwnS wr B (.slice Ak km ck) (K.dropLast.map bs) from by
            have := OwnS.take HO.out (k := km) (by rw [List.length_map, HKN.out]; omega)
            rw [← List.map_take] at this
            rw [List.dropLast_eq_take, HKN.out]
            exact this)
          have hdl : (K.dropLast.map bs).length = km := by rw [List.length_map, List.length_dropLast, HKN.out]; rfl
          have HDL := hide hdl
          clear k0 hdl hcap
          go_wp2
          go_roundw
          case rel => exact ⟨i + 1, i + 1, stepP K s, by go_num, by go_num, by omega, Nat.le_refl _, (by rw [HST.out]; exact HOD.out), (fun _ => by simp), HF2.out, (by have := stepP_len K s; have := HKN.out; omega), HB.out⟩
          case measure => simp [intOf] <;> omega
      have e2 : ((bs s).toList == [46, 46]) = false := by rw [bs_toList]; simpa using s2
      have HST := hide (show stepP K s = K ++ [s] by rw [stepP, if_neg (by rintro (h | h); exact s0 h; exact s1 h), if_neg s2])
      obtain ⟨v4, w4, r4, o4, g4, b4⟩ := run_appS (c := 1) (OwnS.alloc HO.out (.cells #[.string (bs s)] 9)) (sr_new wr (bs s)) (by simp; omega) (by have := HKN.out; simp; omega)
      have HO4 := hide (show OwnS w4 B v4 ((K ++ [s]).map bs) by rw [List.map_append]; exact o4)
      have HB4 := hide (below_gbX HB.out g4 HO.out hbs)
      obtain ⟨A4, c4, e4, _, _, _⟩ := o4.slice
      have hl4 : (K.map bs ++ [bs s]).length = kn + 1 := by rw [List.length_append, HKM.out, HKN.out]; rfl
      rw [hl4] at e4
      subst e4
      clear s0 s1 s2 o4 g4 b4 hl4
      go_wp2_with (at_builtin; refine wpList_app_run ?_ (.tmp 30) (.tmp 32) ?_ ?_ ?_ ?_ r4 ?_; exact rfl; exact rfl; exact rfl; exact rfl; exact rfl)
      go_roundw
      case rel => exact ⟨i + 1, i + 1, stepP K s, by go_num, by go_num, by omega, Nat.le_refl _, (by rw [HST.out]; exact HO4.out), (fun _ => by simp), HF2.out, (by have := stepP_len K s; have := HKN.out; omega), HB4.out⟩
      case measure => simp [intOf] <;> omega
    · have d2 : decide ((i : Int) < (n : Int)) = false := by simp; omega
      have d2' : decide (i < n) = false := by simp; omega
      obtain rfl : n = i := by omega
      have hsd : p.drop a = s := by rw [← hs, List.take_of_length_le (by have := HN.out; rw [List.length_drop]; omega)]
      rw [hsd, spl_none hno] at hf
      have HF2 := hide (show (if n + 1 ≤ n then (spl 47 (p.drop (n + 1))).foldl stepP (stepP K s) else stepP K s) = R by rw [if_neg (by omega)]; exact hf)
      clear hno hf hs hsd
      by_cases s0 : s = []
      · have e0 : (bs s).toList.isEmpty = true := by rw [bs_toList, s0]; rfl
        have HST := hide (show stepP K s = K by rw [s0, stepP_nil])
        clear s0
        go_wp2
        go_roundw
        case rel => exact ⟨n + 1, n + 1, stepP K s, by go_num, by go_num, by omega, Nat.le_refl _, (by rw [HST.out]; exact HO.out), (fun _ => by simp), HF2.out, (by have := stepP_len K s; have := HKN.out; omega), HB.out⟩
        case measure => simp [intOf] <;> omega
      have e0 : (bs s).toList.isEmpty = false := by rw [bs_toList]; cases s with | nil => exact absurd rfl s0 | cons _ _ => rfl
      by_cases s1 : s = [46]
      · have e1 : ((bs s).toList == [46]) = true := by rw [bs_toList, s1]; rfl
        have HST := hide (show stepP K s = K by rw [stepP, if_pos (.inr s1)])
        clear s0 s1
        go_wp2
        go_roundw
        case rel => exact ⟨n + 1, n + 1, stepP K s, by go_num, by go_num, by omega, Nat.le_refl _, (by rw [HST.out]; exact HO.out), (fun _ => by simp), HF2.out, (by have := stepP_len K s; have := HKN.out; omega), HB.out⟩
        case measure => simp [intOf] <;> omega
      have e1 : ((bs s).toList == [46]) = false := by rw [bs_toList]; simpa using s1
      by_cases s2 : s = [46, 46]
      · have e2 : ((bs s).toList == [46, 46]) = true := by rw [bs_toList, s2]; rfl
        have HST := hide (show stepP K s = K.dropLast by rw [stepP, if_neg (by rintro (h | h); exact s0 h; exact s1 h), if_pos s2])
        clear s0 s1 s2
        by_cases k0 : kn = 0
        · subst k0
          have HKE := hide (show K = [] from List.eq_nil_of_length_eq_zero HKN.out)
          go_wp2
          go_roundw
          case rel => exact ⟨n + 1, n + 1, stepP K s, by go_num, by go_num, by omega, Nat.le_refl _, (by rw [HST.out, HKE.out]; have := HO.out; rw [HKE.out] at this; exact this), (fun _ => by simp), HF2.out, (by have := stepP_len K s; have := HKN.out; omega), HB.out⟩
          case measure => simp [intOf] <;> omega
        · have k1 : decide ((0 : Int) < (kn : Int)) = true := by simp; omega
          have k1' : decide (0 < kn) = true := by simp; omega
          obtain ⟨km, rfl⟩ : ∃ k, kn = k + 1 := ⟨kn - 1, by omega⟩
          have hcap : km + 1 ≤ ck := by
            obtain ⟨A9, c9, e9, l9, _, _⟩ := HO.out.slice
            have := HKN.out
            rw [List.length_map] at e9 l9
            injection e9 with _ _ e9
            omega
          have hcapi : (km : Int) ≤ (ck : Int) := by omega
          have hwr : IntKind.i64.wrap ((km : Int) + 1 - 1) = (km : Int) := by rw [show (km : Int) + 1 - 1 = (km : Int) by omega]; exact IntWalk.i64_in _ (by omega)
          have hwr2 : IntKind.i64.wrap (km : Int) = (km : Int) := IntWalk.i64_in _ (by omega)
          have HOD := hide (show OwnS wr B (.slice Ak km ck) (K.dropLast.map bs) from by
            have := OwnS.take HO.out (k := km) (by rw [List.length_map, HKN.out]; omega)
            rw [← List.map_take] at this
            rw [List.dropLast_eq_take, HKN.out]
            exact this)
          have hdl : (K.dropLast.map bs).length = km := by rw [List.length_map, List.length_dropLast, HKN.out]; rfl
          have HDL := hide hdl
          clear k0 hdl hcap
          go_wp2
          go_roundw
          case rel => exact ⟨n + 1, n + 1, stepP K s, by go_num, by go_num, by omega, Nat.le_refl _, (by rw [HST.out]; exact HOD.out), (fun _ => by simp), HF2.out, (by have := stepP_len K s; have := HKN.out; omega), HB.out⟩
          case measure => simp [intOf] <;> omega
      have e2 : ((bs s).toList == [46, 46]) = false := by rw [bs_toList]; simpa using s2
      have HST := hide (show stepP K s = K ++ [s] by rw [stepP, if_neg (by rintro (h | h); exact s0 h; exact s1 h), if_neg s2])
      obtain ⟨v4, w4, r4, o4, g4, b4⟩ := run_appS (c := 1) (OwnS.alloc HO.out (.cells #[.string (bs s)] 9)) (sr_new wr (bs s)) (by simp; omega) (by have := HKN.out; simp; omega)
      have HO4 := hide (show OwnS w4 B v4 ((K ++ [s]).map bs) by rw [List.map_append]; exact o4)
      have HB4 := hide (below_gbX HB.out g4 HO.out hbs)
      obtain ⟨A4, c4, e4, _, _, _⟩ := o4.slice
      have hl4 : (K.map bs ++ [bs s]).length = kn + 1 := by rw [List.length_append, HKM.out, HKN.out]; rfl
      rw [hl4] at e4
      subst e4
      clear s0 s1 s2 o4 g4 b4 hl4
      go_wp2_with (at_builtin; refine wpList_app_run ?_ (.tmp 30) (.tmp 32) ?_ ?_ ?_ ?_ r4 ?_; exact rfl; exact rfl; exact rfl; exact rfl; exact rfl)
      go_roundw
      case rel => exact ⟨n + 1, n + 1, stepP K s, by go_num, by go_num, by omega, Nat.le_refl _, (by rw [HST.out]; exact HO4.out), (fun _ => by simp), HF2.out, (by have := stepP_len K s; have := HKN.out; omega), HB4.out⟩
      case measure => simp [intOf] <;> omega
theorem namesP_len (L : List T) (p : T) : (namesP L p).length ≤ L.length + (p.length + 1) := Nat.le_trans (foldl_len _ _) (by have := spl_len 47 p; omega)
set_option maxRecDepth 100000 in
set_option maxHeartbeats 1000000 in
theorem rparts_any (cwd p : T) (w : World) (h1 : cwd.length ≤ 6600000) (h2 : p.length ≤ 6600000) :
    Calls Tryz.prog 102 #[.string (bs cwd), .string (bs p)] w fun e w' => (∃ v, e = .returned v ∧ OwnS w' w.heap.size v ((partsF cwd p).map bs)) ∧ Below w.heap.size w w' := by
  have hpf := rbegins_any (bs p) ⟨#[47]⟩
  rw [show (⟨#[47]⟩ : ByteArray).data.toList = [47] from rfl, pre_slash] at hpf
  have hR := parts_names cwd p
  by_cases hc : p.head? = some 47
  · rw [decide_eq_true hc] at hpf
    rw [if_pos hc] at hR
    have HPF := hide hpf
    have HNM := hide (rnames_any w.heap.size (.slice none 0 0) [] p w (OwnS.nil _ _) (Nat.le_refl _) (by simp) h2)
    rw [← hR] at HNM
    clear hpf hR hc
    go_enter Tryz.func102, Tryz.ntmps102
    go_wp2_with fail
    refine (HPF.out w).mono ?_
    rintro e w' ⟨rfl, rfl⟩
    go_wp2_with fail
    refine HNM.out.mono ?_
    rintro e w2 ⟨⟨v, rfl, ho⟩, hb⟩
    have HO := hide ho
    have HB := hide hb
    clear ho hb
    go_wp2
    go_ret
    exact ⟨⟨_, rfl, HO.out⟩, HB.out⟩
  · rw [decide_eq_false hc] at hpf
    rw [if_neg hc] at hR
    have HPF := hide hpf
    have HNM := hide (rnames_any w.heap.size (.slice none 0 0) [] cwd w (OwnS.nil _ _) (Nat.le_refl _) (by simp) h1)
    have hnl := namesP_len [] cwd
    have HNN := hide (fun (W : World) (v : Value) (hv : OwnS W w.heap.size v ((namesP [] cwd).map bs)) (hs : w.heap.size ≤ W.heap.size) => rnames_any w.heap.size v (namesP [] cwd) p W hv hs (by simp at hnl; omega) h2)
    rw [← hR] at HNN
    clear hpf hR hc hnl
    go_enter Tryz.func102, Tryz.ntmps102
    go_wp2_with fail
    refine (HPF.out w).mono ?_
    rintro e w' ⟨rfl, rfl⟩
    go_wp2_with fail
    refine HNM.out.mono ?_
    rintro e w2 ⟨⟨v, rfl, ho⟩, hb⟩
    have HN2 := hide (HNN.out w2 v ho hb.size)
    have HB := hide hb
    clear ho hb
    go_wp2_with fail
    refine HN2.out.mono ?_
    rintro e w3 ⟨⟨v3, rfl, ho⟩, hb3⟩
    have HO := hide ho
    have HB3 := hide (HB.out.trans hb3)
    clear ho hb3
    go_wp2
    go_ret
    exact ⟨⟨_, rfl, HO.out⟩, HB3.out⟩
theorem slashed_take {L : List T} {k : Nat} {s : T} (h : L[k]? = some s) : slashed (L.take (k + 1)) = slashed (L.take k) ++ 47 :: s := by
  rw [List.take_add_one, h, slashed_app]
  simp [slashed]
theorem slashed_take_len (L : List T) (k : Nat) : (slashed (L.take k)).length ≤ (slashed L).length := by
  conv => rhs; rw [← List.take_append_drop k L, slashed_app, List.length_append]
  omega
set_option maxRecDepth 100000 in
set_option maxHeartbeats 1000000 in
theorem rwrite_any (A : Option Addr) (c : Nat) (L : List T) (w : World) (hA : SR w A (L.map bs)) (hl : (slashed L).length ≤ 59400000) (hll : L.length ≤ 59400000) :
    Calls Tryz.prog 135 #[.slice A L.length c] w fun e w' => e = .returned (.string (bs (joinF L))) ∧ w = w' := by
  have HA := hide hA
  have HL := hide hl
  obtain ⟨n, hn⟩ : ∃ n, L.length = n := ⟨_, rfl⟩
  rw [hn] at hll ⊢
  have HN := hide hn
  have hni : (n : Int) ≤ 59400000 := by omega
  clear hA hl hn
  go_enter Tryz.func135, Tryz.ntmps135
  go_wp2
  go_loopw [3, 4] (fun v3 v4 wr => ∃ k : Nat, v4 = .int .i64 k ∧ k ≤ n ∧ v3 = .string (bs (slashed (L.take k))) ∧ w = wr) (fun _ v4 _ => n - (intOf v4).toNat)
  case atStart => exact ⟨0, rfl, by omega, by simp [slashed, bs], rfl⟩
  case round =>
    obtain ⟨k, rfl, hk, rfl, rfl⟩ := hrel
    by_cases hlt : k < n
    · obtain ⟨x, hx⟩ : ∃ x, L[k]? = some x := ⟨L[k]'(by have := HN.out; omega), List.getElem?_eq_getElem _⟩
      obtain ⟨g, o, rfl, hg, hc⟩ := HA.out k (bs x) (by simp [hx])
      have b1 : (k : Int) < (n : Int) := by omega
      have h1 := slashed_take_len L (k + 1)
      have h2 := slashed_take hx
      rw [h2, List.length_append, List.length_cons] at h1
      have h3 := HL.out
      have hz1 := bs_size (slashed (L.take k))
      have hz2 := bs_size x
      obtain ⟨P, hP⟩ : ∃ P, bs (slashed (L.take k)) = P := ⟨_, rfl⟩
      obtain ⟨Q, hQ⟩ : ∃ Q, bs x = Q := ⟨_, rfl⟩
      have HE := hide (show P ++ ⟨#[47]⟩ ++ Q = bs (slashed (L.take (k + 1))) by rw [← hP, ← hQ, h2, show (⟨#[47]⟩ : ByteArray) = bs [47] from rfl, bs_app, bs_app]; simp)
      rw [hP] at hz1 ⊢
      rw [hQ] at hz2 hc
      have hzp : P.size ≤ 59400000 := by omega
      have hzs : (P ++ ⟨#[47]⟩).size = P.size + 1 := by rw [ByteArray.size_append]; rfl
      have hzq : P.size + 1 + Q.size ≤ 59400000 := by omega
      have hzr : (P ++ ⟨#[47]⟩).size + Q.size ≤ 59400000 := by omega
      clear hx h1 h2 h3 hP hQ hz1 hz2
      go_wp2
      go_roundw
      case rel => exact ⟨k + 1, by go_num, by omega, by rw [HE.out], trivial⟩
      case measure => simp [intOf]; omega
    · obtain rfl : n = k := by omega
      have htk : L.take n = L := List.take_of_length_le (by have := HN.out; omega)
      rw [htk]
      by_cases h0 : L = []
      · have e0 : (bs (slashed L)).toList.isEmpty = true := by rw [bs_toList, h0]; rfl
        have HE := hide (show bs (joinF L) = ⟨#[47]⟩ by rw [joinF, if_pos h0]; rfl)
        clear h0 htk
        go_wp2
        go_ret
        rw [HE.out]
        exact ⟨rfl, rfl⟩
      · have e0 : (bs (slashed L)).toList.isEmpty = false := by
          rw [bs_toList]
          have := slashed_ne h0
          cases hs : slashed L with
          | nil => exact absurd hs this
          | cons _ _ => rfl
        have HE := hide (show bs (joinF L) = bs (slashed L) by rw [joinF, if_neg h0])
        obtain ⟨P, hP⟩ : ∃ P, bs (slashed L) = P := ⟨_, rfl⟩
        rw [hP] at e0 HE ⊢
        clear h0 htk hP
        go_wp2
        go_ret
        rw [HE.out]
        exact ⟨rfl, rfl⟩
set_option maxRecDepth 100000 in
set_option maxHeartbeats 2000000 in
theorem rabs_any (cwd p : T) (w : World) (h1 : cwd.length ≤ 6600000) (h2 : p.length ≤ 6600000) :
    Calls Tryz.prog 99 #[.string (bs cwd), .string (bs p)] w (AbsPost (absF cwd p) w) := by
  have HC0 := hide (fun W => rat0_any cwd 0 W (by omega))
  have HP0 := hide (fun W => rat0_any p 0 W (by omega))
  have HPA := hide (fun W => rparts_any cwd p W h1 h2)
  have g1 := ixb_ge 0 cwd
  have g2 := ixb_ge 0 p
  have m1 := ixb_mem 0 cwd
  have m2 := ixb_mem 0 p
  obtain ⟨ic, hic⟩ : ∃ i, Lib.indexByte cwd 0 = i := ⟨_, rfl⟩
  obtain ⟨ip, hip⟩ : ∃ i, Lib.indexByte p 0 = i := ⟨_, rfl⟩
  rw [hic] at HC0 m1 g1
  rw [hip] at HP0 m2 g2
  have HM1 := hide m1
  have HM2 := hide m2
  clear hic hip m1 m2
  by_cases c1 : p = []
  · subst c1
    have hem : (bs ([] : T)).toList.isEmpty = true := by rw [bs_toList]; rfl
    have HR := hide (show absF cwd [] = ([], 1) from if_pos (.inl rfl))
    go_enter Tryz.func99, Tryz.ntmps99
    go_wp2
    go_ret2
    unfold AbsPost
    rw [HR.out]
    exact ⟨rfl, Below.refl _ _⟩
  have hem : (bs p).toList.isEmpty = false := by rw [bs_toList]; cases p; exact absurd rfl c1; rfl
  by_cases c3 : 0 ≤ ip
  · have HR := hide (show absF cwd p = ([], 1) from if_pos (.inr (.inr (HM2.out.1 c3))))
    go_enter Tryz.func99, Tryz.ntmps99
    go_wp2_with fail
    refine (HP0.out _).mono ?_
    rintro e w' ⟨rfl, rfl⟩
    go_wp2
    go_ret2
    unfold AbsPost
    rw [HR.out]
    exact ⟨rfl, Below.refl _ _⟩
  have d3 : decide (0 ≤ ip) = false := by simp; omega
  by_cases c2 : 0 ≤ ic
  · have d2 : decide (0 ≤ ic) = true := by simp; omega
    have HR := hide (show absF cwd p = ([], 1) from if_pos (.inr (.inl (HM1.out.1 c2))))
    clear c2 c3
    go_enter Tryz.func99, Tryz.ntmps99
    go_wp2_with fail
    refine (HP0.out _).mono ?_
    rintro e w' ⟨rfl, rfl⟩
    go_wp2_with fail
    refine (HC0.out _).mono ?_
    rintro e w' ⟨rfl, rfl⟩
    go_wp2
    go_ret2
    unfold AbsPost
    rw [HR.out]
    exact ⟨rfl, Below.refl _ _⟩
  have d2 : decide (0 ≤ ic) = false := by simp; omega
  have hR : absF cwd p = if longF (partsF cwd p) = false ∧ (partsF cwd p).length ≤ 20 ∧ (joinF (partsF cwd p)).length ≤ 200 then (joinF (partsF cwd p), 0) else ([], 3) := by
    unfold absF
    rw [if_neg (by rintro (h | h | h); exact c1 h; exact c2 (HM1.out.2 h); exact c3 (HM2.out.2 h))]
  have hpl := partsF_len cwd p
  have hjl := joinF_len cwd p
  obtain ⟨L, hL⟩ : ∃ L, partsF cwd p = L := ⟨_, rfl⟩
  rw [hL] at hR HPA hpl hjl
  have HR := hide hR
  have HJ := hide hjl
  clear c1 c2 c3 hL hR
  go_enter Tryz.func99, Tryz.ntmps99
  go_wp2_with fail
  refine (HP0.out _).mono ?_
  rintro e w' ⟨rfl, rfl⟩
  go_wp2_with fail
  refine (HC0.out _).mono ?_
  rintro e w' ⟨rfl, rfl⟩
  go_wp2_with fail
  refine (HPA.out w).mono ?_
  rintro e w1 ⟨⟨v, rfl, ho⟩, hb1⟩
  obtain ⟨A, c, rfl, hc, hsr, _⟩ := OwnS.slice ho
  have HA := hide hsr
  have HB1 := hide hb1
  have hsl : (slashed L).length ≤ 59400000 := by
    have := hjl.1
    unfold joinF at this
    split at this
    · rename_i h; rw [h]; simp [slashed]
    · omega
  have HWR := hide (rwrite_any A c L w1 hsr hsl (by omega))
  rw [List.length_map] at hc ⊢
  obtain ⟨n, hn⟩ : ∃ n, L.length = n := ⟨_, rfl⟩
  rw [hn] at hc HWR hpl ⊢
  have HN := hide hn
  have hni : (n : Int) ≤ 59400000 := by omega
  clear ho hb1 hsr hjl hsl hn
  go_wp2_with fail
  go_loopw [7] (fun v7 wr => ∃ k : Nat, v7 = .int .i64 k ∧ k ≤ n ∧ Hid (longF (L.take k) = false) ∧ w1 = wr) (fun v7 _ => n - (intOf v7).toNat)
  case atStart => exact ⟨0, rfl, by omega, rfl, rfl⟩
  case round =>
    obtain ⟨k, rfl, hk, HLG, rfl⟩ := hrel
    by_cases hlt : k < n
    · obtain ⟨x, hx⟩ : ∃ x, L[k]? = some x := ⟨L[k]'(by have := HN.out; omega), List.getElem?_eq_getElem _⟩
      obtain ⟨g, o, rfl, hg, hcx⟩ := HA.out k (bs x) (by simp [hx])
      have b1 : (k : Int) < (n : Int) := by omega
      have HX := hide hx
      have hzx := bs_size x
      obtain ⟨xn, hxn⟩ : ∃ m, x.length = m := ⟨_, rfl⟩
      rw [hxn] at hzx
      have hxl := HJ.out.2 x (List.mem_of_getElem? hx)
      rw [hxn] at hxl
      have hxi : (xn : Int) ≤ 59400000 := by omega
      have HXN := hide hxn
      clear hx hxn
      by_cases c6 : 60 < xn
      · have d6 : decide ((60 : Int) < (xn : Int)) = true := by simp; omega
        have d6' : decide (60 < xn) = true := by simp; omega
        have HE := hide (show absF cwd p = ([], 3) by
          rw [HR.out, if_neg]
          rintro ⟨h, _⟩
          have := (longF_iff L).1 h x (List.mem_of_getElem? HX.out)
          have := HXN.out
          omega)
        clear c6
        go_wp2
        go_ret2
        unfold AbsPost
        rw [HE.out]
        exact ⟨rfl, HB1.out⟩
      · have d6 : decide ((60 : Int) < (xn : Int)) = false := by simp; omega
        have d6' : decide (60 < xn) = false := by simp; omega
        have HL2 := hide (show longF (L.take (k + 1)) = false by
          rw [longF_iff]
          intro s hs
          rw [List.take_add_one, HX.out] at hs
          rcases List.mem_append.1 hs with h | h
          · exact (longF_iff _).1 HLG.out s h
          · simp at h
            rw [h, HXN.out]; omega)
        clear c6
        go_wp2
        go_roundw
        case rel => exact ⟨k + 1, by go_num, by omega, HL2.out, trivial⟩
        case measure => simp [intOf]; omega
    · obtain rfl : n = k := by omega
      have HLL := hide (show longF L = false by
        have := HLG.out
        rwa [List.take_of_length_le (by have := HN.out; omega)] at this)
      obtain ⟨J, hJ⟩ : ∃ J, joinF L = J := ⟨_, rfl⟩
      rw [hJ] at HWR
      have hjs := HJ.out.1
      rw [hJ] at hjs
      have hzj := bs_size J
      obtain ⟨m, hm⟩ : ∃ m, J.length = m := ⟨_, rfl⟩
      rw [hm] at hzj hjs
      have HJM := hide (And.intro hJ hm)
      have hmi : (m : Int) ≤ 59400000 := by omega
      have hnn : ¬ (n : Int) < (n : Int) := by omega
      clear hJ hm
      by_cases c7 : 20 < n
      · have d7 : decide ((20 : Int) < (n : Int)) = true := by simp; omega
        have d7' : decide (20 < n) = true := by simp; omega
        have HE := hide (show absF cwd p = ([], 3) by rw [HR.out, if_neg (by rintro ⟨_, h, _⟩; have := HN.out; omega)])
        clear c7
        go_wp2_with fail
        refine HWR.out.mono ?_
        rintro e w' ⟨rfl, rfl⟩
        go_wp2
        go_ret2
        unfold AbsPost
        rw [HE.out]
        exact ⟨rfl, HB1.out⟩
      have d7 : decide ((20 : Int) < (n : Int)) = false := by simp; omega
      have d7' : decide (20 < n) = false := by simp; omega
      by_cases c8 : 200 < m
      · have d8 : decide ((200 : Int) < (m : Int)) = true := by simp; omega
        have d8' : decide (200 < m) = true := by simp; omega
        have HE := hide (show absF cwd p = ([], 3) by rw [HR.out, if_neg (by rintro ⟨_, _, h⟩; rw [HJM.out.1, HJM.out.2] at h; omega)])
        clear c7 c8
        go_wp2_with fail
        refine HWR.out.mono ?_
        rintro e w' ⟨rfl, rfl⟩
        go_wp2
        go_ret2
        unfold AbsPost
        rw [HE.out]
        exact ⟨rfl, HB1.out⟩
      have d8 : decide ((200 : Int) < (m : Int)) = false := by simp; omega
      have d8' : decide (200 < m) = false := by simp; omega
      have HE := hide (show absF cwd p = (J, 0) by rw [HR.out, if_pos ⟨HLL.out, by have := HN.out; omega, by rw [HJM.out.1, HJM.out.2]; omega⟩, HJM.out.1])
      clear c7 c8
      go_wp2_with fail
      refine HWR.out.mono ?_
      rintro e w' ⟨rfl, rfl⟩
      go_wp2
      go_ret2
      unfold AbsPost
      rw [HE.out]
      exact ⟨rfl, HB1.out⟩
end Go.Proofs.YtaajofojbhdgaaaGreatDoor
namespace Go.Proofs.YtaajofojbhdgaaaGreatDoor
open Go.RowKit Go.Deep Ln Pth
set_option linter.unusedSimpArgs false
set_option linter.unusedVariables false
attribute [local go_sem] bt_eq

def dirF (p : T) : T := joinF (partsF [47] p).dropLast
def baseF (p : T) : T := ((partsF [47] p).getLast?).getD []
theorem slashed_le (cwd p : T) (k : Nat) : (slashed ((partsF cwd p).take k)).length ≤ cwd.length + p.length + 3 := by
  have h1 := (joinF_len cwd p).1
  have h2 := slashed_take_len (partsF cwd p) k
  unfold joinF at h1
  split at h1
  · rename_i h
    rw [h] at h2 ⊢
    simp [slashed] at h2 ⊢
  · omega
set_option maxRecDepth 100000 in
set_option maxHeartbeats 1000000 in
theorem rdir_any (p : T) (w : World) (h2 : p.length ≤ 100000) :
    Calls Tryz.prog 129 #[.string (bs p)] w fun e w' => e = .returned (.string (bs (dirF p))) ∧ Below w.heap.size w w' := by
  have HPA := hide (rparts_any [47] p w (by simp) (by omega))
  rw [show bs [47] = ⟨#[47]⟩ from rfl] at HPA
  have hpl := partsF_len [47] p
  have hsl := fun k => slashed_le [47] p k
  have hD : dirF p = joinF (partsF [47] p).dropLast := rfl
  obtain ⟨L, hL⟩ : ∃ L, partsF [47] p = L := ⟨_, rfl⟩
  rw [hL] at HPA hpl hD
  simp only [hL] at hsl
  have HD := hide hD
  have HSL := hide hsl
  clear hL hD hsl
  go_enter Tryz.func129, Tryz.ntmps129
  go_wp2_with fail
  refine HPA.out.mono ?_
  rintro e w1 ⟨⟨v, rfl, ho⟩, hb1⟩
  obtain ⟨A, c, rfl, hc, hsr, _⟩ := OwnS.slice ho
  have HA := hide hsr
  have HB1 := hide hb1
  rw [List.length_map] at hc ⊢
  have hpl2 : L.length ≤ 200000 := by simp at hpl; omega
  obtain ⟨n, hn⟩ : ∃ n, L.length = n := ⟨_, rfl⟩
  rw [hn] at hc hpl2 ⊢
  have HN := hide hn
  clear ho hb1 hsr hn hpl
  by_cases h0 : n = 0
  · subst h0
    have HE := hide (show dirF p = joinF L by rw [HD.out, List.eq_nil_of_length_eq_zero HN.out]; rfl)
    have hwr := rwrite_any A c L w1 HA.out (by have := HSL.out L.length; rw [List.take_length] at this; simp at this; omega) (by have := HN.out; omega)
    rw [HN.out] at hwr
    have HWR := hide hwr
    clear hwr
    go_wp2_with fail
    refine HWR.out.mono ?_
    rintro e w' ⟨rfl, rfl⟩
    go_wp2
    go_ret
    rw [HE.out]
    exact ⟨rfl, HB1.out⟩
  · obtain ⟨m, rfl⟩ : ∃ m, n = m + 1 := ⟨n - 1, by omega⟩
    have hmi : (m : Int) ≤ 200000 := by omega
    have hci : (m : Int) ≤ (c : Int) := by omega
    have hwr1 : IntKind.i64.wrap ((m : Int) + 1 - 1) = (m : Int) := by rw [show (m : Int) + 1 - 1 = (m : Int) by omega]; exact IntWalk.i64_in _ (by omega)
    have hwr2 : IntKind.i64.wrap (m : Int) = (m : Int) := IntWalk.i64_in _ (by omega)
    have hdl : L.dropLast = L.take m := by rw [List.dropLast_eq_take, HN.out]; rfl
    have hwr := rwrite_any A c L.dropLast w1 (by rw [hdl, List.map_take]; exact HA.out.take m) (by rw [hdl]; have := HSL.out m; simp at this; omega) (by rw [List.length_dropLast, HN.out]; omega)
    rw [show L.dropLast.length = m by rw [List.length_dropLast, HN.out]; rfl] at hwr
    have HWR := hide hwr
    have d0 : decide ((0 : Int) < (m : Int) + 1) = true := by simp <;> omega
    clear hwr hdl h0
    go_wp2_with fail
    refine HWR.out.mono ?_
    rintro e w' ⟨rfl, rfl⟩
    go_wp2
    go_ret
    rw [HD.out]
    exact ⟨rfl, HB1.out⟩
set_option maxRecDepth 100000 in
set_option maxHeartbeats 1000000 in
theorem rbase_any (p : T) (w : World) (h2 : p.length ≤ 100000) :
    Calls Tryz.prog 130 #[.string (bs p)] w fun e w' => e = .returned (.string (bs (baseF p))) ∧ Below w.heap.size w w' := by
  have HPA := hide (rparts_any [47] p w (by simp) (by omega))
  rw [show bs [47] = ⟨#[47]⟩ from rfl] at HPA
  have hpl := partsF_len [47] p
  have hD : baseF p = ((partsF [47] p).getLast?).getD [] := rfl
  obtain ⟨L, hL⟩ : ∃ L, partsF [47] p = L := ⟨_, rfl⟩
  rw [hL] at HPA hpl hD
  have HD := hide hD
  clear hL hD
  go_enter Tryz.func130, Tryz.ntmps130
  go_wp2_with fail
  refine HPA.out.mono ?_
  rintro e w1 ⟨⟨v, rfl, ho⟩, hb1⟩
  obtain ⟨A, c, rfl, hc, hsr, _⟩ := OwnS.slice ho
  have HA := hide hsr
  have HB1 := hide hb1
  rw [List.length_map] at hc ⊢
  have hpl2 : L.length ≤ 200000 := by simp at hpl; omega
  obtain ⟨n, hn⟩ : ∃ n, L.length = n := ⟨_, rfl⟩
  rw [hn] at hc hpl2 ⊢
  have HN := hide hn
  clear ho hb1 hsr hn hpl
  by_cases h0 : n = 0
  · subst h0
    have HE := hide (show bs (baseF p) = ⟨#[]⟩ by rw [HD.out, List.eq_nil_of_length_eq_zero HN.out]; rfl)
    go_wp2
    go_ret
    rw [HE.out]
    exact ⟨rfl, HB1.out⟩
  · obtain ⟨m, rfl⟩ : ∃ m, n = m + 1 := ⟨n - 1, by omega⟩
    have hmi : (m : Int) ≤ 200000 := by omega
    have hwr1 : IntKind.i64.wrap ((m : Int) + 1 - 1) = (m : Int) := by rw [show (m : Int) + 1 - 1 = (m : Int) by omega]; exact IntWalk.i64_in _ (by omega)
    have hwr2 : IntKind.i64.wrap (m : Int) = (m : Int) := IntWalk.i64_in _ (by omega)
    obtain ⟨x, hx⟩ : ∃ x, L[m]? = some x := ⟨L[m]'(by have := HN.out; omega), List.getElem?_eq_getElem _⟩
    obtain ⟨g, o, rfl, hg, hcx⟩ := HA.out m (bs x) (by simp [hx])
    have HE := hide (show baseF p = x by rw [HD.out, List.getLast?_eq_getElem?, HN.out]; simp [hx])
    have d0 : (((m : Int) + 1) == 0) = false := by simp <;> omega
    have hidx0 : (0 : Int) ≤ (m : Int) := by omega
    have hidx1 : (m : Int) < (m : Int) + 1 := by omega
    clear hx h0
    go_wp2
    go_ret
    rw [HE.out]
    exact ⟨rfl, HB1.out⟩
theorem map_bs_inj {a b : List T} : a.map bs = b.map bs ↔ a = b := by
  constructor
  · intro h
    have := congrArg (List.map (fun s : ByteArray => s.data.toList)) h
    simpa [List.map_map, Function.comp_def, bs_list] using this
  · rintro rfl; rfl
set_option maxRecDepth 100000 in
set_option maxHeartbeats 1000000 in
theorem rwithin_any (p q : T) (w : World) (h1 : p.length ≤ 90000) (h2 : q.length ≤ 90000) :
    Calls Tryz.prog 101 #[.string (bs p), .string (bs q)] w fun e w' => e = .returned (.bool (withinF p q)) ∧ Below w.heap.size w w' := by
  have HPA := hide (rparts_any [47] p w (by simp) (by omega))
  have HQA := hide (fun W => rparts_any [47] q W (by simp) (by omega))
  rw [show bs [47] = ⟨#[47]⟩ from rfl] at HPA HQA
  have hpl := partsF_len [47] p
  have hql := partsF_len [47] q
  have hD : withinF p q = decide ((partsF [47] q).take (partsF [47] p).length = partsF [47] p) := rfl
  obtain ⟨L, hL⟩ : ∃ L, partsF [47] p = L := ⟨_, rfl⟩
  obtain ⟨M, hM⟩ : ∃ L, partsF [47] q = L := ⟨_, rfl⟩
  rw [hL] at HPA hpl hD
  rw [hM] at HQA hql hD
  have HD := hide hD
  clear hL hM hD
  go_enter Tryz.func101, Tryz.ntmps101
  go_wp2_with fail
  refine HPA.out.mono ?_
  rintro e w1 ⟨⟨v, rfl, ho⟩, hb1⟩
  obtain ⟨A, c, rfl, hc, hsr, _⟩ := OwnS.slice ho
  have HA := hide hsr
  have HB1 := hide hb1
  clear ho hb1 hsr
  go_wp2_with fail
  refine (HQA.out w1).mono ?_
  rintro e w2 ⟨⟨v, rfl, ho⟩, hb2⟩
  obtain ⟨B, d, rfl, hd, hsr, _⟩ := OwnS.slice ho
  have HA2 := hide (HA.out.below hb2)
  have HB2 := hide (below_up HB1.out hb2 HB1.out.size)
  have HM2 := hide hsr
  clear ho hb2 hsr
  rw [List.length_map] at hc hd ⊢
  (try rw [List.length_map])
  have hpl2 : L.length ≤ 100000 := by simp at hpl; omega
  have hql2 : M.length ≤ 100000 := by simp at hql; omega
  obtain ⟨n, hn⟩ : ∃ n, L.length = n := ⟨_, rfl⟩
  obtain ⟨m, hm⟩ : ∃ n, M.length = n := ⟨_, rfl⟩
  have HN := hide hn
  have HMM := hide hm
  rw [hn] at hc hpl2 ⊢
  rw [hm] at hd hql2 ⊢
  clear hn hm hpl hql
  by_cases h0 : n ≤ m
  · have d0 : decide ((n : Int) ≤ (m : Int)) = true := by simp; omega
    have d0' : decide (n ≤ m) = true := by simp; omega
    have hni : (n : Int) ≤ (d : Int) := by omega
    have hni2 : (n : Int) ≤ 100000 := by omega
    have hnn : (0 : Int) ≤ (n : Int) := by omega
    have hwr2 : IntKind.i64.wrap (n : Int) = (n : Int) := IntWalk.i64_in _ (by omega)
    have hsm := same_any A B c d (L.map bs) ((M.take n).map bs) w2 HA2.out (by rw [List.map_take]; exact HM2.out.take n) (by rw [List.length_map, HN.out]; exact hpl2)
    rw [show ((M.take n).map bs).length = n by rw [List.length_map, List.length_take, HMM.out]; omega, show (L.map bs).length = n by rw [List.length_map, HN.out], show decide (L.map bs = (M.take n).map bs) = withinF p q by
      rw [HD.out, HN.out]
      exact decide_eq_decide.2 (map_bs_inj.trans eq_comm)] at hsm
    have HSM := hide hsm
    clear hsm h0
    go_wp2_with fail
    refine HSM.out.mono ?_
    rintro e w3 ⟨rfl, hdr⟩
    have HB3 := hide (show Below w.heap.size w w3 by
      obtain ⟨nd, rfl⟩ := hdr
      exact below_drewN HB2.out nd)
    clear hdr
    go_wp2
    go_ret
    exact ⟨rfl, HB3.out⟩
  · have d0 : decide ((n : Int) ≤ (m : Int)) = false := by simp; omega
    have d0' : decide (n ≤ m) = false := by simp; omega
    have HE := hide (show withinF p q = false by
      rw [HD.out, decide_eq_false]
      intro h
      have := congrArg List.length h
      rw [List.length_take, HN.out, HMM.out] at this
      omega)
    clear h0
    go_wp2
    go_ret
    rw [HE.out]
    exact ⟨rfl, HB2.out⟩
end Go.Proofs.YtaajofojbhdgaaaGreatDoor
/- How the reference's file system lies in memory: a row of nodes by rising paths, that never changes; its at, kind, way, find, Kind, Time, size. Walks of the reference's find, Kind, Time, size. Walks of the reference's Time, Read, names, List. Walks of the reference's Read, List. -/
namespace Go.Proofs.YtaajofojbhdgaaaGreatDoor
open Go.RowKit Go.Deep Go.Maps Ln Pth Vf
set_option linter.unusedSimpArgs false
set_option linter.unusedVariables false
attribute [local go_sem] bt_eq

/-- a node of the reference's: its path, and where its bytes lie -/
abbrev NV := ByteArray × En
def encE (x : NV) : List Value := [.string x.1, .bool x.2.nd.dir, .slice x.2.A x.2.nd.data.length x.2.c, .int .i64 x.2.nd.time]
theorem encE_len (x : NV) : (encE x).length = 4 := rfl
theorem encE_one (x : NV) : ∀ u ∈ encE x, u.oneCell' = true := by
  intro u hu
  simp only [encE, List.mem_cons, List.not_mem_nil, or_false] at hu
  rcases hu with rfl | rfl | rfl | rfl <;> rfl
/-- a row of nodes in blocks that never change -/
structure ER (N : Nat → Prop) (w : World) (A : Option Addr) (P : List NV) : Prop where
  rg : RG encE 4 w A P
  blk : ∀ a, A = some a → P ≠ [] → N a.block
  dat : ∀ x ∈ P, RG encB 1 w x.2.A x.2.nd.data ∧ ∀ a, x.2.A = some a → x.2.nd.data ≠ [] → N a.block
  lt : ∀ x ∈ P, x.2.nd.data.length ≤ x.2.c
  top : ∀ a, A = some a → ∃ g o, a = ⟨g, o, none⟩
def RS (g : Nat) (S : St) : AsnN := fun T N w => T g ∧ ∃ (A : Option Addr) (c : Nat) (P : List NV),
  w.heap[g]? = some (.cells #[.int .i64 S.nodes, .int .i64 S.bytes, .slice A P.length c, .int .i64 S.clock] 103) ∧ P.length ≤ c ∧ ER N w A P ∧ S.m = stripN P
theorem RG.ofB {α : Type} {enc : α → List Value} {n : Nat} {w w' : World} {A : Option Addr} {L : List α} (h : RG enc n w A L) (hs : w.heap.size ≤ w'.heap.size) (hb : ∀ a, A = some a → L ≠ [] → w'.heap[a.block]? = w.heap[a.block]?) : RG enc n w' A L := fun k x hk => by
  obtain ⟨g, o, e, hg, h1⟩ := h k x hk
  have hbk := hb _ e (by rintro rfl; simp at hk)
  exact ⟨g, o, e, Nat.lt_of_lt_of_le hg hs, fun j v hj => (World.cell?_of_block (a := ⟨g, o + k * n + j, none⟩) hbk).trans (h1 j v hj)⟩
theorem ER.of {N N' : Nat → Prop} {w w' : World} {A : Option Addr} {P : List NV} (h : ER N w A P) (hs : w.heap.size ≤ w'.heap.size) (hb : ∀ k, N k → w'.heap[k]? = w.heap[k]?) (hn : ∀ k, N k → N' k) : ER N' w' A P :=
  ⟨h.rg.ofB hs (fun a e h1 => hb _ (h.blk a e h1)), fun a e h1 => hn _ (h.blk a e h1), fun x hx => ⟨(h.dat x hx).1.ofB hs (fun a e h1 => hb _ ((h.dat x hx).2 a e h1)), fun a e h1 => hn _ ((h.dat x hx).2 a e h1)⟩, h.lt, h.top⟩
theorem RS.fr (g : Nat) (S : St) : FrN (RS g S) := by
  rintro T N N' w w' ⟨h1, A, c, P, h2, h3, h4, h5⟩ hb hn hs
  exact ⟨h1, A, c, P, (hb g (.inl h1)).trans h2, h3, h4.of hs (fun k hk => hb k (.inr hk)) hn, h5⟩
/-- what its cells hold -/
structure RSO (g : Nat) (S : St) (A : Option Addr) (c : Nat) (P : List NV) (w : World) : Prop where
  heap : w.heap[g]? = some (.cells #[.int .i64 S.nodes, .int .i64 S.bytes, .slice A P.length c, .int .i64 S.clock] 103)
  cap : P.length ≤ c
  rg : RG encE 4 w A P
  dat : ∀ x ∈ P, RG encB 1 w x.2.A x.2.nd.data
  eq : S.m = stripN P
  top : ∀ a, A = some a → ∃ g o, a = ⟨g, o, none⟩
  neA : ∀ a, A = some a → P ≠ [] → a.block ≠ g
  neD : ∀ x ∈ P, ∀ a, x.2.A = some a → x.2.nd.data ≠ [] → a.block ≠ g
  lt : ∀ x ∈ P, x.2.nd.data.length ≤ x.2.c
theorem RSO.below {g : Nat} {S : St} {A : Option Addr} {c : Nat} {P : List NV} {w w' : World} (h : RSO g S A c P w) (hb : Below w.heap.size w w') : RSO g S A c P w' :=
  ⟨(hb.block g (Array.getElem?_eq_some_iff.1 h.heap).1).trans h.heap, h.cap, h.rg.below hb, fun x hx => (h.dat x hx).below hb, h.eq, h.top, h.neA, h.neD, h.lt⟩
theorem RS.o {g : Nat} {S : St} {w : World} (h : Hs (RS g S) w) : ∃ A c P, RSO g S A c P w := by
  obtain ⟨T, N, ⟨h1, A, c, P, h2, h3, h4, h5⟩, ok⟩ := h
  exact ⟨A, c, P, h2, h3, h4.rg, fun x hx => (h4.dat x hx).1, h5, h4.top, fun a e hn he => (ok.1 g h1).2 (he ▸ h4.blk a e hn), fun x hx a e hn he => (ok.1 g h1).2 (he ▸ (h4.dat x hx).2 a e hn), h4.lt⟩
/-- where a path is among the nodes -/
def atN (P : List NV) (s : ByteArray) : Int := match P.findIdx? (fun x => decide (x.1 = s)) with
  | none => -1
  | some k => (k : Int)
theorem findIdx_take {α : Type} {p : α → Bool} : ∀ {P : List α} {k : Nat} {x : α}, P[k]? = some x → (∀ y ∈ P.take k, p y = false) → p x = true → P.findIdx? p = some k
  | [], k, x, h, _, _ => by simp at h
  | y :: P, 0, x, h, _, hp => by
    simp at h
    subst h
    simp [List.findIdx?_cons, hp]
  | y :: P, k + 1, x, h, hn, hp => by
    have h1 := hn y (by simp)
    have ih := findIdx_take (P := P) (k := k) (x := x) (by simpa using h) (fun z hz => hn z (by simp [hz])) hp
    simp [List.findIdx?_cons, h1, ih]
theorem findIdx_none {α : Type} {p : α → Bool} {P : List α} (h : ∀ y ∈ P, p y = false) : P.findIdx? p = none := by
  rw [List.findIdx?_eq_none_iff]
  exact h
theorem atN_at {P : List NV} {s : ByteArray} {k : Nat} {x : NV} (h : P[k]? = some x) (hn : ∀ y ∈ P.take k, y.1 ≠ s) (hx : x.1 = s) : atN P s = (k : Int) := by
  unfold atN
  rw [findIdx_take h (fun y hy => by simpa using hn y hy) (by simpa using hx)]
theorem atN_no {P : List NV} {s : ByteArray} (h : ∀ y ∈ P, y.1 ≠ s) : atN P s = -1 := by
  unfold atN
  rw [findIdx_none (fun y hy => by simpa using h y hy)]
/-- either a node is there, or none -/
theorem atN_cases (P : List NV) (s : ByteArray) : (atN P s = -1 ∧ getG (stripN P) s = none) ∨ ∃ (k : Nat) (x : NV), atN P s = (k : Int) ∧ P[k]? = some x ∧ x.1 = s ∧ getG (stripN P) s = some x.2.nd := by
  have hg : getG (stripN P) s = (P.find? fun x => decide (x.1 = s)).map fun x => x.2.nd := by
    rw [strip_get]
    unfold getG
    cases P.find? fun x => decide (x.1 = s) <;> rfl
  by_cases h : ∃ y ∈ P, y.1 = s
  · obtain ⟨y, hy, he⟩ := h
    cases hf : P.find? (fun x => decide (x.1 = s)) with
    | none => exact absurd (List.find?_eq_none.1 hf y hy) (by simp [he])
    | some z =>
      obtain ⟨hz, ys, zs, e, hn⟩ := List.find?_eq_some_iff_append.1 hf
      refine .inr ⟨ys.length, z, ?_, by rw [e]; simp, by simpa using hz, by rw [hg, hf]; rfl⟩
      exact atN_at (x := z) (by rw [e]; simp) (fun y hy => by rw [e, List.take_left'  rfl] at hy; simpa using hn y hy) (by simpa using hz)
  · have hn : ∀ y ∈ P, y.1 ≠ s := fun y hy e => h ⟨y, hy, e⟩
    refine .inl ⟨atN_no hn, ?_⟩
    rw [hg, List.find?_eq_none.2 (fun y hy => by simpa using hn y hy)]
    rfl
set_option maxRecDepth 100000 in
set_option maxHeartbeats 2000000 in
theorem rat4_any (g : Nat) (S : St) (A : Option Addr) (c : Nat) (P : List NV) (s : ByteArray) (w : World) (h : RSO g S A c P w) (hl : P.length ≤ 1000000) :
    Calls Tryz.prog 90 #[.pointer (some ⟨g, 0, none⟩), .string s] w fun e w' => e = .returned (.int .i64 (atN P s)) ∧ w = w' := by
  have HR := hide h.rg
  have hg := h.heap
  obtain ⟨n, hn⟩ : ∃ n, P.length = n := ⟨_, rfl⟩
  rw [hn] at hg hl
  have HN := hide hn
  have hc2 := cellOf hg (j := 2) (v := .slice A n c) rfl
  have hni : (n : Int) ≤ 1000000 := by omega
  clear h hg hn
  go_enter Tryz.func90, Tryz.ntmps90
  go_wp2
  go_loopw [5] (fun v5 wr => ∃ k : Nat, v5 = .int .i64 k ∧ k ≤ n ∧ Hid (∀ y ∈ P.take k, y.1 ≠ s) ∧ w = wr) (fun v5 _ => n - (intOf v5).toNat)
  case atStart => exact ⟨0, rfl, by omega, (by intro y hy; simp at hy), rfl⟩
  case round =>
    obtain ⟨k, rfl, hk, HNO, rfl⟩ := hrel
    by_cases hlt : k < n
    · obtain ⟨x, hx⟩ : ∃ x, P[k]? = some x := ⟨P[k]'(by have := HN.out; omega), List.getElem?_eq_getElem _⟩
      obtain ⟨gs, o, rfl, hgs, hc⟩ := HR.out k x hx
      have hc0 : w.cell? ⟨gs, o + k * 4, none⟩ = some (.string x.1) := by have := hc 0 _ rfl; simpa using this
      have b1 : (k : Int) < (n : Int) := by omega
      have HX := hide hx
      obtain ⟨xs, hxs⟩ : ∃ t, x.1 = t := ⟨_, rfl⟩
      rw [hxs] at hc0
      have HXS := hide hxs
      clear hc hx hxs
      by_cases he : xs = s
      · have e1 : (xs.toList == s.toList) = true := by rw [he]; simp
        have HE := hide (atN_at HX.out HNO.out (HXS.out.trans he))
        clear he
        go_wp2
        go_ret
        rw [HE.out]
        exact ⟨rfl, rfl⟩
      · have e1 : (xs.toList == s.toList) = false := by
          rw [ByteArray.toList_eq, ByteArray.toList_eq]
          simp only [beq_eq_false_iff_ne]
          exact fun h => he (ByteArray.ext (Array.ext' h))
        have HN2 := hide (show ∀ y ∈ P.take (k + 1), y.1 ≠ s from fun y hy => by
          rw [List.take_add_one, HX.out] at hy
          rcases List.mem_append.1 hy with hy | hy
          · exact HNO.out y hy
          · simp at hy
            rw [hy, HXS.out]; exact he)
        clear he
        go_wp2
        go_roundw
        case rel => exact ⟨k + 1, by go_num, by omega, HN2.out, trivial⟩
        case measure => simp [intOf]; omega
    · obtain rfl : n = k := by omega
      have HE := hide (show atN P s = -1 from atN_no (by
        have := HNO.out
        rwa [List.take_of_length_le (by have := HN.out; omega)] at this))
      go_wp2
      go_ret
      rw [HE.out]
      exact ⟨rfl, rfl⟩
theorem way_take {m : Mp} {l : List T} (h : ∀ s ∈ l, 47 ∉ s) (hne : l ≠ []) : wayM m (joinF l) = wayL m (l.take 1) (l.drop 1) := by
  rw [way_join m h]
  cases l with
  | nil => exact absurd rfl hne
  | cons s r => rfl
set_option maxRecDepth 100000 in
set_option maxHeartbeats 2000000 in
theorem rkind_any (g : Nat) (S : St) (A : Option Addr) (c : Nat) (P : List NV) (q : T) (w : World) (h : RSO g S A c P w) (hl : P.length ≤ 1000000) :
    Calls Tryz.prog 89 #[.pointer (some ⟨g, 0, none⟩), .string (bs q)] w fun e w' => e = .returned (.int .i64 (kindM S.m q)) ∧ w = w' := by
  have HAT := hide (rat4_any g S A c P (bs q) w h hl)
  have hk : kindM S.m q = if q = [47] then 2 else match getG S.m (bs q) with
    | none => 0
    | some n => if n.dir = true then 2 else 1 := rfl
  have hcs := atN_cases P (bs q)
  rw [← h.eq] at hcs
  have hrg := h.rg
  have hg := h.heap
  obtain ⟨n, hn⟩ : ∃ n, P.length = n := ⟨_, rfl⟩
  rw [hn] at hg
  have hc2 := cellOf hg (j := 2) (v := .slice A n c) rfl
  by_cases hq : q = [47]
  · have e1 : ((bs q).toList == [47]) = true := by rw [bs_toList, hq]; rfl
    have HE := hide (hk.trans (if_pos hq))
    clear h hk hcs hrg hg hn hq
    go_enter Tryz.func89, Tryz.ntmps89
    go_wp2
    go_ret
    rw [HE.out]
    exact ⟨rfl, rfl⟩
  have e1 : ((bs q).toList == [47]) = false := by rw [bs_toList]; simpa using hq
  rw [if_neg hq] at hk
  rcases hcs with ⟨ha, hgt⟩ | ⟨k, x, ha, hx, hxq, hgt⟩
  · rw [hgt] at hk
    rw [ha] at HAT
    have HE := hide hk
    clear h hk hrg hg hn hq ha hgt
    go_enter Tryz.func89, Tryz.ntmps89
    go_wp2_with fail
    refine HAT.out.mono ?_
    rintro e w' ⟨rfl, rfl⟩
    go_wp2
    go_ret
    rw [HE.out]
    exact ⟨rfl, rfl⟩
  · rw [hgt] at hk
    dsimp only at hk
    rw [ha] at HAT
    obtain ⟨gs, o, rfl, hgs, hc⟩ := hrg k x hx
    have hc1 : w.cell? ⟨gs, o + k * 4 + 1, none⟩ = some (.bool x.2.nd.dir) := hc 1 _ rfl
    have hkn : k < n := by rw [← hn]; exact (List.getElem?_eq_some_iff.1 hx).1
    have hki : (k : Int) < (n : Int) := by omega
    have hk0 : (0 : Int) ≤ (k : Int) := by omega
    have d0 : decide ((k : Int) < 0) = false := by simp
    obtain ⟨b, hb⟩ : ∃ b, x.2.nd.dir = b := ⟨_, rfl⟩
    rw [hb] at hc1 hk
    clear h hrg hg hn hq ha hgt hx hxq hc hb hgs
    cases b with
    | true =>
      have HE := hide (hk.trans (if_pos rfl))
      clear hk
      go_enter Tryz.func89, Tryz.ntmps89
      go_wp2_with fail
      refine HAT.out.mono ?_
      rintro e w' ⟨rfl, rfl⟩
      go_wp2
      go_ret
      rw [HE.out]
      exact ⟨rfl, rfl⟩
    | false =>
      have HE := hide (hk.trans (if_neg (by simp)))
      clear hk
      go_enter Tryz.func89, Tryz.ntmps89
      go_wp2_with fail
      refine HAT.out.mono ?_
      rintro e w' ⟨rfl, rfl⟩
      go_wp2
      go_ret
      rw [HE.out]
      exact ⟨rfl, rfl⟩
theorem wayL_zero {m : Mp} {pre r : List T} {s : T} (h : kindM m (joinF pre) = 0) : wayL m pre (s :: r) = 6 := by rw [wayL, if_pos h]
theorem wayL_one {m : Mp} {pre r : List T} {s : T} (h : kindM m (joinF pre) = 1) : wayL m pre (s :: r) = 11 := by rw [wayL, if_neg (by omega), if_pos h]
theorem wayL_two {m : Mp} {pre r : List T} {s : T} (h0 : kindM m (joinF pre) ≠ 0) (h1 : kindM m (joinF pre) ≠ 1) : wayL m pre (s :: r) = wayL m (pre ++ [s]) r := by rw [wayL, if_neg h0, if_neg h1]
set_option maxRecDepth 100000 in
set_option maxHeartbeats 2000000 in
theorem rway_any (g : Nat) (S : St) (A : Option Addr) (c : Nat) (P : List NV) (l : List T) (w : World) (h : RSO g S A c P w) (hl : P.length ≤ 1000000) (hok : ∀ s ∈ l, okN s) (hlen : (joinF l).length ≤ 1000) :
    Calls Tryz.prog 100 #[.pointer (some ⟨g, 0, none⟩), .string (bs (joinF l))] w fun e w' => e = .returned (.int .i64 (wayM S.m (joinF l))) ∧ Below w.heap.size w w' := by
  have HPA := hide (rparts_any [47] (joinF l) w (by simp) (by omega))
  rw [show bs [47] = ⟨#[47]⟩ from rfl, parts_join hok] at HPA
  have HK := hide (fun (q : T) (W : World) (hb : Below w.heap.size w W) => rkind_any g S A c P q W (h.below hb) hl)
  have h47 : ∀ s ∈ l, 47 ∉ s := fun s hs => (hok s hs).2.2.2
  have hsl : (slashed l).length ≤ 1000 := by
    unfold joinF at hlen
    split at hlen
    · rename_i e; rw [e]; simp [slashed]
    · exact hlen
  have hll : l.length ≤ 1000 := by
    have : l.length ≤ (slashed l).length := by
      rw [slashed_len]
      clear hsl HPA hlen h47 hok
      induction l with
      | nil => simp
      | cons s l ih => simp only [List.length_cons, List.map_cons, List.sum_cons]; omega
    omega
  have HW := hide (show l ≠ [] → wayM S.m (joinF l) = wayL S.m (l.take 1) (l.drop 1) from way_take h47)
  have HW0 := hide (show l = [] → wayM S.m (joinF l) = 0 from by rintro rfl; rfl)
  have HSL := hide hsl
  obtain ⟨R, hR⟩ : ∃ R, wayM S.m (joinF l) = R := ⟨_, rfl⟩
  rw [hR] at HW HW0 ⊢
  obtain ⟨J, hJ⟩ : ∃ J, bs (joinF l) = J := ⟨_, rfl⟩
  rw [hJ] at HPA ⊢
  clear h hok h47 hlen hsl hR hJ
  go_enter Tryz.func100, Tryz.ntmps100
  go_wp2_with fail
  refine HPA.out.mono ?_
  rintro e w1 ⟨⟨v, rfl, ho⟩, hb1⟩
  obtain ⟨B, d, rfl, hd, hsr, _⟩ := OwnS.slice ho
  have HA := hide hsr
  have HB1 := hide hb1
  rw [List.length_map] at hd ⊢
  obtain ⟨n, hn⟩ : ∃ n, l.length = n := ⟨_, rfl⟩
  rw [hn] at hd hll ⊢
  have HN := hide hn
  have hni : (n : Int) ≤ 1000 := by omega
  clear ho hb1 hsr hn
  go_wp2_with fail
  go_loopw [6] (fun v6 wr => ∃ k : Nat, v6 = .int .i64 k ∧ 1 ≤ k ∧ Hid (k ≤ n → wayL S.m (l.take k) (l.drop k) = R) ∧ (k ≤ n ∨ (n = 0 ∧ k = 1)) ∧ w1 = wr) (fun v6 _ => n - (intOf v6).toNat)
  case atStart =>
    refine ⟨1, rfl, Nat.le_refl _, (fun h => (HW.out (by rintro rfl; have := HN.out; simp at this; omega)).symm), ?_, rfl⟩
    by_cases h : n = 0
    · exact .inr ⟨h, rfl⟩
    · exact .inl (by omega)
  case round =>
    obtain ⟨k, rfl, hk1, HWL, hkn, rfl⟩ := hrel
    by_cases hlt : k < n
    · have b1 : (k : Int) < (n : Int) := by omega
      have hkd : (k : Int) ≤ (d : Int) := by omega
      have hk0 : (0 : Int) ≤ (k : Int) := by omega
      have hwk : IntKind.i64.wrap (k : Int) = (k : Int) := IntWalk.i64_in _ (by omega)
      obtain ⟨x, hx⟩ : ∃ x, l[k]? = some x := ⟨l[k]'(by have := HN.out; omega), List.getElem?_eq_getElem _⟩
      have hdr : l.drop k = x :: l.drop (k + 1) := by
        obtain ⟨h1, h2⟩ := List.getElem?_eq_some_iff.1 hx
        rw [List.drop_eq_getElem_cons h1, h2]
      have htk : l.take (k + 1) = l.take k ++ [x] := by rw [List.take_add_one, hx]; rfl
      have hwl := HWL.out (by omega)
      rw [hdr] at hwl
      have hwr := rwrite_any B d (l.take k) w1 (by rw [List.map_take]; exact HA.out.take k) (by have := slashed_take_len l k; have := HSL.out; omega) (by rw [List.length_take]; omega)
      rw [show (l.take k).length = k by rw [List.length_take, HN.out]; omega] at hwr
      have hkq := HK.out (joinF (l.take k)) w1 HB1.out
      obtain ⟨J2, hJ2⟩ : ∃ J, bs (joinF (l.take k)) = J := ⟨_, rfl⟩
      rw [hJ2] at hwr hkq
      obtain ⟨y, hy⟩ : ∃ y, kindM S.m (joinF (l.take k)) = y := ⟨_, rfl⟩
      rw [hy] at hkq
      have HWR := hide hwr
      have HKQ := hide hkq
      have HWX := hide hwl
      have HTK := hide htk
      have HY := hide hy
      clear hx hdr htk hwl hwr hkq hJ2 hy
      by_cases y0 : y = 0
      · subst y0
        have HE := hide (show R = 6 by rw [← HWX.out]; exact wayL_zero HY.out)
        go_wp2_with fail
        refine HWR.out.mono ?_
        rintro e w' ⟨rfl, rfl⟩
        go_wp2_with fail
        refine HKQ.out.mono ?_
        rintro e w' ⟨rfl, rfl⟩
        go_wp2
        go_ret
        rw [HE.out]
        exact ⟨rfl, HB1.out⟩
      by_cases y1 : y = 1
      · subst y1
        have HE := hide (show R = 11 by rw [← HWX.out]; exact wayL_one HY.out)
        clear y0
        go_wp2_with fail
        refine HWR.out.mono ?_
        rintro e w' ⟨rfl, rfl⟩
        go_wp2_with fail
        refine HKQ.out.mono ?_
        rintro e w' ⟨rfl, rfl⟩
        go_wp2
        go_ret
        rw [HE.out]
        exact ⟨rfl, HB1.out⟩
      have HNX := hide (show wayL S.m (l.take (k + 1)) (l.drop (k + 1)) = R by rw [← HWX.out, HTK.out]; exact (wayL_two (by rw [HY.out]; exact y0) (by rw [HY.out]; exact y1)).symm)
      have t0 : ((y : Int) == 0) = false := by simp; omega
      have t1 : ((y : Int) == 1) = false := by simp; omega
      clear y0 y1
      go_wp2_with fail
      refine HWR.out.mono ?_
      rintro e w' ⟨rfl, rfl⟩
      go_wp2_with fail
      refine HKQ.out.mono ?_
      rintro e w' ⟨rfl, rfl⟩
      go_wp2
      go_roundw
      case rel => exact ⟨k + 1, by go_num, by omega, (fun _ => HNX.out), .inl (by omega), trivial⟩
      case measure => simp [intOf]; omega
    · have b1 : ¬ (k : Int) < (n : Int) := by omega
      have HE := hide (show R = 0 by
        rcases hkn with h | ⟨h, _⟩
        · rw [← HWL.out h, List.drop_of_length_le (by have := HN.out; omega)]
          rfl
        · exact HW0.out (List.eq_nil_of_length_eq_zero (by have := HN.out; omega)))
      clear hkn
      go_wp2
      go_ret
      rw [HE.out]
      exact ⟨rfl, HB1.out⟩
end Go.Proofs.YtaajofojbhdgaaaGreatDoor
namespace Go.Proofs.YtaajofojbhdgaaaGreatDoor
open Go.RowKit Go.Deep Go.Maps Ln Pth Vf
set_option linter.unusedSimpArgs false
set_option linter.unusedVariables false
attribute [local go_sem] bt_eq

/-- a path, and the error of it or of its way -/
def findR (S : St) (p : T) : T × Nat := if (absF [47] p).2 ≠ 0 then ([], (absF [47] p).2) else ((absF [47] p).1, wayM S.m (absF [47] p).1)
set_option maxRecDepth 100000 in
set_option maxHeartbeats 2000000 in
theorem rfind_any (g : Nat) (S : St) (A : Option Addr) (c : Nat) (P : List NV) (p : T) (w : World) (h : RSO g S A c P w) (hl : P.length ≤ 1000000) (hp : p.length ≤ 100000) :
    Calls Tryz.prog 88 #[.pointer (some ⟨g, 0, none⟩), .string (bs p)] w fun e w' => e = .returned (.tuple #[.string (bs (findR S p).1), .int .i64 (findR S p).2]) ∧ Below w.heap.size w w' := by
  have HA := hide (rabs_any [47] p w (by simp) (by omega))
  rw [show bs [47] = ⟨#[47]⟩ from rfl] at HA
  have hR : findR S p = if (absF [47] p).2 ≠ 0 then ([], (absF [47] p).2) else ((absF [47] p).1, wayM S.m (absF [47] p).1) := rfl
  have hW : (absF [47] p).2 = 0 → ∀ W, Below w.heap.size w W → Calls Tryz.prog 100 #[.pointer (some ⟨g, 0, none⟩), .string (bs (absF [47] p).1)] W fun e w' => e = .returned (.int .i64 (wayM S.m (absF [47] p).1)) ∧ Below W.heap.size W w' := fun h0 W hb => by
    rcases absF_cases [47] p with ⟨l, gd, e, _⟩ | ⟨_, e⟩
    · rw [e]
      exact rway_any g S A c P l W (h.below hb) hl gd.ok (by have := gd.len; omega)
    · exact absurd h0 (by omega)
  unfold AbsPost at HA
  obtain ⟨q, hq⟩ : ∃ q, (absF [47] p).1 = q := ⟨_, rfl⟩
  obtain ⟨e, he⟩ : ∃ q, (absF [47] p).2 = q := ⟨_, rfl⟩
  rw [hq, he] at HA hR hW
  have HR := hide hR
  have HW := hide hW
  clear hR hW h hq he
  by_cases c1 : e = 0
  · subst c1
    have HE := hide (HR.out.trans (if_neg (by simp)))
    have HW2 := hide (HW.out rfl)
    obtain ⟨y, hy⟩ : ∃ y, wayM S.m q = y := ⟨_, rfl⟩
    rw [hy] at HW2 HE
    clear hy HR HW
    go_enter Tryz.func88, Tryz.ntmps88
    go_wp2_with fail
    refine HA.out.mono ?_
    rintro e w1 ⟨rfl, hb⟩
    have HB := hide hb
    clear hb
    go_wp2_with fail
    refine (HW2.out w1 HB.out).mono ?_
    rintro e w2 ⟨rfl, hb⟩
    have HB2 := hide (below_up HB.out hb HB.out.size)
    clear hb
    go_wp2
    go_ret2
    rw [HE.out]
    exact ⟨rfl, HB2.out⟩
  · obtain ⟨t1, t2⟩ := ne0 c1
    have HE := hide (HR.out.trans (if_pos c1))
    clear c1
    go_enter Tryz.func88, Tryz.ntmps88
    go_wp2_with fail
    refine HA.out.mono ?_
    rintro e w1 ⟨rfl, hb⟩
    have HB := hide hb
    clear hb
    go_wp2
    go_ret2
    rw [HE.out]
    exact ⟨rfl, HB.out⟩
theorem findR_abs (S : St) (p : T) : (findR S p).2 = (absS S p).2 ∧ ((absS S p).2 = 0 → (findR S p).1 = (absS S p).1) := by
  unfold findR absS
  by_cases h : (absF [47] p).2 = 0
  · rw [if_neg (by simp [h]), if_neg (by simp [h])]
    by_cases h2 : wayM S.m (absF [47] p).1 = 0
    · rw [if_neg (by simp [h2])]
      exact ⟨h2, fun _ => rfl⟩
    · rw [if_pos h2]
      exact ⟨rfl, fun h => absurd h h2⟩
  · rw [if_pos h, if_pos h]
    exact ⟨rfl, fun _ => rfl⟩
/-- a file system of the reference's tells where the way is -/
theorem rfind_abs (g : Nat) (S : St) (A : Option Addr) (c : Nat) (P : List NV) (p : T) (w : World) (h : RSO g S A c P w) (hl : P.length ≤ 1000000) (hp : p.length ≤ 100000) :
    Calls Tryz.prog 88 #[.pointer (some ⟨g, 0, none⟩), .string (bs p)] w fun e w' => ∃ q, e = .returned (.tuple #[.string (bs q), .int .i64 (absS S p).2]) ∧ ((absS S p).2 = 0 → q = (absS S p).1) ∧ q.length ≤ 200 ∧ Below w.heap.size w w' := by
  refine (rfind_any g S A c P p w h hl hp).mono ?_
  rintro e w' ⟨rfl, hb⟩
  refine ⟨(findR S p).1, by rw [(findR_abs S p).1], (findR_abs S p).2, ?_, hb⟩
  unfold findR
  split
  · simp
  · rcases absF_cases [47] p with ⟨l, gd, e, _⟩ | ⟨e, _⟩
    · rw [e]; exact gd.len
    · rw [e]; simp
set_option maxRecDepth 100000 in
set_option maxHeartbeats 2000000 in
theorem rKind_any (g : Nat) (S : St) (A : Option Addr) (c : Nat) (P : List NV) (p : T) (w : World) (h : RSO g S A c P w) (hl : P.length ≤ 1000000) (hp : p.length ≤ 100000) :
    Calls Tryz.prog 115 #[.pointer (some ⟨g, 0, none⟩), .string (bs p)] w fun e w' => e = .returned (.int .i64 (kindS S p)) ∧ Below w.heap.size w w' := by
  have HA := hide (rabs_any [47] p w (by simp) (by omega))
  rw [show bs [47] = ⟨#[47]⟩ from rfl] at HA
  have hR : kindS S p = if (absF [47] p).2 ≠ 0 then 0 else if wayM S.m (absF [47] p).1 ≠ 0 then 0 else kindM S.m (absF [47] p).1 := by
    unfold kindS absS
    by_cases h : (absF [47] p).2 = 0
    · by_cases h2 : wayM S.m (absF [47] p).1 = 0
      · simp only [h, h2, ne_eq, not_true_eq_false, if_false]
      · simp only [h, h2, ne_eq, not_true_eq_false, not_false_eq_true, if_false, if_true]
    · simp only [h, ne_eq, not_true_eq_false, not_false_eq_true, if_false, if_true]
  have hW : (absF [47] p).2 = 0 → ∀ W, Below w.heap.size w W → Calls Tryz.prog 100 #[.pointer (some ⟨g, 0, none⟩), .string (bs (absF [47] p).1)] W fun e w' => e = .returned (.int .i64 (wayM S.m (absF [47] p).1)) ∧ Below W.heap.size W w' := fun h0 W hb => by
    rcases absF_cases [47] p with ⟨l, gd, e, _⟩ | ⟨_, e⟩
    · rw [e]
      exact rway_any g S A c P l W (h.below hb) hl gd.ok (by have := gd.len; omega)
    · exact absurd h0 (by omega)
  have HK := hide (fun (q : T) (W : World) (hb : Below w.heap.size w W) => rkind_any g S A c P q W (h.below hb) hl)
  unfold AbsPost at HA
  obtain ⟨q, hq⟩ : ∃ q, (absF [47] p).1 = q := ⟨_, rfl⟩
  obtain ⟨e, he⟩ : ∃ q, (absF [47] p).2 = q := ⟨_, rfl⟩
  rw [hq, he] at HA hR hW
  have HR := hide hR
  have HW := hide hW
  clear hR hW h hq he
  by_cases c1 : e = 0
  · subst c1
    have hE := HR.out.trans (if_neg (by simp))
    have HW2 := hide (HW.out rfl)
    have HKQ := hide (HK.out q)
    obtain ⟨y, hy⟩ : ∃ y, wayM S.m q = y := ⟨_, rfl⟩
    rw [hy] at HW2 hE
    obtain ⟨z, hz⟩ : ∃ y, kindM S.m q = y := ⟨_, rfl⟩
    rw [hz] at HKQ hE
    have HE := hide hE
    clear hy HR HW hz hE HK
    by_cases y0 : y = 0
    · subst y0
      have HE2 := hide (HE.out.trans (if_neg (by simp)))
      go_enter Tryz.func115, Tryz.ntmps115
      go_wp2_with fail
      refine HA.out.mono ?_
      rintro e w1 ⟨rfl, hb⟩
      have HB := hide hb
      clear hb
      go_wp2_with fail
      refine (HW2.out w1 HB.out).mono ?_
      rintro e w2 ⟨rfl, hb⟩
      have HB2 := hide (below_up HB.out hb HB.out.size)
      clear hb
      go_wp2_with fail
      refine (HKQ.out w2 HB2.out).mono ?_
      rintro e w' ⟨rfl, rfl⟩
      go_wp2
      go_ret
      rw [HE2.out]
      exact ⟨rfl, HB2.out⟩
    · obtain ⟨t1, t2⟩ := ne0 y0
      have HE2 := hide (HE.out.trans (if_pos y0))
      clear y0
      go_enter Tryz.func115, Tryz.ntmps115
      go_wp2_with fail
      refine HA.out.mono ?_
      rintro e w1 ⟨rfl, hb⟩
      have HB := hide hb
      clear hb
      go_wp2_with fail
      refine (HW2.out w1 HB.out).mono ?_
      rintro e w2 ⟨rfl, hb⟩
      have HB2 := hide (below_up HB.out hb HB.out.size)
      clear hb
      go_wp2
      go_ret
      rw [HE2.out]
      exact ⟨rfl, HB2.out⟩
  · obtain ⟨t1, t2⟩ := ne0 c1
    have HE := hide (HR.out.trans (if_pos c1))
    clear c1
    go_enter Tryz.func115, Tryz.ntmps115
    go_wp2_with fail
    refine HA.out.mono ?_
    rintro e w1 ⟨rfl, hb⟩
    have HB := hide hb
    clear hb
    go_wp2
    go_ret
    rw [HE.out]
    exact ⟨rfl, HB.out⟩
/-- the bytes in all nodes -/
def sizeR (P : List NV) : Nat := (P.map fun x => x.2.nd.data.length).sum
theorem sizeR_eq {S : St} {P : List NV} (h : S.m = stripN P) (hS : WfS S) : sizeR P = S.used := by
  rw [hS.sum, h]
  unfold stripN sizeR
  rw [List.map_map]
  rfl
theorem sizeR_take {P : List NV} {k : Nat} {x : NV} (h : P[k]? = some x) : sizeR (P.take (k + 1)) = sizeR (P.take k) + x.2.nd.data.length := by
  unfold sizeR
  rw [List.take_add_one, h]
  simp
theorem sizeR_le (P : List NV) (k : Nat) : sizeR (P.take k) ≤ sizeR P := by
  unfold sizeR
  conv => rhs; rw [← List.take_append_drop k P, List.map_append, List.sum_append]
  omega
set_option maxRecDepth 100000 in
set_option maxHeartbeats 2000000 in
theorem rsize_any (g : Nat) (S : St) (A : Option Addr) (c : Nat) (P : List NV) (w : World) (h : RSO g S A c P w) (hl : P.length ≤ 1000000) (hs : sizeR P ≤ 100000000) :
    Calls Tryz.prog 91 #[.pointer (some ⟨g, 0, none⟩)] w fun e w' => e = .returned (.int .i64 (sizeR P)) ∧ w = w' := by
  have HR := hide h.rg
  have hg := h.heap
  obtain ⟨n, hn⟩ : ∃ n, P.length = n := ⟨_, rfl⟩
  rw [hn] at hg hl
  have HN := hide hn
  have HS := hide hs
  have hc2 := cellOf hg (j := 2) (v := .slice A n c) rfl
  have hni : (n : Int) ≤ 1000000 := by omega
  clear h hg hn hs
  go_enter Tryz.func91, Tryz.ntmps91
  go_wp2
  go_loopw [3, 4] (fun v3 v4 wr => ∃ k : Nat, v4 = .int .i64 k ∧ k ≤ n ∧ v3 = .int .i64 (sizeR (P.take k)) ∧ w = wr) (fun _ v4 _ => n - (intOf v4).toNat)
  case atStart => exact ⟨0, rfl, by omega, by simp [sizeR], rfl⟩
  case round =>
    obtain ⟨k, rfl, hk, rfl, rfl⟩ := hrel
    by_cases hlt : k < n
    · obtain ⟨x, hx⟩ : ∃ x, P[k]? = some x := ⟨P[k]'(by have := HN.out; omega), List.getElem?_eq_getElem _⟩
      obtain ⟨gs, o, rfl, hgs, hc⟩ := HR.out k x hx
      have hc3 : w.cell? ⟨gs, o + k * 4 + 2, none⟩ = some (.slice x.2.A x.2.nd.data.length x.2.c) := hc 2 _ rfl
      have b1 : (k : Int) < (n : Int) := by omega
      have htk := sizeR_take hx
      have hle := sizeR_le P (k + 1)
      have hs := HS.out
      obtain ⟨m, hm⟩ : ∃ m, x.2.nd.data.length = m := ⟨_, rfl⟩
      obtain ⟨u, hu⟩ : ∃ m, sizeR (P.take k) = m := ⟨_, rfl⟩
      rw [hm] at hc3 htk
      rw [hu] at htk ⊢
      have HTK := hide htk
      have hui : (u : Int) + (m : Int) ≤ 100000000 := by omega
      have hu0 : (u : Int) ≤ 100000000 := by omega
      clear hc hx htk hle hs hm hu
      go_wp2
      go_roundw
      case rel => exact ⟨k + 1, by go_num, by omega, by rw [HTK.out]; go_num, trivial⟩
      case measure => simp [intOf]; omega
    · obtain rfl : n = k := by omega
      have htk : P.take n = P := List.take_of_length_le (by have := HN.out; omega)
      rw [htk]
      clear htk
      go_wp2
      go_ret
      exact ⟨rfl, rfl⟩
end Go.Proofs.YtaajofojbhdgaaaGreatDoor
namespace Go.Proofs.YtaajofojbhdgaaaGreatDoor
open Go.RowKit Go.Deep Go.Maps Ln Pth Vf
set_option linter.unusedSimpArgs false
set_option linter.unusedVariables false
attribute [local go_sem] bt_eq

/-- the reference's names of a directory: each base into its place -/
def nmF (q : T) (acc : List T) (x : T) : List T := if dirF x = q then putT (baseF x) acc else acc
def nmR (q : T) (K : List T) : List T := K.foldl (nmF q) []
theorem nmR_rise (q : T) : ∀ (K : List T) (acc : List T), acc.Pairwise (· < ·) → (K.foldl (nmF q) acc).Pairwise (· < ·)
  | [], acc, h => h
  | x :: K, acc, h => by
    rw [List.foldl_cons]
    refine nmR_rise q K _ ?_
    unfold nmF
    split
    · exact putT_rise _ h
    · exact h
theorem nmR_mem (q s : T) : ∀ (K : List T) (acc : List T), s ∈ K.foldl (nmF q) acc ↔ s ∈ acc ∨ ∃ x ∈ K, dirF x = q ∧ baseF x = s
  | [], acc => by simp
  | x :: K, acc => by
    rw [List.foldl_cons, nmR_mem q s K]
    unfold nmF
    split
    · rename_i h
      rw [mem_putT]
      constructor
      · rintro ((rfl | h1) | ⟨y, hy, h1⟩)
        · exact .inr ⟨x, by simp, h, rfl⟩
        · exact .inl h1
        · exact .inr ⟨y, by simp [hy], h1⟩
      · rintro (h1 | ⟨y, hy, h1, h2⟩)
        · exact .inl (.inr h1)
        · rcases List.mem_cons.1 hy with rfl | hy
          · exact .inl (.inl h2.symm)
          · exact .inr ⟨y, hy, h1, h2⟩
    · rename_i h
      constructor
      · rintro (h1 | ⟨y, hy, h1⟩)
        · exact .inl h1
        · exact .inr ⟨y, by simp [hy], h1⟩
      · rintro (h1 | ⟨y, hy, h1, h2⟩)
        · exact .inl h1
        · rcases List.mem_cons.1 hy with rfl | hy
          · exact absurd h1 h
          · exact .inr ⟨y, hy, h1, h2⟩
theorem dir_join {l : List T} (h : ∀ s ∈ l, okN s) : dirF (joinF l) = joinF l.dropLast := by
  unfold dirF; rw [parts_join h]
theorem base_join {l : List T} (h : ∀ s ∈ l, okN s) : baseF (joinF l) = l.getLast?.getD [] := by
  unfold baseF; rw [parts_join h]
theorem slashed_last : ∀ {l : List T}, (∀ s ∈ l, okN s) → l ≠ [] → (slashed l).getLast? ≠ some 47 := by
  intro l h hne
  obtain ⟨a, s, rfl⟩ : ∃ a s, l = a ++ [s] := ⟨l.dropLast, l.getLast hne, (List.dropLast_concat_getLast hne).symm⟩
  obtain ⟨h1, _, _, h4⟩ := h s (by simp)
  rw [slashed_app]
  have e : slashed [s] = 47 :: s := by simp [slashed]
  rw [e, List.getLast?_append, List.getLast?_cons, List.getLast?_eq_some_getLast h1]
  simp
  intro e2
  exact h4 (e2 ▸ List.getLast_mem h1)
theorem front_join {l : List T} (h : ∀ s ∈ l, okN s) (s : T) : frontF (joinF l) ++ s = joinF (l ++ [s]) := by
  have e : slashed [s] = 47 :: s := by simp [slashed]
  have e2 : joinF (l ++ [s]) = slashed (l ++ [s]) := by unfold joinF; rw [if_neg (by simp)]
  rw [e2, slashed_app, e]
  by_cases hl : l = []
  · subst hl; rfl
  · have e3 : joinF l = slashed l := by unfold joinF; rw [if_neg hl]
    unfold frontF
    rw [e3, if_neg (slashed_last h hl)]
    simp
theorem last_slash : ∀ {a b s t : T}, 47 ∉ s → 47 ∉ t → a ++ 47 :: s = b ++ 47 :: t → a = b ∧ s = t := by
  intro a b s t hs ht h
  have hr := congrArg List.reverse h
  simp only [List.reverse_append, List.reverse_cons, List.append_assoc, List.singleton_append] at hr
  have key : ∀ (u v x y : T), 47 ∉ u → 47 ∉ v → u ++ 47 :: x = v ++ 47 :: y → u = v ∧ x = y := by
    intro u
    induction u with
    | nil =>
      intro v x y _ hv h
      cases v with
      | nil => simpa using h
      | cons c v => simp at h; exact absurd (by simp [h.1]) hv
    | cons c u ih =>
      intro v x y hu hv h
      cases v with
      | nil => simp at h; exact absurd (by simp [h.1]) hu
      | cons d v =>
        simp only [List.cons_append, List.cons.injEq] at h
        obtain ⟨h1, h2⟩ := ih v x y (fun e => hu (by simp [e])) (fun e => hv (by simp [e])) h.2
        exact ⟨by rw [h.1, h1], h2⟩
  obtain ⟨h1, h2⟩ := key _ _ _ _ (by simpa using hs) (by simpa using ht) hr
  exact ⟨List.reverse_inj.1 h2, List.reverse_inj.1 h1⟩
theorem join_front_eq {l l2 : List T} {s : T} (h : ∀ s ∈ l, okN s) (h2 : ∀ s ∈ l2, okN s) (hne : l2 ≠ []) (hs : 47 ∉ s) (he : joinF l2 = joinF (l ++ [s])) : l2 = l ++ [s] := by
  obtain ⟨a, z, rfl⟩ : ∃ a s, l2 = a ++ [s] := ⟨l2.dropLast, l2.getLast hne, (List.dropLast_concat_getLast hne).symm⟩
  have e : ∀ (l : List T) (s : T), joinF (l ++ [s]) = slashed l ++ 47 :: s := by
    intro l s
    unfold joinF
    rw [if_neg (by simp), slashed_app]
    simp [slashed]
  rw [e, e] at he
  obtain ⟨h1, h3⟩ := last_slash (h2 z (by simp)).2.2.2 hs he
  subst h3
  have : a = l := by
    refine joinF_inj (fun s hs => h2 s (by simp [hs])) h ?_
    unfold joinF
    by_cases ha : a = []
    · subst ha
      by_cases hl : l = []
      · subst hl; rfl
      · exact absurd h1.symm (slashed_ne hl)
    · by_cases hl : l = []
      · subst hl; exact absurd h1 (slashed_ne ha)
      · rw [if_neg ha, if_neg hl, h1]
  rw [this]
/-- the reference's names are the file system's -/
theorem nmR_names {S : St} (hS : WfS S) {l : List T} (hl : GoodP l) : nmR (joinF l) (S.m.map fun x => x.1.data.toList) = namesM S.m (joinF l) := by
  refine rise_ext (nmR_rise _ _ _ List.Pairwise.nil) (names_rise hS.rise _) (fun s => ?_)
  unfold nmR
  rw [nmR_mem, mem_names]
  constructor
  · rintro (h | ⟨x, hx, h1, h2⟩)
    · simp at h
    · obtain ⟨y, hy, rfl⟩ := List.mem_map.1 hx
      obtain ⟨l2, g2, n2, e2⟩ := hS.good y hy
      rw [e2, bs_list] at h1 h2
      rw [dir_join g2.ok] at h1
      rw [base_join g2.ok] at h2
      have h3 := joinF_inj (fun s hs => g2.ok s ((List.dropLast_sublist l2).subset hs)) hl.ok h1
      rw [List.getLast?_eq_some_getLast n2] at h2
      simp at h2
      have e3 : l2 = l ++ [s] := by rw [← h3, ← h2, List.dropLast_concat_getLast n2]
      refine ⟨(g2.ok s (by rw [e3]; simp)).2.2.2, y.2, ?_⟩
      rw [front_join hl.ok, ← e3, ← e2]
      exact hy
  · rintro ⟨h1, n, h2⟩
    refine .inr ⟨_, List.mem_map.2 ⟨_, h2, rfl⟩, ?_⟩
    obtain ⟨l2, g2, n2, e2⟩ := hS.good _ h2
    dsimp only at e2 ⊢
    rw [bs_list]
    rw [front_join hl.ok] at e2 ⊢
    have e3 := join_front_eq hl.ok g2.ok n2 h1 (bs_inj e2).symm
    rw [← e3, dir_join g2.ok, base_join g2.ok, e3]
    simp
theorem putS_bsT (s : T) : ∀ L : List T, putS (bs s) (L.map bs) = (putT s L).map bs
  | [] => rfl
  | y :: L => by
    have h1 : (sLt (bs y) (bs s) = true) ↔ y < s := sLt_iff _ _
    have h2 : bs y = bs s ↔ y = s := ⟨bs_inj, fun h => by rw [h]⟩
    show (if sLt (bs y) (bs s) then bs y :: putS (bs s) (L.map bs) else if bs y = bs s then bs y :: L.map bs else bs s :: bs y :: L.map bs) = _
    rw [putS_bsT s L, putT]
    by_cases c1 : y < s
    · rw [if_pos (h1.2 c1), if_pos c1]; rfl
    · rw [if_neg (fun h => c1 (h1.1 h)), if_neg c1]
      by_cases c2 : y = s
      · rw [if_pos (h2.2 c2), if_pos c2]; rfl
      · rw [if_neg (fun h => c2 (h2.1 h)), if_neg c2]; rfl
theorem putT_lenR (s : T) : ∀ L : List T, (putT s L).length ≤ L.length + 1
  | [] => by simp [putT]
  | y :: L => by
    have := putT_lenR s L
    rw [putT]
    split
    · simp; omega
    · split <;> simp
theorem nmR_snoc (q x : T) (K : List T) : nmR q (K ++ [x]) = nmF q (nmR q K) x := by unfold nmR; rw [List.foldl_append]; rfl
/-- the paths of a row -/
def keysN (P : List NV) : List T := P.map fun x => x.1.data.toList
theorem keysN_eq {S : St} {P : List NV} (h : S.m = stripN P) : (S.m.map fun x => x.1.data.toList) = keysN P := by
  rw [h]; unfold stripN keysN; rw [List.map_map]; rfl
set_option maxRecDepth 100000 in
set_option maxHeartbeats 2000000 in
theorem rnames4_any (g : Nat) (S : St) (A : Option Addr) (c : Nat) (P : List NV) (q : T) (w : World) (h : RSO g S A c P w) (hl : P.length ≤ 10000) (hk : ∀ x ∈ P, ∃ t : T, x.1 = bs t ∧ t.length ≤ 1000) :
    Calls Tryz.prog 95 #[.pointer (some ⟨g, 0, none⟩), .string (bs q)] w fun e w' => (∃ A' c', e = .returned (.slice A' (nmR q (keysN P)).length c') ∧ SR w' A' ((nmR q (keysN P)).map bs) ∧ (nmR q (keysN P)).length ≤ c') ∧ Below w.heap.size w w' := by
  have H := hide h
  have HK := hide hk
  have HN := hide (rfl : P.length = P.length)
  obtain ⟨n, hn⟩ : ∃ n, P.length = n := ⟨_, rfl⟩
  have HNN := hide hn
  have hln : n ≤ 10000 := by omega
  clear h hk hl hn HN
  go_enter Tryz.func95, Tryz.ntmps95
  go_wp2
  go_loopw [5, 6] (fun v5 v6 wr => ∃ (k : Nat) (A' : Option Addr) (c' m : Nat), v6 = .int .i64 k ∧ k ≤ n ∧ v5 = .slice A' m c' ∧ Hid (m = (nmR q (keysN (P.take k))).length) ∧ m ≤ k ∧ m ≤ c' ∧ Hid (SR wr A' ((nmR q (keysN (P.take k))).map bs)) ∧ Hid (Below w.heap.size w wr)) (fun _ v6 _ => n - (intOf v6).toNat)
  case atStart =>
    refine ⟨0, none, 0, 0, rfl, by omega, rfl, ?_, by omega, by omega, ?_, Below.refl _ _⟩
    · show (0 : Nat) = _; simp [keysN, nmR]
    · intro k s hks; simp [keysN, nmR] at hks
  case round =>
    obtain ⟨k, A', c', m, rfl, hk, rfl, HM, hmk, hmc, HSR, HB⟩ := hrel
    have ho := H.out.below HB.out
    have hg := ho.heap
    have hrg := ho.rg
    rw [HNN.out] at hg
    have hc2 := cellOf hg (j := 2) (v := .slice A n c) rfl
    have hgb : g < wr.heap.size := (Array.getElem?_eq_some_iff.1 hg).1
    by_cases hlt : k < n
    · obtain ⟨x, hx⟩ : ∃ x, P[k]? = some x := ⟨P[k]'(by have := HNN.out; omega), List.getElem?_eq_getElem _⟩
      obtain ⟨gs, o, rfl, hgs, hc⟩ := hrg k x hx
      have hc0 : wr.cell? ⟨gs, o + k * 4, none⟩ = some (.string x.1) := by have := hc 0 _ rfl; simpa using this
      obtain ⟨t, hxt, htl⟩ := HK.out x (List.mem_of_getElem? hx)
      have hkt : keysN (P.take (k + 1)) = keysN (P.take k) ++ [t] := by
        unfold keysN
        rw [List.take_add_one, hx, List.map_append]
        simp [hxt, bs_list]
      rw [hxt] at hc0
      have hnm := nmR_snoc q t (keysN (P.take k))
      rw [← hkt] at hnm
      obtain ⟨Q, hQ⟩ : ∃ Q, nmR q (keysN (P.take k)) = Q := ⟨_, rfl⟩
      rw [hQ] at HM HSR hnm
      have HNM := hide hnm
      have b1 : (k : Int) < (n : Int) := by omega
      have HD := hide (fun W => rdir_any t W (by omega))
      have HBA := hide (fun W => rbase_any t W (by omega))
      have hg0 : gs < wr.heap.size := hgs
      have hm := HM.out
      have hps := fun (W : World) (hb : Below wr.heap.size wr W) => putstr_any A' c' (Q.map bs) (bs (baseF t)) W (HSR.out.below hb) (by rw [List.length_map]; omega) (by rw [List.length_map]; omega)
      rw [putS_bsT] at hps
      simp only [List.length_map, ← hm] at hps
      have HPS := hide hps
      clear hm hps hnm hQ hkt htl hxt hc hx hrg ho hg hgs
      by_cases hd : dirF t = q
      · have e1 : ((bs (dirF t)).toList == (bs q).toList) = true := by rw [hd]; simp
        have HE := hide (HNM.out.trans (if_pos hd))
        clear hd
        go_wp2_with fail
        refine (HD.out _).mono ?_
        rintro e w1 ⟨rfl, hb1⟩
        have hc2' := (hb1.cell (p := ⟨g, 2, none⟩) hgb).trans hc2
        have hc0' := (hb1.cell (p := ⟨gs, o + k * 4, none⟩) hg0).trans hc0
        have HB1 := hide hb1
        clear hb1
        go_wp2_with fail
        refine (HBA.out _).mono ?_
        rintro e w2 ⟨rfl, hb2⟩
        have HB2 := hide (below_up HB1.out hb2 HB1.out.size)
        clear hb2
        go_wp2_with fail
        refine (HPS.out w2 HB2.out).mono ?_
        rintro e w3 ⟨⟨A2, c2, rfl, hsr, hc3⟩, hb3⟩
        have HSR2 := hide hsr
        have HB3 := hide (below_up HB.out (below_up HB2.out hb3 HB2.out.size) HB.out.size)
        have HX := hide (And.intro hsr hc3)
        clear hsr hb3 hc3
        go_wp2
        go_roundw
        case rel =>
          have hpl := putT_lenR (baseF t) Q
          have hm := HM.out
          refine ⟨k + 1, A2, c2, (putT (baseF t) Q).length, by go_num, by omega, rfl, ?_, by omega, HX.out.2, ?_, HB3.out⟩
          · show _ = _; rw [HE.out]
          · show SR _ _ _; rw [HE.out]; exact HX.out.1
        case measure => simp [intOf]; omega
      · have e1 : ((bs (dirF t)).toList == (bs q).toList) = false := by rw [bs_toList, bs_toList]; simpa using hd
        have HE := hide (HNM.out.trans (if_neg hd))
        clear hd
        go_wp2_with fail
        refine (HD.out _).mono ?_
        rintro e w1 ⟨rfl, hb1⟩
        have HB1 := hide hb1
        clear hb1
        go_wp2
        go_roundw
        case rel =>
          refine ⟨k + 1, A', c', m, by go_num, by omega, rfl, ?_, by omega, by omega, ?_, below_up HB.out HB1.out HB.out.size⟩
          · show _ = _; rw [HE.out]; exact HM.out
          · show SR _ _ _; rw [HE.out]; exact HSR.out.below HB1.out
        case measure => simp [intOf]; omega
    · obtain rfl : n = k := by omega
      have htk : P.take n = P := List.take_of_length_le (by have := HNN.out; omega)
      rw [htk] at HM HSR
      have hm := HM.out
      have HMC := hide hmc
      clear htk ho hg hrg
      go_wp2
      go_ret
      exact ⟨⟨A', c', by rw [← hm]; rfl, HSR.out, by rw [← hm]; exact HMC.out⟩, HB.out⟩
end Go.Proofs.YtaajofojbhdgaaaGreatDoor
namespace Go.Proofs.YtaajofojbhdgaaaGreatDoor
open Go.RowKit Go.Deep Go.Maps Ln Pth Vf
set_option linter.unusedSimpArgs false
set_option linter.unusedVariables false
attribute [local go_sem] bt_eq

/-- a file is a node -/
theorem file_node {S : St} {P : List NV} (h : S.m = stripN P) {q : T} (hk : kindM S.m q = 1) : ∃ (k : Nat) (x : NV), atN P (bs q) = (k : Int) ∧ P[k]? = some x ∧ dataM S.m q = x.2.nd.data := by
  have hr : q ≠ [47] := by rintro rfl; simp [kindM] at hk
  rcases atN_cases P (bs q) with ⟨_, hg⟩ | ⟨k, x, ha, hx, _, hg⟩
  · rw [← h] at hg
    unfold kindM at hk
    rw [if_neg hr, hg] at hk
    exact absurd hk (by simp)
  · refine ⟨k, x, ha, hx, ?_⟩
    unfold dataM
    rw [h, hg]
theorem RSO.drew {g : Nat} {S : St} {A : Option Addr} {c : Nat} {P : List NV} {w : World} (h : RSO g S A c P w) : RSO g S A c P w.drew := ⟨h.heap, h.cap, h.rg, h.dat, h.eq, h.top, h.neA, h.neD, h.lt⟩
/-- the paths of a file system's nodes are short -/
theorem keys_short {S : St} (hS : WfS S) {P : List NV} (h : S.m = stripN P) : ∀ x ∈ P, ∃ t : T, x.1 = bs t ∧ t.length ≤ 1000 := by
  intro x hx
  obtain ⟨l, gl, _, e⟩ := hS.good (x.1, x.2.nd) (by rw [h]; exact List.mem_map.2 ⟨x, hx, rfl⟩)
  exact ⟨joinF l, e, by have := gl.len; omega⟩
theorem stripN_len (P : List NV) : (stripN P).length = P.length := by unfold stripN; rw [List.length_map]
theorem row_len {S : St} (hS : WfS S) {P : List NV} (h : S.m = stripN P) : P.length ≤ 10000 := by
  have h1 := hS.nodes
  have h2 := hS.n10
  rw [h, stripN_len] at h1
  omega
end Go.Proofs.YtaajofojbhdgaaaGreatDoor
/- A step of a region that draws its order, with the slot that it writes told as a number: so the frame stays written out. No program in sight. -/
namespace Go.Proofs.YtaajofojbhdgaaaGreatDoor
section
variable {P : Program} {ops : Array Oper} {Q : Exit → Act → World → Prop} {md : Region.Mode} {S : World → Prop}
theorem wpAnyH_tk {i d : Nat} {oi : Oper} {v : Value} {fuel : Nat} {listed : Array Bool} {a : Act} {w : World} (hi : ops[i]? = some oi) (hd : oi.dst = some d)
    (hs : Region.noSelect ops = true) (hf : Region.free md ops listed i = true) (hr : (Region.ready md ops listed).contains i = true)
    (hQ : ∀ c a w, Q (.panic c) (a.put oi.dst v) w → Q (.panic c) a w) (hy : YieldsIf P ops S oi v a) (hS : S w)
    (h : wpAnyH P md ops Q S fuel (listed.setIfInBounds i true) { a with tmps := a.tmps.setIfInBounds d v } w) : wpAnyH P md ops Q S (fuel + 1) listed a w :=
  wpAnyH_take hi hs hf hr hQ hy hS (by rw [hd]; exact h)
/-- an append whose run is known, at a step of such a region -/
theorem step_app_run {o : Oper} {a : Act} {w : World} {K : Act → World → Prop} {X : Prop} {t : TypeId} {v xv v' : Value} {w' : World} (hgd : o.guard = none) (s x : Operand)
    (ho : o.op = .call { callee := .builtin .append, args := #[s, x], argTypes := #[t, t] }) (ht : o.type = t) (hs : a.eval s = v) (hx : a.eval x = xv)
    (hrun : (Builtin.append_ #[t, t] t #[v, xv]).run P w = .ok v' w') (hk : K (a.put o.dst v') w') : if Region.wanted o (yielded ops a.tmps) = true then Oper.wp P o a w K Q else X := by
  have hw : Region.wanted o (yielded ops a.tmps) = true := by simp [Region.wanted, hgd]
  rw [if_pos hw]
  unfold Oper.wp execOp
  simp only [ho, resolve, invoke, builtin, Sem.run_bind, Sem.run_pure, Result.andThen_ok, List.map_toArray, List.map_cons, List.map_nil, hs, hx, ht, hrun]
  exact hk
end
end Go.Proofs.YtaajofojbhdgaaaGreatDoor
