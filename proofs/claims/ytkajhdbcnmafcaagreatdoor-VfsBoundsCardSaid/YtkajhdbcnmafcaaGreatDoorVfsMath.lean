/- Plain law of file systems: what each call makes of a file system. No program in sight. -/
import Derived.Test.YtkajhdbcnmafcaaGreatDoorMapG
import Derived.Test.YtkajhdbcnmafcaaGreatDoorPathMath
import Derived.Test.YtkajhdbcnmafcaaGreatDoorBs
namespace Go.Proofs.YtkajhdbcnmafcaaGreatDoor.Vf
open Ln Pth

structure Nd where
  dir : Bool
  data : T
  time : Nat
abbrev Mp := KV Nd
def kindM (m : Mp) (q : T) : Nat := if q = [47] then 2 else match getG m (bs q) with
  | none => 0
  | some n => if n.dir = true then 2 else 1
/-- why there is no way to a path, from a byte on -/
def wayB (m : Mp) (q : T) : Nat → Nat → Nat
  | 0, _ => 0
  | f + 1, i => if q.length ≤ i then 0 else if q.getD i 0 ≠ 47 ∨ i = 0 then wayB m q f (i + 1) else
    if kindM m (q.take i) = 0 then 6 else if kindM m (q.take i) = 1 then 11 else wayB m q f (i + 1)
def wayM (m : Mp) (q : T) : Nat := wayB m q q.length 0
structure St where
  m : Mp
  nodes : Nat
  bytes : Nat
  used : Nat
  clock : Nat
def newS (nodes bytes : Int) : St := ⟨[], (min (max 0 nodes) 10000).toNat, (min (max 0 bytes) 1048576).toNat, 0, 0⟩
/-- a whole path, to which there is a way, or an error -/
def absS (S : St) (p : T) : T × Nat := if (absF [47] p).2 ≠ 0 then ([], (absF [47] p).2) else if wayM S.m (absF [47] p).1 ≠ 0 then ([], wayM S.m (absF [47] p).1) else ((absF [47] p).1, 0)
def foundS (S : St) (p : T) : T × Nat := ((absS S p).1, if (absS S p).2 = 0 ∧ kindM S.m (absS S p).1 = 0 then 6 else (absS S p).2)
def kindS (S : St) (p : T) : Nat := if (absS S p).2 ≠ 0 then 0 else kindM S.m (absS S p).1
def dataM (m : Mp) (q : T) : T := match getG m (bs q) with
  | none => []
  | some n => n.data
def timeM (m : Mp) (q : T) : Nat := match getG m (bs q) with
  | none => 0
  | some n => n.time
def timeS (S : St) (p : T) : Nat := if (absS S p).2 ≠ 0 then 0 else timeM S.m (absS S p).1
/-- what all below a path begin with -/
def frontF (q : T) : T := (if q.getLast? = some 47 then q.dropLast else q) ++ [47]
def preB (fr : T) (s : T) : Bool := fr.isPrefixOf s
def belowM (m : Mp) (q : T) : List T := (m.map fun x => x.1.data.toList).filter (preB (frontF q))
def namesM (m : Mp) (q : T) : List T := ((belowM m q).map (List.drop (frontF q).length)).filter fun s => decide (47 ∉ s)
def listS (S : St) (p : T) : List T × Nat := if (foundS S p).2 ≠ 0 then ([], (foundS S p).2) else if kindM S.m (foundS S p).1 = 1 then ([], 11) else (namesM S.m (foundS S p).1, 0)
def readS (S : St) (p : T) : T × Nat := if (foundS S p).2 ≠ 0 then ([], (foundS S p).2) else if kindM S.m (foundS S p).1 = 2 then ([], 10) else (dataM S.m (foundS S p).1, 0)
def putS (S : St) (q : T) (dir : Bool) (data : T) : St := { S with clock := S.clock + 1, m := putG (bs q, ⟨dir, data, S.clock + 1⟩) S.m }
/-- Write -/
def writeQ (S : St) (q b : T) (more : Bool) : St × Nat := if kindM S.m q = 2 then (S, 10) else
  let old := dataM S.m q
  let was := if more = true then old else []
  if S.m.length + (if kindM S.m q = 0 then 1 else 0) ≤ S.nodes ∧ S.used + (was.length + b.length) ≤ S.bytes + old.length then
    ({ putS S q false (was ++ b) with used := S.used + (was.length + b.length) - old.length }, 0) else (S, 13)
def writeS (S : St) (p b : T) (more : Bool) : St × Nat := if (absS S p).2 ≠ 0 then (S, (absS S p).2) else writeQ S (absS S p).1 b more
def mkdirS (S : St) (p : T) : St × Nat := if (absS S p).2 ≠ 0 then (S, (absS S p).2) else if kindM S.m (absS S p).1 ≠ 0 then (S, 12) else
  if S.m.length + 1 ≤ S.nodes ∧ S.used ≤ S.bytes then (putS S (absS S p).1 true [], 0) else (S, 13)
def removeS (S : St) (p : T) : St × Nat := if (foundS S p).2 ≠ 0 then (S, (foundS S p).2) else if (foundS S p).1 = [47] then (S, 1) else
  if belowM S.m (foundS S p).1 ≠ [] then (S, 14) else ({ S with m := delG (bs (foundS S p).1) S.m, used := S.used - (dataM S.m (foundS S p).1).length, clock := S.clock + 1 }, 0)
def touchS (S : St) (p : T) : St × Nat := if (absS S p).2 ≠ 0 then (S, (absS S p).2) else if (absS S p).1 = [47] then (S, 0) else match getG S.m (bs (absS S p).1) with
  | none => writeS S p [] false
  | some n => (putS S (absS S p).1 n.dir n.data, 0)
/-- what stands below one path, below another one -/
def moveB (m : Mp) (a b : T) (L : List T) : Mp := L.foldl (fun m q => match getG m (bs q) with
  | none => delG (bs q) m
  | some n => delG (bs q) (putG (bs (b ++ q.drop a.length), n) m)) m
/-- what holds of every file system -/
structure WfS (S : St) : Prop where
  rise : RiseG S.m
  good : ∀ x ∈ S.m, ∃ l, GoodP l ∧ l ≠ [] ∧ x.1 = bs (joinF l)
  sum : S.used = (S.m.map fun x => x.2.data.length).sum
  nodes : S.m.length ≤ S.nodes
  bytes : S.used ≤ S.bytes
  n10 : S.nodes ≤ 10000
  b20 : S.bytes ≤ 1048576
theorem newS_wf (n b : Int) : WfS (newS n b) := ⟨RiseG.nil, by simp [newS], rfl, Nat.zero_le _, Nat.zero_le _, by simp only [newS]; omega, by simp only [newS]; omega⟩
theorem sum_mem {m : Mp} {x : ByteArray × Nd} (h : x ∈ m) : x.2.data.length ≤ (m.map fun x => x.2.data.length).sum := by
  induction m with
  | nil => cases h
  | cons y m ih =>
    rw [List.map_cons, List.sum_cons]
    rcases List.mem_cons.1 h with rfl | h
    · omega
    · have := ih h; omega
/-- how many bytes a node has -/
def szO : Option Nd → Nat
  | none => 0
  | some n => n.data.length
theorem dataM_sz (m : Mp) (q : T) : (dataM m q).length = szO (getG m (bs q)) := by
  unfold dataM
  cases getG m (bs q) <;> rfl
theorem sum_put (x : ByteArray × Nd) : ∀ {m : Mp}, RiseG m → ((putG x m).map fun x => x.2.data.length).sum + szO (getG m x.1) = (m.map fun x => x.2.data.length).sum + x.2.data.length
  | [], _ => by simp [putG, getG, szO]
  | y :: m, h => by
    have h1 := List.pairwise_cons.1 h
    rw [putG, getG_cons]
    by_cases e : sLt y.1 x.1 = true
    · have e2 : y.1 ≠ x.1 := fun e2 => by rw [e2, sLt_irr] at e; cases e
      have := sum_put x h1.2
      rw [if_pos e, if_neg e2, List.map_cons, List.map_cons, List.sum_cons, List.sum_cons]
      omega
    · rw [if_neg e]
      by_cases e2 : y.1 = x.1
      · simp only [e2, if_true, List.map_cons, List.sum_cons, szO]
        omega
      · have e3 : sLt x.1 y.1 = true := (sLt_tot y.1 x.1 (by simpa using e)).resolve_left e2
        have e4 : getG m x.1 = none := getG_none_of (fun z hz e5 => by
          have := sLt_trans _ _ _ e3 (h1.1 z hz)
          rw [e5, sLt_irr] at this; cases this)
        rw [if_neg e2, if_neg e2, e4]
        simp only [List.map_cons, List.sum_cons, szO]
        omega
theorem sum_del (n : ByteArray) : ∀ {m : Mp}, RiseG m → ((delG n m).map fun x => x.2.data.length).sum + szO (getG m n) = (m.map fun x => x.2.data.length).sum
  | [], _ => by simp [delG, getG, szO]
  | y :: m, h => by
    have h1 := List.pairwise_cons.1 h
    have ih := sum_del n h1.2
    unfold delG at ih ⊢
    rw [List.filter_cons, getG_cons]
    by_cases e : y.1 = n
    · subst e
      have e4 : getG m y.1 = none := getG_none_of (RiseG.ne h)
      rw [e4] at ih
      simp only [decide_true, Bool.not_true, Bool.false_eq_true, if_false, if_true, List.map_cons, List.sum_cons, szO]
      simp only [szO] at ih
      omega
    · simp only [decide_eq_false e, Bool.not_false, if_true, if_neg e, List.map_cons, List.sum_cons]
      omega
theorem dataM_len {S : St} (h : WfS S) (q : T) : (dataM S.m q).length ≤ S.used := by
  unfold dataM
  cases hg : getG S.m (bs q) with
  | none => simp
  | some n => rw [h.sum]; exact sum_mem (getG_mem hg)
end Go.Proofs.YtkajhdbcnmafcaaGreatDoor.Vf

/-! Plain law of file systems: the way to a path, name by name; what lies below a path. No program in sight. -/
namespace Go.Proofs.YtkajhdbcnmafcaaGreatDoor.Vf
open Ln Pth

/-- why there is no way, name by name -/
def wayL (m : Mp) (pre : List T) : List T → Nat
  | [] => 0
  | s :: r => if kindM m (joinF pre) = 0 then 6 else if kindM m (joinF pre) = 1 then 11 else wayL m (pre ++ [s]) r
theorem way_skip (m : Mp) (q : T) : ∀ (n f i : Nat), i + n ≤ q.length → (∀ j, j < n → q.getD (i + j) 0 ≠ 47) → wayB m q (n + f) i = wayB m q f (i + n)
  | 0, f, i, _, _ => by rw [Nat.zero_add]; rfl
  | n + 1, f, i, h, hj => by
    have h1 := hj 0 (by omega)
    rw [Nat.add_zero] at h1
    rw [show n + 1 + f = (n + f) + 1 by omega, wayB, if_neg (by omega), if_pos (.inl h1), way_skip m q n f (i + 1) (by omega) (fun j hj' => by
      have := hj (j + 1) (by omega)
      rwa [show i + 1 + j = i + (j + 1) by omega])]
    congr 1
    omega
theorem getD_app_right (a b : T) (j : Nat) : (a ++ b).getD (a.length + j) 0 = b.getD j 0 := by
  simp [List.getD_eq_getElem?_getD, List.getElem?_append_right]
theorem getD_ne {s : T} (h : 47 ∉ s) {j : Nat} (hj : j < s.length) : s.getD j 0 ≠ 47 := by
  rw [List.getD_eq_getElem?_getD, List.getElem?_eq_getElem hj]
  intro e
  exact h (by rw [← e]; exact List.getElem_mem _)
theorem slashed_cons (s : T) (r : List T) : slashed (s :: r) = 47 :: (s ++ slashed r) := by simp [slashed]
theorem way_names (m : Mp) : ∀ (rest pre : List T) (q : T), q = slashed pre ++ slashed rest → pre ≠ [] → (∀ s ∈ rest, 47 ∉ s) → wayB m q (slashed rest).length (slashed pre).length = wayL m pre rest
  | [], pre, q, _, _, _ => rfl
  | s :: r, pre, q, hq, hp, hs => by
    have hl : (slashed (s :: r)).length = s.length + (slashed r).length + 1 := by rw [slashed_cons]; simp
    have hql : q.length = (slashed pre).length + (slashed (s :: r)).length := by rw [hq, List.length_append]
    have h0 : q.getD (slashed pre).length 0 = 47 := by
      have := getD_app_right (slashed pre) (slashed (s :: r)) 0
      rw [Nat.add_zero] at this
      rw [hq, this, slashed_cons]; rfl
    have hpl : (slashed pre).length ≠ 0 := fun e => slashed_ne hp (List.length_eq_zero_iff.1 e)
    have ht : q.take (slashed pre).length = joinF pre := by rw [hq, List.take_left', joinF, if_neg hp]; rfl
    have hn : slashed (pre ++ [s]) = slashed pre ++ (47 :: s) := by rw [slashed_app]; simp [slashed]
    have ih := way_names m r (pre ++ [s]) q (by rw [hq, hn, slashed_cons]; simp) (by simp) (fun x hx => hs x (by simp [hx]))
    rw [hl, wayB, if_neg (by omega), if_neg (by rw [h0]; simpa using hpl), ht, wayL]
    split
    · rfl
    · split
      · rfl
      · rw [way_skip m q s.length (slashed r).length ((slashed pre).length + 1) (by omega) (fun j hj => by
          have := getD_app_right (slashed pre) (slashed (s :: r)) (j + 1)
          rw [hq, show (slashed pre).length + 1 + j = (slashed pre).length + (j + 1) by omega, this, slashed_cons, List.getD_cons_succ]
          rw [List.getD_eq_getElem?_getD, List.getElem?_append_left hj, ← List.getD_eq_getElem?_getD]
          exact getD_ne (hs s (by simp)) hj), ← ih, hn, List.length_append]
        congr 1
        simp only [List.length_cons]
        omega
/-- the way to a path of names -/
theorem way_join (m : Mp) : ∀ {l : List T}, (∀ s ∈ l, 47 ∉ s) → wayM m (joinF l) = match l with
    | [] => 0
    | s :: r => wayL m [s] r
  | [], _ => rfl
  | s :: r, h => by
    have e : joinF (s :: r) = slashed [s] ++ slashed r := by rw [joinF, if_neg (by simp), ← slashed_app]; rfl
    have e1 : slashed [s] = 47 :: s := by simp [slashed]
    have := way_names m r [s] (joinF (s :: r)) e (by simp) (fun x hx => h x (by simp [hx]))
    have hlen : (joinF (s :: r)).length = (s.length + (slashed r).length) + 1 := by rw [e, e1]; simp
    unfold wayM
    rw [hlen, wayB, if_neg (by omega), if_pos (.inr rfl), way_skip m _ s.length (slashed r).length 1 (by omega) (fun j hj => by
      rw [e, e1, List.cons_append, Nat.add_comm, List.getD_cons_succ, List.getD_eq_getElem?_getD, List.getElem?_append_left hj, ← List.getD_eq_getElem?_getD]
      exact getD_ne (h s (by simp)) hj)]
    rw [e1] at this
    simpa [Nat.add_comm] using this
end Go.Proofs.YtkajhdbcnmafcaaGreatDoor.Vf

/-! Plain law of file systems: the names in a directory are rising, and those that are there. No program in sight. -/
namespace Go.Proofs.YtkajhdbcnmafcaaGreatDoor.Vf
open Ln Pth

theorem tlt_irr (a : T) : ¬ a < a := List.lt_irrefl _
theorem rise_ext : ∀ {a b : List T}, a.Pairwise (· < ·) → b.Pairwise (· < ·) → (∀ x, x ∈ a ↔ x ∈ b) → a = b
  | [], [], _, _, _ => rfl
  | [], y :: b, _, _, h => absurd ((h y).2 (by simp)) (by simp)
  | x :: a, [], _, _, h => absurd ((h x).1 (by simp)) (by simp)
  | x :: a, y :: b, ha, hb, h => by
    have a1 := List.pairwise_cons.1 ha
    have b1 := List.pairwise_cons.1 hb
    have hxy : x = y := by
      rcases List.mem_cons.1 ((h x).1 (by simp)) with e | m1
      · exact e
      · rcases List.mem_cons.1 ((h y).2 (by simp)) with e | m2
        · exact e.symm
        · exact absurd (List.lt_trans (b1.1 _ m1) (a1.1 _ m2)) (tlt_irr _)
    subst hxy
    rw [rise_ext a1.2 b1.2 (fun z => ?_)]
    constructor
    · intro hz
      rcases List.mem_cons.1 ((h z).1 (by simp [hz])) with rfl | m
      · exact absurd (a1.1 _ hz) (tlt_irr _)
      · exact m
    · intro hz
      rcases List.mem_cons.1 ((h z).2 (by simp [hz])) with rfl | m
      · exact absurd (b1.1 _ hz) (tlt_irr _)
      · exact m
theorem app_lt (fr : T) {a b : T} : fr ++ a < fr ++ b ↔ a < b := by
  induction fr with
  | nil => rfl
  | cons c fr ih => rw [List.cons_append, List.cons_append, List.cons_lt_cons_iff]; simp [ih, UInt8.lt_irrefl]
theorem keys_rise {m : Mp} (h : RiseG m) : (m.map fun x => x.1.data.toList).Pairwise (· < ·) := by
  rw [List.pairwise_map]
  exact List.Pairwise.imp (fun {a b} hab => (sLt_iff _ _).1 hab) h
theorem preB_iff {fr s : T} : preB fr s = true ↔ ∃ r, s = fr ++ r := by
  unfold preB
  rw [List.isPrefixOf_iff_prefix]
  constructor
  · rintro ⟨r, hr⟩; exact ⟨r, hr.symm⟩
  · rintro ⟨r, rfl⟩; exact ⟨r, rfl⟩
theorem below_rise {m : Mp} (h : RiseG m) (q : T) : (belowM m q).Pairwise (· < ·) := List.Pairwise.filter _ (keys_rise h)
theorem mem_below {m : Mp} {q x : T} : x ∈ belowM m q ↔ ∃ r n, x = frontF q ++ r ∧ (bs x, n) ∈ m := by
  unfold belowM
  rw [List.mem_filter, preB_iff, List.mem_map]
  constructor
  · rintro ⟨⟨y, hy, rfl⟩, r, hr⟩
    exact ⟨r, y.2, hr, by rw [bs_of]; exact hy⟩
  · rintro ⟨r, n, hr, hm⟩
    exact ⟨⟨_, hm, bs_list x⟩, r, hr⟩
theorem mem_names {m : Mp} {q x : T} : x ∈ namesM m q ↔ 47 ∉ x ∧ ∃ n, (bs (frontF q ++ x), n) ∈ m := by
  unfold namesM
  rw [List.mem_filter, List.mem_map]
  simp only [decide_eq_true_eq]
  constructor
  · rintro ⟨⟨y, hy, rfl⟩, h47⟩
    obtain ⟨r, n, rfl, hm⟩ := mem_below.1 hy
    rw [List.drop_left] at h47 ⊢
    exact ⟨h47, n, hm⟩
  · rintro ⟨h47, n, hm⟩
    exact ⟨⟨frontF q ++ x, mem_below.2 ⟨x, n, rfl, hm⟩, List.drop_left⟩, h47⟩
theorem names_rise {m : Mp} (h : RiseG m) (q : T) : (namesM m q).Pairwise (· < ·) := by
  unfold namesM
  refine List.Pairwise.filter _ ?_
  rw [List.pairwise_map]
  refine List.Pairwise.imp_of_mem ?_ (below_rise h q)
  intro a b ha hb hab
  obtain ⟨r, _, rfl, _⟩ := mem_below.1 ha
  obtain ⟨s, _, rfl, _⟩ := mem_below.1 hb
  rw [List.drop_left, List.drop_left]
  exact (app_lt _).1 hab
/-- a text into a rising list, once -/
def putT (s : T) : List T → List T
  | [] => [s]
  | y :: l => if y < s then y :: putT s l else if y = s then y :: l else s :: y :: l
theorem mem_putT {s x : T} : ∀ {l : List T}, x ∈ putT s l ↔ x = s ∨ x ∈ l
  | [] => by simp [putT]
  | y :: l => by
    rw [putT]
    split
    · rw [List.mem_cons, mem_putT, List.mem_cons]
      constructor
      · rintro (h | h | h) <;> simp [h]
      · rintro (h | h | h) <;> simp [h]
    · split
      · rename_i e
        subst e
        simp
      · simp
theorem putT_rise (s : T) : ∀ {l : List T}, l.Pairwise (· < ·) → (putT s l).Pairwise (· < ·)
  | [], _ => by simp [putT]
  | y :: l, h => by
    have h1 := List.pairwise_cons.1 h
    rw [putT]
    split
    · rename_i e
      refine List.pairwise_cons.2 ⟨fun z hz => ?_, putT_rise s h1.2⟩
      rcases mem_putT.1 hz with rfl | hz
      · exact e
      · exact h1.1 z hz
    · rename_i e
      split
      · exact h
      · rename_i e2
        have e3 : s < y := by
          rcases List.le_total s y with h | h
          · rcases List.le_iff_lt_or_eq.1 h with h | h
            · exact h
            · exact absurd h.symm e2
          · rcases List.le_iff_lt_or_eq.1 h with h | h
            · exact absurd h e
            · exact absurd h e2
        refine List.pairwise_cons.2 ⟨fun z hz => ?_, h⟩
        rcases List.mem_cons.1 hz with rfl | hz
        · exact e3
        · exact List.lt_trans e3 (h1.1 z hz)
theorem mem_put {m : Mp} (h : RiseG m) {k : ByteArray} {v : Nd} {n : ByteArray} : (∃ u, (n, u) ∈ putG (k, v) m) ↔ n = k ∨ ∃ u, (n, u) ∈ m := by
  constructor
  · rintro ⟨u, hu⟩
    rcases mem_putG hu with e | e
    · injection e with e1 e2; exact .inl e1
    · exact .inr ⟨u, e⟩
  · intro hu
    have := getG_put (k, v) n m
    by_cases e : k = n
    · rw [if_pos e] at this
      exact ⟨v, getG_mem this⟩
    · rw [if_neg e] at this
      rcases hu with rfl | ⟨u, hu⟩
      · exact absurd rfl e
      · exact ⟨u, getG_mem (this.trans (mem_getG h hu))⟩
/-- a name is put into its directory -/
theorem names_put {m : Mp} (h : RiseG m) {q s : T} (hs : 47 ∉ s) (v : Nd) : namesM (putG (bs (frontF q ++ s), v) m) q = putT s (namesM m q) := by
  refine rise_ext (names_rise (RiseG.put _ h) q) (putT_rise s (names_rise h q)) (fun x => ?_)
  rw [mem_names, mem_putT, mem_names, mem_put h]
  constructor
  · rintro ⟨h1, h2⟩
    rcases h2 with h2 | h2
    · exact .inl (List.append_cancel_left (bs_inj h2))
    · exact .inr ⟨h1, h2⟩
  · rintro (rfl | ⟨h1, h2⟩)
    · exact ⟨hs, .inl rfl⟩
    · exact ⟨h1, .inr h2⟩
/-- what is put elsewhere is none of its names -/
theorem names_other {m : Mp} (h : RiseG m) {q : T} {k : ByteArray} (hk : ∀ s, 47 ∉ s → k ≠ bs (frontF q ++ s)) (v : Nd) : namesM (putG (k, v) m) q = namesM m q := by
  refine rise_ext (names_rise (RiseG.put _ h) q) (names_rise h q) (fun x => ?_)
  rw [mem_names, mem_names, mem_put h]
  constructor
  · rintro ⟨h1, h2⟩
    rcases h2 with h2 | h2
    · exact absurd h2.symm (hk x h1)
    · exact ⟨h1, h2⟩
  · rintro ⟨h1, h2⟩
    exact ⟨h1, .inr h2⟩
end Go.Proofs.YtkajhdbcnmafcaaGreatDoor.Vf

/-! Plain law of file systems: what holds of every file system holds behind each call. No program in sight. -/
namespace Go.Proofs.YtkajhdbcnmafcaaGreatDoor.Vf
open Ln Pth

theorem absS_good {S : St} {p : T} (h : (absS S p).2 = 0) : ∃ l, GoodP l ∧ (absS S p).1 = joinF l ∧ (absF [47] p) = (joinF l, 0) ∧ wayM S.m (joinF l) = 0 := by
  unfold absS at h ⊢
  by_cases h1 : (absF [47] p).2 ≠ 0
  · rw [if_pos h1] at h; exact absurd h h1
  · rw [if_neg h1] at h ⊢
    by_cases h2 : wayM S.m (absF [47] p).1 ≠ 0
    · rw [if_pos h2] at h; exact absurd h h2
    · rw [if_neg h2]
      rcases absF_cases [47] p with ⟨l, g, e, _⟩ | ⟨_, e⟩
      · refine ⟨l, g, by rw [e], e, ?_⟩
        rw [e] at h2
        simpa using h2
      · omega
theorem kind_le (m : Mp) (q : T) : kindM m q ≤ 2 := by
  unfold kindM
  split
  · omega
  · split
    · omega
    · split <;> omega
theorem way_code (m : Mp) (q : T) : ∀ f i, wayB m q f i = 0 ∨ wayB m q f i = 6 ∨ wayB m q f i = 11
  | 0, i => .inl rfl
  | f + 1, i => by
    have := way_code m q f (i + 1)
    rw [wayB]
    split
    · exact .inl rfl
    · split
      · exact this
      · split
        · exact .inr (.inl rfl)
        · split
          · exact .inr (.inr rfl)
          · exact this
theorem root_kind {m : Mp} {q : T} (h : kindM m q ≠ 2) : q ≠ [47] := fun e => h (by rw [e]; rfl)
theorem getG_kind {m : Mp} {q : T} (h : kindM m q = 0) : getG m (bs q) = none := by
  unfold kindM at h
  split at h
  · cases h
  · cases hg : getG m (bs q) with
    | none => rfl
    | some n => rw [hg] at h; simp only at h; split at h <;> cases h
theorem getG_some_kind {m : Mp} {q : T} (hr : q ≠ [47]) (h : kindM m q ≠ 0) : ∃ n, getG m (bs q) = some n := by
  unfold kindM at h
  rw [if_neg hr] at h
  cases hg : getG m (bs q) with
  | none => rw [hg] at h; exact absurd rfl h
  | some n => exact ⟨n, rfl⟩
/-- a node is put -/
theorem put_wf {S : St} (h : WfS S) {l : List T} (hl : GoodP l) (hne : l ≠ []) (dir : Bool) (data : T) (used : Nat)
    (hu : used + (dataM S.m (joinF l)).length = S.used + data.length) (hb : used ≤ S.bytes) (hn : (putG (bs (joinF l), (⟨dir, data, S.clock + 1⟩ : Nd)) S.m).length ≤ S.nodes) :
    WfS { putS S (joinF l) dir data with used := used } := by
  refine ⟨RiseG.put _ h.rise, fun x hx => ?_, ?_, hn, hb, h.n10, h.b20⟩
  · rcases mem_putG hx with rfl | hx
    · exact ⟨l, hl, hne, rfl⟩
    · exact h.good x hx
  · have h1 := sum_put (bs (joinF l), (⟨dir, data, S.clock + 1⟩ : Nd)) h.rise
    have h2 := h.sum
    show used = ((putG (bs (joinF l), (⟨dir, data, S.clock + 1⟩ : Nd)) S.m).map fun x => x.2.data.length).sum
    rw [dataM_sz] at hu
    simp only at h1
    omega
theorem put_len {S : St} (h : WfS S) (k : ByteArray) (v : Nd) : (putG (k, v) S.m).length = S.m.length + (if (getG S.m k).isSome then 0 else 1) := by
  rw [putG_len _ h.rise]; split <;> rfl
theorem good_ne {l : List T} {q : T} (hq : q = joinF l) (h : q ≠ [47]) : l ≠ [] := fun e => h (by rw [hq, e]; rfl)
theorem write_wf {S : St} (h : WfS S) {l : List T} (hl : GoodP l) (b : T) (more : Bool) : WfS (writeQ S (joinF l) b more).1 := by
  unfold writeQ
  by_cases hk : kindM S.m (joinF l) = 2
  · rw [if_pos hk]; exact h
  · rw [if_neg hk]
    have hne : l ≠ [] := good_ne rfl (root_kind hk)
    have hd := dataM_len h (joinF l)
    simp only
    generalize hw : (if more = true then dataM S.m (joinF l) else []) = was
    by_cases hc : S.m.length + (if kindM S.m (joinF l) = 0 then 1 else 0) ≤ S.nodes ∧ S.used + (was.length + b.length) ≤ S.bytes + (dataM S.m (joinF l)).length
    · rw [if_pos hc]
      refine put_wf h hl hne false _ _ ?_ ?_ ?_
      · simp only [List.length_append]; omega
      · omega
      · rw [put_len h]
        by_cases h0 : kindM S.m (joinF l) = 0
        · rw [if_pos h0] at hc; split <;> omega
        · obtain ⟨n, hn⟩ := getG_some_kind (root_kind hk) h0
          have := h.nodes
          simpa [hn] using this
    · rw [if_neg hc]; exact h
theorem writeS_wf {S : St} (h : WfS S) (p b : T) (more : Bool) : WfS (writeS S p b more).1 := by
  unfold writeS
  split
  · exact h
  · rename_i h1
    obtain ⟨l, hl, e, _⟩ := absS_good (S := S) (p := p) (by simpa using h1)
    rw [e]
    exact write_wf h hl b more
theorem mkdirS_wf {S : St} (h : WfS S) (p : T) : WfS (mkdirS S p).1 := by
  unfold mkdirS
  split
  · exact h
  · rename_i h1
    obtain ⟨l, hl, e, _⟩ := absS_good (S := S) (p := p) (by simpa using h1)
    rw [e]
    split
    · exact h
    · rename_i hk
      have hk : kindM S.m (joinF l) = 0 := by simpa using hk
      have hne : l ≠ [] := good_ne rfl (root_kind (m := S.m) (by omega))
      have hg := getG_kind hk
      split
      · rename_i hc
        refine put_wf h hl hne true [] S.used ?_ hc.2 ?_
        · unfold dataM; rw [hg]
        · rw [put_len h, hg]; simpa using hc.1
      · exact h
theorem del_wf {S : St} (h : WfS S) (k : ByteArray) (clock : Nat) : WfS { S with m := delG k S.m, used := S.used - szO (getG S.m k), clock := clock } := by
  have h1 := sum_del k h.rise
  have h2 := h.sum
  have h3 := delG_len k h.rise
  have h4 := h.nodes
  have h5 := h.bytes
  refine ⟨RiseG.del h.rise k, fun x hx => h.good x ((List.mem_filter.1 hx).1), ?_, ?_, ?_, h.n10, h.b20⟩
  · show S.used - _ = ((delG k S.m).map fun x => x.2.data.length).sum
    omega
  · show (delG k S.m).length ≤ S.nodes
    omega
  · show S.used - _ ≤ S.bytes
    omega
theorem removeS_wf {S : St} (h : WfS S) (p : T) : WfS (removeS S p).1 := by
  unfold removeS
  split
  · exact h
  · split
    · exact h
    · split
      · exact h
      · rw [dataM_sz]
        exact del_wf h (bs (foundS S p).1) (S.clock + 1)
theorem touchS_wf {S : St} (h : WfS S) (p : T) : WfS (touchS S p).1 := by
  unfold touchS
  split
  · exact h
  · rename_i h1
    obtain ⟨l, hl, e, _⟩ := absS_good (S := S) (p := p) (by simpa using h1)
    split
    · exact h
    · rename_i h2
      cases hg : getG S.m (bs (absS S p).1) with
      | none => exact writeS_wf h p [] false
      | some n =>
        rw [e] at h2 hg ⊢
        have hne : l ≠ [] := good_ne rfl h2
        exact put_wf h hl hne n.dir n.data S.used (by unfold dataM; rw [hg]) h.bytes (by rw [put_len h, hg]; simpa using h.nodes)
end Go.Proofs.YtkajhdbcnmafcaaGreatDoor.Vf

/-! Plain law: what a loop over a map has collected, in whatever order. No program in sight. -/
namespace Go.Proofs.YtkajhdbcnmafcaaGreatDoor.Vf
open Ln Pth

theorem filt_step {keys : List ByteArray} (hnd : keys.Nodup) {x : ByteArray} (hx : x ∈ keys) {p q q' : ByteArray → Bool} (hq' : ∀ k, q' k = (q k || decide (k = x))) (hqx : q x = false) :
    (keys.filter fun k => p k && q' k).Perm ((keys.filter fun k => p k && q k) ++ if p x = true then [x] else []) := by
  induction keys with
  | nil => cases hx
  | cons y keys ih =>
    have hn := List.nodup_cons.1 hnd
    by_cases e : y = x
    · subst e
      have hrest : (keys.filter fun k => p k && q' k) = (keys.filter fun k => p k && q k) := by
        apply List.filter_congr
        intro k hk
        have : k ≠ y := fun e => hn.1 (e ▸ hk)
        rw [hq']
        simp [this]
      rw [List.filter_cons, List.filter_cons, hrest, hq', hqx]
      by_cases hp : p y = true
      · simp only [hp, Bool.true_and, Bool.false_or, decide_true, if_true, Bool.false_eq_true, if_false]
        exact List.perm_append_comm (l₁ := [y])
      · simp only [hp, Bool.false_and, Bool.false_eq_true, if_false, List.append_nil]
        exact List.Perm.refl _
    · have hx2 : x ∈ keys := by
        rcases List.mem_cons.1 hx with h | h
        · exact absurd h.symm e
        · exact h
      have ih := ih hn.2 hx2
      rw [List.filter_cons, List.filter_cons]
      have hqy : q' y = q y := by rw [hq']; simp [e]
      rw [hqy]
      split
      · exact ih.cons y
      · exact ih
theorem rise_nodup {α : Type} {P : KV α} (h : RiseG P) : (P.map (·.1)).Nodup := by
  rw [List.nodup_iff_pairwise_ne, List.pairwise_map]
  exact List.Pairwise.imp (fun {a b} hab e => by rw [e, sLt_irr] at hab; cases hab) h
/-- what is sorted is what stands in order -/
theorem sort_below {m : Mp} (h : RiseG m) (q : T) {ss : List (List UInt8)} (hp : ss.Perm (belowM m q)) : ss.mergeSort (fun x y => decide (x ≤ y)) = belowM m q := by
  have htr : ∀ a b c : List UInt8, decide (a ≤ b) = true → decide (b ≤ c) = true → decide (a ≤ c) = true := by
    intro a b c h1 h2
    rw [decide_eq_true_iff] at *
    exact List.le_trans h1 h2
  have htot : ∀ a b : List UInt8, (decide (a ≤ b) || decide (b ≤ a)) = true := by
    intro a b
    rw [Bool.or_eq_true, decide_eq_true_iff, decide_eq_true_iff]
    exact List.le_total a b
  have hs := List.pairwise_mergeSort htr htot ss
  refine List.Perm.eq_of_pairwise (fun a b _ _ h1 h2 => ?_) hs (List.Pairwise.imp (fun {a b} hab => ?_) (below_rise h q)) ((List.mergeSort_perm ss _).trans hp)
  · rw [decide_eq_true_iff] at h1 h2
    exact List.le_antisymm h1 h2
  · rw [decide_eq_true_iff]
    exact List.le_of_lt hab
theorem below_map (m : Mp) (q : T) : belowM m q = ((m.map (·.1)).filter fun k => preB (frontF q) k.data.toList).map (fun k => k.data.toList) := by
  unfold belowM
  rw [show (m.map fun x => x.1.data.toList) = (m.map (·.1)).map (fun k => k.data.toList) by rw [List.map_map]; rfl, List.filter_map]
  rfl
end Go.Proofs.YtkajhdbcnmafcaaGreatDoor.Vf

/-! Plain law: what is put into a directory. No program in sight. -/
namespace Go.Proofs.YtkajhdbcnmafcaaGreatDoor.Vf
open Ln Pth

/-- a name that may stand in a directory -/
structure GoodN (s : T) : Prop where
  ok : okN s
  len : s.length ≤ 60
  zero : 0 ∉ s
def inD (s : T) : T := 47 :: 100 :: 47 :: s
theorem inD_join (s : T) : inD s = joinF [[100], s] := by simp [inD, joinF, slashed]
theorem goodD {s : T} (h : GoodN s) : GoodP [[100], s] := by
  have hd : okN [100] := by simp [okN]
  refine ⟨?_, ?_, ?_, by simp, ?_⟩
  · intro x hx
    rcases List.mem_cons.1 hx with rfl | hx
    · exact hd
    · rw [List.mem_singleton.1 hx]; exact h.ok
  · intro x hx
    rcases List.mem_cons.1 hx with rfl | hx
    · simp
    · rw [List.mem_singleton.1 hx]; exact h.len
  · intro x hx
    rcases List.mem_cons.1 hx with rfl | hx
    · simp
    · rw [List.mem_singleton.1 hx]; exact h.zero
  · rw [← inD_join]
    have := h.len
    simp [inD]
    omega
theorem abs_inD {s : T} (h : GoodN s) : absF [47] (inD s) = (inD s, 0) := by rw [inD_join]; exact absF_good (goodD h)
theorem abs_rel {s : T} (h : GoodN s) : absF [47] (100 :: 47 :: s) = (inD s, 0) := by
  have hp : partsF [47] (100 :: 47 :: s) = [[100], s] := by
    unfold partsF
    rw [if_neg (by simp)]
    have e1 : spl 47 [47] = [[], []] := rfl
    have e2 : spl 47 (100 :: 47 :: s) = [[100], s] := by
      have := spl_app (c := 47) (a := [100]) s (by simp)
      rw [spl_none h.ok.2.2.2] at this
      exact this
    rw [e1, e2]
    show List.foldl stepP [] [[], [], [100], s] = _
    rw [List.foldl_cons, stepP_nil, List.foldl_cons, stepP_nil]
    exact foldl_names [[100], s] [] (goodD h).ok
  have hg := goodD h
  unfold absF
  rw [if_neg (by
    rintro (e | e | e)
    · cases e
    · simp at e
    · rcases List.mem_cons.1 e with e | e
      · cases e
      · rcases List.mem_cons.1 e with e | e
        · cases e
        · exact h.zero e), hp, if_pos ⟨(longF_iff _).2 hg.long, hg.deep, hg.len⟩, inD_join]
/-- a file system with the directory /d, and its names -/
structure LI (S : St) (want : List T) (i : Nat) : Prop where
  wf : WfS S
  nodes : S.nodes = 50
  bytes : S.bytes = 50
  clock : S.clock ≤ 2 + i
  len : S.m.length ≤ 2 + i
  dir : kindM S.m [47, 100] = 2
  names : namesM S.m [47, 100] = want
theorem kind_put {m : Mp} {k : ByteArray} {v : Nd} {q : T} (hk : k ≠ bs q) : kindM (putG (k, v) m) q = kindM m q := by
  unfold kindM
  rw [getG_put, if_neg hk]
theorem inD_ne (s : T) : bs (inD s) ≠ bs [47, 100] := fun e => by
  have := congrArg List.length (bs_inj e)
  simp [inD] at this
theorem front_d : frontF [47, 100] = [47, 100, 47] := rfl
theorem LI.way {S : St} {want : List T} {i : Nat} (h : LI S want i) {s : T} (hs : GoodN s) : wayM S.m (inD s) = 0 := by
  rw [inD_join, way_join S.m (fun x hx => ((goodD hs).ok x hx).2.2.2)]
  show wayL S.m [[100]] [s] = 0
  have hk : kindM S.m (joinF [[100]]) = 2 := h.dir
  rw [wayL, hk]
  rfl
theorem LI.abs {S : St} {want : List T} {i : Nat} (h : LI S want i) {s : T} (hs : GoodN s) (p : T) (hp : absF [47] p = (inD s, 0)) : absS S p = (inD s, 0) := by
  unfold absS
  rw [hp]
  simp only [ne_eq, not_true_eq_false, if_false]
  rw [h.way hs]
  rfl
/-- a node is put into it -/
theorem LI.put {S : St} {want : List T} {i : Nat} (h : LI S want i) {s : T} (hs : GoodN s) (dir : Bool) (data : T) (used : Nat) (hw : WfS { putS S (inD s) dir data with used := used }) : LI { putS S (inD s) dir data with used := used } (putT s want) (i + 1) := by
  refine ⟨hw, h.nodes, h.bytes, ?_, ?_, ?_, ?_⟩
  · show S.clock + 1 ≤ _; have := h.clock; omega
  · show (putG (bs (inD s), (⟨dir, data, S.clock + 1⟩ : Nd)) S.m).length ≤ _
    rw [put_len h.wf]
    have := h.len
    split <;> omega
  · exact (kind_put (inD_ne s)).trans h.dir
  · show namesM (putG (bs (inD s), _) S.m) [47, 100] = _
    have := names_put h.wf.rise (q := [47, 100]) hs.ok.2.2.2 ⟨dir, data, S.clock + 1⟩
    rw [front_d] at this
    rw [← h.names]
    exact this
theorem putT_in {s : T} : ∀ {l : List T}, l.Pairwise (· < ·) → s ∈ l → putT s l = l := by
  intro l hl hs
  refine rise_ext (putT_rise s hl) hl (fun x => ?_)
  rw [mem_putT]
  constructor
  · rintro (rfl | h)
    · exact hs
    · exact h
  · exact .inr
theorem inD_not_root (s : T) : inD s ≠ [47] := by simp [inD]
theorem LI.mkdir {S : St} {want : List T} {i : Nat} (h : LI S want i) (hi : i < 40) {s : T} (hs : GoodN s) : LI (mkdirS S (inD s)).1 (putT s want) (i + 1) := by
  have ha := h.abs hs (inD s) (abs_inD hs)
  have hwf := mkdirS_wf h.wf (inD s)
  unfold mkdirS at hwf ⊢
  rw [ha] at hwf ⊢
  simp only [ne_eq, not_true_eq_false, if_false] at hwf ⊢
  by_cases hk : kindM S.m (inD s) = 0
  · rw [if_neg (by simpa using hk)] at hwf ⊢
    have hc : S.m.length + 1 ≤ S.nodes ∧ S.used ≤ S.bytes := ⟨by have := h.len; rw [h.nodes]; omega, h.wf.bytes⟩
    rw [if_pos hc] at hwf ⊢
    exact h.put hs true [] S.used hwf
  · rw [if_pos (by simpa using hk)]
    obtain ⟨n, hn⟩ := getG_some_kind (inD_not_root s) hk
    have hin : s ∈ want := by
      rw [← h.names]
      exact mem_names.2 ⟨hs.ok.2.2.2, n, by rw [front_d]; exact getG_mem hn⟩
    rw [putT_in (h.names ▸ names_rise h.wf.rise _) hin]
    exact ⟨h.wf, h.nodes, h.bytes, by show S.clock ≤ _; have := h.clock; omega, by show S.m.length ≤ _; have := h.len; omega, h.dir, h.names⟩
theorem LI.touch {S : St} {want : List T} {i : Nat} (h : LI S want i) (hi : i < 40) {s : T} (hs : GoodN s) (p : T) (hp : absF [47] p = (inD s, 0)) : LI (touchS S p).1 (putT s want) (i + 1) := by
  have ha := h.abs hs p hp
  have hwf := touchS_wf h.wf p
  unfold touchS at hwf ⊢
  rw [ha] at hwf ⊢
  simp only [ne_eq, not_true_eq_false, if_false] at hwf ⊢
  rw [if_neg (inD_not_root s)] at hwf ⊢
  cases hg : getG S.m (bs (inD s)) with
  | some n =>
    rw [hg] at hwf
    exact h.put hs n.dir n.data S.used hwf
  | none =>
    rw [hg] at hwf
    simp only at hwf ⊢
    unfold writeS at hwf ⊢
    rw [ha] at hwf ⊢
    simp only [ne_eq, not_true_eq_false, if_false] at hwf ⊢
    have hk : kindM S.m (inD s) = 0 := by unfold kindM; rw [if_neg (inD_not_root s), hg]
    have hd : dataM S.m (inD s) = [] := by unfold dataM; rw [hg]
    unfold writeQ at hwf ⊢
    rw [hk, hd] at hwf ⊢
    simp only [Bool.false_eq_true, if_false, if_true, List.length_nil, Nat.add_zero, Nat.sub_zero, List.append_nil, show ¬ ((0 : Nat) = 2) by omega] at hwf ⊢
    have hc : S.m.length + 1 ≤ S.nodes ∧ S.used ≤ S.bytes := ⟨by have := h.len; rw [h.nodes]; omega, h.wf.bytes⟩
    rw [if_pos hc] at hwf ⊢
    exact h.put hs false [] S.used hwf
end Go.Proofs.YtkajhdbcnmafcaaGreatDoor.Vf
