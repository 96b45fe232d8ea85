/- Plain law of file systems: nodes moved one by one; the way to a path is all directories; every node hangs on a directory, and has a time of its own. No program in sight. Plain law of file systems: what Move makes of one. No program in sight. Plain law of file systems: Move keeps what holds of every file system; there and back. No program in sight. Plain law of file systems: the document's own Move makes the same; what is moved away and back is as it was, but for its time. No program in sight. -/
import Derived.Test.YtkajhdbcnmafcaaGreatDoorVfsMath
namespace Go.Proofs.YtkajhdbcnmafcaaGreatDoor.Vf
open Ln Pth

/-! what a row of moves makes of a map -/
def sumG (f : Nd → Nat) (m : Mp) : Nat := (m.map fun x => f x.2).sum
def fO (f : Nd → Nat) : Option Nd → Nat
  | none => 0
  | some n => f n
theorem sumG_put (f : Nd → Nat) (x : ByteArray × Nd) : ∀ {m : Mp}, RiseG m → sumG f (putG x m) + fO f (getG m x.1) = sumG f m + f x.2
  | [], _ => by simp [putG, getG, fO, sumG]
  | y :: m, h => by
    have h1 := List.pairwise_cons.1 h
    unfold sumG
    rw [putG, getG_cons]
    by_cases e : sLt y.1 x.1 = true
    · have e2 : y.1 ≠ x.1 := fun e2 => by rw [e2, sLt_irr] at e; cases e
      have := sumG_put f x h1.2
      unfold sumG at this
      rw [if_pos e, if_neg e2, List.map_cons, List.map_cons, List.sum_cons, List.sum_cons]
      omega
    · rw [if_neg e]
      by_cases e2 : y.1 = x.1
      · simp only [e2, if_true, List.map_cons, List.sum_cons, fO]
        omega
      · have e3 : sLt x.1 y.1 = true := (sLt_tot y.1 x.1 (by simpa using e)).resolve_left e2
        have e4 : getG m x.1 = none := getG_none_of (fun z hz e5 => by
          have := sLt_trans _ _ _ e3 (h1.1 z hz)
          rw [e5, sLt_irr] at this; cases this)
        rw [if_neg e2, if_neg e2, e4]
        simp only [List.map_cons, List.sum_cons, fO]
        omega
theorem sumG_del (f : Nd → Nat) (n : ByteArray) : ∀ {m : Mp}, RiseG m → sumG f (delG n m) + fO f (getG m n) = sumG f m
  | [], _ => by simp [delG, getG, fO, sumG]
  | y :: m, h => by
    have h1 := List.pairwise_cons.1 h
    have ih := sumG_del f n h1.2
    unfold sumG delG at *
    rw [List.filter_cons, getG_cons]
    by_cases e : y.1 = n
    · subst e
      have e4 : getG m y.1 = none := getG_none_of (RiseG.ne h)
      rw [e4] at ih
      simp only [decide_true, Bool.not_true, Bool.false_eq_true, if_false, if_true, List.map_cons, List.sum_cons, fO]
      simp only [fO] at ih
      omega
    · simp only [decide_eq_false e, Bool.not_false, if_true, if_neg e, List.map_cons, List.sum_cons]
      omega
theorem sumG_one (m : Mp) : sumG (fun _ => 1) m = m.length := by
  unfold sumG
  induction m with
  | nil => rfl
  | cons x m ih => rw [List.map_cons, List.sum_cons, ih, List.length_cons]; exact Nat.add_comm _ _
/-- where a path lies behind a move -/
def tgt (a b q : T) : T := b ++ q.drop a.length
def nodeZ : Nd := ⟨false, [], 0⟩
def mvStep (a b : T) (m : Mp) (q : T) : Mp := delG (bs q) (putG (bs (tgt a b q), (getG m (bs q)).getD nodeZ) m)
def mvL (a b : T) (m : Mp) (L : List T) : Mp := L.foldl (mvStep a b) m
theorem mvL_rise (a b : T) : ∀ (L : List T) {m : Mp}, RiseG m → RiseG (mvL a b m L)
  | [], _, h => h
  | q :: L, m, h => mvL_rise a b L (m := mvStep a b m q) (RiseG.del (RiseG.put _ h) _)
theorem step_get (a b q : T) (m : Mp) (k : ByteArray) : getG (mvStep a b m q) k = if bs q = k then none else if bs (tgt a b q) = k then some ((getG m (bs q)).getD nodeZ) else getG m k := by
  unfold mvStep
  rw [getG_del, getG_put]
structure MvOk (a b : T) (L : List T) : Prop where
  nd : L.Nodup
  inj : ∀ q ∈ L, ∀ q' ∈ L, tgt a b q = tgt a b q' → q = q'
  apart : ∀ q ∈ L, ∀ q' ∈ L, tgt a b q ≠ q'
theorem MvOk.tail {a b q : T} {L : List T} (h : MvOk a b (q :: L)) : MvOk a b L :=
  ⟨(List.nodup_cons.1 h.nd).2, fun x hx y hy => h.inj x (by simp [hx]) y (by simp [hy]), fun x hx y hy => h.apart x (by simp [hx]) y (by simp [hy])⟩
theorem mvL_get {a b : T} : ∀ (L : List T) (m : Mp), MvOk a b L →
    (∀ q ∈ L, getG (mvL a b m L) (bs (tgt a b q)) = some ((getG m (bs q)).getD nodeZ)) ∧ (∀ q ∈ L, getG (mvL a b m L) (bs q) = none) ∧
    ∀ k, (∀ q ∈ L, k ≠ bs q ∧ k ≠ bs (tgt a b q)) → getG (mvL a b m L) k = getG m k
  | [], m, _ => ⟨fun q hq => (by cases hq), fun q hq => (by cases hq), fun k _ => rfl⟩
  | q :: L, m, h => by
    obtain ⟨i1, i2, i3⟩ := mvL_get L (mvStep a b m q) h.tail
    have hq := List.nodup_cons.1 h.nd
    have e0 : mvL a b m (q :: L) = mvL a b (mvStep a b m q) L := rfl
    have ne1 : ∀ x ∈ L, x ≠ q := fun x hx e => hq.1 (e ▸ hx)
    have ht : ∀ x ∈ q :: L, ∀ y ∈ q :: L, bs (tgt a b x) ≠ bs y := fun x hx y hy e => h.apart x hx y hy (bs_inj e)
    refine ⟨fun x hx => ?_, fun x hx => ?_, fun k hk => ?_⟩
    · rw [e0]
      rcases List.mem_cons.1 hx with rfl | hx
      · rw [i3 _ (fun y hy => ⟨ht x (by simp) y (by simp [hy]), fun e => ne1 y hy (h.inj x (by simp) y (by simp [hy]) (bs_inj e)).symm⟩), step_get, if_neg (fun e => ht x (by simp) x (by simp) e.symm), if_pos rfl]
      · rw [i1 x hx, step_get, if_neg (fun e => ne1 x hx (bs_inj e).symm), if_neg (ht q (by simp) x (by simp [hx]))]
    · rw [e0]
      rcases List.mem_cons.1 hx with rfl | hx
      · rw [i3 _ (fun y hy => ⟨fun e => ne1 y hy (bs_inj e).symm, fun e => ht y (by simp [hy]) x (by simp) e.symm⟩), step_get, if_pos rfl]
      · exact i2 x hx
    · rw [e0, i3 k (fun y hy => hk y (by simp [hy])), step_get, if_neg (fun e => (hk q (by simp)).1 e.symm), if_neg (fun e => (hk q (by simp)).2 e.symm)]
/-- moving to where nothing is keeps all sums -/
theorem mvL_sum (f : Nd → Nat) {a b : T} : ∀ (L : List T) {m : Mp}, RiseG m → MvOk a b L → (∀ q ∈ L, getG m (bs q) ≠ none) → (∀ q ∈ L, getG m (bs (tgt a b q)) = none) → sumG f (mvL a b m L) = sumG f m
  | [], _, _, _, _, _ => rfl
  | q :: L, m, hr, h, h1, h2 => by
    have hq := List.nodup_cons.1 h.nd
    have ne1 : ∀ x ∈ L, x ≠ q := fun x hx e => hq.1 (e ▸ hx)
    have e0 : mvL a b m (q :: L) = mvL a b (mvStep a b m q) L := rfl
    obtain ⟨n, hn⟩ := Option.ne_none_iff_exists'.1 (h1 q (by simp))
    have s1 := sumG_put f (bs (tgt a b q), n) hr
    have s2 := sumG_del f (bs q) (RiseG.put (bs (tgt a b q), n) hr)
    rw [getG_put, if_neg (fun e => h.apart q (by simp) q (by simp) (bs_inj e)), hn] at s2
    rw [h2 q (by simp)] at s1
    simp only [fO] at s1 s2
    rw [e0, mvL_sum f (m := mvStep a b m q) L (RiseG.del (RiseG.put _ hr) _) h.tail (fun x hx => ?_) (fun x hx => ?_)]
    · unfold mvStep
      rw [hn]
      show sumG f (delG (bs q) (putG (bs (tgt a b q), n) m)) = _
      omega
    · rw [step_get, if_neg (fun e => ne1 x hx (bs_inj e).symm), if_neg (fun e => h.apart q (by simp) x (by simp [hx]) (bs_inj e))]
      exact h1 x (by simp [hx])
    · rw [step_get, if_neg (fun e => h.apart x (by simp [hx]) q (by simp) (bs_inj e).symm), if_neg (fun e => ne1 x hx (h.inj q (by simp) x (by simp [hx]) (bs_inj e)).symm)]
      exact h2 x (by simp [hx])

end Go.Proofs.YtkajhdbcnmafcaaGreatDoor.Vf
namespace Go.Proofs.YtkajhdbcnmafcaaGreatDoor.Pth
open Ln
theorem GoodP.front {l : List T} {s : T} (h : GoodP (l ++ [s])) : GoodP l := by
  have := h.take l.length
  rwa [List.take_left' rfl] at this
end Go.Proofs.YtkajhdbcnmafcaaGreatDoor.Pth
namespace Go.Proofs.YtkajhdbcnmafcaaGreatDoor.Vf
open Ln Pth
/-! the way to a path -/
theorem wayL_iff (m : Mp) : ∀ (rest pre : List T), wayL m pre rest = 0 ↔ ∀ k, k < rest.length → kindM m (joinF (pre ++ rest.take k)) = 2
  | [], pre => by simp [wayL]
  | s :: r, pre => by
    have hk := kind_le m (joinF pre)
    rw [wayL]
    constructor
    · intro h k hkl
      split at h
      · cases h
      · split at h
        · cases h
        · cases k with
          | zero => rw [List.take_zero, List.append_nil]; omega
          | succ k =>
            have := (wayL_iff m r (pre ++ [s])).1 h k (by simpa using hkl)
            rwa [List.append_assoc] at this
    · intro h
      have h0 := h 0 (by simp)
      rw [List.take_zero, List.append_nil] at h0
      rw [if_neg (by omega), if_neg (by omega)]
      refine (wayL_iff m r (pre ++ [s])).2 (fun k hk => ?_)
      have := h (k + 1) (by simpa using hk)
      rwa [List.take_succ_cons, ← List.singleton_append, ← List.append_assoc] at this
theorem way_iff (m : Mp) {l : List T} (h : ∀ s ∈ l, okN s) : wayM m (joinF l) = 0 ↔ ∀ k, 0 < k → k < l.length → kindM m (joinF (l.take k)) = 2 := by
  have h47 : ∀ s ∈ l, 47 ∉ s := fun s hs => (h s hs).2.2.2
  cases l with
  | nil => rw [way_join m h47]; simp
  | cons s r =>
    rw [way_join m h47]
    dsimp only
    rw [wayL_iff]
    constructor
    · intro h k h0 hk
      obtain ⟨j, rfl⟩ : ∃ j, k = j + 1 := ⟨k - 1, by omega⟩
      have := h j (by simpa using hk)
      simpa using this
    · intro h k hk
      have := h (k + 1) (by omega) (by simpa using hk)
      simpa using this
theorem key_inj {a b : List T} (ha : ∀ s ∈ a, okN s) (hb : ∀ s ∈ b, okN s) (h : bs (joinF a) = bs (joinF b)) : a = b := joinF_inj ha hb (bs_inj h)
theorem root_not {S : St} (h : WfS S) : getG S.m (bs [47]) = none := by
  cases hg : getG S.m (bs [47]) with
  | none => rfl
  | some n =>
    obtain ⟨l, hl, hne, he⟩ := h.good _ (getG_mem hg)
    exact absurd ((joinF_root hl.ok).1 (bs_inj he).symm) hne
theorem kind_two {m : Mp} {q : T} (h : kindM m q = 2) : q = [47] ∨ ∃ n, getG m (bs q) = some n ∧ n.dir = true := by
  unfold kindM at h
  split at h
  · rename_i e; exact .inl e
  · cases hg : getG m (bs q) with
    | none => rw [hg] at h; cases h
    | some n =>
      rw [hg] at h
      dsimp only at h
      cases hd : n.dir with
      | true => exact .inr ⟨n, rfl, hd⟩
      | false => rw [hd] at h; cases h
theorem kind_of {m : Mp} {q : T} {n : Nd} (hq : q ≠ [47]) (h : getG m (bs q) = some n) : kindM m q = if n.dir = true then 2 else 1 := by
  unfold kindM
  rw [if_neg hq, h]
theorem kind_congr {m m' : Mp} {q : T} (h : getG m (bs q) = getG m' (bs q)) : kindM m q = kindM m' q := by
  unfold kindM
  rw [h]
/-- every node hangs on a directory, and has a time of its own -/
structure HangS (S : St) : Prop where
  hang : ∀ l s, GoodP (l ++ [s]) → getG S.m (bs (joinF (l ++ [s]))) ≠ none → kindM S.m (joinF l) = 2
  dirs : ∀ k n, getG S.m k = some n → n.dir = true → n.data = []
  times : ∀ k n, getG S.m k = some n → 1 ≤ n.time ∧ n.time ≤ S.clock
  dist : ∀ k k' n n', getG S.m k = some n → getG S.m k' = some n' → n.time = n'.time → k = k'
theorem new_hang (n b : Int) : HangS (newS n b) := ⟨fun l s _ h => absurd rfl h, fun k n h => (by cases h), fun k n h => (by cases h), fun k k' n n' h => (by cases h)⟩
theorem snoc_of {l : List T} (h : l ≠ []) : ∃ a s, l = a ++ [s] := ⟨l.dropLast, l.getLast h, (List.dropLast_concat_getLast h).symm⟩
/-- a whole path, to which there is a way: its directory is there -/
theorem way_dir {m : Mp} {l : List T} {s : T} (h : ∀ x ∈ l ++ [s], okN x) (hw : wayM m (joinF (l ++ [s])) = 0) : kindM m (joinF l) = 2 := by
  cases hl : l with
  | nil => rfl
  | cons x r =>
    rw [← hl]
    have := (way_iff m h).1 hw l.length (by rw [hl]; simp) (by simp)
    rwa [List.take_left' rfl] at this
/-- all of a node's way is there -/
theorem HangS.way {S : St} (t : HangS S) : ∀ (n : Nat) {l : List T}, l.length = n → GoodP l → (kindM S.m (joinF l) ≠ 0 ∨ ∃ a s, l = a ++ [s] ∧ kindM S.m (joinF a) = 2) → ∀ k, k < l.length → kindM S.m (joinF (l.take k)) = 2
  | 0, l, hn, hl, h, k, hk => by omega
  | n + 1, l, hn, hl, h, k, hk => by
    obtain ⟨a, s, rfl⟩ := snoc_of (l := l) (by rintro rfl; simp at hn)
    have hd : kindM S.m (joinF a) = 2 := by
      rcases h with h | ⟨a', s', e, h⟩
      · refine t.hang a s hl ?_
        obtain ⟨n, hn⟩ := getG_some_kind (fun e => by have := (joinF_root hl.ok).1 e; simp at this) h
        rw [hn]; simp
      · obtain ⟨rfl, _⟩ := List.append_inj' e rfl
        exact h
    by_cases hk2 : k < a.length
    · rw [List.take_append_of_le_length (by omega)]
      exact HangS.way t n (by simpa using hn) hl.front (.inl (by omega)) k hk2
    · obtain rfl : k = a.length := by simp at hk; omega
      rwa [List.take_left' rfl]
theorem HangS.wayOk {S : St} (t : HangS S) {l : List T} (hl : GoodP l) (h : kindM S.m (joinF l) ≠ 0 ∨ ∃ a s, l = a ++ [s] ∧ kindM S.m (joinF a) = 2) : wayM S.m (joinF l) = 0 :=
  (way_iff S.m hl.ok).2 (fun k _ hk => t.way _ rfl hl h k hk)
/-- a node is put -/
theorem HangS.put {S : St} (t : HangS S) (used : Nat) {l : List T} {s : T} (hl : GoodP (l ++ [s])) (hp : kindM S.m (joinF l) = 2) (dir : Bool) (data : T) (hdd : dir = true → data = [])
    (hd : ∀ n, getG S.m (bs (joinF (l ++ [s]))) = some n → n.dir = true → dir = true) : HangS { putS S (joinF (l ++ [s])) dir data with used := used } := by
  have hg : ∀ k, getG (putG (bs (joinF (l ++ [s])), (⟨dir, data, S.clock + 1⟩ : Nd)) S.m) k = if bs (joinF (l ++ [s])) = k then some ⟨dir, data, S.clock + 1⟩ else getG S.m k := fun k => getG_put _ _ _
  have hk : ∀ a, kindM S.m (joinF a) = 2 → kindM (putG (bs (joinF (l ++ [s])), (⟨dir, data, S.clock + 1⟩ : Nd)) S.m) (joinF a) = 2 := by
    intro a h2
    rcases kind_two h2 with e | ⟨n, h1, h3⟩
    · rw [e]; rfl
    · by_cases e : bs (joinF (l ++ [s])) = bs (joinF a)
      · unfold kindM
        rw [hg, if_pos e]
        split
        · rfl
        · dsimp only
          rw [if_pos (hd n (by rw [e]; exact h1) h3)]
      · exact (kind_put e).trans h2
  refine ⟨fun a x ha hne => ?_, fun k n h1 h2 => ?_, fun k n h1 => ?_, fun k k' n n' h1 h2 h3 => ?_⟩
  · refine hk a ?_
    have hne : getG (putG (bs (joinF (l ++ [s])), (⟨dir, data, S.clock + 1⟩ : Nd)) S.m) (bs (joinF (a ++ [x]))) ≠ none := hne
    rw [hg] at hne
    by_cases e : bs (joinF (l ++ [s])) = bs (joinF (a ++ [x]))
    · obtain ⟨rfl, _⟩ := List.append_inj' (key_inj hl.ok ha.ok e) rfl
      exact hp
    · rw [if_neg e] at hne
      exact t.hang a x ha hne
  · have h1 : getG (putG (bs (joinF (l ++ [s])), (⟨dir, data, S.clock + 1⟩ : Nd)) S.m) k = some n := h1
    rw [hg] at h1
    split at h1
    · injection h1 with h1
      subst h1
      exact hdd h2
    · exact t.dirs k n h1 h2
  · have h1 : getG (putG (bs (joinF (l ++ [s])), (⟨dir, data, S.clock + 1⟩ : Nd)) S.m) k = some n := h1
    show 1 ≤ n.time ∧ n.time ≤ S.clock + 1
    rw [hg] at h1
    split at h1
    · injection h1 with h1
      subst h1
      exact ⟨by simp, by simp⟩
    · have := t.times k n h1
      omega
  · have h1 : getG (putG (bs (joinF (l ++ [s])), (⟨dir, data, S.clock + 1⟩ : Nd)) S.m) k = some n := h1
    have h2 : getG (putG (bs (joinF (l ++ [s])), (⟨dir, data, S.clock + 1⟩ : Nd)) S.m) k' = some n' := h2
    rw [hg] at h1 h2
    split at h1
    · rename_i e1
      injection h1 with h1
      subst h1
      split at h2
      · rename_i e2
        rw [← e1, ← e2]
      · have := t.times k' n' h2
        have h3 : S.clock + 1 = n'.time := h3
        omega
    · split at h2
      · injection h2 with h2
        subst h2
        have := t.times k n h1
        have h3 : n.time = S.clock + 1 := h3
        omega
      · exact t.dist k k' n n' h1 h2 h3
theorem abs_dir {S : St} {p : T} (h : (absS S p).2 = 0) (hq : (absS S p).1 ≠ [47]) : ∃ l s, GoodP (l ++ [s]) ∧ (absS S p).1 = joinF (l ++ [s]) ∧ kindM S.m (joinF l) = 2 := by
  obtain ⟨l, hl, e, _, hw⟩ := absS_good h
  obtain ⟨a, s, rfl⟩ := snoc_of (good_ne e hq)
  exact ⟨a, s, hl, e, way_dir hl.ok hw⟩
theorem writeS_hang {S : St} (t : HangS S) (p b : T) (more : Bool) : HangS (writeS S p b more).1 := by
  unfold writeS
  split
  · exact t
  · rename_i h1
    unfold writeQ
    split
    · exact t
    · rename_i hk
      dsimp only
      generalize (if kindM S.m (absS S p).1 = 0 then 1 else 0) = z
      generalize (if more = true then dataM S.m (absS S p).1 else []) = was
      split
      · obtain ⟨l, s, hl, e, hp⟩ := abs_dir (S := S) (p := p) (by simpa using h1) (root_kind hk)
        rw [e] at hk ⊢
        refine t.put _ hl hp false _ (fun h => by cases h) (fun n h1 h2 => ?_)
        rw [kind_of (root_kind hk) h1, if_pos h2] at hk
        exact absurd rfl hk
      · exact t
theorem mkdirS_hang {S : St} (t : HangS S) (p : T) : HangS (mkdirS S p).1 := by
  unfold mkdirS
  split
  · exact t
  · rename_i h1
    split
    · exact t
    · rename_i hk
      split
      · have hk : kindM S.m (absS S p).1 = 0 := by simpa using hk
        obtain ⟨l, s, hl, e, hp⟩ := abs_dir (S := S) (p := p) (by simpa using h1) (root_kind (m := S.m) (by omega))
        rw [e] at hk ⊢
        exact t.put S.used hl hp true [] (fun _ => rfl) (fun n h1 h2 => rfl)
      · exact t
theorem touchS_hang {S : St} (t : HangS S) (p : T) : HangS (touchS S p).1 := by
  unfold touchS
  split
  · exact t
  · rename_i h1
    split
    · exact t
    · rename_i h2
      cases hg : getG S.m (bs (absS S p).1) with
      | none => exact writeS_hang t p [] false
      | some n =>
        dsimp only
        obtain ⟨l, s, hl, e, hp⟩ := abs_dir (S := S) (p := p) (by simpa using h1) h2
        have hdd := t.dirs _ _ hg
        rw [e] at hg ⊢
        exact t.put S.used hl hp n.dir n.data hdd (fun n' h1 h2 => by rw [hg] at h1; injection h1 with h1; rw [h1]; exact h2)
theorem foundS_abs {S : St} {p : T} (h : (foundS S p).2 = 0) : (absS S p).2 = 0 ∧ (foundS S p).1 = (absS S p).1 ∧ kindM S.m (absS S p).1 ≠ 0 := by
  unfold foundS at h ⊢
  dsimp only at h ⊢
  split at h
  · cases h
  · rename_i h2
    exact ⟨h, rfl, fun h3 => h2 ⟨h, h3⟩⟩
theorem slashed_lastM : ∀ {l : List T}, (∀ s ∈ l, okN s) → l ≠ [] → (slashed l).getLast? ≠ some 47 := by
  intro l h hne
  obtain ⟨a, s, rfl⟩ : ∃ a s, l = a ++ [s] := ⟨l.dropLast, l.getLast hne, (List.dropLast_concat_getLast hne).symm⟩
  obtain ⟨h1, _, _, h4⟩ := h s (by simp)
  rw [slashed_app]
  have e : slashed [s] = 47 :: s := by simp [slashed]
  rw [e, List.getLast?_append, List.getLast?_cons, List.getLast?_eq_some_getLast h1]
  simp
  intro e2
  exact h4 (e2 ▸ List.getLast_mem h1)
theorem joinF_snoc {l : List T} (h : ∀ s ∈ l, okN s) (s : T) : frontF (joinF l) ++ s = joinF (l ++ [s]) := by
  have e : slashed [s] = 47 :: s := by simp [slashed]
  have e2 : joinF (l ++ [s]) = slashed (l ++ [s]) := by unfold joinF; rw [if_neg (by simp)]
  rw [e2, slashed_app, e]
  by_cases hl : l = []
  · subst hl; rfl
  · have e3 : joinF l = slashed l := by unfold joinF; rw [if_neg hl]
    unfold frontF
    rw [e3, if_neg (slashed_lastM h hl)]
    simp
/-- nothing hangs on what has nothing below it -/
theorem below_none {S : St} {l : List T} (hl : ∀ s ∈ l, okN s) (h : belowM S.m (joinF l) = []) (s : T) : getG S.m (bs (joinF (l ++ [s]))) = none := by
  cases hg : getG S.m (bs (joinF (l ++ [s]))) with
  | none => rfl
  | some n =>
    have : joinF (l ++ [s]) ∈ belowM S.m (joinF l) := mem_below.2 ⟨s, n, (joinF_snoc hl s).symm, getG_mem hg⟩
    rw [h] at this
    cases this
theorem removeS_hang {S : St} (t : HangS S) (p : T) : HangS (removeS S p).1 := by
  unfold removeS
  split
  · exact t
  · rename_i h1
    split
    · exact t
    · rename_i h2
      split
      · exact t
      · rename_i h3
        obtain ⟨h4, h5, h6⟩ := foundS_abs (S := S) (p := p) (by simpa using h1)
        obtain ⟨l, hl, e, _, _⟩ := absS_good h4
        rw [h5, e] at h2 h3 ⊢
        have h3 : belowM S.m (joinF l) = [] := by simpa using h3
        have hg : ∀ k, getG (delG (bs (joinF l)) S.m) k = if bs (joinF l) = k then none else getG S.m k := fun k => getG_del _ _ _
        have hs : ∀ k n, getG (delG (bs (joinF l)) S.m) k = some n → getG S.m k = some n := fun k n h => by
          rw [hg] at h
          split at h
          · cases h
          · exact h
        refine ⟨fun a x ha hne => ?_, fun k n h1 => t.dirs k n (hs k n h1), fun k n h1 => ?_, fun k k' n n' h1 h2 => t.dist k k' n n' (hs _ _ h1) (hs _ _ h2)⟩
        · have hne : getG (delG (bs (joinF l)) S.m) (bs (joinF (a ++ [x]))) ≠ none := hne
          obtain ⟨n, hn⟩ := Option.ne_none_iff_exists'.1 hne
          have h7 := hs _ _ hn
          have h8 := t.hang a x ha (by rw [h7]; simp)
          show kindM (delG (bs (joinF l)) S.m) (joinF a) = 2
          by_cases e2 : l = a
          · subst e2
            rw [below_none hl.ok h3] at h7
            cases h7
          · rw [kind_congr (m' := S.m)]
            · exact h8
            · rw [hg, if_neg (fun e3 => e2 (key_inj hl.ok ha.front.ok e3))]
        · have := t.times k n (hs k n h1)
          show 1 ≤ n.time ∧ n.time ≤ S.clock + 1
          omega
end Go.Proofs.YtkajhdbcnmafcaaGreatDoor.Vf
namespace Go.Proofs.YtkajhdbcnmafcaaGreatDoor.Vf
open Ln Pth

/-- why one whole path can't be moved to another one -/
def mayS (m : Mp) (a b : T) : Nat :=
  if b = [47] ∨ withinF a b = true then 1 else
  if kindM m b = 2 ∧ kindM m a ≠ 2 then 10 else
  if kindM m b = 1 ∧ kindM m a = 2 then 11 else
  if kindM m b = 2 ∧ belowM m b ≠ [] then 14 else
  if ∃ q ∈ belowM m a, (absF [47] (tgt a b q)).2 ≠ 0 then 3 else 0
def moveQ (S : St) (a b : T) : St :=
  { S with m := delG (bs a) (putG (bs b, (⟨((getG (mvL a b S.m (belowM S.m a)) (bs a)).getD nodeZ).dir, ((getG (mvL a b S.m (belowM S.m a)) (bs a)).getD nodeZ).data, S.clock + 1⟩ : Nd)) (mvL a b S.m (belowM S.m a))), used := S.used - (dataM S.m b).length, clock := S.clock + 1 }
def moveS (S : St) (p q : T) : St × Nat :=
  if (absF [47] p).2 ≠ 0 then (S, (absF [47] p).2) else if (absF [47] q).2 ≠ 0 then (S, (absF [47] q).2) else
  if (foundS S p).2 ≠ 0 then (S, (foundS S p).2) else if (foundS S p).1 = [47] then (S, 1) else
  if (absS S q).2 ≠ 0 then (S, (absS S q).2) else if (foundS S p).1 = (absS S q).1 then (S, 0) else
  if mayS S.m (foundS S p).1 (absS S q).1 ≠ 0 then (S, mayS S.m (foundS S p).1 (absS S q).1) else (moveQ S (foundS S p).1 (absS S q).1, 0)

theorem within_join {a b : List T} (ha : ∀ s ∈ a, okN s) (hb : ∀ s ∈ b, okN s) : withinF (joinF a) (joinF b) = true ↔ a <+: b := by
  unfold withinF
  rw [parts_join ha, parts_join hb, decide_eq_true_iff]
  constructor
  · intro h; rw [← h]; exact List.take_prefix _ _
  · rintro ⟨r, rfl⟩; exact List.take_left' rfl
theorem front_eq {a : List T} (h : ∀ s ∈ a, okN s) (_ : a ≠ []) : frontF (joinF a) = slashed a ++ [47] := by
  have := joinF_snoc h []
  rw [List.append_nil] at this
  rw [this, joinF, if_neg (by simp), slashed_app]
  simp [slashed]
theorem slashed_join {l : List T} (h : l ≠ []) : joinF l = slashed l := if_neg h
/-- what begins with a path and a stroke has its names ahead -/
theorem front_names {a l : List T} (ha : ∀ s ∈ a, okN s) (hl : ∀ s ∈ l, okN s) (hne : a ≠ []) (hln : l ≠ []) {r : T} (h : joinF l = frontF (joinF a) ++ r) : ∃ x, x ≠ [] ∧ l = a ++ x := by
  rw [front_eq ha hne, slashed_join hln, List.append_assoc] at h
  have h1 := congrArg (spl 47) h
  rw [spl_slashed (fun s hs => (hl s hs).2.2.2) hln, List.singleton_append, spl_both, spl_slashed (fun s hs => (ha s hs).2.2.2) hne] at h1
  injection h1 with _ h1
  exact ⟨_, spl_ne _ _, h1⟩
theorem below_names {S : St} (hS : WfS S) {a : List T} (ha : ∀ s ∈ a, okN s) (hne : a ≠ []) {q : T} : q ∈ belowM S.m (joinF a) ↔ ∃ r, r ≠ [] ∧ q = joinF (a ++ r) ∧ GoodP (a ++ r) ∧ getG S.m (bs q) ≠ none := by
  rw [mem_below]
  constructor
  · rintro ⟨r, n, rfl, hm⟩
    obtain ⟨l, hl, hln, e⟩ := hS.good _ hm
    have e := bs_inj e
    obtain ⟨x, hx, rfl⟩ := front_names ha hl.ok hne hln e.symm
    exact ⟨x, hx, e, hl, by rw [mem_getG hS.rise hm]; simp⟩
  · rintro ⟨r, hr, rfl, hg, hm⟩
    obtain ⟨n, hn⟩ := Option.ne_none_iff_exists'.1 hm
    have := getG_mem hn
    cases r with
    | nil => exact absurd rfl hr
    | cons x r =>
      refine ⟨x ++ slashed r, n, ?_, getG_mem hn⟩
      rw [front_eq ha hne, slashed_join (by simp), slashed_app, slashed_cons]
      simp
theorem tgt_join {a b r : List T} (ha : a ≠ []) (hb : b ≠ []) : tgt (joinF a) (joinF b) (joinF (a ++ r)) = joinF (b ++ r) := by
  unfold tgt
  rw [slashed_join ha, slashed_join hb, slashed_join (by simp [ha]), slashed_join (by simp [hb]), slashed_app, slashed_app, List.drop_left' rfl]
/-- a move that is done -/
structure MvS (S : St) (a b : List T) : Prop where
  wf : WfS S
  hang : HangS S
  ga : GoodP a
  gb : GoodP b
  nea : a ≠ []
  neb : b ≠ []
  there : kindM S.m (joinF a) ≠ 0
  wayb : wayM S.m (joinF b) = 0
  nab : ¬ a <+: b
  bel : belowM S.m (joinF b) = []
  kind : kindM S.m (joinF b) ≠ 0 → kindM S.m (joinF b) = kindM S.m (joinF a)
  fine : ∀ r, r ≠ [] → getG S.m (bs (joinF (a ++ r))) ≠ none → (∀ s ∈ a ++ r, okN s) → GoodP (b ++ r)
theorem MvS.empty {S : St} {a b : List T} (h : MvS S a b) {r : List T} (hr : r ≠ []) (hok : ∀ s ∈ b ++ r, okN s) : getG S.m (bs (joinF (b ++ r))) = none := by
  cases hg : getG S.m (bs (joinF (b ++ r))) with
  | none => rfl
  | some n =>
    obtain ⟨l, hl, hln, e⟩ := h.wf.good _ (getG_mem hg)
    have e2 := key_inj hok hl.ok e
    subst e2
    have : joinF (b ++ r) ∈ belowM S.m (joinF b) := (below_names h.wf h.gb.ok h.neb).2 ⟨r, hr, rfl, hl, by rw [hg]; simp⟩
    rw [h.bel] at this
    cases this
theorem MvS.node {S : St} {a b : List T} (h : MvS S a b) : ∃ n, getG S.m (bs (joinF a)) = some n := getG_some_kind (fun e => h.nea ((joinF_root h.ga.ok).1 e)) h.there
theorem MvS.nba {S : St} {a b : List T} (h : MvS S a b) : ¬ b <+: a := by
  rintro ⟨r, e⟩
  by_cases hr : r = []
  · subst hr
    rw [List.append_nil] at e
    exact h.nab (e ▸ List.prefix_rfl)
  · obtain ⟨n, hn⟩ := h.node
    have := h.empty hr (by rw [e]; exact h.ga.ok)
    rw [e, hn] at this
    cases this
theorem MvS.ok {S : St} {a b : List T} (h : MvS S a b) : MvOk (joinF a) (joinF b) (belowM S.m (joinF a)) := by
  refine ⟨List.Pairwise.imp (fun {x y} hxy e => by subst e; exact tlt_irr _ hxy) (below_rise h.wf.rise _), ?_, ?_⟩
  · intro q hq q' hq' e
    obtain ⟨r, hr, rfl, hg, hm⟩ := (below_names h.wf h.ga.ok h.nea).1 hq
    obtain ⟨r', hr', rfl, hg', hm'⟩ := (below_names h.wf h.ga.ok h.nea).1 hq'
    rw [tgt_join h.nea h.neb, tgt_join h.nea h.neb] at e
    have := joinF_inj (h.fine r hr hm hg.ok).ok (h.fine r' hr' hm' hg'.ok).ok e
    rw [List.append_cancel_left this]
  · intro q hq q' hq' e
    obtain ⟨r, hr, rfl, hg, hm⟩ := (below_names h.wf h.ga.ok h.nea).1 hq
    obtain ⟨r', hr', rfl, hg', hm'⟩ := (below_names h.wf h.ga.ok h.nea).1 hq'
    rw [tgt_join h.nea h.neb] at e
    have e2 := joinF_inj (h.fine r hr hm hg.ok).ok hg'.ok e
    have h1 : b <+: a ++ r' := ⟨r, e2⟩
    have h2 : a <+: a ++ r' := ⟨r', rfl⟩
    rcases List.prefix_or_prefix_of_prefix h1 h2 with h3 | h3
    · exact h.nba h3
    · exact h.nab h3
/-- what stands where behind a move -/
structure MvG (m m' : Mp) (a b : List T) (clock : Nat) : Prop where
  rise : RiseG m'
  gone : ∀ r, (∀ s ∈ a ++ r, okN s) → getG m' (bs (joinF (a ++ r))) = none
  node : ∀ n, getG m (bs (joinF a)) = some n → getG m' (bs (joinF b)) = some ⟨n.dir, n.data, clock + 1⟩
  deep : ∀ r, r ≠ [] → (∀ s ∈ b ++ r, okN s) → getG m' (bs (joinF (b ++ r))) = getG m (bs (joinF (a ++ r)))
  rest : ∀ l, (∀ s ∈ l, okN s) → l ≠ [] → ¬ a <+: l → ¬ b <+: l → getG m' (bs (joinF l)) = getG m (bs (joinF l))
  odd : ∀ k, (∀ l, (∀ s ∈ l, okN s) → l ≠ [] → k ≠ bs (joinF l)) → getG m' k = none
/-- there is one such alone -/
theorem MvG.same {m m' m'' : Mp} {a b : List T} {clock : Nat} (h : MvG m m' a b clock) (h' : MvG m m'' a b clock) (hn : getG m (bs (joinF a)) ≠ none) : m' = m'' := by
  obtain ⟨n, hn⟩ := Option.ne_none_iff_exists'.1 hn
  refine RiseG.ext h.rise h'.rise (fun k => ?_)
  by_cases hk : ∀ l, (∀ s ∈ l, okN s) → l ≠ [] → k ≠ bs (joinF l)
  · rw [h.odd k hk, h'.odd k hk]
  · have : ∃ l : List T, (∀ s ∈ l, okN s) ∧ l ≠ [] ∧ k = bs (joinF l) := by
      apply Classical.byContradiction
      intro hc
      exact hk (fun l h1 h2 h3 => hc ⟨l, h1, h2, h3⟩)
    obtain ⟨l, hl, hln, rfl⟩ := this
    by_cases h1 : a <+: l
    · obtain ⟨r, rfl⟩ := h1
      rw [h.gone r hl, h'.gone r hl]
    · by_cases h2 : b <+: l
      · obtain ⟨r, rfl⟩ := h2
        by_cases hr : r = []
        · subst hr
          rw [List.append_nil, h.node n hn, h'.node n hn]
        · rw [h.deep r hr hl, h'.deep r hr hl]
      · rw [h.rest l hl hln h1 h2, h'.rest l hl hln h1 h2]
theorem MvS.mvL {S : St} {a b : List T} (h : MvS S a b) :
    (∀ r, r ≠ [] → (∀ s ∈ a ++ r, okN s) → getG (mvL (joinF a) (joinF b) S.m (belowM S.m (joinF a))) (bs (joinF (a ++ r))) = none) ∧
    (∀ r, r ≠ [] → (∀ s ∈ b ++ r, okN s) → getG (mvL (joinF a) (joinF b) S.m (belowM S.m (joinF a))) (bs (joinF (b ++ r))) = getG S.m (bs (joinF (a ++ r)))) ∧
    (∀ l, (∀ s ∈ l, okN s) → (∀ r, r ≠ [] → l ≠ a ++ r) → (∀ r, r ≠ [] → l ≠ b ++ r) → getG (mvL (joinF a) (joinF b) S.m (belowM S.m (joinF a))) (bs (joinF l)) = getG S.m (bs (joinF l))) ∧
    (∀ k, (∀ l, (∀ s ∈ l, okN s) → l ≠ [] → k ≠ bs (joinF l)) → getG (mvL (joinF a) (joinF b) S.m (belowM S.m (joinF a))) k = getG S.m k) := by
  obtain ⟨g1, g2, g3⟩ := mvL_get _ S.m h.ok
  have hin : ∀ q ∈ belowM S.m (joinF a), ∃ r, r ≠ [] ∧ q = joinF (a ++ r) ∧ GoodP (a ++ r) ∧ GoodP (b ++ r) ∧ tgt (joinF a) (joinF b) q = joinF (b ++ r) := by
    intro q hq
    obtain ⟨r, hr, rfl, hg, hm⟩ := (below_names h.wf h.ga.ok h.nea).1 hq
    exact ⟨r, hr, rfl, hg, h.fine r hr hm hg.ok, tgt_join h.nea h.neb⟩
  have hno : ∀ r r', (∀ s ∈ a ++ r, okN s) → (∀ s ∈ b ++ r', okN s) → joinF (a ++ r) ≠ joinF (b ++ r') := by
    intro r r' h1 h2 e
    have e := joinF_inj h1 h2 e
    rcases List.prefix_or_prefix_of_prefix ⟨r, rfl⟩ (show b <+: a ++ r from ⟨r', e.symm⟩) with h3 | h3
    · exact h.nab h3
    · exact h.nba h3
  refine ⟨fun r hr hok => ?_, fun r hr hok => ?_, fun l hl h1 h2 => ?_, fun k hk => ?_⟩
  · by_cases hm : joinF (a ++ r) ∈ belowM S.m (joinF a)
    · exact g2 _ hm
    · rw [g3]
      · cases hg : getG S.m (bs (joinF (a ++ r))) with
        | none => rfl
        | some n =>
          obtain ⟨l, hl, _, e⟩ := h.wf.good _ (getG_mem hg)
          have e2 := key_inj hok hl.ok e
          exact absurd ((below_names h.wf h.ga.ok h.nea).2 ⟨r, hr, rfl, e2 ▸ hl, by rw [hg]; simp⟩) hm
      · intro q hq
        obtain ⟨r', hr', rfl, hg, hgb, ht⟩ := hin q hq
        exact ⟨fun e => hm (by rw [bs_inj e]; exact hq), fun e => hno r r' hok hgb.ok (by rw [← ht]; exact bs_inj e)⟩
  · by_cases hm : getG S.m (bs (joinF (a ++ r))) = none
    · rw [g3, hm, h.empty hr hok]
      intro q hq
      obtain ⟨r', hr', rfl, hg, hgb, ht⟩ := hin q hq
      refine ⟨fun e => hno r' r hg.ok hok (bs_inj e).symm, fun e => ?_⟩
      rw [ht] at e
      have e2 := List.append_cancel_left (key_inj hok hgb.ok e)
      subst e2
      exact ((below_names h.wf h.ga.ok h.nea).1 hq).elim (fun x hx => hx.2.2.2 hm)
    · obtain ⟨n, hn⟩ := Option.ne_none_iff_exists'.1 hm
      obtain ⟨l, hl, hln, e⟩ := h.wf.good _ (getG_mem hn)
      have hq : joinF (a ++ r) ∈ belowM S.m (joinF a) := by
        refine (below_names h.wf h.ga.ok h.nea).2 ⟨r, hr, rfl, ?_, hm⟩
        have hor : ∀ s ∈ a ++ r, okN s := fun s hs => by
          rcases List.mem_append.1 hs with hs | hs
          · exact h.ga.ok s hs
          · exact hok s (by simp [hs])
        rw [key_inj hor hl.ok e]
        exact hl
      have := g1 _ hq
      rw [tgt_join h.nea h.neb, hn] at this
      rw [this, hn]
      rfl
  · refine g3 _ (fun q hq => ?_)
    obtain ⟨r', hr', rfl, hg, hgb, ht⟩ := hin q hq
    rw [ht]
    exact ⟨fun e => h1 r' hr' (key_inj hl hg.ok e), fun e => h2 r' hr' (key_inj hl hgb.ok e)⟩
  · refine g3 _ (fun q hq => ?_)
    obtain ⟨r', hr', rfl, hg, hgb, ht⟩ := hin q hq
    rw [ht]
    exact ⟨hk _ hg.ok (by simp [hr']), hk _ hgb.ok (by simp [hr'])⟩
theorem MvS.get {S : St} {a b : List T} (h : MvS S a b) : MvG S.m (moveQ S (joinF a) (joinF b)).m a b S.clock := by
  obtain ⟨m1, m2, m3, m4⟩ := h.mvL
  obtain ⟨n, hn⟩ := h.node
  have ha : getG (Vf.mvL (joinF a) (joinF b) S.m (belowM S.m (joinF a))) (bs (joinF a)) = some n := by
    rw [m3 a h.ga.ok (fun r hr e => hr (by simpa using e)) (fun r hr e => h.nba ⟨r, e.symm⟩)]
    exact hn
  have hne : bs (joinF a) ≠ bs (joinF b) := fun e => h.nab (key_inj h.ga.ok h.gb.ok e ▸ List.prefix_rfl)
  have hg : ∀ k, getG (moveQ S (joinF a) (joinF b)).m k = if bs (joinF a) = k then none else if bs (joinF b) = k then some ⟨n.dir, n.data, S.clock + 1⟩ else getG (Vf.mvL (joinF a) (joinF b) S.m (belowM S.m (joinF a))) k := fun k => by
    unfold moveQ
    dsimp only
    rw [getG_del, getG_put, ha]
    rfl
  have hno : ∀ r r', (∀ s ∈ a ++ r, okN s) → (∀ s ∈ b ++ r', okN s) → bs (joinF (a ++ r)) ≠ bs (joinF (b ++ r')) := by
    intro r r' h1 h2 e
    have e := key_inj h1 h2 e
    rcases List.prefix_or_prefix_of_prefix ⟨r, rfl⟩ (show b <+: a ++ r from ⟨r', e.symm⟩) with h3 | h3
    · exact h.nab h3
    · exact h.nba h3
  refine ⟨RiseG.del (RiseG.put _ (mvL_rise _ _ _ h.wf.rise)) _, fun r hok => ?_, fun n' hn' => ?_, fun r hr hok => ?_, fun l hl hln h1 h2 => ?_, fun k hk => ?_⟩
  · rw [hg]
    by_cases hr : r = []
    · subst hr
      rw [List.append_nil, if_pos rfl]
    · have := hno r [] hok (by simpa using h.gb.ok)
      rw [List.append_nil] at this
      rw [if_neg (fun e => hr (by simpa using key_inj h.ga.ok hok e)), if_neg (fun e => this e.symm), m1 r hr hok]
  · rw [hn] at hn'
    injection hn' with hn'
    subst hn'
    rw [hg, if_neg hne, if_pos rfl]
  · have := hno [] r (by simpa using h.ga.ok) hok
    rw [List.append_nil] at this
    rw [hg, if_neg this, if_neg (fun e => hr (by simpa using key_inj h.gb.ok hok e)), m2 r hr hok]
  · rw [hg, if_neg (fun e => h1 (key_inj h.ga.ok hl e ▸ List.prefix_rfl)), if_neg (fun e => h2 (key_inj h.gb.ok hl e ▸ List.prefix_rfl)), m3 l hl (fun r hr e => h1 ⟨r, e.symm⟩) (fun r hr e => h2 ⟨r, e.symm⟩)]
  · rw [hg, if_neg (fun e => hk a h.ga.ok h.nea e.symm), if_neg (fun e => hk b h.gb.ok h.neb e.symm), m4 k hk]
    exact getG_none_of (fun z hz e => by
      obtain ⟨l, hl, hln, e2⟩ := h.wf.good z hz
      exact hk l hl.ok hln (e.symm.trans e2))
/-- the sums -/
theorem MvS.sum {S : St} {a b : List T} (h : MvS S a b) (f : Nd → Nat) (hf : ∀ d x t t', f ⟨d, x, t⟩ = f ⟨d, x, t'⟩) : sumG f (moveQ S (joinF a) (joinF b)).m + fO f (getG S.m (bs (joinF b))) = sumG f S.m := by
  obtain ⟨m1, m2, m3, m4⟩ := h.mvL
  obtain ⟨n, hn⟩ := h.node
  have ha : getG (Vf.mvL (joinF a) (joinF b) S.m (belowM S.m (joinF a))) (bs (joinF a)) = some n := by
    rw [m3 a h.ga.ok (fun r hr e => hr (by simpa using e)) (fun r hr e => h.nba ⟨r, e.symm⟩)]
    exact hn
  have hb : getG (Vf.mvL (joinF a) (joinF b) S.m (belowM S.m (joinF a))) (bs (joinF b)) = getG S.m (bs (joinF b)) :=
    m3 b h.gb.ok (fun r hr e => h.nab ⟨r, e.symm⟩) (fun r hr e => hr (by simpa using e))
  have hne : bs (joinF b) ≠ bs (joinF a) := fun e => h.nab (key_inj h.gb.ok h.ga.ok e ▸ List.prefix_rfl)
  have hr := mvL_rise (joinF a) (joinF b) (belowM S.m (joinF a)) h.wf.rise
  have s0 := mvL_sum f (belowM S.m (joinF a)) h.wf.rise h.ok (fun q hq => by
    obtain ⟨r, _, rfl, _, hm⟩ := (below_names h.wf h.ga.ok h.nea).1 hq
    exact hm) (fun q hq => by
    obtain ⟨r, hr, rfl, hg, hm⟩ := (below_names h.wf h.ga.ok h.nea).1 hq
    rw [tgt_join h.nea h.neb]
    exact h.empty hr (h.fine r hr hm hg.ok).ok)
  have s1 := sumG_put f (bs (joinF b), (⟨n.dir, n.data, S.clock + 1⟩ : Nd)) hr
  have s2 := sumG_del f (bs (joinF a)) (RiseG.put (bs (joinF b), (⟨n.dir, n.data, S.clock + 1⟩ : Nd)) hr)
  rw [getG_put, if_neg hne, ha] at s2
  rw [hb] at s1
  have hfn : f ⟨n.dir, n.data, S.clock + 1⟩ = f n := hf n.dir n.data _ n.time
  simp only [fO] at s2
  rw [hfn] at s1
  have e0 : (moveQ S (joinF a) (joinF b)).m = delG (bs (joinF a)) (putG (bs (joinF b), (⟨n.dir, n.data, S.clock + 1⟩ : Nd)) (Vf.mvL (joinF a) (joinF b) S.m (belowM S.m (joinF a)))) := by
    unfold moveQ
    dsimp only
    rw [ha]
    rfl
  rw [e0]
  omega
theorem sum_szO (m : Mp) : (m.map fun x => x.2.data.length).sum = sumG (fun n => n.data.length) m := rfl
theorem fO_szO (o : Option Nd) : fO (fun n => n.data.length) o = szO o := by cases o <;> rfl
theorem MvS.moved_wf {S : St} {a b : List T} (h : MvS S a b) : WfS (moveQ S (joinF a) (joinF b)) := by
  have g := h.get
  have s1 := h.sum (fun n => n.data.length) (fun _ _ _ _ => rfl)
  have s2 := h.sum (fun _ => 1) (fun _ _ _ _ => rfl)
  rw [sumG_one, sumG_one] at s2
  rw [fO_szO, ← dataM_sz] at s1
  have hs := h.wf.sum
  rw [sum_szO] at hs
  have hn := h.wf.nodes
  have hb := h.wf.bytes
  refine ⟨g.rise, fun x hx => ?_, ?_, ?_, ?_, h.wf.n10, h.wf.b20⟩
  · have hxg : getG (moveQ S (joinF a) (joinF b)).m x.1 = some x.2 := mem_getG g.rise hx
    by_cases hk : ∀ l, (∀ s ∈ l, okN s) → l ≠ [] → x.1 ≠ bs (joinF l)
    · rw [g.odd _ hk] at hxg; cases hxg
    · have : ∃ l : List T, (∀ s ∈ l, okN s) ∧ l ≠ [] ∧ x.1 = bs (joinF l) := by
        apply Classical.byContradiction
        intro hc
        exact hk (fun l h1 h2 h3 => hc ⟨l, h1, h2, h3⟩)
      obtain ⟨l, hl, hln, e⟩ := this
      refine ⟨l, ?_, hln, e⟩
      rw [e] at hxg
      by_cases h1 : a <+: l
      · obtain ⟨r, rfl⟩ := h1
        rw [g.gone r hl] at hxg; cases hxg
      · by_cases h2 : b <+: l
        · obtain ⟨r, rfl⟩ := h2
          by_cases hr : r = []
          · subst hr
            rw [List.append_nil]; exact h.gb
          · rw [g.deep r hr hl] at hxg
            exact h.fine r hr (by rw [hxg]; simp) (fun s hs => by
              rcases List.mem_append.1 hs with hs | hs
              · exact h.ga.ok s hs
              · exact hl s (by simp [hs]))
        · rw [g.rest l hl hln h1 h2] at hxg
          obtain ⟨l', hl', _, e'⟩ := h.wf.good _ (getG_mem hxg)
          rw [key_inj hl hl'.ok e']
          exact hl'
  · rw [sum_szO]
    show S.used - _ = _
    omega
  · show (moveQ S (joinF a) (joinF b)).m.length ≤ S.nodes
    omega
  · show S.used - _ ≤ S.bytes
    omega
end Go.Proofs.YtkajhdbcnmafcaaGreatDoor.Vf
namespace Go.Proofs.YtkajhdbcnmafcaaGreatDoor.Vf
open Ln Pth

theorem ok_left {a b : List T} (h : ∀ s ∈ a ++ b, okN s) : ∀ s ∈ a, okN s := fun s hs => h s (List.mem_append_left _ hs)
theorem ok_right {a b : List T} (h : ∀ s ∈ a ++ b, okN s) : ∀ s ∈ b, okN s := fun s hs => h s (List.mem_append_right _ hs)
theorem ok_app {a b : List T} (ha : ∀ s ∈ a, okN s) (hb : ∀ s ∈ b, okN s) : ∀ s ∈ a ++ b, okN s := fun s hs => (List.mem_append.1 hs).elim (ha s) (hb s)
/-- where a node comes from -/
theorem MvG.back {m m' : Mp} {a b : List T} {clock : Nat} (g : MvG m m' a b clock) (_ : ∀ s ∈ a, okN s) {n0 : Nd} (h0 : getG m (bs (joinF a)) = some n0) {k : ByteArray} {n : Nd} (h : getG m' k = some n) :
    (k = bs (joinF b) ∧ n = ⟨n0.dir, n0.data, clock + 1⟩) ∨ ∃ l, (∀ s ∈ l, okN s) ∧ l ≠ [] ∧ k = bs (joinF l) ∧ ((¬ a <+: l ∧ ¬ b <+: l ∧ getG m k = some n) ∨ ∃ r, r ≠ [] ∧ l = b ++ r ∧ getG m (bs (joinF (a ++ r))) = some n) := by
  by_cases hk : ∀ l, (∀ s ∈ l, okN s) → l ≠ [] → k ≠ bs (joinF l)
  · rw [g.odd _ hk] at h; cases h
  · have : ∃ l : List T, (∀ s ∈ l, okN s) ∧ l ≠ [] ∧ k = bs (joinF l) := by
      apply Classical.byContradiction
      intro hc
      exact hk (fun l h1 h2 h3 => hc ⟨l, h1, h2, h3⟩)
    obtain ⟨l, hl, hln, rfl⟩ := this
    by_cases h1 : a <+: l
    · obtain ⟨r, rfl⟩ := h1
      rw [g.gone r hl] at h; cases h
    · by_cases h2 : b <+: l
      · obtain ⟨r, rfl⟩ := h2
        by_cases hr : r = []
        · subst hr
          rw [List.append_nil, g.node n0 h0] at h
          injection h with h
          exact .inl ⟨by rw [List.append_nil], h.symm⟩
        · exact .inr ⟨_, hl, hln, rfl, .inr ⟨r, hr, rfl, by rw [← g.deep r hr hl]; exact h⟩⟩
      · exact .inr ⟨l, hl, hln, rfl, .inl ⟨h1, h2, by rw [← g.rest l hl hln h1 h2]; exact h⟩⟩
theorem good_key {S : St} (h : WfS S) {l : List T} (hl : ∀ s ∈ l, okN s) (hg : getG S.m (bs (joinF l)) ≠ none) : GoodP l := by
  obtain ⟨n, hn⟩ := Option.ne_none_iff_exists'.1 hg
  obtain ⟨l', hl', _, e⟩ := h.good _ (getG_mem hn)
  rw [key_inj hl hl'.ok e]
  exact hl'
theorem MvS.moved_hang {S : St} {a b : List T} (h : MvS S a b) : HangS (moveQ S (joinF a) (joinF b)) := by
  have g := h.get
  obtain ⟨n0, h0⟩ := h.node
  have nr : ∀ {l : List T}, (∀ s ∈ l, okN s) → l ≠ [] → joinF l ≠ [47] := fun hl hne e => hne ((joinF_root hl).1 e)
  have hrest : ∀ l : List T, (∀ s ∈ l, okN s) → ¬ a <+: l → ¬ b <+: l → kindM (moveQ S (joinF a) (joinF b)).m (joinF l) = kindM S.m (joinF l) := fun l hl h1 h2 => by
    by_cases hn : l = []
    · subst hn; rfl
    · exact kind_congr (g.rest l hl hn h1 h2)
  refine ⟨fun l s hl hne => ?_, fun k n h1 h2 => ?_, fun k n h1 => ?_, fun k k' n n' h1 h2 h3 => ?_⟩
  · obtain ⟨n, hn⟩ := Option.ne_none_iff_exists'.1 hne
    rcases g.back h.ga.ok h0 hn with ⟨e, _⟩ | ⟨l', hl', hln, e, h4⟩
    · have e := key_inj hl.ok h.gb.ok e
      have hd : kindM S.m (joinF l) = 2 := way_dir hl.ok (by rw [e]; exact h.wayb)
      rw [hrest l hl.front.ok (fun hp => h.nab (e ▸ hp.trans (List.prefix_append _ _))) (fun hp => by
        have := hp.length_le
        rw [← e] at this
        simp at this
        omega)]
      exact hd
    · have e := key_inj hl.ok hl' e
      subst e
      rcases h4 with ⟨h5, h6, h7⟩ | ⟨r, hr, e, h7⟩
      · rw [hrest l hl.front.ok (fun hp => h5 (hp.trans (List.prefix_append _ _))) (fun hp => h6 (hp.trans (List.prefix_append _ _)))]
        exact h.hang.hang l s hl (by rw [h7]; simp)
      · obtain ⟨r0, s0, rfl⟩ := snoc_of hr
        rw [← List.append_assoc] at e h7
        obtain ⟨rfl, e2⟩ := List.append_inj' e rfl
        injection e2 with e2
        subst e2
        have hok : ∀ x ∈ a ++ r0 ++ [s], okN x := ok_app (ok_app h.ga.ok (ok_right hl.front.ok)) (ok_right hl.ok)
        have hd := h.hang.hang (a ++ r0) s (good_key h.wf hok (by rw [h7]; simp)) (by rw [h7]; simp)
        by_cases hr0 : r0 = []
        · subst hr0
          rw [List.append_nil] at hd ⊢
          rw [kind_of (nr h.gb.ok h.neb) (g.node n0 h0)]
          rw [kind_of (nr h.ga.ok h.nea) h0] at hd
          exact hd
        · rw [← hd]
          unfold kindM
          rw [if_neg (nr hl.front.ok (by simp [h.neb])), if_neg (nr (ok_left hok) (by simp [h.nea])), g.deep r0 hr0 hl.front.ok]
  · rcases g.back h.ga.ok h0 h1 with ⟨_, e⟩ | ⟨l, hl, hln, e, ⟨_, _, h7⟩ | ⟨r, hr, _, h7⟩⟩
    · rw [e] at h2 ⊢
      exact h.hang.dirs _ n0 h0 h2
    · exact h.hang.dirs _ n h7 h2
    · exact h.hang.dirs _ n h7 h2
  · show 1 ≤ n.time ∧ n.time ≤ S.clock + 1
    rcases g.back h.ga.ok h0 h1 with ⟨_, e⟩ | ⟨l, hl, hln, e, ⟨_, _, h7⟩ | ⟨r, hr, _, h7⟩⟩
    · rw [e]; exact ⟨by simp, by simp⟩
    · have := h.hang.times _ n h7; omega
    · have := h.hang.times _ n h7; omega
  · have hb : ∀ {k n}, (∃ l, (∀ s ∈ l, okN s) ∧ l ≠ [] ∧ k = bs (joinF l) ∧ ((¬ a <+: l ∧ ¬ b <+: l ∧ getG S.m k = some n) ∨ ∃ r, r ≠ [] ∧ l = b ++ r ∧ getG S.m (bs (joinF (a ++ r))) = some n)) → n.time ≤ S.clock := by
      rintro k n ⟨l, hl, hln, e, ⟨_, _, h7⟩ | ⟨r, hr, _, h7⟩⟩
      · exact (h.hang.times _ n h7).2
      · exact (h.hang.times _ n h7).2
    rcases g.back h.ga.ok h0 h1 with ⟨e1, f1⟩ | hc1
    · rcases g.back h.ga.ok h0 h2 with ⟨e2, f2⟩ | hc2
      · rw [e1, e2]
      · have := hb hc2
        rw [f1] at h3
        dsimp only at h3
        omega
    · rcases g.back h.ga.ok h0 h2 with ⟨e2, f2⟩ | hc2
      · have := hb hc1
        rw [f2] at h3
        dsimp only at h3
        omega
      · obtain ⟨l1, hl1, hn1, rfl, c1⟩ := hc1
        obtain ⟨l2, hl2, hn2, rfl, c2⟩ := hc2
        rcases c1 with ⟨p1, p2, p3⟩ | ⟨r, hr, rfl, p3⟩
        · rcases c2 with ⟨q1, q2, q3⟩ | ⟨r', hr', rfl, q3⟩
          · exact h.hang.dist _ _ n n' p3 q3 h3
          · have e := key_inj hl1 (ok_app h.ga.ok (ok_right hl2)) (h.hang.dist _ _ n n' p3 q3 h3)
            exact absurd (⟨r', e.symm⟩ : a <+: l1) p1
        · rcases c2 with ⟨q1, q2, q3⟩ | ⟨r', hr', rfl, q3⟩
          · have e := key_inj (ok_app h.ga.ok (ok_right hl1)) hl2 (h.hang.dist _ _ n n' p3 q3 h3)
            exact absurd (⟨r, e⟩ : a <+: l2) q1
          · have e := key_inj (ok_app h.ga.ok (ok_right hl1)) (ok_app h.ga.ok (ok_right hl2)) (h.hang.dist _ _ n n' p3 q3 h3)
            rw [List.append_cancel_left e]
theorem abs_ok {l : List T} (h : (absF [47] (joinF l)).2 = 0) (hok : ∀ s ∈ l, okN s) : GoodP l := by
  rcases absF_cases [47] (joinF l) with ⟨l', g, e, hp⟩ | ⟨_, e⟩
  · rw [parts_join hok] at hp
    rw [hp]; exact g
  · omega
theorem nothing_below {S : St} (hS : WfS S) (t : HangS S) {b : List T} (gb : GoodP b) (neb : b ≠ []) (hk : kindM S.m (joinF b) ≠ 2) : belowM S.m (joinF b) = [] := by
  refine List.eq_nil_iff_forall_not_mem.2 (fun q hq => ?_)
  obtain ⟨r, hr, rfl, hg, hm⟩ := (below_names hS gb.ok neb).1 hq
  have hk0 : kindM S.m (joinF (b ++ r)) ≠ 0 := by
    obtain ⟨n, hn⟩ := Option.ne_none_iff_exists'.1 hm
    rw [kind_of (fun e => neb (by have := (joinF_root hg.ok).1 e; simp at this; exact this.1)) hn]
    split <;> omega
  have := t.way _ rfl hg (.inl hk0) b.length (by have := List.length_pos_iff.2 hr; simp; omega)
  rw [List.take_left' rfl] at this
  exact hk this
/-- either nothing is changed, or it is a move that is done -/
theorem moveS_cases {S : St} (hS : WfS S) (t : HangS S) (p q : T) : (moveS S p q).1 = S ∨
    ∃ a b, MvS S a b ∧ moveS S p q = (moveQ S (joinF a) (joinF b), 0) ∧ absS S p = (joinF a, 0) ∧ absS S q = (joinF b, 0) := by
  unfold moveS
  by_cases c1 : (absF [47] p).2 ≠ 0
  · rw [if_pos c1]; exact .inl rfl
  rw [if_neg c1]
  by_cases c2 : (absF [47] q).2 ≠ 0
  · rw [if_pos c2]; exact .inl rfl
  rw [if_neg c2]
  by_cases c3 : (foundS S p).2 ≠ 0
  · rw [if_pos c3]; exact .inl rfl
  rw [if_neg c3]
  by_cases c4 : (foundS S p).1 = [47]
  · rw [if_pos c4]; exact .inl rfl
  rw [if_neg c4]
  by_cases c5 : (absS S q).2 ≠ 0
  · rw [if_pos c5]; exact .inl rfl
  rw [if_neg c5]
  by_cases c6 : (foundS S p).1 = (absS S q).1
  · rw [if_pos c6]; exact .inl rfl
  rw [if_neg c6]
  by_cases c7 : mayS S.m (foundS S p).1 (absS S q).1 ≠ 0
  · rw [if_pos c7]; exact .inl rfl
  rw [if_neg c7]
  right
  have c3 : (foundS S p).2 = 0 := by simpa using c3
  have c5 : (absS S q).2 = 0 := by simpa using c5
  have c7 : mayS S.m (foundS S p).1 (absS S q).1 = 0 := by simpa using c7
  obtain ⟨d1, d2, d3⟩ := foundS_abs c3
  obtain ⟨a, ga, ea, _, wa⟩ := absS_good d1
  obtain ⟨b, gb, eb, _, wb⟩ := absS_good c5
  rw [d2, ea] at c4 c6 c7
  rw [d2, ea]
  rw [eb] at c6 c7
  rw [eb]
  rw [ea] at d3
  have hna : a ≠ [] := good_ne rfl c4
  unfold mayS at c7
  by_cases e1 : joinF b = [47] ∨ withinF (joinF a) (joinF b) = true
  · rw [if_pos e1] at c7; cases c7
  rw [if_neg e1] at c7
  by_cases e2 : kindM S.m (joinF b) = 2 ∧ kindM S.m (joinF a) ≠ 2
  · rw [if_pos e2] at c7; cases c7
  rw [if_neg e2] at c7
  by_cases e3 : kindM S.m (joinF b) = 1 ∧ kindM S.m (joinF a) = 2
  · rw [if_pos e3] at c7; cases c7
  rw [if_neg e3] at c7
  by_cases e4 : kindM S.m (joinF b) = 2 ∧ belowM S.m (joinF b) ≠ []
  · rw [if_pos e4] at c7; cases c7
  rw [if_neg e4] at c7
  by_cases e5 : ∃ q ∈ belowM S.m (joinF a), (absF [47] (tgt (joinF a) (joinF b) q)).2 ≠ 0
  · rw [if_pos e5] at c7; cases c7
  have hnb : b ≠ [] := good_ne rfl (fun e => e1 (.inl e))
  have hka := kind_le S.m (joinF a)
  have hkb := kind_le S.m (joinF b)
  refine ⟨a, b, ⟨hS, t, ga, gb, hna, hnb, d3, wb, fun h => e1 (.inr ((within_join ga.ok gb.ok).2 h)), ?_, fun h => by omega, fun r hr hm hok => ?_⟩, rfl, Prod.ext ea d1, Prod.ext eb c5⟩
  · by_cases k2 : kindM S.m (joinF b) = 2
    · apply Classical.byContradiction
      intro hb
      exact e4 ⟨k2, hb⟩
    · exact nothing_below hS t gb hnb k2
  · have hq : joinF (a ++ r) ∈ belowM S.m (joinF a) := (below_names hS ga.ok hna).2 ⟨r, hr, rfl, good_key hS hok hm, hm⟩
    have h0 : (absF [47] (tgt (joinF a) (joinF b) (joinF (a ++ r)))).2 = 0 := by
      apply Classical.byContradiction
      intro hne
      exact e5 ⟨_, hq, hne⟩
    rw [tgt_join hna hnb] at h0
    exact abs_ok h0 (ok_app gb.ok (ok_right hok))
theorem moveS_wf {S : St} (hS : WfS S) (t : HangS S) (p q : T) : WfS (moveS S p q).1 := by
  rcases moveS_cases hS t p q with h | ⟨a, b, h, e, _⟩
  · rw [h]; exact hS
  · rw [e]; exact h.moved_wf
theorem moveS_hang {S : St} (hS : WfS S) (t : HangS S) (p q : T) : HangS (moveS S p q).1 := by
  rcases moveS_cases hS t p q with h | ⟨a, b, h, e, _⟩
  · rw [h]; exact t
  · rw [e]; exact h.moved_hang
theorem moveS_err {S : St} (hS : WfS S) (t : HangS S) (p q : T) (h : (moveS S p q).2 ≠ 0) : (moveS S p q).1 = S := by
  rcases moveS_cases hS t p q with h' | ⟨a, b, h', e, _⟩
  · exact h'
  · rw [e] at h; exact absurd rfl h
theorem moveS_consts (S : St) (p q : T) : (moveS S p q).1.nodes = S.nodes ∧ (moveS S p q).1.bytes = S.bytes ∧ S.clock ≤ (moveS S p q).1.clock ∧ (moveS S p q).1.clock ≤ S.clock + 1 := by
  unfold moveS
  by_cases c1 : (absF [47] p).2 ≠ 0
  · rw [if_pos c1]; exact ⟨rfl, rfl, Nat.le_refl _, Nat.le_succ _⟩
  rw [if_neg c1]
  by_cases c2 : (absF [47] q).2 ≠ 0
  · rw [if_pos c2]; exact ⟨rfl, rfl, Nat.le_refl _, Nat.le_succ _⟩
  rw [if_neg c2]
  by_cases c3 : (foundS S p).2 ≠ 0
  · rw [if_pos c3]; exact ⟨rfl, rfl, Nat.le_refl _, Nat.le_succ _⟩
  rw [if_neg c3]
  by_cases c4 : (foundS S p).1 = [47]
  · rw [if_pos c4]; exact ⟨rfl, rfl, Nat.le_refl _, Nat.le_succ _⟩
  rw [if_neg c4]
  by_cases c5 : (absS S q).2 ≠ 0
  · rw [if_pos c5]; exact ⟨rfl, rfl, Nat.le_refl _, Nat.le_succ _⟩
  rw [if_neg c5]
  by_cases c6 : (foundS S p).1 = (absS S q).1
  · rw [if_pos c6]; exact ⟨rfl, rfl, Nat.le_refl _, Nat.le_succ _⟩
  rw [if_neg c6]
  by_cases c7 : mayS S.m (foundS S p).1 (absS S q).1 ≠ 0
  · rw [if_pos c7]; exact ⟨rfl, rfl, Nat.le_refl _, Nat.le_succ _⟩
  rw [if_neg c7]
  exact ⟨rfl, rfl, Nat.le_succ _, Nat.le_refl _⟩
end Go.Proofs.YtkajhdbcnmafcaaGreatDoor.Vf
namespace Go.Proofs.YtkajhdbcnmafcaaGreatDoor.Vf
open Ln Pth

theorem getG_filter (p : ByteArray → Bool) (k : ByteArray) : ∀ m : Mp, getG (m.filter fun z => p z.1) k = if p k = true then getG m k else none
  | [] => by simp [getG]
  | y :: m => by
    have ih := getG_filter p k m
    rw [List.filter_cons]
    by_cases e : y.1 = k
    · subst e
      by_cases h : p y.1 = true
      · rw [if_pos h, if_pos h, getG_cons, getG_cons, if_pos rfl, if_pos rfl]
      · rw [if_neg h, ih, if_neg h, if_neg h]
    · split
      · rw [getG_cons, getG_cons, if_neg e, if_neg e, ih]
      · rw [getG_cons, if_neg e, ih]
/-- nodes put one by one -/
theorem fold_get (v : ByteArray × Nd → Nd) : ∀ (L : Mp) (m : Mp), L.Pairwise (fun a b => a.1 ≠ b.1) →
    (∀ z ∈ L, getG (L.foldl (fun Q z => putG (z.1, v z) Q) m) z.1 = some (v z)) ∧ ∀ k, (∀ z ∈ L, z.1 ≠ k) → getG (L.foldl (fun Q z => putG (z.1, v z) Q) m) k = getG m k
  | [], m, _ => ⟨fun z hz => (by cases hz), fun k _ => rfl⟩
  | y :: L, m, h => by
    have h1 := List.pairwise_cons.1 h
    obtain ⟨i1, i2⟩ := fold_get v L (putG (y.1, v y) m) h1.2
    refine ⟨fun z hz => ?_, fun k hk => ?_⟩
    · rw [List.foldl_cons]
      rcases List.mem_cons.1 hz with rfl | hz
      · rw [i2 _ (fun x hx e => h1.1 x hx e.symm), getG_put, if_pos rfl]
      · exact i1 z hz
    · rw [List.foldl_cons, i2 k (fun z hz => hk z (by simp [hz])), getG_put, if_neg (hk y (by simp))]
theorem fold_rise (v : ByteArray × Nd → Nd) : ∀ (L : Mp) {m : Mp}, RiseG m → RiseG (L.foldl (fun Q z => putG (z.1, v z) Q) m)
  | [], _, h => h
  | _ :: L, _, h => fold_rise v L (RiseG.put _ h)
/-- the nodes within a path, as they will lie -/
def rmvL (m : Mp) (x y : T) : Mp := (m.filter fun z => withinF x z.1.data.toList).map fun z => (bs (tgt x y z.1.data.toList), z.2)
def routM (m : Mp) (x y : T) : Mp := (m.filter fun z => !withinF x z.1.data.toList).filter fun z => !withinF y z.1.data.toList
def rvalM (y : T) (t : Nat) (z : ByteArray × Nd) : Nd := if z.1 = bs y then ⟨z.2.dir, z.2.data, t⟩ else z.2
def rmoveM (m : Mp) (x y : T) (t : Nat) : Mp := (rmvL m x y).foldl (fun Q z => putG (z.1, rvalM y t z) Q) (routM m x y)
theorem within_mem {S : St} (hS : WfS S) {a : List T} (ga : GoodP a) {z : ByteArray × Nd} (hz : z ∈ S.m) : withinF (joinF a) z.1.data.toList = true ↔ ∃ r, z.1 = bs (joinF (a ++ r)) ∧ GoodP (a ++ r) := by
  obtain ⟨l, hl, hln, e⟩ := hS.good z hz
  rw [e, bs_list, within_join ga.ok hl.ok]
  constructor
  · rintro ⟨r, rfl⟩; exact ⟨r, rfl, hl⟩
  · rintro ⟨r, e2, hg⟩
    rw [key_inj hl.ok hg.ok e2]
    exact List.prefix_append _ _
theorem MvS.rget {S : St} {a b : List T} (h : MvS S a b) : MvG S.m (rmoveM S.m (joinF a) (joinF b) (S.clock + 1)) a b S.clock := by
  have hmem : ∀ z ∈ rmvL S.m (joinF a) (joinF b), ∃ r n, z = (bs (joinF (b ++ r)), n) ∧ GoodP (a ++ r) ∧ GoodP (b ++ r) ∧ getG S.m (bs (joinF (a ++ r))) = some n := by
    intro z hz
    unfold rmvL at hz
    obtain ⟨y, hy, rfl⟩ := List.mem_map.1 hz
    obtain ⟨hy, hw⟩ := List.mem_filter.1 hy
    obtain ⟨r, e, hg⟩ := (within_mem h.wf h.ga hy).1 hw
    have hgt : getG S.m (bs (joinF (a ++ r))) = some y.2 := mem_getG h.wf.rise (by rw [← e]; exact hy)
    refine ⟨r, y.2, ?_, hg, ?_, hgt⟩
    · rw [e, bs_list, tgt_join h.nea h.neb]
    · by_cases hr : r = []
      · subst hr; rw [List.append_nil]; exact h.gb
      · exact h.fine r hr (by rw [hgt]; simp) hg.ok
  have hin : ∀ r n, getG S.m (bs (joinF (a ++ r))) = some n → (∀ s ∈ a ++ r, okN s) → (bs (joinF (b ++ r)), n) ∈ rmvL S.m (joinF a) (joinF b) := by
    intro r n hn hok
    unfold rmvL
    refine List.mem_map.2 ⟨(bs (joinF (a ++ r)), n), List.mem_filter.2 ⟨getG_mem hn, ?_⟩, by rw [bs_list, tgt_join h.nea h.neb]⟩
    rw [bs_list]
    exact (within_join h.ga.ok hok).2 (List.prefix_append _ _)
  have hpw : (rmvL S.m (joinF a) (joinF b)).Pairwise (fun a b => a.1 ≠ b.1) := by
    unfold rmvL
    rw [List.pairwise_map]
    refine List.Pairwise.imp_of_mem ?_ (List.Pairwise.filter _ h.wf.rise)
    intro x y hx hy hxy e
    obtain ⟨hx, hxw⟩ := List.mem_filter.1 hx
    obtain ⟨hy, hyw⟩ := List.mem_filter.1 hy
    obtain ⟨r, e1, hg1⟩ := (within_mem h.wf h.ga hx).1 hxw
    obtain ⟨r', e2, hg2⟩ := (within_mem h.wf h.ga hy).1 hyw
    rw [e1, e2, bs_list, bs_list, tgt_join h.nea h.neb, tgt_join h.nea h.neb] at e
    have hok : ∀ r, GoodP (a ++ r) → ∀ s ∈ b ++ r, okN s := fun r hg => ok_app h.gb.ok (ok_right hg.ok)
    have e3 := List.append_cancel_left (key_inj (hok r hg1) (hok r' hg2) e)
    subst e3
    rw [e1, e2, sLt_irr] at hxy
    cases hxy
  obtain ⟨f1, f2⟩ := fold_get (rvalM (joinF b) (S.clock + 1)) (rmvL S.m (joinF a) (joinF b)) (routM S.m (joinF a) (joinF b)) hpw
  have hno : ∀ r r', (∀ s ∈ a ++ r, okN s) → (∀ s ∈ b ++ r', okN s) → bs (joinF (a ++ r)) ≠ bs (joinF (b ++ r')) := by
    intro r r' h1 h2 e
    have e := key_inj h1 h2 e
    rcases List.prefix_or_prefix_of_prefix ⟨r, rfl⟩ (show b <+: a ++ r from ⟨r', e.symm⟩) with h3 | h3
    · exact h.nab h3
    · exact h.nba h3
  have hout : ∀ k, getG (routM S.m (joinF a) (joinF b)) k = if (!withinF (joinF b) k.data.toList) = true then (if (!withinF (joinF a) k.data.toList) = true then getG S.m k else none) else none := by
    intro k
    unfold routM
    rw [getG_filter (fun k => !withinF (joinF b) k.data.toList), getG_filter (fun k => !withinF (joinF a) k.data.toList)]
  have hrise : RiseG (routM S.m (joinF a) (joinF b)) := List.Pairwise.filter _ (List.Pairwise.filter _ h.wf.rise)
  refine ⟨fold_rise _ _ hrise, fun r hok => ?_, fun n hn => ?_, fun r hr hok => ?_, fun l hl hln h1 h2 => ?_, fun k hk => ?_⟩
  · unfold rmoveM
    rw [f2, hout]
    · have : withinF (joinF a) (joinF (a ++ r)) = true := (within_join h.ga.ok hok).2 (List.prefix_append _ _)
      rw [bs_list, this]
      simp
    · intro z hz e
      obtain ⟨r', n, rfl, _, hgb, _⟩ := hmem z hz
      exact hno r r' hok hgb.ok e.symm
  · have := f1 _ (hin [] n (by rw [List.append_nil]; exact hn) (by rw [List.append_nil]; exact h.ga.ok))
    rw [List.append_nil] at this
    unfold rmoveM
    rw [this]
    unfold rvalM
    rw [if_pos rfl]
  · unfold rmoveM
    cases hn : getG S.m (bs (joinF (a ++ r))) with
    | some n =>
      rw [f1 _ (hin r n hn (ok_app h.ga.ok (ok_right hok)))]
      unfold rvalM
      rw [if_neg (fun e => hr (by simpa using key_inj hok h.gb.ok e))]
    | none =>
      rw [f2, hout]
      · have : withinF (joinF b) (joinF (b ++ r)) = true := (within_join h.gb.ok hok).2 (List.prefix_append _ _)
        rw [bs_list, this]
        simp
      · intro z hz e
        obtain ⟨r', n, rfl, _, hgb, hn'⟩ := hmem z hz
        have e2 := List.append_cancel_left (key_inj hgb.ok hok e)
        subst e2
        rw [hn] at hn'
        cases hn'
  · unfold rmoveM
    rw [f2, hout]
    · have w1 : withinF (joinF a) (joinF l) = false := by
        cases hw : withinF (joinF a) (joinF l) with
        | false => rfl
        | true => exact absurd ((within_join h.ga.ok hl).1 hw) h1
      have w2 : withinF (joinF b) (joinF l) = false := by
        cases hw : withinF (joinF b) (joinF l) with
        | false => rfl
        | true => exact absurd ((within_join h.gb.ok hl).1 hw) h2
      rw [bs_list, w1, w2]
      simp
    · intro z hz e
      obtain ⟨r', n, rfl, _, hgb, _⟩ := hmem z hz
      exact h2 ⟨r', key_inj hgb.ok hl e⟩
  · unfold rmoveM
    rw [f2, hout]
    · have : getG S.m k = none := getG_none_of (fun z hz e => by
        obtain ⟨l, hl, hln, e2⟩ := h.wf.good z hz
        exact hk l hl.ok hln (e.symm.trans e2))
      rw [this]
      split
      · split <;> rfl
      · rfl
    · intro z hz e
      obtain ⟨r', n, rfl, _, hgb, _⟩ := hmem z hz
      exact hk _ hgb.ok (by simp [h.neb]) e.symm
/-- the document's Move makes the same map -/
theorem MvS.rsame {S : St} {a b : List T} (h : MvS S a b) : (moveQ S (joinF a) (joinF b)).m = rmoveM S.m (joinF a) (joinF b) (S.clock + 1) := by
  obtain ⟨n, hn⟩ := h.node
  exact h.get.same h.rget (by rw [hn]; simp)
/-- too long, or too deep -/
def badT (x y q : T) : Prop := 200 < (tgt x y q).length ∨ 20 < (partsF [47] (tgt x y q)).length
theorem bad_iff {S : St} (hS : WfS S) {a b : List T} (ga : GoodP a) (gb : GoodP b) (nea : a ≠ []) (neb : b ≠ []) : (∃ z ∈ S.m, withinF (joinF a) z.1.data.toList = true ∧ badT (joinF a) (joinF b) z.1.data.toList) ↔ ∃ q ∈ belowM S.m (joinF a), (absF [47] (tgt (joinF a) (joinF b) q)).2 ≠ 0 := by
  constructor
  · rintro ⟨z, hz, hw, hb⟩
    obtain ⟨r, e, hg⟩ := (within_mem hS ga hz).1 hw
    rw [e, bs_list] at hb
    unfold badT at hb
    have hok : ∀ s ∈ b ++ r, okN s := ok_app gb.ok (ok_right hg.ok)
    rw [tgt_join nea neb, parts_join hok] at hb
    have hr : r ≠ [] := by
      rintro rfl
      have h1 := gb.len
      have h2 := gb.deep
      rw [List.append_nil] at hb
      omega
    refine ⟨joinF (a ++ r), (below_names hS ga.ok nea).2 ⟨r, hr, rfl, hg, by rw [← e, mem_getG hS.rise hz]; simp⟩, ?_⟩
    rw [tgt_join nea neb]
    intro h0
    have := abs_ok h0 hok
    have h1 := this.len
    have h2 := this.deep
    omega
  · rintro ⟨q, hq, hne⟩
    obtain ⟨r, hr, rfl, hg, hm⟩ := (below_names hS ga.ok nea).1 hq
    obtain ⟨n, hn⟩ := Option.ne_none_iff_exists'.1 hm
    have hok : ∀ s ∈ b ++ r, okN s := ok_app gb.ok (ok_right hg.ok)
    refine ⟨(bs (joinF (a ++ r)), n), getG_mem hn, by rw [bs_list]; exact (within_join ga.ok hg.ok).2 (List.prefix_append _ _), ?_⟩
    rw [bs_list]
    rw [tgt_join nea neb] at hne
    unfold badT
    rw [tgt_join nea neb, parts_join hok]
    apply Classical.byContradiction
    intro hc
    refine hne ?_
    have : GoodP (b ++ r) := ⟨hok, fun s hs => (List.mem_append.1 hs).elim (gb.long s) (fun h => hg.long s (by simp [h])), fun s hs => (List.mem_append.1 hs).elim (gb.zero s) (fun h => hg.zero s (by simp [h])), by omega, by omega⟩
    rw [absF_good this]
/-- a directory with no names has nothing below it -/
theorem names_nil {S : St} (hS : WfS S) (t : HangS S) {b : List T} (gb : GoodP b) (neb : b ≠ []) : namesM S.m (joinF b) = [] ↔ belowM S.m (joinF b) = [] := by
  constructor
  · intro h
    refine List.eq_nil_iff_forall_not_mem.2 (fun q hq => ?_)
    obtain ⟨r, hr, rfl, hg, hm⟩ := (below_names hS gb.ok neb).1 hq
    cases r with
    | nil => exact hr rfl
    | cons s r =>
      have hkey : getG S.m (bs (joinF (b ++ [s]))) ≠ none := by
        cases hr2 : r with
        | nil => rw [hr2] at hm; exact hm
        | cons x r' =>
          have hk0 : kindM S.m (joinF (b ++ s :: r)) ≠ 0 := by
            obtain ⟨n, hn⟩ := Option.ne_none_iff_exists'.1 hm
            rw [kind_of (fun e => neb (by have := (joinF_root hg.ok).1 e; simp at this)) hn]
            split <;> omega
          have := t.way _ rfl hg (.inl hk0) (b.length + 1) (by rw [hr2]; simp)
          rw [show b ++ s :: r = (b ++ [s]) ++ r by simp, List.take_left' (by simp)] at this
          rcases kind_two this with e | ⟨n, hn, _⟩
          · have := (joinF_root (ok_app gb.ok (fun x hx => by rw [List.mem_singleton.1 hx]; exact hg.ok s (by simp)))).1 e
            simp at this
          · rw [hn]; simp
      obtain ⟨n, hn⟩ := Option.ne_none_iff_exists'.1 hkey
      have : s ∈ namesM S.m (joinF b) := mem_names.2 ⟨(hg.ok s (by simp)).2.2.2, n, by rw [joinF_snoc gb.ok]; exact getG_mem hn⟩
      rw [h] at this
      cases this
  · intro h
    unfold namesM
    rw [h]
    rfl
/-- a move that may be done is done -/
theorem MvS.done {S : St} {a b : List T} (h : MvS S a b) {p q : T} (hp : absF [47] p = (joinF a, 0)) (hq : absF [47] q = (joinF b, 0)) (hw : wayM S.m (joinF a) = 0) : moveS S p q = (moveQ S (joinF a) (joinF b), 0) := by
  have ap : absS S p = (joinF a, 0) := by unfold absS; rw [hp]; simp [hw]
  have aq : absS S q = (joinF b, 0) := by unfold absS; rw [hq]; simp [h.wayb]
  have fp : foundS S p = (joinF a, 0) := by unfold foundS; rw [ap]; simp [h.there]
  have hm : mayS S.m (joinF a) (joinF b) = 0 := by
    have hk := h.kind
    have h0 := h.there
    unfold mayS
    rw [if_neg, if_neg (by omega), if_neg (by omega), if_neg (fun e => e.2 h.bel), if_neg]
    · rintro ⟨q, hq, hne⟩
      obtain ⟨r, hr, rfl, hg, hm⟩ := (below_names h.wf h.ga.ok h.nea).1 hq
      rw [tgt_join h.nea h.neb, absF_good (h.fine r hr hm hg.ok)] at hne
      exact hne rfl
    · rintro (e | e)
      · exact h.neb ((joinF_root h.gb.ok).1 e)
      · exact h.nab ((within_join h.ga.ok h.gb.ok).1 e)
  unfold moveS
  rw [hp, hq, fp, aq]
  dsimp only
  rw [if_neg (by simp), if_neg (by simp), if_neg (by simp), if_neg (fun e => h.nea ((joinF_root h.ga.ok).1 e)), if_neg (by simp), if_neg (fun e => h.nab (joinF_inj h.ga.ok h.gb.ok e ▸ List.prefix_rfl)), if_neg (by simp [hm])]
/-- there and back -/
theorem MvS.again {S : St} {a b : List T} (h : MvS S a b) : MvS (moveQ S (joinF a) (joinF b)) b a ∧ wayM (moveQ S (joinF a) (joinF b)).m (joinF b) = 0 ∧ kindM (moveQ S (joinF a) (joinF b)).m (joinF a) = 0 := by
  have g := h.get
  obtain ⟨n, hn⟩ := h.node
  have hwf := h.moved_wf
  have hh := h.moved_hang
  have na : joinF a ≠ [47] := fun e => h.nea ((joinF_root h.ga.ok).1 e)
  have nb : joinF b ≠ [47] := fun e => h.neb ((joinF_root h.gb.ok).1 e)
  have kb : kindM (moveQ S (joinF a) (joinF b)).m (joinF b) ≠ 0 := by
    rw [kind_of nb (g.node n hn)]
    split <;> omega
  have ka : kindM (moveQ S (joinF a) (joinF b)).m (joinF a) = 0 := by
    have := g.gone [] (by rw [List.append_nil]; exact h.ga.ok)
    rw [List.append_nil] at this
    unfold kindM
    rw [if_neg na, this]
  obtain ⟨a0, s, ha⟩ := snoc_of h.nea
  have hdir : kindM (moveQ S (joinF a) (joinF b)).m (joinF a0) = 2 := by
    have h2 : kindM S.m (joinF a0) = 2 := h.hang.hang a0 s (ha ▸ h.ga) (by rw [← ha, hn]; simp)
    by_cases e : a0 = []
    · subst e; rfl
    · have hok : ∀ s ∈ a0, okN s := by have := h.ga.ok; rw [ha] at this; exact ok_left this
      rw [← h2]
      refine kind_congr (g.rest a0 hok e (fun hp => ?_) (fun hp => h.nba (hp.trans (ha ▸ List.prefix_append _ _))))
      have := hp.length_le
      rw [ha] at this
      simp at this
      omega
  refine ⟨⟨hwf, hh, h.gb, h.ga, h.neb, h.nea, kb, hh.wayOk h.ga (.inr ⟨a0, s, ha, hdir⟩), h.nba, ?_, fun hk => absurd ka hk, fun r hr hm hok => ?_⟩, hh.wayOk h.gb (.inl kb), ka⟩
  · refine List.eq_nil_iff_forall_not_mem.2 (fun q hq => ?_)
    obtain ⟨r, hr, rfl, hg, hm⟩ := (below_names hwf h.ga.ok h.nea).1 hq
    exact hm (g.gone r hg.ok)
  · rw [g.deep r hr hok] at hm
    exact good_key h.wf (ok_app h.ga.ok (ok_right hok)) hm
/-- what is moved away and back is as it was, but for its time -/
theorem MvS.back {S : St} {a b : List T} (h : MvS S a b) (hb : kindM S.m (joinF b) = 0) {n : Nd} (hn : getG S.m (bs (joinF a)) = some n) : (moveQ (moveQ S (joinF a) (joinF b)) (joinF b) (joinF a)).m = putG (bs (joinF a), (⟨n.dir, n.data, S.clock + 2⟩ : Nd)) S.m := by
  have g := h.get
  obtain ⟨h2, _, _⟩ := h.again
  have g2 := h2.get
  have hc : (moveQ S (joinF a) (joinF b)).clock + 1 = S.clock + 2 := rfl
  refine RiseG.ext g2.rise (RiseG.put _ h.wf.rise) (fun k => ?_)
  rw [getG_put]
  by_cases hk : ∀ l, (∀ s ∈ l, okN s) → l ≠ [] → k ≠ bs (joinF l)
  · rw [g2.odd k hk, if_neg (fun e => hk a h.ga.ok h.nea e.symm)]
    exact (getG_none_of (fun z hz e => by
      obtain ⟨l, hl, hln, e2⟩ := h.wf.good z hz
      exact hk l hl.ok hln (e.symm.trans e2))).symm
  · have : ∃ l : List T, (∀ s ∈ l, okN s) ∧ l ≠ [] ∧ k = bs (joinF l) := by
      apply Classical.byContradiction
      intro hc
      exact hk (fun l h1 h2 h3 => hc ⟨l, h1, h2, h3⟩)
    obtain ⟨l, hl, hln, rfl⟩ := this
    by_cases h1 : a <+: l
    · obtain ⟨r, rfl⟩ := h1
      by_cases hr : r = []
      · subst hr
        rw [List.append_nil, if_pos rfl, g2.node _ (g.node n hn)]
        rfl
      · rw [if_neg (fun e => hr (by simpa using key_inj h.ga.ok hl e)), g2.deep r hr hl, g.deep r hr (ok_app h.gb.ok (ok_right hl))]
    · have hne : bs (joinF a) ≠ bs (joinF l) := fun e => h1 (key_inj h.ga.ok hl e ▸ List.prefix_rfl)
      rw [if_neg hne]
      by_cases h3 : b <+: l
      · obtain ⟨r, rfl⟩ := h3
        rw [g2.gone r hl]
        by_cases hr : r = []
        · subst hr
          rw [List.append_nil, getG_kind hb]
        · rw [h.empty hr hl]
      · rw [g2.rest l hl hln h3 h1, g.rest l hl hln h1 h3]
end Go.Proofs.YtkajhdbcnmafcaaGreatDoor.Vf
