/- Walks and plain facts that the claim uses. -/
import Derived.Test.YtmcophlmcloooaaGreatDoorFP2
import Derived.IntWalk
import Derived.Deep.LoopGhost
import Derived.Deep.RegionHeld3
import Derived.Laws.CopyRow
import Derived.Laws.IdiomCopy
set_option maxRecDepth 100000
set_option maxHeartbeats 16000000
set_option linter.unusedSimpArgs false
set_option linter.unusedVariables false
namespace Go.Proofs.YtmcophlmcloooaaGreatDoor.Vf
open Ln Pth
def sumG (f : Nd → Nat) (m : Mp) : Nat := (m.map fun x => f x.2).sum
def fO (f : Nd → Nat) : Option Nd → Nat
 | none => 0
 | some n => f n
theorem sumG_put (f : Nd → Nat) (x : ByteArray × Nd) : ∀ {m : Mp}, RiseG m → sumG f (putG x m) + fO f (getG m x.1) = sumG f m + f x.2
 | [], _ => by simp [putG, getG, fO, sumG]
 | y :: m, h => by
   have h1 := List.pairwise_cons.1 h
   unfold sumG
   rw [putG, getG_cons]
   by_cases e : sLt y.1 x.1 = true
   · have e2 : y.1 ≠ x.1 := fun e2 => by rw [e2, sLt_irr] at e; cases e
     have := sumG_put f x h1.2
     unfold sumG at this
     rw [if_pos e, if_neg e2, List.map_cons, List.map_cons, List.sum_cons, List.sum_cons]
     omega
   · rw [if_neg e]
     by_cases e2 : y.1 = x.1
     · simp only [e2, if_true, List.map_cons, List.sum_cons, fO]
       omega
     · have e3 : sLt x.1 y.1 = true := (sLt_tot y.1 x.1 (by simpa using e)).resolve_left e2
       have e4 : getG m x.1 = none := getG_none_of (fun z hz e5 => by
         have := sLt_trans _ _ _ e3 (h1.1 z hz)
         rw [e5, sLt_irr] at this; cases this)
       rw [if_neg e2, if_neg e2, e4]
       simp only [List.map_cons, List.sum_cons, fO]
       omega
theorem sumG_del (f : Nd → Nat) (n : ByteArray) : ∀ {m : Mp}, RiseG m → sumG f (delG n m) + fO f (getG m n) = sumG f m
 | [], _ => by simp [delG, getG, fO, sumG]
 | y :: m, h => by
   have h1 := List.pairwise_cons.1 h
   have ih := sumG_del f n h1.2
   unfold sumG delG at *
   rw [List.filter_cons, getG_cons]
   by_cases e : y.1 = n
   · subst e
     have e4 : getG m y.1 = none := getG_none_of (RiseG.ne h)
     rw [e4] at ih
     simp only [decide_true, Bool.not_true, Bool.false_eq_true, if_false, if_true, List.map_cons, List.sum_cons, fO]
     simp only [fO] at ih
     omega
   · simp only [decide_eq_false e, Bool.not_false, if_true, if_neg e, List.map_cons, List.sum_cons]
     omega
theorem sumG_one (m : Mp) : sumG (fun _ => 1) m = m.length := by
 unfold sumG
 induction m with
 | nil => rfl
 | cons x m ih => rw [List.map_cons, List.sum_cons, ih, List.length_cons]; exact Nat.add_comm _ _
def tgt (a b q : T) : T := b ++ q.drop a.length
def nodeZ : Nd := ⟨false, [], 0⟩
def mvStep (a b : T) (m : Mp) (q : T) : Mp := delG (bs q) (putG (bs (tgt a b q), (getG m (bs q)).getD nodeZ) m)
def mvL (a b : T) (m : Mp) (L : List T) : Mp := L.foldl (mvStep a b) m
theorem mvL_rise (a b : T) : ∀ (L : List T) {m : Mp}, RiseG m → RiseG (mvL a b m L)
 | [], _, h => h
 | q :: L, m, h => mvL_rise a b L (m := mvStep a b m q) (RiseG.del (RiseG.put _ h) _)
theorem step_get (a b q : T) (m : Mp) (k : ByteArray) : getG (mvStep a b m q) k = if bs q = k then none else if bs (tgt a b q) = k then some ((getG m (bs q)).getD nodeZ) else getG m k := by
 unfold mvStep
 rw [getG_del, getG_put]
structure MvOk (a b : T) (L : List T) : Prop where
 nd : L.Nodup
 inj : ∀ q ∈ L, ∀ q' ∈ L, tgt a b q = tgt a b q' → q = q'
 apart : ∀ q ∈ L, ∀ q' ∈ L, tgt a b q ≠ q'
theorem MvOk.tail {a b q : T} {L : List T} (h : MvOk a b (q :: L)) : MvOk a b L :=
 ⟨(List.nodup_cons.1 h.nd).2, fun x hx y hy => h.inj x (by simp [hx]) y (by simp [hy]), fun x hx y hy => h.apart x (by simp [hx]) y (by simp [hy])⟩
theorem mvL_get {a b : T} : ∀ (L : List T) (m : Mp), MvOk a b L →
   (∀ q ∈ L, getG (mvL a b m L) (bs (tgt a b q)) = some ((getG m (bs q)).getD nodeZ)) ∧ (∀ q ∈ L, getG (mvL a b m L) (bs q) = none) ∧
   ∀ k, (∀ q ∈ L, k ≠ bs q ∧ k ≠ bs (tgt a b q)) → getG (mvL a b m L) k = getG m k
 | [], m, _ => ⟨fun q hq => (by cases hq), fun q hq => (by cases hq), fun k _ => rfl⟩
 | q :: L, m, h => by
   obtain ⟨i1, i2, i3⟩ := mvL_get L (mvStep a b m q) h.tail
   have hq := List.nodup_cons.1 h.nd
   have e0 : mvL a b m (q :: L) = mvL a b (mvStep a b m q) L := rfl
   have ne1 : ∀ x ∈ L, x ≠ q := fun x hx e => hq.1 (e ▸ hx)
   have ht : ∀ x ∈ q :: L, ∀ y ∈ q :: L, bs (tgt a b x) ≠ bs y := fun x hx y hy e => h.apart x hx y hy (bs_inj e)
   refine ⟨fun x hx => ?_, fun x hx => ?_, fun k hk => ?_⟩
   · rw [e0]
     rcases List.mem_cons.1 hx with rfl | hx
     · rw [i3 _ (fun y hy => ⟨ht x (by simp) y (by simp [hy]), fun e => ne1 y hy (h.inj x (by simp) y (by simp [hy]) (bs_inj e)).symm⟩), step_get, if_neg (fun e => ht x (by simp) x (by simp) e.symm), if_pos rfl]
     · rw [i1 x hx, step_get, if_neg (fun e => ne1 x hx (bs_inj e).symm), if_neg (ht q (by simp) x (by simp [hx]))]
   · rw [e0]
     rcases List.mem_cons.1 hx with rfl | hx
     · rw [i3 _ (fun y hy => ⟨fun e => ne1 y hy (bs_inj e).symm, fun e => ht y (by simp [hy]) x (by simp) e.symm⟩), step_get, if_pos rfl]
     · exact i2 x hx
   · rw [e0, i3 k (fun y hy => hk y (by simp [hy])), step_get, if_neg (fun e => (hk q (by simp)).1 e.symm), if_neg (fun e => (hk q (by simp)).2 e.symm)]
theorem mvL_sum (f : Nd → Nat) {a b : T} : ∀ (L : List T) {m : Mp}, RiseG m → MvOk a b L → (∀ q ∈ L, getG m (bs q) ≠ none) → (∀ q ∈ L, getG m (bs (tgt a b q)) = none) → sumG f (mvL a b m L) = sumG f m
 | [], _, _, _, _, _ => rfl
 | q :: L, m, hr, h, h1, h2 => by
   have hq := List.nodup_cons.1 h.nd
   have ne1 : ∀ x ∈ L, x ≠ q := fun x hx e => hq.1 (e ▸ hx)
   have e0 : mvL a b m (q :: L) = mvL a b (mvStep a b m q) L := rfl
   obtain ⟨n, hn⟩ := Option.ne_none_iff_exists'.1 (h1 q (by simp))
   have s1 := sumG_put f (bs (tgt a b q), n) hr
   have s2 := sumG_del f (bs q) (RiseG.put (bs (tgt a b q), n) hr)
   rw [getG_put, if_neg (fun e => h.apart q (by simp) q (by simp) (bs_inj e)), hn] at s2
   rw [h2 q (by simp)] at s1
   simp only [fO] at s1 s2
   rw [e0, mvL_sum f (m := mvStep a b m q) L (RiseG.del (RiseG.put _ hr) _) h.tail (fun x hx => ?_) (fun x hx => ?_)]
   · unfold mvStep
     rw [hn]
     show sumG f (delG (bs q) (putG (bs (tgt a b q), n) m)) = _
     omega
   · rw [step_get, if_neg (fun e => ne1 x hx (bs_inj e).symm), if_neg (fun e => h.apart q (by simp) x (by simp [hx]) (bs_inj e))]
     exact h1 x (by simp [hx])
   · rw [step_get, if_neg (fun e => h.apart x (by simp [hx]) q (by simp) (bs_inj e).symm), if_neg (fun e => ne1 x hx (h.inj q (by simp) x (by simp [hx]) (bs_inj e)).symm)]
     exact h2 x (by simp [hx])
end Go.Proofs.YtmcophlmcloooaaGreatDoor.Vf
namespace Go.Proofs.YtmcophlmcloooaaGreatDoor.Pth
open Ln
theorem GoodP.front {l : List T} {s : T} (h : GoodP (l ++ [s])) : GoodP l := by
 have := h.take l.length
 rwa [List.take_left' rfl] at this
end Go.Proofs.YtmcophlmcloooaaGreatDoor.Pth
namespace Go.Proofs.YtmcophlmcloooaaGreatDoor.Vf
open Ln Pth
theorem wayL_iff (m : Mp) : ∀ (rest pre : List T), wayL m pre rest = 0 ↔ ∀ k, k < rest.length → kindM m (joinF (pre ++ rest.take k)) = 2
 | [], pre => by simp [wayL]
 | s :: r, pre => by
   have hk := kind_le m (joinF pre)
   rw [wayL]
   constructor
   · intro h k hkl
     split at h
     · cases h
     · split at h
       · cases h
       · cases k with
         | zero => rw [List.take_zero, List.append_nil]; omega
         | succ k =>
           have := (wayL_iff m r (pre ++ [s])).1 h k (by simpa using hkl)
           rwa [List.append_assoc] at this
   · intro h
     have h0 := h 0 (by simp)
     rw [List.take_zero, List.append_nil] at h0
     rw [if_neg (by omega), if_neg (by omega)]
     refine (wayL_iff m r (pre ++ [s])).2 (fun k hk => ?_)
     have := h (k + 1) (by simpa using hk)
     rwa [List.take_succ_cons, ← List.singleton_append, ← List.append_assoc] at this
theorem way_iff (m : Mp) {l : List T} (h : ∀ s ∈ l, okN s) : wayM m (joinF l) = 0 ↔ ∀ k, 0 < k → k < l.length → kindM m (joinF (l.take k)) = 2 := by
 have h47 : ∀ s ∈ l, 47 ∉ s := fun s hs => (h s hs).2.2.2
 cases l with
 | nil => rw [way_join m h47]; simp
 | cons s r =>
   rw [way_join m h47]
   dsimp only
   rw [wayL_iff]
   constructor
   · intro h k h0 hk
     obtain ⟨j, rfl⟩ : ∃ j, k = j + 1 := ⟨k - 1, by omega⟩
     have := h j (by simpa using hk)
     simpa using this
   · intro h k hk
     have := h (k + 1) (by omega) (by simpa using hk)
     simpa using this
theorem key_inj {a b : List T} (ha : ∀ s ∈ a, okN s) (hb : ∀ s ∈ b, okN s) (h : bs (joinF a) = bs (joinF b)) : a = b := joinF_inj ha hb (bs_inj h)
theorem kind_two {m : Mp} {q : T} (h : kindM m q = 2) : q = [47] ∨ ∃ n, getG m (bs q) = some n ∧ n.dir = true := by
 unfold kindM at h
 split at h
 · rename_i e; exact .inl e
 · cases hg : getG m (bs q) with
   | none => rw [hg] at h; cases h
   | some n =>
     rw [hg] at h
     dsimp only at h
     cases hd : n.dir with
     | true => exact .inr ⟨n, rfl, hd⟩
     | false => rw [hd] at h; cases h
theorem kind_of {m : Mp} {q : T} {n : Nd} (hq : q ≠ [47]) (h : getG m (bs q) = some n) : kindM m q = if n.dir = true then 2 else 1 := by
 unfold kindM
 rw [if_neg hq, h]
theorem kind_congr {m m' : Mp} {q : T} (h : getG m (bs q) = getG m' (bs q)) : kindM m q = kindM m' q := by
 unfold kindM
 rw [h]
structure HangS (S : St) : Prop where
 hang : ∀ l s, GoodP (l ++ [s]) → getG S.m (bs (joinF (l ++ [s]))) ≠ none → kindM S.m (joinF l) = 2
 dirs : ∀ k n, getG S.m k = some n → n.dir = true → n.data = []
 times : ∀ k n, getG S.m k = some n → 1 ≤ n.time ∧ n.time ≤ S.clock
 dist : ∀ k k' n n', getG S.m k = some n → getG S.m k' = some n' → n.time = n'.time → k = k'
theorem new_hang (n b : Int) : HangS (newS n b) := ⟨fun l s _ h => absurd rfl h, fun k n h => (by cases h), fun k n h => (by cases h), fun k k' n n' h => (by cases h)⟩
theorem snoc_of {l : List T} (h : l ≠ []) : ∃ a s, l = a ++ [s] := ⟨l.dropLast, l.getLast h, (List.dropLast_concat_getLast h).symm⟩
theorem way_dir {m : Mp} {l : List T} {s : T} (h : ∀ x ∈ l ++ [s], okN x) (hw : wayM m (joinF (l ++ [s])) = 0) : kindM m (joinF l) = 2 := by
 cases hl : l with
 | nil => rfl
 | cons x r =>
   rw [← hl]
   have := (way_iff m h).1 hw l.length (by rw [hl]; simp) (by simp)
   rwa [List.take_left' rfl] at this
theorem HangS.way {S : St} (t : HangS S) : ∀ (n : Nat) {l : List T}, l.length = n → GoodP l → (kindM S.m (joinF l) ≠ 0 ∨ ∃ a s, l = a ++ [s] ∧ kindM S.m (joinF a) = 2) → ∀ k, k < l.length → kindM S.m (joinF (l.take k)) = 2
 | 0, l, hn, hl, h, k, hk => by omega
 | n + 1, l, hn, hl, h, k, hk => by
   obtain ⟨a, s, rfl⟩ := snoc_of (l := l) (by rintro rfl; simp at hn)
   have hd : kindM S.m (joinF a) = 2 := by
     rcases h with h | ⟨a', s', e, h⟩
     · refine t.hang a s hl ?_
       obtain ⟨n, hn⟩ := getG_some_kind (fun e => by have := (joinF_root hl.ok).1 e; simp at this) h
       rw [hn]; simp
     · obtain ⟨rfl, _⟩ := List.append_inj' e rfl
       exact h
   by_cases hk2 : k < a.length
   · rw [List.take_append_of_le_length (by omega)]
     exact HangS.way t n (by simpa using hn) hl.front (.inl (by omega)) k hk2
   · obtain rfl : k = a.length := by simp at hk; omega
     rwa [List.take_left' rfl]
theorem HangS.put {S : St} (t : HangS S) (used : Nat) {l : List T} {s : T} (hl : GoodP (l ++ [s])) (hp : kindM S.m (joinF l) = 2) (dir : Bool) (data : T) (hdd : dir = true → data = [])
   (hd : ∀ n, getG S.m (bs (joinF (l ++ [s]))) = some n → n.dir = true → dir = true) : HangS { putS S (joinF (l ++ [s])) dir data with used := used } := by
 have hg : ∀ k, getG (putG (bs (joinF (l ++ [s])), (⟨dir, data, S.clock + 1⟩ : Nd)) S.m) k = if bs (joinF (l ++ [s])) = k then some ⟨dir, data, S.clock + 1⟩ else getG S.m k := fun k => getG_put _ _ _
 have hk : ∀ a, kindM S.m (joinF a) = 2 → kindM (putG (bs (joinF (l ++ [s])), (⟨dir, data, S.clock + 1⟩ : Nd)) S.m) (joinF a) = 2 := by
   intro a h2
   rcases kind_two h2 with e | ⟨n, h1, h3⟩
   · rw [e]; rfl
   · by_cases e : bs (joinF (l ++ [s])) = bs (joinF a)
     · unfold kindM
       rw [hg, if_pos e]
       split
       · rfl
       · dsimp only
         rw [if_pos (hd n (by rw [e]; exact h1) h3)]
     · exact (kind_put e).trans h2
 refine ⟨fun a x ha hne => ?_, fun k n h1 h2 => ?_, fun k n h1 => ?_, fun k k' n n' h1 h2 h3 => ?_⟩
 · refine hk a ?_
   have hne : getG (putG (bs (joinF (l ++ [s])), (⟨dir, data, S.clock + 1⟩ : Nd)) S.m) (bs (joinF (a ++ [x]))) ≠ none := hne
   rw [hg] at hne
   by_cases e : bs (joinF (l ++ [s])) = bs (joinF (a ++ [x]))
   · obtain ⟨rfl, _⟩ := List.append_inj' (key_inj hl.ok ha.ok e) rfl
     exact hp
   · rw [if_neg e] at hne
     exact t.hang a x ha hne
 · have h1 : getG (putG (bs (joinF (l ++ [s])), (⟨dir, data, S.clock + 1⟩ : Nd)) S.m) k = some n := h1
   rw [hg] at h1
   split at h1
   · injection h1 with h1
     subst h1
     exact hdd h2
   · exact t.dirs k n h1 h2
 · have h1 : getG (putG (bs (joinF (l ++ [s])), (⟨dir, data, S.clock + 1⟩ : Nd)) S.m) k = some n := h1
   show 1 ≤ n.time ∧ n.time ≤ S.clock + 1
   rw [hg] at h1
   split at h1
   · injection h1 with h1
     subst h1
     exact ⟨by simp, by simp⟩
   · have := t.times k n h1
     omega
 · have h1 : getG (putG (bs (joinF (l ++ [s])), (⟨dir, data, S.clock + 1⟩ : Nd)) S.m) k = some n := h1
   have h2 : getG (putG (bs (joinF (l ++ [s])), (⟨dir, data, S.clock + 1⟩ : Nd)) S.m) k' = some n' := h2
   rw [hg] at h1 h2
   split at h1
   · rename_i e1
     injection h1 with h1
     subst h1
     split at h2
     · rename_i e2
       rw [← e1, ← e2]
     · have := t.times k' n' h2
       have h3 : S.clock + 1 = n'.time := h3
       omega
   · split at h2
     · injection h2 with h2
       subst h2
       have := t.times k n h1
       have h3 : n.time = S.clock + 1 := h3
       omega
     · exact t.dist k k' n n' h1 h2 h3
theorem abs_dir {S : St} {p : T} (h : (absS S p).2 = 0) (hq : (absS S p).1 ≠ [47]) : ∃ l s, GoodP (l ++ [s]) ∧ (absS S p).1 = joinF (l ++ [s]) ∧ kindM S.m (joinF l) = 2 := by
 obtain ⟨l, hl, e, _, hw⟩ := absS_good h
 obtain ⟨a, s, rfl⟩ := snoc_of (good_ne e hq)
 exact ⟨a, s, hl, e, way_dir hl.ok hw⟩
theorem writeS_hang {S : St} (t : HangS S) (p b : T) (more : Bool) : HangS (writeS S p b more).1 := by
 unfold writeS
 split
 · exact t
 · rename_i h1
   unfold writeQ
   split
   · exact t
   · rename_i hk
     dsimp only
     generalize (if kindM S.m (absS S p).1 = 0 then 1 else 0) = z
     generalize (if more = true then dataM S.m (absS S p).1 else []) = was
     split
     · obtain ⟨l, s, hl, e, hp⟩ := abs_dir (S := S) (p := p) (by simpa using h1) (root_kind hk)
       rw [e] at hk ⊢
       refine t.put _ hl hp false _ (fun h => by cases h) (fun n h1 h2 => ?_)
       rw [kind_of (root_kind hk) h1, if_pos h2] at hk
       exact absurd rfl hk
     · exact t
theorem mkdirS_hang {S : St} (t : HangS S) (p : T) : HangS (mkdirS S p).1 := by
 unfold mkdirS
 split
 · exact t
 · rename_i h1
   split
   · exact t
   · rename_i hk
     split
     · have hk : kindM S.m (absS S p).1 = 0 := by simpa using hk
       obtain ⟨l, s, hl, e, hp⟩ := abs_dir (S := S) (p := p) (by simpa using h1) (root_kind (m := S.m) (by omega))
       rw [e] at hk ⊢
       exact t.put S.used hl hp true [] (fun _ => rfl) (fun n h1 h2 => rfl)
     · exact t
theorem touchS_hang {S : St} (t : HangS S) (p : T) : HangS (touchS S p).1 := by
 unfold touchS
 split
 · exact t
 · rename_i h1
   split
   · exact t
   · rename_i h2
     cases hg : getG S.m (bs (absS S p).1) with
     | none => exact writeS_hang t p [] false
     | some n =>
       dsimp only
       obtain ⟨l, s, hl, e, hp⟩ := abs_dir (S := S) (p := p) (by simpa using h1) h2
       have hdd := t.dirs _ _ hg
       rw [e] at hg ⊢
       exact t.put S.used hl hp n.dir n.data hdd (fun n' h1 h2 => by rw [hg] at h1; injection h1 with h1; rw [h1]; exact h2)
theorem foundS_abs {S : St} {p : T} (h : (foundS S p).2 = 0) : (absS S p).2 = 0 ∧ (foundS S p).1 = (absS S p).1 ∧ kindM S.m (absS S p).1 ≠ 0 := by
 unfold foundS at h ⊢
 dsimp only at h ⊢
 split at h
 · cases h
 · rename_i h2
   exact ⟨h, rfl, fun h3 => h2 ⟨h, h3⟩⟩
theorem slashed_lastM : ∀ {l : List T}, (∀ s ∈ l, okN s) → l ≠ [] → (slashed l).getLast? ≠ some 47 := by
 intro l h hne
 obtain ⟨a, s, rfl⟩ : ∃ a s, l = a ++ [s] := ⟨l.dropLast, l.getLast hne, (List.dropLast_concat_getLast hne).symm⟩
 obtain ⟨h1, _, _, h4⟩ := h s (by simp)
 rw [slashed_app]
 have e : slashed [s] = 47 :: s := by simp [slashed]
 rw [e, List.getLast?_append, List.getLast?_cons, List.getLast?_eq_some_getLast h1]
 simp
 intro e2
 exact h4 (e2 ▸ List.getLast_mem h1)
theorem joinF_snoc {l : List T} (h : ∀ s ∈ l, okN s) (s : T) : frontF (joinF l) ++ s = joinF (l ++ [s]) := by
 have e : slashed [s] = 47 :: s := by simp [slashed]
 have e2 : joinF (l ++ [s]) = slashed (l ++ [s]) := by unfold joinF; rw [if_neg (by simp)]
 rw [e2, slashed_app, e]
 by_cases hl : l = []
 · subst hl; rfl
 · have e3 : joinF l = slashed l := by unfold joinF; rw [if_neg hl]
   unfold frontF
   rw [e3, if_neg (slashed_lastM h hl)]
   simp
theorem below_none {S : St} {l : List T} (hl : ∀ s ∈ l, okN s) (h : belowM S.m (joinF l) = []) (s : T) : getG S.m (bs (joinF (l ++ [s]))) = none := by
 cases hg : getG S.m (bs (joinF (l ++ [s]))) with
 | none => rfl
 | some n =>
   have : joinF (l ++ [s]) ∈ belowM S.m (joinF l) := mem_below.2 ⟨s, n, (joinF_snoc hl s).symm, getG_mem hg⟩
   rw [h] at this
   cases this
theorem removeS_hang {S : St} (t : HangS S) (p : T) : HangS (removeS S p).1 := by
 unfold removeS
 split
 · exact t
 · rename_i h1
   split
   · exact t
   · rename_i h2
     split
     · exact t
     · rename_i h3
       obtain ⟨h4, h5, h6⟩ := foundS_abs (S := S) (p := p) (by simpa using h1)
       obtain ⟨l, hl, e, _, _⟩ := absS_good h4
       rw [h5, e] at h2 h3 ⊢
       have h3 : belowM S.m (joinF l) = [] := by simpa using h3
       have hg : ∀ k, getG (delG (bs (joinF l)) S.m) k = if bs (joinF l) = k then none else getG S.m k := fun k => getG_del _ _ _
       have hs : ∀ k n, getG (delG (bs (joinF l)) S.m) k = some n → getG S.m k = some n := fun k n h => by
         rw [hg] at h
         split at h
         · cases h
         · exact h
       refine ⟨fun a x ha hne => ?_, fun k n h1 => t.dirs k n (hs k n h1), fun k n h1 => ?_, fun k k' n n' h1 h2 => t.dist k k' n n' (hs _ _ h1) (hs _ _ h2)⟩
       · have hne : getG (delG (bs (joinF l)) S.m) (bs (joinF (a ++ [x]))) ≠ none := hne
         obtain ⟨n, hn⟩ := Option.ne_none_iff_exists'.1 hne
         have h7 := hs _ _ hn
         have h8 := t.hang a x ha (by rw [h7]; simp)
         show kindM (delG (bs (joinF l)) S.m) (joinF a) = 2
         by_cases e2 : l = a
         · subst e2
           rw [below_none hl.ok h3] at h7
           cases h7
         · rw [kind_congr (m' := S.m)]
           · exact h8
           · rw [hg, if_neg (fun e3 => e2 (key_inj hl.ok ha.front.ok e3))]
       · have := t.times k n (hs k n h1)
         show 1 ≤ n.time ∧ n.time ≤ S.clock + 1
         omega
end Go.Proofs.YtmcophlmcloooaaGreatDoor.Vf
namespace Go.Proofs.YtmcophlmcloooaaGreatDoor.Vf
open Ln Pth
def mayS (m : Mp) (a b : T) : Nat :=
 if b = [47] ∨ withinF a b = true then 1 else
 if kindM m b = 2 ∧ kindM m a ≠ 2 then 10 else
 if kindM m b = 1 ∧ kindM m a = 2 then 11 else
 if kindM m b = 2 ∧ belowM m b ≠ [] then 14 else
 if ∃ q ∈ belowM m a, (absF [47] (tgt a b q)).2 ≠ 0 then 3 else 0
def moveQ (S : St) (a b : T) : St :=
 { S with m := delG (bs a) (putG (bs b, (⟨((getG (mvL a b S.m (belowM S.m a)) (bs a)).getD nodeZ).dir, ((getG (mvL a b S.m (belowM S.m a)) (bs a)).getD nodeZ).data, S.clock + 1⟩ : Nd)) (mvL a b S.m (belowM S.m a))), used := S.used - (dataM S.m b).length, clock := S.clock + 1 }
def moveS (S : St) (p q : T) : St × Nat :=
 if (absF [47] p).2 ≠ 0 then (S, (absF [47] p).2) else if (absF [47] q).2 ≠ 0 then (S, (absF [47] q).2) else
 if (foundS S p).2 ≠ 0 then (S, (foundS S p).2) else if (foundS S p).1 = [47] then (S, 1) else
 if (absS S q).2 ≠ 0 then (S, (absS S q).2) else if (foundS S p).1 = (absS S q).1 then (S, 0) else
 if mayS S.m (foundS S p).1 (absS S q).1 ≠ 0 then (S, mayS S.m (foundS S p).1 (absS S q).1) else (moveQ S (foundS S p).1 (absS S q).1, 0)
theorem within_join {a b : List T} (ha : ∀ s ∈ a, okN s) (hb : ∀ s ∈ b, okN s) : withinF (joinF a) (joinF b) = true ↔ a <+: b := by
 unfold withinF
 rw [parts_join ha, parts_join hb, decide_eq_true_iff]
 constructor
 · intro h; rw [← h]; exact List.take_prefix _ _
 · rintro ⟨r, rfl⟩; exact List.take_left' rfl
theorem front_eq {a : List T} (h : ∀ s ∈ a, okN s) (_ : a ≠ []) : frontF (joinF a) = slashed a ++ [47] := by
 have := joinF_snoc h []
 rw [List.append_nil] at this
 rw [this, joinF, if_neg (by simp), slashed_app]
 simp [slashed]
theorem slashed_join {l : List T} (h : l ≠ []) : joinF l = slashed l := if_neg h
theorem front_names {a l : List T} (ha : ∀ s ∈ a, okN s) (hl : ∀ s ∈ l, okN s) (hne : a ≠ []) (hln : l ≠ []) {r : T} (h : joinF l = frontF (joinF a) ++ r) : ∃ x, x ≠ [] ∧ l = a ++ x := by
 rw [front_eq ha hne, slashed_join hln, List.append_assoc] at h
 have h1 := congrArg (spl 47) h
 rw [spl_slashed (fun s hs => (hl s hs).2.2.2) hln, List.singleton_append, spl_both, spl_slashed (fun s hs => (ha s hs).2.2.2) hne] at h1
 injection h1 with _ h1
 exact ⟨_, spl_ne _ _, h1⟩
theorem below_names {S : St} (hS : WfS S) {a : List T} (ha : ∀ s ∈ a, okN s) (hne : a ≠ []) {q : T} : q ∈ belowM S.m (joinF a) ↔ ∃ r, r ≠ [] ∧ q = joinF (a ++ r) ∧ GoodP (a ++ r) ∧ getG S.m (bs q) ≠ none := by
 rw [mem_below]
 constructor
 · rintro ⟨r, n, rfl, hm⟩
   obtain ⟨l, hl, hln, e⟩ := hS.good _ hm
   have e := bs_inj e
   obtain ⟨x, hx, rfl⟩ := front_names ha hl.ok hne hln e.symm
   exact ⟨x, hx, e, hl, by rw [mem_getG hS.rise hm]; simp⟩
 · rintro ⟨r, hr, rfl, hg, hm⟩
   obtain ⟨n, hn⟩ := Option.ne_none_iff_exists'.1 hm
   have := getG_mem hn
   cases r with
   | nil => exact absurd rfl hr
   | cons x r =>
     refine ⟨x ++ slashed r, n, ?_, getG_mem hn⟩
     rw [front_eq ha hne, slashed_join (by simp), slashed_app, slashed_cons]
     simp
theorem tgt_join {a b r : List T} (ha : a ≠ []) (hb : b ≠ []) : tgt (joinF a) (joinF b) (joinF (a ++ r)) = joinF (b ++ r) := by
 unfold tgt
 rw [slashed_join ha, slashed_join hb, slashed_join (by simp [ha]), slashed_join (by simp [hb]), slashed_app, slashed_app, List.drop_left' rfl]
structure MvS (S : St) (a b : List T) : Prop where
 wf : WfS S
 hang : HangS S
 ga : GoodP a
 gb : GoodP b
 nea : a ≠ []
 neb : b ≠ []
 there : kindM S.m (joinF a) ≠ 0
 wayb : wayM S.m (joinF b) = 0
 nab : ¬ a <+: b
 bel : belowM S.m (joinF b) = []
 kind : kindM S.m (joinF b) ≠ 0 → kindM S.m (joinF b) = kindM S.m (joinF a)
 fine : ∀ r, r ≠ [] → getG S.m (bs (joinF (a ++ r))) ≠ none → (∀ s ∈ a ++ r, okN s) → GoodP (b ++ r)
theorem MvS.empty {S : St} {a b : List T} (h : MvS S a b) {r : List T} (hr : r ≠ []) (hok : ∀ s ∈ b ++ r, okN s) : getG S.m (bs (joinF (b ++ r))) = none := by
 cases hg : getG S.m (bs (joinF (b ++ r))) with
 | none => rfl
 | some n =>
   obtain ⟨l, hl, hln, e⟩ := h.wf.good _ (getG_mem hg)
   have e2 := key_inj hok hl.ok e
   subst e2
   have : joinF (b ++ r) ∈ belowM S.m (joinF b) := (below_names h.wf h.gb.ok h.neb).2 ⟨r, hr, rfl, hl, by rw [hg]; simp⟩
   rw [h.bel] at this
   cases this
theorem MvS.node {S : St} {a b : List T} (h : MvS S a b) : ∃ n, getG S.m (bs (joinF a)) = some n := getG_some_kind (fun e => h.nea ((joinF_root h.ga.ok).1 e)) h.there
theorem MvS.nba {S : St} {a b : List T} (h : MvS S a b) : ¬ b <+: a := by
 rintro ⟨r, e⟩
 by_cases hr : r = []
 · subst hr
   rw [List.append_nil] at e
   exact h.nab (e ▸ List.prefix_rfl)
 · obtain ⟨n, hn⟩ := h.node
   have := h.empty hr (by rw [e]; exact h.ga.ok)
   rw [e, hn] at this
   cases this
theorem MvS.ok {S : St} {a b : List T} (h : MvS S a b) : MvOk (joinF a) (joinF b) (belowM S.m (joinF a)) := by
 refine ⟨List.Pairwise.imp (fun {x y} hxy e => by subst e; exact tlt_irr _ hxy) (below_rise h.wf.rise _), ?_, ?_⟩
 · intro q hq q' hq' e
   obtain ⟨r, hr, rfl, hg, hm⟩ := (below_names h.wf h.ga.ok h.nea).1 hq
   obtain ⟨r', hr', rfl, hg', hm'⟩ := (below_names h.wf h.ga.ok h.nea).1 hq'
   rw [tgt_join h.nea h.neb, tgt_join h.nea h.neb] at e
   have := joinF_inj (h.fine r hr hm hg.ok).ok (h.fine r' hr' hm' hg'.ok).ok e
   rw [List.append_cancel_left this]
 · intro q hq q' hq' e
   obtain ⟨r, hr, rfl, hg, hm⟩ := (below_names h.wf h.ga.ok h.nea).1 hq
   obtain ⟨r', hr', rfl, hg', hm'⟩ := (below_names h.wf h.ga.ok h.nea).1 hq'
   rw [tgt_join h.nea h.neb] at e
   have e2 := joinF_inj (h.fine r hr hm hg.ok).ok hg'.ok e
   have h1 : b <+: a ++ r' := ⟨r, e2⟩
   have h2 : a <+: a ++ r' := ⟨r', rfl⟩
   rcases List.prefix_or_prefix_of_prefix h1 h2 with h3 | h3
   · exact h.nba h3
   · exact h.nab h3
structure MvG (m m' : Mp) (a b : List T) (clock : Nat) : Prop where
 rise : RiseG m'
 gone : ∀ r, (∀ s ∈ a ++ r, okN s) → getG m' (bs (joinF (a ++ r))) = none
 node : ∀ n, getG m (bs (joinF a)) = some n → getG m' (bs (joinF b)) = some ⟨n.dir, n.data, clock + 1⟩
 deep : ∀ r, r ≠ [] → (∀ s ∈ b ++ r, okN s) → getG m' (bs (joinF (b ++ r))) = getG m (bs (joinF (a ++ r)))
 rest : ∀ l, (∀ s ∈ l, okN s) → l ≠ [] → ¬ a <+: l → ¬ b <+: l → getG m' (bs (joinF l)) = getG m (bs (joinF l))
 odd : ∀ k, (∀ l, (∀ s ∈ l, okN s) → l ≠ [] → k ≠ bs (joinF l)) → getG m' k = none
theorem MvG.same {m m' m'' : Mp} {a b : List T} {clock : Nat} (h : MvG m m' a b clock) (h' : MvG m m'' a b clock) (hn : getG m (bs (joinF a)) ≠ none) : m' = m'' := by
 obtain ⟨n, hn⟩ := Option.ne_none_iff_exists'.1 hn
 refine RiseG.ext h.rise h'.rise (fun k => ?_)
 by_cases hk : ∀ l, (∀ s ∈ l, okN s) → l ≠ [] → k ≠ bs (joinF l)
 · rw [h.odd k hk, h'.odd k hk]
 · have : ∃ l : List T, (∀ s ∈ l, okN s) ∧ l ≠ [] ∧ k = bs (joinF l) := by
     apply Classical.byContradiction
     intro hc
     exact hk (fun l h1 h2 h3 => hc ⟨l, h1, h2, h3⟩)
   obtain ⟨l, hl, hln, rfl⟩ := this
   by_cases h1 : a <+: l
   · obtain ⟨r, rfl⟩ := h1
     rw [h.gone r hl, h'.gone r hl]
   · by_cases h2 : b <+: l
     · obtain ⟨r, rfl⟩ := h2
       by_cases hr : r = []
       · subst hr
         rw [List.append_nil, h.node n hn, h'.node n hn]
       · rw [h.deep r hr hl, h'.deep r hr hl]
     · rw [h.rest l hl hln h1 h2, h'.rest l hl hln h1 h2]
theorem MvS.mvL {S : St} {a b : List T} (h : MvS S a b) :
   (∀ r, r ≠ [] → (∀ s ∈ a ++ r, okN s) → getG (mvL (joinF a) (joinF b) S.m (belowM S.m (joinF a))) (bs (joinF (a ++ r))) = none) ∧
   (∀ r, r ≠ [] → (∀ s ∈ b ++ r, okN s) → getG (mvL (joinF a) (joinF b) S.m (belowM S.m (joinF a))) (bs (joinF (b ++ r))) = getG S.m (bs (joinF (a ++ r)))) ∧
   (∀ l, (∀ s ∈ l, okN s) → (∀ r, r ≠ [] → l ≠ a ++ r) → (∀ r, r ≠ [] → l ≠ b ++ r) → getG (mvL (joinF a) (joinF b) S.m (belowM S.m (joinF a))) (bs (joinF l)) = getG S.m (bs (joinF l))) ∧
   (∀ k, (∀ l, (∀ s ∈ l, okN s) → l ≠ [] → k ≠ bs (joinF l)) → getG (mvL (joinF a) (joinF b) S.m (belowM S.m (joinF a))) k = getG S.m k) := by
 obtain ⟨g1, g2, g3⟩ := mvL_get _ S.m h.ok
 have hin : ∀ q ∈ belowM S.m (joinF a), ∃ r, r ≠ [] ∧ q = joinF (a ++ r) ∧ GoodP (a ++ r) ∧ GoodP (b ++ r) ∧ tgt (joinF a) (joinF b) q = joinF (b ++ r) := by
   intro q hq
   obtain ⟨r, hr, rfl, hg, hm⟩ := (below_names h.wf h.ga.ok h.nea).1 hq
   exact ⟨r, hr, rfl, hg, h.fine r hr hm hg.ok, tgt_join h.nea h.neb⟩
 have hno : ∀ r r', (∀ s ∈ a ++ r, okN s) → (∀ s ∈ b ++ r', okN s) → joinF (a ++ r) ≠ joinF (b ++ r') := by
   intro r r' h1 h2 e
   have e := joinF_inj h1 h2 e
   rcases List.prefix_or_prefix_of_prefix ⟨r, rfl⟩ (show b <+: a ++ r from ⟨r', e.symm⟩) with h3 | h3
   · exact h.nab h3
   · exact h.nba h3
 refine ⟨fun r hr hok => ?_, fun r hr hok => ?_, fun l hl h1 h2 => ?_, fun k hk => ?_⟩
 · by_cases hm : joinF (a ++ r) ∈ belowM S.m (joinF a)
   · exact g2 _ hm
   · rw [g3]
     · cases hg : getG S.m (bs (joinF (a ++ r))) with
       | none => rfl
       | some n =>
         obtain ⟨l, hl, _, e⟩ := h.wf.good _ (getG_mem hg)
         have e2 := key_inj hok hl.ok e
         exact absurd ((below_names h.wf h.ga.ok h.nea).2 ⟨r, hr, rfl, e2 ▸ hl, by rw [hg]; simp⟩) hm
     · intro q hq
       obtain ⟨r', hr', rfl, hg, hgb, ht⟩ := hin q hq
       exact ⟨fun e => hm (by rw [bs_inj e]; exact hq), fun e => hno r r' hok hgb.ok (by rw [← ht]; exact bs_inj e)⟩
 · by_cases hm : getG S.m (bs (joinF (a ++ r))) = none
   · rw [g3, hm, h.empty hr hok]
     intro q hq
     obtain ⟨r', hr', rfl, hg, hgb, ht⟩ := hin q hq
     refine ⟨fun e => hno r' r hg.ok hok (bs_inj e).symm, fun e => ?_⟩
     rw [ht] at e
     have e2 := List.append_cancel_left (key_inj hok hgb.ok e)
     subst e2
     exact ((below_names h.wf h.ga.ok h.nea).1 hq).elim (fun x hx => hx.2.2.2 hm)
   · obtain ⟨n, hn⟩ := Option.ne_none_iff_exists'.1 hm
     obtain ⟨l, hl, hln, e⟩ := h.wf.good _ (getG_mem hn)
     have hq : joinF (a ++ r) ∈ belowM S.m (joinF a) := by
       refine (below_names h.wf h.ga.ok h.nea).2 ⟨r, hr, rfl, ?_, hm⟩
       have hor : ∀ s ∈ a ++ r, okN s := fun s hs => by
         rcases List.mem_append.1 hs with hs | hs
         · exact h.ga.ok s hs
         · exact hok s (by simp [hs])
       rw [key_inj hor hl.ok e]
       exact hl
     have := g1 _ hq
     rw [tgt_join h.nea h.neb, hn] at this
     rw [this, hn]
     rfl
 · refine g3 _ (fun q hq => ?_)
   obtain ⟨r', hr', rfl, hg, hgb, ht⟩ := hin q hq
   rw [ht]
   exact ⟨fun e => h1 r' hr' (key_inj hl hg.ok e), fun e => h2 r' hr' (key_inj hl hgb.ok e)⟩
 · refine g3 _ (fun q hq => ?_)
   obtain ⟨r', hr', rfl, hg, hgb, ht⟩ := hin q hq
   rw [ht]
   exact ⟨hk _ hg.ok (by simp [hr']), hk _ hgb.ok (by simp [hr'])⟩
theorem MvS.get {S : St} {a b : List T} (h : MvS S a b) : MvG S.m (moveQ S (joinF a) (joinF b)).m a b S.clock := by
 obtain ⟨m1, m2, m3, m4⟩ := h.mvL
 obtain ⟨n, hn⟩ := h.node
 have ha : getG (Vf.mvL (joinF a) (joinF b) S.m (belowM S.m (joinF a))) (bs (joinF a)) = some n := by
   rw [m3 a h.ga.ok (fun r hr e => hr (by simpa using e)) (fun r hr e => h.nba ⟨r, e.symm⟩)]
   exact hn
 have hne : bs (joinF a) ≠ bs (joinF b) := fun e => h.nab (key_inj h.ga.ok h.gb.ok e ▸ List.prefix_rfl)
 have hg : ∀ k, getG (moveQ S (joinF a) (joinF b)).m k = if bs (joinF a) = k then none else if bs (joinF b) = k then some ⟨n.dir, n.data, S.clock + 1⟩ else getG (Vf.mvL (joinF a) (joinF b) S.m (belowM S.m (joinF a))) k := fun k => by
   unfold moveQ
   dsimp only
   rw [getG_del, getG_put, ha]
   rfl
 have hno : ∀ r r', (∀ s ∈ a ++ r, okN s) → (∀ s ∈ b ++ r', okN s) → bs (joinF (a ++ r)) ≠ bs (joinF (b ++ r')) := by
   intro r r' h1 h2 e
   have e := key_inj h1 h2 e
   rcases List.prefix_or_prefix_of_prefix ⟨r, rfl⟩ (show b <+: a ++ r from ⟨r', e.symm⟩) with h3 | h3
   · exact h.nab h3
   · exact h.nba h3
 refine ⟨RiseG.del (RiseG.put _ (mvL_rise _ _ _ h.wf.rise)) _, fun r hok => ?_, fun n' hn' => ?_, fun r hr hok => ?_, fun l hl hln h1 h2 => ?_, fun k hk => ?_⟩
 · rw [hg]
   by_cases hr : r = []
   · subst hr
     rw [List.append_nil, if_pos rfl]
   · have := hno r [] hok (by simpa using h.gb.ok)
     rw [List.append_nil] at this
     rw [if_neg (fun e => hr (by simpa using key_inj h.ga.ok hok e)), if_neg (fun e => this e.symm), m1 r hr hok]
 · rw [hn] at hn'
   injection hn' with hn'
   subst hn'
   rw [hg, if_neg hne, if_pos rfl]
 · have := hno [] r (by simpa using h.ga.ok) hok
   rw [List.append_nil] at this
   rw [hg, if_neg this, if_neg (fun e => hr (by simpa using key_inj h.gb.ok hok e)), m2 r hr hok]
 · rw [hg, if_neg (fun e => h1 (key_inj h.ga.ok hl e ▸ List.prefix_rfl)), if_neg (fun e => h2 (key_inj h.gb.ok hl e ▸ List.prefix_rfl)), m3 l hl (fun r hr e => h1 ⟨r, e.symm⟩) (fun r hr e => h2 ⟨r, e.symm⟩)]
 · rw [hg, if_neg (fun e => hk a h.ga.ok h.nea e.symm), if_neg (fun e => hk b h.gb.ok h.neb e.symm), m4 k hk]
   exact getG_none_of (fun z hz e => by
     obtain ⟨l, hl, hln, e2⟩ := h.wf.good z hz
     exact hk l hl.ok hln (e.symm.trans e2))
theorem MvS.sum {S : St} {a b : List T} (h : MvS S a b) (f : Nd → Nat) (hf : ∀ d x t t', f ⟨d, x, t⟩ = f ⟨d, x, t'⟩) : sumG f (moveQ S (joinF a) (joinF b)).m + fO f (getG S.m (bs (joinF b))) = sumG f S.m := by
 obtain ⟨m1, m2, m3, m4⟩ := h.mvL
 obtain ⟨n, hn⟩ := h.node
 have ha : getG (Vf.mvL (joinF a) (joinF b) S.m (belowM S.m (joinF a))) (bs (joinF a)) = some n := by
   rw [m3 a h.ga.ok (fun r hr e => hr (by simpa using e)) (fun r hr e => h.nba ⟨r, e.symm⟩)]
   exact hn
 have hb : getG (Vf.mvL (joinF a) (joinF b) S.m (belowM S.m (joinF a))) (bs (joinF b)) = getG S.m (bs (joinF b)) :=
   m3 b h.gb.ok (fun r hr e => h.nab ⟨r, e.symm⟩) (fun r hr e => hr (by simpa using e))
 have hne : bs (joinF b) ≠ bs (joinF a) := fun e => h.nab (key_inj h.gb.ok h.ga.ok e ▸ List.prefix_rfl)
 have hr := mvL_rise (joinF a) (joinF b) (belowM S.m (joinF a)) h.wf.rise
 have s0 := mvL_sum f (belowM S.m (joinF a)) h.wf.rise h.ok (fun q hq => by
   obtain ⟨r, _, rfl, _, hm⟩ := (below_names h.wf h.ga.ok h.nea).1 hq
   exact hm) (fun q hq => by
   obtain ⟨r, hr, rfl, hg, hm⟩ := (below_names h.wf h.ga.ok h.nea).1 hq
   rw [tgt_join h.nea h.neb]
   exact h.empty hr (h.fine r hr hm hg.ok).ok)
 have s1 := sumG_put f (bs (joinF b), (⟨n.dir, n.data, S.clock + 1⟩ : Nd)) hr
 have s2 := sumG_del f (bs (joinF a)) (RiseG.put (bs (joinF b), (⟨n.dir, n.data, S.clock + 1⟩ : Nd)) hr)
 rw [getG_put, if_neg hne, ha] at s2
 rw [hb] at s1
 have hfn : f ⟨n.dir, n.data, S.clock + 1⟩ = f n := hf n.dir n.data _ n.time
 simp only [fO] at s2
 rw [hfn] at s1
 have e0 : (moveQ S (joinF a) (joinF b)).m = delG (bs (joinF a)) (putG (bs (joinF b), (⟨n.dir, n.data, S.clock + 1⟩ : Nd)) (Vf.mvL (joinF a) (joinF b) S.m (belowM S.m (joinF a)))) := by
   unfold moveQ
   dsimp only
   rw [ha]
   rfl
 rw [e0]
 omega
theorem sum_szO (m : Mp) : (m.map fun x => x.2.data.length).sum = sumG (fun n => n.data.length) m := rfl
theorem fO_szO (o : Option Nd) : fO (fun n => n.data.length) o = szO o := by cases o <;> rfl
theorem MvS.moved_wf {S : St} {a b : List T} (h : MvS S a b) : WfS (moveQ S (joinF a) (joinF b)) := by
 have g := h.get
 have s1 := h.sum (fun n => n.data.length) (fun _ _ _ _ => rfl)
 have s2 := h.sum (fun _ => 1) (fun _ _ _ _ => rfl)
 rw [sumG_one, sumG_one] at s2
 rw [fO_szO, ← dataM_sz] at s1
 have hs := h.wf.sum
 rw [sum_szO] at hs
 have hn := h.wf.nodes
 have hb := h.wf.bytes
 refine ⟨g.rise, fun x hx => ?_, ?_, ?_, ?_, h.wf.n10, h.wf.b20⟩
 · have hxg : getG (moveQ S (joinF a) (joinF b)).m x.1 = some x.2 := mem_getG g.rise hx
   by_cases hk : ∀ l, (∀ s ∈ l, okN s) → l ≠ [] → x.1 ≠ bs (joinF l)
   · rw [g.odd _ hk] at hxg; cases hxg
   · have : ∃ l : List T, (∀ s ∈ l, okN s) ∧ l ≠ [] ∧ x.1 = bs (joinF l) := by
       apply Classical.byContradiction
       intro hc
       exact hk (fun l h1 h2 h3 => hc ⟨l, h1, h2, h3⟩)
     obtain ⟨l, hl, hln, e⟩ := this
     refine ⟨l, ?_, hln, e⟩
     rw [e] at hxg
     by_cases h1 : a <+: l
     · obtain ⟨r, rfl⟩ := h1
       rw [g.gone r hl] at hxg; cases hxg
     · by_cases h2 : b <+: l
       · obtain ⟨r, rfl⟩ := h2
         by_cases hr : r = []
         · subst hr
           rw [List.append_nil]; exact h.gb
         · rw [g.deep r hr hl] at hxg
           exact h.fine r hr (by rw [hxg]; simp) (fun s hs => by
             rcases List.mem_append.1 hs with hs | hs
             · exact h.ga.ok s hs
             · exact hl s (by simp [hs]))
       · rw [g.rest l hl hln h1 h2] at hxg
         obtain ⟨l', hl', _, e'⟩ := h.wf.good _ (getG_mem hxg)
         rw [key_inj hl hl'.ok e']
         exact hl'
 · rw [sum_szO]
   show S.used - _ = _
   omega
 · show (moveQ S (joinF a) (joinF b)).m.length ≤ S.nodes
   omega
 · show S.used - _ ≤ S.bytes
   omega
end Go.Proofs.YtmcophlmcloooaaGreatDoor.Vf
namespace Go.Proofs.YtmcophlmcloooaaGreatDoor.Vf
open Ln Pth
theorem ok_left {a b : List T} (h : ∀ s ∈ a ++ b, okN s) : ∀ s ∈ a, okN s := fun s hs => h s (List.mem_append_left _ hs)
theorem ok_right {a b : List T} (h : ∀ s ∈ a ++ b, okN s) : ∀ s ∈ b, okN s := fun s hs => h s (List.mem_append_right _ hs)
theorem ok_app {a b : List T} (ha : ∀ s ∈ a, okN s) (hb : ∀ s ∈ b, okN s) : ∀ s ∈ a ++ b, okN s := fun s hs => (List.mem_append.1 hs).elim (ha s) (hb s)
theorem MvG.back {m m' : Mp} {a b : List T} {clock : Nat} (g : MvG m m' a b clock) (_ : ∀ s ∈ a, okN s) {n0 : Nd} (h0 : getG m (bs (joinF a)) = some n0) {k : ByteArray} {n : Nd} (h : getG m' k = some n) :
   (k = bs (joinF b) ∧ n = ⟨n0.dir, n0.data, clock + 1⟩) ∨ ∃ l, (∀ s ∈ l, okN s) ∧ l ≠ [] ∧ k = bs (joinF l) ∧ ((¬ a <+: l ∧ ¬ b <+: l ∧ getG m k = some n) ∨ ∃ r, r ≠ [] ∧ l = b ++ r ∧ getG m (bs (joinF (a ++ r))) = some n) := by
 by_cases hk : ∀ l, (∀ s ∈ l, okN s) → l ≠ [] → k ≠ bs (joinF l)
 · rw [g.odd _ hk] at h; cases h
 · have : ∃ l : List T, (∀ s ∈ l, okN s) ∧ l ≠ [] ∧ k = bs (joinF l) := by
     apply Classical.byContradiction
     intro hc
     exact hk (fun l h1 h2 h3 => hc ⟨l, h1, h2, h3⟩)
   obtain ⟨l, hl, hln, rfl⟩ := this
   by_cases h1 : a <+: l
   · obtain ⟨r, rfl⟩ := h1
     rw [g.gone r hl] at h; cases h
   · by_cases h2 : b <+: l
     · obtain ⟨r, rfl⟩ := h2
       by_cases hr : r = []
       · subst hr
         rw [List.append_nil, g.node n0 h0] at h
         injection h with h
         exact .inl ⟨by rw [List.append_nil], h.symm⟩
       · exact .inr ⟨_, hl, hln, rfl, .inr ⟨r, hr, rfl, by rw [← g.deep r hr hl]; exact h⟩⟩
     · exact .inr ⟨l, hl, hln, rfl, .inl ⟨h1, h2, by rw [← g.rest l hl hln h1 h2]; exact h⟩⟩
theorem good_key {S : St} (h : WfS S) {l : List T} (hl : ∀ s ∈ l, okN s) (hg : getG S.m (bs (joinF l)) ≠ none) : GoodP l := by
 obtain ⟨n, hn⟩ := Option.ne_none_iff_exists'.1 hg
 obtain ⟨l', hl', _, e⟩ := h.good _ (getG_mem hn)
 rw [key_inj hl hl'.ok e]
 exact hl'
theorem MvS.moved_hang {S : St} {a b : List T} (h : MvS S a b) : HangS (moveQ S (joinF a) (joinF b)) := by
 have g := h.get
 obtain ⟨n0, h0⟩ := h.node
 have nr : ∀ {l : List T}, (∀ s ∈ l, okN s) → l ≠ [] → joinF l ≠ [47] := fun hl hne e => hne ((joinF_root hl).1 e)
 have hrest : ∀ l : List T, (∀ s ∈ l, okN s) → ¬ a <+: l → ¬ b <+: l → kindM (moveQ S (joinF a) (joinF b)).m (joinF l) = kindM S.m (joinF l) := fun l hl h1 h2 => by
   by_cases hn : l = []
   · subst hn; rfl
   · exact kind_congr (g.rest l hl hn h1 h2)
 refine ⟨fun l s hl hne => ?_, fun k n h1 h2 => ?_, fun k n h1 => ?_, fun k k' n n' h1 h2 h3 => ?_⟩
 · obtain ⟨n, hn⟩ := Option.ne_none_iff_exists'.1 hne
   rcases g.back h.ga.ok h0 hn with ⟨e, _⟩ | ⟨l', hl', hln, e, h4⟩
   · have e := key_inj hl.ok h.gb.ok e
     have hd : kindM S.m (joinF l) = 2 := way_dir hl.ok (by rw [e]; exact h.wayb)
     rw [hrest l hl.front.ok (fun hp => h.nab (e ▸ hp.trans (List.prefix_append _ _))) (fun hp => by
       have := hp.length_le
       rw [← e] at this
       simp at this
       omega)]
     exact hd
   · have e := key_inj hl.ok hl' e
     subst e
     rcases h4 with ⟨h5, h6, h7⟩ | ⟨r, hr, e, h7⟩
     · rw [hrest l hl.front.ok (fun hp => h5 (hp.trans (List.prefix_append _ _))) (fun hp => h6 (hp.trans (List.prefix_append _ _)))]
       exact h.hang.hang l s hl (by rw [h7]; simp)
     · obtain ⟨r0, s0, rfl⟩ := snoc_of hr
       rw [← List.append_assoc] at e h7
       obtain ⟨rfl, e2⟩ := List.append_inj' e rfl
       injection e2 with e2
       subst e2
       have hok : ∀ x ∈ a ++ r0 ++ [s], okN x := ok_app (ok_app h.ga.ok (ok_right hl.front.ok)) (ok_right hl.ok)
       have hd := h.hang.hang (a ++ r0) s (good_key h.wf hok (by rw [h7]; simp)) (by rw [h7]; simp)
       by_cases hr0 : r0 = []
       · subst hr0
         rw [List.append_nil] at hd ⊢
         rw [kind_of (nr h.gb.ok h.neb) (g.node n0 h0)]
         rw [kind_of (nr h.ga.ok h.nea) h0] at hd
         exact hd
       · rw [← hd]
         unfold kindM
         rw [if_neg (nr hl.front.ok (by simp [h.neb])), if_neg (nr (ok_left hok) (by simp [h.nea])), g.deep r0 hr0 hl.front.ok]
 · rcases g.back h.ga.ok h0 h1 with ⟨_, e⟩ | ⟨l, hl, hln, e, ⟨_, _, h7⟩ | ⟨r, hr, _, h7⟩⟩
   · rw [e] at h2 ⊢
     exact h.hang.dirs _ n0 h0 h2
   · exact h.hang.dirs _ n h7 h2
   · exact h.hang.dirs _ n h7 h2
 · show 1 ≤ n.time ∧ n.time ≤ S.clock + 1
   rcases g.back h.ga.ok h0 h1 with ⟨_, e⟩ | ⟨l, hl, hln, e, ⟨_, _, h7⟩ | ⟨r, hr, _, h7⟩⟩
   · rw [e]; exact ⟨by simp, by simp⟩
   · have := h.hang.times _ n h7; omega
   · have := h.hang.times _ n h7; omega
 · have hb : ∀ {k n}, (∃ l, (∀ s ∈ l, okN s) ∧ l ≠ [] ∧ k = bs (joinF l) ∧ ((¬ a <+: l ∧ ¬ b <+: l ∧ getG S.m k = some n) ∨ ∃ r, r ≠ [] ∧ l = b ++ r ∧ getG S.m (bs (joinF (a ++ r))) = some n)) → n.time ≤ S.clock := by
     rintro k n ⟨l, hl, hln, e, ⟨_, _, h7⟩ | ⟨r, hr, _, h7⟩⟩
     · exact (h.hang.times _ n h7).2
     · exact (h.hang.times _ n h7).2
   rcases g.back h.ga.ok h0 h1 with ⟨e1, f1⟩ | hc1
   · rcases g.back h.ga.ok h0 h2 with ⟨e2, f2⟩ | hc2
     · rw [e1, e2]
     · have := hb hc2
       rw [f1] at h3
       dsimp only at h3
       omega
   · rcases g.back h.ga.ok h0 h2 with ⟨e2, f2⟩ | hc2
     · have := hb hc1
       rw [f2] at h3
       dsimp only at h3
       omega
     · obtain ⟨l1, hl1, hn1, rfl, c1⟩ := hc1
       obtain ⟨l2, hl2, hn2, rfl, c2⟩ := hc2
       rcases c1 with ⟨p1, p2, p3⟩ | ⟨r, hr, rfl, p3⟩
       · rcases c2 with ⟨q1, q2, q3⟩ | ⟨r', hr', rfl, q3⟩
         · exact h.hang.dist _ _ n n' p3 q3 h3
         · have e := key_inj hl1 (ok_app h.ga.ok (ok_right hl2)) (h.hang.dist _ _ n n' p3 q3 h3)
           exact absurd (⟨r', e.symm⟩ : a <+: l1) p1
       · rcases c2 with ⟨q1, q2, q3⟩ | ⟨r', hr', rfl, q3⟩
         · have e := key_inj (ok_app h.ga.ok (ok_right hl1)) hl2 (h.hang.dist _ _ n n' p3 q3 h3)
           exact absurd (⟨r, e⟩ : a <+: l2) q1
         · have e := key_inj (ok_app h.ga.ok (ok_right hl1)) (ok_app h.ga.ok (ok_right hl2)) (h.hang.dist _ _ n n' p3 q3 h3)
           rw [List.append_cancel_left e]
theorem abs_ok {l : List T} (h : (absF [47] (joinF l)).2 = 0) (hok : ∀ s ∈ l, okN s) : GoodP l := by
 rcases absF_cases [47] (joinF l) with ⟨l', g, e, hp⟩ | ⟨_, e⟩
 · rw [parts_join hok] at hp
   rw [hp]; exact g
 · omega
theorem nothing_below {S : St} (hS : WfS S) (t : HangS S) {b : List T} (gb : GoodP b) (neb : b ≠ []) (hk : kindM S.m (joinF b) ≠ 2) : belowM S.m (joinF b) = [] := by
 refine List.eq_nil_iff_forall_not_mem.2 (fun q hq => ?_)
 obtain ⟨r, hr, rfl, hg, hm⟩ := (below_names hS gb.ok neb).1 hq
 have hk0 : kindM S.m (joinF (b ++ r)) ≠ 0 := by
   obtain ⟨n, hn⟩ := Option.ne_none_iff_exists'.1 hm
   rw [kind_of (fun e => neb (by have := (joinF_root hg.ok).1 e; simp at this; exact this.1)) hn]
   split <;> omega
 have := t.way _ rfl hg (.inl hk0) b.length (by have := List.length_pos_iff.2 hr; simp; omega)
 rw [List.take_left' rfl] at this
 exact hk this
theorem moveS_cases {S : St} (hS : WfS S) (t : HangS S) (p q : T) : (moveS S p q).1 = S ∨
   ∃ a b, MvS S a b ∧ moveS S p q = (moveQ S (joinF a) (joinF b), 0) ∧ absS S p = (joinF a, 0) ∧ absS S q = (joinF b, 0) := by
 unfold moveS
 by_cases c1 : (absF [47] p).2 ≠ 0
 · rw [if_pos c1]; exact .inl rfl
 rw [if_neg c1]
 by_cases c2 : (absF [47] q).2 ≠ 0
 · rw [if_pos c2]; exact .inl rfl
 rw [if_neg c2]
 by_cases c3 : (foundS S p).2 ≠ 0
 · rw [if_pos c3]; exact .inl rfl
 rw [if_neg c3]
 by_cases c4 : (foundS S p).1 = [47]
 · rw [if_pos c4]; exact .inl rfl
 rw [if_neg c4]
 by_cases c5 : (absS S q).2 ≠ 0
 · rw [if_pos c5]; exact .inl rfl
 rw [if_neg c5]
 by_cases c6 : (foundS S p).1 = (absS S q).1
 · rw [if_pos c6]; exact .inl rfl
 rw [if_neg c6]
 by_cases c7 : mayS S.m (foundS S p).1 (absS S q).1 ≠ 0
 · rw [if_pos c7]; exact .inl rfl
 rw [if_neg c7]
 right
 have c3 : (foundS S p).2 = 0 := by simpa using c3
 have c5 : (absS S q).2 = 0 := by simpa using c5
 have c7 : mayS S.m (foundS S p).1 (absS S q).1 = 0 := by simpa using c7
 obtain ⟨d1, d2, d3⟩ := foundS_abs c3
 obtain ⟨a, ga, ea, _, wa⟩ := absS_good d1
 obtain ⟨b, gb, eb, _, wb⟩ := absS_good c5
 rw [d2, ea] at c4 c6 c7
 rw [d2, ea]
 rw [eb] at c6 c7
 rw [eb]
 rw [ea] at d3
 have hna : a ≠ [] := good_ne rfl c4
 unfold mayS at c7
 by_cases e1 : joinF b = [47] ∨ withinF (joinF a) (joinF b) = true
 · rw [if_pos e1] at c7; cases c7
 rw [if_neg e1] at c7
 by_cases e2 : kindM S.m (joinF b) = 2 ∧ kindM S.m (joinF a) ≠ 2
 · rw [if_pos e2] at c7; cases c7
 rw [if_neg e2] at c7
 by_cases e3 : kindM S.m (joinF b) = 1 ∧ kindM S.m (joinF a) = 2
 · rw [if_pos e3] at c7; cases c7
 rw [if_neg e3] at c7
 by_cases e4 : kindM S.m (joinF b) = 2 ∧ belowM S.m (joinF b) ≠ []
 · rw [if_pos e4] at c7; cases c7
 rw [if_neg e4] at c7
 by_cases e5 : ∃ q ∈ belowM S.m (joinF a), (absF [47] (tgt (joinF a) (joinF b) q)).2 ≠ 0
 · rw [if_pos e5] at c7; cases c7
 have hnb : b ≠ [] := good_ne rfl (fun e => e1 (.inl e))
 have hka := kind_le S.m (joinF a)
 have hkb := kind_le S.m (joinF b)
 refine ⟨a, b, ⟨hS, t, ga, gb, hna, hnb, d3, wb, fun h => e1 (.inr ((within_join ga.ok gb.ok).2 h)), ?_, fun h => by omega, fun r hr hm hok => ?_⟩, rfl, Prod.ext ea d1, Prod.ext eb c5⟩
 · by_cases k2 : kindM S.m (joinF b) = 2
   · apply Classical.byContradiction
     intro hb
     exact e4 ⟨k2, hb⟩
   · exact nothing_below hS t gb hnb k2
 · have hq : joinF (a ++ r) ∈ belowM S.m (joinF a) := (below_names hS ga.ok hna).2 ⟨r, hr, rfl, good_key hS hok hm, hm⟩
   have h0 : (absF [47] (tgt (joinF a) (joinF b) (joinF (a ++ r)))).2 = 0 := by
     apply Classical.byContradiction
     intro hne
     exact e5 ⟨_, hq, hne⟩
   rw [tgt_join hna hnb] at h0
   exact abs_ok h0 (ok_app gb.ok (ok_right hok))
theorem moveS_wf {S : St} (hS : WfS S) (t : HangS S) (p q : T) : WfS (moveS S p q).1 := by
 rcases moveS_cases hS t p q with h | ⟨a, b, h, e, _⟩
 · rw [h]; exact hS
 · rw [e]; exact h.moved_wf
theorem moveS_hang {S : St} (hS : WfS S) (t : HangS S) (p q : T) : HangS (moveS S p q).1 := by
 rcases moveS_cases hS t p q with h | ⟨a, b, h, e, _⟩
 · rw [h]; exact t
 · rw [e]; exact h.moved_hang
theorem moveS_consts (S : St) (p q : T) : (moveS S p q).1.nodes = S.nodes ∧ (moveS S p q).1.bytes = S.bytes ∧ S.clock ≤ (moveS S p q).1.clock ∧ (moveS S p q).1.clock ≤ S.clock + 1 := by
 unfold moveS
 by_cases c1 : (absF [47] p).2 ≠ 0
 · rw [if_pos c1]; exact ⟨rfl, rfl, Nat.le_refl _, Nat.le_succ _⟩
 rw [if_neg c1]
 by_cases c2 : (absF [47] q).2 ≠ 0
 · rw [if_pos c2]; exact ⟨rfl, rfl, Nat.le_refl _, Nat.le_succ _⟩
 rw [if_neg c2]
 by_cases c3 : (foundS S p).2 ≠ 0
 · rw [if_pos c3]; exact ⟨rfl, rfl, Nat.le_refl _, Nat.le_succ _⟩
 rw [if_neg c3]
 by_cases c4 : (foundS S p).1 = [47]
 · rw [if_pos c4]; exact ⟨rfl, rfl, Nat.le_refl _, Nat.le_succ _⟩
 rw [if_neg c4]
 by_cases c5 : (absS S q).2 ≠ 0
 · rw [if_pos c5]; exact ⟨rfl, rfl, Nat.le_refl _, Nat.le_succ _⟩
 rw [if_neg c5]
 by_cases c6 : (foundS S p).1 = (absS S q).1
 · rw [if_pos c6]; exact ⟨rfl, rfl, Nat.le_refl _, Nat.le_succ _⟩
 rw [if_neg c6]
 by_cases c7 : mayS S.m (foundS S p).1 (absS S q).1 ≠ 0
 · rw [if_pos c7]; exact ⟨rfl, rfl, Nat.le_refl _, Nat.le_succ _⟩
 rw [if_neg c7]
 exact ⟨rfl, rfl, Nat.le_succ _, Nat.le_refl _⟩
end Go.Proofs.YtmcophlmcloooaaGreatDoor.Vf
namespace Go.Proofs.YtmcophlmcloooaaGreatDoor.Vf
open Ln Pth
theorem getG_filter (p : ByteArray → Bool) (k : ByteArray) : ∀ m : Mp, getG (m.filter fun z => p z.1) k = if p k = true then getG m k else none
 | [] => by simp [getG]
 | y :: m => by
   have ih := getG_filter p k m
   rw [List.filter_cons]
   by_cases e : y.1 = k
   · subst e
     by_cases h : p y.1 = true
     · rw [if_pos h, if_pos h, getG_cons, getG_cons, if_pos rfl, if_pos rfl]
     · rw [if_neg h, ih, if_neg h, if_neg h]
   · split
     · rw [getG_cons, getG_cons, if_neg e, if_neg e, ih]
     · rw [getG_cons, if_neg e, ih]
theorem fold_get (v : ByteArray × Nd → Nd) : ∀ (L : Mp) (m : Mp), L.Pairwise (fun a b => a.1 ≠ b.1) →
   (∀ z ∈ L, getG (L.foldl (fun Q z => putG (z.1, v z) Q) m) z.1 = some (v z)) ∧ ∀ k, (∀ z ∈ L, z.1 ≠ k) → getG (L.foldl (fun Q z => putG (z.1, v z) Q) m) k = getG m k
 | [], m, _ => ⟨fun z hz => (by cases hz), fun k _ => rfl⟩
 | y :: L, m, h => by
   have h1 := List.pairwise_cons.1 h
   obtain ⟨i1, i2⟩ := fold_get v L (putG (y.1, v y) m) h1.2
   refine ⟨fun z hz => ?_, fun k hk => ?_⟩
   · rw [List.foldl_cons]
     rcases List.mem_cons.1 hz with rfl | hz
     · rw [i2 _ (fun x hx e => h1.1 x hx e.symm), getG_put, if_pos rfl]
     · exact i1 z hz
   · rw [List.foldl_cons, i2 k (fun z hz => hk z (by simp [hz])), getG_put, if_neg (hk y (by simp))]
theorem fold_rise (v : ByteArray × Nd → Nd) : ∀ (L : Mp) {m : Mp}, RiseG m → RiseG (L.foldl (fun Q z => putG (z.1, v z) Q) m)
 | [], _, h => h
 | _ :: L, _, h => fold_rise v L (RiseG.put _ h)
def rmvL (m : Mp) (x y : T) : Mp := (m.filter fun z => withinF x z.1.data.toList).map fun z => (bs (tgt x y z.1.data.toList), z.2)
def routM (m : Mp) (x y : T) : Mp := (m.filter fun z => !withinF x z.1.data.toList).filter fun z => !withinF y z.1.data.toList
def rvalM (y : T) (t : Nat) (z : ByteArray × Nd) : Nd := if z.1 = bs y then ⟨z.2.dir, z.2.data, t⟩ else z.2
def rmoveM (m : Mp) (x y : T) (t : Nat) : Mp := (rmvL m x y).foldl (fun Q z => putG (z.1, rvalM y t z) Q) (routM m x y)
theorem within_mem {S : St} (hS : WfS S) {a : List T} (ga : GoodP a) {z : ByteArray × Nd} (hz : z ∈ S.m) : withinF (joinF a) z.1.data.toList = true ↔ ∃ r, z.1 = bs (joinF (a ++ r)) ∧ GoodP (a ++ r) := by
 obtain ⟨l, hl, hln, e⟩ := hS.good z hz
 rw [e, bs_list, within_join ga.ok hl.ok]
 constructor
 · rintro ⟨r, rfl⟩; exact ⟨r, rfl, hl⟩
 · rintro ⟨r, e2, hg⟩
   rw [key_inj hl.ok hg.ok e2]
   exact List.prefix_append _ _
theorem MvS.rget {S : St} {a b : List T} (h : MvS S a b) : MvG S.m (rmoveM S.m (joinF a) (joinF b) (S.clock + 1)) a b S.clock := by
 have hmem : ∀ z ∈ rmvL S.m (joinF a) (joinF b), ∃ r n, z = (bs (joinF (b ++ r)), n) ∧ GoodP (a ++ r) ∧ GoodP (b ++ r) ∧ getG S.m (bs (joinF (a ++ r))) = some n := by
   intro z hz
   unfold rmvL at hz
   obtain ⟨y, hy, rfl⟩ := List.mem_map.1 hz
   obtain ⟨hy, hw⟩ := List.mem_filter.1 hy
   obtain ⟨r, e, hg⟩ := (within_mem h.wf h.ga hy).1 hw
   have hgt : getG S.m (bs (joinF (a ++ r))) = some y.2 := mem_getG h.wf.rise (by rw [← e]; exact hy)
   refine ⟨r, y.2, ?_, hg, ?_, hgt⟩
   · rw [e, bs_list, tgt_join h.nea h.neb]
   · by_cases hr : r = []
     · subst hr; rw [List.append_nil]; exact h.gb
     · exact h.fine r hr (by rw [hgt]; simp) hg.ok
 have hin : ∀ r n, getG S.m (bs (joinF (a ++ r))) = some n → (∀ s ∈ a ++ r, okN s) → (bs (joinF (b ++ r)), n) ∈ rmvL S.m (joinF a) (joinF b) := by
   intro r n hn hok
   unfold rmvL
   refine List.mem_map.2 ⟨(bs (joinF (a ++ r)), n), List.mem_filter.2 ⟨getG_mem hn, ?_⟩, by rw [bs_list, tgt_join h.nea h.neb]⟩
   rw [bs_list]
   exact (within_join h.ga.ok hok).2 (List.prefix_append _ _)
 have hpw : (rmvL S.m (joinF a) (joinF b)).Pairwise (fun a b => a.1 ≠ b.1) := by
   unfold rmvL
   rw [List.pairwise_map]
   refine List.Pairwise.imp_of_mem ?_ (List.Pairwise.filter _ h.wf.rise)
   intro x y hx hy hxy e
   obtain ⟨hx, hxw⟩ := List.mem_filter.1 hx
   obtain ⟨hy, hyw⟩ := List.mem_filter.1 hy
   obtain ⟨r, e1, hg1⟩ := (within_mem h.wf h.ga hx).1 hxw
   obtain ⟨r', e2, hg2⟩ := (within_mem h.wf h.ga hy).1 hyw
   rw [e1, e2, bs_list, bs_list, tgt_join h.nea h.neb, tgt_join h.nea h.neb] at e
   have hok : ∀ r, GoodP (a ++ r) → ∀ s ∈ b ++ r, okN s := fun r hg => ok_app h.gb.ok (ok_right hg.ok)
   have e3 := List.append_cancel_left (key_inj (hok r hg1) (hok r' hg2) e)
   subst e3
   rw [e1, e2, sLt_irr] at hxy
   cases hxy
 obtain ⟨f1, f2⟩ := fold_get (rvalM (joinF b) (S.clock + 1)) (rmvL S.m (joinF a) (joinF b)) (routM S.m (joinF a) (joinF b)) hpw
 have hno : ∀ r r', (∀ s ∈ a ++ r, okN s) → (∀ s ∈ b ++ r', okN s) → bs (joinF (a ++ r)) ≠ bs (joinF (b ++ r')) := by
   intro r r' h1 h2 e
   have e := key_inj h1 h2 e
   rcases List.prefix_or_prefix_of_prefix ⟨r, rfl⟩ (show b <+: a ++ r from ⟨r', e.symm⟩) with h3 | h3
   · exact h.nab h3
   · exact h.nba h3
 have hout : ∀ k, getG (routM S.m (joinF a) (joinF b)) k = if (!withinF (joinF b) k.data.toList) = true then (if (!withinF (joinF a) k.data.toList) = true then getG S.m k else none) else none := by
   intro k
   unfold routM
   rw [getG_filter (fun k => !withinF (joinF b) k.data.toList), getG_filter (fun k => !withinF (joinF a) k.data.toList)]
 have hrise : RiseG (routM S.m (joinF a) (joinF b)) := List.Pairwise.filter _ (List.Pairwise.filter _ h.wf.rise)
 refine ⟨fold_rise _ _ hrise, fun r hok => ?_, fun n hn => ?_, fun r hr hok => ?_, fun l hl hln h1 h2 => ?_, fun k hk => ?_⟩
 · unfold rmoveM
   rw [f2, hout]
   · have : withinF (joinF a) (joinF (a ++ r)) = true := (within_join h.ga.ok hok).2 (List.prefix_append _ _)
     rw [bs_list, this]
     simp
   · intro z hz e
     obtain ⟨r', n, rfl, _, hgb, _⟩ := hmem z hz
     exact hno r r' hok hgb.ok e.symm
 · have := f1 _ (hin [] n (by rw [List.append_nil]; exact hn) (by rw [List.append_nil]; exact h.ga.ok))
   rw [List.append_nil] at this
   unfold rmoveM
   rw [this]
   unfold rvalM
   rw [if_pos rfl]
 · unfold rmoveM
   cases hn : getG S.m (bs (joinF (a ++ r))) with
   | some n =>
     rw [f1 _ (hin r n hn (ok_app h.ga.ok (ok_right hok)))]
     unfold rvalM
     rw [if_neg (fun e => hr (by simpa using key_inj hok h.gb.ok e))]
   | none =>
     rw [f2, hout]
     · have : withinF (joinF b) (joinF (b ++ r)) = true := (within_join h.gb.ok hok).2 (List.prefix_append _ _)
       rw [bs_list, this]
       simp
     · intro z hz e
       obtain ⟨r', n, rfl, _, hgb, hn'⟩ := hmem z hz
       have e2 := List.append_cancel_left (key_inj hgb.ok hok e)
       subst e2
       rw [hn] at hn'
       cases hn'
 · unfold rmoveM
   rw [f2, hout]
   · have w1 : withinF (joinF a) (joinF l) = false := by
       cases hw : withinF (joinF a) (joinF l) with
       | false => rfl
       | true => exact absurd ((within_join h.ga.ok hl).1 hw) h1
     have w2 : withinF (joinF b) (joinF l) = false := by
       cases hw : withinF (joinF b) (joinF l) with
       | false => rfl
       | true => exact absurd ((within_join h.gb.ok hl).1 hw) h2
     rw [bs_list, w1, w2]
     simp
   · intro z hz e
     obtain ⟨r', n, rfl, _, hgb, _⟩ := hmem z hz
     exact h2 ⟨r', key_inj hgb.ok hl e⟩
 · unfold rmoveM
   rw [f2, hout]
   · have : getG S.m k = none := getG_none_of (fun z hz e => by
       obtain ⟨l, hl, hln, e2⟩ := h.wf.good z hz
       exact hk l hl.ok hln (e.symm.trans e2))
     rw [this]
     split
     · split <;> rfl
     · rfl
   · intro z hz e
     obtain ⟨r', n, rfl, _, hgb, _⟩ := hmem z hz
     exact hk _ hgb.ok (by simp [h.neb]) e.symm
theorem MvS.rsame {S : St} {a b : List T} (h : MvS S a b) : (moveQ S (joinF a) (joinF b)).m = rmoveM S.m (joinF a) (joinF b) (S.clock + 1) := by
 obtain ⟨n, hn⟩ := h.node
 exact h.get.same h.rget (by rw [hn]; simp)
def badT (x y q : T) : Prop := 200 < (tgt x y q).length ∨ 20 < (partsF [47] (tgt x y q)).length
theorem bad_iff {S : St} (hS : WfS S) {a b : List T} (ga : GoodP a) (gb : GoodP b) (nea : a ≠ []) (neb : b ≠ []) : (∃ z ∈ S.m, withinF (joinF a) z.1.data.toList = true ∧ badT (joinF a) (joinF b) z.1.data.toList) ↔ ∃ q ∈ belowM S.m (joinF a), (absF [47] (tgt (joinF a) (joinF b) q)).2 ≠ 0 := by
 constructor
 · rintro ⟨z, hz, hw, hb⟩
   obtain ⟨r, e, hg⟩ := (within_mem hS ga hz).1 hw
   rw [e, bs_list] at hb
   unfold badT at hb
   have hok : ∀ s ∈ b ++ r, okN s := ok_app gb.ok (ok_right hg.ok)
   rw [tgt_join nea neb, parts_join hok] at hb
   have hr : r ≠ [] := by
     rintro rfl
     have h1 := gb.len
     have h2 := gb.deep
     rw [List.append_nil] at hb
     omega
   refine ⟨joinF (a ++ r), (below_names hS ga.ok nea).2 ⟨r, hr, rfl, hg, by rw [← e, mem_getG hS.rise hz]; simp⟩, ?_⟩
   rw [tgt_join nea neb]
   intro h0
   have := abs_ok h0 hok
   have h1 := this.len
   have h2 := this.deep
   omega
 · rintro ⟨q, hq, hne⟩
   obtain ⟨r, hr, rfl, hg, hm⟩ := (below_names hS ga.ok nea).1 hq
   obtain ⟨n, hn⟩ := Option.ne_none_iff_exists'.1 hm
   have hok : ∀ s ∈ b ++ r, okN s := ok_app gb.ok (ok_right hg.ok)
   refine ⟨(bs (joinF (a ++ r)), n), getG_mem hn, by rw [bs_list]; exact (within_join ga.ok hg.ok).2 (List.prefix_append _ _), ?_⟩
   rw [bs_list]
   rw [tgt_join nea neb] at hne
   unfold badT
   rw [tgt_join nea neb, parts_join hok]
   apply Classical.byContradiction
   intro hc
   refine hne ?_
   have : GoodP (b ++ r) := ⟨hok, fun s hs => (List.mem_append.1 hs).elim (gb.long s) (fun h => hg.long s (by simp [h])), fun s hs => (List.mem_append.1 hs).elim (gb.zero s) (fun h => hg.zero s (by simp [h])), by omega, by omega⟩
   rw [absF_good this]
theorem names_nil {S : St} (hS : WfS S) (t : HangS S) {b : List T} (gb : GoodP b) (neb : b ≠ []) : namesM S.m (joinF b) = [] ↔ belowM S.m (joinF b) = [] := by
 constructor
 · intro h
   refine List.eq_nil_iff_forall_not_mem.2 (fun q hq => ?_)
   obtain ⟨r, hr, rfl, hg, hm⟩ := (below_names hS gb.ok neb).1 hq
   cases r with
   | nil => exact hr rfl
   | cons s r =>
     have hkey : getG S.m (bs (joinF (b ++ [s]))) ≠ none := by
       cases hr2 : r with
       | nil => rw [hr2] at hm; exact hm
       | cons x r' =>
         have hk0 : kindM S.m (joinF (b ++ s :: r)) ≠ 0 := by
           obtain ⟨n, hn⟩ := Option.ne_none_iff_exists'.1 hm
           rw [kind_of (fun e => neb (by have := (joinF_root hg.ok).1 e; simp at this)) hn]
           split <;> omega
         have := t.way _ rfl hg (.inl hk0) (b.length + 1) (by rw [hr2]; simp)
         rw [show b ++ s :: r = (b ++ [s]) ++ r by simp, List.take_left' (by simp)] at this
         rcases kind_two this with e | ⟨n, hn, _⟩
         · have := (joinF_root (ok_app gb.ok (fun x hx => by rw [List.mem_singleton.1 hx]; exact hg.ok s (by simp)))).1 e
           simp at this
         · rw [hn]; simp
     obtain ⟨n, hn⟩ := Option.ne_none_iff_exists'.1 hkey
     have : s ∈ namesM S.m (joinF b) := mem_names.2 ⟨(hg.ok s (by simp)).2.2.2, n, by rw [joinF_snoc gb.ok]; exact getG_mem hn⟩
     rw [h] at this
     cases this
 · intro h
   unfold namesM
   rw [h]
   rfl
end Go.Proofs.YtmcophlmcloooaaGreatDoor.Vf
namespace Go.Proofs.YtmcophlmcloooaaGreatDoor
section
open Go.RowKit Go.Deep Go.Maps Ln Pth Vf
attribute [local go_sem] bt_eq
theorem vfront_len (q : T) : q.length ≤ (frontF q).length := by
 unfold frontF
 rw [List.length_append]
 split
 · rw [List.length_dropLast]; simp; omega
 · simp
theorem below_mem {S : St} (hS : WfS S) {a x : T} (h : x ∈ belowM S.m a) : a.length ≤ x.length ∧ x.length ≤ 200 := by
 obtain ⟨r, n, rfl, hm⟩ := mem_below.1 h
 refine ⟨by have := vfront_len a; rw [List.length_append]; omega, ?_⟩
 obtain ⟨l, hl, _, e⟩ := hS.good _ hm
 have := hl.len
 rw [← bs_inj e] at this
 exact this
theorem below_count {S : St} (hS : WfS S) (a : T) : (belowM S.m a).length ≤ 10000 := by
 have h1 := hS.nodes
 have h2 := hS.n10
 unfold belowM
 refine Nat.le_trans (List.length_filter_le _ _) ?_
 rw [List.length_map]
 omega
theorem vmay_any (g : Nat) (S : St) (hS : WfS S) (a b : T) (w : World) (h : Hs (VS g S) w) (hm : MX w) (ha : a.length ≤ 200) (hb : b.length ≤ 200) :
   Calls Tryz.prog 118 #[.pointer (some ⟨g, 0, none⟩), .string (bs a), .string (bs b)] w fun e w' => e = .returned (.int .i64 (mayS S.m a b)) ∧ Below w.heap.size w w' := by
 have HKA := hide (kind_any g S a w h (by omega))
 have HKB := hide (fun W (hb' : Below w.heap.size w W) => kind_any g S b W (h.below (VS.fr g S) hb') (by omega))
 have HWI := hide (fun W (hb' : Below w.heap.size w W) => within_any a b W (hm.below hb') (by omega) (by omega))
 have HBB := hide (fun W (hb' : Below w.heap.size w W) => below_any g S hS b W (h.below (VS.fr g S) hb') (by omega))
 have HBA := hide (fun W (hb' : Below w.heap.size w W) => below_any g S hS a W (h.below (VS.fr g S) hb') (by omega))
 have HAB := hide (fun (p : T) (hp : p.length ≤ 100000) W (hb' : Below w.heap.size w W) => abs_any [47] p W (hm.below hb') (by simp) (by omega))
 have HMEM := hide (fun x hx => below_mem hS (a := a) (x := x) hx)
 have hcnt := below_count hS a
 have hR : mayS S.m a b = if b = [47] ∨ withinF a b = true then 1 else if kindM S.m b = 2 ∧ kindM S.m a ≠ 2 then 10 else if kindM S.m b = 1 ∧ kindM S.m a = 2 then 11 else if kindM S.m b = 2 ∧ belowM S.m b ≠ [] then 14 else if ∃ q ∈ belowM S.m a, (absF [47] (tgt a b q)).2 ≠ 0 then 3 else 0 := rfl
 have hka := kind_le S.m a
 have hkb := kind_le S.m b
 obtain ⟨ka, hkae⟩ : ∃ k, kindM S.m a = k := ⟨_, rfl⟩
 obtain ⟨kb, hkbe⟩ : ∃ k, kindM S.m b = k := ⟨_, rfl⟩
 rw [hkae] at HKA hR hka
 rw [hkbe] at HKB hR hkb
 obtain ⟨R, hRe⟩ : ∃ R, mayS S.m a b = R := ⟨_, rfl⟩
 rw [hRe] at hR ⊢
 obtain ⟨wi, hwi⟩ : ∃ x, withinF a b = x := ⟨_, rfl⟩
 rw [hwi] at HWI hR
 obtain ⟨LB, hLB⟩ : ∃ x, belowM S.m b = x := ⟨_, rfl⟩
 rw [hLB] at HBB hR
 obtain ⟨LA, hLA⟩ : ∃ x, belowM S.m a = x := ⟨_, rfl⟩
 rw [hLA] at HBA hR HMEM hcnt
 have HR := hide hR
 have HL := hide (And.intro ha hb)
 clear hkae hkbe hRe hwi hLB hLA hR h hS hm ha hb
 go_enter Tryz.func118, Tryz.ntmps118
 go_wp2_with fail
 refine HKA.out.mono ?_
 rintro e w1 ⟨rfl, hb1⟩
 have HB1 := hide hb1
 clear hb1 HKA
 by_cases c1 : b = [47]
 · have ht : ((bs b).toList == [47]) = true := by rw [bs_toList, c1]; rfl
   have HE := hide (HR.out.trans (if_pos (.inl c1)))
   clear c1
   by_cases ka2 : ka = 2
   · subst ka2
     go_wp2
     go_ret
     rw [HE.out]
     exact ⟨rfl, HB1.out⟩
   · have hk : ((ka : Int) == 2) = false := by simp; omega
     go_wp2
     go_ret
     rw [HE.out]
     exact ⟨rfl, HB1.out⟩
 have ht : ((bs b).toList == [47]) = false := by rw [bs_toList]; simpa using c1
 obtain ⟨dk, hdk⟩ : ∃ x, ((ka : Int) == 2) = x := ⟨_, rfl⟩
 have hdk' : dk = true ↔ ka = 2 := by rw [← hdk]; simp; omega
 cases wi with
 | true =>
   have HE := hide (HR.out.trans (if_pos (.inr rfl)))
   clear c1 hdk'
   go_wp2_with fail
   refine (HWI.out w1 HB1.out).mono ?_
   rintro e w2 ⟨rfl, hb2⟩
   have HB2 := hide (below_up HB1.out hb2 HB1.out.size)
   clear hb2
   go_wp2
   go_ret
   rw [HE.out]
   exact ⟨rfl, HB2.out⟩
 | false =>
   have HR1 := hide (HR.out.trans (if_neg (by simpa using c1)))
   clear c1 HR
   go_wp2_with fail
   refine (HWI.out w1 HB1.out).mono ?_
   rintro e w2 ⟨rfl, hb2⟩
   have HB2 := hide (below_up HB1.out hb2 HB1.out.size)
   clear hb2 HWI
   go_wp2_with fail
   refine (HKB.out w2 HB2.out).mono ?_
   rintro e w3 ⟨rfl, hb3⟩
   have HB3 := hide (below_up HB2.out hb3 HB2.out.size)
   clear hb3
   by_cases c2 : kb = 2 ∧ ka ≠ 2
   · have HE := hide (HR1.out.trans (if_pos c2))
     obtain ⟨rfl, hk⟩ := c2
     obtain rfl : dk = false := by
       cases dk with
       | false => rfl
       | true => exact absurd (hdk'.1 rfl) hk
     clear hdk' hk
     go_wp2
     go_ret
     rw [HE.out]
     exact ⟨rfl, HB3.out⟩
   have HR2 := hide (HR1.out.trans (if_neg c2))
   by_cases c3 : kb = 1 ∧ ka = 2
   · have HE := hide (HR2.out.trans (if_pos c3))
     obtain ⟨rfl, hk⟩ := c3
     obtain rfl : dk = true := hdk'.2 hk
     clear hdk' c2 hk
     go_wp2_with fail
     refine (HKB.out w3 HB3.out).mono ?_
     rintro e w4 ⟨rfl, hb4⟩
     have HB4 := hide (below_up HB3.out hb4 HB3.out.size)
     clear hb4
     go_wp2
     go_ret
     rw [HE.out]
     exact ⟨rfl, HB4.out⟩
   have HR3 := hide (HR2.out.trans (if_neg c3))
   have hcs : (kb = 0) ∨ (kb = 1 ∧ dk = false) ∨ (kb = 2 ∧ dk = true) := by
     have h3 : kb = 0 ∨ kb = 1 ∨ kb = 2 := by omega
     rcases h3 with h | h | h
     · exact .inl h
     · refine .inr (.inl ⟨h, ?_⟩)
       cases hd : dk with
       | false => rfl
       | true => exact absurd ⟨h, hdk'.1 hd⟩ c3
     · refine .inr (.inr ⟨h, ?_⟩)
       cases hd : dk with
       | true => rfl
       | false => exact absurd ⟨h, fun e => by have := hdk'.2 e; rw [hd] at this; cases this⟩ c2
   clear hdk'
   rcases hcs with rfl | ⟨rfl, rfl⟩ | ⟨rfl, rfl⟩
   ·
     have HR4 := hide (HR3.out.trans (if_neg (by omega)))
     clear HR1 HR2 HR3 c2 c3
     go_wp2_with fail
     refine (HKB.out w3 HB3.out).mono ?_
     rintro e w4 ⟨rfl, hb4⟩
     have HB4 := hide (below_up HB3.out hb4 HB3.out.size)
     clear hb4
     go_wp2_with fail
     refine (HKB.out w4 HB4.out).mono ?_
     rintro e w5 ⟨rfl, hb4⟩
     have HB5 := hide (below_up HB4.out hb4 HB4.out.size)
     clear hb4
     go_wp2_with fail
     refine (HBA.out w5 HB5.out).mono ?_
     rintro e w6 ⟨⟨v, rfl, ho⟩, hb6⟩
     obtain ⟨A, c, rfl, hc, hsr, _⟩ := ho.slice
     rw [List.length_map] at hc ⊢
     have HSR := hide hsr
     have HB6 := hide (below_up HB5.out hb6 HB5.out.size)
     clear ho hb6 hsr HB5 HBA
     obtain ⟨n, hn⟩ : ∃ n, LA.length = n := ⟨_, rfl⟩
     have HN := hide hn
     rw [hn] at hc hcnt ⊢
     clear hn
     have hn1 : (n : Int) ≤ 10000 := by omega
     go_wp2
     go_loopw [9, 10, 11, 57] (fun _ _ _ v57 wr => ∃ k : Nat, v57 = .int .i64 k ∧ k ≤ n ∧ Hid (∀ x ∈ LA.take k, (absF [47] (tgt a b x)).2 = 0) ∧ Hid (Below w.heap.size w wr) ∧ Hid (Below w6.heap.size w6 wr)) (fun _ _ _ v57 _ => n - (intOf v57).toNat)
     case atStart => exact ⟨0, rfl, by omega, (fun x hx => by simp at hx), HB6.out, Below.refl _ _⟩
     case round =>
       obtain ⟨k, rfl, hk, HOK, HB, HBW⟩ := hrel
       by_cases hlt : k < n
       · obtain ⟨x, hx⟩ : ∃ x, LA[k]? = some x := ⟨LA[k]'(by have := HN.out; omega), gE _⟩
         obtain ⟨gs, o, rfl, hg, hcx⟩ := (HSR.out.below HBW.out) k (bs x) (by rw [List.getElem?_map, hx]; rfl)
         obtain ⟨hx1, hx2⟩ := HMEM.out x (List.mem_of_getElem? hx)
         have hab := HL.out
         have zx : (bs x).size = x.length := bs_size x
         have za : (bs a).size = a.length := bs_size a
         have HEX := hide (show (bs x).extract a.length (bs x).size = bs (x.drop a.length) by rw [ext_bs, bs_size, List.take_of_length_le (by rw [List.length_drop]; omega)])
         have HAP := hide (bs_app b (x.drop a.length))
         have htl : (tgt a b x).length ≤ 400 := by unfold tgt; rw [List.length_append, List.length_drop]; omega
         have HABX := hide (HAB.out (tgt a b x) (by omega) wr HB.out)
         have zd : (bs (x.drop a.length)).size = x.length - a.length := by rw [bs_size, List.length_drop]
         have zb : (bs b).size = b.length := bs_size b
         have htk : LA.take (k + 1) = LA.take k ++ [x] := by rw [List.take_add_one, hx]; rfl
         have HTK := hide htk
         have HX := hide (List.mem_of_getElem? hx)
         have b1 : (k : Int) < (n : Int) := by omega
         unfold AbsPost at HABX
         obtain ⟨r, hr⟩ : ∃ r, absF [47] (tgt a b x) = r := ⟨_, rfl⟩
         obtain ⟨q0, e⟩ := r
         have HRR := hide hr
         rw [hr] at HABX
         rw [show bs (tgt a b x) = bs b ++ bs (x.drop a.length) from HAP.out.symm, show bs [47] = (⟨#[47]⟩ : ByteArray) from rfl] at HABX
         obtain ⟨al, hal⟩ : ∃ n, a.length = n := ⟨_, rfl⟩
         obtain ⟨xl, hxl⟩ : ∃ n, x.length = n := ⟨_, rfl⟩
         obtain ⟨bl, hbl⟩ : ∃ n, b.length = n := ⟨_, rfl⟩
         rw [hal] at zd hx1 za HEX hab
         rw [hxl] at zd hx1 hx2 zx
         rw [hbl] at zb hab
         rw [hal] at HABX
         rw [zx] at HEX
         rw [← HEX.out] at HABX zd
         obtain ⟨h200a, h200b⟩ := hab
         clear hx htk hr hal hxl hbl htl
         by_cases e0 : e = 0
         · subst e0
           have HN2 := hide (show ∀ y ∈ LA.take (k + 1), (absF [47] (tgt a b y)).2 = 0 from fun y hy => by
             rw [HTK.out] at hy
             rcases List.mem_append.1 hy with hy | hy
             · exact HOK.out y hy
             · rw [List.mem_singleton.1 hy, HRR.out])
           go_wp2_with fail
           refine HABX.out.mono ?_
           rintro e w7 ⟨rfl, hb7⟩
           have HB7 := hide (below_up HB.out hb7 HB.out.size)
           have HBW7 := hide (below_up HBW.out hb7 HBW.out.size)
           clear hb7
           go_wp2
           go_roundw
           case rel => exact ⟨k + 1, by go_num, by omega, HN2.out, HB7.out, HBW7.out⟩
           case measure => simp [intOf]; omega
         · obtain ⟨t1, t2⟩ := ne0 e0
           have HE := hide (HR4.out.trans (if_pos ⟨x, HX.out, by rw [HRR.out]; exact e0⟩))
           go_wp2_with fail
           refine HABX.out.mono ?_
           rintro e w7 ⟨rfl, hb7⟩
           have HB7 := hide (below_up HB.out hb7 HB.out.size)
           clear hb7
           go_wp2
           go_ret
           rw [HE.out]
           exact ⟨rfl, HB7.out⟩
       · obtain rfl : k = n := by omega
         have HE := hide (HR4.out.trans (if_neg (by
           rintro ⟨x, hx, hne⟩
           rw [← List.take_of_length_le (i := k) (l := LA) (by have := HN.out; omega)] at hx
           exact hne (HOK.out x hx))))
         go_wp2
         go_ret
         rw [HE.out]
         exact ⟨rfl, HB.out⟩
   ·
     have HR4 := hide (HR3.out.trans (if_neg (by omega)))
     clear HR1 HR2 HR3 c2 c3
     go_wp2_with fail
     refine (HKB.out w3 HB3.out).mono ?_
     rintro e w4 ⟨rfl, hb4⟩
     have HB4 := hide (below_up HB3.out hb4 HB3.out.size)
     clear hb4
     go_wp2_with fail
     refine (HKB.out w4 HB4.out).mono ?_
     rintro e w5 ⟨rfl, hb4⟩
     have HB5 := hide (below_up HB4.out hb4 HB4.out.size)
     clear hb4
     go_wp2_with fail
     refine (HBA.out w5 HB5.out).mono ?_
     rintro e w6 ⟨⟨v, rfl, ho⟩, hb6⟩
     obtain ⟨A, c, rfl, hc, hsr, _⟩ := ho.slice
     rw [List.length_map] at hc ⊢
     have HSR := hide hsr
     have HB6 := hide (below_up HB5.out hb6 HB5.out.size)
     clear ho hb6 hsr HB5 HBA
     obtain ⟨n, hn⟩ : ∃ n, LA.length = n := ⟨_, rfl⟩
     have HN := hide hn
     rw [hn] at hc hcnt ⊢
     clear hn
     have hn1 : (n : Int) ≤ 10000 := by omega
     go_wp2
     go_loopw [9, 10, 11, 57] (fun _ _ _ v57 wr => ∃ k : Nat, v57 = .int .i64 k ∧ k ≤ n ∧ Hid (∀ x ∈ LA.take k, (absF [47] (tgt a b x)).2 = 0) ∧ Hid (Below w.heap.size w wr) ∧ Hid (Below w6.heap.size w6 wr)) (fun _ _ _ v57 _ => n - (intOf v57).toNat)
     case atStart => exact ⟨0, rfl, by omega, (fun x hx => by simp at hx), HB6.out, Below.refl _ _⟩
     case round =>
       obtain ⟨k, rfl, hk, HOK, HB, HBW⟩ := hrel
       by_cases hlt : k < n
       · obtain ⟨x, hx⟩ : ∃ x, LA[k]? = some x := ⟨LA[k]'(by have := HN.out; omega), gE _⟩
         obtain ⟨gs, o, rfl, hg, hcx⟩ := (HSR.out.below HBW.out) k (bs x) (by rw [List.getElem?_map, hx]; rfl)
         obtain ⟨hx1, hx2⟩ := HMEM.out x (List.mem_of_getElem? hx)
         have hab := HL.out
         have zx : (bs x).size = x.length := bs_size x
         have za : (bs a).size = a.length := bs_size a
         have HEX := hide (show (bs x).extract a.length (bs x).size = bs (x.drop a.length) by rw [ext_bs, bs_size, List.take_of_length_le (by rw [List.length_drop]; omega)])
         have HAP := hide (bs_app b (x.drop a.length))
         have htl : (tgt a b x).length ≤ 400 := by unfold tgt; rw [List.length_append, List.length_drop]; omega
         have HABX := hide (HAB.out (tgt a b x) (by omega) wr HB.out)
         have zd : (bs (x.drop a.length)).size = x.length - a.length := by rw [bs_size, List.length_drop]
         have zb : (bs b).size = b.length := bs_size b
         have htk : LA.take (k + 1) = LA.take k ++ [x] := by rw [List.take_add_one, hx]; rfl
         have HTK := hide htk
         have HX := hide (List.mem_of_getElem? hx)
         have b1 : (k : Int) < (n : Int) := by omega
         unfold AbsPost at HABX
         obtain ⟨r, hr⟩ : ∃ r, absF [47] (tgt a b x) = r := ⟨_, rfl⟩
         obtain ⟨q0, e⟩ := r
         have HRR := hide hr
         rw [hr] at HABX
         rw [show bs (tgt a b x) = bs b ++ bs (x.drop a.length) from HAP.out.symm, show bs [47] = (⟨#[47]⟩ : ByteArray) from rfl] at HABX
         obtain ⟨al, hal⟩ : ∃ n, a.length = n := ⟨_, rfl⟩
         obtain ⟨xl, hxl⟩ : ∃ n, x.length = n := ⟨_, rfl⟩
         obtain ⟨bl, hbl⟩ : ∃ n, b.length = n := ⟨_, rfl⟩
         rw [hal] at zd hx1 za HEX hab
         rw [hxl] at zd hx1 hx2 zx
         rw [hbl] at zb hab
         rw [hal] at HABX
         rw [zx] at HEX
         rw [← HEX.out] at HABX zd
         obtain ⟨h200a, h200b⟩ := hab
         clear hx htk hr hal hxl hbl htl
         by_cases e0 : e = 0
         · subst e0
           have HN2 := hide (show ∀ y ∈ LA.take (k + 1), (absF [47] (tgt a b y)).2 = 0 from fun y hy => by
             rw [HTK.out] at hy
             rcases List.mem_append.1 hy with hy | hy
             · exact HOK.out y hy
             · rw [List.mem_singleton.1 hy, HRR.out])
           go_wp2_with fail
           refine HABX.out.mono ?_
           rintro e w7 ⟨rfl, hb7⟩
           have HB7 := hide (below_up HB.out hb7 HB.out.size)
           have HBW7 := hide (below_up HBW.out hb7 HBW.out.size)
           clear hb7
           go_wp2
           go_roundw
           case rel => exact ⟨k + 1, by go_num, by omega, HN2.out, HB7.out, HBW7.out⟩
           case measure => simp [intOf]; omega
         · obtain ⟨t1, t2⟩ := ne0 e0
           have HE := hide (HR4.out.trans (if_pos ⟨x, HX.out, by rw [HRR.out]; exact e0⟩))
           go_wp2_with fail
           refine HABX.out.mono ?_
           rintro e w7 ⟨rfl, hb7⟩
           have HB7 := hide (below_up HB.out hb7 HB.out.size)
           clear hb7
           go_wp2
           go_ret
           rw [HE.out]
           exact ⟨rfl, HB7.out⟩
       · obtain rfl : k = n := by omega
         have HE := hide (HR4.out.trans (if_neg (by
           rintro ⟨x, hx, hne⟩
           rw [← List.take_of_length_le (i := k) (l := LA) (by have := HN.out; omega)] at hx
           exact hne (HOK.out x hx))))
         go_wp2
         go_ret
         rw [HE.out]
         exact ⟨rfl, HB.out⟩
   ·
     clear HR1 HR2 c2 c3
     go_wp2_with fail
     refine (HKB.out w3 HB3.out).mono ?_
     rintro e w4 ⟨rfl, hb4⟩
     have HB4 := hide (below_up HB3.out hb4 HB3.out.size)
     clear hb4
     go_wp2_with fail
     refine (HKB.out w4 HB4.out).mono ?_
     rintro e w4b ⟨rfl, hb4⟩
     have HB4b := hide (below_up HB4.out hb4 HB4.out.size)
     clear hb4
     go_wp2_with fail
     refine (HBB.out w4b HB4b.out).mono ?_
     rintro e w5 ⟨⟨v, rfl, ho⟩, hb5⟩
     obtain ⟨A5, c5, rfl, _, _, _⟩ := ho.slice
     rw [List.length_map]
     have HB5 := hide (below_up HB4b.out hb5 HB4b.out.size)
     clear ho hb5
     obtain ⟨m, hm⟩ : ∃ m, LB.length = m := ⟨_, rfl⟩
     have hm0 : LB ≠ [] ↔ m ≠ 0 := by rw [← hm, Ne, Ne, List.length_eq_zero_iff]
     rw [hm]
     by_cases m0 : m = 0
     case neg =>
       have HE := hide (HR3.out.trans (if_pos ⟨trivial, hm0.2 m0⟩))
       have hmi : (0 : Int) < (m : Int) := by omega
       clear hm hm0 m0
       go_wp2
       go_ret
       rw [HE.out]
       exact ⟨rfl, HB5.out⟩
     have HR4 := hide (HR3.out.trans (if_neg (fun h => hm0.1 h.2 m0)))
     subst m0
     clear hm hm0 HR3
     go_wp2_with fail
     refine (HBA.out w5 HB5.out).mono ?_
     rintro e w6 ⟨⟨v, rfl, ho⟩, hb6⟩
     obtain ⟨A, c, rfl, hc, hsr, _⟩ := ho.slice
     rw [List.length_map] at hc ⊢
     have HSR := hide hsr
     have HB6 := hide (below_up HB5.out hb6 HB5.out.size)
     clear ho hb6 hsr HB5 HBA
     obtain ⟨n, hn⟩ : ∃ n, LA.length = n := ⟨_, rfl⟩
     have HN := hide hn
     rw [hn] at hc hcnt ⊢
     clear hn
     have hn1 : (n : Int) ≤ 10000 := by omega
     go_wp2
     go_loopw [9, 10, 11, 57] (fun _ _ _ v57 wr => ∃ k : Nat, v57 = .int .i64 k ∧ k ≤ n ∧ Hid (∀ x ∈ LA.take k, (absF [47] (tgt a b x)).2 = 0) ∧ Hid (Below w.heap.size w wr) ∧ Hid (Below w6.heap.size w6 wr)) (fun _ _ _ v57 _ => n - (intOf v57).toNat)
     case atStart => exact ⟨0, rfl, by omega, (fun x hx => by simp at hx), HB6.out, Below.refl _ _⟩
     case round =>
       obtain ⟨k, rfl, hk, HOK, HB, HBW⟩ := hrel
       by_cases hlt : k < n
       · obtain ⟨x, hx⟩ : ∃ x, LA[k]? = some x := ⟨LA[k]'(by have := HN.out; omega), gE _⟩
         obtain ⟨gs, o, rfl, hg, hcx⟩ := (HSR.out.below HBW.out) k (bs x) (by rw [List.getElem?_map, hx]; rfl)
         obtain ⟨hx1, hx2⟩ := HMEM.out x (List.mem_of_getElem? hx)
         have hab := HL.out
         have zx : (bs x).size = x.length := bs_size x
         have za : (bs a).size = a.length := bs_size a
         have HEX := hide (show (bs x).extract a.length (bs x).size = bs (x.drop a.length) by rw [ext_bs, bs_size, List.take_of_length_le (by rw [List.length_drop]; omega)])
         have HAP := hide (bs_app b (x.drop a.length))
         have htl : (tgt a b x).length ≤ 400 := by unfold tgt; rw [List.length_append, List.length_drop]; omega
         have HABX := hide (HAB.out (tgt a b x) (by omega) wr HB.out)
         have zd : (bs (x.drop a.length)).size = x.length - a.length := by rw [bs_size, List.length_drop]
         have zb : (bs b).size = b.length := bs_size b
         have htk : LA.take (k + 1) = LA.take k ++ [x] := by rw [List.take_add_one, hx]; rfl
         have HTK := hide htk
         have HX := hide (List.mem_of_getElem? hx)
         have b1 : (k : Int) < (n : Int) := by omega
         unfold AbsPost at HABX
         obtain ⟨r, hr⟩ : ∃ r, absF [47] (tgt a b x) = r := ⟨_, rfl⟩
         obtain ⟨q0, e⟩ := r
         have HRR := hide hr
         rw [hr] at HABX
         rw [show bs (tgt a b x) = bs b ++ bs (x.drop a.length) from HAP.out.symm, show bs [47] = (⟨#[47]⟩ : ByteArray) from rfl] at HABX
         obtain ⟨al, hal⟩ : ∃ n, a.length = n := ⟨_, rfl⟩
         obtain ⟨xl, hxl⟩ : ∃ n, x.length = n := ⟨_, rfl⟩
         obtain ⟨bl, hbl⟩ : ∃ n, b.length = n := ⟨_, rfl⟩
         rw [hal] at zd hx1 za HEX hab
         rw [hxl] at zd hx1 hx2 zx
         rw [hbl] at zb hab
         rw [hal] at HABX
         rw [zx] at HEX
         rw [← HEX.out] at HABX zd
         obtain ⟨h200a, h200b⟩ := hab
         clear hx htk hr hal hxl hbl htl
         by_cases e0 : e = 0
         · subst e0
           have HN2 := hide (show ∀ y ∈ LA.take (k + 1), (absF [47] (tgt a b y)).2 = 0 from fun y hy => by
             rw [HTK.out] at hy
             rcases List.mem_append.1 hy with hy | hy
             · exact HOK.out y hy
             · rw [List.mem_singleton.1 hy, HRR.out])
           go_wp2_with fail
           refine HABX.out.mono ?_
           rintro e w7 ⟨rfl, hb7⟩
           have HB7 := hide (below_up HB.out hb7 HB.out.size)
           have HBW7 := hide (below_up HBW.out hb7 HBW.out.size)
           clear hb7
           go_wp2
           go_roundw
           case rel => exact ⟨k + 1, by go_num, by omega, HN2.out, HB7.out, HBW7.out⟩
           case measure => simp [intOf]; omega
         · obtain ⟨t1, t2⟩ := ne0 e0
           have HE := hide (HR4.out.trans (if_pos ⟨x, HX.out, by rw [HRR.out]; exact e0⟩))
           go_wp2_with fail
           refine HABX.out.mono ?_
           rintro e w7 ⟨rfl, hb7⟩
           have HB7 := hide (below_up HB.out hb7 HB.out.size)
           clear hb7
           go_wp2
           go_ret
           rw [HE.out]
           exact ⟨rfl, HB7.out⟩
       · obtain rfl : k = n := by omega
         have HE := hide (HR4.out.trans (if_neg (by
           rintro ⟨x, hx, hne⟩
           rw [← List.take_of_length_le (i := k) (l := LA) (by have := HN.out; omega)] at hx
           exact hne (HOK.out x hx))))
         go_wp2
         go_ret
         rw [HE.out]
         exact ⟨rfl, HB.out⟩
end
section
open Go.RowKit Go.Deep Go.Maps Ln Pth Vf Qm.Glob Qm.Base
theorem slashed_last {l : List T} (h : ∀ s ∈ l, okN s) (hne : l ≠ []) : (slashed l).getLast? ≠ some 47 := by
 obtain ⟨l', s, rfl⟩ : ∃ l' s, l = l' ++ [s] := ⟨l.dropLast, l.getLast hne, (List.dropLast_concat_getLast hne).symm⟩
 have hs := h s (by simp)
 intro e
 rw [slashed_app, show slashed [s] = 47 :: s from by simp [slashed], List.getLast?_append] at e
 cases s with
 | nil => exact hs.1 rfl
 | cons c s =>
   rw [List.getLast?_cons_cons] at e
   have hl : ((c :: s).getLast?).isSome := by simp
   obtain ⟨z, hz⟩ := Option.isSome_iff_exists.1 hl
   rw [hz] at e
   simp at e
   subst e
   exact hs.2.2.2 (List.mem_of_getLast? hz)
theorem names_ne {S : St} (hS : WfS S) {q x : T} (h : x ∈ namesM S.m q) : x ≠ [] := by
 rintro rfl
 obtain ⟨_, n, hn⟩ := mem_names.1 h
 obtain ⟨l, hl, hne, e⟩ := hS.good _ hn
 have e2 : frontF q ++ [] = joinF l := by
   have := congrArg (fun b : ByteArray => b.data.toList) e
   simpa [bs_list] using this
 unfold joinF at e2
 rw [if_neg hne, List.append_nil] at e2
 have h1 := slashed_last hl.ok hne
 rw [← e2] at h1
 apply h1
 unfold frontF
 simp
theorem names_sz {S : St} (hS : WfS S) {q x : T} (h : x ∈ namesM S.m q) : x.length ≤ 200 := by
 unfold namesM at h
 obtain ⟨h1, _⟩ := List.mem_filter.1 h
 obtain ⟨y, hy, rfl⟩ := List.mem_map.1 h1
 have := (below_mem hS hy).2
 rw [List.length_drop]
 omega
theorem names_cnt (m : Mp) (q : T) : (namesM m q).length ≤ m.length := by
 unfold namesM belowM
 refine Nat.le_trans (List.length_filter_le _ _) ?_
 rw [List.length_map]
 refine Nat.le_trans (List.length_filter_le _ _) ?_
 rw [List.length_map]
 exact Nat.le_refl _
theorem listS_mem {S : St} {p x : T} (h : x ∈ (listS S p).1) : ∃ q, x ∈ namesM S.m q := by
 unfold listS at h
 split at h
 · cases h
 · split at h
   · cases h
   · exact ⟨_, h⟩
theorem fsOk_of {fs : St} (h : WfS fs) (hn : fs.nodes ≤ 200) : FsOk fs := by
 refine ⟨h, fun p => ?_, fun p n hm => ?_⟩
 · have h1 := h.nodes
   unfold listS
   split
   · exact Nat.zero_le _
   · split
     · exact Nat.zero_le _
     · have := names_cnt fs.m (foundS fs p).1
       dsimp only
       omega
 · obtain ⟨q, hq⟩ := listS_mem hm
   exact names_sz h hq
def NameOk (n : ByteArray) : Prop := n.data.toList ≠ [] ∧ 47 ∉ n.data.toList
theorem namesOf_nodup (p : ByteArray) (L : List ByteArray) : (namesOf p L).Nodup := by
 have key : ∀ (M acc : List ByteArray), Ris (acc.map tl) → Ris ((M.foldl (fun acc s => putS s acc) acc).map tl) := by
   intro M
   induction M with
   | nil => intro acc h; exact h
   | cons m M ih => intro acc h; exact ih _ (by rw [putS_tl]; exact putT_ris h)
 have h := key (L.filter (keepN p)) [] List.Pairwise.nil
 have h2 : ((namesOf p L).map tl).Nodup := List.Pairwise.imp (fun {a b} (hab : a < b) (e : a = b) => tx_irrefl b (e ▸ hab)) h
 exact (List.pairwise_map.1 h2).imp fun hab e => hab (congrArg tl e)
theorem fnames_good {fs : St} (h : FsOk fs) (a p : ByteArray) : (fnamesB fs a p).Nodup ∧ ∀ n ∈ fnamesB fs a p, NameOk n := by
 unfold fnamesB
 by_cases hd : dotsB p = true
 · rw [if_pos hd]
   obtain ⟨q, hq, hq2⟩ := dots_some hd
   rw [hq]
   refine ⟨by simp, fun n hn => ?_⟩
   have : n = q := by simpa using hn
   rw [this]
   rcases hq2 with rfl | rfl <;> exact ⟨by simp, by decide⟩
 · rw [if_neg hd]
   refine ⟨namesOf_nodup _ _, fun n hn => ?_⟩
   obtain ⟨m, hm, rfl⟩ := List.mem_map.1 ((namesOf_le p _).2 n hn)
   obtain ⟨q, hq⟩ := listS_mem hm
   unfold NameOk
   rw [bs_list]
   exact ⟨names_ne h.wf hq, (mem_names.1 hq).1⟩
def TxEnd (t : ByteArray) : Prop := t.data.toList ≠ [] ∧ t.data.toList.getLast? ≠ some 47
def Dist (L : List Spt) : Prop := L.Pairwise fun a b => a.1 ≠ b.1
def OkNow (L : List Spt) : Prop := (∃ s, L = [s]) ∨ (Dist L ∧ ∀ s ∈ L, TxEnd s.1)
theorem Dist.nodup {L : List Spt} (h : Dist L) : (L.map (·.1)).Nodup := by
 unfold List.Nodup
 rw [List.pairwise_map]
 exact h
theorem OkNow.nodup {L : List Spt} (h : OkNow L) : (L.map (·.1)).Nodup := by
 rcases h with ⟨s, rfl⟩ | ⟨h, _⟩
 · simp
 · exact Dist.nodup h
theorem OkNow.first {L : List Spt} (h : OkNow L) : OkNow (firstB L) := by
 obtain ⟨h1, h2⟩ := sortSp_perm h.nodup
 rcases h with ⟨s, rfl⟩ | ⟨h, h3⟩
 · left
   exact ⟨s, rfl⟩
 · right
   have hn : ((sortSp L).map (·.1)).Nodup := (h1.map (·.1)).nodup_iff.1 (Dist.nodup h)
   unfold List.Nodup at hn
   rw [List.pairwise_map] at hn
   refine ⟨hn.sublist (List.take_sublist _ _), fun s hs => h3 s (h1.mem_iff.2 (List.mem_of_mem_take hs))⟩
theorem firstB_mem {L : List Spt} (h : OkNow L) {s : Spt} (hs : s ∈ firstB L) : s ∈ L := (sortSp_perm h.nodup).1.mem_iff.2 (List.mem_of_mem_take hs)
theorem firstB_le (L : List Spt) : (firstB L).length ≤ 500 := by unfold firstB; rw [List.length_take]; omega
def headT (t : ByteArray) : T := if t = ⟨#[]⟩ then [] else Lib.trimSuffix t.data.toList [47] ++ [47]
theorem goSp_tx (s : Spt) (n : ByteArray) : (goSp s n).1.data.toList = headT s.1 ++ n.data.toList := by
 unfold goSp headT
 dsimp only
 split
 · simp
 · rw [ByteArray.data_append, ByteArray.data_append, Array.toList_append, Array.toList_append, bs_list]
theorem headT_end {t : ByteArray} (h : TxEnd t) : headT t = t.data.toList ++ [47] := by
 unfold headT
 rw [if_neg (by rintro rfl; exact h.1 rfl)]
 congr 1
 unfold Lib.trimSuffix
 rw [if_neg]
 intro e
 apply h.2
 unfold Lib.hasSuffix at e
 obtain ⟨u, hu⟩ := List.isSuffixOf_iff_suffix.1 e
 rw [← hu]
 simp
theorem goSp_end (s : Spt) {n : ByteArray} (h : NameOk n) : TxEnd (goSp s n).1 := by
 unfold TxEnd
 rw [goSp_tx]
 refine ⟨by simp [h.1], fun e => ?_⟩
 rw [List.getLast?_append] at e
 have hl : (n.data.toList.getLast?).isSome := by simpa using h.1
 obtain ⟨z, hz⟩ := Option.isSome_iff_exists.1 hl
 rw [hz] at e
 simp at e
 subst e
 exact h.2 (List.mem_of_getLast? hz)
theorem cut_last {a b x y : T} (hx : 47 ∉ x) (hy : 47 ∉ y) (h : a ++ [47] ++ x = b ++ [47] ++ y) : a = b ∧ x = y := by
 rw [List.append_assoc, List.append_assoc] at h
 rcases List.append_eq_append_iff.1 h with ⟨c, e1, e2⟩ | ⟨c, e1, e2⟩
 · cases c with
   | nil => simp at e1 e2; exact ⟨e1.symm, e2⟩
   | cons z c =>
     simp at e2
     exact absurd (by rw [e2.2]; simp) hx
 · cases c with
   | nil => simp at e1 e2; exact ⟨e1, e2.symm⟩
   | cons z c =>
     simp at e2
     exact absurd (by rw [e2.2]; simp) hy
theorem stepB_ok {fs : St} (hf : FsOk fs) (p : ByteArray) {L : List Spt} (h : OkNow L) : Dist (stepB fs L p) ∧ ∀ s ∈ stepB fs L p, TxEnd s.1 := by
 constructor
 · unfold stepB Dist
   rw [List.pairwise_flatMap]
   constructor
   · intro s _
     rw [List.pairwise_map]
     refine (fnames_good hf s.2 p).1.imp fun {a b} hab e => hab ?_
     have e2 := congrArg (fun z : ByteArray => z.data.toList) e
     simp only [goSp_tx] at e2
     exact ByteArray.ext (Array.toList_inj.1 (List.append_cancel_left e2))
   · rcases h with ⟨s, rfl⟩ | ⟨h1, h2⟩
     · simp
     · refine (List.Pairwise.imp_of_mem (fun {a b} ha hb hab => ?_) h1)
       intro x hx y hy e
       obtain ⟨n, hn, rfl⟩ := List.mem_map.1 hx
       obtain ⟨m, hm, rfl⟩ := List.mem_map.1 hy
       have e2 := congrArg (fun z : ByteArray => z.data.toList) e
       simp only [goSp_tx, headT_end (h2 a ha), headT_end (h2 b hb)] at e2
       have := (cut_last ((fnames_good hf a.2 p).2 n hn).2 ((fnames_good hf b.2 p).2 m hm).2 e2).1
       exact hab (ByteArray.ext (Array.toList_inj.1 this))
 · intro s hs
   unfold stepB at hs
   obtain ⟨a, _, h2⟩ := List.mem_flatMap.1 hs
   obtain ⟨n, hn, rfl⟩ := List.mem_map.1 h2
   exact goSp_end a ((fnames_good hf a.2 p).2 n hn)
theorem OkNow.filter {L : List Spt} (h : Dist L ∧ ∀ s ∈ L, TxEnd s.1) (q : Spt → Bool) : OkNow (L.filter q) := .inr ⟨h.1.filter q, fun s hs => h.2 s (List.mem_filter.1 hs).1⟩
theorem step_size {fs : St} (hf : FsOk fs) (p : ByteArray) {L : List Spt} {b : Nat} (h : ∀ s ∈ L, s.1.size ≤ b) : ∀ s ∈ stepB fs L p, s.1.size ≤ b + 201 ∧ s.2.size ≤ 200 := by
 intro s hs
 unfold stepB at hs
 obtain ⟨a, ha, h2⟩ := List.mem_flatMap.1 hs
 obtain ⟨n, hn, rfl⟩ := List.mem_map.1 h2
 have h1 := h a ha
 have h3 := (fnames_le hf a.2 p).2 n hn
 constructor
 · rw [← data_len, goSp_tx, List.length_append, data_len]
   have : (headT a.1).length ≤ a.1.size + 1 := by
     unfold headT
     split
     · exact Nat.zero_le _
     · rw [List.length_append, ← data_len]
       unfold Lib.trimSuffix
       split
       · rw [List.length_take, List.length_singleton]; omega
       · exact Nat.le_refl _
   omega
 · show (bs (absF a.2.data.toList n.data.toList).1).size ≤ 200
   rw [bs_size]
   rcases absF_cases a.2.data.toList n.data.toList with ⟨l, hl, e, _⟩ | ⟨e, _⟩
   · rw [e]; exact hl.len
   · rw [e]; exact Nat.zero_le _
end
section
open Go.RowKit Go.Deep Go.Maps Ln Pth Vf Qm.Glob
def startB (cwd p : ByteArray) : Option Spt := if p.data.toList.head? = some 47 then some (⟨#[47]⟩, ⟨#[47]⟩) else if (absF [47] cwd.data.toList).2 ≠ 0 then none else some (⟨#[]⟩, bs (absF [47] cwd.data.toList).1)
def nowB (fs : St) (P : List ByteArray) (s : Spt) : Nat → List Spt
 | 0 => [s]
 | i + 1 => match P[i]? with
   | none => nowB fs P s i
   | some p => if i + 1 < P.length then (stepB fs (firstB (nowB fs P s i)) p).filter (fun x => !keepB fs p x) else stepB fs (firstB (nowB fs P s i)) p
structure NowOk (L : List Spt) (i : Nat) : Prop where
 ok : OkNow L
 len : L.length ≤ 100000
 sz : ∀ s ∈ L, s.1.size ≤ 1 + 201 * i ∧ s.2.size ≤ 200
theorem NowOk.step {fs : St} (hf : FsOk fs) {L : List Spt} {i : Nat} (h : NowOk L i) (p : ByteArray) : (Dist (stepB fs (firstB L) p) ∧ ∀ s ∈ stepB fs (firstB L) p, TxEnd s.1) ∧ (stepB fs (firstB L) p).length ≤ 100000 ∧ ∀ s ∈ stepB fs (firstB L) p, s.1.size ≤ 1 + 201 * (i + 1) ∧ s.2.size ≤ 200 := by
 have h1 := step_len fs hf p (firstB L)
 have h2 := firstB_le L
 refine ⟨stepB_ok hf p h.ok.first, by omega, fun s hs => ?_⟩
 have := step_size hf p (fun s hs => (h.sz s (firstB_mem h.ok hs)).1) s hs
 omega
theorem nowB_ok {fs : St} (hf : FsOk fs) (P : List ByteArray) {s : Spt} (hs : s.1.size ≤ 1 ∧ s.2.size ≤ 200) : ∀ i, NowOk (nowB fs P s i) i
 | 0 => ⟨.inl ⟨s, rfl⟩, by simp [nowB], fun x hx => by
   have hx2 : x = s := by simpa [nowB] using hx
   rw [hx2]
   omega⟩
 | i + 1 => by
   have ih := nowB_ok hf P hs i
   unfold nowB
   split
   · exact ⟨ih.ok, ih.len, fun x hx => by have := ih.sz x hx; omega⟩
   · rename_i p _
     obtain ⟨h1, h2, h3⟩ := ih.step hf p
     split
     · exact ⟨OkNow.filter h1 _, Nat.le_trans (List.length_filter_le _ _) h2, fun x hx => h3 x (List.mem_filter.1 hx).1⟩
     · exact ⟨.inr h1, h2, h3⟩
theorem start_sz {cwd p : ByteArray} {s : Spt} (h : startB cwd p = some s) : s.1.size ≤ 1 ∧ s.2.size ≤ 200 := by
 unfold startB at h
 split at h
 · injection h with h
   subst h
   decide
 · split at h
   · cases h
   · injection h with h
     subst h
     refine ⟨Nat.zero_le _, ?_⟩
     show (bs _).size ≤ 200
     rw [bs_size]
     rcases absF_cases [47] cwd.data.toList with ⟨l, hl, e, _⟩ | ⟨e, _⟩
     · rw [e]; exact hl.len
     · rw [e]; exact Nat.zero_le _
theorem OwnG.lower {α : Type} {enc : α → List Value} {n : Nat} {E : TypeId} {w : World} {base base' : Nat} {v : Value} {L : List α} (h : OwnG enc n E w base v L) (hb : base' ≤ base) : OwnG enc n E w base' v L :=
 ⟨h.1, h.2.imp id fun ⟨g, cap, cur, e, hg, r⟩ => ⟨g, cap, cur, e, by omega, r⟩⟩
theorem partsQ_sz (p : ByteArray) : (partsQ p).length ≤ p.size + 1 ∧ ∀ s ∈ partsQ p, s.size ≤ p.size := by
 unfold partsQ
 refine ⟨?_, fun s hs => ?_⟩
 · refine Nat.le_trans (List.length_filter_le _ _) ?_
   rw [List.length_map]
   have := spl_len 47 p.data.toList
   rw [data_len] at this
   exact this
 · obtain ⟨x, hx, rfl⟩ := List.mem_map.1 (List.mem_filter.1 hs).1
   rw [bs_size]
   have h1 := sum_spl 47 p.data.toList
   have h2 : x.length + 1 ≤ ((spl 47 p.data.toList).map (·.length + 1)).sum := by
     have : ∀ (M : List T), x ∈ M → x.length + 1 ≤ (M.map (·.length + 1)).sum := by
       intro M
       induction M with
       | nil => intro h; cases h
       | cons m M ih =>
         intro h
         rw [List.map_cons, List.sum_cons]
         rcases List.mem_cons.1 h with rfl | h
         · omega
         · have := ih h; omega
     exact this _ hx
   rw [h1, data_len] at h2
   omega
def RoundP (b1 : Nat) (w1 : World) (gN : Nat) (nm : ByteArray) (PA : Option Addr) (P : List ByteArray) (N : List Spt) (v : Value) (w : World) : Prop :=
 OwnSp w b1 v N ∧ Below b1 w1 w ∧ w.cell? ⟨gN, 0, none⟩ = some (.string nm) ∧ SR w PA P ∧ ∀ k, v.ownBlock = some k → gN ≠ k ∧ ∀ a, PA = some a → a.block ≠ k
theorem round_calls (gf : Nat) (fs : St) (hf : FsOk fs) {w w1 W : World} (b1 : Nat) (hb1 : w1.heap.size = b1) (hb01 : Below w.heap.size w w1) (hv : Hs (VS gf fs) w) (hm : MX w) (gN : Nat) (nm : ByteArray) (hnm : nm.size ≤ 1000) (PA : Option Addr) (P : List ByteArray)
   (L : List Spt) (i : Nat) (hL : NowOk L i) (hi : i ≤ 1000) (v : Value) (ho : OwnSp W b1 v L) (hb : Below b1 w1 W) (hN : W.cell? ⟨gN, 0, none⟩ = some (.string nm)) (hS : SR W PA P) (hPW : ∀ a, PA = some a → a.block < W.heap.size) (hne : ∀ k, v.ownBlock = some k → gN ≠ k ∧ ∀ a, PA = some a → a.block ≠ k) {gF : Nat} {uF : Value} (hF : w1.cell? ⟨gF, 0, none⟩ = some uF) :
   ∀ Z, Below W.heap.size W Z → Calls Tryz.prog 53 #[v] Z fun e w3 => ∃ A3 c3, e = .returned (.slice A3 (firstB L).length c3) ∧ w3.cell? ⟨gF, 0, none⟩ = some uF ∧ w3.cell? ⟨gN, 0, none⟩ = some (.string nm) ∧
     ∀ Z2, Below w3.heap.size w3 Z2 → Calls Tryz.prog 52 #[.pointer (some ⟨gf, 0, none⟩), .slice A3 (firstB L).length c3, .string nm] Z2 fun e w4 => ∃ u, e = .returned u ∧ RoundP b1 w1 gN nm PA P (stepB fs (firstB L) nm) u w4 := by
 intro Z hZ
 have hoZ : OwnSp Z b1 v L := ownsRow_of ho fun k e => hZ.block k (ho.lt k e).2
 have hbZ : Below b1 w1 Z := hb.trans (hZ.mono (by have := hb.size; omega))
 refine (first_any hoZ hL.ok.nodup (by have := hL.len; omega)).mono ?_
 rintro e w3 ⟨⟨v', rfl, ho', hv'⟩, hg⟩
 obtain ⟨A3, c3, rfl, _, hrg, _, _⟩ := ho'.slice encSp_len
 have hgN : gN < W.heap.size := World.block_lt_of_cell? W _ hN
 have hgF : gF < w1.heap.size := World.block_lt_of_cell? w1 _ hF
 have hb3 : Below b1 w1 w3 := hbZ.grown hg (by have := hbZ.size; omega) (fun q e => (hoZ.lt q e).1)
 have hk : ∀ q, q < W.heap.size → v.ownBlock ≠ some q → w3.heap[q]? = W.heap[q]? := fun q h1 h2 => (hg.block q (Nat.lt_of_lt_of_le h1 hZ.size) (fun e => h2 e.symm)).trans (hZ.block q h1)
 have hN3 : w3.cell? ⟨gN, 0, none⟩ = some (.string nm) := (World.cell?_of_block (hk gN hgN (fun e => (hne _ e).1 rfl))).trans hN
 have hS3 : SR w3 PA P := hS.ofK (Nat.le_trans hZ.size hg.size) (fun a e _ hla => hk _ hla (fun q => (hne _ q).2 a e rfl))
 refine ⟨A3, c3, rfl, (hb3.cell (p := ⟨gF, 0, none⟩) (by rw [← hb1]; exact hgF)).trans hF, hN3, fun Z2 hZ2 => ?_⟩
 have hb4 : Below b1 w1 Z2 := hb3.trans (hZ2.mono (by have := hb3.size; omega))
 have hw4 : Below w.heap.size w Z2 := hb01.trans (hb4.mono (by have := hb01.size; omega))
 refine (step_any gf fs nm A3 c3 (firstB L) Z2 hf (hv.below (VS.fr _ _) hw4) (hm.below hw4) hnm (hrg.below hZ2) (firstB_le L) (fun s hs => by have := hL.sz s (firstB_mem hL.ok hs); omega)).mono ?_
 rintro e w4 ⟨⟨u, rfl, ho4⟩, hb5⟩
 have hsz := hg.size
 have hsz2 := hZ2.size
 have hsz0 := hZ.size
 have hbz := hb4.size
 refine ⟨u, rfl, ho4.lower (by omega), hb4.trans (hb5.mono (by omega)), ?_, (hS3.below hZ2).below hb5, fun k e => ?_⟩
 · exact (hb5.cell (p := ⟨gN, 0, none⟩) (by show gN < Z2.heap.size; omega)).trans ((hZ2.cell (p := ⟨gN, 0, none⟩) (by show gN < w3.heap.size; omega)).trans hN3)
 · have := (ho4.lt k e).1
   exact ⟨by omega, fun a ea => by have := hPW a ea; omega⟩
end
section
open Go.RowKit Go.Deep Ln
attribute [local go_sem] bt_eq
theorem getD_nat (l : T) (k : Nat) (n : Nat) (hn : n < 256) : ((((bt (bs l) k : Nat) : Int) == (n : Int))) = decide (l.getD k 0 = UInt8.ofNat n) := by
 rw [bt_bs, Bool.eq_iff_iff]
 simp only [beq_iff_eq, decide_eq_true_eq]
 constructor
 · intro h
   have : (l.getD k 0).toNat = n := by omega
   rw [← this]; simp
 · intro h
   rw [h]
   simp [UInt8.toNat_ofNat']
   omega
def ixFrom (l : T) (c : UInt8) (k : Nat) : Int := if Lib.indexByte (l.drop k) c = -1 then -1 else (k : Int) + Lib.indexByte (l.drop k) c
theorem rat0_any (l : T) (c : UInt8) (w : World) (h : l.length ≤ 281474976710656) : Calls Tryz.prog 18 #[.string (bs l), .int .u8 c.toNat] w fun e w' => e = .returned (.int .i64 (Lib.indexByte l c)) ∧ w = w' := by
 have hz : (bs l).size = l.length := bs_size l
 have hz1 : (bs l).size ≤ 281474976710656 := by omega
 have HZ := hide hz
 have HR0 := hide (show ixFrom l c 0 = Lib.indexByte l c by unfold ixFrom; rw [List.drop_zero]; split <;> omega)
 have hc256 : c.toNat < 256 := c.toNat_lt
 obtain ⟨R, hR⟩ : ∃ R, Lib.indexByte l c = R := ⟨_, rfl⟩
 rw [hR] at HR0 ⊢
 clear hz hR
 go_enter Tryz.func18, Tryz.ntmps18
 go_wp2
 go_loop [5] (fun v5 => ∃ k : Nat, v5 = .int .i64 k ∧ k ≤ (bs l).size ∧ Hid (ixFrom l c k = R)) (fun v5 => (bs l).size - (intOf v5).toNat)
 case atStart => exact ⟨0, rfl, by omega, HR0⟩
 case round =>
   obtain ⟨k, rfl, hk, HR⟩ := hrel
   by_cases hlt : k < (bs l).size
   · have hkl : k < l.length := by have := HZ.out; omega
     have q := getD_nat l k c.toNat hc256
     have hd : l.drop k = l.getD k 0 :: l.drop (k + 1) := by
       rw [List.drop_eq_getElem_cons hkl]; simp [hkl]
     by_cases he : l.getD k 0 = c
     · have g1 : (((bt (bs l) k : Nat) : Int) == ((c.toNat : Nat) : Int)) = true := by rw [q]; simpa using he
       have HE := hide (show (k : Int) = R by rw [← HR.out]; unfold ixFrom; rw [hd, Lib.indexByte, he]; simp)
       clear q hd he
       go_wp2
       go_ret
       refine ⟨?_, rfl⟩
       rw [← HE.out]
       rfl
     · have g1 : (((bt (bs l) k : Nat) : Int) == ((c.toNat : Nat) : Int)) = false := by rw [q]; simpa using he
       have HE := hide (show ixFrom l c (k + 1) = R by
         rw [← HR.out]
         unfold ixFrom
         have hne : (l.getD k 0 == c) = false := by simpa using he
         rw [hd, Lib.indexByte, hne]
         simp only [Bool.false_eq_true, if_false]
         have := ixb_ge c (l.drop (k + 1))
         by_cases h1 : Lib.indexByte (l.drop (k + 1)) c = -1
         · rw [h1]; rfl
         · have hb : (Lib.indexByte (l.drop (k + 1)) c == -1) = false := by simpa using h1
           rw [hb, if_neg h1]
           simp only [Bool.false_eq_true, if_false]
           rw [if_neg (by omega)]
           omega)
       clear q hd he
       go_wp2
       go_round
       case rel => exact ⟨k + 1, by go_num, by omega, HE⟩
       case measure => simp [intOf]; omega
   · have HE := hide (show (-1 : Int) = R by
       rw [← HR.out]
       unfold ixFrom
       rw [List.drop_of_length_le (by have := HZ.out; omega)]
       rfl)
     go_wp2
     go_ret
     refine ⟨?_, rfl⟩
     rw [← HE.out]
     rfl
end
section
open Go.RowKit Go.Deep Ln Pth
attribute [local go_sem] bt_eq
theorem rbegins_eq (s x : ByteArray) (h : x.size ≤ s.size) : ((s.extract 0 x.size).toList == x.toList) = Lib.hasPrefix s.data.toList x.data.toList := by
 rw [← Lib.hasPrefix_of_take, Lib.toList_data, Lib.toList_data, Lib.extract_data]
 have h1 : x.data.toList.length ≤ s.data.toList.length := by simpa using h
 rw [decide_eq_true h1, Bool.true_and, List.drop_zero, Nat.sub_zero]
 have : x.data.toList.length = x.size := by simp
 rw [this]
theorem rbegins_no (s x : ByteArray) (h : ¬ x.size ≤ s.size) : Lib.hasPrefix s.data.toList x.data.toList = false := by
 rw [← Lib.hasPrefix_of_take]
 have h1 : ¬ x.data.toList.length ≤ s.data.toList.length := by simpa using h
 rw [decide_eq_false h1, Bool.false_and]
theorem retB {a b : Bool} (h : a = b) : Ending.returned (.bool a) = .returned (.bool b) := by rw [h]
theorem rbegins_any (s x : ByteArray) (w : World) : Calls Tryz.prog 71 #[.string s, .string x] w fun e w' => e = .returned (.bool (Lib.hasPrefix s.data.toList x.data.toList)) ∧ w = w' := by
 by_cases h : x.size ≤ s.size
 · have HE := hide (rbegins_eq s x h)
   have hd : decide (x.size ≤ s.size) = true := by simpa using h
   have hi : (x.size : Int) ≤ (s.size : Int) := by omega
   go_enter Tryz.func71, Tryz.ntmps71
   go_wp2
   go_ret
   exact ⟨retB (by rw [← HE.out]), rfl⟩
 · have HE := hide (rbegins_no s x h)
   have hd : decide (x.size ≤ s.size) = false := by simpa using h
   go_enter Tryz.func71, Tryz.ntmps71
   go_wp2
   go_ret
   exact ⟨retB (by rw [HE.out]), rfl⟩
def namesP (l : List T) (p : T) : List T := (spl 47 p).foldl stepP l
theorem parts_names (cwd p : T) : partsF cwd p = namesP (if p.head? = some 47 then [] else namesP [] cwd) p := by
 unfold partsF namesP
 split
 · rfl
 · rw [List.foldl_append]
theorem stepP_len (K : List T) (s : T) : (stepP K s).length ≤ K.length + 1 := by
 unfold stepP
 split
 · omega
 · split
   · rw [List.length_dropLast]; omega
   · simp
theorem dropT {p : T} {a i : Nat} (ha : a ≤ i) (hi : i < p.length) : p.drop a = (p.drop a).take (i - a) ++ p[i] :: p.drop (i + 1) := by
 conv => lhs; rw [← List.take_append_drop (i - a) (p.drop a)]
 rw [List.drop_drop, show a + (i - a) = i by omega, List.drop_eq_getElem_cons hi]
theorem takeT {p : T} {a i : Nat} (ha : a ≤ i) (hi : i < p.length) : (p.drop a).take (i + 1 - a) = (p.drop a).take (i - a) ++ [p[i]] := by
 rw [show i + 1 - a = (i - a) + 1 by omega, List.take_add_one, List.getElem?_drop, show a + (i - a) = i by omega, List.getElem?_eq_getElem hi]
 rfl
theorem below_gbX {B : Nat} {w wr w4 : World} {A : Option Addr} {k c : Nat} {L : List ByteArray} {o : Obj} (hb : Below B w wr) (g4 : (wr.alloc o).grownBy w4 (Value.slice A k c).ownBlock) (ho : OwnS wr B (.slice A k c) L) (hB : B ≤ wr.heap.size) : Below B w w4 := by
 have h1 := hb.alloc hB o
 exact h1.grown g4 (by simp; omega) (fun q hq => (World.ownsRow.lt ho q hq).1)
theorem rnames_any (B : Nat) (v : Value) (L : List T) (p : T) (w : World) (hv : OwnS w B v (L.map bs)) (hB : B ≤ w.heap.size) (hl : L.length ≤ 13200000) (hp : p.length ≤ 6600000) :
   Calls Tryz.prog 174 #[v, .string (bs p)] w fun e w' => (∃ v', e = .returned v' ∧ OwnS w' B v' ((namesP L p).map bs)) ∧ Below B w w' := by
 have HV := hide hv
 obtain ⟨R, hR⟩ : ∃ R, namesP L p = R := ⟨_, rfl⟩
 rw [hR]
 have ztx := bs_size p
 obtain ⟨n, hn⟩ : ∃ n, p.length = n := ⟨_, rfl⟩
 rw [hn] at ztx hp
 have HN := hide hn
 have HR := hide (show namesP L p = R from hR)
 have hni : (n : Int) ≤ 6600000 := by omega
 obtain ⟨A0, c0, e0, _, _, _⟩ := hv.slice
 subst e0
 clear hv hR hn
 go_enter Tryz.func174, Tryz.ntmps174
 go_wp2
 go_loopw [0, 5, 6, 7] (fun v0 v5 v6 _ wr => ∃ (i a : Nat) (K : List T), v5 = .int .i64 a ∧ v6 = .int .i64 i ∧ i ≤ n + 1 ∧ a ≤ i ∧ OwnS wr B v0 (K.map bs) ∧ Hid (i ≤ n → 47 ∉ (p.drop a).take (i - a)) ∧ Hid ((if i ≤ n then (spl 47 (p.drop a)).foldl stepP K else K) = R) ∧ K.length ≤ L.length + i ∧ Below B w wr) (fun _ _ v6 _ _ => n + 1 - (intOf v6).toNat)
 case atStart => exact ⟨0, 0, L, rfl, rfl, by omega, Nat.le_refl _, HV.out, (fun _ => by simp), (by rw [if_pos (Nat.zero_le _), List.drop_zero]; exact HR.out), by omega, Below.refl _ _⟩
 case round =>
   obtain ⟨i, a, K, rfl, rfl, hi, ha, hown, HNO, HF, hkl, hbl⟩ := hrel
   have HB := hide hbl
   have HO := hide hown
   obtain ⟨Ak, ck, ek, _, _, _⟩ := hown.slice
   subst ek
   have hbs : B ≤ wr.heap.size := by have := hbl.size; omega
   clear hown hbl
   by_cases hin : i ≤ n
   case neg =>
     have d1 : decide ((i : Int) ≤ (n : Int)) = false := by simp; omega
     have d1' : decide (i ≤ n) = false := by simp; omega
     have HE := hide (show K = R by have := HF.out; rwa [if_neg hin] at this)
     clear hin
     go_wp2
     go_ret
     refine ⟨⟨_, rfl, ?_⟩, HB.out⟩
     rw [← HE.out]
     exact HO.out
   have d1 : decide ((i : Int) ≤ (n : Int)) = true := by simp; omega
   have d1' : decide (i ≤ n) = true := by simp; omega
   have hno := HNO.out hin
   have hf := HF.out
   rw [if_pos hin] at hf
   obtain ⟨s, hs⟩ : ∃ s, (p.drop a).take (i - a) = s := ⟨_, rfl⟩
   have hex : (bs p).extract a i = bs s := by rw [ext_bs, hs]
   have hai : (a : Int) ≤ (i : Int) := by omega
   have hii : (i : Int) ≤ (n : Int) := by omega
   rw [hs] at hno
   have hkm : (K.map bs).length = K.length := List.length_map _
   rw [hkm] at HO ⊢
   have HKM := hide hkm
   obtain ⟨kn, hkn⟩ : ∃ k, K.length = k := ⟨_, rfl⟩
   have HKN := hide hkn
   rw [hkn] at HO hkl ⊢
   clear hkm hkn
   by_cases hlt : i < n
   · obtain ⟨ch, hch⟩ : ∃ x, p[i]'(by have := HN.out; omega) = x := ⟨_, rfl⟩
     have hbt : bt (bs p) i = ch.toNat := by
       unfold bt bs
       simp [← hch, HN.out, hlt]
     have d2 : decide ((i : Int) < (n : Int)) = true := by simp; omega
     have d2' : decide (i < n) = true := by simp; omega
     have htk := takeT (p := p) ha (by have := HN.out; omega)
     have hdr := dropT (p := p) ha (by have := HN.out; omega)
     rw [hch, hs] at htk hdr
     by_cases h47 : ch = 47
     case neg =>
       have h47n : ¬ ch.toNat = 47 := fun e => h47 (UInt8.toNat_inj.1 e)
       have d3 : (((ch.toNat : Nat) : Int) != 47) = true := by simp; omega
       have HNO2 := hide (show 47 ∉ (p.drop a).take (i + 1 - a) by
         rw [htk]
         intro h
         rcases List.mem_append.1 h with h | h
         · exact hno h
         · exact h47 (List.mem_singleton.1 h).symm)
       obtain ⟨cn, hcn⟩ : ∃ c, ch.toNat = c := ⟨_, rfl⟩
       rw [hcn] at hbt d3 h47n
       clear htk hdr hno hf hs hex h47 hch hcn
       go_wp2
       go_roundw
       case rel => exact ⟨i + 1, a, K, rfl, by go_num, by omega, by omega, HO.out, (fun _ => HNO2.out), (by rw [if_pos (by omega)]; have := HF.out; rwa [if_pos hin] at this), (by have := HKN.out; omega), HB.out⟩
       case measure => simp [intOf] <;> omega
     subst h47
     have d3 : (((47 : UInt8).toNat : Nat) : Int) = 47 := rfl
     rw [hdr, spl_app _ hno, List.foldl_cons] at hf
     have HF2 := hide (show (if i + 1 ≤ n then (spl 47 (p.drop (i + 1))).foldl stepP (stepP K s) else stepP K s) = R by rw [if_pos (by omega)]; exact hf)
     rw [show (47 : UInt8).toNat = 47 from rfl] at hbt
     clear htk hdr hno hf hs hch d3
     by_cases s0 : s = []
     · have e0 : (bs s).toList.isEmpty = true := by rw [bs_toList, s0]; rfl
       have HST := hide (show stepP K s = K by rw [s0, stepP_nil])
       clear s0
       go_wp2
       go_roundw
       case rel => exact ⟨i + 1, i + 1, stepP K s, by go_num, by go_num, by omega, Nat.le_refl _, (by rw [HST.out]; exact HO.out), (fun _ => by simp), HF2.out, (by have := stepP_len K s; have := HKN.out; omega), HB.out⟩
       case measure => simp [intOf] <;> omega
     have e0 : (bs s).toList.isEmpty = false := by rw [bs_toList]; cases s with | nil => exact absurd rfl s0 | cons _ _ => rfl
     by_cases s1 : s = [46]
     · have e1 : ((bs s).toList == [46]) = true := by rw [bs_toList, s1]; rfl
       have HST := hide (show stepP K s = K by rw [stepP, if_pos (.inr s1)])
       clear s0 s1
       go_wp2
       go_roundw
       case rel => exact ⟨i + 1, i + 1, stepP K s, by go_num, by go_num, by omega, Nat.le_refl _, (by rw [HST.out]; exact HO.out), (fun _ => by simp), HF2.out, (by have := stepP_len K s; have := HKN.out; omega), HB.out⟩
       case measure => simp [intOf] <;> omega
     have e1 : ((bs s).toList == [46]) = false := by rw [bs_toList]; simpa using s1
     by_cases s2 : s = [46, 46]
     · have e2 : ((bs s).toList == [46, 46]) = true := by rw [bs_toList, s2]; rfl
       have HST := hide (show stepP K s = K.dropLast by rw [stepP, if_neg (by rintro (h | h); exact s0 h; exact s1 h), if_pos s2])
       clear s0 s1 s2
       by_cases k0 : kn = 0
       · subst k0
         have HKE := hide (show K = [] from List.eq_nil_of_length_eq_zero HKN.out)
         go_wp2
         go_roundw
         case rel => exact ⟨i + 1, i + 1, stepP K s, by go_num, by go_num, by omega, Nat.le_refl _, (by rw [HST.out, HKE.out]; have := HO.out; rw [HKE.out] at this; exact this), (fun _ => by simp), HF2.out, (by have := stepP_len K s; have := HKN.out; omega), HB.out⟩
         case measure => simp [intOf] <;> omega
       · have k1 : decide ((0 : Int) < (kn : Int)) = true := by simp; omega
         have k1' : decide (0 < kn) = true := by simp; omega
         obtain ⟨km, rfl⟩ : ∃ k, kn = k + 1 := ⟨kn - 1, by omega⟩
         have hcap : km + 1 ≤ ck := by
           obtain ⟨A9, c9, e9, l9, _, _⟩ := HO.out.slice
           have := HKN.out
           rw [List.length_map] at e9 l9
           injection e9 with _ _ e9
           omega
         have hcapi : (km : Int) ≤ (ck : Int) := by omega
         have hwr : IntKind.i64.wrap ((km : Int) + 1 - 1) = (km : Int) := by rw [show (km : Int) + 1 - 1 = (km : Int) by omega]; exact IntWalk.i64_in _ (by omega)
         have hwr2 : IntKind.i64.wrap (km : Int) = (km : Int) := IntWalk.i64_in _ (by omega)
         have HOD := hide (show OwnS wr B (.slice Ak km ck) (K.dropLast.map bs) from by
           have := OwnS.take HO.out (k := km) (by rw [List.length_map, HKN.out]; omega)
           rw [← List.map_take] at this
           rw [List.dropLast_eq_take, HKN.out]
           exact this)
         have hdl : (K.dropLast.map bs).length = km := by rw [List.length_map, List.length_dropLast, HKN.out]; rfl
         have HDL := hide hdl
         clear k0 hdl hcap
         go_wp2
         go_roundw
         case rel => exact ⟨i + 1, i + 1, stepP K s, by go_num, by go_num, by omega, Nat.le_refl _, (by rw [HST.out]; exact HOD.out), (fun _ => by simp), HF2.out, (by have := stepP_len K s; have := HKN.out; omega), HB.out⟩
         case measure => simp [intOf] <;> omega
     have e2 : ((bs s).toList == [46, 46]) = false := by rw [bs_toList]; simpa using s2
     have HST := hide (show stepP K s = K ++ [s] by rw [stepP, if_neg (by rintro (h | h); exact s0 h; exact s1 h), if_neg s2])
     obtain ⟨v4, w4, r4, o4, g4, b4⟩ := run_appS (c := 1) (OwnS.alloc HO.out (.cells #[.string (bs s)] 9)) (sr_new wr (bs s)) (by simp; omega) (by have := HKN.out; simp; omega)
     have HO4 := hide (show OwnS w4 B v4 ((K ++ [s]).map bs) by rw [List.map_append]; exact o4)
     have HB4 := hide (below_gbX HB.out g4 HO.out hbs)
     obtain ⟨A4, c4, e4, _, _, _⟩ := o4.slice
     have hl4 : (K.map bs ++ [bs s]).length = kn + 1 := by rw [List.length_append, HKM.out, HKN.out]; rfl
     rw [hl4] at e4
     subst e4
     clear s0 s1 s2 o4 g4 b4 hl4
     go_wp2_with (at_builtin; refine wpList_app_run ?_ (.tmp 30) (.tmp 32) ?_ ?_ ?_ ?_ r4 ?_; exact rfl; exact rfl; exact rfl; exact rfl; exact rfl)
     go_roundw
     case rel => exact ⟨i + 1, i + 1, stepP K s, by go_num, by go_num, by omega, Nat.le_refl _, (by rw [HST.out]; exact HO4.out), (fun _ => by simp), HF2.out, (by have := stepP_len K s; have := HKN.out; omega), HB4.out⟩
     case measure => simp [intOf] <;> omega
   · have d2 : decide ((i : Int) < (n : Int)) = false := by simp; omega
     have d2' : decide (i < n) = false := by simp; omega
     obtain rfl : n = i := by omega
     have hsd : p.drop a = s := by rw [← hs, List.take_of_length_le (by have := HN.out; rw [List.length_drop]; omega)]
     rw [hsd, spl_none hno] at hf
     have HF2 := hide (show (if n + 1 ≤ n then (spl 47 (p.drop (n + 1))).foldl stepP (stepP K s) else stepP K s) = R by rw [if_neg (by omega)]; exact hf)
     clear hno hf hs hsd
     by_cases s0 : s = []
     · have e0 : (bs s).toList.isEmpty = true := by rw [bs_toList, s0]; rfl
       have HST := hide (show stepP K s = K by rw [s0, stepP_nil])
       clear s0
       go_wp2
       go_roundw
       case rel => exact ⟨n + 1, n + 1, stepP K s, by go_num, by go_num, by omega, Nat.le_refl _, (by rw [HST.out]; exact HO.out), (fun _ => by simp), HF2.out, (by have := stepP_len K s; have := HKN.out; omega), HB.out⟩
       case measure => simp [intOf] <;> omega
     have e0 : (bs s).toList.isEmpty = false := by rw [bs_toList]; cases s with | nil => exact absurd rfl s0 | cons _ _ => rfl
     by_cases s1 : s = [46]
     · have e1 : ((bs s).toList == [46]) = true := by rw [bs_toList, s1]; rfl
       have HST := hide (show stepP K s = K by rw [stepP, if_pos (.inr s1)])
       clear s0 s1
       go_wp2
       go_roundw
       case rel => exact ⟨n + 1, n + 1, stepP K s, by go_num, by go_num, by omega, Nat.le_refl _, (by rw [HST.out]; exact HO.out), (fun _ => by simp), HF2.out, (by have := stepP_len K s; have := HKN.out; omega), HB.out⟩
       case measure => simp [intOf] <;> omega
     have e1 : ((bs s).toList == [46]) = false := by rw [bs_toList]; simpa using s1
     by_cases s2 : s = [46, 46]
     · have e2 : ((bs s).toList == [46, 46]) = true := by rw [bs_toList, s2]; rfl
       have HST := hide (show stepP K s = K.dropLast by rw [stepP, if_neg (by rintro (h | h); exact s0 h; exact s1 h), if_pos s2])
       clear s0 s1 s2
       by_cases k0 : kn = 0
       · subst k0
         have HKE := hide (show K = [] from List.eq_nil_of_length_eq_zero HKN.out)
         go_wp2
         go_roundw
         case rel => exact ⟨n + 1, n + 1, stepP K s, by go_num, by go_num, by omega, Nat.le_refl _, (by rw [HST.out, HKE.out]; have := HO.out; rw [HKE.out] at this; exact this), (fun _ => by simp), HF2.out, (by have := stepP_len K s; have := HKN.out; omega), HB.out⟩
         case measure => simp [intOf] <;> omega
       · have k1 : decide ((0 : Int) < (kn : Int)) = true := by simp; omega
         have k1' : decide (0 < kn) = true := by simp; omega
         obtain ⟨km, rfl⟩ : ∃ k, kn = k + 1 := ⟨kn - 1, by omega⟩
         have hcap : km + 1 ≤ ck := by
           obtain ⟨A9, c9, e9, l9, _, _⟩ := HO.out.slice
           have := HKN.out
           rw [List.length_map] at e9 l9
           injection e9 with _ _ e9
           omega
         have hcapi : (km : Int) ≤ (ck : Int) := by omega
         have hwr : IntKind.i64.wrap ((km : Int) + 1 - 1) = (km : Int) := by rw [show (km : Int) + 1 - 1 = (km : Int) by omega]; exact IntWalk.i64_in _ (by omega)
         have hwr2 : IntKind.i64.wrap (km : Int) = (km : Int) := IntWalk.i64_in _ (by omega)
         have HOD := hide (show OwnS wr B (.slice Ak km ck) (K.dropLast.map bs) from by
           have := OwnS.take HO.out (k := km) (by rw [List.length_map, HKN.out]; omega)
           rw [← List.map_take] at this
           rw [List.dropLast_eq_take, HKN.out]
           exact this)
         have hdl : (K.dropLast.map bs).length = km := by rw [List.length_map, List.length_dropLast, HKN.out]; rfl
         have HDL := hide hdl
         clear k0 hdl hcap
         go_wp2
         go_roundw
         case rel => exact ⟨n + 1, n + 1, stepP K s, by go_num, by go_num, by omega, Nat.le_refl _, (by rw [HST.out]; exact HOD.out), (fun _ => by simp), HF2.out, (by have := stepP_len K s; have := HKN.out; omega), HB.out⟩
         case measure => simp [intOf] <;> omega
     have e2 : ((bs s).toList == [46, 46]) = false := by rw [bs_toList]; simpa using s2
     have HST := hide (show stepP K s = K ++ [s] by rw [stepP, if_neg (by rintro (h | h); exact s0 h; exact s1 h), if_neg s2])
     obtain ⟨v4, w4, r4, o4, g4, b4⟩ := run_appS (c := 1) (OwnS.alloc HO.out (.cells #[.string (bs s)] 9)) (sr_new wr (bs s)) (by simp; omega) (by have := HKN.out; simp; omega)
     have HO4 := hide (show OwnS w4 B v4 ((K ++ [s]).map bs) by rw [List.map_append]; exact o4)
     have HB4 := hide (below_gbX HB.out g4 HO.out hbs)
     obtain ⟨A4, c4, e4, _, _, _⟩ := o4.slice
     have hl4 : (K.map bs ++ [bs s]).length = kn + 1 := by rw [List.length_append, HKM.out, HKN.out]; rfl
     rw [hl4] at e4
     subst e4
     clear s0 s1 s2 o4 g4 b4 hl4
     go_wp2_with (at_builtin; refine wpList_app_run ?_ (.tmp 30) (.tmp 32) ?_ ?_ ?_ ?_ r4 ?_; exact rfl; exact rfl; exact rfl; exact rfl; exact rfl)
     go_roundw
     case rel => exact ⟨n + 1, n + 1, stepP K s, by go_num, by go_num, by omega, Nat.le_refl _, (by rw [HST.out]; exact HO4.out), (fun _ => by simp), HF2.out, (by have := stepP_len K s; have := HKN.out; omega), HB4.out⟩
     case measure => simp [intOf] <;> omega
theorem namesP_len (L : List T) (p : T) : (namesP L p).length ≤ L.length + (p.length + 1) := Nat.le_trans (foldl_len _ _) (by have := spl_len 47 p; omega)
theorem rparts_any (cwd p : T) (w : World) (h1 : cwd.length ≤ 6600000) (h2 : p.length ≤ 6600000) :
   Calls Tryz.prog 121 #[.string (bs cwd), .string (bs p)] w fun e w' => (∃ v, e = .returned v ∧ OwnS w' w.heap.size v ((partsF cwd p).map bs)) ∧ Below w.heap.size w w' := by
 have hpf := rbegins_any (bs p) ⟨#[47]⟩
 rw [show (⟨#[47]⟩ : ByteArray).data.toList = [47] from rfl, pre_slash] at hpf
 have hR := parts_names cwd p
 by_cases hc : p.head? = some 47
 · rw [decide_eq_true hc] at hpf
   rw [if_pos hc] at hR
   have HPF := hide hpf
   have HNM := hide (rnames_any w.heap.size (.slice none 0 0) [] p w (OwnS.nil _ _) (Nat.le_refl _) (by simp) h2)
   rw [← hR] at HNM
   clear hpf hR hc
   go_enter Tryz.func121, Tryz.ntmps121
   go_wp2_with fail
   refine (HPF.out w).mono ?_
   rintro e w' ⟨rfl, rfl⟩
   go_wp2_with fail
   refine HNM.out.mono ?_
   rintro e w2 ⟨⟨v, rfl, ho⟩, hb⟩
   have HO := hide ho
   have HB := hide hb
   clear ho hb
   go_wp2
   go_ret
   exact ⟨⟨_, rfl, HO.out⟩, HB.out⟩
 · rw [decide_eq_false hc] at hpf
   rw [if_neg hc] at hR
   have HPF := hide hpf
   have HNM := hide (rnames_any w.heap.size (.slice none 0 0) [] cwd w (OwnS.nil _ _) (Nat.le_refl _) (by simp) h1)
   have hnl := namesP_len [] cwd
   have HNN := hide (fun (W : World) (v : Value) (hv : OwnS W w.heap.size v ((namesP [] cwd).map bs)) (hs : w.heap.size ≤ W.heap.size) => rnames_any w.heap.size v (namesP [] cwd) p W hv hs (by simp at hnl; omega) h2)
   rw [← hR] at HNN
   clear hpf hR hc hnl
   go_enter Tryz.func121, Tryz.ntmps121
   go_wp2_with fail
   refine (HPF.out w).mono ?_
   rintro e w' ⟨rfl, rfl⟩
   go_wp2_with fail
   refine HNM.out.mono ?_
   rintro e w2 ⟨⟨v, rfl, ho⟩, hb⟩
   have HN2 := hide (HNN.out w2 v ho hb.size)
   have HB := hide hb
   clear ho hb
   go_wp2_with fail
   refine HN2.out.mono ?_
   rintro e w3 ⟨⟨v3, rfl, ho⟩, hb3⟩
   have HO := hide ho
   have HB3 := hide (HB.out.trans hb3)
   clear ho hb3
   go_wp2
   go_ret
   exact ⟨⟨_, rfl, HO.out⟩, HB3.out⟩
theorem slashed_take {L : List T} {k : Nat} {s : T} (h : L[k]? = some s) : slashed (L.take (k + 1)) = slashed (L.take k) ++ 47 :: s := by
 rw [List.take_add_one, h, slashed_app]
 simp [slashed]
theorem slashed_take_len (L : List T) (k : Nat) : (slashed (L.take k)).length ≤ (slashed L).length := by
 conv => rhs; rw [← List.take_append_drop k L, slashed_app, List.length_append]
 omega
theorem rwrite_any (A : Option Addr) (c : Nat) (L : List T) (w : World) (hA : SR w A (L.map bs)) (hl : (slashed L).length ≤ 59400000) (hll : L.length ≤ 59400000) :
   Calls Tryz.prog 124 #[.slice A L.length c] w fun e w' => e = .returned (.string (bs (joinF L))) ∧ w = w' := by
 have HA := hide hA
 have HL := hide hl
 obtain ⟨n, hn⟩ : ∃ n, L.length = n := ⟨_, rfl⟩
 rw [hn] at hll ⊢
 have HN := hide hn
 have hni : (n : Int) ≤ 59400000 := by omega
 clear hA hl hn
 go_enter Tryz.func124, Tryz.ntmps124
 go_wp2
 go_loopw [3, 4] (fun v3 v4 wr => ∃ k : Nat, v4 = .int .i64 k ∧ k ≤ n ∧ v3 = .string (bs (slashed (L.take k))) ∧ w = wr) (fun _ v4 _ => n - (intOf v4).toNat)
 case atStart => exact ⟨0, rfl, by omega, by simp [slashed, bs], rfl⟩
 case round =>
   obtain ⟨k, rfl, hk, rfl, rfl⟩ := hrel
   by_cases hlt : k < n
   · obtain ⟨x, hx⟩ : ∃ x, L[k]? = some x := ⟨L[k]'(by have := HN.out; omega), gE _⟩
     obtain ⟨g, o, rfl, hg, hc⟩ := HA.out k (bs x) (by simp [hx])
     have b1 : (k : Int) < (n : Int) := by omega
     have h1 := slashed_take_len L (k + 1)
     have h2 := slashed_take hx
     rw [h2, List.length_append, List.length_cons] at h1
     have h3 := HL.out
     have hz1 := bs_size (slashed (L.take k))
     have hz2 := bs_size x
     obtain ⟨P, hP⟩ : ∃ P, bs (slashed (L.take k)) = P := ⟨_, rfl⟩
     obtain ⟨Q, hQ⟩ : ∃ Q, bs x = Q := ⟨_, rfl⟩
     have HE := hide (show P ++ ⟨#[47]⟩ ++ Q = bs (slashed (L.take (k + 1))) by rw [← hP, ← hQ, h2, show (⟨#[47]⟩ : ByteArray) = bs [47] from rfl, bs_app, bs_app]; simp)
     rw [hP] at hz1 ⊢
     rw [hQ] at hz2 hc
     have hzp : P.size ≤ 59400000 := by omega
     have hzs : (P ++ ⟨#[47]⟩).size = P.size + 1 := by rw [ByteArray.size_append]; rfl
     have hzq : P.size + 1 + Q.size ≤ 59400000 := by omega
     have hzr : (P ++ ⟨#[47]⟩).size + Q.size ≤ 59400000 := by omega
     clear hx h1 h2 h3 hP hQ hz1 hz2
     go_wp2
     go_roundw
     case rel => exact ⟨k + 1, by go_num, by omega, by rw [HE.out], trivial⟩
     case measure => simp [intOf]; omega
   · obtain rfl : n = k := by omega
     have htk : L.take n = L := List.take_of_length_le (by have := HN.out; omega)
     rw [htk]
     by_cases h0 : L = []
     · have e0 : (bs (slashed L)).toList.isEmpty = true := by rw [bs_toList, h0]; rfl
       have HE := hide (show bs (joinF L) = ⟨#[47]⟩ by rw [joinF, if_pos h0]; rfl)
       clear h0 htk
       go_wp2
       go_ret
       rw [HE.out]
       exact ⟨rfl, rfl⟩
     · have e0 : (bs (slashed L)).toList.isEmpty = false := by
         rw [bs_toList]
         have := slashed_ne h0
         cases hs : slashed L with
         | nil => exact absurd hs this
         | cons _ _ => rfl
       have HE := hide (show bs (joinF L) = bs (slashed L) by rw [joinF, if_neg h0])
       obtain ⟨P, hP⟩ : ∃ P, bs (slashed L) = P := ⟨_, rfl⟩
       rw [hP] at e0 HE ⊢
       clear h0 htk hP
       go_wp2
       go_ret
       rw [HE.out]
       exact ⟨rfl, rfl⟩
theorem rabs_any (cwd p : T) (w : World) (h1 : cwd.length ≤ 6600000) (h2 : p.length ≤ 6600000) :
   Calls Tryz.prog 72 #[.string (bs cwd), .string (bs p)] w (AbsPost (absF cwd p) w) := by
 have HC0 := hide (fun W => rat0_any cwd 0 W (by omega))
 have HP0 := hide (fun W => rat0_any p 0 W (by omega))
 have HPA := hide (fun W => rparts_any cwd p W h1 h2)
 have g1 := ixb_ge 0 cwd
 have g2 := ixb_ge 0 p
 have m1 := ixb_mem 0 cwd
 have m2 := ixb_mem 0 p
 obtain ⟨ic, hic⟩ : ∃ i, Lib.indexByte cwd 0 = i := ⟨_, rfl⟩
 obtain ⟨ip, hip⟩ : ∃ i, Lib.indexByte p 0 = i := ⟨_, rfl⟩
 rw [hic] at HC0 m1 g1
 rw [hip] at HP0 m2 g2
 have HM1 := hide m1
 have HM2 := hide m2
 clear hic hip m1 m2
 by_cases c1 : p = []
 · subst c1
   have hem : (bs ([] : T)).toList.isEmpty = true := by rw [bs_toList]; rfl
   have HR := hide (show absF cwd [] = ([], 1) from if_pos (.inl rfl))
   go_enter Tryz.func72, Tryz.ntmps72
   go_wp2
   go_ret2
   unfold AbsPost
   rw [HR.out]
   exact ⟨rfl, Below.refl _ _⟩
 have hem : (bs p).toList.isEmpty = false := by rw [bs_toList]; cases p; exact absurd rfl c1; rfl
 by_cases c3 : 0 ≤ ip
 · have HR := hide (show absF cwd p = ([], 1) from if_pos (.inr (.inr (HM2.out.1 c3))))
   go_enter Tryz.func72, Tryz.ntmps72
   go_wp2_with fail
   refine (HP0.out _).mono ?_
   rintro e w' ⟨rfl, rfl⟩
   go_wp2
   go_ret2
   unfold AbsPost
   rw [HR.out]
   exact ⟨rfl, Below.refl _ _⟩
 have d3 : decide (0 ≤ ip) = false := by simp; omega
 by_cases c2 : 0 ≤ ic
 · have d2 : decide (0 ≤ ic) = true := by simp; omega
   have HR := hide (show absF cwd p = ([], 1) from if_pos (.inr (.inl (HM1.out.1 c2))))
   clear c2 c3
   go_enter Tryz.func72, Tryz.ntmps72
   go_wp2_with fail
   refine (HP0.out _).mono ?_
   rintro e w' ⟨rfl, rfl⟩
   go_wp2_with fail
   refine (HC0.out _).mono ?_
   rintro e w' ⟨rfl, rfl⟩
   go_wp2
   go_ret2
   unfold AbsPost
   rw [HR.out]
   exact ⟨rfl, Below.refl _ _⟩
 have d2 : decide (0 ≤ ic) = false := by simp; omega
 have hR : absF cwd p = if longF (partsF cwd p) = false ∧ (partsF cwd p).length ≤ 20 ∧ (joinF (partsF cwd p)).length ≤ 200 then (joinF (partsF cwd p), 0) else ([], 3) := by
   unfold absF
   rw [if_neg (by rintro (h | h | h); exact c1 h; exact c2 (HM1.out.2 h); exact c3 (HM2.out.2 h))]
 have hpl := partsF_len cwd p
 have hjl := joinF_len cwd p
 obtain ⟨L, hL⟩ : ∃ L, partsF cwd p = L := ⟨_, rfl⟩
 rw [hL] at hR HPA hpl hjl
 have HR := hide hR
 have HJ := hide hjl
 clear c1 c2 c3 hL hR
 go_enter Tryz.func72, Tryz.ntmps72
 go_wp2_with fail
 refine (HP0.out _).mono ?_
 rintro e w' ⟨rfl, rfl⟩
 go_wp2_with fail
 refine (HC0.out _).mono ?_
 rintro e w' ⟨rfl, rfl⟩
 go_wp2_with fail
 refine (HPA.out w).mono ?_
 rintro e w1 ⟨⟨v, rfl, ho⟩, hb1⟩
 obtain ⟨A, c, rfl, hc, hsr, _⟩ := OwnS.slice ho
 have HA := hide hsr
 have HB1 := hide hb1
 have hsl : (slashed L).length ≤ 59400000 := by
   have := hjl.1
   unfold joinF at this
   split at this
   · rename_i h; rw [h]; simp [slashed]
   · omega
 have HWR := hide (rwrite_any A c L w1 hsr hsl (by omega))
 rw [List.length_map] at hc ⊢
 obtain ⟨n, hn⟩ : ∃ n, L.length = n := ⟨_, rfl⟩
 rw [hn] at hc HWR hpl ⊢
 have HN := hide hn
 have hni : (n : Int) ≤ 59400000 := by omega
 clear ho hb1 hsr hjl hsl hn
 go_wp2_with fail
 go_loopw [7] (fun v7 wr => ∃ k : Nat, v7 = .int .i64 k ∧ k ≤ n ∧ Hid (longF (L.take k) = false) ∧ w1 = wr) (fun v7 _ => n - (intOf v7).toNat)
 case atStart => exact ⟨0, rfl, by omega, rfl, rfl⟩
 case round =>
   obtain ⟨k, rfl, hk, HLG, rfl⟩ := hrel
   by_cases hlt : k < n
   · obtain ⟨x, hx⟩ : ∃ x, L[k]? = some x := ⟨L[k]'(by have := HN.out; omega), gE _⟩
     obtain ⟨g, o, rfl, hg, hcx⟩ := HA.out k (bs x) (by simp [hx])
     have b1 : (k : Int) < (n : Int) := by omega
     have HX := hide hx
     have hzx := bs_size x
     obtain ⟨xn, hxn⟩ : ∃ m, x.length = m := ⟨_, rfl⟩
     rw [hxn] at hzx
     have hxl := HJ.out.2 x (List.mem_of_getElem? hx)
     rw [hxn] at hxl
     have hxi : (xn : Int) ≤ 59400000 := by omega
     have HXN := hide hxn
     clear hx hxn
     by_cases c6 : 60 < xn
     · have d6 : decide ((60 : Int) < (xn : Int)) = true := by simp; omega
       have d6' : decide (60 < xn) = true := by simp; omega
       have HE := hide (show absF cwd p = ([], 3) by
         rw [HR.out, if_neg]
         rintro ⟨h, _⟩
         have := (longF_iff L).1 h x (List.mem_of_getElem? HX.out)
         have := HXN.out
         omega)
       clear c6
       go_wp2
       go_ret2
       unfold AbsPost
       rw [HE.out]
       exact ⟨rfl, HB1.out⟩
     · have d6 : decide ((60 : Int) < (xn : Int)) = false := by simp; omega
       have d6' : decide (60 < xn) = false := by simp; omega
       have HL2 := hide (show longF (L.take (k + 1)) = false by
         rw [longF_iff]
         intro s hs
         rw [List.take_add_one, HX.out] at hs
         rcases List.mem_append.1 hs with h | h
         · exact (longF_iff _).1 HLG.out s h
         · simp at h
           rw [h, HXN.out]; omega)
       clear c6
       go_wp2
       go_roundw
       case rel => exact ⟨k + 1, by go_num, by omega, HL2.out, trivial⟩
       case measure => simp [intOf]; omega
   · obtain rfl : n = k := by omega
     have HLL := hide (show longF L = false by
       have := HLG.out
       rwa [List.take_of_length_le (by have := HN.out; omega)] at this)
     obtain ⟨J, hJ⟩ : ∃ J, joinF L = J := ⟨_, rfl⟩
     rw [hJ] at HWR
     have hjs := HJ.out.1
     rw [hJ] at hjs
     have hzj := bs_size J
     obtain ⟨m, hm⟩ : ∃ m, J.length = m := ⟨_, rfl⟩
     rw [hm] at hzj hjs
     have HJM := hide (And.intro hJ hm)
     have hmi : (m : Int) ≤ 59400000 := by omega
     have hnn : ¬ (n : Int) < (n : Int) := by omega
     clear hJ hm
     by_cases c7 : 20 < n
     · have d7 : decide ((20 : Int) < (n : Int)) = true := by simp; omega
       have d7' : decide (20 < n) = true := by simp; omega
       have HE := hide (show absF cwd p = ([], 3) by rw [HR.out, if_neg (by rintro ⟨_, h, _⟩; have := HN.out; omega)])
       clear c7
       go_wp2_with fail
       refine HWR.out.mono ?_
       rintro e w' ⟨rfl, rfl⟩
       go_wp2
       go_ret2
       unfold AbsPost
       rw [HE.out]
       exact ⟨rfl, HB1.out⟩
     have d7 : decide ((20 : Int) < (n : Int)) = false := by simp; omega
     have d7' : decide (20 < n) = false := by simp; omega
     by_cases c8 : 200 < m
     · have d8 : decide ((200 : Int) < (m : Int)) = true := by simp; omega
       have d8' : decide (200 < m) = true := by simp; omega
       have HE := hide (show absF cwd p = ([], 3) by rw [HR.out, if_neg (by rintro ⟨_, _, h⟩; rw [HJM.out.1, HJM.out.2] at h; omega)])
       clear c7 c8
       go_wp2_with fail
       refine HWR.out.mono ?_
       rintro e w' ⟨rfl, rfl⟩
       go_wp2
       go_ret2
       unfold AbsPost
       rw [HE.out]
       exact ⟨rfl, HB1.out⟩
     have d8 : decide ((200 : Int) < (m : Int)) = false := by simp; omega
     have d8' : decide (200 < m) = false := by simp; omega
     have HE := hide (show absF cwd p = (J, 0) by rw [HR.out, if_pos ⟨HLL.out, by have := HN.out; omega, by rw [HJM.out.1, HJM.out.2]; omega⟩, HJM.out.1])
     clear c7 c8
     go_wp2_with fail
     refine HWR.out.mono ?_
     rintro e w' ⟨rfl, rfl⟩
     go_wp2
     go_ret2
     unfold AbsPost
     rw [HE.out]
     exact ⟨rfl, HB1.out⟩
end
section
open Go.RowKit Go.Deep Ln Pth
attribute [local go_sem] bt_eq
def dirF (p : T) : T := joinF (partsF [47] p).dropLast
def baseF (p : T) : T := ((partsF [47] p).getLast?).getD []
theorem slashed_le (cwd p : T) (k : Nat) : (slashed ((partsF cwd p).take k)).length ≤ cwd.length + p.length + 3 := by
 have h1 := (joinF_len cwd p).1
 have h2 := slashed_take_len (partsF cwd p) k
 unfold joinF at h1
 split at h1
 · rename_i h
   rw [h] at h2 ⊢
   simp [slashed] at h2 ⊢
 · omega
theorem rdir_any (p : T) (w : World) (h2 : p.length ≤ 100000) :
   Calls Tryz.prog 170 #[.string (bs p)] w fun e w' => e = .returned (.string (bs (dirF p))) ∧ Below w.heap.size w w' := by
 have HPA := hide (rparts_any [47] p w (by simp) (by omega))
 rw [show bs [47] = ⟨#[47]⟩ from rfl] at HPA
 have hpl := partsF_len [47] p
 have hsl := fun k => slashed_le [47] p k
 have hD : dirF p = joinF (partsF [47] p).dropLast := rfl
 obtain ⟨L, hL⟩ : ∃ L, partsF [47] p = L := ⟨_, rfl⟩
 rw [hL] at HPA hpl hD
 simp only [hL] at hsl
 have HD := hide hD
 have HSL := hide hsl
 clear hL hD hsl
 go_enter Tryz.func170, Tryz.ntmps170
 go_wp2_with fail
 refine HPA.out.mono ?_
 rintro e w1 ⟨⟨v, rfl, ho⟩, hb1⟩
 obtain ⟨A, c, rfl, hc, hsr, _⟩ := OwnS.slice ho
 have HA := hide hsr
 have HB1 := hide hb1
 rw [List.length_map] at hc ⊢
 have hpl2 : L.length ≤ 200000 := by simp at hpl; omega
 obtain ⟨n, hn⟩ : ∃ n, L.length = n := ⟨_, rfl⟩
 rw [hn] at hc hpl2 ⊢
 have HN := hide hn
 clear ho hb1 hsr hn hpl
 by_cases h0 : n = 0
 · subst h0
   have HE := hide (show dirF p = joinF L by rw [HD.out, List.eq_nil_of_length_eq_zero HN.out]; rfl)
   have hwr := rwrite_any A c L w1 HA.out (by have := HSL.out L.length; rw [List.take_length] at this; simp at this; omega) (by have := HN.out; omega)
   rw [HN.out] at hwr
   have HWR := hide hwr
   clear hwr
   go_wp2_with fail
   refine HWR.out.mono ?_
   rintro e w' ⟨rfl, rfl⟩
   go_wp2
   go_ret
   rw [HE.out]
   exact ⟨rfl, HB1.out⟩
 · obtain ⟨m, rfl⟩ : ∃ m, n = m + 1 := ⟨n - 1, by omega⟩
   have hmi : (m : Int) ≤ 200000 := by omega
   have hci : (m : Int) ≤ (c : Int) := by omega
   have hwr1 : IntKind.i64.wrap ((m : Int) + 1 - 1) = (m : Int) := by rw [show (m : Int) + 1 - 1 = (m : Int) by omega]; exact IntWalk.i64_in _ (by omega)
   have hwr2 : IntKind.i64.wrap (m : Int) = (m : Int) := IntWalk.i64_in _ (by omega)
   have hdl : L.dropLast = L.take m := by rw [List.dropLast_eq_take, HN.out]; rfl
   have hwr := rwrite_any A c L.dropLast w1 (by rw [hdl, List.map_take]; exact HA.out.take m) (by rw [hdl]; have := HSL.out m; simp at this; omega) (by rw [List.length_dropLast, HN.out]; omega)
   rw [show L.dropLast.length = m by rw [List.length_dropLast, HN.out]; rfl] at hwr
   have HWR := hide hwr
   have d0 : decide ((0 : Int) < (m : Int) + 1) = true := by simp <;> omega
   clear hwr hdl h0
   go_wp2_with fail
   refine HWR.out.mono ?_
   rintro e w' ⟨rfl, rfl⟩
   go_wp2
   go_ret
   rw [HD.out]
   exact ⟨rfl, HB1.out⟩
theorem rbase_any (p : T) (w : World) (h2 : p.length ≤ 100000) :
   Calls Tryz.prog 172 #[.string (bs p)] w fun e w' => e = .returned (.string (bs (baseF p))) ∧ Below w.heap.size w w' := by
 have HPA := hide (rparts_any [47] p w (by simp) (by omega))
 rw [show bs [47] = ⟨#[47]⟩ from rfl] at HPA
 have hpl := partsF_len [47] p
 have hD : baseF p = ((partsF [47] p).getLast?).getD [] := rfl
 obtain ⟨L, hL⟩ : ∃ L, partsF [47] p = L := ⟨_, rfl⟩
 rw [hL] at HPA hpl hD
 have HD := hide hD
 clear hL hD
 go_enter Tryz.func172, Tryz.ntmps172
 go_wp2_with fail
 refine HPA.out.mono ?_
 rintro e w1 ⟨⟨v, rfl, ho⟩, hb1⟩
 obtain ⟨A, c, rfl, hc, hsr, _⟩ := OwnS.slice ho
 have HA := hide hsr
 have HB1 := hide hb1
 rw [List.length_map] at hc ⊢
 have hpl2 : L.length ≤ 200000 := by simp at hpl; omega
 obtain ⟨n, hn⟩ : ∃ n, L.length = n := ⟨_, rfl⟩
 rw [hn] at hc hpl2 ⊢
 have HN := hide hn
 clear ho hb1 hsr hn hpl
 by_cases h0 : n = 0
 · subst h0
   have HE := hide (show bs (baseF p) = ⟨#[]⟩ by rw [HD.out, List.eq_nil_of_length_eq_zero HN.out]; rfl)
   go_wp2
   go_ret
   rw [HE.out]
   exact ⟨rfl, HB1.out⟩
 · obtain ⟨m, rfl⟩ : ∃ m, n = m + 1 := ⟨n - 1, by omega⟩
   have hmi : (m : Int) ≤ 200000 := by omega
   have hwr1 : IntKind.i64.wrap ((m : Int) + 1 - 1) = (m : Int) := by rw [show (m : Int) + 1 - 1 = (m : Int) by omega]; exact IntWalk.i64_in _ (by omega)
   have hwr2 : IntKind.i64.wrap (m : Int) = (m : Int) := IntWalk.i64_in _ (by omega)
   obtain ⟨x, hx⟩ : ∃ x, L[m]? = some x := ⟨L[m]'(by have := HN.out; omega), gE _⟩
   obtain ⟨g, o, rfl, hg, hcx⟩ := HA.out m (bs x) (by simp [hx])
   have HE := hide (show baseF p = x by rw [HD.out, List.getLast?_eq_getElem?, HN.out]; simp [hx])
   have d0 : (((m : Int) + 1) == 0) = false := by simp <;> omega
   have hidx0 : (0 : Int) ≤ (m : Int) := by omega
   have hidx1 : (m : Int) < (m : Int) + 1 := by omega
   clear hx h0
   go_wp2
   go_ret
   rw [HE.out]
   exact ⟨rfl, HB1.out⟩
theorem map_bs_inj {a b : List T} : a.map bs = b.map bs ↔ a = b := by
 constructor
 · intro h
   have := congrArg (List.map (fun s : ByteArray => s.data.toList)) h
   simpa [List.map_map, Function.comp_def, bs_list] using this
 · rintro rfl; rfl
theorem rwithin_any (p q : T) (w : World) (h1 : p.length ≤ 90000) (h2 : q.length ≤ 90000) :
   Calls Tryz.prog 120 #[.string (bs p), .string (bs q)] w fun e w' => e = .returned (.bool (withinF p q)) ∧ Below w.heap.size w w' := by
 have HPA := hide (rparts_any [47] p w (by simp) (by omega))
 have HQA := hide (fun W => rparts_any [47] q W (by simp) (by omega))
 rw [show bs [47] = ⟨#[47]⟩ from rfl] at HPA HQA
 have hpl := partsF_len [47] p
 have hql := partsF_len [47] q
 have hD : withinF p q = decide ((partsF [47] q).take (partsF [47] p).length = partsF [47] p) := rfl
 obtain ⟨L, hL⟩ : ∃ L, partsF [47] p = L := ⟨_, rfl⟩
 obtain ⟨M, hM⟩ : ∃ L, partsF [47] q = L := ⟨_, rfl⟩
 rw [hL] at HPA hpl hD
 rw [hM] at HQA hql hD
 have HD := hide hD
 clear hL hM hD
 go_enter Tryz.func120, Tryz.ntmps120
 go_wp2_with fail
 refine HPA.out.mono ?_
 rintro e w1 ⟨⟨v, rfl, ho⟩, hb1⟩
 obtain ⟨A, c, rfl, hc, hsr, _⟩ := OwnS.slice ho
 have HA := hide hsr
 have HB1 := hide hb1
 clear ho hb1 hsr
 go_wp2_with fail
 refine (HQA.out w1).mono ?_
 rintro e w2 ⟨⟨v, rfl, ho⟩, hb2⟩
 obtain ⟨B, d, rfl, hd, hsr, _⟩ := OwnS.slice ho
 have HA2 := hide (HA.out.below hb2)
 have HB2 := hide (below_up HB1.out hb2 HB1.out.size)
 have HM2 := hide hsr
 clear ho hb2 hsr
 rw [List.length_map] at hc hd ⊢
 (try rw [List.length_map])
 have hpl2 : L.length ≤ 100000 := by simp at hpl; omega
 have hql2 : M.length ≤ 100000 := by simp at hql; omega
 obtain ⟨n, hn⟩ : ∃ n, L.length = n := ⟨_, rfl⟩
 obtain ⟨m, hm⟩ : ∃ n, M.length = n := ⟨_, rfl⟩
 have HN := hide hn
 have HMM := hide hm
 rw [hn] at hc hpl2 ⊢
 rw [hm] at hd hql2 ⊢
 clear hn hm hpl hql
 by_cases h0 : n ≤ m
 · have d0 : decide ((n : Int) ≤ (m : Int)) = true := by simp; omega
   have d0' : decide (n ≤ m) = true := by simp; omega
   have hni : (n : Int) ≤ (d : Int) := by omega
   have hni2 : (n : Int) ≤ 100000 := by omega
   have hnn : (0 : Int) ≤ (n : Int) := by omega
   have hwr2 : IntKind.i64.wrap (n : Int) = (n : Int) := IntWalk.i64_in _ (by omega)
   have hsm := same_any A B c d (L.map bs) ((M.take n).map bs) w2 HA2.out (by rw [List.map_take]; exact HM2.out.take n) (by rw [List.length_map, HN.out]; exact hpl2)
   rw [show ((M.take n).map bs).length = n by rw [List.length_map, List.length_take, HMM.out]; omega, show (L.map bs).length = n by rw [List.length_map, HN.out], show decide (L.map bs = (M.take n).map bs) = withinF p q by
     rw [HD.out, HN.out]
     exact decide_eq_decide.2 (map_bs_inj.trans eq_comm)] at hsm
   have HSM := hide hsm
   clear hsm h0
   go_wp2_with fail
   refine HSM.out.mono ?_
   rintro e w3 ⟨rfl, hdr⟩
   have HB3 := hide (show Below w.heap.size w w3 by
     obtain ⟨nd, rfl⟩ := hdr
     exact below_drewN HB2.out nd)
   clear hdr
   go_wp2
   go_ret
   exact ⟨rfl, HB3.out⟩
 · have d0 : decide ((n : Int) ≤ (m : Int)) = false := by simp; omega
   have d0' : decide (n ≤ m) = false := by simp; omega
   have HE := hide (show withinF p q = false by
     rw [HD.out, decide_eq_false]
     intro h
     have := congrArg List.length h
     rw [List.length_take, HN.out, HMM.out] at this
     omega)
   clear h0
   go_wp2
   go_ret
   rw [HE.out]
   exact ⟨rfl, HB2.out⟩
end
section
open Go.RowKit Go.Deep Go.Maps Ln Pth Vf
attribute [local go_sem] bt_eq
abbrev NV := ByteArray × En
def encE (x : NV) : List Value := [.string x.1, .bool x.2.nd.dir, .slice x.2.A x.2.nd.data.length x.2.c, .int .i64 x.2.nd.time]
theorem encE_len (x : NV) : (encE x).length = 4 := rfl
theorem encE_one (x : NV) : ∀ u ∈ encE x, u.oneCell' = true := by
 intro u hu
 simp only [encE, List.mem_cons, List.not_mem_nil, or_false] at hu
 rcases hu with rfl | rfl | rfl | rfl <;> rfl
structure ER (N : Nat → Prop) (w : World) (A : Option Addr) (P : List NV) : Prop where
 rg : RG encE 4 w A P
 blk : ∀ a, A = some a → P ≠ [] → N a.block
 dat : ∀ x ∈ P, RG encB 1 w x.2.A x.2.nd.data ∧ ∀ a, x.2.A = some a → x.2.nd.data ≠ [] → N a.block
 lt : ∀ x ∈ P, x.2.nd.data.length ≤ x.2.c
 top : ∀ a, A = some a → ∃ g o, a = ⟨g, o, none⟩
def RS (g : Nat) (S : St) : AsnN := fun T N w => T g ∧ ∃ (A : Option Addr) (c : Nat) (P : List NV),
 w.heap[g]? = some (.cells #[.int .i64 S.nodes, .int .i64 S.bytes, .slice A P.length c, .int .i64 S.clock] 72) ∧ P.length ≤ c ∧ ER N w A P ∧ S.m = stripN P
theorem RG.ofB {α : Type} {enc : α → List Value} {n : Nat} {w w' : World} {A : Option Addr} {L : List α} (h : RG enc n w A L) (hs : w.heap.size ≤ w'.heap.size) (hb : ∀ a, A = some a → L ≠ [] → w'.heap[a.block]? = w.heap[a.block]?) : RG enc n w' A L := fun k x hk => by
 obtain ⟨g, o, e, hg, h1⟩ := h k x hk
 have hbk := hb _ e (by rintro rfl; simp at hk)
 exact ⟨g, o, e, Nat.lt_of_lt_of_le hg hs, fun j v hj => (World.cell?_of_block (a := ⟨g, o + k * n + j, none⟩) hbk).trans (h1 j v hj)⟩
theorem ER.of {N N' : Nat → Prop} {w w' : World} {A : Option Addr} {P : List NV} (h : ER N w A P) (hs : w.heap.size ≤ w'.heap.size) (hb : ∀ k, N k → w'.heap[k]? = w.heap[k]?) (hn : ∀ k, N k → N' k) : ER N' w' A P :=
 ⟨h.rg.ofB hs (fun a e h1 => hb _ (h.blk a e h1)), fun a e h1 => hn _ (h.blk a e h1), fun x hx => ⟨(h.dat x hx).1.ofB hs (fun a e h1 => hb _ ((h.dat x hx).2 a e h1)), fun a e h1 => hn _ ((h.dat x hx).2 a e h1)⟩, h.lt, h.top⟩
theorem RS.fr (g : Nat) (S : St) : FrN (RS g S) := by
 rintro T N N' w w' ⟨h1, A, c, P, h2, h3, h4, h5⟩ hb hn hs
 exact ⟨h1, A, c, P, (hb g (.inl h1)).trans h2, h3, h4.of hs (fun k hk => hb k (.inr hk)) hn, h5⟩
structure RSO (g : Nat) (S : St) (A : Option Addr) (c : Nat) (P : List NV) (w : World) : Prop where
 heap : w.heap[g]? = some (.cells #[.int .i64 S.nodes, .int .i64 S.bytes, .slice A P.length c, .int .i64 S.clock] 72)
 cap : P.length ≤ c
 rg : RG encE 4 w A P
 dat : ∀ x ∈ P, RG encB 1 w x.2.A x.2.nd.data
 eq : S.m = stripN P
 top : ∀ a, A = some a → ∃ g o, a = ⟨g, o, none⟩
 neA : ∀ a, A = some a → P ≠ [] → a.block ≠ g
 neD : ∀ x ∈ P, ∀ a, x.2.A = some a → x.2.nd.data ≠ [] → a.block ≠ g
 lt : ∀ x ∈ P, x.2.nd.data.length ≤ x.2.c
theorem RSO.below {g : Nat} {S : St} {A : Option Addr} {c : Nat} {P : List NV} {w w' : World} (h : RSO g S A c P w) (hb : Below w.heap.size w w') : RSO g S A c P w' :=
 ⟨(hb.block g (Array.getElem?_eq_some_iff.1 h.heap).1).trans h.heap, h.cap, h.rg.below hb, fun x hx => (h.dat x hx).below hb, h.eq, h.top, h.neA, h.neD, h.lt⟩
theorem RS.o {g : Nat} {S : St} {w : World} (h : Hs (RS g S) w) : ∃ A c P, RSO g S A c P w := by
 obtain ⟨T, N, ⟨h1, A, c, P, h2, h3, h4, h5⟩, ok⟩ := h
 exact ⟨A, c, P, h2, h3, h4.rg, fun x hx => (h4.dat x hx).1, h5, h4.top, fun a e hn he => (ok.1 g h1).2 (he ▸ h4.blk a e hn), fun x hx a e hn he => (ok.1 g h1).2 (he ▸ (h4.dat x hx).2 a e hn), h4.lt⟩
def atN (P : List NV) (s : ByteArray) : Int := match P.findIdx? (fun x => decide (x.1 = s)) with
 | none => -1
 | some k => (k : Int)
theorem findIdx_take {α : Type} {p : α → Bool} : ∀ {P : List α} {k : Nat} {x : α}, P[k]? = some x → (∀ y ∈ P.take k, p y = false) → p x = true → P.findIdx? p = some k
 | [], k, x, h, _, _ => by simp at h
 | y :: P, 0, x, h, _, hp => by
   simp at h
   subst h
   simp [List.findIdx?_cons, hp]
 | y :: P, k + 1, x, h, hn, hp => by
   have h1 := hn y (by simp)
   have ih := findIdx_take (P := P) (k := k) (x := x) (by simpa using h) (fun z hz => hn z (by simp [hz])) hp
   simp [List.findIdx?_cons, h1, ih]
theorem findIdx_none {α : Type} {p : α → Bool} {P : List α} (h : ∀ y ∈ P, p y = false) : P.findIdx? p = none := by
 rw [List.findIdx?_eq_none_iff]
 exact h
theorem atN_at {P : List NV} {s : ByteArray} {k : Nat} {x : NV} (h : P[k]? = some x) (hn : ∀ y ∈ P.take k, y.1 ≠ s) (hx : x.1 = s) : atN P s = (k : Int) := by
 unfold atN
 rw [findIdx_take h (fun y hy => by simpa using hn y hy) (by simpa using hx)]
theorem atN_no {P : List NV} {s : ByteArray} (h : ∀ y ∈ P, y.1 ≠ s) : atN P s = -1 := by
 unfold atN
 rw [findIdx_none (fun y hy => by simpa using h y hy)]
theorem atN_cases (P : List NV) (s : ByteArray) : (atN P s = -1 ∧ getG (stripN P) s = none) ∨ ∃ (k : Nat) (x : NV), atN P s = (k : Int) ∧ P[k]? = some x ∧ x.1 = s ∧ getG (stripN P) s = some x.2.nd := by
 have hg : getG (stripN P) s = (P.find? fun x => decide (x.1 = s)).map fun x => x.2.nd := by
   rw [strip_get]
   unfold getG
   cases P.find? fun x => decide (x.1 = s) <;> rfl
 by_cases h : ∃ y ∈ P, y.1 = s
 · obtain ⟨y, hy, he⟩ := h
   cases hf : P.find? (fun x => decide (x.1 = s)) with
   | none => exact absurd (List.find?_eq_none.1 hf y hy) (by simp [he])
   | some z =>
     obtain ⟨hz, ys, zs, e, hn⟩ := List.find?_eq_some_iff_append.1 hf
     refine .inr ⟨ys.length, z, ?_, by rw [e]; simp, by simpa using hz, by rw [hg, hf]; rfl⟩
     exact atN_at (x := z) (by rw [e]; simp) (fun y hy => by rw [e, List.take_left'  rfl] at hy; simpa using hn y hy) (by simpa using hz)
 · have hn : ∀ y ∈ P, y.1 ≠ s := fun y hy e => h ⟨y, hy, e⟩
   refine .inl ⟨atN_no hn, ?_⟩
   rw [hg, List.find?_eq_none.2 (fun y hy => by simpa using hn y hy)]
   rfl
theorem rat4_any (g : Nat) (S : St) (A : Option Addr) (c : Nat) (P : List NV) (s : ByteArray) (w : World) (h : RSO g S A c P w) (hl : P.length ≤ 1000000) :
   Calls Tryz.prog 113 #[.pointer (some ⟨g, 0, none⟩), .string s] w fun e w' => e = .returned (.int .i64 (atN P s)) ∧ w = w' := by
 have HR := hide h.rg
 have hg := h.heap
 obtain ⟨n, hn⟩ : ∃ n, P.length = n := ⟨_, rfl⟩
 rw [hn] at hg hl
 have HN := hide hn
 have hc2 := cellOf hg (j := 2) (v := .slice A n c) rfl
 have hni : (n : Int) ≤ 1000000 := by omega
 clear h hg hn
 go_enter Tryz.func113, Tryz.ntmps113
 go_wp2
 go_loopw [5] (fun v5 wr => ∃ k : Nat, v5 = .int .i64 k ∧ k ≤ n ∧ Hid (∀ y ∈ P.take k, y.1 ≠ s) ∧ w = wr) (fun v5 _ => n - (intOf v5).toNat)
 case atStart => exact ⟨0, rfl, by omega, (by intro y hy; simp at hy), rfl⟩
 case round =>
   obtain ⟨k, rfl, hk, HNO, rfl⟩ := hrel
   by_cases hlt : k < n
   · obtain ⟨x, hx⟩ : ∃ x, P[k]? = some x := ⟨P[k]'(by have := HN.out; omega), gE _⟩
     obtain ⟨gs, o, rfl, hgs, hc⟩ := HR.out k x hx
     have hc0 : w.cell? ⟨gs, o + k * 4, none⟩ = some (.string x.1) := by have := hc 0 _ rfl; simpa using this
     have b1 : (k : Int) < (n : Int) := by omega
     have HX := hide hx
     obtain ⟨xs, hxs⟩ : ∃ t, x.1 = t := ⟨_, rfl⟩
     rw [hxs] at hc0
     have HXS := hide hxs
     clear hc hx hxs
     by_cases he : xs = s
     · have e1 : (xs.toList == s.toList) = true := by rw [he]; simp
       have HE := hide (atN_at HX.out HNO.out (HXS.out.trans he))
       clear he
       go_wp2
       go_ret
       rw [HE.out]
       exact ⟨rfl, rfl⟩
     · have e1 : (xs.toList == s.toList) = false := by
         rw [ByteArray.toList_eq, ByteArray.toList_eq]
         simp only [beq_eq_false_iff_ne]
         exact fun h => he (ByteArray.ext (Array.ext' h))
       have HN2 := hide (show ∀ y ∈ P.take (k + 1), y.1 ≠ s from fun y hy => by
         rw [List.take_add_one, HX.out] at hy
         rcases List.mem_append.1 hy with hy | hy
         · exact HNO.out y hy
         · simp at hy
           rw [hy, HXS.out]; exact he)
       clear he
       go_wp2
       go_roundw
       case rel => exact ⟨k + 1, by go_num, by omega, HN2.out, trivial⟩
       case measure => simp [intOf]; omega
   · obtain rfl : n = k := by omega
     have HE := hide (show atN P s = -1 from atN_no (by
       have := HNO.out
       rwa [List.take_of_length_le (by have := HN.out; omega)] at this))
     go_wp2
     go_ret
     rw [HE.out]
     exact ⟨rfl, rfl⟩
theorem way_take {m : Mp} {l : List T} (h : ∀ s ∈ l, 47 ∉ s) (hne : l ≠ []) : wayM m (joinF l) = wayL m (l.take 1) (l.drop 1) := by
 rw [way_join m h]
 cases l with
 | nil => exact absurd rfl hne
 | cons s r => rfl
theorem rkind_any (g : Nat) (S : St) (A : Option Addr) (c : Nat) (P : List NV) (q : T) (w : World) (h : RSO g S A c P w) (hl : P.length ≤ 1000000) :
   Calls Tryz.prog 112 #[.pointer (some ⟨g, 0, none⟩), .string (bs q)] w fun e w' => e = .returned (.int .i64 (kindM S.m q)) ∧ w = w' := by
 have HAT := hide (rat4_any g S A c P (bs q) w h hl)
 have hk : kindM S.m q = if q = [47] then 2 else match getG S.m (bs q) with
   | none => 0
   | some n => if n.dir = true then 2 else 1 := rfl
 have hcs := atN_cases P (bs q)
 rw [← h.eq] at hcs
 have hrg := h.rg
 have hg := h.heap
 obtain ⟨n, hn⟩ : ∃ n, P.length = n := ⟨_, rfl⟩
 rw [hn] at hg
 have hc2 := cellOf hg (j := 2) (v := .slice A n c) rfl
 by_cases hq : q = [47]
 · have e1 : ((bs q).toList == [47]) = true := by rw [bs_toList, hq]; rfl
   have HE := hide (hk.trans (if_pos hq))
   clear h hk hcs hrg hg hn hq
   go_enter Tryz.func112, Tryz.ntmps112
   go_wp2
   go_ret
   rw [HE.out]
   exact ⟨rfl, rfl⟩
 have e1 : ((bs q).toList == [47]) = false := by rw [bs_toList]; simpa using hq
 rw [if_neg hq] at hk
 rcases hcs with ⟨ha, hgt⟩ | ⟨k, x, ha, hx, hxq, hgt⟩
 · rw [hgt] at hk
   rw [ha] at HAT
   have HE := hide hk
   clear h hk hrg hg hn hq ha hgt
   go_enter Tryz.func112, Tryz.ntmps112
   go_wp2_with fail
   refine HAT.out.mono ?_
   rintro e w' ⟨rfl, rfl⟩
   go_wp2
   go_ret
   rw [HE.out]
   exact ⟨rfl, rfl⟩
 · rw [hgt] at hk
   dsimp only at hk
   rw [ha] at HAT
   obtain ⟨gs, o, rfl, hgs, hc⟩ := hrg k x hx
   have hc1 : w.cell? ⟨gs, o + k * 4 + 1, none⟩ = some (.bool x.2.nd.dir) := hc 1 _ rfl
   have hkn : k < n := by rw [← hn]; exact (List.getElem?_eq_some_iff.1 hx).1
   have hki : (k : Int) < (n : Int) := by omega
   have hk0 : (0 : Int) ≤ (k : Int) := by omega
   have d0 : decide ((k : Int) < 0) = false := by simp
   obtain ⟨b, hb⟩ : ∃ b, x.2.nd.dir = b := ⟨_, rfl⟩
   rw [hb] at hc1 hk
   clear h hrg hg hn hq ha hgt hx hxq hc hb hgs
   cases b with
   | true =>
     have HE := hide (hk.trans (if_pos rfl))
     clear hk
     go_enter Tryz.func112, Tryz.ntmps112
     go_wp2_with fail
     refine HAT.out.mono ?_
     rintro e w' ⟨rfl, rfl⟩
     go_wp2
     go_ret
     rw [HE.out]
     exact ⟨rfl, rfl⟩
   | false =>
     have HE := hide (hk.trans (if_neg (by simp)))
     clear hk
     go_enter Tryz.func112, Tryz.ntmps112
     go_wp2_with fail
     refine HAT.out.mono ?_
     rintro e w' ⟨rfl, rfl⟩
     go_wp2
     go_ret
     rw [HE.out]
     exact ⟨rfl, rfl⟩
theorem wayL_zero {m : Mp} {pre r : List T} {s : T} (h : kindM m (joinF pre) = 0) : wayL m pre (s :: r) = 6 := by rw [wayL, if_pos h]
theorem wayL_one {m : Mp} {pre r : List T} {s : T} (h : kindM m (joinF pre) = 1) : wayL m pre (s :: r) = 11 := by rw [wayL, if_neg (by omega), if_pos h]
theorem wayL_two {m : Mp} {pre r : List T} {s : T} (h0 : kindM m (joinF pre) ≠ 0) (h1 : kindM m (joinF pre) ≠ 1) : wayL m pre (s :: r) = wayL m (pre ++ [s]) r := by rw [wayL, if_neg h0, if_neg h1]
theorem rway_any (g : Nat) (S : St) (A : Option Addr) (c : Nat) (P : List NV) (l : List T) (w : World) (h : RSO g S A c P w) (hl : P.length ≤ 1000000) (hok : ∀ s ∈ l, okN s) (hlen : (joinF l).length ≤ 1000) :
   Calls Tryz.prog 119 #[.pointer (some ⟨g, 0, none⟩), .string (bs (joinF l))] w fun e w' => e = .returned (.int .i64 (wayM S.m (joinF l))) ∧ Below w.heap.size w w' := by
 have HPA := hide (rparts_any [47] (joinF l) w (by simp) (by omega))
 rw [show bs [47] = ⟨#[47]⟩ from rfl, parts_join hok] at HPA
 have HK := hide (fun (q : T) (W : World) (hb : Below w.heap.size w W) => rkind_any g S A c P q W (h.below hb) hl)
 have h47 : ∀ s ∈ l, 47 ∉ s := fun s hs => (hok s hs).2.2.2
 have hsl : (slashed l).length ≤ 1000 := by
   unfold joinF at hlen
   split at hlen
   · rename_i e; rw [e]; simp [slashed]
   · exact hlen
 have hll : l.length ≤ 1000 := by
   have : l.length ≤ (slashed l).length := by
     rw [slashed_len]
     clear hsl HPA hlen h47 hok
     induction l with
     | nil => simp
     | cons s l ih => simp only [List.length_cons, List.map_cons, List.sum_cons]; omega
   omega
 have HW := hide (show l ≠ [] → wayM S.m (joinF l) = wayL S.m (l.take 1) (l.drop 1) from way_take h47)
 have HW0 := hide (show l = [] → wayM S.m (joinF l) = 0 from by rintro rfl; rfl)
 have HSL := hide hsl
 obtain ⟨R, hR⟩ : ∃ R, wayM S.m (joinF l) = R := ⟨_, rfl⟩
 rw [hR] at HW HW0 ⊢
 obtain ⟨J, hJ⟩ : ∃ J, bs (joinF l) = J := ⟨_, rfl⟩
 rw [hJ] at HPA ⊢
 clear h hok h47 hlen hsl hR hJ
 go_enter Tryz.func119, Tryz.ntmps119
 go_wp2_with fail
 refine HPA.out.mono ?_
 rintro e w1 ⟨⟨v, rfl, ho⟩, hb1⟩
 obtain ⟨B, d, rfl, hd, hsr, _⟩ := OwnS.slice ho
 have HA := hide hsr
 have HB1 := hide hb1
 rw [List.length_map] at hd ⊢
 obtain ⟨n, hn⟩ : ∃ n, l.length = n := ⟨_, rfl⟩
 rw [hn] at hd hll ⊢
 have HN := hide hn
 have hni : (n : Int) ≤ 1000 := by omega
 clear ho hb1 hsr hn
 go_wp2_with fail
 go_loopw [6] (fun v6 wr => ∃ k : Nat, v6 = .int .i64 k ∧ 1 ≤ k ∧ Hid (k ≤ n → wayL S.m (l.take k) (l.drop k) = R) ∧ (k ≤ n ∨ (n = 0 ∧ k = 1)) ∧ w1 = wr) (fun v6 _ => n - (intOf v6).toNat)
 case atStart =>
   refine ⟨1, rfl, Nat.le_refl _, (fun h => (HW.out (by rintro rfl; have := HN.out; simp at this; omega)).symm), ?_, rfl⟩
   by_cases h : n = 0
   · exact .inr ⟨h, rfl⟩
   · exact .inl (by omega)
 case round =>
   obtain ⟨k, rfl, hk1, HWL, hkn, rfl⟩ := hrel
   by_cases hlt : k < n
   · have b1 : (k : Int) < (n : Int) := by omega
     have hkd : (k : Int) ≤ (d : Int) := by omega
     have hk0 : (0 : Int) ≤ (k : Int) := by omega
     have hwk : IntKind.i64.wrap (k : Int) = (k : Int) := IntWalk.i64_in _ (by omega)
     obtain ⟨x, hx⟩ : ∃ x, l[k]? = some x := ⟨l[k]'(by have := HN.out; omega), gE _⟩
     have hdr : l.drop k = x :: l.drop (k + 1) := by
       obtain ⟨h1, h2⟩ := List.getElem?_eq_some_iff.1 hx
       rw [List.drop_eq_getElem_cons h1, h2]
     have htk : l.take (k + 1) = l.take k ++ [x] := by rw [List.take_add_one, hx]; rfl
     have hwl := HWL.out (by omega)
     rw [hdr] at hwl
     have hwr := rwrite_any B d (l.take k) w1 (by rw [List.map_take]; exact HA.out.take k) (by have := slashed_take_len l k; have := HSL.out; omega) (by rw [List.length_take]; omega)
     rw [show (l.take k).length = k by rw [List.length_take, HN.out]; omega] at hwr
     have hkq := HK.out (joinF (l.take k)) w1 HB1.out
     obtain ⟨J2, hJ2⟩ : ∃ J, bs (joinF (l.take k)) = J := ⟨_, rfl⟩
     rw [hJ2] at hwr hkq
     obtain ⟨y, hy⟩ : ∃ y, kindM S.m (joinF (l.take k)) = y := ⟨_, rfl⟩
     rw [hy] at hkq
     have HWR := hide hwr
     have HKQ := hide hkq
     have HWX := hide hwl
     have HTK := hide htk
     have HY := hide hy
     clear hx hdr htk hwl hwr hkq hJ2 hy
     by_cases y0 : y = 0
     · subst y0
       have HE := hide (show R = 6 by rw [← HWX.out]; exact wayL_zero HY.out)
       go_wp2_with fail
       refine HWR.out.mono ?_
       rintro e w' ⟨rfl, rfl⟩
       go_wp2_with fail
       refine HKQ.out.mono ?_
       rintro e w' ⟨rfl, rfl⟩
       go_wp2
       go_ret
       rw [HE.out]
       exact ⟨rfl, HB1.out⟩
     by_cases y1 : y = 1
     · subst y1
       have HE := hide (show R = 11 by rw [← HWX.out]; exact wayL_one HY.out)
       clear y0
       go_wp2_with fail
       refine HWR.out.mono ?_
       rintro e w' ⟨rfl, rfl⟩
       go_wp2_with fail
       refine HKQ.out.mono ?_
       rintro e w' ⟨rfl, rfl⟩
       go_wp2
       go_ret
       rw [HE.out]
       exact ⟨rfl, HB1.out⟩
     have HNX := hide (show wayL S.m (l.take (k + 1)) (l.drop (k + 1)) = R by rw [← HWX.out, HTK.out]; exact (wayL_two (by rw [HY.out]; exact y0) (by rw [HY.out]; exact y1)).symm)
     have t0 : ((y : Int) == 0) = false := by simp; omega
     have t1 : ((y : Int) == 1) = false := by simp; omega
     clear y0 y1
     go_wp2_with fail
     refine HWR.out.mono ?_
     rintro e w' ⟨rfl, rfl⟩
     go_wp2_with fail
     refine HKQ.out.mono ?_
     rintro e w' ⟨rfl, rfl⟩
     go_wp2
     go_roundw
     case rel => exact ⟨k + 1, by go_num, by omega, (fun _ => HNX.out), .inl (by omega), trivial⟩
     case measure => simp [intOf]; omega
   · have b1 : ¬ (k : Int) < (n : Int) := by omega
     have HE := hide (show R = 0 by
       rcases hkn with h | ⟨h, _⟩
       · rw [← HWL.out h, List.drop_of_length_le (by have := HN.out; omega)]
         rfl
       · exact HW0.out (List.eq_nil_of_length_eq_zero (by have := HN.out; omega)))
     clear hkn
     go_wp2
     go_ret
     rw [HE.out]
     exact ⟨rfl, HB1.out⟩
end
section
open Go.RowKit Go.Deep Go.Maps Ln Pth Vf
attribute [local go_sem] bt_eq
def findR (S : St) (p : T) : T × Nat := if (absF [47] p).2 ≠ 0 then ([], (absF [47] p).2) else ((absF [47] p).1, wayM S.m (absF [47] p).1)
theorem rfind_any (g : Nat) (S : St) (A : Option Addr) (c : Nat) (P : List NV) (p : T) (w : World) (h : RSO g S A c P w) (hl : P.length ≤ 1000000) (hp : p.length ≤ 100000) :
   Calls Tryz.prog 111 #[.pointer (some ⟨g, 0, none⟩), .string (bs p)] w fun e w' => e = .returned (.tuple #[.string (bs (findR S p).1), .int .i64 (findR S p).2]) ∧ Below w.heap.size w w' := by
 have HA := hide (rabs_any [47] p w (by simp) (by omega))
 rw [show bs [47] = ⟨#[47]⟩ from rfl] at HA
 have hR : findR S p = if (absF [47] p).2 ≠ 0 then ([], (absF [47] p).2) else ((absF [47] p).1, wayM S.m (absF [47] p).1) := rfl
 have hW : (absF [47] p).2 = 0 → ∀ W, Below w.heap.size w W → Calls Tryz.prog 119 #[.pointer (some ⟨g, 0, none⟩), .string (bs (absF [47] p).1)] W fun e w' => e = .returned (.int .i64 (wayM S.m (absF [47] p).1)) ∧ Below W.heap.size W w' := fun h0 W hb => by
   rcases absF_cases [47] p with ⟨l, gd, e, _⟩ | ⟨_, e⟩
   · rw [e]
     exact rway_any g S A c P l W (h.below hb) hl gd.ok (by have := gd.len; omega)
   · exact absurd h0 (by omega)
 unfold AbsPost at HA
 obtain ⟨q, hq⟩ : ∃ q, (absF [47] p).1 = q := ⟨_, rfl⟩
 obtain ⟨e, he⟩ : ∃ q, (absF [47] p).2 = q := ⟨_, rfl⟩
 rw [hq, he] at HA hR hW
 have HR := hide hR
 have HW := hide hW
 clear hR hW h hq he
 by_cases c1 : e = 0
 · subst c1
   have HE := hide (HR.out.trans (if_neg (by simp)))
   have HW2 := hide (HW.out rfl)
   obtain ⟨y, hy⟩ : ∃ y, wayM S.m q = y := ⟨_, rfl⟩
   rw [hy] at HW2 HE
   clear hy HR HW
   go_enter Tryz.func111, Tryz.ntmps111
   go_wp2_with fail
   refine HA.out.mono ?_
   rintro e w1 ⟨rfl, hb⟩
   have HB := hide hb
   clear hb
   go_wp2_with fail
   refine (HW2.out w1 HB.out).mono ?_
   rintro e w2 ⟨rfl, hb⟩
   have HB2 := hide (below_up HB.out hb HB.out.size)
   clear hb
   go_wp2
   go_ret2
   rw [HE.out]
   exact ⟨rfl, HB2.out⟩
 · obtain ⟨t1, t2⟩ := ne0 c1
   have HE := hide (HR.out.trans (if_pos c1))
   clear c1
   go_enter Tryz.func111, Tryz.ntmps111
   go_wp2_with fail
   refine HA.out.mono ?_
   rintro e w1 ⟨rfl, hb⟩
   have HB := hide hb
   clear hb
   go_wp2
   go_ret2
   rw [HE.out]
   exact ⟨rfl, HB.out⟩
theorem findR_abs (S : St) (p : T) : (findR S p).2 = (absS S p).2 ∧ ((absS S p).2 = 0 → (findR S p).1 = (absS S p).1) := by
 unfold findR absS
 by_cases h : (absF [47] p).2 = 0
 · rw [if_neg (by simp [h]), if_neg (by simp [h])]
   by_cases h2 : wayM S.m (absF [47] p).1 = 0
   · rw [if_neg (by simp [h2])]
     exact ⟨h2, fun _ => rfl⟩
   · rw [if_pos h2]
     exact ⟨rfl, fun h => absurd h h2⟩
 · rw [if_pos h, if_pos h]
   exact ⟨rfl, fun _ => rfl⟩
theorem rfind_abs (g : Nat) (S : St) (A : Option Addr) (c : Nat) (P : List NV) (p : T) (w : World) (h : RSO g S A c P w) (hl : P.length ≤ 1000000) (hp : p.length ≤ 100000) :
   Calls Tryz.prog 111 #[.pointer (some ⟨g, 0, none⟩), .string (bs p)] w fun e w' => ∃ q, e = .returned (.tuple #[.string (bs q), .int .i64 (absS S p).2]) ∧ ((absS S p).2 = 0 → q = (absS S p).1) ∧ q.length ≤ 200 ∧ Below w.heap.size w w' := by
 refine (rfind_any g S A c P p w h hl hp).mono ?_
 rintro e w' ⟨rfl, hb⟩
 refine ⟨(findR S p).1, by rw [(findR_abs S p).1], (findR_abs S p).2, ?_, hb⟩
 unfold findR
 split
 · simp
 · rcases absF_cases [47] p with ⟨l, gd, e, _⟩ | ⟨e, _⟩
   · rw [e]; exact gd.len
   · rw [e]; simp
theorem rKind_any (g : Nat) (S : St) (A : Option Addr) (c : Nat) (P : List NV) (p : T) (w : World) (h : RSO g S A c P w) (hl : P.length ≤ 1000000) (hp : p.length ≤ 100000) :
   Calls Tryz.prog 127 #[.pointer (some ⟨g, 0, none⟩), .string (bs p)] w fun e w' => e = .returned (.int .i64 (kindS S p)) ∧ Below w.heap.size w w' := by
 have HA := hide (rabs_any [47] p w (by simp) (by omega))
 rw [show bs [47] = ⟨#[47]⟩ from rfl] at HA
 have hR : kindS S p = if (absF [47] p).2 ≠ 0 then 0 else if wayM S.m (absF [47] p).1 ≠ 0 then 0 else kindM S.m (absF [47] p).1 := by
   unfold kindS absS
   by_cases h : (absF [47] p).2 = 0
   · by_cases h2 : wayM S.m (absF [47] p).1 = 0
     · simp only [h, h2, ne_eq, not_true_eq_false, if_false]
     · simp only [h, h2, ne_eq, not_true_eq_false, not_false_eq_true, if_false, if_true]
   · simp only [h, ne_eq, not_true_eq_false, not_false_eq_true, if_false, if_true]
 have hW : (absF [47] p).2 = 0 → ∀ W, Below w.heap.size w W → Calls Tryz.prog 119 #[.pointer (some ⟨g, 0, none⟩), .string (bs (absF [47] p).1)] W fun e w' => e = .returned (.int .i64 (wayM S.m (absF [47] p).1)) ∧ Below W.heap.size W w' := fun h0 W hb => by
   rcases absF_cases [47] p with ⟨l, gd, e, _⟩ | ⟨_, e⟩
   · rw [e]
     exact rway_any g S A c P l W (h.below hb) hl gd.ok (by have := gd.len; omega)
   · exact absurd h0 (by omega)
 have HK := hide (fun (q : T) (W : World) (hb : Below w.heap.size w W) => rkind_any g S A c P q W (h.below hb) hl)
 unfold AbsPost at HA
 obtain ⟨q, hq⟩ : ∃ q, (absF [47] p).1 = q := ⟨_, rfl⟩
 obtain ⟨e, he⟩ : ∃ q, (absF [47] p).2 = q := ⟨_, rfl⟩
 rw [hq, he] at HA hR hW
 have HR := hide hR
 have HW := hide hW
 clear hR hW h hq he
 by_cases c1 : e = 0
 · subst c1
   have hE := HR.out.trans (if_neg (by simp))
   have HW2 := hide (HW.out rfl)
   have HKQ := hide (HK.out q)
   obtain ⟨y, hy⟩ : ∃ y, wayM S.m q = y := ⟨_, rfl⟩
   rw [hy] at HW2 hE
   obtain ⟨z, hz⟩ : ∃ y, kindM S.m q = y := ⟨_, rfl⟩
   rw [hz] at HKQ hE
   have HE := hide hE
   clear hy HR HW hz hE HK
   by_cases y0 : y = 0
   · subst y0
     have HE2 := hide (HE.out.trans (if_neg (by simp)))
     go_enter Tryz.func127, Tryz.ntmps127
     go_wp2_with fail
     refine HA.out.mono ?_
     rintro e w1 ⟨rfl, hb⟩
     have HB := hide hb
     clear hb
     go_wp2_with fail
     refine (HW2.out w1 HB.out).mono ?_
     rintro e w2 ⟨rfl, hb⟩
     have HB2 := hide (below_up HB.out hb HB.out.size)
     clear hb
     go_wp2_with fail
     refine (HKQ.out w2 HB2.out).mono ?_
     rintro e w' ⟨rfl, rfl⟩
     go_wp2
     go_ret
     rw [HE2.out]
     exact ⟨rfl, HB2.out⟩
   · obtain ⟨t1, t2⟩ := ne0 y0
     have HE2 := hide (HE.out.trans (if_pos y0))
     clear y0
     go_enter Tryz.func127, Tryz.ntmps127
     go_wp2_with fail
     refine HA.out.mono ?_
     rintro e w1 ⟨rfl, hb⟩
     have HB := hide hb
     clear hb
     go_wp2_with fail
     refine (HW2.out w1 HB.out).mono ?_
     rintro e w2 ⟨rfl, hb⟩
     have HB2 := hide (below_up HB.out hb HB.out.size)
     clear hb
     go_wp2
     go_ret
     rw [HE2.out]
     exact ⟨rfl, HB2.out⟩
 · obtain ⟨t1, t2⟩ := ne0 c1
   have HE := hide (HR.out.trans (if_pos c1))
   clear c1
   go_enter Tryz.func127, Tryz.ntmps127
   go_wp2_with fail
   refine HA.out.mono ?_
   rintro e w1 ⟨rfl, hb⟩
   have HB := hide hb
   clear hb
   go_wp2
   go_ret
   rw [HE.out]
   exact ⟨rfl, HB.out⟩
def sizeR (P : List NV) : Nat := (P.map fun x => x.2.nd.data.length).sum
theorem sizeR_eq {S : St} {P : List NV} (h : S.m = stripN P) (hS : WfS S) : sizeR P = S.used := by
 rw [hS.sum, h]
 unfold stripN sizeR
 rw [List.map_map]
 rfl
theorem sizeR_take {P : List NV} {k : Nat} {x : NV} (h : P[k]? = some x) : sizeR (P.take (k + 1)) = sizeR (P.take k) + x.2.nd.data.length := by
 unfold sizeR
 rw [List.take_add_one, h]
 simp
theorem sizeR_le (P : List NV) (k : Nat) : sizeR (P.take k) ≤ sizeR P := by
 unfold sizeR
 conv => rhs; rw [← List.take_append_drop k P, List.map_append, List.sum_append]
 omega
theorem rsize_any (g : Nat) (S : St) (A : Option Addr) (c : Nat) (P : List NV) (w : World) (h : RSO g S A c P w) (hl : P.length ≤ 1000000) (hs : sizeR P ≤ 100000000) :
   Calls Tryz.prog 114 #[.pointer (some ⟨g, 0, none⟩)] w fun e w' => e = .returned (.int .i64 (sizeR P)) ∧ w = w' := by
 have HR := hide h.rg
 have hg := h.heap
 obtain ⟨n, hn⟩ : ∃ n, P.length = n := ⟨_, rfl⟩
 rw [hn] at hg hl
 have HN := hide hn
 have HS := hide hs
 have hc2 := cellOf hg (j := 2) (v := .slice A n c) rfl
 have hni : (n : Int) ≤ 1000000 := by omega
 clear h hg hn hs
 go_enter Tryz.func114, Tryz.ntmps114
 go_wp2
 go_loopw [3, 4] (fun v3 v4 wr => ∃ k : Nat, v4 = .int .i64 k ∧ k ≤ n ∧ v3 = .int .i64 (sizeR (P.take k)) ∧ w = wr) (fun _ v4 _ => n - (intOf v4).toNat)
 case atStart => exact ⟨0, rfl, by omega, by simp [sizeR], rfl⟩
 case round =>
   obtain ⟨k, rfl, hk, rfl, rfl⟩ := hrel
   by_cases hlt : k < n
   · obtain ⟨x, hx⟩ : ∃ x, P[k]? = some x := ⟨P[k]'(by have := HN.out; omega), gE _⟩
     obtain ⟨gs, o, rfl, hgs, hc⟩ := HR.out k x hx
     have hc3 : w.cell? ⟨gs, o + k * 4 + 2, none⟩ = some (.slice x.2.A x.2.nd.data.length x.2.c) := hc 2 _ rfl
     have b1 : (k : Int) < (n : Int) := by omega
     have htk := sizeR_take hx
     have hle := sizeR_le P (k + 1)
     have hs := HS.out
     obtain ⟨m, hm⟩ : ∃ m, x.2.nd.data.length = m := ⟨_, rfl⟩
     obtain ⟨u, hu⟩ : ∃ m, sizeR (P.take k) = m := ⟨_, rfl⟩
     rw [hm] at hc3 htk
     rw [hu] at htk ⊢
     have HTK := hide htk
     have hui : (u : Int) + (m : Int) ≤ 100000000 := by omega
     have hu0 : (u : Int) ≤ 100000000 := by omega
     clear hc hx htk hle hs hm hu
     go_wp2
     go_roundw
     case rel => exact ⟨k + 1, by go_num, by omega, by rw [HTK.out]; go_num, trivial⟩
     case measure => simp [intOf]; omega
   · obtain rfl : n = k := by omega
     have htk : P.take n = P := List.take_of_length_le (by have := HN.out; omega)
     rw [htk]
     clear htk
     go_wp2
     go_ret
     exact ⟨rfl, rfl⟩
end
section
open Go.RowKit Go.Deep Go.Maps Ln Pth Vf
attribute [local go_sem] bt_eq
def nmF (q : T) (acc : List T) (x : T) : List T := if dirF x = q then putT (baseF x) acc else acc
def nmR (q : T) (K : List T) : List T := K.foldl (nmF q) []
theorem nmR_rise (q : T) : ∀ (K : List T) (acc : List T), acc.Pairwise (· < ·) → (K.foldl (nmF q) acc).Pairwise (· < ·)
 | [], acc, h => h
 | x :: K, acc, h => by
   rw [List.foldl_cons]
   refine nmR_rise q K _ ?_
   unfold nmF
   split
   · exact putT_rise _ h
   · exact h
theorem nmR_mem (q s : T) : ∀ (K : List T) (acc : List T), s ∈ K.foldl (nmF q) acc ↔ s ∈ acc ∨ ∃ x ∈ K, dirF x = q ∧ baseF x = s
 | [], acc => by simp
 | x :: K, acc => by
   rw [List.foldl_cons, nmR_mem q s K]
   unfold nmF
   split
   · rename_i h
     rw [mem_putT]
     constructor
     · rintro ((rfl | h1) | ⟨y, hy, h1⟩)
       · exact .inr ⟨x, by simp, h, rfl⟩
       · exact .inl h1
       · exact .inr ⟨y, by simp [hy], h1⟩
     · rintro (h1 | ⟨y, hy, h1, h2⟩)
       · exact .inl (.inr h1)
       · rcases List.mem_cons.1 hy with rfl | hy
         · exact .inl (.inl h2.symm)
         · exact .inr ⟨y, hy, h1, h2⟩
   · rename_i h
     constructor
     · rintro (h1 | ⟨y, hy, h1⟩)
       · exact .inl h1
       · exact .inr ⟨y, by simp [hy], h1⟩
     · rintro (h1 | ⟨y, hy, h1, h2⟩)
       · exact .inl h1
       · rcases List.mem_cons.1 hy with rfl | hy
         · exact absurd h1 h
         · exact .inr ⟨y, hy, h1, h2⟩
theorem dir_join {l : List T} (h : ∀ s ∈ l, okN s) : dirF (joinF l) = joinF l.dropLast := by
 unfold dirF; rw [parts_join h]
theorem base_join {l : List T} (h : ∀ s ∈ l, okN s) : baseF (joinF l) = l.getLast?.getD [] := by
 unfold baseF; rw [parts_join h]
theorem slashed_lastR : ∀ {l : List T}, (∀ s ∈ l, okN s) → l ≠ [] → (slashed l).getLast? ≠ some 47 := by
 intro l h hne
 obtain ⟨a, s, rfl⟩ : ∃ a s, l = a ++ [s] := ⟨l.dropLast, l.getLast hne, (List.dropLast_concat_getLast hne).symm⟩
 obtain ⟨h1, _, _, h4⟩ := h s (by simp)
 rw [slashed_app]
 have e : slashed [s] = 47 :: s := by simp [slashed]
 rw [e, List.getLast?_append, List.getLast?_cons, List.getLast?_eq_some_getLast h1]
 simp
 intro e2
 exact h4 (e2 ▸ List.getLast_mem h1)
theorem front_join {l : List T} (h : ∀ s ∈ l, okN s) (s : T) : frontF (joinF l) ++ s = joinF (l ++ [s]) := by
 have e : slashed [s] = 47 :: s := by simp [slashed]
 have e2 : joinF (l ++ [s]) = slashed (l ++ [s]) := by unfold joinF; rw [if_neg (by simp)]
 rw [e2, slashed_app, e]
 by_cases hl : l = []
 · subst hl; rfl
 · have e3 : joinF l = slashed l := by unfold joinF; rw [if_neg hl]
   unfold frontF
   rw [e3, if_neg (slashed_lastR h hl)]
   simp
theorem last_slash : ∀ {a b s t : T}, 47 ∉ s → 47 ∉ t → a ++ 47 :: s = b ++ 47 :: t → a = b ∧ s = t := by
 intro a b s t hs ht h
 have hr := congrArg List.reverse h
 simp only [List.reverse_append, List.reverse_cons, List.append_assoc, List.singleton_append] at hr
 have key : ∀ (u v x y : T), 47 ∉ u → 47 ∉ v → u ++ 47 :: x = v ++ 47 :: y → u = v ∧ x = y := by
   intro u
   induction u with
   | nil =>
     intro v x y _ hv h
     cases v with
     | nil => simpa using h
     | cons c v => simp at h; exact absurd (by simp [h.1]) hv
   | cons c u ih =>
     intro v x y hu hv h
     cases v with
     | nil => simp at h; exact absurd (by simp [h.1]) hu
     | cons d v =>
       simp only [List.cons_append, List.cons.injEq] at h
       obtain ⟨h1, h2⟩ := ih v x y (fun e => hu (by simp [e])) (fun e => hv (by simp [e])) h.2
       exact ⟨by rw [h.1, h1], h2⟩
 obtain ⟨h1, h2⟩ := key _ _ _ _ (by simpa using hs) (by simpa using ht) hr
 exact ⟨List.reverse_inj.1 h2, List.reverse_inj.1 h1⟩
theorem join_front_eq {l l2 : List T} {s : T} (h : ∀ s ∈ l, okN s) (h2 : ∀ s ∈ l2, okN s) (hne : l2 ≠ []) (hs : 47 ∉ s) (he : joinF l2 = joinF (l ++ [s])) : l2 = l ++ [s] := by
 obtain ⟨a, z, rfl⟩ : ∃ a s, l2 = a ++ [s] := ⟨l2.dropLast, l2.getLast hne, (List.dropLast_concat_getLast hne).symm⟩
 have e : ∀ (l : List T) (s : T), joinF (l ++ [s]) = slashed l ++ 47 :: s := by
   intro l s
   unfold joinF
   rw [if_neg (by simp), slashed_app]
   simp [slashed]
 rw [e, e] at he
 obtain ⟨h1, h3⟩ := last_slash (h2 z (by simp)).2.2.2 hs he
 subst h3
 have : a = l := by
   refine joinF_inj (fun s hs => h2 s (by simp [hs])) h ?_
   unfold joinF
   by_cases ha : a = []
   · subst ha
     by_cases hl : l = []
     · subst hl; rfl
     · exact absurd h1.symm (slashed_ne hl)
   · by_cases hl : l = []
     · subst hl; exact absurd h1 (slashed_ne ha)
     · rw [if_neg ha, if_neg hl, h1]
 rw [this]
theorem nmR_names {S : St} (hS : WfS S) {l : List T} (hl : GoodP l) : nmR (joinF l) (S.m.map fun x => x.1.data.toList) = namesM S.m (joinF l) := by
 refine rise_ext (nmR_rise _ _ _ List.Pairwise.nil) (names_rise hS.rise _) (fun s => ?_)
 unfold nmR
 rw [nmR_mem, mem_names]
 constructor
 · rintro (h | ⟨x, hx, h1, h2⟩)
   · simp at h
   · obtain ⟨y, hy, rfl⟩ := List.mem_map.1 hx
     obtain ⟨l2, g2, n2, e2⟩ := hS.good y hy
     rw [e2, bs_list] at h1 h2
     rw [dir_join g2.ok] at h1
     rw [base_join g2.ok] at h2
     have h3 := joinF_inj (fun s hs => g2.ok s ((List.dropLast_sublist l2).subset hs)) hl.ok h1
     rw [List.getLast?_eq_some_getLast n2] at h2
     simp at h2
     have e3 : l2 = l ++ [s] := by rw [← h3, ← h2, List.dropLast_concat_getLast n2]
     refine ⟨(g2.ok s (by rw [e3]; simp)).2.2.2, y.2, ?_⟩
     rw [front_join hl.ok, ← e3, ← e2]
     exact hy
 · rintro ⟨h1, n, h2⟩
   refine .inr ⟨_, List.mem_map.2 ⟨_, h2, rfl⟩, ?_⟩
   obtain ⟨l2, g2, n2, e2⟩ := hS.good _ h2
   dsimp only at e2 ⊢
   rw [bs_list]
   rw [front_join hl.ok] at e2 ⊢
   have e3 := join_front_eq hl.ok g2.ok n2 h1 (bs_inj e2).symm
   rw [← e3, dir_join g2.ok, base_join g2.ok, e3]
   simp
theorem putS_bsT (s : T) : ∀ L : List T, putS (bs s) (L.map bs) = (putT s L).map bs
 | [] => rfl
 | y :: L => by
   have h1 : (sLt (bs y) (bs s) = true) ↔ y < s := sLt_iff _ _
   have h2 : bs y = bs s ↔ y = s := ⟨bs_inj, fun h => by rw [h]⟩
   show (if sLt (bs y) (bs s) then bs y :: putS (bs s) (L.map bs) else if bs y = bs s then bs y :: L.map bs else bs s :: bs y :: L.map bs) = _
   rw [putS_bsT s L, putT]
   by_cases c1 : y < s
   · rw [if_pos (h1.2 c1), if_pos c1]; rfl
   · rw [if_neg (fun h => c1 (h1.1 h)), if_neg c1]
     by_cases c2 : y = s
     · rw [if_pos (h2.2 c2), if_pos c2]; rfl
     · rw [if_neg (fun h => c2 (h2.1 h)), if_neg c2]; rfl
theorem putT_lenR (s : T) : ∀ L : List T, (putT s L).length ≤ L.length + 1
 | [] => by simp [putT]
 | y :: L => by
   have := putT_lenR s L
   rw [putT]
   split
   · simp; omega
   · split <;> simp
theorem nmR_snoc (q x : T) (K : List T) : nmR q (K ++ [x]) = nmF q (nmR q K) x := by unfold nmR; rw [List.foldl_append]; rfl
def keysN (P : List NV) : List T := P.map fun x => x.1.data.toList
theorem keysN_eq {S : St} {P : List NV} (h : S.m = stripN P) : (S.m.map fun x => x.1.data.toList) = keysN P := by
 rw [h]; unfold stripN keysN; rw [List.map_map]; rfl
theorem rnames4_any (g : Nat) (S : St) (A : Option Addr) (c : Nat) (P : List NV) (q : T) (w : World) (h : RSO g S A c P w) (hl : P.length ≤ 10000) (hk : ∀ x ∈ P, ∃ t : T, x.1 = bs t ∧ t.length ≤ 1000) :
   Calls Tryz.prog 116 #[.pointer (some ⟨g, 0, none⟩), .string (bs q)] w fun e w' => (∃ A' c', e = .returned (.slice A' (nmR q (keysN P)).length c') ∧ SR w' A' ((nmR q (keysN P)).map bs) ∧ (nmR q (keysN P)).length ≤ c') ∧ Below w.heap.size w w' := by
 have H := hide h
 have HK := hide hk
 have HN := hide (rfl : P.length = P.length)
 obtain ⟨n, hn⟩ : ∃ n, P.length = n := ⟨_, rfl⟩
 have HNN := hide hn
 have hln : n ≤ 10000 := by omega
 clear h hk hl hn HN
 go_enter Tryz.func116, Tryz.ntmps116
 go_wp2
 go_loopw [5, 6] (fun v5 v6 wr => ∃ (k : Nat) (A' : Option Addr) (c' m : Nat), v6 = .int .i64 k ∧ k ≤ n ∧ v5 = .slice A' m c' ∧ Hid (m = (nmR q (keysN (P.take k))).length) ∧ m ≤ k ∧ m ≤ c' ∧ Hid (SR wr A' ((nmR q (keysN (P.take k))).map bs)) ∧ Hid (Below w.heap.size w wr)) (fun _ v6 _ => n - (intOf v6).toNat)
 case atStart =>
   refine ⟨0, none, 0, 0, rfl, by omega, rfl, ?_, by omega, by omega, ?_, Below.refl _ _⟩
   · show (0 : Nat) = _; simp [keysN, nmR]
   · intro k s hks; simp [keysN, nmR] at hks
 case round =>
   obtain ⟨k, A', c', m, rfl, hk, rfl, HM, hmk, hmc, HSR, HB⟩ := hrel
   have ho := H.out.below HB.out
   have hg := ho.heap
   have hrg := ho.rg
   rw [HNN.out] at hg
   have hc2 := cellOf hg (j := 2) (v := .slice A n c) rfl
   have hgb : g < wr.heap.size := (Array.getElem?_eq_some_iff.1 hg).1
   by_cases hlt : k < n
   · obtain ⟨x, hx⟩ : ∃ x, P[k]? = some x := ⟨P[k]'(by have := HNN.out; omega), gE _⟩
     obtain ⟨gs, o, rfl, hgs, hc⟩ := hrg k x hx
     have hc0 : wr.cell? ⟨gs, o + k * 4, none⟩ = some (.string x.1) := by have := hc 0 _ rfl; simpa using this
     obtain ⟨t, hxt, htl⟩ := HK.out x (List.mem_of_getElem? hx)
     have hkt : keysN (P.take (k + 1)) = keysN (P.take k) ++ [t] := by
       unfold keysN
       rw [List.take_add_one, hx, List.map_append]
       simp [hxt, bs_list]
     rw [hxt] at hc0
     have hnm := nmR_snoc q t (keysN (P.take k))
     rw [← hkt] at hnm
     obtain ⟨Q, hQ⟩ : ∃ Q, nmR q (keysN (P.take k)) = Q := ⟨_, rfl⟩
     rw [hQ] at HM HSR hnm
     have HNM := hide hnm
     have b1 : (k : Int) < (n : Int) := by omega
     have HD := hide (fun W => rdir_any t W (by omega))
     have HBA := hide (fun W => rbase_any t W (by omega))
     have hg0 : gs < wr.heap.size := hgs
     have hm := HM.out
     have hps := fun (W : World) (hb : Below wr.heap.size wr W) => putstr_any A' c' (Q.map bs) (bs (baseF t)) W (HSR.out.below hb) (by rw [List.length_map]; omega) (by rw [List.length_map]; omega)
     rw [putS_bsT] at hps
     simp only [List.length_map, ← hm] at hps
     have HPS := hide hps
     clear hm hps hnm hQ hkt htl hxt hc hx hrg ho hg hgs
     by_cases hd : dirF t = q
     · have e1 : ((bs (dirF t)).toList == (bs q).toList) = true := by rw [hd]; simp
       have HE := hide (HNM.out.trans (if_pos hd))
       clear hd
       go_wp2_with fail
       refine (HD.out _).mono ?_
       rintro e w1 ⟨rfl, hb1⟩
       have hc2' := (hb1.cell (p := ⟨g, 2, none⟩) hgb).trans hc2
       have hc0' := (hb1.cell (p := ⟨gs, o + k * 4, none⟩) hg0).trans hc0
       have HB1 := hide hb1
       clear hb1
       go_wp2_with fail
       refine (HBA.out _).mono ?_
       rintro e w2 ⟨rfl, hb2⟩
       have HB2 := hide (below_up HB1.out hb2 HB1.out.size)
       clear hb2
       go_wp2_with fail
       refine (HPS.out w2 HB2.out).mono ?_
       rintro e w3 ⟨⟨A2, c2, rfl, hsr, hc3⟩, hb3⟩
       have HSR2 := hide hsr
       have HB3 := hide (below_up HB.out (below_up HB2.out hb3 HB2.out.size) HB.out.size)
       have HX := hide (And.intro hsr hc3)
       clear hsr hb3 hc3
       go_wp2
       go_roundw
       case rel =>
         have hpl := putT_lenR (baseF t) Q
         have hm := HM.out
         refine ⟨k + 1, A2, c2, (putT (baseF t) Q).length, by go_num, by omega, rfl, ?_, by omega, HX.out.2, ?_, HB3.out⟩
         · show _ = _; rw [HE.out]
         · show SR _ _ _; rw [HE.out]; exact HX.out.1
       case measure => simp [intOf]; omega
     · have e1 : ((bs (dirF t)).toList == (bs q).toList) = false := by rw [bs_toList, bs_toList]; simpa using hd
       have HE := hide (HNM.out.trans (if_neg hd))
       clear hd
       go_wp2_with fail
       refine (HD.out _).mono ?_
       rintro e w1 ⟨rfl, hb1⟩
       have HB1 := hide hb1
       clear hb1
       go_wp2
       go_roundw
       case rel =>
         refine ⟨k + 1, A', c', m, by go_num, by omega, rfl, ?_, by omega, by omega, ?_, below_up HB.out HB1.out HB.out.size⟩
         · show _ = _; rw [HE.out]; exact HM.out
         · show SR _ _ _; rw [HE.out]; exact HSR.out.below HB1.out
       case measure => simp [intOf]; omega
   · obtain rfl : n = k := by omega
     have htk : P.take n = P := List.take_of_length_le (by have := HNN.out; omega)
     rw [htk] at HM HSR
     have hm := HM.out
     have HMC := hide hmc
     clear htk ho hg hrg
     go_wp2
     go_ret
     exact ⟨⟨A', c', by rw [← hm]; rfl, HSR.out, by rw [← hm]; exact HMC.out⟩, HB.out⟩
end
section
open Go.RowKit Go.Deep Go.Maps Ln Pth Vf
attribute [local go_sem] bt_eq
theorem found_none {S : St} {p : T} (h : (absS S p).2 = 0) (hk : kindM S.m (absS S p).1 = 0) : (foundS S p).2 = 6 := by unfold foundS; simp [h, hk]
theorem found_there {S : St} {p : T} (h : (absS S p).2 = 0) (hk : kindM S.m (absS S p).1 ≠ 0) : (foundS S p).2 = 0 := by unfold foundS; simp [h, hk]
theorem file_node {S : St} {P : List NV} (h : S.m = stripN P) {q : T} (hk : kindM S.m q = 1) : ∃ (k : Nat) (x : NV), atN P (bs q) = (k : Int) ∧ P[k]? = some x ∧ dataM S.m q = x.2.nd.data := by
 have hr : q ≠ [47] := by rintro rfl; simp [kindM] at hk
 rcases atN_cases P (bs q) with ⟨_, hg⟩ | ⟨k, x, ha, hx, _, hg⟩
 · rw [← h] at hg
   unfold kindM at hk
   rw [if_neg hr, hg] at hk
   exact absurd hk (by simp)
 · refine ⟨k, x, ha, hx, ?_⟩
   unfold dataM
   rw [h, hg]
theorem RSO.drew {g : Nat} {S : St} {A : Option Addr} {c : Nat} {P : List NV} {w : World} (h : RSO g S A c P w) : RSO g S A c P w.drew := ⟨h.heap, h.cap, h.rg, h.dat, h.eq, h.top, h.neA, h.neD, h.lt⟩
theorem listS_err {S : St} {p : T} (h : (absS S p).2 ≠ 0) : listS S p = ([], (absS S p).2) := by
 have : (foundS S p).2 = (absS S p).2 := by unfold foundS; simp [h]
 unfold listS; rw [this, if_pos h]
theorem listS_none {S : St} {p : T} (h : (absS S p).2 = 0) (hk : kindM S.m (absS S p).1 = 0) : listS S p = ([], 6) := by
 unfold listS; rw [found_none h hk]; rfl
theorem listS_file {S : St} {p : T} (h : (absS S p).2 = 0) (hk : kindM S.m (absS S p).1 = 1) : listS S p = ([], 11) := by
 unfold listS
 rw [found_there h (by omega)]
 have : (foundS S p).1 = (absS S p).1 := rfl
 rw [this, hk]; rfl
theorem listS_dir {S : St} {p : T} (h : (absS S p).2 = 0) (hk : kindM S.m (absS S p).1 = 2) : listS S p = (namesM S.m (absS S p).1, 0) := by
 unfold listS
 rw [found_there h (by omega)]
 have : (foundS S p).1 = (absS S p).1 := rfl
 rw [this, hk]; rfl
theorem keys_short {S : St} (hS : WfS S) {P : List NV} (h : S.m = stripN P) : ∀ x ∈ P, ∃ t : T, x.1 = bs t ∧ t.length ≤ 1000 := by
 intro x hx
 obtain ⟨l, gl, _, e⟩ := hS.good (x.1, x.2.nd) (by rw [h]; exact List.mem_map.2 ⟨x, hx, rfl⟩)
 exact ⟨joinF l, e, by have := gl.len; omega⟩
theorem stripN_len (P : List NV) : (stripN P).length = P.length := by unfold stripN; rw [List.length_map]
theorem row_len {S : St} (hS : WfS S) {P : List NV} (h : S.m = stripN P) : P.length ≤ 10000 := by
 have h1 := hS.nodes
 have h2 := hS.n10
 rw [h, stripN_len] at h1
 omega
theorem rList_any (g : Nat) (S : St) (A : Option Addr) (c : Nat) (P : List NV) (p : T) (w : World) (h : RSO g S A c P w) (hS : WfS S) (hp : p.length ≤ 100000) :
   Calls Tryz.prog 125 #[.pointer (some ⟨g, 0, none⟩), .string (bs p)] w fun e w' => (∃ B d, e = .returned (.tuple #[.slice B (listS S p).1.length d, .int .i64 (listS S p).2]) ∧ SR w' B ((listS S p).1.map bs) ∧ (listS S p).1.length ≤ d) ∧ Below w.heap.size w w' := by
 have hl := row_len hS h.eq
 have HF := hide (rfind_abs g S A c P p w h (by omega) hp)
 have H := hide h
 have HR1 := hide (listS_err (S := S) (p := p))
 have HR2 := hide (listS_none (S := S) (p := p))
 have HR3 := hide (listS_file (S := S) (p := p))
 have HR4 := hide (listS_dir (S := S) (p := p))
 have hgd := fun h => absS_good (S := S) (p := p) h
 have HNM := hide (fun (q : T) (hq : (absS S p).2 = 0) (h2 : q = (absS S p).1) => show nmR q (keysN P) = namesM S.m q from by
   obtain ⟨l, gl, e, _⟩ := hgd hq
   rw [h2, e, ← keysN_eq h.eq]
   exact nmR_names hS gl)
 have HK := hide (keys_short hS h.eq)
 have HL := hide hl
 obtain ⟨r, hr⟩ : ∃ r, absS S p = r := ⟨_, rfl⟩
 obtain ⟨q0, e⟩ := r
 rw [hr] at HF HR1 HR2 HR3 HR4 HNM
 dsimp only at HF HR1 HR2 HR3 HR4 HNM
 obtain ⟨R, hR⟩ : ∃ R, listS S p = R := ⟨_, rfl⟩
 rw [hR] at HR1 HR2 HR3 HR4 ⊢
 clear hr hR h hl hp hgd
 go_enter Tryz.func125, Tryz.ntmps125
 go_wp2_with fail
 refine HF.out.mono ?_
 rintro e1 w1 ⟨q, rfl, hq, hql, hb⟩
 have HB := hide hb
 have HQ := hide hq
 have ho := H.out.below hb
 by_cases c1 : e = 0
 · subst c1
   have hq1 := hq rfl
   subst hq1
   have hkd := rkind_any g S A c P q w1 ho (by have := HL.out; omega)
   have hkl := kind_le S.m q
   by_cases k0 : kindM S.m q = 0
   · have HE := hide (HR2.out rfl k0)
     rw [k0] at hkd
     have HKD := hide hkd
     clear ho hq hb hkd hkl k0
     go_wp2_with fail
     refine HKD.out.mono ?_
     rintro e w' ⟨rfl, rfl⟩
     go_wp2
     go_ret2
     refine ⟨⟨none, 0, by rw [HE.out]; rfl, ?_, by rw [HE.out]; simp⟩, HB.out⟩
     rw [HE.out]
     intro k x hk; simp at hk
   by_cases k2 : kindM S.m q = 1
   · have HE := hide (HR3.out rfl k2)
     rw [k2] at hkd
     have HKD := hide hkd
     clear ho hq hb hkd hkl k0 k2
     go_wp2_with fail
     refine HKD.out.mono ?_
     rintro e w' ⟨rfl, rfl⟩
     go_wp2
     go_ret2
     refine ⟨⟨none, 0, by rw [HE.out]; rfl, ?_, by rw [HE.out]; simp⟩, HB.out⟩
     rw [HE.out]
     intro k x hk; simp at hk
   have k1 : kindM S.m q = 2 := by omega
   have HE := hide (HR4.out rfl k1)
   rw [k1] at hkd
   have HKD := hide hkd
   have hnm := rnames4_any g S A c P q w1 ho HL.out HK.out
   rw [HNM.out q rfl rfl] at hnm
   have HN := hide hnm
   obtain ⟨M, hM⟩ : ∃ M, namesM S.m q = M := ⟨_, rfl⟩
   rw [hM] at HE HN
   clear ho hq hb hkd hkl k0 k2 k1 hnm hM HNM
   go_wp2_with fail
   refine HKD.out.mono ?_
   rintro e w' ⟨rfl, rfl⟩
   go_wp2_with fail
   refine HN.out.mono ?_
   rintro e w2 ⟨⟨B, d, rfl, hsr, hd⟩, hb2⟩
   have HB2 := hide (below_up HB.out hb2 HB.out.size)
   have HSR := hide hsr
   have HD := hide hd
   clear hsr hb2 hd
   go_wp2
   go_ret2
   rw [HE.out]
   exact ⟨⟨B, d, rfl, HSR.out, HD.out⟩, HB2.out⟩
 · obtain ⟨t1, t2⟩ := ne0 c1
   have HE := hide (HR1.out c1)
   clear c1 ho hq hb
   go_wp2
   go_ret2
   refine ⟨⟨none, 0, by rw [HE.out]; rfl, ?_, by rw [HE.out]; simp⟩, HB.out⟩
   rw [HE.out]
   intro k x hk; simp at hk
end
section
open Go.RowKit Go.Deep Go.Maps Ln Pth Vf Qm.Glob
def headR (sl : Bool) (t : ByteArray) : ByteArray := if sl then t ++ ⟨#[47]⟩ else t
def rgo (sl : Bool) (d : Spt) (n : ByteArray) : Spt := (headR sl d.1 ++ n, bs (joinF (partsF d.2.data.toList n.data.toList)))
def rstepB (fs : St) (d : Spt) (p : ByteArray) (last sl : Bool) : List Spt :=
 if dotsB p then [rgo sl d ((plT p).getD ⟨#[]⟩)] else ((namesOf p ((listS fs d.2.data.toList).1.map bs)).map (rgo sl d)).filter fun s => last || decide (kindS fs s.2.data.toList = 2)
def keepS (l : List Spt) (x : Spt) : List Spt := if (l.any fun y => decide (y.1 = x.1)) = true then l else (putG x l).take 500
theorem take_put (x : Spt) : ∀ (S : List Spt) (n : Nat), (putG x (S.take n)).take n = (putG x S).take n
 | [], n => by simp
 | y :: S, 0 => by simp
 | y :: S, n + 1 => by
   have ih := take_put x S n
   rw [List.take_succ_cons, putG, putG]
   split
   · rw [List.take_succ_cons, List.take_succ_cons, ih]
   · split
     · rw [List.take_succ_cons, List.take_succ_cons, List.take_take, Nat.min_self]
     · rw [List.take_succ_cons, List.take_succ_cons]
       congr 1
       cases n with
       | zero => rfl
       | succ n =>
         rw [List.take_succ_cons, List.take_succ_cons, List.take_take]
         congr 2
         omega
theorem sortSp_snoc (A : List Spt) (x : Spt) : sortSp (A ++ [x]) = putG x (sortSp A) := by unfold sortSp; rw [List.foldl_append]; rfl
theorem fold_keep : ∀ (L A : List Spt), ((A ++ L).map (·.1)).Nodup → L.foldl keepS ((sortSp A).take 500) = (sortSp (A ++ L)).take 500
 | [], A, _ => by simp
 | x :: L, A, h => by
   have h' : (((A ++ [x]) ++ L).map (·.1)).Nodup := by simpa using h
   have hA : (A.map (·.1)).Nodup := by
     rw [List.map_append] at h
     exact (List.nodup_append.1 h).1
   have hx : x.1 ∉ A.map (·.1) := by
     intro hm
     rw [List.map_append, List.map_cons] at h
     exact (List.nodup_append.1 h).2.2 _ hm _ (by simp) rfl
   rw [List.foldl_cons]
   have e : keepS ((sortSp A).take 500) x = (sortSp (A ++ [x])).take 500 := by
     unfold keepS
     rw [if_neg, take_put, sortSp_snoc]
     intro hm
     apply hx
     obtain ⟨y, hy, hy2⟩ := List.any_eq_true.1 hm
     rw [← of_decide_eq_true hy2]
     exact List.mem_map.2 ⟨y, (sortSp_perm hA).1.mem_iff.2 (List.mem_of_mem_take hy), rfl⟩
   rw [e, fold_keep L (A ++ [x]) h']
   simp
theorem keep_first {L : List Spt} (h : (L.map (·.1)).Nodup) : L.foldl keepS [] = firstB L := fold_keep L [] (by simpa using h)
def AtOk (a : ByteArray) : Prop := ∃ l, GoodP l ∧ a = bs (joinF l)
theorem parts_rel {l : List T} (h : ∀ s ∈ l, okN s) {n : T} (hn : 47 ∉ n) : partsF (joinF l) n = stepP l n := by
 have e := parts_join h []
 unfold partsF at e ⊢
 rw [if_pos (joinF_head l)] at e
 rw [if_neg (show ¬ n.head? = some 47 from fun h => hn (List.mem_of_mem_head? (by rw [h]; rfl))), List.foldl_append, e, spl_none hn]
 rfl
theorem good_zero {l : List T} (h : GoodP l) : 0 ∉ joinF l := by
 unfold joinF
 split
 · simp
 · unfold slashed
   intro hm
   obtain ⟨s, hs, hz⟩ := List.mem_flatMap.1 hm
   rcases List.mem_cons.1 hz with e | e
   · cases e
   · exact h.zero s hs e
theorem abs_step {l : List T} (h : GoodP l) {n : T} (hn : n ≠ []) (hs : 47 ∉ n) (hz : 0 ∉ n) (hg : GoodP (stepP l n)) : absF (joinF l) n = (joinF (stepP l n), 0) := by
 unfold absF
 rw [if_neg (by rintro (e | e | e); exact hn e; exact good_zero h e; exact hz e), parts_rel h.ok hs, if_pos ⟨(longF_iff _).2 hg.long, hg.deep, hg.len⟩]
theorem good_drop {l : List T} (h : GoodP l) : GoodP l.dropLast := by
 refine ⟨fun s hs => h.ok s (List.dropLast_subset _ hs), fun s hs => h.long s (List.dropLast_subset _ hs), fun s hs => h.zero s (List.dropLast_subset _ hs), by have := h.deep; rw [List.length_dropLast]; omega, ?_⟩
 by_cases e : l = []
 · subst e; exact h.len
 · have h1 := h.len
   unfold joinF at h1 ⊢
   rw [if_neg e] at h1
   split
   · simp
   · rw [← List.dropLast_concat_getLast e, slashed_app, List.length_append] at h1
     omega
theorem list_at {S : St} (hS : WfS S) {l : List T} (hl : GoodP l) {n : T} (h : n ∈ (listS S (joinF l)).1) : n ≠ [] ∧ 47 ∉ n ∧ 0 ∉ n ∧ stepP l n = l ++ [n] ∧ GoodP (l ++ [n]) := by
 have hq : n ∈ namesM S.m (joinF l) := by
   have ha : absF [47] (joinF l) = (joinF l, 0) := absF_good hl
   unfold listS at h
   split at h
   · cases h
   · split at h
     · cases h
     · rename_i h1 h2
       have e : (foundS S (joinF l)).1 = joinF l := by
         unfold foundS absS at h1 ⊢
         rw [ha] at h1 ⊢
         simp only [ne_eq, not_true_eq_false, if_false] at h1 ⊢
         split
         · rename_i hw
           rw [if_pos hw] at h1
           simp [hw] at h1
         · rfl
       rw [e] at h
       exact h
 obtain ⟨hs, v, hv⟩ := mem_names.1 hq
 obtain ⟨l', hl', hne, e⟩ := hS.good _ hv
 have e2 : joinF l' = joinF (l ++ [n]) := by
   rw [← front_join hl.ok]
   have := congrArg (fun b : ByteArray => b.data.toList) e
   simpa [bs_list] using this.symm
 obtain rfl := join_front_eq hl.ok hl'.ok hne hs e2
 have hok := hl'.ok n (by simp)
 exact ⟨hok.1, hs, hl'.zero n (by simp), stepP_ok hok l, hl'⟩
theorem name_at {S : St} (hf : FsOk S) {a p n : ByteArray} (ha : AtOk a) (h : n ∈ fnamesB S a p) : AtOk (bs (absF a.data.toList n.data.toList).1) ∧ (absF a.data.toList n.data.toList).1 = joinF (partsF a.data.toList n.data.toList) := by
 obtain ⟨l, hl, rfl⟩ := ha
 rw [bs_list]
 have key : ∀ m : T, m ≠ [] → 47 ∉ m → 0 ∉ m → GoodP (stepP l m) → AtOk (bs (absF (joinF l) m).1) ∧ (absF (joinF l) m).1 = joinF (partsF (joinF l) m) := fun m h1 h2 h3 h4 => by
   rw [abs_step hl h1 h2 h3 h4, parts_rel hl.ok h2]
   exact ⟨⟨_, h4, rfl⟩, rfl⟩
 unfold fnamesB at h
 by_cases hd : dotsB p = true
 · rw [if_pos hd] at h
   obtain ⟨q, hq, hq2⟩ := dots_some hd
   rw [hq] at h
   obtain rfl : n = q := by simpa using h
   rcases hq2 with rfl | rfl
   · exact key [46] (by simp) (by decide) (by decide) (by rw [stepP, if_pos (.inr rfl)]; exact hl)
   · exact key [46, 46] (by simp) (by decide) (by decide) (by rw [stepP, if_neg (by simp), if_pos rfl]; exact good_drop hl)
 · rw [if_neg hd] at h
   obtain ⟨m, hm, rfl⟩ := List.mem_map.1 ((namesOf_le p _).2 n h)
   rw [bs_list] at hm ⊢
   obtain ⟨h1, h2, h3, h4, h5⟩ := list_at hf.wf hl hm
   exact key m h1 h2 h3 (by rw [h4]; exact h5)
theorem go_eq {S : St} (hf : FsOk S) {s d : Spt} {sl : Bool} (h2 : s.2 = d.2) (ha : AtOk s.2) (hh : headT s.1 = (headR sl d.1).data.toList) {p n : ByteArray} (hn : n ∈ fnamesB S s.2 p) : goSp s n = rgo sl d n := by
 have h1 := goSp_tx s n
 obtain ⟨_, h3⟩ := name_at hf ha hn
 apply Prod.ext
 · apply ByteArray.ext
   apply Array.toList_inj.1
   rw [h1, hh]
   unfold rgo
   rw [ByteArray.data_append, Array.toList_append]
 · show bs (absF s.2.data.toList n.data.toList).1 = bs _
   rw [h3, h2]
theorem step_eq {S : St} (hf : FsOk S) {s d : Spt} {sl : Bool} (h2 : s.2 = d.2) (ha : AtOk s.2) (hh : headT s.1 = (headR sl d.1).data.toList) (p : ByteArray) (last : Bool) :
   rstepB S d p last sl = if last then (fnamesB S s.2 p).map (goSp s) else ((fnamesB S s.2 p).map (goSp s)).filter fun x => !keepB S p x := by
 have e : (fnamesB S s.2 p).map (goSp s) = (fnamesB S s.2 p).map (rgo sl d) := List.map_congr_left fun n hn => go_eq hf h2 ha hh hn
 rw [e]
 unfold rstepB fnamesB
 by_cases hd : dotsB p = true
 · rw [if_pos hd, if_pos hd]
   cases last with
   | true => rfl
   | false =>
     rw [if_neg (by simp), List.map_singleton, List.filter_cons_of_pos, List.filter_nil]
     simp [keepB, hd]
 · have hd' : dotsB p = false := by simpa using hd
   rw [if_neg hd, if_neg hd, h2]
   cases last with
   | true =>
     rw [if_pos rfl]
     simp
   | false =>
     rw [if_neg (by simp)]
     apply List.filter_congr
     intro x _
     simp [keepB, hd']
def startR (root : Bool) (s : Spt) : Spt := (if root then ⟨#[]⟩ else s.1, s.2)
def rnowB (S : St) (P : List ByteArray) (s : Spt) (root : Bool) (i : Nat) : List Spt := if i = 0 then [startR root s] else firstB (nowB S P s i)
structure StOk (root : Bool) (s : Spt) : Prop where
 at' : AtOk s.2
 root' : root = true → s.1 = ⟨#[47]⟩
 rel : root = false → s.1 = ⟨#[]⟩
theorem now_at {S : St} (hf : FsOk S) (P : List ByteArray) {root : Bool} {s : Spt} (hs : StOk root s) : ∀ i, ∀ x ∈ nowB S P s i, AtOk x.2
 | 0, x, hx => by
   obtain rfl : x = s := by simpa [nowB] using hx
   exact hs.at'
 | i + 1, x, hx => by
   have ih := now_at hf P hs i
   have hok := (nowB_ok hf P (s := s) (by
     constructor
     · cases root with
       | true => rw [hs.root' rfl]; decide
       | false => rw [hs.rel rfl]; decide
     · obtain ⟨l, hl, e⟩ := hs.at'
       rw [e, bs_size]
       exact hl.len) i).ok
   have key : ∀ p, ∀ y ∈ stepB S (firstB (nowB S P s i)) p, AtOk y.2 := fun p y hy => by
     unfold stepB at hy
     obtain ⟨a, ha, hy2⟩ := List.mem_flatMap.1 hy
     obtain ⟨n, hn, rfl⟩ := List.mem_map.1 hy2
     exact (name_at hf (ih a (firstB_mem hok ha)) hn).1
   unfold nowB at hx
   split at hx
   · exact ih x hx
   · split at hx
     · exact key _ x (List.mem_filter.1 hx).1
     · exact key _ x hx
theorem start_size {root : Bool} {s : Spt} (hs : StOk root s) : s.1.size ≤ 1 ∧ s.2.size ≤ 200 := by
 constructor
 · cases root with
   | true => rw [hs.root' rfl]; decide
   | false => rw [hs.rel rfl]; decide
 · obtain ⟨l, hl, e⟩ := hs.at'
   rw [e, bs_size]
   exact hl.len
theorem now_end {S : St} (hf : FsOk S) (P : List ByteArray) {root : Bool} {s : Spt} (hs : StOk root s) {i : Nat} (hi : i < P.length) : Dist (nowB S P s (i + 1)) ∧ ∀ x ∈ nowB S P s (i + 1), TxEnd x.1 := by
 have hok := nowB_ok hf P (start_size hs) i
 obtain ⟨h1, _, _⟩ := hok.step hf P[i]
 unfold nowB
 rw [List.getElem?_eq_getElem hi]
 dsimp only
 split
 · exact ⟨h1.1.filter _, fun x hx => h1.2 x (List.mem_filter.1 hx).1⟩
 · exact h1
theorem filter_flatMap' {α β : Type} (p : β → Bool) (f : α → List β) (L : List α) : (L.flatMap f).filter p = L.flatMap fun x => (f x).filter p := by
 induction L with
 | nil => rfl
 | cons x L ih => rw [List.flatMap_cons, List.filter_append, ih, List.flatMap_cons]
theorem round_eq {S : St} (hf : FsOk S) (P : List ByteArray) {root : Bool} {s : Spt} (hs : StOk root s) {i : Nat} {p : ByteArray} (hp : P[i]? = some p) :
   (rnowB S P s root i).flatMap (fun d => rstepB S d p (decide (i + 1 = P.length)) (root || decide (0 < i))) = nowB S P s (i + 1) := by
 have hi : i < P.length := (List.getElem?_eq_some_iff.1 hp).1
 have key : (rnowB S P s root i).flatMap (fun d => rstepB S d p (decide (i + 1 = P.length)) (root || decide (0 < i))) = (firstB (nowB S P s i)).flatMap fun s' => if decide (i + 1 = P.length) then (fnamesB S s'.2 p).map (goSp s') else ((fnamesB S s'.2 p).map (goSp s')).filter fun x => !keepB S p x := by
   unfold rnowB
   by_cases h0 : i = 0
   · subst h0
     rw [if_pos rfl, show firstB (nowB S P s 0) = [s] from rfl, List.flatMap_singleton, List.flatMap_singleton]
     have e : (root || decide (0 < 0)) = root := by simp
     rw [e]
     refine step_eq (s := s) (d := startR root s) hf rfl hs.at' ?_ p _
     cases root with
     | true => rw [hs.root' rfl]; rfl
     | false =>
       rw [hs.rel rfl]
       show headT ⟨#[]⟩ = (headR false (startR false s).1).data.toList
       unfold startR headR headT
       rw [if_pos rfl]
       simp [hs.rel rfl]
   · rw [if_neg h0]
     have hi2 : i - 1 < P.length := by omega
     have hend := now_end hf P hs hi2
     rw [Nat.sub_add_cancel (by omega)] at hend
     have hat := now_at hf P hs i
     have hok := (nowB_ok hf P (start_size hs) i).ok
     have ec : ∀ (L : List Spt), (∀ x ∈ L, TxEnd x.1 ∧ AtOk x.2) → L.flatMap (fun d => rstepB S d p (decide (i + 1 = P.length)) (root || decide (0 < i))) = L.flatMap fun s' => if decide (i + 1 = P.length) then (fnamesB S s'.2 p).map (goSp s') else ((fnamesB S s'.2 p).map (goSp s')).filter fun x => !keepB S p x := by
       intro L
       induction L with
       | nil => intro _; rfl
       | cons x L ih =>
         intro h
         rw [List.flatMap_cons, List.flatMap_cons, ih fun y hy => h y (by simp [hy])]
         congr 1
         have e : (root || decide (0 < i)) = true := by simp; right; omega
         rw [e]
         refine step_eq hf rfl (h x (by simp)).2 ?_ p _
         rw [headT_end (h x (by simp)).1]
         unfold headR
         rw [if_pos rfl, ByteArray.data_append, Array.toList_append]
     exact ec _ fun x hx => ⟨hend.2 x (firstB_mem hok hx), hat x (firstB_mem hok hx)⟩
 rw [key, nowB, hp]
 dsimp only
 by_cases hl : i + 1 = P.length
 · rw [if_neg (by omega)]
   simp only [decide_eq_true hl, if_true]
   rfl
 · rw [if_pos (by omega)]
   simp only [decide_eq_false hl, Bool.false_eq_true, if_false]
   unfold stepB
   rw [filter_flatMap']
theorem round_first {S : St} (hf : FsOk S) (P : List ByteArray) {root : Bool} {s : Spt} (hs : StOk root s) {i : Nat} {p : ByteArray} (hp : P[i]? = some p) :
   ((rnowB S P s root i).flatMap (fun d => rstepB S d p (decide (i + 1 = P.length)) (root || decide (0 < i)))).foldl keepS [] = rnowB S P s root (i + 1) := by
 have hi : i < P.length := (List.getElem?_eq_some_iff.1 hp).1
 rw [round_eq hf P hs hp, keep_first (Dist.nodup (now_end hf P hs hi).1)]
 rfl
end
section
open Go.RowKit Go.Deep Go.Maps Ln Pth Vf Qm.Glob
theorem run_copyN (P : Program) (w : World) (dT sT ty elem : TypeId) (m g o dLen dCap : Nat) (a : Addr) (sLen sCap : Nat) (cur : Array Value) (t : TypeId) (cs : List Value)
   (hu : P.underlying dT = some (.slice elem)) (hs : (P.info? elem).map (·.size) = some m)
   (hg : w.heap[g]? = some (.cells cur t (0, 0))) (hn : cs.length = Nat.min sLen dLen * m)
   (hsrc : ∀ j v, cs[j]? = some v → w.cell? (a.add j) = some v) (hfit : o + cs.length ≤ cur.size) (h1 : ∀ v ∈ cs, v.oneCell' = true) :
   (Builtin.copy_ #[dT, sT] ty #[.slice (some ⟨g, o, none⟩) dLen dCap, .slice (some a) sLen sCap]).run P w =
     .ok (goInt (Nat.min sLen dLen)) (w.setRow g (cur.toList.take o ++ cs ++ cur.toList.drop (o + cs.length)).toArray) := by
 have hl := run_loadCells_list (P := P) w a cs hsrc
 have hst := run_storeCells_at P g o t cs 0 cur w hg (by simpa using hfit) h1
 cases hq : P.info? elem with
 | none => simp [hq] at hs
 | some i =>
   have hi : i.size = m := by simpa [hq] using hs
   simp [Builtin.copy_, run_underlying hu, Builtin.lenOf, Builtin.firstCells, sizeOf, typeInfo, hq, hi, ← hn, hl, hst]
theorem run_copyN_none (P : Program) (w : World) (dT sT ty elem : TypeId) (d a : Option Addr) (dLen dCap sLen sCap : Nat) (hu : P.underlying dT = some (.slice elem)) (hs : (P.info? elem).isSome = true) (hn : Nat.min sLen dLen = 0) :
   (Builtin.copy_ #[dT, sT] ty #[.slice d dLen dCap, .slice a sLen sCap]).run P w = .ok (goInt 0) w := by
 cases hq : P.info? elem with
 | none => simp [hq] at hs
 | some i =>
   have hl : ∀ (x : Addr), (loadCells x 0).run P w = .ok #[] w := fun x => by simpa using run_loadCells_list (P := P) w x [] (by simp)
   cases d <;> cases a <;> simp [Builtin.copy_, run_underlying hu, Builtin.lenOf, Builtin.firstCells, sizeOf, typeInfo, hq, hn, storeCells, hl]
def encFd (x : Spt) : List Value := [.string x.1, .string x.2]
theorem encFd_len (x : Spt) : (encFd x).length = 2 := rfl
theorem encFd_one (x : Spt) : ∀ u ∈ encFd x, u.oneCell' = true := by
 intro u hu
 simp [encFd] at hu
 rcases hu with rfl | rfl <;> rfl
abbrev fdty : TypeId := 125
def rowFd : RowT Tryz.prog 128 125 2 := { z := .agg #[.string ⟨#[]⟩, .string ⟨#[]⟩], bytes := 32, und := Tryz.underlying128, info := by kernel_rfl, zlen := rfl, pos := by omega, sb := by omega }
abbrev OwnFd (w : World) (base : Nat) (v : Value) (L : List Spt) : Prop := OwnG encFd 2 fdty w base v L
theorem putG_atK {x : Spt} : ∀ {L : List Spt} {k : Nat}, k ≤ L.length → (∀ y ∈ L.take k, sLt y.1 x.1 = true) → (∀ y ∈ L.drop k, sLt x.1 y.1 = true) → putG x L = L.take k ++ [x] ++ L.drop k
 | [], k, hk, _, _ => by
   obtain rfl : k = 0 := by simpa using hk
   rfl
 | y :: L, 0, _, _, h2 => by
   have h := h2 y (by simp)
   rw [putG, if_neg, if_neg]
   · rfl
   · intro e
     rw [e, sLt_irr] at h
     cases h
   · intro e
     have := sLt_trans _ _ _ h e
     rw [sLt_irr] at this
     cases this
 | y :: L, k + 1, hk, h1, h2 => by
   rw [putG, if_pos (h1 y (by simp)), putG_atK (k := k) (by simpa using hk) (fun z hz => h1 z (by simp [hz])) (fun z hz => h2 z (by simpa using hz))]
   simp
theorem keepS_at {x : Spt} {L : List Spt} {k : Nat} (hk : k ≤ L.length) (h1 : ∀ y ∈ L.take k, sLt y.1 x.1 = true) (h2 : ∀ y ∈ L.drop k, sLt x.1 y.1 = true) : keepS L x = (L.take k ++ [x] ++ L.drop k).take 500 := by
 unfold keepS
 rw [if_neg, putG_atK hk h1 h2]
 intro hm
 obtain ⟨y, hy, e⟩ := List.any_eq_true.1 hm
 have e := of_decide_eq_true e
 rw [← List.take_append_drop k L] at hy
 rcases List.mem_append.1 hy with hy | hy
 · have := h1 y hy
   rw [e, sLt_irr] at this
   cases this
 · have := h2 y hy
   rw [e, sLt_irr] at this
   cases this
theorem keepS_there {x y : Spt} {L : List Spt} (h : y ∈ L) (e : y.1 = x.1) : keepS L x = L := if_pos (List.any_eq_true.2 ⟨y, h, decide_eq_true e⟩)
theorem keepS_rise {x : Spt} {L : List Spt} (h : RiseG L) : RiseG (keepS L x) := by
 unfold keepS
 split
 · exact h
 · exact (h.put x).sublist (List.take_sublist _ _)
theorem keepS_len {x : Spt} {L : List Spt} (h : L.length ≤ 500) : (keepS L x).length ≤ 500 := by
 unfold keepS
 split
 · exact h
 · rw [List.length_take]; omega
theorem keepS_full {x : Spt} {L : List Spt} (hl : 500 ≤ L.length) (hu : L.length ≤ 500) (h1 : ∀ y ∈ L, sLt y.1 x.1 = true) : keepS L x = L := by
 rw [keepS_at (k := L.length) (Nat.le_refl _) (fun y hy => h1 y (List.mem_of_mem_take hy)) (by simp), List.take_length, List.drop_length, List.append_nil, List.take_append_of_le_length (by omega), List.take_of_length_le (by omega)]
theorem row_open {w : World} {base g n c : Nat} {L : List Spt} (h : OwnFd w base (.slice (some ⟨g, 0, none⟩) n c) L) : n = L.length ∧ base ≤ g ∧ L.length ≤ c ∧ ∃ cur : Array Value, w.heap[g]? = some (.cells cur fdty (0, 0)) ∧ c ≤ maxLen ∧ cur.size = c * 2 ∧ cur.toList.take (L.length * 2) = valsG encFd L := by
 rcases h.2 with ⟨e, _⟩ | ⟨g', cap, cur, e, hb, hgg, hn, hm, hsz, htk⟩
 · cases e
 · injection e with e1 e2 e3
   injection e1 with e1
   injection e1 with e1
   subst e1 e3
   exact ⟨e2, hb, hn, cur, hgg, hm, hsz, htk⟩
theorem row_shut {w : World} {base g c : Nat} {L : List Spt} (hb : base ≤ g) (hn : L.length ≤ c) {cur : Array Value} (hg : w.heap[g]? = some (.cells cur fdty (0, 0))) (hm : c ≤ maxLen) (hsz : cur.size = c * 2) (htk : cur.toList.take (L.length * 2) = valsG encFd L) : OwnFd w base (.slice (some ⟨g, 0, none⟩) L.length c) L :=
 ⟨valsG_len encFd_len L, .inr ⟨g, c, cur, rfl, hb, hg, hn, hm, hsz, htk⟩⟩
theorem gb_row (w : World) (g : Nat) (cs : Array Value) : w.grownBy (w.setRow g cs) (some g) := ⟨rfl, rfl, rfl, by simp [World.setRow], fun k hk hne => setRow_other w g k cs (by intro e; exact hne (by rw [e]))⟩
theorem OwnFd.move {w : World} {base g c k : Nat} {L : List Spt} {z : Spt} (h : OwnFd w base (.slice (some ⟨g, 0, none⟩) (L.length + 1) c) (L ++ [z])) (hk : k < L.length) (dC sC : Nat) :
   ∃ w', (Builtin.copy_ #[128, 128] 3 #[.slice (some ⟨g, (k + 1) * 2, none⟩) (L.length - k) dC, .slice (some ⟨g, k * 2, none⟩) (L.length + 1 - k) sC]).run Tryz.prog w = .ok (.int .i64 ((L.length - k : Nat) : Int)) w' ∧ w.grownBy w' (some g) ∧
     OwnFd w' base (.slice (some ⟨g, 0, none⟩) (L.length + 1) c) (L.take (k + 1) ++ L.drop k) := by
 obtain ⟨_, hb, hn, cur, hgg, hm, hsz, htk⟩ := row_open h
 have hnl : (L ++ [z]).length = L.length + 1 := by simp
 rw [hnl] at htk hn
 have hv1 : cur.toList.take ((k + 1) * 2) = valsG encFd (L.take (k + 1)) := by
   have := congrArg (List.take ((k + 1) * 2)) htk
   rw [List.take_take, Nat.min_eq_left (by omega), valsG_take encFd_len] at this
   rw [this, List.take_append_of_le_length (by omega)]
 have hcl : (valsG encFd (L.drop k)).length = (L.length - k) * 2 := by rw [valsG_len encFd_len, List.length_drop]
 have hv2 : ∀ j, j < (L.length - k) * 2 → cur.toList[k * 2 + j]? = (valsG encFd (L.drop k))[j]? := fun j hj => by
   have h1 : cur.toList[k * 2 + j]? = (cur.toList.take ((L.length + 1) * 2))[k * 2 + j]? := by rw [List.getElem?_take_of_lt (by omega)]
   have hsp : L ++ [z] = L.take k ++ (L.drop k ++ [z]) := by rw [← List.append_assoc, List.take_append_drop]
   have htl : (valsG encFd (L.take k)).length = k * 2 := by rw [valsG_len encFd_len, List.length_take, Nat.min_eq_left (by omega)]
   rw [h1, htk, hsp, valsG_app, List.getElem?_append_right (by rw [htl]; omega), htl, valsG_app, List.getElem?_append_left (by rw [hcl]; omega)]
   congr 1
   omega
 have hmin : Nat.min (L.length + 1 - k) (L.length - k) = L.length - k := Nat.min_eq_right (by omega)
 have hrun := run_copyN Tryz.prog w 128 128 3 fdty 2 g ((k + 1) * 2) (L.length - k) dC ⟨g, k * 2, none⟩ (L.length + 1 - k) sC cur fdty (valsG encFd (L.drop k)) Tryz.underlying128 (by kernel_rfl) hgg (by rw [hcl, hmin])
   (fun j v hj => by
     have hj2 : j < (L.length - k) * 2 := by rw [← hcl]; exact (List.getElem?_eq_some_iff.1 hj).1
     have e : (⟨g, k * 2, none⟩ : Addr).add j = ⟨g, k * 2 + j, none⟩ := by
       unfold Addr.add
       split
       · rename_i h0
         rw [h0]
         rfl
       · rfl
     rw [e]
     unfold World.cell?
     rw [hgg]
     have := hv2 j hj2
     rw [hj, Array.getElem?_toList] at this
     simpa using this)
   (by rw [hcl, hsz]; omega) (fun v hv => by
     obtain ⟨x, _, hx⟩ := List.mem_flatMap.1 hv
     exact encFd_one x v hx)
 rw [hmin] at hrun
 refine ⟨_, hrun, gb_row _ _ _, ?_⟩
 have hl2 : (L.take (k + 1) ++ L.drop k).length = L.length + 1 := by rw [List.length_append, List.length_take, List.length_drop]; omega
 have hh := setRow_heap w g cur (cur.toList.take ((k + 1) * 2) ++ valsG encFd (L.drop k) ++ cur.toList.drop ((k + 1) * 2 + (valsG encFd (L.drop k)).length)).toArray fdty _ hgg
 rw [← hl2]
 refine row_shut hb (by rw [hl2]; exact hn) hh hm ?_ ?_
 · simp only [List.size_toArray, List.length_append, List.length_take, List.length_drop, Array.length_toList, hcl, hsz]
   omega
 · rw [hl2, valsG_app, List.take_append_of_le_length, List.take_of_length_le, hv1]
   · simp only [List.length_append, List.length_take, Array.length_toList, hcl, hsz]; omega
   · simp only [List.length_append, List.length_take, Array.length_toList, hcl, hsz]; omega
theorem set_mid (va vb : List Value) (y1 y2 x1 x2 : Value) : ((va ++ y1 :: y2 :: vb).set va.length x1).set (va.length + 1) x2 = va ++ x1 :: x2 :: vb := by
 rw [List.set_append_right _ _ (Nat.le_refl _), Nat.sub_self, List.set_cons_zero, List.set_append_right _ _ (Nat.le_succ _), show va.length + 1 - va.length = 1 from by omega]
 rfl
theorem OwnFd.put {w : World} {base g n c : Nat} {A B : List Spt} {y : Spt} (h : OwnFd w base (.slice (some ⟨g, 0, none⟩) n c) (A ++ [y] ++ B)) (x : Spt) {k : Nat} (hk : k = A.length) :
   (∃ u0 u1, w.cell? ⟨g, k * 2, none⟩ = some u0 ∧ w.frozen? ⟨g, k * 2, none⟩ = false ∧ (w.setCell ⟨g, k * 2, none⟩ (.string x.1)).cell? ⟨g, k * 2 + 1, none⟩ = some u1 ∧ (w.setCell ⟨g, k * 2, none⟩ (.string x.1)).frozen? ⟨g, k * 2 + 1, none⟩ = false) ∧
   OwnFd ((w.setCell ⟨g, k * 2, none⟩ (.string x.1)).setCell ⟨g, k * 2 + 1, none⟩ (.string x.2)) base (.slice (some ⟨g, 0, none⟩) n c) (A ++ [x] ++ B) ∧
   w.grownBy ((w.setCell ⟨g, k * 2, none⟩ (.string x.1)).setCell ⟨g, k * 2 + 1, none⟩ (.string x.2)) (some g) := by
 subst hk
 obtain ⟨hn0, hb, hn, cur, hgg, hm, hsz, htk⟩ := row_open h
 have hl : (A ++ [y] ++ B).length = A.length + 1 + B.length := by simp; omega
 have hl' : (A ++ [x] ++ B).length = A.length + 1 + B.length := by simp; omega
 have hva : (valsG encFd A).length = A.length * 2 := valsG_len encFd_len A
 have hcl : cur.toList = valsG encFd A ++ .string y.1 :: .string y.2 :: (valsG encFd B ++ cur.toList.drop ((A.length + 1 + B.length) * 2)) := by
   conv => lhs; rw [← List.take_append_drop ((A.length + 1 + B.length) * 2) cur.toList]
   rw [← hl, htk, valsG_app, valsG_app]
   simp [valsG, encFd]
 have hlt : A.length * 2 + 1 < cur.size := by rw [hsz]; omega
 have h1 : (w.setCell ⟨g, A.length * 2, none⟩ (.string x.1)).heap[g]? = some (.cells (cur.setIfInBounds (A.length * 2) (.string x.1)) fdty (0, 0)) := heapSet hgg _
 have h2 : ((w.setCell ⟨g, A.length * 2, none⟩ (.string x.1)).setCell ⟨g, A.length * 2 + 1, none⟩ (.string x.2)).heap[g]? = some (.cells ((cur.setIfInBounds (A.length * 2) (.string x.1)).setIfInBounds (A.length * 2 + 1) (.string x.2)) fdty (0, 0)) := heapSet h1 _
 refine ⟨⟨cur[A.length * 2], (cur.setIfInBounds (A.length * 2) (.string x.1))[A.length * 2 + 1]'(by simpa using hlt), cellOf hgg (Array.getElem?_eq_getElem _), freeOf hgg _, cellOf h1 (Array.getElem?_eq_getElem _), freeOf h1 _⟩, ?_, ?_⟩
 · rw [hn0, hl, ← hl']
   refine row_shut hb (by rw [hl', ← hl]; exact hn) h2 hm (by simpa using hsz) ?_
   rw [Array.toList_setIfInBounds, Array.toList_setIfInBounds, hcl, ← hva, set_mid, hl']
   have e : valsG encFd A ++ .string x.1 :: .string x.2 :: (valsG encFd B ++ cur.toList.drop ((A.length + 1 + B.length) * 2)) = valsG encFd (A ++ [x] ++ B) ++ cur.toList.drop ((A.length + 1 + B.length) * 2) := by
     rw [valsG_app, valsG_app]
     simp [valsG, encFd]
   rw [e, List.take_append_of_le_length (by rw [valsG_len encFd_len, hl']; exact Nat.le_refl _), List.take_of_length_le (by rw [valsG_len encFd_len, hl']; exact Nat.le_refl _)]
 · exact ⟨rfl, rfl, rfl, by simp, fun k hk hne => by
     rw [Below.heap_setCell _ _ _ _ (by intro e; exact hne (by rw [e])), Below.heap_setCell _ _ _ _ (by intro e; exact hne (by rw [e]))]⟩
theorem OwnFd.take {w : World} {base g n c : Nat} {L : List Spt} (h : OwnFd w base (.slice (some ⟨g, 0, none⟩) n c) L) {k : Nat} (hk : k ≤ L.length) : OwnFd w base (.slice (some ⟨g, 0, none⟩) k c) (L.take k) := by
 obtain ⟨_, hb, hn, cur, hgg, hm, hsz, htk⟩ := row_open h
 have hl : (L.take k).length = k := by rw [List.length_take]; omega
 have := row_shut (L := L.take k) hb (by omega) hgg hm hsz (by
   rw [hl, ← valsG_take encFd_len, ← htk, List.take_take, Nat.min_eq_left (by omega)])
 rw [hl] at this
 exact this
end
end Go.Proofs.YtmcophlmcloooaaGreatDoor
