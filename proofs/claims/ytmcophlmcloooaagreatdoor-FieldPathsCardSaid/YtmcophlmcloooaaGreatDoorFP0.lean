/- Walks and plain facts that the claim uses. -/
import Derived.Maps.Views
import Derived.Sort.Walk0
import Derived.Lib.Hide
import Derived.StringKeys
import Derived.Sort.KeysCollected
import Derived.WalkKit
import Derived.ProofKit
import Derived.Below
import Derived.Test.YtmcophlmcloooaaGreatDoorProg
import Derived.WalkSpells
import Derived.WalkLawsBesides
import Derived.Handy
import Derived.BigQuiet
import Derived.Deep.QuietTactic
import Derived.Deep.OwnRows
import Derived.StillTailTactics
import Derived.Deep.Light
import Derived.Deep.DeepCutAuto
import Derived.Deep.CutRange
import Derived.Deep.LoopGhost
import Derived.Deep.DeepFit
import Derived.Maps.AppendAt
import Derived.Deep.AppendLies
import Derived.ShutString
import Derived.Maps.OwnSet
import Derived.Maps.StringElems
import Derived.Lib.SlicesS
import Derived.Shelf.Spec.SlicesGrow
import Derived.Ground.Names8Prog
import Derived.Ground.SlsfProg
import Derived.Shelf.SlSortCmp.NoneTotal
import Derived.Sort.Grow
import Derived.Lib.Strings
import Derived.Lib.Bytealg
import Derived.Laws.IdiomCopy
import Derived.Lib.SliceRun
import Derived.Lib.SplitLaws
import Derived.Lib.SlicesCompact
import Derived.Laws.AppendOwn
set_option maxRecDepth 100000
set_option maxHeartbeats 16000000
set_option linter.unusedSimpArgs false
set_option linter.unusedVariables false
namespace Go.Proofs.YtmcophlmcloooaaGreatDoor
theorem gE {α : Type} {l : List α} {i : Nat} (h : i < l.length) : l[i]? = some l[i] := List.getElem?_eq_getElem h
end Go.Proofs.YtmcophlmcloooaaGreatDoor
namespace Go.Proofs.YtmcophlmcloooaaGreatDoor
section
open Go.RowKit Go.Maps
def kLit (s : ByteArray) : Lit := .string s.data.toList
theorem kLit_inj {a b : ByteArray} (h : kLit a = kLit b) : a = b := by
 injection h with h
 exact ByteArray.ext (Array.ext' h)
def sLt (a b : ByteArray) : Bool := Op.bytesLess a.toList b.toList
theorem before_lt : ∀ a b : List UInt8, bytesBefore a b = decide (a < b)
 | [], [] => by simp [bytesBefore]
 | [], _ :: _ => by simp [bytesBefore]
 | _ :: _, [] => by simp [bytesBefore]
 | a :: r, b :: s => by
   rw [bytesBefore, before_lt r s, Bool.eq_iff_iff]
   simp only [Bool.or_eq_true, Bool.and_eq_true, decide_eq_true_eq, beq_iff_eq, List.cons_lt_cons_iff]
theorem sLt_iff (a b : ByteArray) : sLt a b = true ↔ a.data.toList < b.data.toList := by
 rw [sLt, bytesLess_eq, ByteArray.toList_eq, ByteArray.toList_eq, decide_eq_true_iff]
theorem before_sLt (a b : ByteArray) : (kLit a).before (kLit b) = sLt a b := by
 show bytesBefore a.data.toList b.data.toList = _
 rw [before_lt, Bool.eq_iff_iff, sLt_iff, decide_eq_true_iff]
theorem sLt_irr (a : ByteArray) : sLt a a = false := by
 rw [← Bool.not_eq_true, sLt_iff]; exact List.lt_irrefl _
theorem sLt_trans (a b c : ByteArray) (h : sLt a b = true) (k : sLt b c = true) : sLt a c = true :=
 (sLt_iff a c).2 (List.lt_trans ((sLt_iff a b).1 h) ((sLt_iff b c).1 k))
theorem sLt_tot (a b : ByteArray) (h : sLt a b = false) : a = b ∨ sLt b a = true := by
 rw [← Bool.not_eq_true, sLt_iff] at h
 by_cases k : sLt b a = true
 · exact .inr k
 · rw [sLt_iff] at k
   exact .inl (ByteArray.ext (Array.ext' (List.le_antisymm (List.not_lt.1 k) (List.not_lt.1 h))))
theorem same_kLit (a b : ByteArray) : (kLit a).sameKey (kLit b) = decide (a = b) := by
 rw [Bool.eq_iff_iff, decide_eq_true_iff]
 constructor
 · intro h; exact kLit_inj (WideAt.sameKey_eq h)
 · rintro rfl; exact WideAt.sameKey_self (by simp [kLit, WideAt.IsKeyLit])
section
variable {α H : Type}
abbrev KV (α : Type) := List (ByteArray × α)
def getG (P : KV α) (n : ByteArray) : Option α := (P.find? fun x => decide (x.1 = n)).map (·.2)
def putG (x : ByteArray × α) : KV α → KV α
 | [] => [x]
 | y :: P => if sLt y.1 x.1 = true then y :: putG x P else if y.1 = x.1 then x :: P else x :: y :: P
def delG (n : ByteArray) (P : KV α) : KV α := P.filter fun x => !decide (x.1 = n)
def RiseG (P : KV α) : Prop := P.Pairwise fun a b => sLt a.1 b.1 = true
theorem getG_nil (n : ByteArray) : getG ([] : KV α) n = none := rfl
theorem getG_cons (y : ByteArray × α) (P : KV α) (n : ByteArray) : getG (y :: P) n = if y.1 = n then some y.2 else getG P n := by
 unfold getG
 rw [List.find?_cons]
 by_cases h : y.1 = n <;> simp [h]
theorem getG_del (P : KV α) (m n : ByteArray) : getG (delG m P) n = if m = n then none else getG P n := by
 unfold delG
 induction P with
 | nil => simp [getG]
 | cons y P ih =>
   rw [List.filter_cons]
   by_cases h : y.1 = m
   · rw [if_neg (by simp [h]), ih, getG_cons, h]
     by_cases e : m = n <;> simp [e]
   · rw [if_pos (by simp [h]), getG_cons, ih, getG_cons]
     by_cases e : m = n
     · subst e; simp [h]
     · simp [e]
theorem getG_put (x : ByteArray × α) (n : ByteArray) : ∀ P : KV α, getG (putG x P) n = if x.1 = n then some x.2 else getG P n
 | [] => by rw [putG, getG_cons]
 | y :: P => by
   rw [putG]
   by_cases h : sLt y.1 x.1 = true
   · rw [if_pos h, getG_cons, getG_put x n P, getG_cons]
     by_cases e : x.1 = n
     · have : y.1 ≠ n := fun e2 => by rw [e2, ← e, sLt_irr] at h; cases h
       simp [e, this]
     · simp [e]
   · rw [if_neg h]
     by_cases e : y.1 = x.1
     · rw [if_pos e, getG_cons, getG_cons, e]
       by_cases e2 : x.1 = n <;> simp [e2]
     · rw [if_neg e, getG_cons]
theorem RiseG.nil : RiseG ([] : KV α) := List.Pairwise.nil
theorem RiseG.del {P : KV α} (h : RiseG P) (n : ByteArray) : RiseG (delG n P) := List.Pairwise.filter _ h
theorem mem_putG {x z : ByteArray × α} : ∀ {P : KV α}, z ∈ putG x P → z = x ∨ z ∈ P
 | [], h => by simpa [putG] using h
 | y :: P, h => by
   rw [putG] at h
   split at h
   · rcases List.mem_cons.1 h with h | h
     · exact .inr (by simp [h])
     · rcases mem_putG h with h | h
       · exact .inl h
       · exact .inr (by simp [h])
   · split at h
     · rcases List.mem_cons.1 h with h | h
       · exact .inl h
       · exact .inr (by simp [h])
     · rcases List.mem_cons.1 h with h | h
       · exact .inl h
       · exact .inr h
theorem RiseG.put (x : ByteArray × α) : ∀ {P : KV α}, RiseG P → RiseG (putG x P)
 | [], _ => by simp [RiseG, putG]
 | y :: P, h => by
   have h1 := List.pairwise_cons.1 h
   rw [putG]
   by_cases e : sLt y.1 x.1 = true
   · rw [if_pos e]
     refine List.pairwise_cons.2 ⟨fun z hz => ?_, RiseG.put x h1.2⟩
     rcases mem_putG hz with rfl | hz
     · exact e
     · exact h1.1 z hz
   · rw [if_neg e]
     by_cases e2 : y.1 = x.1
     · rw [if_pos e2]
       exact List.pairwise_cons.2 ⟨fun z hz => e2 ▸ h1.1 z hz, h1.2⟩
     · rw [if_neg e2]
       have e3 : sLt x.1 y.1 = true := (sLt_tot y.1 x.1 (by simpa using e)).resolve_left e2
       refine List.pairwise_cons.2 ⟨fun z hz => ?_, h⟩
       rcases List.mem_cons.1 hz with rfl | hz
       · exact e3
       · exact sLt_trans _ _ _ e3 (h1.1 z hz)
theorem RiseG.ne {y : ByteArray × α} {P : KV α} (h : RiseG (y :: P)) : ∀ z ∈ P, z.1 ≠ y.1 := fun z hz e => by
 have := (List.pairwise_cons.1 h).1 z hz
 rw [e, sLt_irr] at this; cases this
theorem getG_none_of {n : ByteArray} {P : KV α} (h : ∀ z ∈ P, z.1 ≠ n) : getG P n = none := by
 unfold getG
 rw [List.find?_eq_none.2 (fun z hz => by simpa using h z hz)]; rfl
theorem getG_mem {n : ByteArray} {v : α} {P : KV α} (h : getG P n = some v) : (n, v) ∈ P := by
 unfold getG at h
 cases hf : P.find? (fun x => decide (x.1 = n)) with
 | none => rw [hf] at h; cases h
 | some y =>
   rw [hf] at h
   have h1 := List.mem_of_find?_eq_some hf
   have h2 := List.find?_some hf
   have h3 : y.2 = v := by simpa using h
   have h4 : y.1 = n := by simpa using h2
   rw [← h3, ← h4]; exact h1
theorem mem_getG {n : ByteArray} {v : α} : ∀ {P : KV α}, RiseG P → (n, v) ∈ P → getG P n = some v
 | [], _, h => by cases h
 | y :: P, hr, h => by
   rw [getG_cons]
   rcases List.mem_cons.1 h with rfl | h
   · rw [if_pos rfl]
   · rw [if_neg (fun e => RiseG.ne hr _ h e.symm)]
     exact mem_getG (List.pairwise_cons.1 hr).2 h
theorem putG_len (x : ByteArray × α) : ∀ {P : KV α}, RiseG P → (putG x P).length = if (getG P x.1).isSome then P.length else P.length + 1
 | [], _ => by simp [putG, getG]
 | y :: P, h => by
   have h1 := List.pairwise_cons.1 h
   rw [putG, getG_cons]
   by_cases e : sLt y.1 x.1 = true
   · have e2 : y.1 ≠ x.1 := fun e2 => by rw [e2, sLt_irr] at e; cases e
     rw [if_pos e, if_neg e2, List.length_cons, putG_len x h1.2]
     split <;> simp
   · rw [if_neg e]
     by_cases e2 : y.1 = x.1
     · simp [e2]
     · have e3 : sLt x.1 y.1 = true := (sLt_tot y.1 x.1 (by simpa using e)).resolve_left e2
       have e4 : getG P x.1 = none := getG_none_of (fun z hz e5 => by
         have := sLt_trans _ _ _ e3 (h1.1 z hz)
         rw [e5, sLt_irr] at this; cases this)
       rw [if_neg e2, if_neg e2, e4]
       simp
theorem delG_len (n : ByteArray) : ∀ {P : KV α}, RiseG P → (delG n P).length + (if (getG P n).isSome then 1 else 0) = P.length
 | [], _ => rfl
 | y :: P, h => by
   have h1 := List.pairwise_cons.1 h
   have ih := delG_len n h1.2
   unfold delG at ih ⊢
   rw [List.filter_cons, getG_cons]
   by_cases e : y.1 = n
   · subst e
     have e4 : getG P y.1 = none := getG_none_of (RiseG.ne h)
     rw [e4] at ih
     rw [if_neg (by simp), if_pos rfl]
     simp at ih ⊢
     omega
   · rw [if_pos (by simpa using e), if_neg e]
     simp only [List.length_cons]
     omega
theorem RiseG.ext {P Q : KV α} (hP : RiseG P) (hQ : RiseG Q) (h : ∀ n, getG P n = getG Q n) : P = Q := by
 induction P generalizing Q with
 | nil =>
   cases Q with
   | nil => rfl
   | cons y Q => have := h y.1; rw [getG_nil, getG_cons, if_pos rfl] at this; cases this
 | cons x P ih =>
   cases Q with
   | nil => have := h x.1; rw [getG_nil, getG_cons, if_pos rfl] at this; cases this
   | cons y Q =>
     have a1 := List.pairwise_cons.1 hP
     have a2 := List.pairwise_cons.1 hQ
     have hxy : x.1 = y.1 := by
       have m1 := getG_mem (P := y :: Q) (n := x.1) (v := x.2) (by rw [← h, getG_cons, if_pos rfl])
       have m2 := getG_mem (P := x :: P) (n := y.1) (v := y.2) (by rw [h, getG_cons, if_pos rfl])
       rcases List.mem_cons.1 m1 with e | m1
       · exact congrArg Prod.fst e
       · rcases List.mem_cons.1 m2 with e | m2
         · exact (congrArg Prod.fst e).symm
         · have l1 := a2.1 _ m1
           have l2 := a1.1 _ m2
           have := sLt_trans _ _ _ l1 l2
           rw [sLt_irr] at this; cases this
     have hv : x.2 = y.2 := by
       have := h x.1
       rw [getG_cons, getG_cons, if_pos rfl, if_pos hxy.symm] at this
       injection this
     have he : x = y := Prod.ext hxy hv
     subst he
     rw [ih a1.2 a2.2 (fun n => ?_)]
     by_cases hn : x.1 = n
     · subst hn
       rw [getG_none_of (RiseG.ne hP), getG_none_of (RiseG.ne hQ)]
     · have := h n
       rw [getG_cons, getG_cons, if_neg hn, if_neg hn] at this
       exact this
def datG (f : α → DataW H) (P : KV α) : DataW H := .map (P.map fun x => (kLit x.1, f x.2))
variable (f : α → DataW H)
theorem datG_has (P : KV α) (n : ByteArray) : Maps.has (datG f P) (kLit n) = (getG P n).isSome := by
 unfold datG
 rw [Maps.has_eq]
 induction P with
 | nil => rfl
 | cons y P ih =>
   rw [List.map_cons, List.any_cons, ih, getG_cons, same_kLit]
   by_cases e : y.1 = n <;> simp [e]
theorem datG_at (P : KV α) (n : ByteArray) (z : DataW H) : (datG f P).atKey (kLit n) z = (match getG P n with | some v => f v | none => z) := by
 unfold datG DataW.atKey
 simp only
 induction P with
 | nil => rfl
 | cons y P ih =>
   rw [List.map_cons, List.find?_cons, getG_cons, same_kLit]
   by_cases e : y.1 = n
   · simp [e]
   · rw [if_neg e]
     simp only [decide_eq_false e]
     exact ih
theorem datG_size (P : KV α) : Maps.size (datG f P) = P.length := by
 unfold datG; rw [Maps.size_eq, List.length_map]
theorem datG_del (P : KV α) (n : ByteArray) : (datG f P).del (kLit n) = datG f (delG n P) := by
 unfold datG DataW.del delG
 simp only
 congr 1
 induction P with
 | nil => rfl
 | cons y P ih =>
   rw [List.map_cons, List.filter_cons, List.filter_cons, same_kLit]
   by_cases e : y.1 = n
   · rw [if_neg (by simp [e]), if_neg (by simp [e])]; exact ih
   · rw [if_pos (by simp [e]), if_pos (by simp [e]), List.map_cons, ih]
theorem datG_put {P : KV α} (h : RiseG P) (n : ByteArray) (v : α) : (datG f P).put (kLit n) (f v) = datG f (putG (n, v) P) := by
 have hd : (datG f P).put (kLit n) (f v) = .map (DataW.insert (kLit n, f v) ((delG n P).map fun x => (kLit x.1, f x.2))) := by
   have := datG_del f P n
   unfold datG DataW.del at this
   unfold datG DataW.put
   injection this with this
   simp only [this]
 rw [hd]
 unfold datG
 congr 1
 induction P with
 | nil => rfl
 | cons y P ih =>
   have h1 := List.pairwise_cons.1 h
   have ih := ih h1.2 (by
     have := datG_del f P n
     unfold datG DataW.del at this
     unfold datG DataW.put
     injection this with this
     simp only [this])
   rw [putG]
   unfold delG
   rw [List.filter_cons]
   by_cases e : sLt y.1 n = true
   · have e2 : y.1 ≠ n := fun e2 => by rw [e2, sLt_irr] at e; cases e
     rw [if_pos e, if_pos (by simpa using e2), List.map_cons, List.map_cons, DataW.insert, before_sLt]
     have e3 : sLt n y.1 = false := by
       cases hc : sLt n y.1 with
       | false => rfl
       | true => have := sLt_trans _ _ _ e hc; rw [sLt_irr] at this; cases this
     rw [e3]
     simp only [Bool.false_eq_true, if_false]
     rw [← ih]; rfl
   · have hfil : P.filter (fun x => !decide (x.1 = n)) = P := by
       apply List.filter_eq_self.2
       intro z hz
       have : sLt n z.1 = true := by
         rcases sLt_tot y.1 n (by simpa using e) with e2 | e2
         · rw [← e2]; exact h1.1 z hz
         · exact sLt_trans _ _ _ e2 (h1.1 z hz)
       have : z.1 ≠ n := fun e5 => by rw [e5, sLt_irr] at this; cases this
       simpa using this
     rw [if_neg e]
     by_cases e2 : y.1 = n
     · rw [if_pos e2, if_neg (by simp [e2]), hfil, List.map_cons]
       cases P with
       | nil => rfl
       | cons z P =>
         rw [List.map_cons, DataW.insert, before_sLt]
         have hz : sLt n z.1 = true := by rw [← e2]; exact h1.1 z (by simp)
         rw [if_pos hz]
     · have e3 : sLt n y.1 = true := (sLt_tot y.1 n (by simpa using e)).resolve_left e2
       rw [if_neg e2, if_pos (by simp [e2]), hfil, List.map_cons, DataW.insert, before_sLt, if_pos e3, List.map_cons, List.map_cons]
end
end
section
open Go.RowKit
structure Kp (w w' : World) (S : Nat → Prop) : Prop where
 os : w'.os = w.os
 tape : w'.tape = w.tape
 output : w'.output = w.output
 size : w.heap.size ≤ w'.heap.size
 block : ∀ k, k < w.heap.size → ¬ S k → w'.heap[k]? = w.heap[k]?
theorem Kp.below {w w' : World} {S : Nat → Prop} (h : Kp w w' S) {B : Nat} {a : World} (ha : Below B a w) (hB : B ≤ a.heap.size) (hS : ∀ k, S k → B ≤ k) : Below B a w' :=
 ha.trans ⟨h.os, h.tape, h.output, h.size, fun k hk => h.block k (by have := ha.size; omega) (fun c => by have := hS k c; omega)⟩
theorem Kp.refl (w : World) (S : Nat → Prop) : Kp w w S := ⟨rfl, rfl, rfl, Nat.le_refl _, fun _ _ _ => rfl⟩
theorem Kp.of_below {w w' : World} (h : Below w.heap.size w w') (S : Nat → Prop) : Kp w w' S := ⟨h.os, h.tape, h.output, h.size, fun k hk _ => h.block k hk⟩
theorem Kp.mono {w w' : World} {S S' : Nat → Prop} (h : Kp w w' S) (hS : ∀ k, S k → S' k) : Kp w w' S' := ⟨h.os, h.tape, h.output, h.size, fun k hk hn => h.block k hk (fun c => hn (hS k c))⟩
theorem Kp.trans {w w' w'' : World} {S : Nat → Prop} (h : Kp w w' S) (h' : Kp w' w'' (fun k => S k ∨ w.heap.size ≤ k)) : Kp w w'' S :=
 ⟨h'.os.trans h.os, h'.tape.trans h.tape, h'.output.trans h.output, Nat.le_trans h.size h'.size, fun k hk hn => (h'.block k (Nat.lt_of_lt_of_le hk h.size) (fun c => c.elim hn (fun c => absurd hk (Nat.not_lt.2 c)))).trans (h.block k hk hn)⟩
theorem Kp.cell {w w' : World} {S : Nat → Prop} (h : Kp w w' S) {g o : Nat} {v : Value} (hc : w.cell? ⟨g, o, none⟩ = some v) (hS : ¬ S g) : w'.cell? ⟨g, o, none⟩ = some v :=
 (World.cell?_of_block (h.block g (World.block_lt_of_cell? w _ hc) hS)).trans hc
theorem heapNew (w : World) (o : Obj) : (w.alloc o).heap[w.heap.size]? = some o := by
 show (w.heap.push o)[w.heap.size]? = some o
 simp
end
section
open Go.RowKit
abbrev AsnN := (Nat → Prop) → (Nat → Prop) → World → Prop
def FrN (A : AsnN) : Prop := ∀ T N N' w w', A T N w → (∀ k, T k ∨ N k → w'.heap[k]? = w.heap[k]?) → (∀ k, N k → N' k) → w.heap.size ≤ w'.heap.size → A T N' w'
def sep (A B : AsnN) : AsnN := fun T N w => ∃ T1 T2, A T1 N w ∧ B T2 N w ∧ (∀ k, T1 k → T k) ∧ (∀ k, T2 k → T k) ∧ ∀ k, T1 k → ¬ T2 k
theorem FrN.join {A B : AsnN} (hA : FrN A) (hB : FrN B) : FrN (sep A B) := by
 rintro T N N' w w' ⟨T1, T2, a, b, s1, s2, d⟩ hb hn hs
 exact ⟨T1, T2, hA _ _ _ _ _ a (fun k hk => hb k (hk.imp_left (s1 k))) hn hs, hB _ _ _ _ _ b (fun k hk => hb k (hk.imp_left (s2 k))) hn hs, s1, s2, d⟩
def OkTN (T N : Nat → Prop) (w : World) : Prop := (∀ k, T k → k < w.heap.size ∧ ¬ N k) ∧ ∀ k, N k → k < w.heap.size
def GrowN (w w' : World) (T N T' N' : Nat → Prop) : Prop := (∀ k, T' k → T k ∨ w.heap.size ≤ k) ∧ (∀ k, N k → N' k) ∧ (∀ k, N' k → N k ∨ w.heap.size ≤ k) ∧ OkTN T' N' w'
theorem GrowN.refl {T N : Nat → Prop} {w w' : World} (h : OkTN T N w) (hs : w.heap.size ≤ w'.heap.size) : GrowN w w' T N T N :=
 ⟨fun _ h => .inl h, fun _ h => h, fun _ h => .inl h, fun k hk => ⟨Nat.lt_of_lt_of_le (h.1 k hk).1 hs, (h.1 k hk).2⟩, fun k hk => Nat.lt_of_lt_of_le (h.2 k hk) hs⟩
def SpecN (P : Program) (f : FuncId) (args : Array Value) (A : AsnN) (Q : Ending → AsnN) : Prop :=
 ∀ T N w, A T N w → OkTN T N w → Calls P f args w fun e w' => ∃ T' N', Q e T' N' w' ∧ GrowN w w' T N T' N' ∧ Kp w w' T
theorem SpecN.left {P : Program} {f : FuncId} {args : Array Value} {A B : AsnN} {Q : Ending → AsnN} (h : SpecN P f args A Q) (hB : FrN B) : SpecN P f args (sep A B) (fun e => sep (Q e) B) := by
 rintro T N w ⟨T1, T2, a, b, s1, s2, d⟩ hT
 refine (h T1 N w a ⟨fun k hk => hT.1 k (s1 k hk), hT.2⟩).mono ?_
 rintro e w' ⟨T1', N', q, ⟨g1, g2, g3, g4, g5⟩, hk⟩
 refine ⟨fun k => T1' k ∨ T2 k, N', ⟨T1', T2, q, hB _ _ _ _ _ b (fun k h2 => ?_) g2 hk.size, fun k h => .inl h, fun k h => .inr h, fun k h1 h2 => ?_⟩, ⟨fun k h1 => ?_, g2, g3, fun k h1 => ?_, g5⟩, hk.mono s1⟩
 · rcases h2 with h2 | h2
   · exact hk.block k (hT.1 k (s2 k h2)).1 (fun h1 => d k h1 h2)
   · exact hk.block k (hT.2 k h2) (fun h1 => (hT.1 k (s1 k h1)).2 h2)
 · rcases g1 k h1 with h | h
   · exact d k h h2
   · have := (hT.1 k (s2 k h2)).1; omega
 · rcases h1 with h1 | h2
   · exact (g1 k h1).imp_left (s1 k)
   · exact .inl (s2 k h2)
 · rcases h1 with h1 | h2
   · exact g4 k h1
   · refine ⟨Nat.lt_of_lt_of_le (hT.1 k (s2 k h2)).1 hk.size, fun h => ?_⟩
     rcases g3 k h with h | h
     · exact (hT.1 k (s2 k h2)).2 h
     · have := (hT.1 k (s2 k h2)).1; omega
theorem sep_comm {A B : AsnN} {T N : Nat → Prop} {w : World} (h : (sep A B) T N w) : (sep B A) T N w := by
 obtain ⟨T1, T2, a, b, s1, s2, d⟩ := h
 exact ⟨T2, T1, b, a, s2, s1, fun k h2 h1 => d k h1 h2⟩
theorem SpecN.right {P : Program} {f : FuncId} {args : Array Value} {A B : AsnN} {Q : Ending → AsnN} (h : SpecN P f args A Q) (hB : FrN B) : SpecN P f args (sep B A) (fun e => sep B (Q e)) := by
 intro T N w hh hT
 refine ((h.left hB) T N w (sep_comm hh) hT).mono ?_
 rintro e w' ⟨T', N', q, g, hk⟩
 exact ⟨T', N', sep_comm q, g, hk⟩
def pureN (p : Prop) (A : AsnN) : AsnN := fun T N w => p ∧ A T N w
theorem sep_mono {A A' B B' : AsnN} (hA : ∀ T N w, A T N w → A' T N w) (hB : ∀ T N w, B T N w → B' T N w) : ∀ T N w, (sep A B) T N w → (sep A' B') T N w := by
 rintro T N w ⟨T1, T2, a, b, s1, s2, d⟩
 exact ⟨T1, T2, hA _ _ _ a, hB _ _ _ b, s1, s2, d⟩
def InvN (A : AsnN) (B : Nat) (w0 w : World) : Prop := ∃ T N, A T N w ∧ OkTN T N w ∧ (∀ k, T k → B ≤ k) ∧ Below B w0 w
theorem InvN.below {A : AsnN} {B : Nat} {w0 w : World} (h : InvN A B w0 w) : Below B w0 w := by
 obtain ⟨T, N, _, _, _, h⟩ := h; exact h
theorem InvN.call {P : Program} {f : FuncId} {args : Array Value} {A : AsnN} {Q : Ending → AsnN} {B : Nat} {w0 w : World} (h : InvN A B w0 w) (hB : B ≤ w0.heap.size) (hs : SpecN P f args A Q) : Calls P f args w fun e w' => InvN (Q e) B w0 w' := by
 obtain ⟨T, N, a, ok, ht, hb⟩ := h
 refine (hs T N w a ok).mono ?_
 rintro e w' ⟨T', N', q, g, hk⟩
 refine ⟨T', N', q, g.2.2.2, fun k h1 => ?_, hk.below hb hB ht⟩
 rcases g.1 k h1 with h | h
 · exact ht k h
 · have := hb.size; omega
theorem InvN.mono {A A' : AsnN} {B : Nat} {w0 w : World} (h : InvN A B w0 w) (hm : ∀ T N w, A T N w → A' T N w) : InvN A' B w0 w := by
 obtain ⟨T, N, a, ok, ht, hb⟩ := h
 exact ⟨T, N, hm _ _ _ a, ok, ht, hb⟩
theorem InvN.fst {A A' : AsnN} {B : Nat} {w0 w : World} (h : InvN (sep A A') B w0 w) : InvN A B w0 w := by
 obtain ⟨T, N, ⟨T1, T2, a, b, s1, s2, d⟩, ok, ht, hb⟩ := h
 exact ⟨T1, N, a, ⟨fun k hk => ok.1 k (s1 k hk), ok.2⟩, fun k hk => ht k (s1 k hk), hb⟩
theorem InvN.snd {A A' : AsnN} {B : Nat} {w0 w : World} (h : InvN (sep A A') B w0 w) : InvN A' B w0 w := by
 obtain ⟨T, N, ⟨T1, T2, a, b, s1, s2, d⟩, ok, ht, hb⟩ := h
 exact ⟨T2, N, b, ⟨fun k hk => ok.1 k (s2 k hk), ok.2⟩, fun k hk => ht k (s2 k hk), hb⟩
theorem InvN.step {A : AsnN} {B : Nat} {w0 w w' : World} (h : InvN A B w0 w) (hA : FrN A) (hb : Below w.heap.size w w') (hB : B ≤ w0.heap.size) : InvN A B w0 w' := by
 obtain ⟨T, N, a, ok, ht, hb0⟩ := h
 refine ⟨T, N, hA T N N w w' a (fun k hk => hb.block k ?_) (fun _ h => h) hb.size, (GrowN.refl ok hb.size).2.2.2, ht, hb0.trans (hb.mono ?_)⟩
 · exact hk.elim (fun h => (ok.1 k h).1) (ok.2 k)
 · have := hb0.size; omega
theorem InvN.drew {A : AsnN} {B : Nat} {w0 w : World} (h : InvN A B w0 w) (hA : FrN A) (hB : B ≤ w0.heap.size) : InvN A B w0 w.drew := h.step hA (Below.refl _ _).drew hB
def BlkN (g : Nat) (o : Obj) : AsnN := fun T _ w => T g ∧ w.heap[g]? = some o
theorem BlkN.fr (g : Nat) (o : Obj) : FrN (BlkN g o) := by
 rintro T N N' w w' ⟨h1, h2⟩ hb _ _
 exact ⟨h1, (hb g (.inl h1)).trans h2⟩
theorem InvN.add {A X : AsnN} {B : Nat} {w0 w w' : World} (h : InvN A B w0 w) (hA : FrN A) (hb : Below w.heap.size w w') (hB : B ≤ w0.heap.size) {T2 N2 : Nat → Prop} (hX : FrN X) (hn : X T2 N2 w') (hok : OkTN T2 N2 w') (h2 : ∀ k, T2 k → w.heap.size ≤ k) (h3 : ∀ k, N2 k → w.heap.size ≤ k) : InvN (sep A X) B w0 w' := by
 obtain ⟨T, N, a, ok, ht, hb0⟩ := h
 have hs0 := hb0.size
 have hs1 := hb.size
 refine ⟨fun k => T k ∨ T2 k, fun k => N k ∨ N2 k, ⟨T, T2, hA T N _ w w' a (fun k hk => hb.block k (hk.elim (fun h => (ok.1 k h).1) (ok.2 k))) (fun k h => .inl h) hb.size, hX T2 N2 _ w' w' hn (fun _ _ => rfl) (fun k h => .inr h) (Nat.le_refl _), fun k h => .inl h, fun k h => .inr h, fun k h1 h4 => ?_⟩, ⟨fun k hk => ?_, fun k hk => ?_⟩, fun k hk => ?_, hb0.trans (hb.mono (by omega))⟩
 · have := (ok.1 k h1).1
   have := h2 k h4
   omega
 · rcases hk with hk | hk
   · refine ⟨Nat.lt_of_lt_of_le (ok.1 k hk).1 hb.size, fun h => ?_⟩
     rcases h with h | h
     · exact (ok.1 k hk).2 h
     · have := h3 k h; have := (ok.1 k hk).1; omega
   · refine ⟨(hok.1 k hk).1, fun h => ?_⟩
     rcases h with h | h
     · have := h2 k hk; have := ok.2 k h; omega
     · exact (hok.1 k hk).2 h
 · rcases hk with hk | hk
   · exact Nat.lt_of_lt_of_le (ok.2 k hk) hb.size
   · exact hok.2 k hk
 · rcases hk with hk | hk
   · exact ht k hk
   · have := h2 k hk; omega
theorem InvN.new {A : AsnN} {B : Nat} {w0 w : World} (h : InvN A B w0 w) (hA : FrN A) (o : Obj) (hB : B ≤ w0.heap.size) : InvN (sep A (BlkN w.heap.size o)) B w0 (w.alloc o) :=
 h.add hA ((Below.refl _ _).alloc (Nat.le_refl _) o) hB (T2 := fun k => k = w.heap.size) (N2 := fun _ => False) (BlkN.fr _ _) ⟨rfl, heapNew _ _⟩ ⟨fun k hk => by subst hk; exact ⟨by simp, fun h => h⟩, fun k h => h.elim⟩ (fun k hk => by subst hk; exact Nat.le_refl _) (fun k h => h.elim)
theorem BlkN.cell {g : Nat} {cs : Array Value} {t : TypeId} {B : Nat} {w0 w : World} (h : InvN (BlkN g (.cells cs t)) B w0 w) {j : Nat} {v : Value} (hj : cs[j]? = some v) : w.cell? ⟨g, j, none⟩ = some v := by
 obtain ⟨T, N, ⟨_, hg⟩, _, _⟩ := h
 simpa [World.cell?, hg] using hj
end
section
open Go.RowKit Go.Deep
def bt (s : ByteArray) (i : Nat) : Nat := (s.data.getD i 0).toNat
theorem bt_eq (s : ByteArray) (i : Nat) (h : i < s.size) : (s[i]'h).toNat = bt s i := by
 simp only [bt, Array.getD_eq_getD_getElem?]
 have h2 : i < s.data.size := h
 rw [Array.getElem?_eq_getElem h2]
 rfl
theorem bt_lt (s : ByteArray) (i : Nat) : bt s i < 256 := by
 have := (s.data.getD i 0).toNat_lt
 simpa [bt] using this
theorem hide {p : Prop} (h : p) : Hid p := h
theorem and63_i64 (k : Nat) (h : k ≤ 1000) : bits .and .i64 (k : Int) 63 = ((k % 64 : Nat) : Int) := by
 have hx : BitVec.ofInt 64 (k : Int) &&& BitVec.ofInt 64 (63 : Int) = BitVec.ofNat 64 (k % 64) := by
   have e1 : (BitVec.ofInt 64 (k : Int)).toNat = k := by
     rw [BitVec.ofInt_natCast, BitVec.toNat_ofNat]; exact Nat.mod_eq_of_lt (by omega)
   apply BitVec.eq_of_toNat_eq
   rw [BitVec.toNat_and, e1, show (BitVec.ofInt 64 (63 : Int)).toNat = 2 ^ 6 - 1 from rfl, Nat.and_two_pow_sub_one_eq_mod, BitVec.toNat_ofNat]
   omega
 show IntKind.i64.wrap ((BitVec.ofInt 64 (k : Int) &&& BitVec.ofInt 64 (63 : Int)).toNat : Int) = _
 rw [hx, BitVec.toNat_ofNat, IntKind.wrap_i64]
 omega
theorem below_drewN {B : Nat} {a w : World} (h : Below B a w) (n : Nat) : Below B a (w.drewN n) := ⟨h.os, h.tape, h.output, h.size, h.block⟩
theorem gb_drew {a w : World} {r : Option Nat} (h : a.grownBy w r) : a.grownBy w.drew r := ⟨h.os, h.tape, h.output, h.size, h.block⟩
theorem gb_setCell {a w : World} {g : Nat} (h : a.grownBy w (some g)) (i : Nat) (u : Value) : a.grownBy (w.setCell ⟨g, i, none⟩ u) (some g) :=
 ⟨h.os, h.tape, h.output, by simpa [World.setCell] using h.size, fun k hk hne => (Below.heap_setCell w _ u k (by rintro rfl; exact hne rfl)).trans (h.block k hk hne)⟩
theorem below_of_gb {B g : Nat} {a w : World} (h : a.grownBy w (some g)) (hB : B ≤ a.heap.size) (hg : B ≤ g) : Below B a w :=
 ⟨h.os, h.tape, h.output, h.size, fun k hk => h.block k (by omega) (by intro e; injection e; omega)⟩
theorem u64_or_pow (n b : Nat) (hn : n < 18446744073709551616) (hb : b < 64) : bits .or .u64 (n : Int) (IntKind.u64.wrap (2 ^ b)) = ((n ||| 2 ^ b : Nat) : Int) := by
 have h1 : (2 : Nat) ^ b < 18446744073709551616 := by
   have : (2 : Nat) ^ b < 2 ^ 64 := Nat.pow_lt_pow_right (by omega) hb
   simpa using this
 have e : IntKind.u64.wrap ((2 : Int) ^ b) = ((2 ^ b : Nat) : Int) := by
   rw [IntKind.wrap_u64]
   have : ((2 : Int) ^ b) = ((2 ^ b : Nat) : Int) := by push_cast; rfl
   rw [this]
   generalize 2 ^ b = x at h1
   omega
 rw [e, u64_or_nat n (2 ^ b) hn h1]
theorem u64_not (n : Nat) (hn : n < 18446744073709551616) : bits .xor .u64 (if IntKind.u64.signed = true then -1 else IntKind.u64.max) (n : Int) = ((18446744073709551615 - n : Nat) : Int) := by
 have e : (if IntKind.u64.signed = true then -1 else IntKind.u64.max) = ((18446744073709551615 : Nat) : Int) := by rw [if_neg (by decide)]; rfl
 rw [e, u64_xor_nat _ _ (by omega) hn]
 congr 1
 apply Nat.eq_of_testBit_eq
 intro b
 have e1 : 18446744073709551615 = 2 ^ 64 - (0 + 1) := by omega
 have e2 : 18446744073709551615 - n = 2 ^ 64 - (n + 1) := by omega
 rw [Nat.testBit_xor, e2, Nat.testBit_two_pow_sub_succ (by omega), e1, Nat.testBit_two_pow_sub_succ (by omega)]
 by_cases hb : b < 64
 · simp [hb]
 · have : n < 2 ^ b := Nat.lt_of_lt_of_le (show n < 2 ^ 64 by omega) (Nat.pow_le_pow_right (by omega) (by omega))
   simp [hb, Nat.testBit_lt_two_pow this]
theorem u64_bit (n b : Nat) (hn : n < 18446744073709551616) : bits .and .u64 ((n : Int) / 2 ^ b) 1 = ((n / 2 ^ b % 2 : Nat) : Int) := by
 have h1 : n / 2 ^ b < 18446744073709551616 := Nat.lt_of_le_of_lt (Nat.div_le_self _ _) hn
 have e : (n : Int) / 2 ^ b = ((n / 2 ^ b : Nat) : Int) := by push_cast; rfl
 have := u64_and_nat (n / 2 ^ b) 1 h1 (by omega)
 rw [e, show (1 : Int) = ((1 : Nat) : Int) from rfl, this, Nat.and_one_is_mod]
theorem wpList_app1 {P : Program} {ops : Array Oper} {rest : List Oper} {o : Oper} {a : Act} {Q : Exit → Act → World → Prop} (wr : World) (hgd : o.guard = none) (s x : Operand) (t : TypeId)
   (ho : o.op = .call { callee := .builtin .append, args := #[s, x], argTypes := #[t, t] })
   (base : Nat) (e : TypeId) (i : TypeInfo) (z : Value) (size bytes : Nat) (ht : P.underlying t = some (.slice e)) (hi : P.info? e = some i) (hz : i.zero = some z)
   (hsize : i.size = size) (hby : i.bytes = bytes) (hzs : z.cells.size = size) (hsz : 0 < size)
   (v : Value) (n : Nat) (xs : List Value) (hs : a.eval s = v) (hown : wr.ownsRow base e size v n xs)
   (news : Array Value) (c : Nat) (hx : a.eval x = .slice (some ⟨wr.heap.size, 0, none⟩) 1 c) (hl : news.size = size) (h1 : ∀ u ∈ news.toList, u.oneCell' = true)
   (h63 : n + 1 ≤ maxLen) (hbytes : (n + 1) * bytes ≤ 140737488355328) (hbase : base ≤ wr.heap.size) (B : Nat) (w0 : World) (hB : Below B w0 wr) (hb0 : B ≤ base)
   (h : ∀ v' w', w'.ownsRow base e size v' (n + 1) (xs ++ news.toList) → Below B w0 w' → wpList P ops Q rest (a.put o.dst v') w') : wpList P ops Q (o :: rest) a (wr.alloc (.cells news e)) := by
 refine wpList_append_own _ hgd s x t ho base e i z size bytes ht hi hz hsize hby hzs hsz v n xs hs (hown.alloc _) ⟨wr.heap.size, 0, none⟩ 1 c news.toList hx (by simp [hl]) (fun j u hu => ?_) h1 h63 hbytes (by simp; omega) ?_
 · have : (wr.alloc (.cells news e)).cell? ⟨wr.heap.size, j, none⟩ = some u := by
     rw [World.cell?_alloc_at _ _ _ _ rfl]
     simpa using hu
   unfold Addr.add
   by_cases hj : j = 0
   · subst hj; simpa using this
   · simpa [hj] using this
 · intro v' w' hown' hg _
   refine h v' w' hown' ?_
   exact (hB.alloc (by omega) _).grown hg (by simp; omega) (fun k hk => by
     have := hown.lt k hk
     omega)
theorem own_below {w w' : World} {base : Nat} {e : TypeId} {size n : Nat} {v : Value} {xs : List Value} (h : w.ownsRow base e size v n xs) (hb : Below w.heap.size w w') : w'.ownsRow base e size v n xs :=
 h.kept (row := none) ⟨hb.os, hb.tape, hb.output, hb.size, fun i hi _ => hb.block i hi⟩ (by
   rcases h' : v.ownBlock with _ | k
   · exact .inl rfl
   · exact .inr (by simp))
theorem own_gb {w w' : World} {base : Nat} {e : TypeId} {size n g : Nat} {v : Value} {xs : List Value} (h : w.ownsRow base e size v n xs) (hg : w.grownBy w' (some g)) (hne : ∀ k, v.ownBlock = some k → k ≠ g) : w'.ownsRow base e size v n xs :=
 h.kept hg (by
   rcases h' : v.ownBlock with _ | k
   · exact .inl rfl
   · exact .inr (by intro e; injection e with e; exact hne k h' e))
theorem below_up {B : Nat} {a b c : World} (h : Below B a b) (k : Below b.heap.size b c) (hB : B ≤ b.heap.size) : Below B a c := h.trans (k.mono hB)
end
section
open Go.RowKit Go.Deep
theorem wpList_app1at {P : Program} {ops : Array Oper} {rest : List Oper} {o : Oper} {a : Act} {Q : Exit → Act → World → Prop} (wr : World) (hgd : o.guard = none) (s x : Operand) (t : TypeId)
   (ho : o.op = .call { callee := .builtin .append, args := #[s, x], argTypes := #[t, t] })
   (base : Nat) (e : TypeId) (i : TypeInfo) (z : Value) (size bytes : Nat) (ht : P.underlying t = some (.slice e)) (hi : P.info? e = some i) (hz : i.zero = some z)
   (hsize : i.size = size) (hby : i.bytes = bytes) (hzs : z.cells.size = size) (hsz : 0 < size)
   (v : Value) (n : Nat) (xs : List Value) (hs : a.eval s = v) (hown : wr.ownsRow base e size v n xs)
   (news : Array Value) (c : Nat) (hx : a.eval x = .slice (some ⟨wr.heap.size, 0, none⟩) 1 c) (hl : news.size = size) (h1 : ∀ u ∈ news.toList, u.oneCell' = true)
   (h63 : n + 1 ≤ maxLen) (hbytes : (n + 1) * bytes ≤ 140737488355328) (hbase : base ≤ wr.heap.size)
   (h : ∀ v' w', w'.ownsRow base e size v' (n + 1) (xs ++ news.toList) → (wr.alloc (.cells news e)).grownBy w' v.ownBlock → (v'.ownBlock = v.ownBlock ∨ v'.ownBlock = some (wr.heap.size + 1)) → wpList P ops Q rest (a.put o.dst v') w') :
   wpList P ops Q (o :: rest) a (wr.alloc (.cells news e)) := by
 refine wpList_append_own_at _ hgd s x t ho base e i z size bytes ht hi hz hsize hby hzs hsz v n xs hs (hown.alloc _) ⟨wr.heap.size, 0, none⟩ 1 c news.toList hx (by simp [hl]) (fun j u hu => ?_) h1 h63 hbytes (by simp; omega) ?_
 · have : (wr.alloc (.cells news e)).cell? ⟨wr.heap.size, j, none⟩ = some u := by
     rw [World.cell?_alloc_at _ _ _ _ rfl]
     simpa using hu
   unfold Addr.add
   by_cases hj : j = 0
   · subst hj; simpa using this
   · simpa [hj] using this
 · intro v' w' hown' hg _ hb
   exact h v' w' hown' hg (by simpa using hb)
def nbytes (l : List Nat) : List Value := l.map fun n => .int .u8 (n : Nat)
def OwnB (w : World) (base : Nat) (v : Value) (l : List Nat) : Prop := w.ownsRow base 5 1 v l.length (nbytes l)
theorem own_row_ne {w : World} {base : Nat} {e : TypeId} {size n : Nat} {v : Value} {xs : List Value} {g t N : Nat} {f : Nat → Value} (h : w.ownsRow base e size v n xs) (hr : w.rowIs g t N f) (hne : e ≠ t) : v.ownBlock ≠ some g := by
 rcases h.2 with ⟨rfl, _⟩ | ⟨g', cap, cur, rfl, _, hh, _⟩
 · simp [Value.ownBlock]
 · intro he
   have : g' = g := by simpa [Value.ownBlock] using he
   subst this
   obtain ⟨c, hb, _, _⟩ := hr
   rw [hh] at hb
   injection hb with hb
   injection hb with _ ht
   exact hne ht
theorem own_own_ne {w : World} {base base' : Nat} {e e' : TypeId} {size n size' n' : Nat} {v v' : Value} {xs xs' : List Value} (h : w.ownsRow base e size v n xs) (h' : w.ownsRow base' e' size' v' n' xs') (hne : e ≠ e') :
   v.ownBlock = none ∨ v.ownBlock ≠ v'.ownBlock := by
 rcases h.2 with ⟨rfl, _⟩ | ⟨g, cap, cur, rfl, _, hh, _⟩
 · left; rfl
 · right
   rcases h'.2 with ⟨rfl, _⟩ | ⟨g', cap', cur', rfl, _, hh', _⟩
   · simp [Value.ownBlock]
   · intro he
     have : g = g' := by simpa [Value.ownBlock] using he
     subst this
     rw [hh] at hh'
     injection hh' with hb
     injection hb with _ ht
     exact hne ht
theorem own_setCell_row {w : World} {base : Nat} {e : TypeId} {size n : Nat} {v : Value} {xs : List Value} {g t N : Nat} {f : Nat → Value} (h : w.ownsRow base e size v n xs) (hr : w.rowIs g t N f) (hne : e ≠ t) (i : Nat) (u : Value) :
   (w.setCell ⟨g, i, none⟩ u).ownsRow base e size v n xs :=
 h.kept (gb_setCell (World.grownBy.refl w (some g)) i u) (.inr (own_row_ne h hr hne))
theorem info5 : (Tryz.prog.info? 5).map (fun i => (i.zero, i.size, i.bytes)) = some (some (.int .u8 0), 1, 1) := by kernel_rfl
theorem nbytes_snoc (l : List Nat) (b : Nat) : nbytes (l ++ [b]) = nbytes l ++ [.int .u8 b] := by simp [nbytes]
theorem wpList_appB {ops : Array Oper} {rest : List Oper} {o : Oper} {a : Act} {Q : Exit → Act → World → Prop} (wr : World) (hgd : o.guard = none) (s x : Operand)
   (ho : o.op = .call { callee := .builtin .append, args := #[s, x], argTypes := #[29, 29] }) (base : Nat) (v : Value) (l : List Nat) (hs : a.eval s = v)
   (hown : OwnB wr base v l) (b : Nat) (hx : a.eval x = .slice (some ⟨wr.heap.size, 0, none⟩) 1 1) (hl : l.length ≤ 1000000) (hbase : base ≤ wr.heap.size)
   (h : ∀ v' w', OwnB w' base v' (l ++ [b]) → (wr.alloc (.cells #[.int .u8 (b : Nat)] 5)).grownBy w' v.ownBlock → (v'.ownBlock = v.ownBlock ∨ v'.ownBlock = some (wr.heap.size + 1)) → wpList Tryz.prog ops Q rest (a.put o.dst v') w') :
   wpList Tryz.prog ops Q (o :: rest) a (wr.alloc (.cells #[.int .u8 (b : Nat)] 5)) := by
 obtain ⟨i0, hi, hz0, hz1, hz2⟩ := info_parts info5
 refine wpList_app1at wr hgd s x 29 ho base 5 i0 _ 1 1 Tryz.underlying29 hi hz0 hz1 hz2 rfl (by omega) v l.length (nbytes l) hs hown _ 1 hx rfl (by intro u hu; simp at hu; subst hu; rfl)
   (by simp only [maxLen]; omega) (by omega) hbase ?_
 intro v' w' ho' hg hb
 refine h v' w' ?_ hg hb
 unfold OwnB
 rw [nbytes_snoc, List.length_append]
 exact ho'
theorem Tryz.info4 : (Tryz.prog.info? 4).map (fun i => (i.zero, i.size, i.bytes)) = some (some (.bool false), 1, 1) := by kernel_rfl
theorem mk38 (n : Nat) (hn : n ≤ 100000) : ∀ w, (Instr.makeSlice 252 (.int .i64 ((n : Int) + 1)) (.int .i64 ((n : Int) + 1))).run Tryz.prog w = .ok (.slice (some ⟨w.heap.size, 0, none⟩) (n + 1) (n + 1)) (w.alloc (.cells (madeCells #[.bool false] (n + 1)) 4)) :=
 fun w => run_make_row' (P := Tryz.prog) 252 4 (.bool false) 1 Tryz.underlying252 Tryz.info4 rfl .i64 .i64 (n + 1) (by omega) (by omega) w
theorem row0 (w : World) (n : Nat) (t : TypeId) (u z : Value) : (w.alloc (.cells ((madeCells #[z] n).setIfInBounds 0 u) t)).rowIs w.heap.size t n (fun k => if k = 0 then u else z) := by
 obtain ⟨c, hb, hn, hc⟩ := World.rowIs_made w z n t
 have e : c = madeCells #[z] n := by
   have h2 : (w.alloc (.cells (madeCells #[z] n) t)).heap[w.heap.size]? = some (.cells (madeCells #[z] n) t (0, 0)) := heap_alloc_new w _
   rw [hb] at h2
   injection h2 with h2
   injection h2
 subst e
 have h3 : ((madeCells #[z] n).setIfInBounds 0 u).size = n := by simp [hn]
 have := World.rowIs_alloc w ((madeCells #[z] n).setIfInBounds 0 u) t (fun k => if k = 0 then u else z) (fun i hi => by
   rw [h3] at hi
   by_cases h0 : i = 0
   · subst h0
     simp [hn, hi]
   · rw [Array.getElem?_setIfInBounds]
     simp only [h0, if_false]
     rw [if_neg (fun e => h0 e.symm)]
     exact hc i hi)
 rwa [h3] at this
end
section
open Go.RowKit Go.Deep
def SR (w : World) (A : Option Addr) (L : List ByteArray) : Prop :=
 ∀ k s, L[k]? = some s → ∃ g o, A = some ⟨g, o, none⟩ ∧ g < w.heap.size ∧ w.cell? ⟨g, o + k, none⟩ = some (.string s)
theorem SR.nil (w : World) (A : Option Addr) : SR w A [] := fun k s h => by simp at h
theorem SR.below {w w' : World} {A : Option Addr} {L : List ByteArray} (h : SR w A L) (hb : Below w.heap.size w w') : SR w' A L := fun k s hk => by
 obtain ⟨g, o, e, hg, hc⟩ := h k s hk
 exact ⟨g, o, e, Nat.lt_of_lt_of_le hg hb.size, (hb.cell (p := ⟨g, o + k, none⟩) hg).trans hc⟩
theorem SR.drop {w : World} {g o : Nat} {L : List ByteArray} (h : SR w (some ⟨g, o, none⟩) L) (k : Nat) : SR w (some ⟨g, o + k, none⟩) (L.drop k) := fun j s hj => by
 rw [List.getElem?_drop] at hj
 obtain ⟨g', o', e, hg, hc⟩ := h _ s hj
 injection e with e
 injection e with e1 e2
 subst e1 e2
 exact ⟨g, o + k, rfl, hg, by rw [Nat.add_assoc]; exact hc⟩
theorem SR.take {w : World} {A : Option Addr} {L : List ByteArray} (h : SR w A L) (k : Nat) : SR w A (L.take k) := fun j s hj => by
 rw [List.getElem?_take] at hj
 split at hj
 · exact h j s hj
 · cases hj
def strVals (L : List ByteArray) : List Value := L.map Value.string
def OwnS (w : World) (base : Nat) (v : Value) (L : List ByteArray) : Prop := w.ownsRow base 9 1 v L.length (strVals L)
theorem OwnS.slice {w : World} {base : Nat} {v : Value} {L : List ByteArray} (h : OwnS w base v L) : ∃ A c, v = .slice A L.length c ∧ L.length ≤ c ∧ SR w A L ∧ (∀ a, A = some a → v.ownBlock = some a.block) := by
 rcases h.2 with ⟨rfl, hn⟩ | ⟨g, cap, cur, rfl, _, hh, hc, _⟩
 · refine ⟨none, 0, by rw [hn], by omega, fun k s hk => ?_, fun a e => by cases e⟩
   have := (List.getElem?_eq_some_iff.1 hk).1
   omega
 · refine ⟨_, cap, rfl, hc, fun k s hk => ⟨g, 0, rfl, (h.lt g rfl).2, ?_⟩, fun a e => by injection e with e; subst e; rfl⟩
   have hlt := (List.getElem?_eq_some_iff.1 hk).1
   rw [Nat.zero_add, World.ownsRow.cellAt h k (by omega)]
   simp [strVals, hk]
theorem infoS : (Tryz.prog.info? 9).map (fun i => (i.zero, i.size, i.bytes)) = some (some (.string ⟨#[]⟩), 1, 16) := by kernel_rfl
theorem OwnS.nil (w : World) (base : Nat) : OwnS w base (.slice none 0 0) [] := World.ownsRow_nil _ _ _ _
theorem run_appS {w : World} {base : Nat} {v : Value} {L N : List ByteArray} {A : Option Addr} {c : Nat} (h : OwnS w base v L) (hn : SR w A N) (hbase : base ≤ w.heap.size) (hl : L.length + N.length ≤ 100000000) :
   ∃ v' w', (Builtin.append_ #[42, 42] 42 #[v, .slice A N.length c]).run Tryz.prog w = .ok v' w' ∧ OwnS w' base v' (L ++ N) ∧ w.grownBy w' v.ownBlock ∧ (v'.ownBlock = v.ownBlock ∨ v'.ownBlock = some w.heap.size) := by
 obtain ⟨i0, hi, hz0, hz1, hz2⟩ := info_parts infoS
 rcases A with _ | ad
 · have hN : N = [] := by
     cases N with
     | nil => rfl
     | cons s N =>
       obtain ⟨g, o, e, _⟩ := hn 0 s rfl
       cases e
   subst hN
   refine ⟨v, w, ?_, by simpa using h, World.grownBy.refl w _, .inl rfl⟩
   rcases h.2 with ⟨rfl, _⟩ | ⟨g, cap, cur, rfl, _, _, hnc, _⟩
   · simp [Builtin.append_, run_underlying Tryz.underlying42, sizeOf, typeInfo, hi, Builtin.lenOf, Builtin.firstCells]
   · simp [Builtin.append_, run_underlying Tryz.underlying42, sizeOf, typeInfo, hi, Builtin.lenOf, Builtin.firstCells, hnc, storeCells]
 · have hcells : ∀ j u, (strVals N)[j]? = some u → w.cell? (ad.add j) = some u := fun j u hu => by
     have hj := (List.getElem?_eq_some_iff.1 hu).1
     have hj2 : j < N.length := by simpa [strVals] using hj
     obtain ⟨g, o, e, _, hc⟩ := hn j N[j] (List.getElem?_eq_getElem hj2)
     injection e with e
     subst e
     have e2 : (Addr.mk g o none).add j = ⟨g, o + j, none⟩ := by
       unfold Addr.add
       split
       · rename_i h0; subst h0; rfl
       · rfl
     rw [e2, hc]
     simpa [strVals, hj2] using hu
   obtain ⟨v', w', hrun, h2, h3, _, h5⟩ := run_append_own_at (P := Tryz.prog) w base 42 42 9 i0 _ 1 16 Tryz.underlying42 hi hz0 hz1 hz2 rfl (by omega) v L.length (strVals L) h ad N.length c (strVals N) (by simp [strVals]) hcells
     (fun u hu => by simp only [strVals, List.mem_map] at hu; obtain ⟨s, _, rfl⟩ := hu; rfl) (by simp only [maxLen]; omega) (by omega) hbase
   refine ⟨v', w', hrun, ?_, h3, h5⟩
   unfold OwnS
   rw [List.length_append, show strVals (L ++ N) = strVals L ++ strVals N from by simp [strVals]]
   exact h2
theorem wpList_app_run {P : Program} {ops : Array Oper} {rest : List Oper} {o : Oper} {a : Act} {w : World} {Q : Exit → Act → World → Prop} {t : TypeId} {v xv v' : Value} {w' : World} (hgd : o.guard = none) (s x : Operand)
   (ho : o.op = .call { callee := .builtin .append, args := #[s, x], argTypes := #[t, t] }) (hs : a.eval s = v) (hx : a.eval x = xv) (ht : o.type = t)
   (hrun : (Builtin.append_ #[t, t] t #[v, xv]).run P w = .ok v' w') (h : wpList P ops Q rest (a.put o.dst v') w') : wpList P ops Q (o :: rest) a w :=
 wpList_plain hgd fun K hK => by
   unfold Oper.wp execOp
   simp only [ho, resolve, invoke, builtin, Sem.run_bind, Sem.run_pure, Result.andThen_ok, List.map_toArray, List.map_cons, List.map_nil, hs, hx, ht, hrun]
   exact hK _ _ h
theorem sr_new (w : World) (s : ByteArray) : SR (w.alloc (.cells #[.string s] 9)) (some ⟨w.heap.size, 0, none⟩) [s] := fun k x hk => by
 cases k with
 | zero =>
   simp at hk
   subst hk
   exact ⟨_, _, rfl, by simp, by rw [World.cell?_alloc_at _ _ _ _ rfl]; rfl⟩
 | succ k => simp at hk
theorem OwnS.kept {w w' : World} {base : Nat} {v : Value} {L : List ByteArray} {r : Option Nat} (h : OwnS w base v L) (hg : w.grownBy w' r) (hne : v.ownBlock = none ∨ v.ownBlock ≠ r) : OwnS w' base v L := World.ownsRow.kept h hg hne
theorem OwnS.alloc {w : World} {base : Nat} {v : Value} {L : List ByteArray} (h : OwnS w base v L) (o : Obj) : OwnS (w.alloc o) base v L := World.ownsRow.alloc h o
end
section
open Go.RowKit Go.Deep
theorem txt_ne {a b : ByteArray} (h : a ≠ b) : (a.toList == b.toList) = false := by
 rw [beq_eq_false_iff_ne, ByteArray.toList_eq, ByteArray.toList_eq]
 exact fun e => h (ByteArray.ext (Array.ext' e))
def Drew (w w' : World) : Prop := ∃ n, w' = w.drewN n
theorem Drew.refl (w : World) : Drew w w := ⟨0, rfl⟩
theorem Drew.more {w w' : World} (h : Drew w w') (n : Nat) : Drew w (w'.drewN n) := by
 obtain ⟨m, rfl⟩ := h
 exact ⟨m + n, by simp [World.drewN, Nat.add_assoc]⟩
theorem SR.drew {w w' : World} {A : Option Addr} {L : List ByteArray} (h : SR w A L) (hd : Drew w w') : SR w' A L := by
 obtain ⟨n, rfl⟩ := hd
 exact h
theorem Drew.below {w w' : World} (h : Drew w w') : Below w.heap.size w w' := by
 obtain ⟨n, rfl⟩ := h
 exact below_drewN (Below.refl _ _) n
theorem same_any (A B : Option Addr) (c d : Nat) (L M : List ByteArray) (w : World) (hA : SR w A L) (hB : SR w B M) (hl : L.length ≤ 100000) :
   Calls Tryz.prog 20 #[.slice A L.length c, .slice B M.length d] w fun e w' => e = .returned (.bool (decide (L = M))) ∧ Drew w w' := by
 have HA := hide hA
 have HB := hide hB
 clear hA hB
 by_cases hn : L.length = M.length
 · obtain ⟨n, hn1⟩ : ∃ n, L.length = n := ⟨_, rfl⟩
   have hn2 : M.length = n := by omega
   have N1 := hide hn1
   have N2 := hide hn2
   rw [hn1, hn2]
   rw [hn1] at hl
   clear hn hn1 hn2
   go_enter Tryz.func20, Tryz.ntmps20
   go_wp2
   go_loopw [5] (fun v5 wr => ∃ k : Nat, v5 = .int .i64 k ∧ k ≤ n ∧ Hid (L.take k = M.take k) ∧ Drew w wr) (fun v5 _ => n - (intOf v5).toNat)
   case atStart => exact ⟨0, rfl, by omega, rfl, Drew.refl _⟩
   case round =>
     obtain ⟨k, rfl, hk, HE, hdr⟩ := hrel
     have HD := hide hdr
     clear hdr
     by_cases hlt : k < n
     · obtain ⟨x, hx⟩ : ∃ x, L[k]? = some x := ⟨L[k]'(by have := N1.out; omega), gE _⟩
       obtain ⟨y, hy⟩ : ∃ y, M[k]? = some y := ⟨M[k]'(by have := N2.out; omega), gE _⟩
       obtain ⟨g, o, rfl, hg, hc⟩ := (HA.out.drew HD.out) k x hx
       obtain ⟨g', o', rfl, hg', hc'⟩ := (HB.out.drew HD.out) k y hy
       have HX := hide hx
       have HY := hide hy
       clear hx hy
       by_cases he : x = y
       · subst he
         go_wp2
         go_quiet (fail)
         go_wp2
         go_roundw
         case rel =>
           refine ⟨k + 1, by go_num, by omega, ?_, HD.out.more _⟩
           show L.take (k + 1) = M.take (k + 1)
           rw [List.take_add_one, List.take_add_one, HE.out, HX.out, HY.out]
         case measure => simp [intOf]; omega
       · have hne := txt_ne he
         have HN := hide he
         clear he
         go_wp2
         go_quiet (fail)
         go_wp2
         go_ret
         refine ⟨?_, HD.out.more _⟩
         have : decide (L = M) = false := by
           rw [decide_eq_false_iff_not]
           intro e
           have h1 := HX.out
           have h2 := HY.out
           rw [e, h2] at h1
           injection h1 with h1
           exact HN.out h1.symm
         rw [this]
         rfl
     · have e : k = n := by omega
       have hf : decide (L = M) = true := by
         rw [decide_eq_true_iff]
         have := HE.out
         rw [List.take_of_length_le (by have := N1.out; omega), List.take_of_length_le (by have := N2.out; omega)] at this
         exact this
       have HF := hide hf
       clear hf e
       go_wp2
       go_ret
       refine ⟨?_, HD.out⟩
       rw [HF.out]
       rfl
 · have hb : ((L.length : Int) == (M.length : Int)) = false := by simp only [beq_eq_false_iff_ne]; omega
   have hb2 : (L.length == M.length) = false := by simp only [beq_eq_false_iff_ne]; omega
   have HF := hide (show decide (L = M) = false by rw [decide_eq_false_iff_not]; intro e; exact hn (by rw [e]))
   clear hn
   go_enter Tryz.func20, Tryz.ntmps20
   go_wp2
   go_ret
   refine ⟨?_, Drew.refl _⟩
   rw [HF.out]
   rfl
end
section
open Go.RowKit Go.Deep
def putS (s : ByteArray) : List ByteArray → List ByteArray
 | [] => [s]
 | x :: l => if sLt x s then x :: putS s l else if x = s then x :: l else s :: x :: l
theorem putS_at {s : ByteArray} : ∀ (L : List ByteArray) (k : Nat), k ≤ L.length → (∀ j x, j < k → L[j]? = some x → sLt x s = true) → (∀ x, L[k]? = some x → sLt x s = false) →
   putS s L = if L[k]? = some s then L else L.take k ++ [s] ++ L.drop k
 | [], k, hk, _, _ => by
   obtain rfl : k = 0 := by simpa using hk
   rfl
 | x :: L, 0, hk, h1, h2 => by
   have := h2 x rfl
   rw [putS, if_neg (by rw [this]; simp)]
   simp
 | x :: L, k + 1, hk, h1, h2 => by
   rw [putS, if_pos (h1 0 x (by omega) rfl), putS_at L k (by simpa using hk) (fun j y hj hy => h1 (j + 1) y (by omega) (by simpa using hy)) (fun y hy => h2 y (by simpa using hy))]
   simp only [List.getElem?_cons_succ]
   split <;> simp
theorem Below.of_gb {w w' : World} {r : Option Nat} {B : Nat} (h : w.grownBy w' r) (hB : B ≤ w.heap.size) (hr : ∀ k, r = some k → B ≤ k) : Below B w w' := (Below.refl B w).grown h hB hr
theorem OwnS.lt {w : World} {base : Nat} {v : Value} {L : List ByteArray} (h : OwnS w base v L) : ∀ k, v.ownBlock = some k → base ≤ k ∧ k < w.heap.size := World.ownsRow.lt h
theorem putstr_chain (w : World) (A1 A2 : Option Addr) (c1 c2 : Nat) (L1 L2 : List ByteArray) (s : ByteArray) (h1 : SR w A2 L2) (h2 : SR w A1 L1) (hl : L1.length + L2.length ≤ 100000) :
   ∃ v1 w1 v2 w2 v3 w3 v4 w4, (Builtin.append_ #[42, 42] 42 #[.slice none 0 0, .slice A2 L2.length c2]).run Tryz.prog w = .ok v1 w1 ∧
     (Builtin.append_ #[42, 42] 42 #[.slice none 0 0, .slice A1 L1.length c1]).run Tryz.prog w1 = .ok v2 w2 ∧
     (Builtin.append_ #[42, 42] 42 #[v2, .slice (some ⟨w2.heap.size, 0, none⟩) 1 1]).run Tryz.prog (w2.alloc (.cells #[.string s] 9)) = .ok v3 w3 ∧
     (Builtin.append_ #[42, 42] 42 #[v3, v1]).run Tryz.prog w3 = .ok v4 w4 ∧ OwnS w4 w.heap.size v4 (L1 ++ [s] ++ L2) ∧ Below w.heap.size w w4 := by
 obtain ⟨v1, w1, r1, o1, g1, b1⟩ := run_appS (OwnS.nil w w.heap.size) h1 (Nat.le_refl _) (by simp; omega)
 have hb1 : Below w.heap.size w w1 := Below.of_gb g1 (Nat.le_refl _) (fun k hk => by cases hk)
 obtain ⟨v2, w2, r2, o2, g2, b2⟩ := run_appS (OwnS.nil w1 w1.heap.size) (h2.below hb1) (Nat.le_refl _) (by simp; omega)
 have hb2 : Below w.heap.size w w2 := below_up hb1 (Below.of_gb g2 (Nat.le_refl _) (fun k hk => by cases hk)) hb1.size
 have s1 := hb1.size
 have s2 := hb2.size
 have s12 := g2.size
 simp only [List.nil_append] at o1 o2
 have n1 : ∀ k, v1.ownBlock = some k → k < w1.heap.size := fun k hk => (o1.lt k hk).2
 have n2 : ∀ k, v2.ownBlock = some k → k = w1.heap.size := fun k hk => by
   rcases b2 with e | e
   · rw [e] at hk; cases hk
   · rw [e] at hk; injection hk with hk; exact hk.symm
 have o1a : OwnS (w2.alloc (.cells #[.string s] 9)) w.heap.size v1 L2 := (o1.kept g2 (Classical.em _)).alloc _
 obtain ⟨v3, w3, r3, o3, g3, b3⟩ := run_appS (o2.alloc (.cells #[.string s] 9)) (sr_new w2 s) (by simp; omega) (by simp; omega)
 have n3 : ∀ k, v3.ownBlock = some k → w.heap.size ≤ k := fun k hk => by
   rcases b3 with e | e
   · have := n2 k (e ▸ hk); omega
   · rw [e] at hk; injection hk with hk; simp at hk; omega
 have o1b : OwnS w3 w.heap.size v1 L2 := o1a.kept g3 (by
   cases hv : v1.ownBlock with
   | none => exact .inl rfl
   | some k =>
     right
     intro e
     have := n2 k e.symm
     have := n1 k hv
     omega)
 have hb3 : Below w.heap.size w w3 := (hb2.alloc hb2.size _).trans (Below.of_gb g3 (by simp; omega) (fun k hk => by have := n2 k hk; omega))
 have s3 := hb3.size
 obtain ⟨A, c, rfl, _, hsr, _⟩ := o1b.slice
 obtain ⟨v4, w4, r4, o4, g4, b4⟩ := run_appS o3 hsr (by have := g3.size; simp at this; omega) (by simp; omega)
 refine ⟨_, w1, v2, w2, v3, w3, v4, w4, r1, r2, r3, r4, ?_, hb3.trans (Below.of_gb g4 s3 n3)⟩
 exact ⟨o4.1, o4.2.imp id fun ⟨g, cap, cur, e, hg, r⟩ => ⟨g, cap, cur, e, by omega, r⟩⟩
theorem putstr_any (A : Option Addr) (c : Nat) (L : List ByteArray) (s : ByteArray) (w : World) (hA : SR w A L) (hl : L.length ≤ 10000) (hc : L.length ≤ c) :
   Calls Tryz.prog 171 #[.slice A L.length c, .string s] w fun e w' => (∃ A' c', e = .returned (.slice A' (putS s L).length c') ∧ SR w' A' (putS s L) ∧ (putS s L).length ≤ c') ∧ Below w.heap.size w w' := by
 obtain ⟨n, hn1⟩ : ∃ n, L.length = n := ⟨_, rfl⟩
 rw [hn1]
 rw [hn1] at hl hc
 have HN := hide hn1
 have HA := hide hA
 clear hA hn1
 go_enter Tryz.func171, Tryz.ntmps171
 go_wp2
 go_loop [5] (fun v5 => ∃ k : Nat, v5 = .int .i64 k ∧ k ≤ n ∧ Hid (∀ j x, j < k → L[j]? = some x → sLt x s = true)) (fun v5 => n - (intOf v5).toNat)
 case atStart => exact ⟨0, rfl, by omega, fun j x hj => by omega⟩
 case round =>
   obtain ⟨k, rfl, hk, HE⟩ := hrel
   by_cases hlt : k < n
   · obtain ⟨x, hx⟩ : ∃ x, L[k]? = some x := ⟨L[k]'(by have := HN.out; omega), gE _⟩
     obtain ⟨g, o, rfl, hg, hcell⟩ := HA.out k x hx
     have HX := hide hx
     clear hx
     cases hs : sLt x s with
     | true =>
       have hs2 : Op.bytesLess x.toList s.toList = true := hs
       have HS := hide hs
       clear hs
       go_wp2
       go_round
       case rel =>
         refine ⟨k + 1, by go_num, by omega, fun j y hj hy => ?_⟩
         by_cases e : j = k
         · subst e
           have h1 := HX.out
           rw [h1] at hy
           injection hy with hy
           rw [← hy]
           exact HS.out
         · exact HE.out j y (by omega) hy
       case measure => simp [intOf]; omega
     | false =>
       have hs2 : Op.bytesLess x.toList s.toList = false := hs
       have HS := hide hs
       clear hs
       have HP := hide (putS_at (s := s) L k (by have := HN.out; omega) HE.out (fun y hy => by rw [HX.out] at hy; injection hy with hy; rw [← hy]; exact HS.out))
       by_cases he : x = s
       · have he2 : (x.toList == s.toList) = true := by simp [he]
         have HQ := hide (show putS s L = L by rw [HP.out, HX.out, he, if_pos rfl])
         clear he
         go_wp2
         go_ret
         refine ⟨⟨some ⟨g, o, none⟩, c, ?_, ?_, ?_⟩, Below.refl _ _⟩
         · rw [HQ.out, HN.out]; rfl
         · rw [HQ.out]; exact HA.out
         · rw [HQ.out, HN.out]; exact hc
       · have he2 := txt_ne he
         have HQ := hide (show putS s L = L.take k ++ [s] ++ L.drop k by rw [HP.out, HX.out, if_neg (fun e => he (by injection e))])
         clear he
         have hck : ¬ c = k := by omega
         obtain ⟨v1, w1, v2, w2, v3, w3, v4, w4, r1, r2, r3, r4, ho, hb⟩ := putstr_chain w (some ⟨g, o, none⟩) (some ⟨g, o + k, none⟩) c (c - k) (L.take k) (L.drop k) s (HA.out.drop k) (HA.out.take k) (by have := HN.out; simp; omega)
         rw [show (L.drop k).length = n - k from by simp; rw [HN.out]] at r1
         rw [show (L.take k).length = k from by simp; rw [HN.out]; omega] at r2
         have HO := hide ho
         have HB := hide hb
         clear ho hb
         go_wp2_with (first
           | (at_builtin; refine wpList_app_run ?_ (.const (.slice none 0 0)) (.tmp 36) ?_ ?_ ?_ ?_ r1 ?_; exact rfl; exact rfl; exact rfl; exact rfl; exact rfl)
           | (at_builtin; refine wpList_app_run ?_ (.const (.slice none 0 0)) (.tmp 40) ?_ ?_ ?_ ?_ r2 ?_; exact rfl; exact rfl; exact rfl; exact rfl; exact rfl)
           | (at_builtin; refine wpList_app_run ?_ (.tmp 41) (.tmp 43) ?_ ?_ ?_ ?_ r3 ?_; exact rfl; exact rfl; exact rfl; exact rfl; exact rfl)
           | (at_builtin; refine wpList_app_run ?_ (.tmp 44) (.tmp 45) ?_ ?_ ?_ ?_ r4 ?_; exact rfl; exact rfl; exact rfl; exact rfl; exact rfl))
         go_ret
         obtain ⟨A4, c4, rfl, hc4, hs4, _⟩ := HO.out.slice
         refine ⟨⟨A4, c4, ?_, ?_, ?_⟩, HB.out⟩
         · rw [HQ.out]; rfl
         · rw [HQ.out]; exact hs4
         · rw [HQ.out]; exact hc4
   · have e : k = n := by omega
     have HP := hide (putS_at (s := s) L k (by have := HN.out; omega) HE.out (fun y hy => by have := (List.getElem?_eq_some_iff.1 hy).1; have := HN.out; omega))
     have HQ := hide (show putS s L = L ++ [s] by
       have hnone : L[k]? = none := List.getElem?_eq_none (by have := HN.out; omega)
       rw [HP.out, hnone, if_neg (by simp), List.take_of_length_le (by have := HN.out; omega), List.drop_of_length_le (by have := HN.out; omega)]
       simp)
     clear HP
     subst e
     by_cases hck : c = k
     · subst hck
       obtain ⟨v1, w1, v2, w2, v3, w3, v4, w4, r1, r2, r3, r4, ho, hb⟩ := putstr_chain w A A c 0 L [] s (SR.nil _ _) HA.out (by have := HN.out; simp; omega)
       rw [List.append_nil] at ho
       rw [HN.out] at r2
       simp only [List.length_nil] at r1
       have HO := hide ho
       have HB := hide hb
       clear ho hb
       go_wp2_with (first
         | (at_builtin; refine wpList_app_run ?_ (.const (.slice none 0 0)) (.tmp 36) ?_ ?_ ?_ ?_ r1 ?_; exact rfl; exact rfl; exact rfl; exact rfl; exact rfl)
         | (at_builtin; refine wpList_app_run ?_ (.const (.slice none 0 0)) (.tmp 40) ?_ ?_ ?_ ?_ r2 ?_; exact rfl; exact rfl; exact rfl; exact rfl; exact rfl)
         | (at_builtin; refine wpList_app_run ?_ (.tmp 41) (.tmp 43) ?_ ?_ ?_ ?_ r3 ?_; exact rfl; exact rfl; exact rfl; exact rfl; exact rfl)
         | (at_builtin; refine wpList_app_run ?_ (.tmp 44) (.tmp 45) ?_ ?_ ?_ ?_ r4 ?_; exact rfl; exact rfl; exact rfl; exact rfl; exact rfl))
       go_ret
       obtain ⟨A4, c4, rfl, hc4, hs4, _⟩ := HO.out.slice
       refine ⟨⟨A4, c4, ?_, ?_, ?_⟩, HB.out⟩
       · rw [HQ.out]; rfl
       · rw [HQ.out]; exact hs4
       · rw [HQ.out]; exact hc4
     · obtain ⟨v1, w1, v2, w2, v3, w3, v4, w4, r1, r2, r3, r4, ho, hb⟩ := putstr_chain w A (Option.map (fun x => x.add k) A) c (c - k) L [] s (SR.nil _ _) HA.out (by have := HN.out; simp; omega)
       rw [List.append_nil] at ho
       rw [HN.out] at r2
       simp only [List.length_nil] at r1
       have HO := hide ho
       have HB := hide hb
       clear ho hb
       go_wp2_with (first
         | (at_builtin; refine wpList_app_run ?_ (.const (.slice none 0 0)) (.tmp 36) ?_ ?_ ?_ ?_ r1 ?_; exact rfl; exact rfl; exact rfl; exact rfl; exact rfl)
         | (at_builtin; refine wpList_app_run ?_ (.const (.slice none 0 0)) (.tmp 40) ?_ ?_ ?_ ?_ r2 ?_; exact rfl; exact rfl; exact rfl; exact rfl; exact rfl)
         | (at_builtin; refine wpList_app_run ?_ (.tmp 41) (.tmp 43) ?_ ?_ ?_ ?_ r3 ?_; exact rfl; exact rfl; exact rfl; exact rfl; exact rfl)
         | (at_builtin; refine wpList_app_run ?_ (.tmp 44) (.tmp 45) ?_ ?_ ?_ ?_ r4 ?_; exact rfl; exact rfl; exact rfl; exact rfl; exact rfl))
       go_ret
       obtain ⟨A4, c4, rfl, hc4, hs4, _⟩ := HO.out.slice
       refine ⟨⟨A4, c4, ?_, ?_, ?_⟩, HB.out⟩
       · rw [HQ.out]; rfl
       · rw [HQ.out]; exact hs4
       · rw [HQ.out]; exact hc4
end
section
open Go.RowKit Go.Deep
section
variable {α : Type} (enc : α → List Value) (n : Nat)
def RG (w : World) (A : Option Addr) (L : List α) : Prop :=
 ∀ k x, L[k]? = some x → ∃ g o, A = some ⟨g, o, none⟩ ∧ g < w.heap.size ∧ ∀ j v, (enc x)[j]? = some v → w.cell? ⟨g, o + k * n + j, none⟩ = some v
variable {enc n}
theorem RG.nil (w : World) (A : Option Addr) : RG enc n w A [] := fun k s h => by simp at h
theorem RG.of {w w' : World} {A : Option Addr} {L : List α} (h : RG enc n w A L) (hs : w.heap.size ≤ w'.heap.size) (hc : ∀ a, A = some a → a.block < w.heap.size → w'.heap[a.block]? = w.heap[a.block]?) : RG enc n w' A L := fun k x hk => by
 obtain ⟨g, o, e, hg, h1⟩ := h k x hk
 have hb := hc _ e hg
 exact ⟨g, o, e, by omega, fun j v hj => (World.cell?_of_block (a := ⟨g, o + k * n + j, none⟩) hb).trans (h1 j v hj)⟩
theorem RG.below {w w' : World} {A : Option Addr} {L : List α} (h : RG enc n w A L) (hb : Below w.heap.size w w') : RG enc n w' A L := h.of hb.size fun a _ hl => hb.block a.block hl
theorem RG.gb {w w' : World} {A : Option Addr} {L : List α} {r : Option Nat} (h : RG enc n w A L) (hb : w.grownBy w' r) (hr : ∀ a, A = some a → some a.block ≠ r) : RG enc n w' A L := h.of hb.size fun a e hl => hb.block a.block hl (hr a e)
theorem RG.drew {w w' : World} {A : Option Addr} {L : List α} (h : RG enc n w A L) (hd : Drew w w') : RG enc n w' A L := by
 obtain ⟨n, rfl⟩ := hd
 exact h
theorem RG.take {w : World} {A : Option Addr} {L : List α} (h : RG enc n w A L) (k : Nat) : RG enc n w A (L.take k) := fun j s hj => by
 rw [List.getElem?_take] at hj
 split at hj
 · exact h j s hj
 · cases hj
theorem RG.drop {w : World} {g o : Nat} {L : List α} (h : RG enc n w (some ⟨g, o, none⟩) L) (k : Nat) : RG enc n w (some ⟨g, o + k * n, none⟩) (L.drop k) := fun j s hj => by
 rw [List.getElem?_drop] at hj
 obtain ⟨g', o', e, hg, h1⟩ := h _ s hj
 injection e with e
 injection e with e1 e2
 subst e1 e2
 refine ⟨g, o + k * n, rfl, hg, fun i v hi => ?_⟩
 have := h1 i v hi
 rw [Nat.add_mul] at this
 rw [show o + k * n + j * n + i = o + (k * n + j * n) + i from by omega]
 exact this
def valsG (enc : α → List Value) (L : List α) : List Value := L.flatMap enc
theorem valsG_len (he : ∀ x, (enc x).length = n) (L : List α) : (valsG enc L).length = L.length * n := by
 induction L with
 | nil => simp [valsG]
 | cons x L ih =>
   rw [valsG, List.flatMap_cons, List.length_append, he]
   have : (L.flatMap enc).length = L.length * n := ih
   rw [this, List.length_cons, Nat.add_mul]
   omega
theorem valsG_get (he : ∀ x, (enc x).length = n) : ∀ (L : List α) (k : Nat) (x : α) (j : Nat), L[k]? = some x → j < n → (valsG enc L)[k * n + j]? = (enc x)[j]?
 | [], k, x, j, h, _ => by simp at h
 | y :: L, 0, x, j, h, hj => by
   simp at h
   subst h
   rw [valsG, List.flatMap_cons, Nat.zero_mul, Nat.zero_add, List.getElem?_append_left (by rw [he]; exact hj)]
 | y :: L, k + 1, x, j, h, hj => by
   have ih := valsG_get he L k x j (by simpa using h) hj
   rw [valsG, List.flatMap_cons, List.getElem?_append_right (by rw [he, Nat.add_mul]; omega), he]
   rw [show (k + 1) * n + j - n = k * n + j from by rw [Nat.add_mul]; omega]
   exact ih
theorem valsG_app (L N : List α) : valsG enc (L ++ N) = valsG enc L ++ valsG enc N := by simp [valsG]
def OwnG (enc : α → List Value) (n : Nat) (E : TypeId) (w : World) (base : Nat) (v : Value) (L : List α) : Prop := w.ownsRow base E n v L.length (valsG enc L)
variable {E : TypeId}
theorem OwnG.lt {w : World} {base : Nat} {v : Value} {L : List α} (h : OwnG enc n E w base v L) : ∀ k, v.ownBlock = some k → base ≤ k ∧ k < w.heap.size := World.ownsRow.lt h
theorem OwnG.slice (he : ∀ x, (enc x).length = n) {w : World} {base : Nat} {v : Value} {L : List α} (h : OwnG enc n E w base v L) : ∃ A c, v = .slice A L.length c ∧ L.length ≤ c ∧ RG enc n w A L ∧ (∀ a, A = some a → v.ownBlock = some a.block) ∧ (∀ a, A = some a → ∃ g, a = ⟨g, 0, none⟩) := by
 rcases h.2 with ⟨rfl, hn⟩ | ⟨g, cap, cur, rfl, _, hh, hc, _⟩
 · refine ⟨none, 0, by rw [hn], by omega, fun k s hk => ?_, (fun a e => by cases e), (fun a e => by cases e)⟩
   have := (List.getElem?_eq_some_iff.1 hk).1
   omega
 · refine ⟨_, cap, rfl, hc, fun k x hk => ⟨g, 0, rfl, (h.lt g rfl).2, fun j u hj => ?_⟩, (fun a e => by injection e with e; subst e; rfl), (fun a e => by injection e with e; exact ⟨g, e.symm⟩)⟩
   have hlt := (List.getElem?_eq_some_iff.1 hk).1
   have hjn : j < n := by
     have := (List.getElem?_eq_some_iff.1 hj).1
     rw [he] at this; exact this
   have hkn : k * n + j < L.length * n := by
     have : (k + 1) * n ≤ L.length * n := Nat.mul_le_mul_right n hlt
     rw [Nat.add_mul] at this
     omega
   rw [Nat.zero_add, World.ownsRow.cellAt h (k * n + j) hkn, valsG_get he L k x j hk hjn]
   exact hj
theorem OwnG.nil (w : World) (base : Nat) : OwnG enc n E w base (.slice none 0 0) [] := World.ownsRow_nil _ _ _ _
theorem OwnG.alloc {w : World} {base : Nat} {v : Value} {L : List α} (h : OwnG enc n E w base v L) (o : Obj) : OwnG enc n E (w.alloc o) base v L := World.ownsRow.alloc h o
theorem OwnG.base {w : World} {base base' : Nat} {v : Value} {L : List α} (h : OwnG enc n E w base v L) (hb : base' ≤ base) : OwnG enc n E w base' v L :=
 ⟨h.1, h.2.imp id fun ⟨g, cap, cur, e, hg, r⟩ => ⟨g, cap, cur, e, by omega, r⟩⟩
structure RowT (P : Program) (T E : TypeId) (n : Nat) where
 z : Value
 bytes : Nat
 und : P.underlying T = some (.slice E)
 info : (P.info? E).map (fun i => (i.zero, i.size, i.bytes)) = some (some z, n, bytes)
 zlen : z.cells.size = n
 pos : 0 < n
 sb : bytes ≤ 1000
theorem run_appG {P : Program} {T : TypeId} (R : RowT P T E n) (he : ∀ x, (enc x).length = n) (h1c : ∀ x, ∀ u ∈ enc x, u.oneCell' = true) {w : World} {base : Nat} {v : Value} {L N : List α} {A : Option Addr} {c : Nat} (h : OwnG enc n E w base v L) (hn : RG enc n w A N) (hbase : base ≤ w.heap.size) (hl : L.length + N.length ≤ 100000000) :
   ∃ v' w', (Builtin.append_ #[T, T] T #[v, .slice A N.length c]).run P w = .ok v' w' ∧ OwnG enc n E w' base v' (L ++ N) ∧ w.grownBy w' v.ownBlock ∧ (v'.ownBlock = v.ownBlock ∨ v'.ownBlock = some w.heap.size) := by
 obtain ⟨i0, hi, hz0, hz1, hz2⟩ := info_parts R.info
 rcases A with _ | ad
 · have hN : N = [] := by
     cases N with
     | nil => rfl
     | cons s N =>
       obtain ⟨g, o, e, _⟩ := hn 0 s rfl
       cases e
   subst hN
   refine ⟨v, w, ?_, by simpa using h, World.grownBy.refl w _, .inl rfl⟩
   rcases h.2 with ⟨rfl, _⟩ | ⟨g, cap, cur, rfl, _, _, hnc, _⟩
   · simp [Builtin.append_, run_underlying R.und, sizeOf, typeInfo, hi, Builtin.lenOf, Builtin.firstCells]
   · simp [Builtin.append_, run_underlying R.und, sizeOf, typeInfo, hi, Builtin.lenOf, Builtin.firstCells, hnc, storeCells]
 · have hpos := R.pos
   have hcells : ∀ j u, (valsG enc N)[j]? = some u → w.cell? (ad.add j) = some u := fun j u hu => by
     have hj := (List.getElem?_eq_some_iff.1 hu).1
     rw [valsG_len he] at hj
     have hj2 : j / n < N.length := (Nat.div_lt_iff_lt_mul hpos).2 hj
     obtain ⟨g, o, e, _, h1⟩ := hn (j / n) N[j / n] (List.getElem?_eq_getElem hj2)
     have hp := valsG_get he N (j / n) N[j / n] (j % n) (List.getElem?_eq_getElem hj2) (Nat.mod_lt _ hpos)
     injection e with e
     subst e
     have e2 : (Addr.mk g o none).add j = ⟨g, o + j, none⟩ := by
       unfold Addr.add
       split
       · rename_i h0; subst h0; rfl
       · rfl
     have e3 : j / n * n + j % n = j := Nat.div_add_mod' j n
     rw [e2]
     rw [e3, hu] at hp
     have := h1 (j % n) u hp.symm
     rw [Nat.add_assoc, e3] at this
     exact this
   have hbb : (L.length + N.length) * R.bytes ≤ 140737488355328 := by
     have : (L.length + N.length) * R.bytes ≤ 100000000 * 1000 := Nat.mul_le_mul hl R.sb
     omega
   obtain ⟨v', w', hrun, h2, h3, _, h5⟩ := run_append_own_at (P := P) w base T T E i0 _ n R.bytes R.und hi hz0 hz1 hz2 R.zlen hpos v L.length (valsG enc L) h ad N.length c (valsG enc N) (valsG_len he N) hcells
     (fun u hu => by
       simp only [valsG, List.mem_flatMap] at hu
       obtain ⟨s, _, hs⟩ := hu
       exact h1c s u hs) (by simp only [maxLen]; omega) hbb hbase
   refine ⟨v', w', hrun, ?_, h3, h5⟩
   unfold OwnG
   rw [List.length_append, valsG_app]
   exact h2
theorem rg_new (w : World) (x : α) (t : TypeId) : RG enc n (w.alloc (.cells (enc x).toArray t)) (some ⟨w.heap.size, 0, none⟩) [x] := fun k y hk => by
 cases k with
 | zero =>
   simp at hk
   subst hk
   refine ⟨_, _, rfl, by simp, fun j v hj => ?_⟩
   rw [World.cell?_alloc_at _ _ _ _ rfl, Nat.zero_mul, Nat.zero_add]
   simpa using hj
 | succ k => simp at hk
end
end
section
open Go.RowKit Go.Deep Go.Maps
def hB (v : Value) : Option (DataW Value × List MemPlace) := some (.held v, [])
end
section
open Go.RowKit Go.Deep
abbrev Pr := ByteArray × ByteArray
def PR (w : World) (A : Option Addr) (P : List Pr) : Prop :=
 ∀ k x, P[k]? = some x → ∃ g o, A = some ⟨g, o, none⟩ ∧ g < w.heap.size ∧ w.cell? ⟨g, o + k * 2, none⟩ = some (.string x.1) ∧ w.cell? ⟨g, o + k * 2 + 1, none⟩ = some (.string x.2)
end
section
open Go.RowKit Go.Deep Go.Maps
end
end Go.Proofs.YtmcophlmcloooaaGreatDoor
namespace Go.Proofs
open Go.Shelf
def Tryz.grow77_ren : Go.Shelf.Ren := ⟨fun | 4 => 77 | n => n, fun | 22 => 29 | 25 => 5 | 3 => 3 | 4 => 4 | 9 => 9 | 20 => 20 | 0 => 0 | n => n, fun | n => n⟩
theorem Tryz.grow77 : Go.Proofs.Lays8.n4 Tryz.prog Tryz.grow77_ren := {
 mixed := by kernel_rfl
 f4 := ⟨Tryz.f77.name, by decide, Tryz.func77.trans (congrArg some (by kernel_rfl))⟩
 t0 := Tryz.underlying0
 a0 := Tryz.isAgg0
 z0 := Tryz.sizeOf0
 v0 := Tryz.zeroValue0
 t3 := Tryz.underlying3
 a3 := Tryz.isAgg3
 z3 := Tryz.sizeOf3
 v3 := Tryz.zeroValue3
 t4 := Tryz.underlying4
 a4 := Tryz.isAgg4
 z4 := Tryz.sizeOf4
 v4 := Tryz.zeroValue4
 t9 := Tryz.underlying9
 a9 := Tryz.isAgg9
 z9 := Tryz.sizeOf9
 v9 := Tryz.zeroValue9
 t20 := Tryz.underlying20
 a20 := Tryz.isAgg20
 z20 := Tryz.sizeOf20
 v20 := Tryz.zeroValue20
 t22 := Tryz.underlying29
 a22 := Tryz.isAgg29
 z22 := Tryz.sizeOf29
 v22 := Tryz.zeroValue29 }
def Tryz.sort107_ren : Go.Shelf.Ren := ⟨fun | 6 => 107 | 15 => 143 | 14 => 168 | 28 => 203 | 29 => 204 | 20 => 224 | 21 => 225 | 22 => 226 | 23 => 227 | 24 => 228 | 25 => 229 | 26 => 230 | 27 => 231 | 46 => 261 | 47 => 242 | 48 => 243 | 49 => 262 | 50 => 263 | 57 => 277 | n => n, fun | 22 => 105 | 24 => 104 | 25 => 167 | 3 => 3 | 39 => 195 | 0 => 0 | 53 => 238 | 55 => 156 | 4 => 4 | 46 => 231 | 45 => 230 | 50 => 235 | 5 => 5 | 9 => 9 | 66 => 271 | 70 => 275 | 76 => 288 | 77 => 289 | n => n, fun | n => n⟩
theorem Tryz.sort107 : Go.Proofs.SlLaysF0.n6 Tryz.prog Tryz.sort107_ren := {
 mixed := by kernel_rfl
 f6 := ⟨Tryz.f107.name, by decide, Tryz.func107.trans (congrArg some (by kernel_rfl))⟩
 f14 := ⟨Tryz.f168.name, by decide, Tryz.func168.trans (congrArg some (by kernel_rfl))⟩
 f15 := Tryz.func143.trans (congrArg some (by kernel_rfl))
 f20 := ⟨Tryz.f224.name, by decide, Tryz.func224.trans (congrArg some (by kernel_rfl))⟩
 f21 := ⟨Tryz.f225.name, by decide, Tryz.func225.trans (congrArg some (by kernel_rfl))⟩
 f22 := ⟨Tryz.f226.name, by decide, Tryz.func226.trans (congrArg some (by kernel_rfl))⟩
 f23 := ⟨Tryz.f227.name, by decide, Tryz.func227.trans (congrArg some (by kernel_rfl))⟩
 f24 := ⟨Tryz.f228.name, by decide, Tryz.func228.trans (congrArg some (by kernel_rfl))⟩
 f25 := ⟨Tryz.f229.name, by decide, Tryz.func229.trans (congrArg some (by kernel_rfl))⟩
 f26 := ⟨Tryz.f230.name, by decide, Tryz.func230.trans (congrArg some (by kernel_rfl))⟩
 f27 := ⟨Tryz.f231.name, by decide, Tryz.func231.trans (congrArg some (by kernel_rfl))⟩
 f28 := Tryz.func203.trans (congrArg some (by kernel_rfl))
 f29 := Tryz.func204.trans (congrArg some (by kernel_rfl))
 f46 := ⟨Tryz.f261.name, by decide, Tryz.func261.trans (congrArg some (by kernel_rfl))⟩
 f47 := Tryz.func242.trans (congrArg some (by kernel_rfl))
 f48 := Tryz.func243.trans (congrArg some (by kernel_rfl))
 f49 := ⟨Tryz.f262.name, by decide, Tryz.func262.trans (congrArg some (by kernel_rfl))⟩
 f50 := ⟨Tryz.f263.name, by decide, Tryz.func263.trans (congrArg some (by kernel_rfl))⟩
 f57 := ⟨Tryz.f277.name, by decide, Tryz.func277.trans (congrArg some (by kernel_rfl))⟩
 t0 := Tryz.underlying0
 a0 := Tryz.isAgg0
 z0 := Tryz.sizeOf0
 v0 := Tryz.zeroValue0
 t3 := Tryz.underlying3
 a3 := Tryz.isAgg3
 z3 := Tryz.sizeOf3
 v3 := Tryz.zeroValue3
 t4 := Tryz.underlying4
 a4 := Tryz.isAgg4
 z4 := Tryz.sizeOf4
 v4 := Tryz.zeroValue4
 t5 := Tryz.underlying5
 a5 := Tryz.isAgg5
 z5 := Tryz.sizeOf5
 v5 := Tryz.zeroValue5
 t9 := Tryz.underlying9
 a9 := Tryz.isAgg9
 z9 := Tryz.sizeOf9
 v9 := Tryz.zeroValue9
 t22 := Tryz.underlying105
 a22 := Tryz.isAgg105
 z22 := Tryz.sizeOf105
 v22 := Tryz.zeroValue105
 t25 := Tryz.underlying167
 a25 := Tryz.isAgg167
 z25 := Tryz.sizeOf167
 v25 := Tryz.zeroValue167
 t39 := Tryz.underlying195
 a39 := Tryz.isAgg195
 z39 := Tryz.sizeOf195
 v39 := Tryz.zeroValue195
 t45 := Tryz.underlying230
 a45 := Tryz.isAgg230
 z45 := Tryz.sizeOf230
 v45 := Tryz.zeroValue230
 t46 := Tryz.underlying231
 a46 := Tryz.isAgg231
 z46 := Tryz.sizeOf231
 v46 := Tryz.zeroValue231
 t50 := Tryz.underlying235
 a50 := Tryz.isAgg235
 z50 := Tryz.sizeOf235
 v50 := Tryz.zeroValue235
 t53 := Tryz.underlying238
 a53 := Tryz.isAgg238
 z53 := Tryz.sizeOf238
 v53 := Tryz.zeroValue238
 t55 := Tryz.underlying156
 a55 := Tryz.isAgg156
 z55 := Tryz.sizeOf156
 v55 := Tryz.zeroValue156
 t66 := Tryz.underlying271
 a66 := Tryz.isAgg271
 z66 := Tryz.sizeOf271
 v66 := Tryz.zeroValue271
 t70 := Tryz.underlying275
 a70 := Tryz.isAgg275
 z70 := Tryz.sizeOf275
 v70 := Tryz.zeroValue275
 t76 := Tryz.underlying288
 a76 := Tryz.isAgg288
 z76 := Tryz.sizeOf288
 v76 := Tryz.zeroValue288
 t77 := Tryz.underlying289
 a77 := Tryz.isAgg289
 z77 := Tryz.sizeOf289
 v77 := Tryz.zeroValue289 }
end Go.Proofs

namespace Go.Proofs.YtmcophlmcloooaaGreatDoor
section
open Go.RowKit Go.Deep Go.Sort Go.Shelf
def cmpS (x y : ByteArray) : Int := if sLt x y then -1 else if sLt y x then 1 else 0
theorem isNaN_any (x : ByteArray) (w : World) : Calls Tryz.prog 144 #[.string x] w fun e w' => e = .returned (.bool false) ∧ w = w' := by
 go_enter Tryz.func144, Tryz.ntmps144
 go_wp2
 go_ret
 exact ⟨by simp, rfl⟩
theorem compare_any (x y : ByteArray) (w : World) : Calls Tryz.prog 88 #[.string x, .string y] w fun e w' => e = .returned (.int .i64 (cmpS x y)) ∧ w = w' := by
 have HN := hide (fun s W => isNaN_any s W)
 cases h1 : sLt x y with
 | true =>
   have q1 : Op.bytesLess x.toList y.toList = true := h1
   have HR := hide (show cmpS x y = -1 by unfold cmpS; rw [h1]; rfl)
   clear h1
   go_enter Tryz.func88, Tryz.ntmps88
   go_wp2_with fail
   refine (HN.out _ _).mono ?_
   rintro e w' ⟨rfl, rfl⟩
   go_wp2_with fail
   refine (HN.out _ _).mono ?_
   rintro e w' ⟨rfl, rfl⟩
   go_wp2
   go_ret
   rw [HR.out]
   exact ⟨rfl, rfl⟩
 | false =>
   have q1 : Op.bytesLess x.toList y.toList = false := h1
   cases h2 : sLt y x with
   | true =>
     have q2 : Op.bytesLess y.toList x.toList = true := h2
     have HR := hide (show cmpS x y = 1 by unfold cmpS; rw [h1, h2]; rfl)
     have q3 : (x.toList == y.toList) = false := by
       rw [← Bool.not_eq_true, beq_iff_eq]
       intro e
       rw [e] at q1
       rw [← e] at q2
       rw [e] at q2
       rw [q1] at q2
       cases q2
     clear h1 h2
     go_enter Tryz.func88, Tryz.ntmps88
     go_wp2_with fail
     refine (HN.out _ _).mono ?_
     rintro e w' ⟨rfl, rfl⟩
     go_wp2_with fail
     refine (HN.out _ _).mono ?_
     rintro e w' ⟨rfl, rfl⟩
     go_wp2
     go_ret
     rw [HR.out]
     exact ⟨rfl, rfl⟩
   | false =>
     have HR := hide (show cmpS x y = 0 by unfold cmpS; rw [h1, h2]; rfl)
     have hxy : x = y := by
       rcases sLt_tot _ _ h1 with e | e
       · exact e
       · rw [h2] at e; cases e
     subst hxy
     clear h1 h2
     go_enter Tryz.func88, Tryz.ntmps88
     go_wp2_with fail
     refine (HN.out _ _).mono ?_
     rintro e w' ⟨rfl, rfl⟩
     go_wp2_with fail
     refine (HN.out _ _).mono ?_
     rintro e w' ⟨rfl, rfl⟩
     go_wp2
     go_ret
     rw [HR.out]
     exact ⟨rfl, rfl⟩
theorem lt_cmpS (x y : Pr) : ltOf (fun x y : Pr => cmpS x.1 y.1) x y = sLt x.1 y.1 := by
 unfold ltOf cmpS
 cases h1 : sLt x.1 y.1 with
 | true => simp [h1]
 | false => cases h2 : sLt y.1 x.1 <;> simp [h1, h2]
theorem swo_cmpS : SWO (ltOf fun x y : Pr => cmpS x.1 y.1) where
 irrefl x := by rw [lt_cmpS]; exact sLt_irr _
 trans x y z h1 h2 := by rw [lt_cmpS] at *; exact sLt_trans _ _ _ h1 h2
 ntrans x y z h1 h2 := by
   rw [lt_cmpS] at *
   rw [← Bool.not_eq_true]
   intro h3
   rcases sLt_tot _ _ h1 with e | h4
   · rw [e] at h3; rw [h2] at h3; cases h3
   · have := sLt_trans _ _ _ h4 h3
     rw [h2] at this; cases this
theorem putI_heap {w : World} {g n : Nat} {os : Array Obj} {cur : Array Value} {e : TypeId} {fr : Nat × Nat} (d : Array Value) (hb : w.heap[g]? = some (.cells cur e fr)) : (grow (putRow id (Sort.ahead w n) g 0 d) os).heap[g]? = some (.cells (putCells id 0 d cur) e fr) := by
 have hg : g < w.heap.size := (Array.getElem?_eq_some_iff.1 hb).1
 rw [heap_grow_old _ _ (by simpa using hg)]
 simp [putRow, mapBlock, Sort.ahead, Array.getElem?_modify, hb, onCells]
theorem putI_grown {w : World} {g n : Nat} {os : Array Obj} (d : Array Value) : w.grownBy (grow (putRow id (Sort.ahead w n) g 0 d) os) (some g) := by
 refine ⟨rfl, rfl, rfl, by simp, fun k hk hne => ?_⟩
 rw [heap_grow_old _ _ (by simpa using hk)]
 have : g ≠ k := fun e => hne (by rw [e])
 simp [putRow, mapBlock, Sort.ahead, Array.getElem?_modify, this]
theorem putI_take (cur : Array Value) (ts : List Value) (h : ts.length ≤ cur.size) : (putCells id 0 ts.toArray cur).toList.take ts.length = ts := by
 apply List.ext_getElem?
 intro j
 by_cases hj : j < ts.length
 · rw [List.getElem?_take_of_lt hj, Array.getElem?_toList]
   simp [putCells, hj, show j < cur.size by omega]
 · rw [List.getElem?_take_eq_none (by omega), List.getElem?_eq_none (by omega)]
theorem rise_unique {P Q : KV ByteArray} (hP : RiseG P) (hQ : RiseG Q) (h : P.Perm Q) : P = Q := by
 refine hP.ext hQ fun n => ?_
 cases h1 : getG P n with
 | some v => exact (mem_getG hQ (h.mem_iff.1 (getG_mem h1))).symm
 | none =>
   cases h2 : getG Q n with
   | none => rfl
   | some v =>
     have := mem_getG hP (h.mem_iff.2 (getG_mem h2))
     rw [h1] at this; cases this
theorem sorted_rise {P : KV ByteArray} (hP : RiseG P) {d : Array Pr} (hp : d.toList.Perm P) (hs : SortedIn (ltOf fun x y : Pr => cmpS x.1 y.1) 0 d.size d) : d.toList = P := by
 refine rise_unique ?_ hP hp
 have hnd : (d.toList.map Prod.fst).Nodup := by
   refine (hp.map Prod.fst).nodup_iff.2 ?_
   rw [List.nodup_iff_pairwise_ne, List.pairwise_map]
   exact hP.imp fun {a b} h e => by rw [e, sLt_irr] at h; cases h
 unfold RiseG
 rw [List.pairwise_iff_getElem]
 intro i j hi hj hij
 have hi' : i < d.size := by simpa using hi
 have hj' : j < d.size := by simpa using hj
 have h1 := hs i j (Nat.zero_le _) hij hj'
 rw [lt_cmpS, getElem!_pos d i hi', getElem!_pos d j hj'] at h1
 rcases sLt_tot _ _ h1 with e | h
 · exfalso
   rw [List.nodup_iff_pairwise_ne, List.pairwise_map, List.pairwise_iff_getElem] at hnd
   exact hnd i j hi hj hij (by simpa using e.symm)
 · simpa using h
end
section
open Go.RowKit Go.Deep Go.Sort Go.Shelf
abbrev spty : TypeId := 104
abbrev Spt := ByteArray × ByteArray
def encSp (x : Spt) : List Value := [.string x.2, .string x.1]
theorem encSp_len (x : Spt) : (encSp x).length = 2 := rfl
theorem encSp_one (x : Spt) : ∀ u ∈ encSp x, u.oneCell' = true := by
 intro u hu
 simp [encSp] at hu
 rcases hu with rfl | rfl <;> rfl
def rowSp : RowT Tryz.prog 105 104 2 := { z := .agg #[.string ⟨#[]⟩, .string ⟨#[]⟩], bytes := 32, und := Tryz.underlying105, info := by kernel_rfl, zlen := rfl, pos := by omega, sb := by omega }
abbrev OwnSp (w : World) (base : Nat) (v : Value) (L : List Spt) : Prop := OwnG encSp 2 spty w base v L
theorem first1_any (x y : Spt) (W : World) : Calls Tryz.prog 108 #[.agg #[.string x.2, .string x.1], .agg #[.string y.2, .string y.1]] W fun e w' => e = .returned (.int .i64 (cmpS x.1 y.1)) ∧ ∃ q os', w' = grow (W.drewN q) os' := by
 have HC := hide (fun W' => compare_any x.1 y.1 W')
 obtain ⟨r, hr⟩ : ∃ r, cmpS x.1 y.1 = r := ⟨_, rfl⟩
 rw [hr] at HC ⊢
 clear hr
 go_enter Tryz.func108, Tryz.ntmps108
 go_wp2_with fail
 refine (HC.out _).mono ?_
 rintro e w' ⟨rfl, rfl⟩
 go_wp2
 go_ret
 exact ⟨rfl, 0, _, by rw [alloc_eq_grow, alloc_eq_grow, grow_grow]; rfl⟩
theorem flat_sp (L : List Spt) : (flatK encSp 2 L.toArray).toList = valsG encSp L := by
 apply List.ext_getElem?
 intro t
 by_cases ht : t < L.length * 2
 · have hk : t / 2 < L.length := by omega
   have h1 : (flatK encSp 2 L.toArray).toList[t]? = some ((flatK encSp 2 L.toArray)[t]!) := by
     rw [Array.getElem?_toList, Array.getElem?_eq_getElem (by simpa using ht)]
     congr 1
     exact (getElem!_pos _ t (by simpa using ht)).symm
   rw [h1, get_flatK _ _ _ _ (by simpa using ht)]
   have h2 : L.toArray[t / 2]! = L[t / 2] := by
     rw [getElem!_pos _ _ (by simpa using hk)]
     simp
   rw [h2]
   have h3 := fun j hj => valsG_get encSp_len L (t / 2) L[t / 2] j (List.getElem?_eq_getElem hk) hj
   rcases Nat.mod_two_eq_zero_or_one t with hm | hm
   · have e : t = t / 2 * 2 + 0 := by omega
     rw [hm]
     conv => rhs; rw [e, h3 0 (by omega)]
     rfl
   · have e : t = t / 2 * 2 + 1 := by omega
     rw [hm]
     conv => rhs; rw [e, h3 1 (by omega)]
     rfl
 · rw [List.getElem?_eq_none (by rw [Array.length_toList, size_flatK]; simpa using ht), List.getElem?_eq_none (by rw [valsG_len encSp_len]; omega)]
theorem sortSp_any {w : World} {base : Nat} {v : Value} {P0 P : List Spt} (h : OwnSp w base v P0) (hp : P0.Perm P) (hr : RiseG P) (hl : P0.length ≤ 1000000) :
   Calls Tryz.prog 107 #[v, .func (.func 108) #[] #[]] w fun e w' => e = .returned (.tuple #[]) ∧ OwnSp w' base v P ∧ w.grownBy w' v.ownBlock := by
 have eg : ∀ args w, (callFunc 108 args).run Tryz.prog w = .ok (.enter 108 args) w := enters_of Tryz.func108 (by kernel_rfl) rfl
 have hpl := hp.length_eq
 rcases h.2 with ⟨rfl, hn⟩ | ⟨g, cap, cur, rfl, hbg, hh, hc, hm, hs, ht⟩
 · have hF : P0 = [] := List.eq_nil_of_length_eq_zero hn
   subst hF
   have hP : P = [] := List.eq_nil_of_length_eq_zero (by rw [← hpl]; rfl)
   subst hP
   exact (AnyF.slices_SortFunc_none Tryz.sort107 none 0 _ w).mono fun e w' ⟨h1, h2⟩ => ⟨h1, by rw [h2]; exact OwnG.nil w base, by rw [h2]; exact World.grownBy.refl _ _⟩
 · have hlt : g < w.heap.size := (Array.getElem?_eq_some_iff.1 hh).1
   have hH : HoldsK encSp 2 w g 0 P0.toArray := by
     intro j hj
     have hj2 : j < P0.length * 2 := by simpa using hj
     refine ⟨?_, by simp [World.frozen?, hh]⟩
     have h1 : (cur.toList.take (P0.length * 2))[j]? = (valsG encSp P0)[j]? := by rw [ht]
     rw [List.getElem?_take_of_lt hj2] at h1
     have h2 : (flatK encSp 2 P0.toArray).toList[j]? = (valsG encSp P0)[j]? := by rw [flat_sp]
     have h3 : (flatK encSp 2 P0.toArray)[j]? = some ((flatK encSp 2 P0.toArray)[j]!) := by
       rw [Array.getElem?_eq_getElem (by simpa using hj)]
       congr 1
       exact (getElem!_pos _ j (by simpa using hj)).symm
     rw [Array.getElem?_toList, h3] at h2
     simp only [World.cell?, hh, Nat.zero_add]
     simp only [Option.isSome_none, Bool.false_eq_true, if_false]
     rw [← Array.getElem?_toList, h1, ← h2]
     rfl
   have hcon := AnyQ.slices_SortFunc Tryz.sort107 2 Tryz.isAgg104 Tryz.sizeOf104 encSp (fun _ => rfl) (fun x v hv => by simp [encSp] at hv; rcases hv with rfl | rfl <;> rfl) (fun x y : Pr => cmpS x.1 y.1) swo_cmpS 108 #[] g 0 cap P0.toArray w eg (fun _ _ _ _ x y => first1_any x y _) hH hlt (by simp; omega)
   change Calls Tryz.prog 107 #[.slice (some ⟨g, 0, none⟩) P0.length cap, .func (.func 108) #[] #[]] w _ at hcon
   refine hcon.mono ?_
   rintro e w' ⟨rfl, d', n, os, hpm, hst, rfl⟩
   have hsz : d'.size = P0.length := by simpa using hpm.1
   have hpm2 : d'.toList.Perm P := by
     have := hpm.2.2
     rw [show (P0.toArray).size = P0.length by simp] at this
     have e1 : (d'.extract 0 P0.length).toList = d'.toList := by rw [← hsz]; simp
     rw [e1] at this
     refine this.trans ?_
     simpa using hp
   have hst2 : SortedIn (ltOf fun x y : Pr => cmpS x.1 y.1) 0 d'.size d' := by rw [hsz]; simpa using hst
   have hdl := sorted_rise hr hpm2 hst2
   obtain rfl : d' = P.toArray := by rw [← hdl]
   refine ⟨rfl, ?_, putI_grown _⟩
   have hfl : (flatK encSp 2 P.toArray) = (valsG encSp P).toArray := by
     apply Array.ext'
     rw [flat_sp]
   unfold sortWorldK putRowK
   rw [hfl]
   refine ⟨valsG_len encSp_len P, .inr ⟨g, cap, _, by rw [hpl], hbg, putI_heap _ hh, by rw [← hpl]; exact hc, hm, by simp [putCells, hs], ?_⟩⟩
   rw [← valsG_len encSp_len P]
   exact putI_take cur (valsG encSp P) (by rw [valsG_len encSp_len, hs, ← hpl]; exact Nat.mul_le_mul_right 2 hc)
end
section
open Go.RowKit
def bs (l : List UInt8) : ByteArray := ⟨l.toArray⟩
theorem bs_list (l : List UInt8) : (bs l).data.toList = l := by simp [bs]
theorem bs_size (l : List UInt8) : (bs l).size = l.length := by simp [bs, ByteArray.size]
theorem bs_app (a b : List UInt8) : bs a ++ bs b = bs (a ++ b) := by
 apply ByteArray.ext
 simp [bs]
theorem bs_of (s : ByteArray) : bs s.data.toList = s := by apply ByteArray.ext; simp [bs]
theorem bs_inj {a b : List UInt8} (h : bs a = bs b) : a = b := by
 have := congrArg (fun s => s.data.toList) h
 simpa [bs_list] using this
theorem bs_toList (l : List UInt8) : (bs l).toList = l := by rw [ByteArray.toList_eq, bs_list]
theorem ext_bs (l : List UInt8) (i j : Nat) : (bs l).extract i j = bs ((l.drop i).take (j - i)) := by
 apply ByteArray.ext
 apply Array.ext'
 rw [Lib.extract_data]
 simp [bs]
theorem data_len (s : ByteArray) : s.data.toList.length = s.size := Array.length_toList
theorem ixb_ge (c : UInt8) : ∀ l : List UInt8, -1 ≤ Lib.indexByte l c
 | [] => by simp [Lib.indexByte]
 | b :: l => by
   have := ixb_ge c l
   rw [Lib.indexByte]
   split
   · omega
   · split <;> omega
theorem ixb_mem (c : UInt8) : ∀ l : List UInt8, 0 ≤ Lib.indexByte l c ↔ c ∈ l
 | [] => by simp [Lib.indexByte]
 | b :: l => by
   have h1 := ixb_mem c l
   have h2 := ixb_ge c l
   rw [Lib.indexByte, List.mem_cons, ← h1]
   by_cases e : b = c
   · subst e; simp
   · have e2 : c ≠ b := fun h => e h.symm
     rw [if_neg (by simpa using e)]
     by_cases e3 : Lib.indexByte l c = -1
     · rw [if_pos (by simpa using e3), e3]; simp [e2]
     · rw [if_neg (by simpa using e3)]
       simp only [e2, false_or]
       omega
end
section
open Go.RowKit
theorem ownsRow_put {w : World} {base : Nat} {e : TypeId} {n g len cap : Nat} {vals : List Value} (h : w.ownsRow base e n (.slice (some ⟨g, 0, none⟩) len cap) len vals) {i : Nat} (hi : i < len * n) (u : Value) :
   (∃ v, w.cell? ⟨g, i, none⟩ = some v) ∧ w.frozen? ⟨g, i, none⟩ = false ∧ (w.setCell ⟨g, i, none⟩ u).ownsRow base e n (.slice (some ⟨g, 0, none⟩) len cap) len (vals.set i u) := by
 obtain ⟨h1, h2⟩ := h
 rcases h2 with ⟨h2, _⟩ | ⟨g', cap', cur, e1, hb, hh, hc, hm, hs, ht⟩
 · cases h2
 injection e1 with e1 e2 e3
 injection e1 with e1
 injection e1 with e1
 subst e1 e3
 have hcur : i < cur.size := by
   rw [hs]
   exact Nat.lt_of_lt_of_le hi (Nat.mul_le_mul_right n hc)
 refine ⟨⟨cur[i], by simp [World.cell?, hh, hcur]⟩, by simp [World.frozen?, hh], by rw [List.length_set]; exact h1, .inr ⟨g, cap, cur.setIfInBounds i u, rfl, hb, ?_, hc, hm, by simpa using hs, ?_⟩⟩
 · simp [World.setCell, Array.getElem?_modify, hh]
 · rw [Array.toList_setIfInBounds, List.take_set, ht]
end
section
open Go.RowKit Go.Deep Go.Sort Go.Shelf
theorem ownsRow_pre {w : World} {base : Nat} {e : TypeId} {n g len cap : Nat} {vals : List Value} (h : w.ownsRow base e n (.slice (some ⟨g, 0, none⟩) len cap) len vals) {k : Nat} (hk : k ≤ len) : w.ownsRow base e n (.slice (some ⟨g, 0, none⟩) k cap) k (vals.take (k * n)) := by
 obtain ⟨h1, h2⟩ := h
 rcases h2 with ⟨h2, _⟩ | ⟨g', cap', cur, e1, hb, hh, hc, hm, hs, ht⟩
 · cases h2
 injection e1 with e1 e2 e3
 injection e1 with e1
 injection e1 with e1
 subst e1 e3
 have hkn : k * n ≤ len * n := Nat.mul_le_mul_right n hk
 refine ⟨by rw [List.length_take, h1]; omega, .inr ⟨g, cap, cur, rfl, hb, hh, by omega, hm, hs, ?_⟩⟩
 rw [← ht, List.take_take, Nat.min_eq_left hkn]
theorem ownsRow_past {w : World} {base : Nat} {e : TypeId} {n g len cap : Nat} {vals : List Value} (h : w.ownsRow base e n (.slice (some ⟨g, 0, none⟩) len cap) len vals) {k : Nat} (hk : len * n ≤ k) (u : Value) : (w.setCell ⟨g, k, none⟩ u).ownsRow base e n (.slice (some ⟨g, 0, none⟩) len cap) len vals := by
 obtain ⟨h1, h2⟩ := h
 rcases h2 with ⟨h2, _⟩ | ⟨g', cap', cur, e1, hb, hh, hc, hm, hs, ht⟩
 · cases h2
 injection e1 with e1 e2 e3
 injection e1 with e1
 injection e1 with e1
 subst e1 e3
 refine ⟨h1, .inr ⟨g, cap, cur.setIfInBounds k u, rfl, hb, ?_, hc, hm, by simpa using hs, ?_⟩⟩
 · simp [World.setCell, Array.getElem?_modify, hh]
 · rw [Array.toList_setIfInBounds, List.take_set, ht, List.set_eq_of_length_le (by rw [h1]; exact hk)]
theorem ownsRow_pasts {base : Nat} {e : TypeId} {n g len cap : Nat} {vals : List Value} : ∀ (zs : List Value) (k : Nat) {w : World}, w.ownsRow base e n (.slice (some ⟨g, 0, none⟩) len cap) len vals → len * n ≤ k → (w.setCells g k zs).ownsRow base e n (.slice (some ⟨g, 0, none⟩) len cap) len vals ∧ (w.setCells g k zs).heap.size = w.heap.size ∧ Kp w (w.setCells g k zs) (fun q => q = g)
 | [], k, w, h, _ => ⟨h, rfl, Kp.refl _ _⟩
 | z :: zs, k, w, h, hk => by
   obtain ⟨h1, h2, h3⟩ := ownsRow_pasts zs (k + 1) (ownsRow_past h hk z) (by omega)
   have hkp : Kp w (w.setCell ⟨g, k, none⟩ z) (fun q => q = g) := ⟨rfl, rfl, rfl, by simp, fun q _ hne => Below.heap_setCell _ _ _ _ (by simpa using hne)⟩
   exact ⟨h1, h2.trans (by simp), hkp.trans (h3.mono fun q e => .inl e)⟩
theorem zero2 (z : Value) (n : Nat) : (Builtin.zeroCells #[z, z] n).toList = List.replicate (n * 2) z := by
 simp [Builtin.zeroCells]
 apply List.ext_getElem
 · simp
 · intro i h1 h2
   simp
   have : i % 2 = 0 ∨ i % 2 = 1 := by omega
   rcases this with e | e <;> simp [e]
theorem run_clear2 (w : World) (ty : TypeId) (b o n c : Nat) (hn : 0 < n) (hc : ∀ j, j < n * 2 → (w.cell? ⟨b, o + j, none⟩).isSome = true) (hf : ∀ j, j < n * 2 → w.frozen? ⟨b, o + j, none⟩ = false) :
   (Builtin.clear_ #[105] ty #[.slice (some ⟨b, o, none⟩) n c]).run Tryz.prog w = .ok (.tuple #[]) (w.setCells b o (List.replicate (n * 2) (.string ⟨#[]⟩))) := by
 have hv : ∀ w, (zeroValue 104).run Tryz.prog w = .ok (.agg #[.string ⟨#[]⟩, .string ⟨#[]⟩]) w := fun _ => by kernel_rfl
 have hz : (Value.agg #[.string ⟨#[]⟩, .string ⟨#[]⟩]).cells = #[.string ⟨#[]⟩, .string ⟨#[]⟩] := rfl
 have hzc := zero2 (.string ⟨#[]⟩) n
 have hst := run_storeCells_cells (P := Tryz.prog) b o (List.replicate (n * 2) (.string ⟨#[]⟩)) 0 w (by simpa using hc) (by simpa using hf) (by intro v hv'; rw [List.eq_of_mem_replicate hv']; rfl)
 simp only [Nat.add_zero] at hst
 obtain ⟨m, rfl⟩ : ∃ m, n = m + 1 := ⟨n - 1, by omega⟩
 have ht := Tryz.underlying105
 simp [Builtin.clear_, run_underlying ht, hv, hz, hzc, hst]
end
section
open Go.RowKit
inductive Cl where
 | v (x : Value)
 | r (t : TypeId) (n len : Nat) (vals : List Value)
def ClOk (w : World) (base : Nat) : Cl → Value → Prop
 | .v x, u => u = x
 | .r t n len vals, u => w.ownsRow base t n u len vals
def Cl.row : Cl → Bool
 | .v _ => false
 | .r .. => true
theorem ownsRow_of {w w' : World} {base : Nat} {t : TypeId} {n len : Nat} {v : Value} {vals : List Value} (h : w.ownsRow base t n v len vals) (hb : ∀ k, v.ownBlock = some k → w'.heap[k]? = w.heap[k]?) : w'.ownsRow base t n v len vals := by
 obtain ⟨h1, h2⟩ := h
 refine ⟨h1, ?_⟩
 rcases h2 with h | ⟨g, cap, cur, rfl, hg, hh, r⟩
 · exact .inl h
 · exact .inr ⟨g, cap, cur, rfl, hg, (hb g rfl).trans hh, r⟩
structure OI (w0 : World) (ty : TypeId) (g : Nat) (cs : List Cl) (T : Nat → Prop) (w : World) : Prop where
 below : Below w0.heap.size w0 w
 tg : T g
 tw : ∀ k, T k → w0.heap.size ≤ k ∧ k < w.heap.size
 body : ∃ vs : List Value, w.heap[g]? = some (.cells vs.toArray ty) ∧ vs.length = cs.length ∧
   (∀ (j : Nat) (c : Cl) (u : Value), cs[j]? = some c → vs[j]? = some u → ClOk w w0.heap.size c u ∧ (c.row = true → ∀ k, u.ownBlock = some k → T k ∧ k ≠ g)) ∧
   ∀ (i j : Nat) (c d : Cl) (u v : Value), i ≠ j → cs[i]? = some c → cs[j]? = some d → c.row = true → d.row = true → vs[i]? = some u → vs[j]? = some v → ∀ k, u.ownBlock = some k → v.ownBlock ≠ some k
theorem objSet {w : World} {g j : Nat} {vs : List Value} {t : TypeId} (h : w.heap[g]? = some (.cells vs.toArray t)) (v : Value) : (w.setCell ⟨g, j, none⟩ v).heap[g]? = some (.cells (vs.set j v).toArray t) := by
 unfold World.setCell
 simp [Array.getElem?_modify, h]
theorem objKp {w : World} {g j : Nat} {v : Value} : Kp w (w.setCell ⟨g, j, none⟩ v) (fun k => k = g) :=
 ⟨rfl, rfl, rfl, by simp, fun k _ hne => Below.heap_setCell _ _ _ _ (by simpa using hne)⟩
end
end Go.Proofs.YtmcophlmcloooaaGreatDoor
namespace Go.Proofs.YtmcophlmcloooaaGreatDoor.Ln
abbrev T := List UInt8
def spl (c : UInt8) : T → List T
 | [] => [[]]
 | b :: l => if b = c then [] :: spl c l else match spl c l with
   | [] => [[b]]
   | h :: t => (b :: h) :: t
theorem spl_ne (c : UInt8) (l : T) : spl c l ≠ [] := by
 cases l with
 | nil => simp [spl]
 | cons b l =>
   rw [spl]
   split
   · simp
   · split <;> simp
theorem spl_cons_ne {c b : UInt8} (h : b ≠ c) (l : T) : ∃ x t, spl c l = x :: t ∧ spl c (b :: l) = (b :: x) :: t := by
 cases hs : spl c l with
 | nil => exact absurd hs (spl_ne c l)
 | cons x t => exact ⟨x, t, rfl, by rw [spl, if_neg h, hs]⟩
theorem spl_none {c : UInt8} : ∀ {l : T}, c ∉ l → spl c l = [l]
 | [], _ => rfl
 | b :: l, h => by
   have h1 : b ≠ c := fun e => h (by simp [e])
   rw [spl, if_neg h1, spl_none (fun hc => h (by simp [hc]))]
theorem spl_app {c : UInt8} : ∀ {a : T} (b : T), c ∉ a → spl c (a ++ c :: b) = a :: spl c b
 | [], b, _ => by rw [List.nil_append, spl, if_pos rfl]
 | x :: a, b, h => by
   have h1 : x ≠ c := fun e => h (by simp [e])
   rw [List.cons_append, spl, if_neg h1, spl_app b (fun hc => h (by simp [hc]))]
theorem spl_both (c : UInt8) (a b : T) : spl c (a ++ c :: b) = spl c a ++ spl c b := by
 induction a with
 | nil =>
   rw [List.nil_append, show spl c (c :: b) = [] :: spl c b from if_pos rfl]; rfl
 | cons x a ih =>
   rw [List.cons_append, spl, spl, ih]
   by_cases h : x = c
   · rw [if_pos h, if_pos h]; rfl
   · rw [if_neg h, if_neg h]
     cases hs : spl c a with
     | nil => exact absurd hs (spl_ne c a)
     | cons y t => rfl
def blk (c : UInt8) : Bool := c == 32 || c == 9
def trimR (l : T) : T := (l.reverse.dropWhile blk).reverse
def front (s : T) : T := trimR s.dropLast ++ [32]
end Go.Proofs.YtmcophlmcloooaaGreatDoor.Ln
namespace Go.Proofs.YtmcophlmcloooaaGreatDoor.Pth
open Ln
def stepP (out : List T) (s : T) : List T := if s = [] ∨ s = [46] then out else if s = [46, 46] then out.dropLast else out ++ [s]
def partsF (cwd p : T) : List T := (if p.head? = some 47 then spl 47 p else spl 47 cwd ++ spl 47 p).foldl stepP []
def withinF (p q : T) : Bool := decide ((partsF [47] q).take (partsF [47] p).length = partsF [47] p)
def slashed (l : List T) : T := l.flatMap (47 :: ·)
def joinF (l : List T) : T := if l = [] then [47] else slashed l
def longF (l : List T) : Bool := l.any fun s => decide (60 < s.length)
def absF (cwd p : T) : T × Nat := if p = [] ∨ 0 ∈ cwd ∨ 0 ∈ p then ([], 1) else
 if longF (partsF cwd p) = false ∧ (partsF cwd p).length ≤ 20 ∧ (joinF (partsF cwd p)).length ≤ 200 then (joinF (partsF cwd p), 0) else ([], 3)
def okN (s : T) : Prop := s ≠ [] ∧ s ≠ [46] ∧ s ≠ [46, 46] ∧ 47 ∉ s
theorem stepP_ok {s : T} (h : okN s) (out : List T) : stepP out s = out ++ [s] := by
 rw [stepP, if_neg (by rintro (e | e); exact h.1 e; exact h.2.1 e), if_neg h.2.2.1]
theorem stepP_nil (out : List T) : stepP out [] = out := if_pos (.inl rfl)
theorem spl_noslash (c : UInt8) : ∀ (l : T) (s : T), s ∈ spl c l → c ∉ s
 | [], s, h => by rw [spl] at h; simp at h; subst h; simp
 | b :: l, s, h => by
   rw [spl] at h
   split at h
   · rcases List.mem_cons.1 h with rfl | h
     · simp
     · exact spl_noslash c l s h
   · rename_i hb
     cases hs : spl c l with
     | nil => rw [hs] at h; simp at h; subst h; simpa using fun e => hb e.symm
     | cons x t =>
       rw [hs] at h
       rcases List.mem_cons.1 h with rfl | h
       · have := spl_noslash c l x (by rw [hs]; simp)
         intro hc
         rcases List.mem_cons.1 hc with e | e
         · exact hb e.symm
         · exact this e
       · exact spl_noslash c l s (by rw [hs]; simp [h])
theorem foldl_okN : ∀ (L out : List T), (∀ s ∈ L, 47 ∉ s) → (∀ s ∈ out, okN s) → ∀ s ∈ L.foldl stepP out, okN s
 | [], _, _, ho => ho
 | x :: L, out, hL, ho => by
   rw [List.foldl_cons]
   refine foldl_okN L _ (fun s hs => hL s (by simp [hs])) (fun s hs => ?_)
   unfold stepP at hs
   split at hs
   · exact ho s hs
   · split at hs
     · exact ho s (List.dropLast_subset _ hs)
     · rename_i h1 h2
       rcases List.mem_append.1 hs with hs | hs
       · exact ho s hs
       · obtain rfl : s = x := by simpa using hs
         exact ⟨fun e => h1 (.inl e), fun e => h1 (.inr e), h2, hL _ (by simp)⟩
theorem partsF_ok (cwd p : T) : ∀ s ∈ partsF cwd p, okN s := by
 unfold partsF
 refine foldl_okN _ _ (fun s hs => ?_) (by simp)
 split at hs
 · exact spl_noslash _ _ _ hs
 · rcases List.mem_append.1 hs with hs | hs <;> exact spl_noslash _ _ _ hs
theorem spl_slashed : ∀ {l : List T}, (∀ s ∈ l, 47 ∉ s) → l ≠ [] → spl 47 (slashed l) = [] :: l
 | [], _, h => absurd rfl h
 | [s], h, _ => by
   have : slashed [s] = 47 :: s := by simp [slashed]
   rw [this, spl, if_pos rfl, spl_none (h s (by simp))]
 | s :: t :: l, h, _ => by
   have ih := spl_slashed (l := t :: l) (fun s hs => h s (by simp [hs])) (by simp)
   have e : slashed (s :: t :: l) = 47 :: (s ++ slashed (t :: l)) := by simp [slashed]
   have e2 : slashed (t :: l) = 47 :: (t ++ slashed l) := by simp [slashed]
   rw [e, spl, if_pos rfl, e2, spl_app _ (h s (by simp))]
   rw [e2, spl, if_pos rfl] at ih
   injection ih with _ ih
   rw [ih]
theorem foldl_names : ∀ (l out : List T), (∀ s ∈ l, okN s) → l.foldl stepP out = out ++ l
 | [], out, _ => by simp
 | s :: l, out, h => by
   rw [List.foldl_cons, stepP_ok (h s (by simp)), foldl_names l _ (fun s hs => h s (by simp [hs]))]
   simp
theorem joinF_head (l : List T) : (joinF l).head? = some 47 := by
 unfold joinF
 split
 · rfl
 · cases l with
   | nil => exact absurd rfl ‹_›
   | cons s l => simp [slashed]
theorem parts_join {l : List T} (h : ∀ s ∈ l, okN s) (cwd : T) : partsF cwd (joinF l) = l := by
 unfold partsF
 rw [if_pos (joinF_head l)]
 by_cases e : l = []
 · subst e; rfl
 · rw [joinF, if_neg e, spl_slashed (fun s hs => (h s hs).2.2.2) e, List.foldl_cons, stepP_nil, foldl_names l [] h, List.nil_append]
theorem joinF_inj {a b : List T} (ha : ∀ s ∈ a, okN s) (hb : ∀ s ∈ b, okN s) (h : joinF a = joinF b) : a = b := by
 rw [← parts_join ha [], h, parts_join hb]
theorem slashed_app (a b : List T) : slashed (a ++ b) = slashed a ++ slashed b := by simp [slashed]
theorem slashed_len (l : List T) : (slashed l).length = (l.map (·.length + 1)).sum := by
 induction l with
 | nil => rfl
 | cons s l ih => rw [show slashed (s :: l) = (47 :: s) ++ slashed l by simp [slashed], List.length_append, ih]; simp
theorem slashed_ne {l : List T} (h : l ≠ []) : slashed l ≠ [] := by
 cases l with
 | nil => exact absurd rfl h
 | cons s l => simp [slashed]
theorem foldl_len : ∀ (L out : List T), (L.foldl stepP out).length ≤ out.length + L.length
 | [], out => by simp
 | x :: L, out => by
   rw [List.foldl_cons]
   have := foldl_len L (stepP out x)
   have h2 : (stepP out x).length ≤ out.length + 1 := by
     unfold stepP
     split
     · omega
     · split
       · rw [List.length_dropLast]; omega
       · simp
   simp only [List.length_cons]
   omega
theorem spl_len (c : UInt8) : ∀ l : T, (spl c l).length ≤ l.length + 1
 | [] => by simp [spl]
 | b :: l => by
   have := spl_len c l
   rw [spl]
   split
   · simp; omega
   · split
     · simp
     · rename_i h; rw [h] at this; simp at this ⊢; omega
theorem partsF_len (cwd p : T) : (partsF cwd p).length ≤ cwd.length + p.length + 2 := by
 unfold partsF
 refine Nat.le_trans (foldl_len _ _) ?_
 have h1 := spl_len 47 cwd
 have h2 := spl_len 47 p
 split
 · simp; omega
 · simp; omega
theorem sum_spl (c : UInt8) : ∀ l : T, ((spl c l).map (·.length + 1)).sum = l.length + 1
 | [] => rfl
 | b :: l => by
   have := sum_spl c l
   by_cases h : b = c
   · rw [spl, if_pos h]; simp at this ⊢; omega
   · obtain ⟨x, t, h1, h2⟩ := spl_cons_ne h l
     rw [h1] at this
     rw [h2]
     simp at this ⊢
     omega
theorem sum_fold : ∀ (L out : List T), ((L.foldl stepP out).map (·.length + 1)).sum ≤ (out.map (·.length + 1)).sum + (L.map (·.length + 1)).sum
 | [], out => by simp
 | x :: L, out => by
   rw [List.foldl_cons]
   have := sum_fold L (stepP out x)
   have h2 : ((stepP out x).map (·.length + 1)).sum ≤ (out.map (·.length + 1)).sum + (x.length + 1) := by
     unfold stepP
     split
     · omega
     · split
       · rw [List.dropLast_eq_take, List.map_take]
         refine Nat.le_trans ?_ (Nat.le_add_right _ _)
         conv => rhs; rw [← List.take_append_drop (out.length - 1) (out.map (·.length + 1)), List.sum_append]
         omega
       · simp
   rw [List.map_cons, List.sum_cons]
   omega
theorem joinF_len (cwd p : T) : (joinF (partsF cwd p)).length ≤ cwd.length + p.length + 3 ∧ ∀ s ∈ partsF cwd p, s.length ≤ cwd.length + p.length + 3 := by
 have h : ((partsF cwd p).map (·.length + 1)).sum ≤ cwd.length + p.length + 2 := by
   unfold partsF
   refine Nat.le_trans (sum_fold _ _) ?_
   have h1 := sum_spl 47 cwd
   have h2 := sum_spl 47 p
   split
   · simp only [List.map_nil, List.sum_nil]; omega
   · simp only [List.map_nil, List.sum_nil, List.map_append, List.sum_append]; omega
 refine ⟨?_, fun s hs => ?_⟩
 · unfold joinF
   split
   · simp
   · rw [slashed_len]; omega
 · have : ∀ L : List T, s ∈ L → s.length + 1 ≤ (L.map (·.length + 1)).sum := by
     intro L
     induction L with
     | nil => intro h; cases h
     | cons y L ih =>
       intro h
       rw [List.map_cons, List.sum_cons]
       rcases List.mem_cons.1 h with rfl | h
       · omega
       · have := ih h; omega
   have := this _ hs
   omega
structure GoodP (l : List T) : Prop where
 ok : ∀ s ∈ l, okN s
 long : ∀ s ∈ l, s.length ≤ 60
 zero : ∀ s ∈ l, 0 ∉ s
 deep : l.length ≤ 20
 len : (joinF l).length ≤ 200
theorem longF_iff (l : List T) : longF l = false ↔ ∀ s ∈ l, s.length ≤ 60 := by
 unfold longF
 rw [List.any_eq_false]
 simp
theorem spl_mem_sub (c : UInt8) : ∀ (l : T) (s : T), s ∈ spl c l → ∀ x ∈ s, x ∈ l
 | [], s, h, x, hx => by rw [spl] at h; simp at h; subst h; cases hx
 | b :: l, s, h, x, hx => by
   rw [spl] at h
   split at h
   · rcases List.mem_cons.1 h with rfl | h
     · cases hx
     · exact List.mem_cons_of_mem _ (spl_mem_sub c l s h x hx)
   · cases hs : spl c l with
     | nil => rw [hs] at h; simp at h; subst h; simp at hx; simp [hx]
     | cons y t =>
       rw [hs] at h
       rcases List.mem_cons.1 h with rfl | h
       · rcases List.mem_cons.1 hx with rfl | hx
         · simp
         · exact List.mem_cons_of_mem _ (spl_mem_sub c l y (by rw [hs]; simp) x hx)
       · exact List.mem_cons_of_mem _ (spl_mem_sub c l s (by rw [hs]; simp [h]) x hx)
theorem foldl_zero : ∀ (L out : List T), (∀ s ∈ L, 0 ∉ s) → (∀ s ∈ out, 0 ∉ s) → ∀ s ∈ L.foldl stepP out, 0 ∉ s
 | [], _, _, ho => ho
 | x :: L, out, hL, ho => by
   rw [List.foldl_cons]
   refine foldl_zero L _ (fun s hs => hL s (by simp [hs])) (fun s hs => ?_)
   unfold stepP at hs
   split at hs
   · exact ho s hs
   · split at hs
     · exact ho s (List.dropLast_subset _ hs)
     · rcases List.mem_append.1 hs with hs | hs
       · exact ho s hs
       · obtain rfl : s = x := by simpa using hs
         exact hL _ (by simp)
theorem partsF_zero {cwd p : T} (h1 : 0 ∉ cwd) (h2 : 0 ∉ p) : ∀ s ∈ partsF cwd p, 0 ∉ s := by
 unfold partsF
 refine foldl_zero _ _ (fun s hs h0 => ?_) (by simp)
 split at hs
 · exact h2 (spl_mem_sub _ _ _ hs 0 h0)
 · rcases List.mem_append.1 hs with hs | hs
   · exact h1 (spl_mem_sub _ _ _ hs 0 h0)
   · exact h2 (spl_mem_sub _ _ _ hs 0 h0)
theorem absF_cases (cwd p : T) : (∃ l, GoodP l ∧ absF cwd p = (joinF l, 0) ∧ partsF cwd p = l) ∨ ((absF cwd p).1 = [] ∧ ((absF cwd p).2 = 1 ∨ (absF cwd p).2 = 3)) := by
 unfold absF
 split
 · exact .inr ⟨rfl, .inl rfl⟩
 · rename_i h
   split
   · rename_i h2
     refine .inl ⟨_, ⟨partsF_ok _ _, (longF_iff _).1 h2.1, partsF_zero (fun c => h (.inr (.inl c))) (fun c => h (.inr (.inr c))), h2.2.1, h2.2.2⟩, rfl, rfl⟩
   · exact .inr ⟨rfl, .inr rfl⟩
theorem joinF_zero {l : List T} (h : ∀ s ∈ l, 0 ∉ s) : 0 ∉ joinF l := by
 unfold joinF
 split
 · simp
 · intro h0
   rw [slashed, List.mem_flatMap] at h0
   obtain ⟨s, hs, h0⟩ := h0
   rcases List.mem_cons.1 h0 with e | e
   · cases e
   · exact h s hs e
theorem joinF_ne (l : List T) : joinF l ≠ [] := by
 intro h
 have := joinF_head l
 rw [h] at this
 cases this
theorem absF_good {l : List T} (h : GoodP l) : absF [47] (joinF l) = (joinF l, 0) := by
 unfold absF
 rw [if_neg (by
   rintro (e | e | e)
   · exact joinF_ne l e
   · simp at e
   · exact joinF_zero h.zero e), parts_join h.ok, if_pos ⟨(longF_iff _).2 h.long, h.deep, h.len⟩]
theorem joinF_nil : joinF [] = [47] := rfl
theorem joinF_root {l : List T} (h : ∀ s ∈ l, okN s) : joinF l = [47] ↔ l = [] := by
 constructor
 · intro e
   have := joinF_inj h (b := []) (by simp) e
   exact this
 · rintro rfl; rfl
theorem GoodP.take {l : List T} (h : GoodP l) (k : Nat) : GoodP (l.take k) := by
 refine ⟨fun s hs => h.ok s (List.mem_of_mem_take hs), fun s hs => h.long s (List.mem_of_mem_take hs), fun s hs => h.zero s (List.mem_of_mem_take hs), by rw [List.length_take]; have := h.deep; omega, ?_⟩
 have h1 := h.len
 unfold joinF at h1 ⊢
 split
 · simp
 · rename_i he
   rw [if_neg (fun e => he (by rw [e, List.take_nil]))] at h1
   refine Nat.le_trans ?_ h1
   conv => rhs; rw [← List.take_append_drop k l, slashed_app, List.length_append]
   omega
end Go.Proofs.YtmcophlmcloooaaGreatDoor.Pth
namespace Go.Proofs.YtmcophlmcloooaaGreatDoor.Vf
open Ln Pth
structure Nd where
 dir : Bool
 data : T
 time : Nat
abbrev Mp := KV Nd
def kindM (m : Mp) (q : T) : Nat := if q = [47] then 2 else match getG m (bs q) with
 | none => 0
 | some n => if n.dir = true then 2 else 1
def wayB (m : Mp) (q : T) : Nat → Nat → Nat
 | 0, _ => 0
 | f + 1, i => if q.length ≤ i then 0 else if q.getD i 0 ≠ 47 ∨ i = 0 then wayB m q f (i + 1) else
   if kindM m (q.take i) = 0 then 6 else if kindM m (q.take i) = 1 then 11 else wayB m q f (i + 1)
def wayM (m : Mp) (q : T) : Nat := wayB m q q.length 0
structure St where
 m : Mp
 nodes : Nat
 bytes : Nat
 used : Nat
 clock : Nat
def newS (nodes bytes : Int) : St := ⟨[], (min (max 0 nodes) 10000).toNat, (min (max 0 bytes) 1048576).toNat, 0, 0⟩
def absS (S : St) (p : T) : T × Nat := if (absF [47] p).2 ≠ 0 then ([], (absF [47] p).2) else if wayM S.m (absF [47] p).1 ≠ 0 then ([], wayM S.m (absF [47] p).1) else ((absF [47] p).1, 0)
def foundS (S : St) (p : T) : T × Nat := ((absS S p).1, if (absS S p).2 = 0 ∧ kindM S.m (absS S p).1 = 0 then 6 else (absS S p).2)
def kindS (S : St) (p : T) : Nat := if (absS S p).2 ≠ 0 then 0 else kindM S.m (absS S p).1
def dataM (m : Mp) (q : T) : T := match getG m (bs q) with
 | none => []
 | some n => n.data
def timeM (m : Mp) (q : T) : Nat := match getG m (bs q) with
 | none => 0
 | some n => n.time
def frontF (q : T) : T := (if q.getLast? = some 47 then q.dropLast else q) ++ [47]
def preB (fr : T) (s : T) : Bool := fr.isPrefixOf s
def belowM (m : Mp) (q : T) : List T := (m.map fun x => x.1.data.toList).filter (preB (frontF q))
def namesM (m : Mp) (q : T) : List T := ((belowM m q).map (List.drop (frontF q).length)).filter fun s => decide (47 ∉ s)
def listS (S : St) (p : T) : List T × Nat := if (foundS S p).2 ≠ 0 then ([], (foundS S p).2) else if kindM S.m (foundS S p).1 = 1 then ([], 11) else (namesM S.m (foundS S p).1, 0)
def putS (S : St) (q : T) (dir : Bool) (data : T) : St := { S with clock := S.clock + 1, m := putG (bs q, ⟨dir, data, S.clock + 1⟩) S.m }
def writeQ (S : St) (q b : T) (more : Bool) : St × Nat := if kindM S.m q = 2 then (S, 10) else
 let old := dataM S.m q
 let was := if more = true then old else []
 if S.m.length + (if kindM S.m q = 0 then 1 else 0) ≤ S.nodes ∧ S.used + (was.length + b.length) ≤ S.bytes + old.length then
   ({ putS S q false (was ++ b) with used := S.used + (was.length + b.length) - old.length }, 0) else (S, 13)
def writeS (S : St) (p b : T) (more : Bool) : St × Nat := if (absS S p).2 ≠ 0 then (S, (absS S p).2) else writeQ S (absS S p).1 b more
def mkdirS (S : St) (p : T) : St × Nat := if (absS S p).2 ≠ 0 then (S, (absS S p).2) else if kindM S.m (absS S p).1 ≠ 0 then (S, 12) else
 if S.m.length + 1 ≤ S.nodes ∧ S.used ≤ S.bytes then (putS S (absS S p).1 true [], 0) else (S, 13)
def removeS (S : St) (p : T) : St × Nat := if (foundS S p).2 ≠ 0 then (S, (foundS S p).2) else if (foundS S p).1 = [47] then (S, 1) else
 if belowM S.m (foundS S p).1 ≠ [] then (S, 14) else ({ S with m := delG (bs (foundS S p).1) S.m, used := S.used - (dataM S.m (foundS S p).1).length, clock := S.clock + 1 }, 0)
def touchS (S : St) (p : T) : St × Nat := if (absS S p).2 ≠ 0 then (S, (absS S p).2) else if (absS S p).1 = [47] then (S, 0) else match getG S.m (bs (absS S p).1) with
 | none => writeS S p [] false
 | some n => (putS S (absS S p).1 n.dir n.data, 0)
structure WfS (S : St) : Prop where
 rise : RiseG S.m
 good : ∀ x ∈ S.m, ∃ l, GoodP l ∧ l ≠ [] ∧ x.1 = bs (joinF l)
 sum : S.used = (S.m.map fun x => x.2.data.length).sum
 nodes : S.m.length ≤ S.nodes
 bytes : S.used ≤ S.bytes
 n10 : S.nodes ≤ 10000
 b20 : S.bytes ≤ 1048576
theorem newS_wf (n b : Int) : WfS (newS n b) := ⟨RiseG.nil, by simp [newS], rfl, Nat.zero_le _, Nat.zero_le _, by simp only [newS]; omega, by simp only [newS]; omega⟩
theorem sum_mem {m : Mp} {x : ByteArray × Nd} (h : x ∈ m) : x.2.data.length ≤ (m.map fun x => x.2.data.length).sum := by
 induction m with
 | nil => cases h
 | cons y m ih =>
   rw [List.map_cons, List.sum_cons]
   rcases List.mem_cons.1 h with rfl | h
   · omega
   · have := ih h; omega
def szO : Option Nd → Nat
 | none => 0
 | some n => n.data.length
theorem dataM_sz (m : Mp) (q : T) : (dataM m q).length = szO (getG m (bs q)) := by
 unfold dataM
 cases getG m (bs q) <;> rfl
theorem sum_put (x : ByteArray × Nd) : ∀ {m : Mp}, RiseG m → ((putG x m).map fun x => x.2.data.length).sum + szO (getG m x.1) = (m.map fun x => x.2.data.length).sum + x.2.data.length
 | [], _ => by simp [putG, getG, szO]
 | y :: m, h => by
   have h1 := List.pairwise_cons.1 h
   rw [putG, getG_cons]
   by_cases e : sLt y.1 x.1 = true
   · have e2 : y.1 ≠ x.1 := fun e2 => by rw [e2, sLt_irr] at e; cases e
     have := sum_put x h1.2
     rw [if_pos e, if_neg e2, List.map_cons, List.map_cons, List.sum_cons, List.sum_cons]
     omega
   · rw [if_neg e]
     by_cases e2 : y.1 = x.1
     · simp only [e2, if_true, List.map_cons, List.sum_cons, szO]
       omega
     · have e3 : sLt x.1 y.1 = true := (sLt_tot y.1 x.1 (by simpa using e)).resolve_left e2
       have e4 : getG m x.1 = none := getG_none_of (fun z hz e5 => by
         have := sLt_trans _ _ _ e3 (h1.1 z hz)
         rw [e5, sLt_irr] at this; cases this)
       rw [if_neg e2, if_neg e2, e4]
       simp only [List.map_cons, List.sum_cons, szO]
       omega
theorem sum_del (n : ByteArray) : ∀ {m : Mp}, RiseG m → ((delG n m).map fun x => x.2.data.length).sum + szO (getG m n) = (m.map fun x => x.2.data.length).sum
 | [], _ => by simp [delG, getG, szO]
 | y :: m, h => by
   have h1 := List.pairwise_cons.1 h
   have ih := sum_del n h1.2
   unfold delG at ih ⊢
   rw [List.filter_cons, getG_cons]
   by_cases e : y.1 = n
   · subst e
     have e4 : getG m y.1 = none := getG_none_of (RiseG.ne h)
     rw [e4] at ih
     simp only [decide_true, Bool.not_true, Bool.false_eq_true, if_false, if_true, List.map_cons, List.sum_cons, szO]
     simp only [szO] at ih
     omega
   · simp only [decide_eq_false e, Bool.not_false, if_true, if_neg e, List.map_cons, List.sum_cons]
     omega
theorem dataM_len {S : St} (h : WfS S) (q : T) : (dataM S.m q).length ≤ S.used := by
 unfold dataM
 cases hg : getG S.m (bs q) with
 | none => simp
 | some n => rw [h.sum]; exact sum_mem (getG_mem hg)
end Go.Proofs.YtmcophlmcloooaaGreatDoor.Vf
namespace Go.Proofs.YtmcophlmcloooaaGreatDoor.Vf
open Ln Pth
def wayL (m : Mp) (pre : List T) : List T → Nat
 | [] => 0
 | s :: r => if kindM m (joinF pre) = 0 then 6 else if kindM m (joinF pre) = 1 then 11 else wayL m (pre ++ [s]) r
theorem way_skip (m : Mp) (q : T) : ∀ (n f i : Nat), i + n ≤ q.length → (∀ j, j < n → q.getD (i + j) 0 ≠ 47) → wayB m q (n + f) i = wayB m q f (i + n)
 | 0, f, i, _, _ => by rw [Nat.zero_add]; rfl
 | n + 1, f, i, h, hj => by
   have h1 := hj 0 (by omega)
   rw [Nat.add_zero] at h1
   rw [show n + 1 + f = (n + f) + 1 by omega, wayB, if_neg (by omega), if_pos (.inl h1), way_skip m q n f (i + 1) (by omega) (fun j hj' => by
     have := hj (j + 1) (by omega)
     rwa [show i + 1 + j = i + (j + 1) by omega])]
   congr 1
   omega
theorem getD_app_right (a b : T) (j : Nat) : (a ++ b).getD (a.length + j) 0 = b.getD j 0 := by
 simp [List.getD_eq_getElem?_getD, List.getElem?_append_right]
theorem getD_ne {s : T} (h : 47 ∉ s) {j : Nat} (hj : j < s.length) : s.getD j 0 ≠ 47 := by
 rw [List.getD_eq_getElem?_getD, List.getElem?_eq_getElem hj]
 intro e
 exact h (by rw [← e]; exact List.getElem_mem _)
theorem slashed_cons (s : T) (r : List T) : slashed (s :: r) = 47 :: (s ++ slashed r) := by simp [slashed]
theorem way_names (m : Mp) : ∀ (rest pre : List T) (q : T), q = slashed pre ++ slashed rest → pre ≠ [] → (∀ s ∈ rest, 47 ∉ s) → wayB m q (slashed rest).length (slashed pre).length = wayL m pre rest
 | [], pre, q, _, _, _ => rfl
 | s :: r, pre, q, hq, hp, hs => by
   have hl : (slashed (s :: r)).length = s.length + (slashed r).length + 1 := by rw [slashed_cons]; simp
   have hql : q.length = (slashed pre).length + (slashed (s :: r)).length := by rw [hq, List.length_append]
   have h0 : q.getD (slashed pre).length 0 = 47 := by
     have := getD_app_right (slashed pre) (slashed (s :: r)) 0
     rw [Nat.add_zero] at this
     rw [hq, this, slashed_cons]; rfl
   have hpl : (slashed pre).length ≠ 0 := fun e => slashed_ne hp (List.length_eq_zero_iff.1 e)
   have ht : q.take (slashed pre).length = joinF pre := by rw [hq, List.take_left', joinF, if_neg hp]; rfl
   have hn : slashed (pre ++ [s]) = slashed pre ++ (47 :: s) := by rw [slashed_app]; simp [slashed]
   have ih := way_names m r (pre ++ [s]) q (by rw [hq, hn, slashed_cons]; simp) (by simp) (fun x hx => hs x (by simp [hx]))
   rw [hl, wayB, if_neg (by omega), if_neg (by rw [h0]; simpa using hpl), ht, wayL]
   split
   · rfl
   · split
     · rfl
     · rw [way_skip m q s.length (slashed r).length ((slashed pre).length + 1) (by omega) (fun j hj => by
         have := getD_app_right (slashed pre) (slashed (s :: r)) (j + 1)
         rw [hq, show (slashed pre).length + 1 + j = (slashed pre).length + (j + 1) by omega, this, slashed_cons, List.getD_cons_succ]
         rw [List.getD_eq_getElem?_getD, List.getElem?_append_left hj, ← List.getD_eq_getElem?_getD]
         exact getD_ne (hs s (by simp)) hj), ← ih, hn, List.length_append]
       congr 1
       simp only [List.length_cons]
       omega
theorem way_join (m : Mp) : ∀ {l : List T}, (∀ s ∈ l, 47 ∉ s) → wayM m (joinF l) = match l with
   | [] => 0
   | s :: r => wayL m [s] r
 | [], _ => rfl
 | s :: r, h => by
   have e : joinF (s :: r) = slashed [s] ++ slashed r := by rw [joinF, if_neg (by simp), ← slashed_app]; rfl
   have e1 : slashed [s] = 47 :: s := by simp [slashed]
   have := way_names m r [s] (joinF (s :: r)) e (by simp) (fun x hx => h x (by simp [hx]))
   have hlen : (joinF (s :: r)).length = (s.length + (slashed r).length) + 1 := by rw [e, e1]; simp
   unfold wayM
   rw [hlen, wayB, if_neg (by omega), if_pos (.inr rfl), way_skip m _ s.length (slashed r).length 1 (by omega) (fun j hj => by
     rw [e, e1, List.cons_append, Nat.add_comm, List.getD_cons_succ, List.getD_eq_getElem?_getD, List.getElem?_append_left hj, ← List.getD_eq_getElem?_getD]
     exact getD_ne (h s (by simp)) hj)]
   rw [e1] at this
   simpa [Nat.add_comm] using this
end Go.Proofs.YtmcophlmcloooaaGreatDoor.Vf
namespace Go.Proofs.YtmcophlmcloooaaGreatDoor.Vf
open Ln Pth
theorem tlt_irr (a : T) : ¬ a < a := List.lt_irrefl _
theorem rise_ext : ∀ {a b : List T}, a.Pairwise (· < ·) → b.Pairwise (· < ·) → (∀ x, x ∈ a ↔ x ∈ b) → a = b
 | [], [], _, _, _ => rfl
 | [], y :: b, _, _, h => absurd ((h y).2 (by simp)) (by simp)
 | x :: a, [], _, _, h => absurd ((h x).1 (by simp)) (by simp)
 | x :: a, y :: b, ha, hb, h => by
   have a1 := List.pairwise_cons.1 ha
   have b1 := List.pairwise_cons.1 hb
   have hxy : x = y := by
     rcases List.mem_cons.1 ((h x).1 (by simp)) with e | m1
     · exact e
     · rcases List.mem_cons.1 ((h y).2 (by simp)) with e | m2
       · exact e.symm
       · exact absurd (List.lt_trans (b1.1 _ m1) (a1.1 _ m2)) (tlt_irr _)
   subst hxy
   rw [rise_ext a1.2 b1.2 (fun z => ?_)]
   constructor
   · intro hz
     rcases List.mem_cons.1 ((h z).1 (by simp [hz])) with rfl | m
     · exact absurd (a1.1 _ hz) (tlt_irr _)
     · exact m
   · intro hz
     rcases List.mem_cons.1 ((h z).2 (by simp [hz])) with rfl | m
     · exact absurd (b1.1 _ hz) (tlt_irr _)
     · exact m
theorem app_lt (fr : T) {a b : T} : fr ++ a < fr ++ b ↔ a < b := by
 induction fr with
 | nil => rfl
 | cons c fr ih => rw [List.cons_append, List.cons_append, List.cons_lt_cons_iff]; simp [ih, UInt8.lt_irrefl]
theorem keys_rise {m : Mp} (h : RiseG m) : (m.map fun x => x.1.data.toList).Pairwise (· < ·) := by
 rw [List.pairwise_map]
 exact List.Pairwise.imp (fun {a b} hab => (sLt_iff _ _).1 hab) h
theorem preB_iff {fr s : T} : preB fr s = true ↔ ∃ r, s = fr ++ r := by
 unfold preB
 rw [List.isPrefixOf_iff_prefix]
 constructor
 · rintro ⟨r, hr⟩; exact ⟨r, hr.symm⟩
 · rintro ⟨r, rfl⟩; exact ⟨r, rfl⟩
theorem below_rise {m : Mp} (h : RiseG m) (q : T) : (belowM m q).Pairwise (· < ·) := List.Pairwise.filter _ (keys_rise h)
theorem mem_below {m : Mp} {q x : T} : x ∈ belowM m q ↔ ∃ r n, x = frontF q ++ r ∧ (bs x, n) ∈ m := by
 unfold belowM
 rw [List.mem_filter, preB_iff, List.mem_map]
 constructor
 · rintro ⟨⟨y, hy, rfl⟩, r, hr⟩
   exact ⟨r, y.2, hr, by rw [bs_of]; exact hy⟩
 · rintro ⟨r, n, hr, hm⟩
   exact ⟨⟨_, hm, bs_list x⟩, r, hr⟩
theorem mem_names {m : Mp} {q x : T} : x ∈ namesM m q ↔ 47 ∉ x ∧ ∃ n, (bs (frontF q ++ x), n) ∈ m := by
 unfold namesM
 rw [List.mem_filter, List.mem_map]
 simp only [decide_eq_true_eq]
 constructor
 · rintro ⟨⟨y, hy, rfl⟩, h47⟩
   obtain ⟨r, n, rfl, hm⟩ := mem_below.1 hy
   rw [List.drop_left] at h47 ⊢
   exact ⟨h47, n, hm⟩
 · rintro ⟨h47, n, hm⟩
   exact ⟨⟨frontF q ++ x, mem_below.2 ⟨x, n, rfl, hm⟩, List.drop_left⟩, h47⟩
theorem names_rise {m : Mp} (h : RiseG m) (q : T) : (namesM m q).Pairwise (· < ·) := by
 unfold namesM
 refine List.Pairwise.filter _ ?_
 rw [List.pairwise_map]
 refine List.Pairwise.imp_of_mem ?_ (below_rise h q)
 intro a b ha hb hab
 obtain ⟨r, _, rfl, _⟩ := mem_below.1 ha
 obtain ⟨s, _, rfl, _⟩ := mem_below.1 hb
 rw [List.drop_left, List.drop_left]
 exact (app_lt _).1 hab
def putT (s : T) : List T → List T
 | [] => [s]
 | y :: l => if y < s then y :: putT s l else if y = s then y :: l else s :: y :: l
theorem mem_putT {s x : T} : ∀ {l : List T}, x ∈ putT s l ↔ x = s ∨ x ∈ l
 | [] => by simp [putT]
 | y :: l => by
   rw [putT]
   split
   · rw [List.mem_cons, mem_putT, List.mem_cons]
     constructor
     · rintro (h | h | h) <;> simp [h]
     · rintro (h | h | h) <;> simp [h]
   · split
     · rename_i e
       subst e
       simp
     · simp
theorem putT_rise (s : T) : ∀ {l : List T}, l.Pairwise (· < ·) → (putT s l).Pairwise (· < ·)
 | [], _ => by simp [putT]
 | y :: l, h => by
   have h1 := List.pairwise_cons.1 h
   rw [putT]
   split
   · rename_i e
     refine List.pairwise_cons.2 ⟨fun z hz => ?_, putT_rise s h1.2⟩
     rcases mem_putT.1 hz with rfl | hz
     · exact e
     · exact h1.1 z hz
   · rename_i e
     split
     · exact h
     · rename_i e2
       have e3 : s < y := by
         rcases List.le_total s y with h | h
         · rcases List.le_iff_lt_or_eq.1 h with h | h
           · exact h
           · exact absurd h.symm e2
         · rcases List.le_iff_lt_or_eq.1 h with h | h
           · exact absurd h e
           · exact absurd h e2
       refine List.pairwise_cons.2 ⟨fun z hz => ?_, h⟩
       rcases List.mem_cons.1 hz with rfl | hz
       · exact e3
       · exact List.lt_trans e3 (h1.1 z hz)
end Go.Proofs.YtmcophlmcloooaaGreatDoor.Vf
namespace Go.Proofs.YtmcophlmcloooaaGreatDoor.Vf
open Ln Pth
theorem absS_good {S : St} {p : T} (h : (absS S p).2 = 0) : ∃ l, GoodP l ∧ (absS S p).1 = joinF l ∧ (absF [47] p) = (joinF l, 0) ∧ wayM S.m (joinF l) = 0 := by
 unfold absS at h ⊢
 by_cases h1 : (absF [47] p).2 ≠ 0
 · rw [if_pos h1] at h; exact absurd h h1
 · rw [if_neg h1] at h ⊢
   by_cases h2 : wayM S.m (absF [47] p).1 ≠ 0
   · rw [if_pos h2] at h; exact absurd h h2
   · rw [if_neg h2]
     rcases absF_cases [47] p with ⟨l, g, e, _⟩ | ⟨_, e⟩
     · refine ⟨l, g, by rw [e], e, ?_⟩
       rw [e] at h2
       simpa using h2
     · omega
theorem kind_le (m : Mp) (q : T) : kindM m q ≤ 2 := by
 unfold kindM
 split
 · omega
 · split
   · omega
   · split <;> omega
theorem root_kind {m : Mp} {q : T} (h : kindM m q ≠ 2) : q ≠ [47] := fun e => h (by rw [e]; rfl)
theorem getG_kind {m : Mp} {q : T} (h : kindM m q = 0) : getG m (bs q) = none := by
 unfold kindM at h
 split at h
 · cases h
 · cases hg : getG m (bs q) with
   | none => rfl
   | some n => rw [hg] at h; simp only at h; split at h <;> cases h
theorem getG_some_kind {m : Mp} {q : T} (hr : q ≠ [47]) (h : kindM m q ≠ 0) : ∃ n, getG m (bs q) = some n := by
 unfold kindM at h
 rw [if_neg hr] at h
 cases hg : getG m (bs q) with
 | none => rw [hg] at h; exact absurd rfl h
 | some n => exact ⟨n, rfl⟩
theorem put_wf {S : St} (h : WfS S) {l : List T} (hl : GoodP l) (hne : l ≠ []) (dir : Bool) (data : T) (used : Nat)
   (hu : used + (dataM S.m (joinF l)).length = S.used + data.length) (hb : used ≤ S.bytes) (hn : (putG (bs (joinF l), (⟨dir, data, S.clock + 1⟩ : Nd)) S.m).length ≤ S.nodes) :
   WfS { putS S (joinF l) dir data with used := used } := by
 refine ⟨RiseG.put _ h.rise, fun x hx => ?_, ?_, hn, hb, h.n10, h.b20⟩
 · rcases mem_putG hx with rfl | hx
   · exact ⟨l, hl, hne, rfl⟩
   · exact h.good x hx
 · have h1 := sum_put (bs (joinF l), (⟨dir, data, S.clock + 1⟩ : Nd)) h.rise
   have h2 := h.sum
   show used = ((putG (bs (joinF l), (⟨dir, data, S.clock + 1⟩ : Nd)) S.m).map fun x => x.2.data.length).sum
   rw [dataM_sz] at hu
   simp only at h1
   omega
theorem put_len {S : St} (h : WfS S) (k : ByteArray) (v : Nd) : (putG (k, v) S.m).length = S.m.length + (if (getG S.m k).isSome then 0 else 1) := by
 rw [putG_len _ h.rise]; split <;> rfl
theorem good_ne {l : List T} {q : T} (hq : q = joinF l) (h : q ≠ [47]) : l ≠ [] := fun e => h (by rw [hq, e]; rfl)
theorem write_wf {S : St} (h : WfS S) {l : List T} (hl : GoodP l) (b : T) (more : Bool) : WfS (writeQ S (joinF l) b more).1 := by
 unfold writeQ
 by_cases hk : kindM S.m (joinF l) = 2
 · rw [if_pos hk]; exact h
 · rw [if_neg hk]
   have hne : l ≠ [] := good_ne rfl (root_kind hk)
   have hd := dataM_len h (joinF l)
   simp only
   generalize hw : (if more = true then dataM S.m (joinF l) else []) = was
   by_cases hc : S.m.length + (if kindM S.m (joinF l) = 0 then 1 else 0) ≤ S.nodes ∧ S.used + (was.length + b.length) ≤ S.bytes + (dataM S.m (joinF l)).length
   · rw [if_pos hc]
     refine put_wf h hl hne false _ _ ?_ ?_ ?_
     · simp only [List.length_append]; omega
     · omega
     · rw [put_len h]
       by_cases h0 : kindM S.m (joinF l) = 0
       · rw [if_pos h0] at hc; split <;> omega
       · obtain ⟨n, hn⟩ := getG_some_kind (root_kind hk) h0
         have := h.nodes
         simpa [hn] using this
   · rw [if_neg hc]; exact h
theorem writeS_wf {S : St} (h : WfS S) (p b : T) (more : Bool) : WfS (writeS S p b more).1 := by
 unfold writeS
 split
 · exact h
 · rename_i h1
   obtain ⟨l, hl, e, _⟩ := absS_good (S := S) (p := p) (by simpa using h1)
   rw [e]
   exact write_wf h hl b more
theorem mkdirS_wf {S : St} (h : WfS S) (p : T) : WfS (mkdirS S p).1 := by
 unfold mkdirS
 split
 · exact h
 · rename_i h1
   obtain ⟨l, hl, e, _⟩ := absS_good (S := S) (p := p) (by simpa using h1)
   rw [e]
   split
   · exact h
   · rename_i hk
     have hk : kindM S.m (joinF l) = 0 := by simpa using hk
     have hne : l ≠ [] := good_ne rfl (root_kind (m := S.m) (by omega))
     have hg := getG_kind hk
     split
     · rename_i hc
       refine put_wf h hl hne true [] S.used ?_ hc.2 ?_
       · unfold dataM; rw [hg]
       · rw [put_len h, hg]; simpa using hc.1
     · exact h
theorem del_wf {S : St} (h : WfS S) (k : ByteArray) (clock : Nat) : WfS { S with m := delG k S.m, used := S.used - szO (getG S.m k), clock := clock } := by
 have h1 := sum_del k h.rise
 have h2 := h.sum
 have h3 := delG_len k h.rise
 have h4 := h.nodes
 have h5 := h.bytes
 refine ⟨RiseG.del h.rise k, fun x hx => h.good x ((List.mem_filter.1 hx).1), ?_, ?_, ?_, h.n10, h.b20⟩
 · show S.used - _ = ((delG k S.m).map fun x => x.2.data.length).sum
   omega
 · show (delG k S.m).length ≤ S.nodes
   omega
 · show S.used - _ ≤ S.bytes
   omega
theorem removeS_wf {S : St} (h : WfS S) (p : T) : WfS (removeS S p).1 := by
 unfold removeS
 split
 · exact h
 · split
   · exact h
   · split
     · exact h
     · rw [dataM_sz]
       exact del_wf h (bs (foundS S p).1) (S.clock + 1)
theorem touchS_wf {S : St} (h : WfS S) (p : T) : WfS (touchS S p).1 := by
 unfold touchS
 split
 · exact h
 · rename_i h1
   obtain ⟨l, hl, e, _⟩ := absS_good (S := S) (p := p) (by simpa using h1)
   split
   · exact h
   · rename_i h2
     cases hg : getG S.m (bs (absS S p).1) with
     | none => exact writeS_wf h p [] false
     | some n =>
       rw [e] at h2 hg ⊢
       have hne : l ≠ [] := good_ne rfl h2
       exact put_wf h hl hne n.dir n.data S.used (by unfold dataM; rw [hg]) h.bytes (by rw [put_len h, hg]; simpa using h.nodes)
end Go.Proofs.YtmcophlmcloooaaGreatDoor.Vf
namespace Go.Proofs.YtmcophlmcloooaaGreatDoor.Vf
open Ln Pth
theorem filt_step {keys : List ByteArray} (hnd : keys.Nodup) {x : ByteArray} (hx : x ∈ keys) {p q q' : ByteArray → Bool} (hq' : ∀ k, q' k = (q k || decide (k = x))) (hqx : q x = false) :
   (keys.filter fun k => p k && q' k).Perm ((keys.filter fun k => p k && q k) ++ if p x = true then [x] else []) := by
 induction keys with
 | nil => cases hx
 | cons y keys ih =>
   have hn := List.nodup_cons.1 hnd
   by_cases e : y = x
   · subst e
     have hrest : (keys.filter fun k => p k && q' k) = (keys.filter fun k => p k && q k) := by
       apply List.filter_congr
       intro k hk
       have : k ≠ y := fun e => hn.1 (e ▸ hk)
       rw [hq']
       simp [this]
     rw [List.filter_cons, List.filter_cons, hrest, hq', hqx]
     by_cases hp : p y = true
     · simp only [hp, Bool.true_and, Bool.false_or, decide_true, if_true, Bool.false_eq_true, if_false]
       exact List.perm_append_comm (l₁ := [y])
     · simp only [hp, Bool.false_and, Bool.false_eq_true, if_false, List.append_nil]
       exact List.Perm.refl _
   · have hx2 : x ∈ keys := by
       rcases List.mem_cons.1 hx with h | h
       · exact absurd h.symm e
       · exact h
     have ih := ih hn.2 hx2
     rw [List.filter_cons, List.filter_cons]
     have hqy : q' y = q y := by rw [hq']; simp [e]
     rw [hqy]
     split
     · exact ih.cons y
     · exact ih
theorem rise_nodup {α : Type} {P : KV α} (h : RiseG P) : (P.map (·.1)).Nodup := by
 rw [List.nodup_iff_pairwise_ne, List.pairwise_map]
 exact List.Pairwise.imp (fun {a b} hab e => by rw [e, sLt_irr] at hab; cases hab) h
theorem sort_below {m : Mp} (h : RiseG m) (q : T) {ss : List (List UInt8)} (hp : ss.Perm (belowM m q)) : ss.mergeSort (fun x y => decide (x ≤ y)) = belowM m q := by
 have htr : ∀ a b c : List UInt8, decide (a ≤ b) = true → decide (b ≤ c) = true → decide (a ≤ c) = true := by
   intro a b c h1 h2
   rw [decide_eq_true_iff] at *
   exact List.le_trans h1 h2
 have htot : ∀ a b : List UInt8, (decide (a ≤ b) || decide (b ≤ a)) = true := by
   intro a b
   rw [Bool.or_eq_true, decide_eq_true_iff, decide_eq_true_iff]
   exact List.le_total a b
 have hs := List.pairwise_mergeSort htr htot ss
 refine List.Perm.eq_of_pairwise (fun a b _ _ h1 h2 => ?_) hs (List.Pairwise.imp (fun {a b} hab => ?_) (below_rise h q)) ((List.mergeSort_perm ss _).trans hp)
 · rw [decide_eq_true_iff] at h1 h2
   exact List.le_antisymm h1 h2
 · rw [decide_eq_true_iff]
   exact List.le_of_lt hab
theorem below_map (m : Mp) (q : T) : belowM m q = ((m.map (·.1)).filter fun k => preB (frontF q) k.data.toList).map (fun k => k.data.toList) := by
 unfold belowM
 rw [show (m.map fun x => x.1.data.toList) = (m.map (·.1)).map (fun k => k.data.toList) by rw [List.map_map]; rfl, List.filter_map]
 rfl
end Go.Proofs.YtmcophlmcloooaaGreatDoor.Vf
namespace Go.Proofs.YtmcophlmcloooaaGreatDoor.Vf
open Ln Pth
structure GoodN (s : T) : Prop where
 ok : okN s
 len : s.length ≤ 60
 zero : 0 ∉ s
structure LI (S : St) (want : List T) (i : Nat) : Prop where
 wf : WfS S
 nodes : S.nodes = 50
 bytes : S.bytes = 50
 clock : S.clock ≤ 2 + i
 len : S.m.length ≤ 2 + i
 dir : kindM S.m [47, 100] = 2
 names : namesM S.m [47, 100] = want
theorem kind_put {m : Mp} {k : ByteArray} {v : Nd} {q : T} (hk : k ≠ bs q) : kindM (putG (k, v) m) q = kindM m q := by
 unfold kindM
 rw [getG_put, if_neg hk]
end Go.Proofs.YtmcophlmcloooaaGreatDoor.Vf
namespace Qm.Base
end Qm.Base
namespace Go.Proofs.YtmcophlmcloooaaGreatDoor
open Go.RowKit Go.Deep Qm.Base
def ds (l : List Nat) : ByteArray := strOfNums (l.map fun n : Nat => (n : Int))
end Go.Proofs.YtmcophlmcloooaaGreatDoor
namespace Go.Proofs.YtmcophlmcloooaaGreatDoor
section
open Go.RowKit Go.Deep
end
section
open Go.RowKit Go.Deep
def encB (c : UInt8) : List Value := [.int .u8 c.toNat]
theorem encB_len (c : UInt8) : (encB c).length = 1 := rfl
theorem encB_one (c : UInt8) : ∀ u ∈ encB c, u.oneCell' = true := by
 intro u hu
 simp [encB] at hu
 subst hu; rfl
def rowB : RowT Tryz.prog 29 5 1 := { z := .int .u8 0, bytes := 1, und := Tryz.underlying29, info := by kernel_rfl, zlen := rfl, pos := by omega, sb := by omega }
abbrev OwnY (w : World) (base : Nat) (v : Value) (l : List UInt8) : Prop := OwnG encB 1 5 w base v l
theorem run_appY {w : World} {base : Nat} {v : Value} {L N : List UInt8} {A : Option Addr} {c : Nat} (h : OwnY w base v L) (hn : RG encB 1 w A N) (hbase : base ≤ w.heap.size) (hl : L.length + N.length ≤ 1000000) :
   ∃ v' w', (Builtin.append_ #[29, 29] 29 #[v, .slice A N.length c]).run Tryz.prog w = .ok v' w' ∧ OwnY w' base v' (L ++ N) ∧ w.grownBy w' v.ownBlock ∧ (v'.ownBlock = v.ownBlock ∨ v'.ownBlock = some w.heap.size) := run_appG rowB encB_len encB_one h hn hbase (by omega)
theorem bt_bs (l : List UInt8) (k : Nat) : bt (bs l) k = (l.getD k 0).toNat := by
 simp [bt, bs]
end
section
open Go.RowKit Go.Deep Go.Maps Ln Pth Vf
structure En where
 A : Option Addr
 c : Nat
 nd : Nd
def hR (v : Value) : Option (DataW Value × List MemPlace) := some (.held v, [])
def encN (e : En) : Value := .agg #[.bool e.nd.dir, .slice e.A e.nd.data.length e.c, .int .i64 e.nd.time]
def fN (e : En) : DataW Value := .held (encN e)
def zN : Value := .agg #[.bool false, .slice none 0 0, .int .i64 0]
def valN : Option En → Value
 | none => zN
 | some e => encN e
def MapN (w : World) (b : Nat) (P : KV En) : Prop := w.ownsMap Tryz.prog 9 hR b P.length (datG fN P)
theorem nkeyed : Keyed Tryz.prog 9 := string_keyed Tryz.underlying9
theorem nzero (w : World) : (zeroValue 77).run Tryz.prog w = .ok zN w := by kernel_rfl
theorem nkey {s : ByteArray} (h : s.size ≤ 9223372036854775807) : keyOf Tryz.prog 9 (.string s) = some (kLit s) := Go.WideMaps.keyOf_string_mk Tryz.underlying9 (by unfold maxLen; omega)
theorem own_tightN {w : World} {b n : Nat} {P : KV En} (h : w.ownsMap Tryz.prog 9 hR b n (datG fN P)) : MapN w b P := by
 obtain ⟨es, clock, h1, h2, h3, h4⟩ := h
 refine ⟨es, clock, h1, h2, ?_, h4⟩
 have := congrArg Maps.size h4
 rw [datG_size] at this
 rw [this]
 simp [Maps.size, length_sorted]
theorem MapN.of {w w' : World} {b : Nat} {P : KV En} (h : MapN w b P) (hb : w'.heap[b]? = w.heap[b]?) : MapN w' b P := by
 obtain ⟨es, clock, h1, h2⟩ := h
 exact ⟨es, clock, hb.trans h1, h2⟩
theorem MapN.lt {w : World} {b : Nat} {P : KV En} (h : MapN w b P) : b < w.heap.size := by
 obtain ⟨es, clock, h1, h2⟩ := h
 exact (Array.getElem?_eq_some_iff.1 h1).1
theorem nat_val {P : KV En} {s : ByteArray} {v : Value} {ps : List MemPlace} (h : hR v = some ((datG fN P).atKey (kLit s) (.held zN), ps)) : v = valN (getG P s) := by
 unfold hR at h
 rw [datG_at] at h
 cases hg : getG P s with
 | none => rw [hg] at h; injection h with h; injection h with h1 h2; injection h1
 | some e => rw [hg] at h; injection h with h; injection h with h1 h2; unfold fN at h1; injection h1
theorem nlook {w : World} {b : Nat} {P : KV En} (h : MapN w b P) {s : ByteArray} (hs : s.size ≤ 9223372036854775807) :
   (Instr.lookup 66 (.map (some b)) (.string s) true).run Tryz.prog w = .ok (.tuple #[valN (getG P s), .bool (getG P s).isSome]) w := by
 obtain ⟨v, ps, hrun, hv⟩ := h.look_ok nkeyed Tryz.underlying66 (nzero w) (zd := .held zN) (zp := []) rfl (nkey hs)
 rw [hrun, nat_val hv, datG_has]
theorem nlook1 {w : World} {b : Nat} {P : KV En} (h : MapN w b P) {s : ByteArray} (hs : s.size ≤ 9223372036854775807) :
   (Instr.lookup 66 (.map (some b)) (.string s) false).run Tryz.prog w = .ok (valN (getG P s)) w := by
 obtain ⟨v, ps, hrun, hv⟩ := h.lookup nkeyed Tryz.underlying66 (nzero w) (zd := .held zN) (zp := []) rfl (nkey hs)
 rw [hrun, nat_val hv]
theorem nlen {w : World} {b : Nat} {P : KV En} (h : MapN w b P) (ty : TypeId) : (Builtin.len_ #[66] ty #[.map (some b)]).run Tryz.prog w = .ok (.int .i64 P.length) w := by
 rw [h.len Tryz.underlying66 ty, datG_size]
theorem turnedN {w w' : World} {b : Nat} (h : w.mapTurned w' b) : Kp w w' (fun k => k = b) :=
 ⟨h.grown.os, h.grown.tape, h.grown.output, h.grown.size, fun k hk hne => h.grown.block k hk (by intro e; injection e with e; exact hne e)⟩
theorem ndrop {w : World} {b : Nat} {P : KV En} (h : MapN w b P) {s : ByteArray} (hs : s.size ≤ 9223372036854775807) (ty : TypeId) :
   ∃ w', (Builtin.delete_ #[66, 9] ty #[.map (some b), .string s]).run Tryz.prog w = .ok (.tuple #[]) w' ∧ MapN w' b (delG s P) ∧ Kp w w' (fun k => k = b) ∧ w'.heap.size = w.heap.size := by
 obtain ⟨w', h1, h2, h3⟩ := h.drop nkeyed Tryz.underlying66 (nkey hs) ty
 rw [datG_del] at h2
 refine ⟨w', h1, own_tightN h2, turnedN h3, ?_⟩
 obtain ⟨es, clock, es', clock', hb, rfl⟩ := h3
 simp [ChangeMaps.setBlock]
theorem nstore {w : World} {b : Nat} {P : KV En} (h : MapN w b P) (hr : RiseG P) (hl : P.length ≤ 1000000) {s : ByteArray} (hs : s.size ≤ 9223372036854775807) (e : En) :
   ∃ w', (Instr.mapUpdate 66 (.map (some b)) (.string s) (encN e)).run Tryz.prog w = .ok () w' ∧ MapN w' b (putG (s, e) P) ∧ Kp w w' (fun k => k = b) ∧ w'.heap.size = w.heap.size := by
 obtain ⟨w', h1, h2, h3⟩ := h.store nkeyed Tryz.underlying66 (by unfold maxLen; omega) (nkey hs) (val := encN e) (d := fN e) (ps := []) rfl
 rw [datG_put fN hr] at h2
 refine ⟨w', h1, own_tightN h2, turnedN h3, ?_⟩
 obtain ⟨es, clock, es', clock', hb, rfl⟩ := h3
 simp [ChangeMaps.setBlock]
def stripN (P : KV En) : Mp := P.map fun x => (x.1, x.2.nd)
theorem strip_get (P : KV En) (n : ByteArray) : getG (stripN P) n = (getG P n).map (·.nd) := by
 unfold stripN
 induction P with
 | nil => rfl
 | cons y P ih => rw [List.map_cons, getG_cons, getG_cons, ih]; split <;> rfl
theorem strip_put (x : ByteArray × En) : ∀ P : KV En, stripN (putG x P) = putG (x.1, x.2.nd) (stripN P)
 | [] => rfl
 | y :: P => by
   have ih := strip_put x P
   unfold stripN at ih ⊢
   rw [putG, List.map_cons, putG]
   split
   · rw [List.map_cons, ih]
   · split
     · rfl
     · rfl
theorem strip_del (n : ByteArray) (P : KV En) : stripN (delG n P) = delG n (stripN P) := by
 unfold stripN delG
 rw [List.filter_map]; rfl
theorem strip_rise {P : KV En} : RiseG (stripN P) ↔ RiseG P := by
 unfold stripN RiseG
 rw [List.pairwise_map]
theorem strip_len (P : KV En) : (stripN P).length = P.length := by unfold stripN; simp
def VS (g : Nat) (S : St) : AsnN := fun T N w => ∃ (b : Nat) (P : KV En), T g ∧ T b ∧ g ≠ b ∧
 w.heap[g]? = some (.cells #[.map (some b), .int .i64 S.nodes, .int .i64 S.bytes, .int .i64 S.used, .int .i64 S.clock] 68) ∧
 MapN w b P ∧ S.m = stripN P ∧ ∀ x ∈ P, RG encB 1 w x.2.A x.2.nd.data ∧ ∀ a, x.2.A = some a → N a.block
theorem VS.fr (g : Nat) (S : St) : FrN (VS g S) := by
 rintro T N N' w w' ⟨b, P, h1, h2, h3, h4, h5, h6, h7⟩ hb hn hs
 exact ⟨b, P, h1, h2, h3, (hb g (.inl h1)).trans h4, h5.of (hb b (.inl h2)), h6, fun x hx => ⟨(h7 x hx).1.of hs (fun a e _ => hb a.block (.inr ((h7 x hx).2 a e))), fun a e => hn _ ((h7 x hx).2 a e)⟩⟩
def Hs (A : AsnN) (w : World) : Prop := ∃ T N, A T N w ∧ OkTN T N w
theorem Hs.below {A : AsnN} (hA : FrN A) {w w' : World} (h : Hs A w) (hb : Below w.heap.size w w') : Hs A w' := by
 obtain ⟨T, N, a, ok⟩ := h
 exact ⟨T, N, hA T N N w w' a (fun k hk => hb.block k (hk.elim (fun h => (ok.1 k h).1) (ok.2 k))) (fun _ h => h) hb.size, (GrowN.refl ok hb.size).2.2.2⟩
theorem InvN.hs {A : AsnN} {B : Nat} {w0 w : World} (h : InvN A B w0 w) : Hs A w := by
 obtain ⟨T, N, a, ok, _, _⟩ := h
 exact ⟨T, N, a, ok⟩
theorem VS.opn {g : Nat} {S : St} {w : World} (h : Hs (VS g S) w) : ∃ (b : Nat) (P : KV En), g ≠ b ∧
   w.heap[g]? = some (.cells #[.map (some b), .int .i64 S.nodes, .int .i64 S.bytes, .int .i64 S.used, .int .i64 S.clock] 68) ∧ MapN w b P ∧ S.m = stripN P ∧ ∀ x ∈ P, RG encB 1 w x.2.A x.2.nd.data := by
 obtain ⟨T, N, ⟨b, P, h1, h2, h3, h4, h5, h6, h7⟩, ok⟩ := h
 exact ⟨b, P, h3, h4, h5, h6, fun x hx => (h7 x hx).1⟩
theorem cellOf {w : World} {g : Nat} {cs : Array Value} {t : TypeId} (h : w.heap[g]? = some (.cells cs t)) {j : Nat} {v : Value} (hj : cs[j]? = some v) : w.cell? ⟨g, j, none⟩ = some v := by
 simpa [World.cell?, h] using hj
theorem freeOf {w : World} {g : Nat} {cs : Array Value} {t : TypeId} (h : w.heap[g]? = some (.cells cs t)) (j : Nat) : w.frozen? ⟨g, j, none⟩ = false := by
 simp [World.frozen?, h]
end
section
open Go.RowKit Go.Deep Go.Sort Go.Shelf
theorem vals_set (R : List Spt) (i : Nat) (x : Spt) (hi : i < R.length) : ((valsG encSp R).set (i * 2) (.string x.2)).set (i * 2 + 1) (.string x.1) = valsG encSp (R.set i x) := by
 apply List.ext_getElem?
 intro t
 have hl := valsG_len encSp_len R
 by_cases ht : t < R.length * 2
 · have hk : t / 2 < R.length := by omega
   have e := fun (M : List Spt) (hM : M.length = R.length) (j : Nat) (hj : j < 2) => valsG_get encSp_len M (t / 2) M[t / 2] j (List.getElem?_eq_getElem (by omega)) hj
   have e2 := e (R.set i x) (by simp) (t % 2) (by omega)
   rw [show t / 2 * 2 + t % 2 = t by omega] at e2
   have e1 := e R rfl (t % 2) (by omega)
   rw [show t / 2 * 2 + t % 2 = t by omega] at e1
   rw [e2, List.getElem?_set, List.getElem?_set, e1]
   by_cases hti : t / 2 = i
   · subst hti
     rcases Nat.mod_two_eq_zero_or_one t with hm | hm
     · rw [if_neg (by omega), if_pos (by omega), if_pos (by rw [hl]; omega), hm]
       simp [encSp]
     · rw [if_pos (by omega), if_pos (by simp [hl]; omega), hm]
       simp [encSp]
   · rw [if_neg (by omega), if_neg (by omega)]
     rw [List.getElem_set_ne (by omega)]
 · rw [List.getElem?_eq_none (by simp [hl]; omega), List.getElem?_eq_none (by rw [valsG_len encSp_len]; simp; omega)]
def IdxSp (p : Spt → Bool) (L : List Spt) (i : Int) : Prop := (i = -1 ∧ ∀ x ∈ L, p x = false) ∨ ∃ k x, i = (k : Nat) ∧ L[k]? = some x ∧ p x = true ∧ ∀ j y, j < k → L[j]? = some y → p y = false
theorem idxSp_any (p : Spt → Bool) (g : Nat) (lb : Array Value) (eg : ∀ args w, (callFunc g args).run Tryz.prog w = .ok (.enter g args) w) (A : Option Addr) (c : Nat) (L : List Spt) (w : World) (hl : L.length ≤ 100000000) (hA : RG encSp 2 w A L)
   (hf : ∀ (W : World) (x : Spt), x ∈ L → Below w.heap.size w W → Calls Tryz.prog g (#[(.agg #[.string x.2, .string x.1])] ++ lb) W fun e w' => e = .returned (.bool (p x)) ∧ Below W.heap.size W w') :
   Calls Tryz.prog 109 #[.slice A L.length c, .func (.func g) #[] lb] w fun e w' => (∃ i, e = .returned (.int .i64 i) ∧ IdxSp p L i) ∧ Below w.heap.size w w' := by
 have HA := hide hA
 have HF := hide hf
 clear hA hf
 obtain ⟨n, hn⟩ : ∃ n, L.length = n := ⟨_, rfl⟩
 have HN := hide hn
 rw [hn] at hl ⊢
 clear hn
 have hn1 : (n : Int) ≤ 100000000 := by omega
 go_enter Tryz.func109, Tryz.ntmps109
 go_wp2
 go_loopw [5, 8] (fun _v5 v8 wr => ∃ k : Nat, v8 = .int .i64 k ∧ k ≤ n ∧ Hid (∀ j y, j < k → L[j]? = some y → p y = false) ∧ Below w.heap.size w wr) (fun _ v8 _ => n - (intOf v8).toNat)
 case atStart => exact ⟨0, rfl, by omega, hide fun j y hj => by omega, Below.refl _ _⟩
 case round =>
   obtain ⟨k, rfl, hk, HP, hb⟩ := hrel
   have HB := hide hb
   by_cases hlt : k < n
   · obtain ⟨x, hx⟩ : ∃ x, L[k]? = some x := ⟨L[k]'(by have := HN.out; omega), gE _⟩
     obtain ⟨gs, o, rfl, hg, hcc⟩ := HA.out k x hx
     have hc0 := (hb.cell (p := ⟨gs, o + k * 2, none⟩) hg).trans (hcc 0 _ rfl)
     have hc1 := (hb.cell (p := ⟨gs, o + k * 2 + 1, none⟩) hg).trans (hcc 1 _ rfl)
     have hcall := HF.out wr x (List.mem_of_getElem? hx) HB.out
     have b1 : (k : Int) < (n : Int) := by omega
     have HX := hide hx
     clear hx hb hcc
     obtain ⟨pb, hpb⟩ : ∃ b, p x = b := ⟨_, rfl⟩
     rw [hpb] at hcall
     have HPB := hide hpb
     clear hpb
     have HC := hide hcall
     clear hcall
     go_wp2_with fail
     refine HC.out.mono ?_
     rintro e w' ⟨rfl, hb'⟩
     have HB' := hide (HB.out.trans (hb'.mono HB.out.size))
     clear hb'
     cases pb with
     | true =>
       go_wp2
       go_ret
       exact ⟨⟨_, rfl, .inr ⟨k, x, rfl, HX.out, HPB.out, HP.out⟩⟩, HB'.out⟩
     | false =>
       go_wp2
       go_roundw
       case rel =>
         refine ⟨k + 1, by go_num, by omega, hide fun j y hj hy => ?_, HB'.out⟩
         by_cases e : j = k
         · subst e
           rw [HX.out] at hy
           rw [← Option.some.inj hy]
           exact HPB.out
         · exact HP.out j y (by omega) hy
       case measure => simp [intOf]; omega
   · obtain rfl : k = n := by omega
     clear hb
     go_wp2
     go_ret
     refine ⟨⟨_, rfl, .inl ⟨rfl, fun x hx => ?_⟩⟩, HB.out⟩
     obtain ⟨j, hj⟩ := List.mem_iff_getElem?.1 hx
     exact HP.out j x (by have := (List.getElem?_eq_some_iff.1 hj).1; have := HN.out; omega) hj
theorem delSp_any (p : Spt → Bool) (g : Nat) (lb : Array Value) (eg : ∀ args w, (callFunc g args).run Tryz.prog w = .ok (.enter g args) w) {w : World} {base : Nat} {v : Value} {L : List Spt} (h : OwnG encSp 2 spty w base v L) (hl : L.length ≤ 1000000)
   (hf : ∀ (W : World) (x : Spt), x ∈ L → Kp w W (fun k => v.ownBlock = some k) → Calls Tryz.prog g (#[(.agg #[.string x.2, .string x.1])] ++ lb) W fun e w' => e = .returned (.bool (p x)) ∧ Below W.heap.size W w') :
   Calls Tryz.prog 54 #[v, .func (.func g) #[] lb] w fun e w' => ∃ v', e = .returned v' ∧ OwnG encSp 2 spty w' base v' (L.filter fun x => !p x) ∧ Kp w w' (fun k => v.ownBlock = some k) ∧ ∀ k, v'.ownBlock = some k → v.ownBlock = some k := by
 obtain ⟨A, c, rfl, hlc, hrg, hob, hoz⟩ := h.slice encSp_len
 obtain ⟨n, hn⟩ : ∃ n, L.length = n := ⟨_, rfl⟩
 have HN := hide hn
 have HIX := hide (idxSp_any p g lb eg A c L w (by omega) hrg (fun W x hx hb => hf W x hx (Kp.of_below hb _)))
 have HF := hide hf
 have HO := hide h
 rw [hn] at hlc HIX HF HO ⊢
 have hnl : n ≤ 1000000 := by omega
 clear h hl hf hrg hob hoz hn
 go_enter Tryz.func54, Tryz.ntmps54
 go_wp2_with fail
 refine HIX.out.mono ?_
 clear HIX
 rintro e w1 ⟨⟨i, rfl, hix⟩, hb1⟩
 have HO1 := hide (show OwnG encSp 2 spty w1 base (.slice A n c) L from ownsRow_of HO.out fun k e => hb1.block k (HO.out.lt k e).2)
 have HK1 := hide (Kp.of_below hb1 (fun k => (Value.slice A n c).ownBlock = some k))
 clear hb1
 rcases hix with ⟨rfl, hall⟩ | ⟨k0, x0, rfl, hx0, hp0, hno⟩
 · have HE := hide (show (L.filter fun x => !p x) = L from List.filter_eq_self.2 fun x hx => by rw [hall x hx]; rfl)
   clear hall
   go_wp2
   go_ret
   exact ⟨_, rfl, by rw [HE.out]; exact HO1.out, HK1.out, fun k e => e⟩
 have hk0 : k0 < n := by have := (List.getElem?_eq_some_iff.1 hx0).1; have := HN.out; omega
 obtain ⟨gb, rfl⟩ : ∃ gb, A = some ⟨gb, 0, none⟩ := by
   rcases HO.out.2 with ⟨_, hz⟩ | ⟨gg, cap, cur, e, _⟩
   · have := HN.out; omega
   · injection e with e1 e2 e3
     exact ⟨gg, e1⟩
 have HST := hide (show L.take k0 = (L.take (k0 + 1)).filter fun x => !p x by
   rw [List.take_add_one, hx0, List.filter_append]
   have e1 : (L.take k0).filter (fun x => !p x) = L.take k0 := List.filter_eq_self.2 fun x hx => by
     obtain ⟨j, hj⟩ := List.mem_iff_getElem?.1 hx
     rw [List.getElem?_take] at hj
     split at hj
     · rw [hno j x (by assumption) hj]; rfl
     · cases hj
   rw [e1]
   simp [hp0])
 have hne1 : ((k0 : Int) == -1) = false := by rw [beq_eq_false_iff_ne]; omega
 have hne1' : ¬ (k0 : Int) = -1 := by omega
 have hk0i : (k0 : Int) < (n : Int) := by omega
 clear hx0 hp0 hno
 go_wp2
 go_loopw [5, 6, 7] (fun v5 v6 _ wr => ∃ (i j : Nat) (R : List Spt), v5 = .int .i64 i ∧ v6 = .int .i64 j ∧ i < j ∧ j ≤ n ∧ R.length = n ∧ Hid (R.take i = (L.take j).filter fun x => !p x) ∧ Hid (R.drop j = L.drop j) ∧ Hid (OwnG encSp 2 spty wr base (.slice (some ⟨gb, 0, none⟩) n c) R) ∧ Hid (Kp w wr (fun k => (Value.slice (some ⟨gb, 0, none⟩) n c).ownBlock = some k))) (fun _ v6 _ _ => n - (intOf v6).toNat)
 case atStart => exact ⟨k0, k0 + 1, L, rfl, by go_num, by omega, by omega, HN.out, HST, hide rfl, HO1, HK1⟩
 case round =>
   obtain ⟨i, j, R, rfl, rfl, hij, hj, hR, HT, HD, HOR, HKR⟩ := hrel
   by_cases hlt : j < n
   case neg =>
     obtain rfl : j = n := by omega
     have hor : wr.ownsRow base spty 2 (.slice (some ⟨gb, 0, none⟩) j c) j (valsG encSp R) := by
       have := HOR.out
       unfold OwnG at this
       rwa [hR] at this
     have hpre := ownsRow_pre hor (k := i) (by omega)
     obtain ⟨hrl, hr2⟩ := id hor
     obtain ⟨gg, cap, cur, e0, _, hh, hcc, _, hcs, _⟩ := hr2.resolve_left (fun q => by cases q.1)
     injection e0 with e1 e2 e3
     injection e1 with e1
     injection e1 with e1
     subst e1 e3
     have hsome : ∀ q, q < (j - i) * 2 → (wr.cell? ⟨gb, i * 2 + q, none⟩).isSome = true := fun q hq => by
       have hlt : i * 2 + q < cur.size := by rw [hcs]; omega
       simp [World.cell?, hh]
       omega
     have hfrz : ∀ q, q < (j - i) * 2 → wr.frozen? ⟨gb, i * 2 + q, none⟩ = false := fun q _ => by simp [World.frozen?, hh]
     have hcl := fun ty => run_clear2 wr ty gb (i * 2) (j - i) (c - i) (by omega) hsome hfrz
     obtain ⟨ho1, _, hk1⟩ := ownsRow_pasts (List.replicate ((j - i) * 2) (.string ⟨#[]⟩)) (i * 2) hpre (Nat.le_refl _)
     have hvl : (valsG encSp R).take (i * 2) = valsG encSp (R.take i) := by
       have e : valsG encSp R = valsG encSp (R.take i) ++ valsG encSp (R.drop i) := by rw [← valsG_app, List.take_append_drop]
       rw [e, List.take_left' (by rw [valsG_len encSp_len, List.length_take, Nat.min_eq_left (by omega)])]
     have HEND := hide (show OwnG encSp 2 spty (wr.setCells gb (i * 2) (List.replicate ((j - i) * 2) (.string ⟨#[]⟩))) base (.slice (some ⟨gb, 0, none⟩) i c) (L.filter fun x => !p x) by
       have e : (L.filter fun x => !p x) = R.take i := by rw [HT.out, List.take_of_length_le (by have := HN.out; omega)]
       unfold OwnG
       rw [e, ← hvl, List.length_take, Nat.min_eq_left (by omega)]
       exact ho1)
     have HKE := hide (show Kp w (wr.setCells gb (i * 2) (List.replicate ((j - i) * 2) (.string ⟨#[]⟩))) (fun k => (Value.slice (some ⟨gb, 0, none⟩) j c).ownBlock = some k) from HKR.out.trans (hk1.mono fun k e => .inl (by rw [e]; rfl)))
     have hci : (i : Int) ≤ (c : Int) := by omega
     have hij' : (i : Int) ≤ (j : Int) := by omega
     have hjc : (j : Int) ≤ (c : Int) := by omega
     clear hor hpre hrl hr2 hh hcc hcs hsome hfrz ho1 hk1 hvl
     go_wp2
     go_ret
     exact ⟨_, rfl, HEND.out, HKE.out, fun k e => e⟩
   have b1 : (j : Int) < (n : Int) := by omega
   have hjR : j < R.length := by omega
   obtain ⟨x, hx⟩ : ∃ x, R[j]? = some x := ⟨_, List.getElem?_eq_getElem hjR⟩
   have hxL : L[j]? = some x := by
     have h1 := congrArg (fun l => l[0]?) HD.out
     simp only [List.getElem?_drop, Nat.add_zero] at h1
     rw [← h1, hx]
   obtain ⟨A', c', e0, _, hrg, _, _⟩ := HOR.out.slice encSp_len
   injection e0 with e1 e2 e3
   subst e1
   obtain ⟨gx, ox, e4, hgl, hcc⟩ := hrg j x hx
   injection e4 with e4
   injection e4 with e4 e5
   subst e4 e5
   have hc0 : wr.cell? ⟨gb, j * 2, none⟩ = some (.string x.2) := by simpa using hcc 0 _ rfl
   have hc1 : wr.cell? ⟨gb, j * 2 + 1, none⟩ = some (.string x.1) := by simpa using hcc 1 _ rfl
   have hba : Below wr.heap.size wr (wr.alloc (.cells #[.string x.2, .string x.1] spty)) := (Below.refl _ _).alloc (Nat.le_refl _) _
   have HCALL := hide (HF.out (wr.alloc (.cells #[.string x.2, .string x.1] spty)) x (List.mem_of_getElem? hxL) (HKR.out.trans (Kp.of_below hba _)))
   have HVR := hide (heapNew wr (.cells #[.string x.2, .string x.1] spty))
   have HBA := hide hba
   have HX := hide hx
   have HXL := hide hxL
   obtain ⟨pb, hpb⟩ : ∃ b, p x = b := ⟨_, rfl⟩
   rw [hpb] at HCALL
   have HPB := hide hpb
   clear hpb hx hxL hrg hcc hba e2 e3 hgl hjR
   go_wp2_with fail
   refine HCALL.out.mono ?_
   clear HCALL
   rintro e w3 ⟨rfl, hb3⟩
   have HB3 := hide (HBA.out.trans (hb3.mono HBA.out.size))
   have hv3 := (hb3.block wr.heap.size (by simp)).trans HVR.out
   have v0 := cellOf hv3 (j := 0) rfl
   have v1 := cellOf hv3 (j := 1) rfl
   clear hv3
   have HO3 := hide (show OwnG encSp 2 spty w3 base (.slice (some ⟨gb, 0, none⟩) n c) R from ownsRow_of HOR.out fun k e => HB3.out.block k (HOR.out.lt k e).2)
   have HK3 := hide (HKR.out.trans (Kp.of_below HB3.out _))
   have HTS := hide (show (L.take (j + 1)).filter (fun x => !p x) = R.take i ++ (if p x then [] else [x]) by
     rw [List.take_add_one, HXL.out, List.filter_append, ← HT.out]
     cases hpx : p x <;> simp [hpx])
   rw [HPB.out] at HTS
   have HDS := hide (show R.drop (j + 1) = L.drop (j + 1) by rw [← List.drop_drop, HD.out, List.drop_drop])
   clear hb3
   cases pb with
   | true =>
     have HT2 := hide (show R.take i = (L.take (j + 1)).filter fun x => !p x by rw [HTS.out]; simp)
     go_wp2
     go_roundw
     case rel => exact ⟨i, j + 1, R, rfl, by go_num, by omega, by omega, hR, HT2, HDS, HO3, HK3⟩
     case measure => simp [intOf]; omega
   | false =>
     have hor : w3.ownsRow base spty 2 (.slice (some ⟨gb, 0, none⟩) n c) n (valsG encSp R) := by
       have := HO3.out
       unfold OwnG at this
       rwa [hR] at this
     have hglt := (HO3.out.lt gb rfl).2
     obtain ⟨⟨u0, hu0⟩, hf0, ho0⟩ := ownsRow_put hor (i := i * 2) (by omega) (.string x.2)
     obtain ⟨⟨u1, hu1⟩, hf1, ho1⟩ := ownsRow_put ho0 (i := i * 2 + 1) (by omega) (.string x.1)
     rw [vals_set R i x (by omega)] at ho1
     have hk4 : Kp w3 ((w3.setCell ⟨gb, i * 2, none⟩ (.string x.2)).setCell ⟨gb, i * 2 + 1, none⟩ (.string x.1)) (fun k => k = gb) := (objKp (w := w3) (g := gb) (j := i * 2) (v := .string x.2)).trans ((objKp (w := w3.setCell ⟨gb, i * 2, none⟩ (.string x.2)) (g := gb) (j := i * 2 + 1) (v := .string x.1)).mono fun k e => .inl e)
     have HO4 := hide (show OwnG encSp 2 spty ((w3.setCell ⟨gb, i * 2, none⟩ (.string x.2)).setCell ⟨gb, i * 2 + 1, none⟩ (.string x.1)) base (.slice (some ⟨gb, 0, none⟩) n c) (R.set i x) by
       unfold OwnG
       rw [List.length_set, hR]
       exact ho1)
     have HK4 := hide (HK3.out.trans (hk4.mono fun k e => .inl (by rw [e]; rfl)))
     have HT2 := hide (show (R.set i x).take (i + 1) = (L.take (j + 1)).filter fun x => !p x by
       rw [HTS.out, List.take_set, List.take_add_one, List.getElem?_eq_getElem (show i < R.length by omega)]
       rw [Option.toList_some, List.set_append_right _ _ (by simp; omega)]
       simp [Nat.min_eq_left (show i ≤ R.length by omega)])
     have HD2 := hide (show (R.set i x).drop (j + 1) = L.drop (j + 1) by rw [List.drop_set, if_pos (by omega)]; exact HDS.out)
     have hiN : (i : Int) < (n : Int) := by omega
     clear hor ho1 hk4 hglt
     go_wp2
     go_roundw
     case rel => exact ⟨i + 1, j + 1, R.set i x, by go_num, by go_num, by omega, by omega, by simp [hR], HT2, HD2, HO4, HK4⟩
     case measure => simp [intOf]; omega
end
section
open Go.RowKit Go.Deep Go.Sort Go.Shelf
def encDs (x : ByteArray) : List Value := [.string x]
theorem encDs_len (x : ByteArray) : (encDs x).length = 1 := rfl
theorem run_clear1 (w : World) (ty : TypeId) (b o n c : Nat) (hn : 0 < n) (hc : ∀ j, j < n * 1 → (w.cell? ⟨b, o + j, none⟩).isSome = true) (hf : ∀ j, j < n * 1 → w.frozen? ⟨b, o + j, none⟩ = false) :
   (Builtin.clear_ #[42] ty #[.slice (some ⟨b, o, none⟩) n c]).run Tryz.prog w = .ok (.tuple #[]) (w.setCells b o (List.replicate (n * 1) (.string ⟨#[]⟩))) := by
 rw [Nat.mul_one] at *
 exact Lib.run_clear_slice w _ _ ty (.string ⟨#[]⟩) Tryz.underlying42 (fun _ => by kernel_rfl) rfl rfl b o n c hn hc hf
def IdxStr (p : ByteArray → Bool) (L : List ByteArray) (i : Int) : Prop := (i = -1 ∧ ∀ x ∈ L, p x = false) ∨ ∃ k x, i = (k : Nat) ∧ L[k]? = some x ∧ p x = true ∧ ∀ j y, j < k → L[j]? = some y → p y = false
theorem idxStr_any (p : ByteArray → Bool) (g : Nat) (lb : Array Value) (eg : ∀ args w, (callFunc g args).run Tryz.prog w = .ok (.enter g args) w) (A : Option Addr) (c : Nat) (L : List ByteArray) (w : World) (hl : L.length ≤ 100000000) (hA : RG encDs 1 w A L)
   (hf : ∀ (W : World) (x : ByteArray), x ∈ L → Below w.heap.size w W → Calls Tryz.prog g (#[(.string x)] ++ lb) W fun e w' => e = .returned (.bool (p x)) ∧ Below W.heap.size W w') :
   Calls Tryz.prog 104 #[.slice A L.length c, .func (.func g) #[] lb] w fun e w' => (∃ i, e = .returned (.int .i64 i) ∧ IdxStr p L i) ∧ Below w.heap.size w w' := by
 have HA := hide hA
 have HF := hide hf
 clear hA hf
 obtain ⟨n, hn⟩ : ∃ n, L.length = n := ⟨_, rfl⟩
 have HN := hide hn
 rw [hn] at hl ⊢
 clear hn
 have hn1 : (n : Int) ≤ 100000000 := by omega
 go_enter Tryz.func104, Tryz.ntmps104
 go_wp2
 go_loopw [5, 8] (fun _v5 v8 wr => ∃ k : Nat, v8 = .int .i64 k ∧ k ≤ n ∧ Hid (∀ j y, j < k → L[j]? = some y → p y = false) ∧ Below w.heap.size w wr) (fun _ v8 _ => n - (intOf v8).toNat)
 case atStart => exact ⟨0, rfl, by omega, hide fun j y hj => by omega, Below.refl _ _⟩
 case round =>
   obtain ⟨k, rfl, hk, HP, hb⟩ := hrel
   have HB := hide hb
   by_cases hlt : k < n
   · obtain ⟨x, hx⟩ : ∃ x, L[k]? = some x := ⟨L[k]'(by have := HN.out; omega), gE _⟩
     obtain ⟨gs, o, rfl, hg, hcc⟩ := HA.out k x hx
     have hc0 := (hb.cell (p := ⟨gs, o + k * 1, none⟩) hg).trans (hcc 0 _ rfl)
     rw [Nat.mul_one] at hc0
     have hcall := HF.out wr x (List.mem_of_getElem? hx) HB.out
     have b1 : (k : Int) < (n : Int) := by omega
     have HX := hide hx
     clear hx hb hcc
     obtain ⟨pb, hpb⟩ : ∃ b, p x = b := ⟨_, rfl⟩
     rw [hpb] at hcall
     have HPB := hide hpb
     clear hpb
     have HC := hide hcall
     clear hcall
     go_wp2_with fail
     refine HC.out.mono ?_
     rintro e w' ⟨rfl, hb'⟩
     have HB' := hide (HB.out.trans (hb'.mono HB.out.size))
     clear hb'
     cases pb with
     | true =>
       go_wp2
       go_ret
       exact ⟨⟨_, rfl, .inr ⟨k, x, rfl, HX.out, HPB.out, HP.out⟩⟩, HB'.out⟩
     | false =>
       go_wp2
       go_roundw
       case rel =>
         refine ⟨k + 1, by go_num, by omega, hide fun j y hj hy => ?_, HB'.out⟩
         by_cases e : j = k
         · subst e
           rw [HX.out] at hy
           rw [← Option.some.inj hy]
           exact HPB.out
         · exact HP.out j y (by omega) hy
       case measure => simp [intOf]; omega
   · obtain rfl : k = n := by omega
     clear hb
     go_wp2
     go_ret
     refine ⟨⟨_, rfl, .inl ⟨rfl, fun x hx => ?_⟩⟩, HB.out⟩
     obtain ⟨j, hj⟩ := List.mem_iff_getElem?.1 hx
     exact HP.out j x (by have := (List.getElem?_eq_some_iff.1 hj).1; have := HN.out; omega) hj
theorem delStr_any (p : ByteArray → Bool) (g : Nat) (lb : Array Value) (eg : ∀ args w, (callFunc g args).run Tryz.prog w = .ok (.enter g args) w) {w : World} {base : Nat} {v : Value} {L : List ByteArray} (h : OwnG encDs 1 9 w base v L) (hl : L.length ≤ 1000000)
   (hf : ∀ (W : World) (x : ByteArray), x ∈ L → Kp w W (fun k => v.ownBlock = some k) → Calls Tryz.prog g (#[(.string x)] ++ lb) W fun e w' => e = .returned (.bool (p x)) ∧ Below W.heap.size W w') :
   Calls Tryz.prog 49 #[v, .func (.func g) #[] lb] w fun e w' => ∃ v', e = .returned v' ∧ OwnG encDs 1 9 w' base v' (L.filter fun x => !p x) ∧ Kp w w' (fun k => v.ownBlock = some k) ∧ ∀ k, v'.ownBlock = some k → v.ownBlock = some k := by
 obtain ⟨A, c, rfl, hlc, hrg, hob, hoz⟩ := h.slice encDs_len
 obtain ⟨n, hn⟩ : ∃ n, L.length = n := ⟨_, rfl⟩
 have HN := hide hn
 have HIX := hide (idxStr_any p g lb eg A c L w (by omega) hrg (fun W x hx hb => hf W x hx (Kp.of_below hb _)))
 have HF := hide hf
 have HO := hide h
 rw [hn] at hlc HIX HF HO ⊢
 have hnl : n ≤ 1000000 := by omega
 clear h hl hf hrg hob hoz hn
 go_enter Tryz.func49, Tryz.ntmps49
 go_wp2_with fail
 refine HIX.out.mono ?_
 clear HIX
 rintro e w1 ⟨⟨i, rfl, hix⟩, hb1⟩
 have HO1 := hide (show OwnG encDs 1 9 w1 base (.slice A n c) L from ownsRow_of HO.out fun k e => hb1.block k (HO.out.lt k e).2)
 have HK1 := hide (Kp.of_below hb1 (fun k => (Value.slice A n c).ownBlock = some k))
 clear hb1
 rcases hix with ⟨rfl, hall⟩ | ⟨k0, x0, rfl, hx0, hp0, hno⟩
 · have HE := hide (show (L.filter fun x => !p x) = L from List.filter_eq_self.2 fun x hx => by rw [hall x hx]; rfl)
   clear hall
   go_wp2
   go_ret
   exact ⟨_, rfl, by rw [HE.out]; exact HO1.out, HK1.out, fun k e => e⟩
 have hk0 : k0 < n := by have := (List.getElem?_eq_some_iff.1 hx0).1; have := HN.out; omega
 obtain ⟨gb, rfl⟩ : ∃ gb, A = some ⟨gb, 0, none⟩ := by
   rcases HO.out.2 with ⟨_, hz⟩ | ⟨gg, cap, cur, e, _⟩
   · have := HN.out; omega
   · injection e with e1 e2 e3
     exact ⟨gg, e1⟩
 have HST := hide (show L.take k0 = (L.take (k0 + 1)).filter fun x => !p x by
   rw [List.take_add_one, hx0, List.filter_append]
   have e1 : (L.take k0).filter (fun x => !p x) = L.take k0 := List.filter_eq_self.2 fun x hx => by
     obtain ⟨j, hj⟩ := List.mem_iff_getElem?.1 hx
     rw [List.getElem?_take] at hj
     split at hj
     · rw [hno j x (by assumption) hj]; rfl
     · cases hj
   rw [e1]
   simp [hp0])
 have hne1 : ((k0 : Int) == -1) = false := by rw [beq_eq_false_iff_ne]; omega
 have hne1' : ¬ (k0 : Int) = -1 := by omega
 have hk0i : (k0 : Int) < (n : Int) := by omega
 clear hx0 hp0 hno
 go_wp2
 go_loopw [5, 6, 7] (fun v5 v6 _ wr => ∃ (i j : Nat) (R : List ByteArray), v5 = .int .i64 i ∧ v6 = .int .i64 j ∧ i < j ∧ j ≤ n ∧ R.length = n ∧ Hid (R.take i = (L.take j).filter fun x => !p x) ∧ Hid (R.drop j = L.drop j) ∧ Hid (OwnG encDs 1 9 wr base (.slice (some ⟨gb, 0, none⟩) n c) R) ∧ Hid (Kp w wr (fun k => (Value.slice (some ⟨gb, 0, none⟩) n c).ownBlock = some k))) (fun _ v6 _ _ => n - (intOf v6).toNat)
 case atStart => exact ⟨k0, k0 + 1, L, rfl, by go_num, by omega, by omega, HN.out, HST, hide rfl, HO1, HK1⟩
 case round =>
   obtain ⟨i, j, R, rfl, rfl, hij, hj, hR, HT, HD, HOR, HKR⟩ := hrel
   by_cases hlt : j < n
   case neg =>
     obtain rfl : j = n := by omega
     have hor : wr.ownsRow base 9 1 (.slice (some ⟨gb, 0, none⟩) j c) j (valsG encDs R) := by
       have := HOR.out
       unfold OwnG at this
       rwa [hR] at this
     have hpre := ownsRow_pre hor (k := i) (by omega)
     obtain ⟨hrl, hr2⟩ := id hor
     obtain ⟨gg, cap, cur, e0, _, hh, hcc, _, hcs, _⟩ := hr2.resolve_left (fun q => by cases q.1)
     injection e0 with e1 e2 e3
     injection e1 with e1
     injection e1 with e1
     subst e1 e3
     have hsome : ∀ q, q < (j - i) * 1 → (wr.cell? ⟨gb, i * 1 + q, none⟩).isSome = true := fun q hq => by
       have hlt : i * 1 + q < cur.size := by rw [hcs]; omega
       simp [World.cell?, hh]
       omega
     have hfrz : ∀ q, q < (j - i) * 1 → wr.frozen? ⟨gb, i * 1 + q, none⟩ = false := fun q _ => by simp [World.frozen?, hh]
     have hcl := fun ty => run_clear1 wr ty gb (i * 1) (j - i) (c - i) (by omega) hsome hfrz
     obtain ⟨ho1, _, hk1⟩ := ownsRow_pasts (List.replicate ((j - i) * 1) (.string ⟨#[]⟩)) (i * 1) hpre (Nat.le_refl _)
     have hvl : (valsG encDs R).take (i * 1) = valsG encDs (R.take i) := by
       have e : valsG encDs R = valsG encDs (R.take i) ++ valsG encDs (R.drop i) := by rw [← valsG_app, List.take_append_drop]
       rw [e, List.take_left' (by rw [valsG_len encDs_len, List.length_take, Nat.min_eq_left (by omega)])]
     have HEND := hide (show OwnG encDs 1 9 (wr.setCells gb (i * 1) (List.replicate ((j - i) * 1) (.string ⟨#[]⟩))) base (.slice (some ⟨gb, 0, none⟩) i c) (L.filter fun x => !p x) by
       have e : (L.filter fun x => !p x) = R.take i := by rw [HT.out, List.take_of_length_le (by have := HN.out; omega)]
       unfold OwnG
       rw [e, ← hvl, List.length_take, Nat.min_eq_left (by omega)]
       exact ho1)
     have HKE := hide (show Kp w (wr.setCells gb (i * 1) (List.replicate ((j - i) * 1) (.string ⟨#[]⟩))) (fun k => (Value.slice (some ⟨gb, 0, none⟩) j c).ownBlock = some k) from HKR.out.trans (hk1.mono fun k e => .inl (by rw [e]; rfl)))
     have hci : (i : Int) ≤ (c : Int) := by omega
     have hij' : (i : Int) ≤ (j : Int) := by omega
     have hjc : (j : Int) ≤ (c : Int) := by omega
     simp only [Nat.mul_one] at hcl HEND HKE
     clear hor hpre hrl hr2 hh hcc hcs hsome hfrz ho1 hk1 hvl
     go_wp2
     go_ret
     exact ⟨_, rfl, HEND.out, HKE.out, fun k e => e⟩
   have b1 : (j : Int) < (n : Int) := by omega
   have hjR : j < R.length := by omega
   obtain ⟨x, hx⟩ : ∃ x, R[j]? = some x := ⟨_, List.getElem?_eq_getElem hjR⟩
   have hxL : L[j]? = some x := by
     have h1 := congrArg (fun l => l[0]?) HD.out
     simp only [List.getElem?_drop, Nat.add_zero] at h1
     rw [← h1, hx]
   obtain ⟨A', c', e0, _, hrg, _, _⟩ := HOR.out.slice encDs_len
   injection e0 with e1 e2 e3
   subst e1
   obtain ⟨gx, ox, e4, hgl, hcc⟩ := hrg j x hx
   injection e4 with e4
   injection e4 with e4 e5
   subst e4 e5
   have hc0 : wr.cell? ⟨gb, j, none⟩ = some (.string x) := by simpa using hcc 0 _ rfl
   have hba : Below wr.heap.size wr wr := Below.refl _ _
   have HCALL := hide (HF.out wr x (List.mem_of_getElem? hxL) HKR.out)
   have HBA := hide hba
   have HX := hide hx
   have HXL := hide hxL
   obtain ⟨pb, hpb⟩ : ∃ b, p x = b := ⟨_, rfl⟩
   rw [hpb] at HCALL
   have HPB := hide hpb
   clear hpb hx hxL hrg hcc hba e2 e3 hgl hjR
   go_wp2_with fail
   refine HCALL.out.mono ?_
   clear HCALL
   rintro e w3 ⟨rfl, hb3⟩
   have HB3 := hide (HBA.out.trans (hb3.mono HBA.out.size))
   have HO3 := hide (show OwnG encDs 1 9 w3 base (.slice (some ⟨gb, 0, none⟩) n c) R from ownsRow_of HOR.out fun k e => HB3.out.block k (HOR.out.lt k e).2)
   have HK3 := hide (HKR.out.trans (Kp.of_below HB3.out _))
   have HTS := hide (show (L.take (j + 1)).filter (fun x => !p x) = R.take i ++ (if p x then [] else [x]) by
     rw [List.take_add_one, HXL.out, List.filter_append, ← HT.out]
     cases hpx : p x <;> simp [hpx])
   rw [HPB.out] at HTS
   have HDS := hide (show R.drop (j + 1) = L.drop (j + 1) by rw [← List.drop_drop, HD.out, List.drop_drop])
   clear hb3
   cases pb with
   | true =>
     have HT2 := hide (show R.take i = (L.take (j + 1)).filter fun x => !p x by rw [HTS.out]; simp)
     go_wp2
     go_roundw
     case rel => exact ⟨i, j + 1, R, rfl, by go_num, by omega, by omega, hR, HT2, HDS, HO3, HK3⟩
     case measure => simp [intOf]; omega
   | false =>
     have hor : w3.ownsRow base 9 1 (.slice (some ⟨gb, 0, none⟩) n c) n (valsG encDs R) := by
       have := HO3.out
       unfold OwnG at this
       rwa [hR] at this
     have hglt := (HO3.out.lt gb rfl).2
     obtain ⟨⟨u0, hu0⟩, hf0, ho1⟩ := ownsRow_put hor (i := i) (by omega) (.string x)
     have hvs : (valsG encDs R).set i (.string x) = valsG encDs (R.set i x) := by
       have e : ∀ M : List ByteArray, valsG encDs M = M.map Value.string := fun M => by unfold valsG encDs; induction M with | nil => rfl | cons a M ih => simp [List.flatMap_cons, ih]
       rw [e, e, List.map_set]
     rw [hvs] at ho1
     have hk4 : Kp w3 (w3.setCell ⟨gb, i, none⟩ (.string x)) (fun k => k = gb) := objKp
     have HO4 := hide (show OwnG encDs 1 9 (w3.setCell ⟨gb, i, none⟩ (.string x)) base (.slice (some ⟨gb, 0, none⟩) n c) (R.set i x) by
       unfold OwnG
       rw [List.length_set, hR]
       exact ho1)
     have HK4 := hide (HK3.out.trans (hk4.mono fun k e => .inl (by rw [e]; rfl)))
     have HT2 := hide (show (R.set i x).take (i + 1) = (L.take (j + 1)).filter fun x => !p x by
       rw [HTS.out, List.take_set, List.take_add_one, List.getElem?_eq_getElem (show i < R.length by omega)]
       rw [Option.toList_some, List.set_append_right _ _ (by simp; omega)]
       simp [Nat.min_eq_left (show i ≤ R.length by omega)])
     have HD2 := hide (show (R.set i x).drop (j + 1) = L.drop (j + 1) by rw [List.drop_set, if_pos (by omega)]; exact HDS.out)
     have hiN : (i : Int) < (n : Int) := by omega
     clear hor ho1 hk4 hglt
     go_wp2
     go_roundw
     case rel => exact ⟨i + 1, j + 1, R.set i x, by go_num, by go_num, by omega, by omega, by simp [hR], HT2, HD2, HO4, HK4⟩
     case measure => simp [intOf]; omega
end
end Go.Proofs.YtmcophlmcloooaaGreatDoor
namespace Qm.Base
open Go.Lib
abbrev Tx := List UInt8
theorem tx_irrefl (a : Tx) : ¬ a < a := List.lt_irrefl a
theorem tx_trans {a b c : Tx} (h : a < b) (k : b < c) : a < c := List.lt_trans h k
theorem tx_tri {a b : Tx} (h : ¬ a < b) (k : ¬ b < a) : a = b := List.le_antisymm (List.not_lt.1 k) (List.not_lt.1 h)
def Ris (l : List Tx) : Prop := l.Pairwise (· < ·)
theorem ris_ext : ∀ {l m : List Tx}, Ris l → Ris m → (∀ x, x ∈ l ↔ x ∈ m) → l = m
 | [], [], _, _, _ => rfl
 | [], b :: m, _, _, h => by have := (h b).2 (by simp); simp at this
 | a :: l, [], _, _, h => by have := (h a).1 (by simp); simp at this
 | a :: l, b :: m, h1, h2, h => by
   obtain ⟨p1, p2⟩ := List.pairwise_cons.1 h1
   obtain ⟨q1, q2⟩ := List.pairwise_cons.1 h2
   have e : a = b := by
     rcases List.mem_cons.1 ((h a).1 (by simp)) with e | e
     · exact e
     · rcases List.mem_cons.1 ((h b).2 (by simp)) with e2 | e2
       · exact e2.symm
       · exact absurd (tx_trans (q1 a e) (p1 b e2)) (tx_irrefl _)
   subst e
   congr 1
   refine ris_ext p2 q2 fun x => ⟨fun hx => ?_, fun hx => ?_⟩
   · rcases List.mem_cons.1 ((h x).1 (List.mem_cons_of_mem _ hx)) with e | e
     · subst e; exact absurd (p1 x hx) (tx_irrefl _)
     · exact e
   · rcases List.mem_cons.1 ((h x).2 (List.mem_cons_of_mem _ hx)) with e | e
     · subst e; exact absurd (q1 x hx) (tx_irrefl _)
     · exact e
def putT (s : Tx) : List Tx → List Tx
 | [] => [s]
 | x :: l => if x < s then x :: putT s l else if x = s then x :: l else s :: x :: l
theorem putT_mem {s : Tx} : ∀ {l : List Tx} {x : Tx}, x ∈ putT s l ↔ x = s ∨ x ∈ l
 | [], x => by simp [putT]
 | y :: l, x => by
   rw [putT]
   split
   · simp only [List.mem_cons, putT_mem]
     constructor <;> rintro (h | h | h) <;> simp [h]
   · split
     · rename_i h
       subst h
       simp
     · simp
theorem putT_ris {s : Tx} : ∀ {l : List Tx}, Ris l → Ris (putT s l)
 | [], _ => by simp [putT, Ris]
 | y :: l, h => by
   obtain ⟨p1, p2⟩ := List.pairwise_cons.1 h
   rw [putT]
   split
   · rename_i hlt
     refine List.pairwise_cons.2 ⟨fun x hx => ?_, putT_ris p2⟩
     rcases putT_mem.1 hx with e | e
     · rw [e]; exact hlt
     · exact p1 x e
   · split
     · exact h
     · rename_i h1 h2
       have hs : s < y := by
         by_cases k : s < y
         · exact k
         · exact absurd (tx_tri h1 k) h2
       refine List.pairwise_cons.2 ⟨fun x hx => ?_, h⟩
       rcases List.mem_cons.1 hx with e | e
       · rw [e]; exact hs
       · exact tx_trans hs (p1 x e)
def putAll (l : List Tx) : List Tx := l.foldl (fun acc s => putT s acc) []
theorem putAll_aux : ∀ (l acc : List Tx), Ris acc → Ris (l.foldl (fun acc s => putT s acc) acc) ∧ ∀ x, x ∈ l.foldl (fun acc s => putT s acc) acc ↔ x ∈ acc ∨ x ∈ l
 | [], acc, h => ⟨h, fun x => by simp⟩
 | s :: l, acc, h => by
   obtain ⟨h1, h2⟩ := putAll_aux l (putT s acc) (putT_ris h)
   refine ⟨h1, fun x => ?_⟩
   rw [List.foldl_cons, h2 x, putT_mem]
   simp only [List.mem_cons]
   constructor
   · rintro ((h | h) | h) <;> simp [h]
   · rintro (h | h | h) <;> simp [h]
theorem compact_mem (d : Array Tx) : ∀ m x, x ∈ compactUpTo d m ↔ ∃ j, j < m ∧ d[j]! = x
 | 0, x => by simp [compactUpTo]
 | m + 1, x => by
   rw [compactUpTo_succ, List.mem_append, compact_mem d m x]
   constructor
   · rintro (⟨j, h1, h2⟩ | h)
     · exact ⟨j, by omega, h2⟩
     · split at h
       · simp at h; exact ⟨m, by omega, h.symm⟩
       · simp at h
   · rintro ⟨j, h1, h2⟩
     by_cases e : j = m
     · subst e
       by_cases hk : keeps d j = true
       · right; rw [if_pos hk]; simp [h2]
       · left
         have hj : 0 < j := by
           by_cases h0 : j = 0
           · subst h0; exact absurd (keeps_lt_one d 0 (by omega)) hk
           · omega
         refine ⟨j - 1, by omega, ?_⟩
         by_cases he : d[j]! = d[j - 1]!
         · rw [← he, h2]
         · exact absurd (keeps_pos he) hk
     · left; exact ⟨j, by omega, h2⟩
theorem compact_ris (d : Array Tx) (hs : ∀ i j, i < j → j < d.size → ¬ d[j]! < d[i]!) : ∀ m, m ≤ d.size → Ris (compactUpTo d m)
 | 0, _ => by simp [compactUpTo, Ris]
 | m + 1, hm => by
   rw [compactUpTo_succ]
   have ih := compact_ris d hs m (by omega)
   by_cases hk : keeps d m = true
   · rw [if_pos hk]
     refine List.pairwise_append.2 ⟨ih, by simp, fun x hx y hy => ?_⟩
     obtain ⟨j, hj, rfl⟩ := (compact_mem d m x).1 hx
     obtain rfl : y = d[m]! := by simpa using hy
     have hne : d[m]! ≠ d[m - 1]! := by
       intro e
       have := keeps_neg (by omega) e
       rw [this] at hk; cases hk
     have h1 : ¬ d[m]! < d[m - 1]! := hs (m - 1) m (by omega) (by omega)
     have h2 : d[m - 1]! < d[m]! := by
       by_cases k : d[m - 1]! < d[m]!
       · exact k
       · exact absurd (tx_tri h1 k) hne
     by_cases e : j = m - 1
     · subst e; exact h2
     · have h3 := hs j (m - 1) (by omega) (by omega)
       by_cases k : d[j]! < d[m - 1]!
       · exact tx_trans k h2
       · rw [← tx_tri h3 k]; exact h2
   · rw [if_neg hk, List.append_nil]; exact ih
theorem sorted_put (l : List Tx) : compact (l.mergeSort fun x y => decide (x ≤ y)) = putAll l := by
 have hs := List.pairwise_mergeSort (le := fun x y : Tx => decide (x ≤ y)) (by
   intro a b c h1 h2
   simp only [decide_eq_true_eq] at *
   exact List.le_trans h1 h2) (by
   intro a b
   simp only [Bool.or_eq_true, decide_eq_true_eq]
   exact List.le_total a b) l
 obtain ⟨p1, p2⟩ := putAll_aux l [] (by simp [Ris])
 refine ris_ext ?_ p1 fun x => ?_
 · refine compact_ris _ (fun i j hij hj => ?_) _ (by simp)
   have hj2 : j < (l.mergeSort fun x y => decide (x ≤ y)).length := by simpa using hj
   have := List.pairwise_iff_getElem.1 hs i j (by omega) hj2 hij
   simp only [decide_eq_true_eq] at this
   rw [getElem!_pos _ _ (by simpa using hj2), getElem!_pos _ _ (by simp; simp at hj2; omega)]
   simpa [List.not_lt] using this
 · rw [compact, compact_mem, show x ∈ putAll l ↔ _ from p2 x]
   simp only [List.not_mem_nil, false_or]
   rw [← List.mem_mergeSort (le := fun x y : Tx => decide (x ≤ y)) (l := l)]
   constructor
   · rintro ⟨j, hj, rfl⟩
     rw [getElem!_pos _ _ (by simpa using hj)]
     simp
   · intro hx
     obtain ⟨j, hj, e⟩ := List.mem_iff_getElem.1 hx
     exact ⟨j, hj, by rw [getElem!_pos _ _ (by simpa using hj)]; simpa using e⟩
end Qm.Base
namespace Qm.Glob
def wdn (g : Nat → Bool) : Nat → Nat
 | 0 => 0
 | n + 1 => wdn g n + (if g n then 2 ^ n else 0)
theorem wdn_lt (g : Nat → Bool) (n : Nat) : wdn g n < 2 ^ n := by
 induction n with
 | zero => simp [wdn]
 | succ n ih => simp only [wdn, Nat.pow_succ]; split <;> omega
theorem testBit_wdn (g : Nat → Bool) (n b : Nat) : (wdn g n).testBit b = (decide (b < n) && g b) := by
 induction n with
 | zero => simp [wdn]
 | succ n ih =>
   simp only [wdn]
   have hl := wdn_lt g n
   split
   · rename_i h
     rw [Nat.add_comm]
     by_cases hb : b < n
     · rw [Nat.testBit_two_pow_add_gt hb, ih]; simp [hb]; intro; omega
     · by_cases e : b = n
       · subst e; rw [Nat.testBit_two_pow_add_eq, ih]; simp [h]
       · have : 2 ^ n + wdn g n < 2 ^ b := by
           have : 2 ^ (n + 1) ≤ 2 ^ b := Nat.pow_le_pow_right (by omega) (by omega)
           rw [Nat.pow_succ] at this; omega
         rw [Nat.testBit_lt_two_pow this]
         have : ¬ b < n + 1 := by omega
         simp [this]
   · rename_i h
     rw [Nat.add_zero, ih]
     by_cases hb : b < n
     · have : b < n + 1 := by omega
       simp [hb, this]
     · by_cases e : b = n
       · subst e; simp [h]
       · have : ¬ b < n + 1 := by omega
         simp [hb, this]
def wd (S : Nat → Bool) (j : Nat) : Nat := wdn (fun b => S (64 * j + b)) 64
theorem wd_lt (S : Nat → Bool) (j : Nat) : wd S j < 18446744073709551616 := by
 have := wdn_lt (fun b => S (64 * j + b)) 64
 simpa [wd] using this
theorem testBit_wd (S : Nat → Bool) (j b : Nat) : (wd S j).testBit b = (decide (b < 64) && S (64 * j + b)) := testBit_wdn _ _ _
def addS (S : Nat → Bool) (lo k : Nat) : Nat → Bool := fun c => S c || (decide (lo ≤ c) && decide (c < k))
theorem addS_none (S : Nat → Bool) (lo k : Nat) (h : k ≤ lo) : addS S lo k = S := by
 funext c
 simp only [addS]
 by_cases h1 : lo ≤ c <;> by_cases h2 : c < k <;> simp [h1, h2]
 omega
theorem wd_congr {S T : Nat → Bool} {j : Nat} (h : ∀ b, b < 64 → S (64 * j + b) = T (64 * j + b)) : wd S j = wd T j := by
 apply Nat.eq_of_testBit_eq
 intro b
 rw [testBit_wd, testBit_wd]
 by_cases hb : b < 64
 · rw [h b hb]
 · simp [hb]
theorem wd_step (S : Nat → Bool) (lo k : Nat) (h : lo ≤ k) : wd (addS S lo k) (k / 64) ||| 2 ^ (k % 64) = wd (addS S lo (k + 1)) (k / 64) := by
 apply Nat.eq_of_testBit_eq
 intro b
 rw [Nat.testBit_or, testBit_wd, testBit_wd, Nat.testBit_two_pow]
 by_cases hb : b < 64
 · simp only [hb, decide_true, Bool.true_and, addS]
   by_cases e : k % 64 = b
   · have e1 : 64 * (k / 64) + b = k := by omega
     rw [e1]
     simp [e, h]
   · have h1 : (decide (64 * (k / 64) + b < k + 1)) = decide (64 * (k / 64) + b < k) := by
       apply decide_eq_decide.2; omega
     rw [h1]
     simp [e]
 · have : k % 64 ≠ b := by omega
   simp [hb, this]
theorem wd_other (S : Nat → Bool) (lo k j : Nat) (h : j ≠ k / 64) : wd (addS S lo (k + 1)) j = wd (addS S lo k) j := by
 apply wd_congr
 intro b hb
 simp only [addS]
 have h1 : (decide (64 * j + b < k + 1)) = decide (64 * j + b < k) := by
   apply decide_eq_decide.2; omega
 rw [h1]
theorem wd_has (S : Nat → Bool) (c : Nat) : ((wd S (c / 64) / 2 ^ (c % 64)) % 2 == 1) = S c := by
 have h := testBit_wd S (c / 64) (c % 64)
 rw [Nat.testBit_eq_decide_div_mod_eq] at h
 have h2 : c % 64 < 64 := Nat.mod_lt _ (by omega)
 have h3 : 64 * (c / 64) + c % 64 = c := by omega
 rw [h3] at h
 simp only [h2, decide_true, Bool.true_and] at h
 rw [← h]
 rfl
theorem wd_not (S : Nat → Bool) (j : Nat) : 18446744073709551615 - wd S j = wd (fun c => !S c) j := by
 have hl := wd_lt S j
 apply Nat.eq_of_testBit_eq
 intro b
 have e : 18446744073709551615 - wd S j = 2 ^ 64 - (wd S j + 1) := by omega
 rw [e, Nat.testBit_two_pow_sub_succ (by simpa using hl), testBit_wd, testBit_wd]
 by_cases hb : b < 64 <;> simp [hb]
def gOne (t : Nat → Nat) (n i : Nat) : Nat × Nat × Bool :=
 if i < n ∧ t i = 92 then (if i + 1 < n then (t (i + 1), i + 2, true) else (0, i + 1, false))
 else (if i < n then (t i, i + 1, true) else (0, i, false))
def giCell (b0 : Bool) (S : Nat → Bool) (b1 : Bool) (c : Nat) (b2 : Bool) (i : Nat) : Go.Value :=
 if i = 0 then .bool b0 else if i < 5 then .int .u64 (wd S (i - 1)) else if i = 5 then .bool b1 else if i = 6 then .int .u8 c else .bool b2
def giAgg (b0 : Bool) (S : Nat → Bool) (b1 : Bool) (c : Nat) (b2 : Bool) : Array Go.Value :=
 #[.bool b0, .int .u64 (wd S 0), .int .u64 (wd S 1), .int .u64 (wd S 2), .int .u64 (wd S 3), .bool b1, .int .u8 c, .bool b2]
theorem giCell_word (b0 : Bool) (S : Nat → Bool) (b1 : Bool) (c : Nat) (b2 : Bool) (k : Nat) (h : k / 64 < 4) : giCell b0 S b1 c b2 (1 + ((k : Int) / 64).toNat) = .int .u64 (wd S (k / 64)) := by
 have e : ((k : Int) / 64).toNat = k / 64 := by omega
 rw [e]
 unfold giCell
 rw [if_neg (by omega), if_pos (by omega), show 1 + k / 64 - 1 = k / 64 from by omega]
theorem giCell_word' (b0 : Bool) (S : Nat → Bool) (b1 : Bool) (c : Nat) (b2 : Bool) (k : Nat) (h : k < 4) : giCell b0 S b1 c b2 (1 + k) = .int .u64 (wd S k) := by
 unfold giCell
 rw [if_neg (by omega), if_pos (by omega), show 1 + k - 1 = k from by omega]
theorem gOne_ok {t : Nat → Nat} {n i : Nat} (h : (gOne t n i).2.2 = true) : i < (gOne t n i).2.1 ∧ (gOne t n i).2.1 ≤ n := by
 revert h
 unfold gOne
 (repeat' split) <;> simp <;> omega
theorem gOne_lt {t : Nat → Nat} {n i : Nat} (ht : ∀ j, t j < 256) : (gOne t n i).1 < 256 := by
 have h1 := ht i
 have h2 := ht (i + 1)
 unfold gOne
 (repeat' split) <;> simp <;> omega
def gBr (t : Nat → Nat) (n first : Nat) (nt : Bool) : Nat → Nat → (Nat → Bool) → Option ((Nat → Bool) × Nat)
 | 0, _, _ => none
 | f + 1, i, S =>
   if i < n then
     if t i = 93 ∧ first < i then some (if nt then fun c => !S c else S, i + 1)
     else if (gOne t n i).2.2 = true then
       if (gOne t n i).2.1 + 1 < n ∧ t (gOne t n i).2.1 = 45 ∧ t ((gOne t n i).2.1 + 1) ≠ 93 then
         if (gOne t n ((gOne t n i).2.1 + 1)).2.2 = true then gBr t n first nt f (gOne t n ((gOne t n i).2.1 + 1)).2.1 (addS S (gOne t n i).1 ((gOne t n ((gOne t n i).2.1 + 1)).1 + 1))
         else none
       else gBr t n first nt f (gOne t n i).2.1 (addS S (gOne t n i).1 ((gOne t n i).1 + 1))
     else none
   else none
def brNt (t : Nat → Nat) (n i : Nat) : Bool := decide (i < n) && (t i == 33)
def brAt (t : Nat → Nat) (n i : Nat) : Nat := if brNt t n i then i + 1 else i
def gBracket (t : Nat → Nat) (n i : Nat) : Option ((Nat → Bool) × Nat) := gBr t n (brAt t n i) (brNt t n i) (n + 1 - brAt t n i) (brAt t n i) (fun _ => false)
structure GI where
 star : Bool
 S : Nat → Bool
 plain : Bool
 c : Nat
 closed : Bool
def GI.cells (x : GI) : List Go.Value := (giAgg x.star x.S x.plain x.c x.closed).toList
def giCells (l : List GI) : List Go.Value := l.flatMap GI.cells
def giStar : GI := ⟨true, fun _ => false, false, 0, false⟩
def giAny : GI := ⟨false, addS (fun _ => false) 0 256, false, 0, false⟩
def giOne (c : Nat) : GI := ⟨false, addS (fun _ => false) c (c + 1), true, c, false⟩
def giSet (S : Nat → Bool) : GI := ⟨false, S, false, 0, true⟩
def gIt (t : Nat → Nat) (n : Nat) : Nat → Nat → List GI
 | 0, _ => []
 | f + 1, i =>
   if i < n then
     if t i = 42 then giStar :: gIt t n f (i + 1)
     else if t i = 63 then giAny :: gIt t n f (i + 1)
     else if t i = 92 then (if i + 1 < n then giOne (t (i + 1)) :: gIt t n f (i + 2) else giOne 92 :: gIt t n f (i + 1))
     else if t i = 91 then
       match gBracket t n (i + 1) with
       | some x => giSet x.1 :: gIt t n f x.2
       | none => giOne 91 :: gIt t n f (i + 1)
     else giOne (t i) :: gIt t n f (i + 1)
   else []
def gItems (t : Nat → Nat) (n : Nat) : List GI := gIt t n (n + 1) 0
theorem gBr_le {t : Nat → Nat} {n first : Nat} {nt : Bool} : ∀ (f i : Nat) (S : Nat → Bool) (x : (Nat → Bool) × Nat), gBr t n first nt f i S = some x → i < x.2 ∧ x.2 ≤ n
 | 0, _, _, _, h => by simp [gBr] at h
 | f + 1, i, S, x, h => by
   rw [gBr] at h
   by_cases h1 : i < n
   · rw [if_pos h1] at h
     by_cases h2 : t i = 93 ∧ first < i
     · rw [if_pos h2] at h
       injection h with h
       subst h
       exact ⟨by simp, by simp; omega⟩
     · rw [if_neg h2] at h
       by_cases h3 : (gOne t n i).2.2 = true
       · rw [if_pos h3] at h
         have g := gOne_ok h3
         split at h
         · split at h
           · rename_i h5
             have g2 := gOne_ok h5
             have := gBr_le f _ _ _ h
             omega
           · cases h
         · have := gBr_le f _ _ _ h
           omega
       · rw [if_neg h3] at h
         cases h
   · rw [if_neg h1] at h
     cases h
theorem brAt_ge (t : Nat → Nat) (n i : Nat) : i ≤ brAt t n i := by unfold brAt; split <;> omega
theorem gBracket_le {t : Nat → Nat} {n i : Nat} {x : (Nat → Bool) × Nat} (h : gBracket t n i = some x) : i < x.2 ∧ x.2 ≤ n := by
 have := gBr_le _ _ _ _ h
 have := brAt_ge t n i
 omega
theorem gi_one' (x : GI) : ∀ u ∈ x.cells, u.oneCell' = true := by
 intro u hu
 simp only [GI.cells, giAgg, List.mem_cons, List.not_mem_nil, or_false] at hu
 rcases hu with rfl | rfl | rfl | rfl | rfl | rfl | rfl | rfl <;> rfl
theorem giCells_snoc (l : List GI) (x : GI) : giCells (l ++ [x]) = giCells l ++ x.cells := by simp [giCells]
def scan (f : Nat → Bool) : Nat → Bool
 | 0 => f 0
 | i + 1 => f (i + 1) || scan f i
def E (st : Nat → Bool) (hs : Nat → Nat → Bool) (t : Nat → Nat) : Nat → Nat → Bool
 | 0, i => i == 0
 | k + 1, i => if st k then scan (E st hs t k) i else match i with
   | 0 => false
   | i + 1 => E st hs t k i && hs k (t i)
def Av (st : Nat → Bool) (hs : Nat → Nat → Bool) (t : Nat → Nat) (n k i : Nat) : Bool := if (decide (k < n) && st k) = true then E st hs t (k + 1) i else E st hs t k i
def Bv (st : Nat → Bool) (hs : Nat → Nat → Bool) (t : Nat → Nat) (n k : Nat) : Nat → Bool
 | 0 => decide (k = 0)
 | i + 1 => if k = 0 then Av st hs t n 0 i && (decide (0 < n) && st 0) else (Av st hs t n (k - 1) i && (!st (k - 1)) && hs (k - 1) (t i)) || (decide (k < n) && st k && Av st hs t n k i)
section
variable {st : Nat → Bool} {hs : Nat → Nat → Bool} {t : Nat → Nat}
theorem E00 : E st hs t 0 0 = true := rfl
theorem E0s (i : Nat) : E st hs t 0 (i + 1) = false := rfl
theorem Es0 (k : Nat) : E st hs t (k + 1) 0 = (st k && E st hs t k 0) := by
 rw [E]
 cases st k <;> simp [scan]
theorem Ess (k i : Nat) : E st hs t (k + 1) (i + 1) = (if st k then E st hs t k (i + 1) || E st hs t (k + 1) i else E st hs t k i && hs k (t i)) := by
 rw [E]
 cases h : st k with
 | true =>
   have e : E st hs t (k + 1) i = scan (E st hs t k) i := by
     show (if st k = true then scan (E st hs t k) i else _) = _
     rw [if_pos h]
   rw [e]; simp [scan]
 | false => simp
theorem Av_top (n i : Nat) : Av st hs t n n i = E st hs t n i := by simp [Av]
theorem Av_zero (n i : Nat) : Av st hs t n 0 i = Bv st hs t n 0 i := by
 cases i with
 | zero =>
   simp only [Bv, decide_true, Av]
   split
   · rename_i h
     simp only [Bool.and_eq_true, decide_eq_true_eq] at h
     rw [Es0, E00, h.2]; rfl
   · exact E00
 | succ i =>
   simp only [Bv, if_true, Av]
   by_cases h : (decide (0 < n) && st 0) = true
   · rw [if_pos h, if_pos h, Ess, E0s, h]
     have : st 0 = true := by simp at h; exact h.2
     simp [this]
   · rw [if_neg h, E0s]
     have : (decide (0 < n) && st 0) = false := by simpa using h
     simp [this]
theorem Av_succ (n k i : Nat) (hk : k < n) : Av st hs t n (k + 1) i = (Bv st hs t n (k + 1) i || (st k && Av st hs t n k i)) := by
 have hA : ∀ i, st k = true → Av st hs t n k i = E st hs t (k + 1) i := fun i h => by simp [Av, hk, h]
 have hN : ∀ i, st k = false → Av st hs t n k i = E st hs t k i := fun i h => by simp [Av, h]
 cases i with
 | zero =>
   have hb : Bv st hs t n (k + 1) 0 = false := by simp [Bv]
   rw [hb, Bool.false_or]
   have e : Av st hs t n (k + 1) 0 = E st hs t (k + 1) 0 := by
     unfold Av
     split
     · rename_i h
       simp only [Bool.and_eq_true, decide_eq_true_eq] at h
       rw [Es0 (k + 1), h.2, Bool.true_and]
     · rfl
   rw [e]
   cases h : st k with
   | true => rw [hA 0 h]; rfl
   | false => rw [Es0, h]; rfl
 | succ i =>
   simp only [Bv, Nat.add_sub_cancel]
   rw [if_neg (by omega)]
   have key : E st hs t (k + 1) (i + 1) = ((Av st hs t n k i && (!st k) && hs k (t i)) || (st k && Av st hs t n k (i + 1))) := by
     cases h : st k with
     | true =>
       have : Av st hs t n k (i + 1) = E st hs t (k + 1) (i + 1) := by simp [Av, hk, h]
       rw [this]; simp
     | false =>
       rw [Ess, h, hN i h]; simp
   by_cases h2 : (decide (k + 1 < n) && st (k + 1)) = true
   · have h3 := h2
     simp only [Bool.and_eq_true, decide_eq_true_eq] at h3
     have e1 : Av st hs t n (k + 1) (i + 1) = (E st hs t (k + 1) (i + 1) || E st hs t (k + 1 + 1) i) := by
       unfold Av; rw [if_pos h2, Ess (k + 1), h3.2]; rfl
     have e2 : Av st hs t n (k + 1) i = E st hs t (k + 1 + 1) i := by unfold Av; rw [if_pos h2]
     rw [e1, e2, h2, key]
     simp [Bool.or_assoc, Bool.or_comm, Bool.or_left_comm]
   · have e1 : Av st hs t n (k + 1) (i + 1) = E st hs t (k + 1) (i + 1) := by unfold Av; rw [if_neg h2]
     have e3 : (decide (k + 1 < n) && st (k + 1)) = false := by simpa using h2
     rw [e1, e3, key]
     simp
end
theorem gIt_len (t : Nat → Nat) (n : Nat) : ∀ f i, (gIt t n f i).length ≤ n - i
 | 0, i => by simp [gIt]
 | f + 1, i => by
   rw [gIt]
   by_cases h : i < n
   · rw [if_pos h]
     have h1 := gIt_len t n f (i + 1)
     have h2 := gIt_len t n f (i + 2)
     split
     · simp only [List.length_cons]; omega
     · split
       · simp only [List.length_cons]; omega
       · split
         · split
           · simp only [List.length_cons]; omega
           · simp only [List.length_cons]; omega
         · split
           · split
             · rename_i x hx
               have h3 := gIt_len t n f x.2
               have h4 := gBracket_le hx
               simp only [List.length_cons]; omega
             · simp only [List.length_cons]; omega
           · simp only [List.length_cons]; omega
   · rw [if_neg h]; simp
theorem gItems_len (t : Nat → Nat) (n : Nat) : (gItems t n).length ≤ n := by
 have := gIt_len t n (n + 1) 0
 unfold gItems
 omega
theorem giCells_get : ∀ (l : List GI) (k : Nat) (x : GI), l[k]? = some x → ∀ j u, x.cells[j]? = some u → (giCells l)[k * 8 + j]? = some u
 | [], k, x, h, _, _, _ => by simp at h
 | y :: l, k, x, h, j, u, hu => by
   have hj : j < 8 := by
     have := (List.getElem?_eq_some_iff.1 hu).1
     simpa [GI.cells, giAgg] using this
   have hy : y.cells.length = 8 := by simp [GI.cells, giAgg]
   have e : giCells (y :: l) = y.cells ++ giCells l := by simp [giCells]
   rw [e]
   cases k with
   | zero =>
     simp at h
     subst h
     rw [List.getElem?_append_left (by omega)]
     simpa using hu
   | succ k =>
     rw [List.getElem?_append_right (by omega), hy, show (k + 1) * 8 + j - 8 = k * 8 + j from by omega]
     exact giCells_get l k x (by simpa using h) j u hu
def rOne (t : Nat → Nat) (n i : Nat) : Nat × Nat := if t i = 92 ∧ i + 1 < n then (t (i + 1), 2) else (t i, 1)
theorem rOne_le {t : Nat → Nat} {n i : Nat} (h : i < n) : 1 ≤ (rOne t n i).2 ∧ (rOne t n i).2 ≤ 2 ∧ i + (rOne t n i).2 ≤ n := by
 unfold rOne; split <;> simp <;> omega
def rSet (t : Nat → Nat) (n : Nat) : Nat → Bool → Nat → List Nat → List Nat → List Nat × List Nat × Nat
 | 0, _, i, lo, hi => (lo, hi, i)
 | f + 1, first, i, lo, hi =>
   if i < n ∧ (first = true ∨ t i ≠ 93) then
     if i + (rOne t n i).2 + 1 < n ∧ t (i + (rOne t n i).2) = 45 ∧ t (i + (rOne t n i).2 + 1) ≠ 93 then
       rSet t n f false (i + (rOne t n i).2 + 1 + (rOne t n (i + (rOne t n i).2 + 1)).2) (lo ++ [(rOne t n i).1]) (hi ++ [(rOne t n (i + (rOne t n i).2 + 1)).1])
     else rSet t n f false (i + (rOne t n i).2) (lo ++ [(rOne t n i).1]) (hi ++ [(rOne t n i).1])
   else (lo, hi, i)
structure RI where
 kind : Nat
 c : Nat
 nt : Bool
 lo : List Nat
 hi : List Nat
def rSetOf (t : Nat → Nat) (n i : Nat) : List Nat × List Nat × Nat := rSet t n (n + 1 - brAt t n i) true (brAt t n i) [] []
def inR (lo hi : List Nat) (c : Nat) : Bool := (lo.zip hi).any fun x => decide (x.1 ≤ c) && decide (c ≤ x.2)
def RI.is (x : RI) (c : Nat) : Bool := if x.kind = 0 then x.c == c else if x.kind = 2 then true else (inR x.lo x.hi c != x.nt)
def rStar : RI := ⟨1, 0, false, [], []⟩
def rAny : RI := ⟨2, 0, false, [], []⟩
def rByte (c : Nat) : RI := ⟨0, c, false, [], []⟩
def rIt (t : Nat → Nat) (n : Nat) : Nat → Nat → List RI
 | 0, _ => []
 | f + 1, i =>
   if i < n then
     if t i = 42 then rStar :: rIt t n f (i + 1)
     else if t i = 63 then rAny :: rIt t n f (i + 1)
     else if t i = 91 ∧ (rSetOf t n (i + 1)).2.2 < n then ⟨3, 0, brNt t n (i + 1), (rSetOf t n (i + 1)).1, (rSetOf t n (i + 1)).2.1⟩ :: rIt t n f ((rSetOf t n (i + 1)).2.2 + 1)
     else rByte (rOne t n i).1 :: rIt t n f (i + (rOne t n i).2)
   else []
def rItems (t : Nat → Nat) (n : Nat) : List RI := rIt t n (n + 1) 0
theorem inR_snoc (lo hi : List Nat) (a b c : Nat) (h : lo.length = hi.length) : inR (lo ++ [a]) (hi ++ [b]) c = (inR lo hi c || (decide (a ≤ c) && decide (c ≤ b))) := by
 simp [inR, List.zip_append h]
theorem addS_inR (lo hi : List Nat) (a b : Nat) (h : lo.length = hi.length) : addS (inR lo hi) a (b + 1) = inR (lo ++ [a]) (hi ++ [b]) := by
 funext c
 rw [inR_snoc _ _ _ _ _ h]
 simp only [addS]
 have : decide (c < b + 1) = decide (c ≤ b) := by apply decide_eq_decide.2; omega
 rw [this]
theorem gOne_rOne {t : Nat → Nat} {n i : Nat} (h : i < n) :
   ((gOne t n i).2.2 = true ∧ gOne t n i = ((rOne t n i).1, i + (rOne t n i).2, true)) ∨ ((gOne t n i).2.2 = false ∧ i + (rOne t n i).2 = n) := by
 unfold gOne rOne
 by_cases h1 : t i = 92
 · by_cases h2 : i + 1 < n
   · left; simp [h, h1, h2]
   · right; simp [h, h1, h2]; omega
 · left; simp [h, h1]
theorem rSet_stop {t : Nat → Nat} {n f : Nat} {first : Bool} {i : Nat} {lo hi : List Nat} (h : n ≤ i) : rSet t n f first i lo hi = (lo, hi, i) := by
 cases f with
 | zero => rfl
 | succ f => rw [rSet, if_neg (by omega)]
theorem gBr_rSet {t : Nat → Nat} {n i0 : Nat} {nt : Bool} : ∀ (f i : Nat) (first : Bool) (lo hi : List Nat), lo.length = hi.length → n < f + i → i ≤ n → (first = true ↔ i = i0) → i0 ≤ i →
   gBr t n i0 nt f i (inR lo hi) = (if (rSet t n f first i lo hi).2.2 < n then
     some (if nt then fun c => !inR (rSet t n f first i lo hi).1 (rSet t n f first i lo hi).2.1 c else inR (rSet t n f first i lo hi).1 (rSet t n f first i lo hi).2.1, (rSet t n f first i lo hi).2.2 + 1) else none)
 | 0, i, _, _, _, _, hf, hi, _, _ => by omega
 | f + 1, i, first, lo, hi, hl, hf, hin, hfi, h0 => by
   by_cases h1 : i < n
   · by_cases h2 : t i = 93 ∧ i0 < i
     · have hff : ¬ first = true := fun h => by have := hfi.1 h; omega
       have hr : rSet t n (f + 1) first i lo hi = (lo, hi, i) := by
         rw [rSet, if_neg (by intro h; rcases h.2 with h3 | h3; exact hff h3; exact h3 h2.1)]
       rw [gBr, if_pos h1, if_pos h2, hr]
       simp only [if_pos h1]
     · have hc : i < n ∧ (first = true ∨ t i ≠ 93) := by
         refine ⟨h1, ?_⟩
         by_cases h3 : t i = 93
         · left; rw [hfi]; exact Nat.le_antisymm (Nat.le_of_not_lt fun h => h2 ⟨h3, h⟩) h0
         · right; exact h3
       rw [gBr, if_pos h1, if_neg h2, rSet, if_pos hc]
       have hr1 := rOne_le (t := t) h1
       rcases gOne_rOne (t := t) h1 with ⟨hok, he⟩ | ⟨hok, he⟩
       · rw [if_pos hok]
         have e1 : (gOne t n i).1 = (rOne t n i).1 := by rw [he]
         have e2 : (gOne t n i).2.1 = i + (rOne t n i).2 := by rw [he]
         rw [e1, e2]
         by_cases h4 : i + (rOne t n i).2 + 1 < n ∧ t (i + (rOne t n i).2) = 45 ∧ t (i + (rOne t n i).2 + 1) ≠ 93
         · rw [if_pos h4, if_pos h4]
           have hr2 := rOne_le (t := t) h4.1
           rcases gOne_rOne (t := t) h4.1 with ⟨hok2, he2⟩ | ⟨hok2, he2⟩
           · rw [if_pos hok2]
             have e3 : (gOne t n (i + (rOne t n i).2 + 1)).1 = (rOne t n (i + (rOne t n i).2 + 1)).1 := by rw [he2]
             have e4 : (gOne t n (i + (rOne t n i).2 + 1)).2.1 = i + (rOne t n i).2 + 1 + (rOne t n (i + (rOne t n i).2 + 1)).2 := by rw [he2]
             rw [e3, e4, addS_inR _ _ _ _ hl]
             exact gBr_rSet f _ false _ _ (by simp [hl]) (by omega) (by omega) ⟨fun h => (by cases h), fun h => by omega⟩ (by omega)
           · rw [if_neg (by rw [hok2]; simp), he2]
             rw [rSet_stop (Nat.le_refl _)]
             simp
         · rw [if_neg h4, if_neg h4, addS_inR _ _ _ _ hl]
           exact gBr_rSet f _ false _ _ (by simp [hl]) (by omega) (by omega) ⟨fun h => (by cases h), fun h => by omega⟩ (by omega)
       · rw [if_neg (by rw [hok]; simp)]
         have h4 : ¬ (i + (rOne t n i).2 + 1 < n ∧ t (i + (rOne t n i).2) = 45 ∧ t (i + (rOne t n i).2 + 1) ≠ 93) := by omega
         rw [if_neg h4, he, rSet_stop (Nat.le_refl _)]
         simp
   · rw [gBr, if_neg h1, rSet_stop (by omega)]
     simp [h1]
theorem rSet_ge {t : Nat → Nat} {n : Nat} : ∀ (f : Nat) (first : Bool) (i : Nat) (lo hi : List Nat), i ≤ (rSet t n f first i lo hi).2.2
 | 0, _, i, _, _ => Nat.le_refl _
 | f + 1, first, i, lo, hi => by
   rw [rSet]
   split
   · split
     · have := rSet_ge (t := t) (n := n) f false (i + (rOne t n i).2 + 1 + (rOne t n (i + (rOne t n i).2 + 1)).2) (lo ++ [(rOne t n i).1]) (hi ++ [(rOne t n (i + (rOne t n i).2 + 1)).1])
       omega
     · have := rSet_ge (t := t) (n := n) f false (i + (rOne t n i).2) (lo ++ [(rOne t n i).1]) (hi ++ [(rOne t n i).1])
       omega
   · exact Nat.le_refl _
theorem rSetOf_ge (t : Nat → Nat) (n i : Nat) : i ≤ (rSetOf t n i).2.2 := Nat.le_trans (brAt_ge t n i) (rSet_ge _ _ _ _ _)
end Qm.Glob
namespace Go.Proofs.YtmcophlmcloooaaGreatDoor
section
open Go.RowKit Go.Deep Qm.Glob
attribute [local go_sem] bt_eq
theorem one_any (s : ByteArray) (i : Nat) (w : World) (hs : s.size ≤ 1000) (h1 : i ≤ s.size) :
   Calls Tryz.prog 217 #[.string s, .int .i64 i] w fun e w' => e = .returned (.tuple #[.int .u8 (gOne (bt s) s.size i).1, .int .i64 (gOne (bt s) s.size i).2.1, .bool (gOne (bt s) s.size i).2.2]) ∧ w = w' := by
 go_enter Tryz.func217, Tryz.ntmps217
 go_wp2
 all_goals go_ret3
 all_goals refine ⟨?_, rfl⟩
 all_goals
   go_light
   simp only [beq_iff_eq, beq_eq_false_iff_ne, Array.getD_eq_getD_getElem?] at *
   simp [gOne, *]
 all_goals (repeat' split) <;> first | omega | (simp; done) | (simp; omega) | (exfalso; omega)
theorem has_any (g : Nat) (S : Nat → Bool) (c : Nat) (w : World) (hc : c < 256) (h : w.cell? ⟨g, 1 + c / 64, none⟩ = some (.int .u64 (wd S (c / 64)))) :
   Calls Tryz.prog 260 #[.pointer (some ⟨g, 1, none⟩), .int .u8 c] w fun e w' => e = .returned (.bool (S c)) ∧ w = w' := by
 have hl := wd_lt S (c / 64)
 go_enter Tryz.func260, Tryz.ntmps260
 go_wp2
 go_ret
 refine ⟨?_, rfl⟩
 have e := u64_bit (wd S (c / 64)) (c % 64) hl
 have e2 := wd_has S c
 go_light
 show Ending.returned (.bool _) = _
 rw [e, ← e2]
 generalize wd S (c / 64) / 2 ^ (c % 64) = x
 congr 2
 rw [Bool.eq_iff_iff]
 simp only [beq_iff_eq]
 omega
theorem add_any (g : Nat) (b0 : Bool) (S : Nat → Bool) (b1 : Bool) (c : Nat) (b2 : Bool) (lo hi : Nat) (w : World) (h1 : lo ≤ 255) (h2 : hi ≤ 255) (hr : w.rowIs g 160 8 (giCell b0 S b1 c b2)) :
   Calls Tryz.prog 161 #[.pointer (some ⟨g, 1, none⟩), .int .u8 lo, .int .u8 hi] w fun e w' => e = .returned (.tuple #[]) ∧ w'.rowIs g 160 8 (giCell b0 (addS S lo (hi + 1)) b1 c b2) ∧ w.grownBy w' (some g) := by
 have HR := hide hr
 clear hr
 go_enter Tryz.func161, Tryz.ntmps161
 go_wp2
 go_loopw [6] (fun i wr => ∃ k : Nat, i = .int .i64 k ∧ lo ≤ k ∧ (k = lo ∨ k ≤ hi + 1) ∧ wr.rowIs g 160 8 (giCell b0 (addS S lo k) b1 c b2) ∧ w.grownBy wr (some g)) (fun i _ => 256 - (intOf i).toNat)
 case atStart => exact ⟨lo, rfl, Nat.le_refl _, .inl rfl, by rw [addS_none _ _ _ (Nat.le_refl _)]; exact HR.out, World.grownBy.refl _ _⟩
 case round =>
   obtain ⟨k, rfl, hk, hk2, hc, hg⟩ := hrel
   have HK := hide hk2
   clear hk2
   by_cases hlt : k ≤ hi
   · have hcell := hc.cell (i := 1 + ((k : Int) / 64).toNat) (by omega)
     have hfr := hc.frozen (1 + ((k : Int) / 64).toNat)
     have H := hide hc
     have HG := hide hg
     clear hc hg
     have h40 : 0 ≤ (k : Int) / 64 := by omega
     have h41 : (k : Int) / 64 < 4 := by omega
     have hb := and63_i64 k (by omega)
     have hb2 : ((k % 64 : Nat) : Int) < 64 := by omega
     have hgc := giCell_word b0 (addS S lo k) b1 c b2 k (by omega)
     rw [hgc] at hcell
     clear hgc
     go_wp2
     go_still_tail 12, (by kernel_rfl)
     go_wp2
     go_roundw
     case rel =>
       have hl := wd_lt (addS S lo k) (k / 64)
       go_light
       rw [u64_or_pow _ _ hl (by omega), wd_step S lo k hk]
       refine ⟨k + 1, by go_num, by omega, by omega, ((H.out.set (1 + k / 64) _).drew).congr (fun j hj => ?_), gb_drew (gb_setCell HG.out _ _)⟩
       simp only [giCell]
       by_cases e : j = 1 + k / 64
       · subst e
         simp only [if_true]
         rw [if_neg (by omega), if_pos (by omega), show 1 + k / 64 - 1 = k / 64 from by omega]
       · rw [if_neg e]
         by_cases e0 : j = 0
         · simp [e0]
         · by_cases e5 : j < 5
           · rw [if_neg e0, if_pos e5, if_neg e0, if_pos e5, wd_other S lo k (j - 1) (by omega)]
           · rw [if_neg e0, if_neg e5, if_neg e0, if_neg e5]
     case measure => simp [intOf]; omega
   · have H := hide hc
     have HG := hide hg
     clear hc hg
     go_wp2
     go_end0
     refine ⟨rfl, H.out.congr (fun j _ => ?_), HG.out⟩
     rcases HK.out with e | e
     · rw [addS_none S lo (hi + 1) (by omega), addS_none S lo k (by omega)]
     · rw [show k = hi + 1 from by omega]
end
section
open Go.RowKit Go.Deep Qm.Glob
attribute [local go_sem] bt_eq
theorem wd_empty (j : Nat) : wd (fun _ => false) j = 0 := by
 apply Nat.eq_of_testBit_eq
 intro b
 rw [testBit_wd]
 simp
theorem gi_new (w : World) (b0 b1 b2 : Bool) (c : Nat) : (w.alloc (.cells #[.bool b0, .int .u64 0, .int .u64 0, .int .u64 0, .int .u64 0, .bool b1, .int .u8 c, .bool b2] 160)).rowIs w.heap.size 160 8 (giCell b0 (fun _ => false) b1 c b2) :=
 World.rowIs_alloc _ _ _ _ fun i hi => by
   have hi : i < 8 := hi
   have h : i = 0 ∨ i = 1 ∨ i = 2 ∨ i = 3 ∨ i = 4 ∨ i = 5 ∨ i = 6 ∨ i = 7 := by omega
   rcases h with rfl | rfl | rfl | rfl | rfl | rfl | rfl | rfl <;> simp [giCell, wd_empty]
theorem gi_cells {w : World} {g t : Nat} {b0 : Bool} {S : Nat → Bool} {b1 : Bool} {c : Nat} {b2 : Bool} (h : w.rowIs g t 8 (giCell b0 S b1 c b2)) :
   w.cell? ⟨g, 0, none⟩ = some (.bool b0) ∧ w.cell? ⟨g, 1, none⟩ = some (.int .u64 (wd S 0)) ∧ w.cell? ⟨g, 2, none⟩ = some (.int .u64 (wd S 1)) ∧ w.cell? ⟨g, 3, none⟩ = some (.int .u64 (wd S 2)) ∧
   w.cell? ⟨g, 4, none⟩ = some (.int .u64 (wd S 3)) ∧ w.cell? ⟨g, 5, none⟩ = some (.bool b1) ∧ w.cell? ⟨g, 6, none⟩ = some (.int .u8 c) ∧ w.cell? ⟨g, 7, none⟩ = some (.bool b2) :=
 ⟨h.cell (i := 0) (by omega), h.cell (i := 1) (by omega), h.cell (i := 2) (by omega), h.cell (i := 3) (by omega), h.cell (i := 4) (by omega), h.cell (i := 5) (by omega), h.cell (i := 6) (by omega), h.cell (i := 7) (by omega)⟩
def gi8 (w : World) (g : Nat) (b0 : Bool) (S : Nat → Bool) (b1 : Bool) (c : Nat) (b2 : Bool) : World :=
 (((((((w.setCell ⟨g, 0, none⟩ (.bool b0)).setCell ⟨g, 1, none⟩ (.int .u64 (wd S 0))).setCell ⟨g, 2, none⟩ (.int .u64 (wd S 1))).setCell ⟨g, 3, none⟩ (.int .u64 (wd S 2))).setCell ⟨g, 4, none⟩ (.int .u64 (wd S 3))).setCell ⟨g, 5, none⟩ (.bool b1)).setCell ⟨g, 6, none⟩ (.int .u8 c)).setCell ⟨g, 7, none⟩ (.bool b2)
theorem gi8_row {w : World} {g t : Nat} {f : Nat → Value} (h : w.rowIs g t 8 f) (b0 : Bool) (S : Nat → Bool) (b1 : Bool) (c : Nat) (b2 : Bool) : (gi8 w g b0 S b1 c b2).rowIs g t 8 (giCell b0 S b1 c b2) :=
 ((((((((h.set 0 _).set 1 _).set 2 _).set 3 _).set 4 _).set 5 _).set 6 _).set 7 _).congr fun i hi => by
   have h : i = 0 ∨ i = 1 ∨ i = 2 ∨ i = 3 ∨ i = 4 ∨ i = 5 ∨ i = 6 ∨ i = 7 := by omega
   rcases h with rfl | rfl | rfl | rfl | rfl | rfl | rfl | rfl <;> rfl
theorem gi8_below {B : Nat} {a w : World} {g : Nat} (h : Below B a w) (hg : B ≤ g) (b0 : Bool) (S : Nat → Bool) (b1 : Bool) (c : Nat) (b2 : Bool) : Below B a (gi8 w g b0 S b1 c b2) :=
 (((((((h.setCell (p := ⟨g, 0, none⟩) hg _).setCell (p := ⟨g, 1, none⟩) hg _).setCell (p := ⟨g, 2, none⟩) hg _).setCell (p := ⟨g, 3, none⟩) hg _).setCell (p := ⟨g, 4, none⟩) hg _).setCell (p := ⟨g, 5, none⟩) hg _).setCell (p := ⟨g, 6, none⟩) hg _).setCell (p := ⟨g, 7, none⟩) hg _
theorem single_any (c : Nat) (w : World) (hc : c < 256) :
   Calls Tryz.prog 163 #[.int .u8 c] w fun e w' => e = .returned (.agg (giAgg false (addS (fun _ => false) c (c + 1)) true c false)) ∧ Below w.heap.size w w' := by
 go_enter Tryz.func163, Tryz.ntmps163
 go_wp2_with fail
 have hn := gi_new (w.alloc (.cells #[.bool false, .int .u64 0, .int .u64 0, .int .u64 0, .int .u64 0, .bool false, .int .u8 (0 : Nat), .bool false] 160)) false true false c
 have hn0 := gi_new w false false false 0
 have hz : (w.alloc (.cells #[.bool false, .int .u64 0, .int .u64 0, .int .u64 0, .int .u64 0, .bool false, .int .u8 (0 : Nat), .bool false] 160)).heap.size = w.heap.size + 1 := by simp
 rw [hz] at hn
 clear hz
 have HN := hide hn
 have HN0 := hide hn0
 clear hn hn0
 refine (add_any (w.heap.size + 1) false (fun _ => false) true c false c c _ (by omega) (by omega) HN.out).mono ?_
 rintro e w1 ⟨rfl, hr, hg⟩
 have hr0 : w1.rowIs w.heap.size 160 8 (giCell false (fun _ => false) false 0 false) := (HN0.out.alloc _).of_block (hg.block w.heap.size (by simp; omega) (by simp))
 have hb : Below w.heap.size w w1 := (((Below.refl _ _).alloc (Nat.le_refl _) _).alloc (by simp) _).trans (below_of_gb hg (by simp; omega) (by omega))
 obtain ⟨c0, c1, c2, c3, c4, c5, c6, c7⟩ := gi_cells hr
 obtain ⟨d0, d1, d2, d3, d4, d5, d6, d7⟩ := gi_cells hr0
 have hf0 := hr0.frozen
 have HB := hide hb
 have HR := hide hr0
 clear hb hg HN HN0 hr hr0
 go_wp2
 have hfin := gi8_row HR.out false (addS (fun _ => false) c (c + 1)) true c false
 have hbel := gi8_below HB.out (Nat.le_refl _) false (addS (fun _ => false) c (c + 1)) true c false
 unfold gi8 at hfin hbel
 refine bodyPost_ret (v := .agg (giAgg false (addS (fun _ => false) c (c + 1)) true c false)) ?_ rfl ⟨rfl, hbel⟩
 clear c0 c1 c2 c3 c4 c5 c6 c7 d0 d1 d2 d3 d4 d5 d6 d7 HB HR hbel hf0
 obtain ⟨c0, c1, c2, c3, c4, c5, c6, c7⟩ := gi_cells hfin
 clear hfin
 generalize ((((((((w1.setCell ⟨w.heap.size, 0, none⟩ _).setCell _ _).setCell _ _).setCell _ _).setCell _ _).setCell _ _).setCell _ _).setCell _ _) = W9 at c0 c1 c2 c3 c4 c5 c6 c7 ⊢
 simp only [results, Tryz.results163, giAgg]
 go_simp
end
section
open Go.RowKit Go.Deep Qm.Glob
attribute [local go_sem] bt_eq
def brVal : Option ((Nat → Bool) × Nat) → Value
 | some x => .tuple #[.agg (giAgg false x.1 false 0 true), .int .i64 x.2, .bool true]
 | none => .tuple #[.agg (giAgg false (fun _ => false) false 0 false), .int .i64 (0 : Nat), .bool false]
theorem ret_bracket {a : Act} {W : World} {g : Nat} {b0 : Bool} {S : Nat → Bool} {b1 : Bool} {c : Nat} {b2 : Bool} (v5 v6 : Value) (hr : W.rowIs g 160 8 (giCell b0 S b1 c b2))
   (h4 : a.tmps.getD 4 undef = .pointer (some ⟨g, 0, none⟩)) (h5 : a.tmps.getD 5 undef = v5) (h6 : a.tmps.getD 6 undef = v6) :
   (results Tryz.f162 a.tmps).run Tryz.prog W = .ok (.tuple #[.agg (giAgg b0 S b1 c b2), v5, v6]) W := by
 obtain ⟨c0, c1, c2, c3, c4, c5, c6, c7⟩ := gi_cells hr
 simp only [results, Tryz.results162, giAgg]
 simp only [Array.getD_eq_getD_getElem?] at h4 h5 h6
 simp [go_sem, h4, h5, h6, c0, c1, c2, c3, c4, c5, c6, c7]
theorem bracket_any (s : ByteArray) (i : Nat) (w : World) (hs : s.size ≤ 1000) (hi : i ≤ s.size) :
   Calls Tryz.prog 162 #[.string s, .int .i64 i] w fun e w' => e = .returned (brVal (gBracket (bt s) s.size i)) ∧ Below w.heap.size w w' := by
 go_enter Tryz.func162, Tryz.ntmps162
 have hn := gi_new (w.alloc (.cells #[.bool false, .int .u64 0, .int .u64 0, .int .u64 0, .int .u64 0, .bool false, .int .u8 (0 : Nat), .bool false] 160)) false false true 0
 have hn0 := (gi_new w false false false 0).alloc (.cells #[.bool false, .int .u64 0, .int .u64 0, .int .u64 0, .int .u64 0, .bool false, .int .u8 (0 : Nat), .bool true] 160)
 rw [show (w.alloc (.cells #[.bool false, .int .u64 0, .int .u64 0, .int .u64 0, .int .u64 0, .bool false, .int .u8 (0 : Nat), .bool false] 160)).heap.size = w.heap.size + 1 from by simp] at hn
 have HN := hide hn
 have HN0 := hide hn0
 clear hn hn0
 go_upto_region 2 with (fail)
 go_cut [8] from 16 to 25 (fun s8 wx => s8 = .bool (brNt (bt s) s.size i) ∧ wx.rowIs w.heap.size 160 8 (giCell false (fun _ => false) false 0 false) ∧ wx.rowIs (w.heap.size + 1) 160 8 (giCell false (fun _ => false) false 0 true) ∧ Below w.heap.size w wx)
 case first =>
   go_wp2
   all_goals go_meet
   all_goals refine ⟨?_, HN0.out, HN.out, ((Below.refl _ _).alloc (Nat.le_refl _) _).alloc (by simp) _⟩
   all_goals
     go_light
     clear HN0 HN
     simp only [brNt]
   · rename_i h
     simp only [h, decide_true, Bool.true_and]
     congr 1
     rw [Bool.eq_iff_iff]
     simp only [beq_iff_eq]
     omega
   · have h : (decide (i < s.size)) = false := by simp; omega
     simp [h]
 case rest =>
   obtain ⟨rfl, hr0, hr1, hb⟩ := hcut
   have HR0 := hide hr0
   have HR1 := hide hr1
   have HB := hide hb
   clear hr0 hr1 hb HN HN0
   go_upto_if 26 with (fail)
   go_cut [1] from 27 to 28 (fun s1 wx => s1 = .int .i64 (brAt (bt s) s.size i) ∧ wc = wx)
   case first =>
     go_wp2
     all_goals go_meet
     all_goals refine ⟨?_, rfl⟩
     all_goals
       go_light
       rename_i h
       simp only [brAt, h]
     all_goals simp
   case rest =>
     obtain ⟨rfl, hw⟩ := hcut
     have hle : brAt (bt s) s.size i ≤ s.size := by unfold brAt brNt; split <;> simp_all <;> omega
     have hR : gBr (bt s) s.size (brAt (bt s) s.size i) (brNt (bt s) s.size i) (s.size + 1 - brAt (bt s) s.size i) (brAt (bt s) s.size i) (fun _ => false) = gBracket (bt s) s.size i := rfl
     subst hw
     have HR := hide hR
     clear hR
     generalize brAt (bt s) s.size i = i0 at HR hle ⊢
     generalize brNt (bt s) s.size i = nt at HR ⊢
     go_wp2
     go_loopw [1] (fun v1 wr => ∃ (k f : Nat) (S : Nat → Bool), v1 = .int .i64 k ∧ k ≤ s.size ∧ s.size < f + k ∧ gBr (bt s) s.size i0 nt f k S = gBracket (bt s) s.size i ∧ wr.rowIs w.heap.size 160 8 (giCell false (fun _ => false) false 0 false) ∧
         wr.rowIs (w.heap.size + 1) 160 8 (giCell false S false 0 true) ∧ Below w.heap.size w wr) (fun v1 _ => s.size - (intOf v1).toNat)
     case atStart => exact ⟨i0, _, _, rfl, hle, by omega, HR.out, HR0.out, HR1.out, HB.out⟩
     case round =>
       obtain ⟨k, f, S, rfl, hk, hf, hR, hr0, hr1, hb⟩ := hrel
       clear HR HR0 HR1 HB
       have HR := hide hR
       have HR0 := hide hr0
       have HR1 := hide hr1
       have HB := hide hb
       clear hR hr0 hr1 hb
       by_cases hlt : k < s.size
       · obtain ⟨f, rfl⟩ : ∃ f', f = f' + 1 := ⟨f - 1, by omega⟩
         by_cases h93 : bt s k = 93 ∧ i0 < k
         · have h1 : (((bt s k : Nat) : Int) == 93) = true := by simp only [beq_iff_eq]; omega
           have h2 := h93.2
           have HRn := hide (show gBracket (bt s) s.size i = some (if nt then fun c => !S c else S, k + 1) by rw [← HR.out, gBr, if_pos hlt, if_pos ⟨h93.1, h2⟩])
           clear HR h93
           cases nt with
           | false =>
             obtain ⟨c0, c1, c2, c3, c4, c5, c6, c7⟩ := gi_cells HR0.out
             obtain ⟨d0, d1, d2, d3, d4, d5, d6, d7⟩ := gi_cells HR1.out
             have hf0 := HR0.out.frozen
             go_wp2
             have hfin := gi8_row HR0.out false S false 0 true
             have hbel := gi8_below HB.out (Nat.le_refl _) false S false 0 true
             unfold gi8 at hfin hbel
             exact bodyPost_ret (ret_bracket _ _ hfin rfl rfl rfl) rfl ⟨by rw [HRn.out]; rfl, hbel⟩
           | true =>
             go_wp2
             go_loopw [44] (fun v44 wx => ∃ j : Nat, v44 = .int .i64 j ∧ j ≤ 4 ∧ wx.rowIs w.heap.size 160 8 (giCell false (fun _ => false) false 0 false) ∧
                 wx.rowIs (w.heap.size + 1) 160 8 (fun q => if 1 ≤ q ∧ q ≤ j then .int .u64 (wd (fun c => !S c) (q - 1)) else giCell false S false 0 true q) ∧ Below w.heap.size w wx) (fun v44 _ => 4 - (intOf v44).toNat)
             case atStart => exact ⟨0, rfl, by omega, HR0.out, HR1.out.congr (fun q _ => by rw [if_neg (by omega)]), HB.out⟩
             case round =>
               clear HR0 HR1 HB
               obtain ⟨j, rfl, hj, hr0, hr1, hb⟩ := hrel
               have HR0 := hide hr0
               have HR1 := hide hr1
               have HB := hide hb
               clear hr0 hr1 hb
               by_cases hj4 : j < 4
               · have hcell := HR1.out.cell (i := 1 + j) (by omega)
                 have hfr := HR1.out.frozen (1 + j)
                 rw [if_neg (by omega), giCell_word' false S false 0 true j hj4] at hcell
                 go_wp2
                 go_roundw
                 case rel =>
                   rw [u64_not _ (wd_lt S j), wd_not]
                   refine ⟨j + 1, by go_num, by omega, HR0.out.setOther (by simp) _, (HR1.out.set (1 + j) _).congr (fun q hq => ?_), HB.out.setCell (by simp) _⟩
                   by_cases e : q = 1 + j
                   · subst e
                     rw [if_pos rfl, if_pos (by omega), show 1 + j - 1 = j from by omega]
                   · rw [if_neg e]
                     by_cases e2 : 1 ≤ q ∧ q ≤ j
                     · rw [if_pos e2, if_pos (by omega)]
                     · rw [if_neg e2, if_neg (by omega)]
                 case measure => simp [intOf]; omega
               · obtain rfl : j = 4 := by omega
                 obtain ⟨c0, c1, c2, c3, c4, c5, c6, c7⟩ := gi_cells HR0.out
                 have hr1' := HR1.out.congr (g := giCell false (fun c => !S c) false 0 true) (fun q hq => by
                   have h : q = 0 ∨ q = 1 ∨ q = 2 ∨ q = 3 ∨ q = 4 ∨ q = 5 ∨ q = 6 ∨ q = 7 := by omega
                   rcases h with rfl | rfl | rfl | rfl | rfl | rfl | rfl | rfl <;> rfl)
                 obtain ⟨d0, d1, d2, d3, d4, d5, d6, d7⟩ := gi_cells hr1'
                 have hf0 := HR0.out.frozen
                 clear hr1'
                 go_wp2
                 have hfin := gi8_row HR0.out false (fun c => !S c) false 0 true
                 have hbel := gi8_below HB.out (Nat.le_refl _) false (fun c => !S c) false 0 true
                 unfold gi8 at hfin hbel
                 exact bodyPost_ret (ret_bracket _ _ hfin rfl rfl rfl) rfl ⟨by rw [HRn.out]; rfl, hbel⟩
         · --{C
           go_upto_region 7 with (fail)
           go_cut [42] from 34 to 42 (fun s42 wx => s42 = .bool false ∧ wr = wx)
           case first =>
             by_cases h1 : bt s k = 93
             · have h2 : ¬ i0 < k := fun h => h93 ⟨h1, h⟩
               have h3 : (((bt s k : Nat) : Int) == 93) = true := by simp only [beq_iff_eq]; omega
               clear h93 h1
               go_wp2
               go_meet
               exact ⟨rfl, rfl⟩
             · have h3 : (((bt s k : Nat) : Int) == 93) = false := by simp only [beq_eq_false_iff_ne]; omega
               clear h93 h1
               go_wp2
               go_meet
               exact ⟨rfl, rfl⟩
           case rest =>
             obtain ⟨rfl, hw⟩ := hcut
             subst hw
             go_wp2_with fail
             refine (one_any s k _ hs (by omega)).mono ?_
             rintro e w1 ⟨rfl, rfl⟩
             have hklt := gOne_ok (t := bt s) (n := s.size) (i := k)
             by_cases hok : (gOne (bt s) s.size k).2.2 = true
             · --{D
               have hokl := hklt hok
               have hok1 : (gOne (bt s) s.size k).2.2 = true := hok
               generalize hk1 : (gOne (bt s) s.size k).2.1 = k1 at hokl ⊢
               generalize ha : (gOne (bt s) s.size k).1 = av at ⊢
               have hav : av < 256 := by rw [← ha]; exact gOne_lt (bt_lt s)
               have HK1 := hide hk1
               have HA := hide ha
               clear hk1 ha hklt hok
               obtain ⟨hkk, hkn⟩ := hokl
               by_cases hrg : k1 + 1 < s.size ∧ bt s k1 = 45 ∧ bt s (k1 + 1) ≠ 93
               · --{E
                 obtain ⟨g1, g2, g3⟩ := hrg
                 have HG := hide (show k1 + 1 < s.size ∧ bt s k1 = 45 ∧ bt s (k1 + 1) ≠ 93 from ⟨g1, g2, g3⟩)
                 have g4 : (((bt s k1 : Nat) : Int) == 45) = true := by simp only [beq_iff_eq]; omega
                 have g5 : (((bt s (k1 + 1) : Nat) : Int) != 93) = true := by simp only [bne_iff_ne]; omega
                 clear g2 g3
                 go_wp2_with fail
                 refine (one_any s (k1 + 1) _ hs (by omega)).mono ?_
                 rintro e w1 ⟨rfl, rfl⟩
                 have hklt := gOne_ok (t := bt s) (n := s.size) (i := k1 + 1)
                 have hav2 : (gOne (bt s) s.size (k1 + 1)).1 < 256 := gOne_lt (bt_lt s)
                 by_cases hok : (gOne (bt s) s.size (k1 + 1)).2.2 = true
                 · have hokl := hklt hok
                   have hok2 : (gOne (bt s) s.size (k1 + 1)).2.2 = true := hok
                   generalize hk2 : (gOne (bt s) s.size (k1 + 1)).2.1 = k2 at hokl ⊢
                   generalize hb2 : (gOne (bt s) s.size (k1 + 1)).1 = bv at hav2 ⊢
                   have HK2 := hide hk2
                   have HB2 := hide hb2
                   clear hk2 hb2 hklt hok
                   obtain ⟨hkk2, hkn2⟩ := hokl
                   go_wp2_with fail
                   refine (add_any (w.heap.size + 1) false S false 0 true av bv _ (by omega) (by omega) HR1.out).mono ?_
                   rintro e w1 ⟨rfl, hr1, hg⟩
                   have hr0 := HR0.out.of_block (hg.block w.heap.size HR0.out.lt (by simp))
                   have hb := HB.out.trans (below_of_gb hg (Nat.le_of_lt HR0.out.lt) (by omega))
                   have HR1 := hide hr1
                   have HR0 := hide hr0
                   have HB := hide hb
                   clear hr0 hr1 hg hb
                   go_wp2
                   go_roundw
                   case rel =>
                     refine ⟨k2, f, _, rfl, hkn2, by omega, ?_, HR0.out, HR1.out, HB.out⟩
                     rw [← HR.out, gBr, if_pos hlt, if_neg h93, if_pos hok1, HK1.out, HA.out, if_pos HG.out, if_pos hok2, HK2.out, HB2.out]
                   case measure => simp [intOf]; omega
                 · have hok' : (gOne (bt s) s.size (k1 + 1)).2.2 = false := by simpa using hok
                   have HRn := hide (show gBracket (bt s) s.size i = none by rw [← HR.out, gBr, if_pos hlt, if_neg h93, if_pos hok1, HK1.out, if_pos HG.out, if_neg hok])
                   clear HR h93 hok hklt
                   obtain ⟨c0, c1, c2, c3, c4, c5, c6, c7⟩ := gi_cells HR0.out
                   have hf0 := HR0.out.frozen
                   go_wp2
                   have hfin := gi8_row HR0.out false (fun _ => false) false 0 false
                   have hbel := gi8_below HB.out (Nat.le_refl _) false (fun _ => false) false 0 false
                   unfold gi8 at hfin hbel
                   simp only [wd_empty] at hfin hbel
                   exact bodyPost_ret (ret_bracket _ _ hfin rfl rfl rfl) rfl ⟨by rw [HRn.out]; rfl, hbel⟩
               · --{F
                 go_upto_region 19 with (fail)
                 go_cut [87] from 70 to 87 (fun s87 wx => s87 = .bool false ∧ wr = wx)
                 case first =>
                   by_cases g1 : k1 + 1 < s.size
                   · by_cases g2 : bt s k1 = 45
                     · have g3 : bt s (k1 + 1) = 93 := by
                         rcases Nat.decEq (bt s (k1 + 1)) 93 with e | e
                         · exact absurd ⟨g1, g2, e⟩ hrg
                         · exact e
                       have g4 : (((bt s k1 : Nat) : Int) == 45) = true := by simp only [beq_iff_eq]; omega
                       have g5 : (((bt s (k1 + 1) : Nat) : Int) != 93) = false := by simp only [bne_eq_false_iff_eq]; omega
                       clear hrg g2 g3
                       go_wp2
                       go_meet
                       exact ⟨rfl, rfl⟩
                     · have g4 : (((bt s k1 : Nat) : Int) == 45) = false := by simp only [beq_eq_false_iff_ne]; omega
                       clear hrg g2
                       go_wp2
                       go_meet
                       exact ⟨rfl, rfl⟩
                   · clear hrg
                     go_wp2
                     go_meet
                     exact ⟨rfl, rfl⟩
                 case rest =>
                   obtain ⟨rfl, hw⟩ := hcut
                   subst hw
                   have HG := hide hrg
                   clear hrg
                   go_wp2_with fail
                   refine (add_any (w.heap.size + 1) false S false 0 true av av _ (by omega) (by omega) HR1.out).mono ?_
                   rintro e w1 ⟨rfl, hr1, hg⟩
                   have hr0 := HR0.out.of_block (hg.block w.heap.size HR0.out.lt (by simp))
                   have hb := HB.out.trans (below_of_gb hg (Nat.le_of_lt HR0.out.lt) (by omega))
                   have HR1 := hide hr1
                   have HR0 := hide hr0
                   have HB := hide hb
                   clear hr0 hr1 hg hb
                   go_wp2
                   go_roundw
                   case rel =>
                     refine ⟨k1, f, _, rfl, hkn, by omega, ?_, HR0.out, HR1.out, HB.out⟩
                     rw [← HR.out, gBr, if_pos hlt, if_neg h93, if_pos hok1, HK1.out, HA.out, if_neg HG.out]
                   case measure => simp [intOf]; omega
             · --{G
               have hok' : (gOne (bt s) s.size k).2.2 = false := by simpa using hok
               have HRn := hide (show gBracket (bt s) s.size i = none by rw [← HR.out, gBr, if_pos hlt, if_neg h93, if_neg hok])
               clear HR h93 hok hklt
               obtain ⟨c0, c1, c2, c3, c4, c5, c6, c7⟩ := gi_cells HR0.out
               have hf0 := HR0.out.frozen
               go_wp2
               have hfin := gi8_row HR0.out false (fun _ => false) false 0 false
               have hbel := gi8_below HB.out (Nat.le_refl _) false (fun _ => false) false 0 false
               unfold gi8 at hfin hbel
               simp only [wd_empty] at hfin hbel
               exact bodyPost_ret (ret_bracket _ _ hfin rfl rfl rfl) rfl ⟨by rw [HRn.out]; rfl, hbel⟩
       · obtain ⟨c0, c1, c2, c3, c4, c5, c6, c7⟩ := gi_cells HR0.out
         have hf0 := HR0.out.frozen
         have HRn := hide (show gBracket (bt s) s.size i = none by rw [← HR.out]; cases f <;> simp [gBr, hlt])
         clear HR HR1
         go_wp2
         have hfin := gi8_row HR0.out false (fun _ => false) false 0 false
         have hbel := gi8_below HB.out (Nat.le_refl _) false (fun _ => false) false 0 false
         unfold gi8 at hfin hbel
         simp only [wd_empty] at hfin hbel
         exact bodyPost_ret (ret_bracket _ _ hfin rfl rfl rfl) rfl ⟨by rw [HRn.out]; rfl, hbel⟩
end
end Go.Proofs.YtmcophlmcloooaaGreatDoor
