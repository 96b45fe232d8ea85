/- Walks and plain facts that the claim uses. -/
import Derived.Test.YtpheeheikigenaaGreatDoorProg
import Derived.WalkKit
import Derived.WalkSpells
import Derived.WalkLawsBesides
import Derived.Handy
import Derived.BigQuiet
import Derived.Deep.QuietTactic
import Derived.Deep.OwnRows
import Derived.StillTailTactics
import Derived.Lib.Hide
import Derived.Deep.Light
import Derived.Deep.DeepCutAuto
import Derived.Deep.CutRange
import Derived.Deep.LoopGhost
import Derived.Deep.DeepFit
import Derived.Maps.AppendAt
import Derived.Deep.AppendLies
import Derived.ShutString
import Derived.Maps.Views
import Derived.Sort.Walk0
import Derived.StringKeys
import Derived.Sort.KeysCollected
import Derived.Lib.SlicesS
import Derived.Lib.SplitLaws
import Derived.Lib.Strings
import Derived.Lib.Bytealg
import Derived.Lib.IndexMore
import Derived.Lib.SlTrimSet
import Derived.ProofKit
import Derived.Below
import Derived.Shelf.Strings.SlTrimAscii
import Derived.Shelf.Strings.Builder1
import Derived.Shelf.Strings.Builder2
import Derived.Shelf.Strings.OnBuilder
import Derived.Shelf.Strings.Trim
import Derived.Shelf.Small.Utf8
import Derived.Shelf.Small.Bits
import Derived.Shelf.Small.Strs
import Derived.Shelf.Small.Wraps
import Derived.Shelf.Strings.BuilderF
import Derived.Shelf.Strings.BuilderK
import Derived.Shelf.Strings.Builder2Cap
import Derived.Shelf.Strconv.Itoa0
import Derived.Shelf.Strings.Search1
import Derived.Shelf.Strings.Search2
import Derived.Shelf.Strings.Search3
import Derived.Shelf.Strings.Cut
import Derived.Shelf.Strings.Count
import Derived.Shelf.LaysM
import Derived.Shelf.Strings.Shaped
import Derived.Shelf.Sort.Plain
import Derived.Shelf.Strings.Prefix
import Derived.Shelf.Strings.Split
import Derived.Shelf.Strings.Replace
import Derived.Shelf.Strings.SplitShaped
import Derived.Shelf.Strings.Runes
import Derived.Shelf.Strings.IndexAny
import Derived.Shelf.Strings.AsciiSet
import Derived.Shelf.Strings.IndexAnyAll
import Derived.Shelf.Unicode.DecodeSlow
import Derived.Shelf.Strings.FieldsFuncAny
import Derived.Shelf.Strings.BuilderCap
import Derived.Shelf.Slices.Turned
import Derived.Shelf.Slices.Equal
import Derived.Ground.Names2Prog
import Derived.Shelf.Slices.Clone
import Derived.Shelf.Slices.CompactS
import Derived.Shelf.Slices.Cells
import Derived.Shelf.Slices.In.SortNone
import Derived.Shelf.Slices.Empties2
import Derived.Ground.SlbCloneProg
import Derived.Shelf.Bytes.SlClone
import Derived.Ground.SlgfProg
import Derived.Shelf.SlicesE.IndexFunc
import Derived.Lib.FieldsP
import Derived.Lib.TrimUEq
import Derived.Lib.SpaceUEq
import Derived.Lib.MapLaws
import Derived.Lib.RuneCount
import Derived.Maps.OwnSet
import Derived.Maps.StringElems
import Derived.Ground.SlsfProg
import Derived.Shelf.SlSortCmp.NoneTotal
import Derived.Shelf.Spec.SlicesGrow
import Derived.Ground.Names8Prog
import Derived.Sort.Grow
set_option maxRecDepth 100000
set_option maxHeartbeats 16000000
set_option linter.unusedSimpArgs false
set_option linter.unusedVariables false
namespace Go.Proofs.YtpheeheikigenaaGreatDoor
theorem gE {α : Type} {l : List α} {i : Nat} (h : i < l.length) : l[i]? = some l[i] := List.getElem?_eq_getElem h
end Go.Proofs.YtpheeheikigenaaGreatDoor
namespace Go.Proofs.YtpheeheikigenaaGreatDoor
section
open Go.RowKit Go.Deep
def bt (s : ByteArray) (i : Nat) : Nat := (s.data.getD i 0).toNat
theorem bt_eq (s : ByteArray) (i : Nat) (h : i < s.size) : (s[i]'h).toNat = bt s i := by
 simp only [bt, Array.getD_eq_getD_getElem?]
 have h2 : i < s.data.size := h
 rw [Array.getElem?_eq_getElem h2]
 rfl
theorem hide {p : Prop} (h : p) : Hid p := h
theorem below_drewN {B : Nat} {a w : World} (h : Below B a w) (n : Nat) : Below B a (w.drewN n) := ⟨h.os, h.tape, h.output, h.size, h.block⟩
theorem below_up {B : Nat} {a b c : World} (h : Below B a b) (k : Below b.heap.size b c) (hB : B ≤ b.heap.size) : Below B a c := h.trans (k.mono hB)
end
section
open Go.RowKit Go.Deep
end
section
open Go.RowKit Go.Maps
def kLit (s : ByteArray) : Lit := .string s.data.toList
theorem kLit_inj {a b : ByteArray} (h : kLit a = kLit b) : a = b := by
 injection h with h
 exact ByteArray.ext (Array.ext' h)
def sLt (a b : ByteArray) : Bool := Op.bytesLess a.toList b.toList
theorem before_lt : ∀ a b : List UInt8, bytesBefore a b = decide (a < b)
 | [], [] => by simp [bytesBefore]
 | [], _ :: _ => by simp [bytesBefore]
 | _ :: _, [] => by simp [bytesBefore]
 | a :: r, b :: s => by
   rw [bytesBefore, before_lt r s, Bool.eq_iff_iff]
   simp only [Bool.or_eq_true, Bool.and_eq_true, decide_eq_true_eq, beq_iff_eq, List.cons_lt_cons_iff]
theorem sLt_iff (a b : ByteArray) : sLt a b = true ↔ a.data.toList < b.data.toList := by
 rw [sLt, bytesLess_eq, ByteArray.toList_eq, ByteArray.toList_eq, decide_eq_true_iff]
theorem before_sLt (a b : ByteArray) : (kLit a).before (kLit b) = sLt a b := by
 show bytesBefore a.data.toList b.data.toList = _
 rw [before_lt, Bool.eq_iff_iff, sLt_iff, decide_eq_true_iff]
theorem sLt_irr (a : ByteArray) : sLt a a = false := by
 rw [← Bool.not_eq_true, sLt_iff]; exact List.lt_irrefl _
theorem sLt_trans (a b c : ByteArray) (h : sLt a b = true) (k : sLt b c = true) : sLt a c = true :=
 (sLt_iff a c).2 (List.lt_trans ((sLt_iff a b).1 h) ((sLt_iff b c).1 k))
theorem sLt_tot (a b : ByteArray) (h : sLt a b = false) : a = b ∨ sLt b a = true := by
 rw [← Bool.not_eq_true, sLt_iff] at h
 by_cases k : sLt b a = true
 · exact .inr k
 · rw [sLt_iff] at k
   exact .inl (ByteArray.ext (Array.ext' (List.le_antisymm (List.not_lt.1 k) (List.not_lt.1 h))))
theorem same_kLit (a b : ByteArray) : (kLit a).sameKey (kLit b) = decide (a = b) := by
 rw [Bool.eq_iff_iff, decide_eq_true_iff]
 constructor
 · intro h; exact kLit_inj (WideAt.sameKey_eq h)
 · rintro rfl; exact WideAt.sameKey_self (by simp [kLit, WideAt.IsKeyLit])
section
variable {α H : Type}
abbrev KV (α : Type) := List (ByteArray × α)
def getG (P : KV α) (n : ByteArray) : Option α := (P.find? fun x => decide (x.1 = n)).map (·.2)
def putG (x : ByteArray × α) : KV α → KV α
 | [] => [x]
 | y :: P => if sLt y.1 x.1 = true then y :: putG x P else if y.1 = x.1 then x :: P else x :: y :: P
def delG (n : ByteArray) (P : KV α) : KV α := P.filter fun x => !decide (x.1 = n)
def RiseG (P : KV α) : Prop := P.Pairwise fun a b => sLt a.1 b.1 = true
theorem getG_nil (n : ByteArray) : getG ([] : KV α) n = none := rfl
theorem getG_cons (y : ByteArray × α) (P : KV α) (n : ByteArray) : getG (y :: P) n = if y.1 = n then some y.2 else getG P n := by
 unfold getG
 rw [List.find?_cons]
 by_cases h : y.1 = n <;> simp [h]
theorem getG_put (x : ByteArray × α) (n : ByteArray) : ∀ P : KV α, getG (putG x P) n = if x.1 = n then some x.2 else getG P n
 | [] => by rw [putG, getG_cons]
 | y :: P => by
   rw [putG]
   by_cases h : sLt y.1 x.1 = true
   · rw [if_pos h, getG_cons, getG_put x n P, getG_cons]
     by_cases e : x.1 = n
     · have : y.1 ≠ n := fun e2 => by rw [e2, ← e, sLt_irr] at h; cases h
       simp [e, this]
     · simp [e]
   · rw [if_neg h]
     by_cases e : y.1 = x.1
     · rw [if_pos e, getG_cons, getG_cons, e]
       by_cases e2 : x.1 = n <;> simp [e2]
     · rw [if_neg e, getG_cons]
theorem RiseG.nil : RiseG ([] : KV α) := List.Pairwise.nil
theorem mem_putG {x z : ByteArray × α} : ∀ {P : KV α}, z ∈ putG x P → z = x ∨ z ∈ P
 | [], h => by simpa [putG] using h
 | y :: P, h => by
   rw [putG] at h
   split at h
   · rcases List.mem_cons.1 h with h | h
     · exact .inr (by simp [h])
     · rcases mem_putG h with h | h
       · exact .inl h
       · exact .inr (by simp [h])
   · split at h
     · rcases List.mem_cons.1 h with h | h
       · exact .inl h
       · exact .inr (by simp [h])
     · rcases List.mem_cons.1 h with h | h
       · exact .inl h
       · exact .inr h
theorem RiseG.put (x : ByteArray × α) : ∀ {P : KV α}, RiseG P → RiseG (putG x P)
 | [], _ => by simp [RiseG, putG]
 | y :: P, h => by
   have h1 := List.pairwise_cons.1 h
   rw [putG]
   by_cases e : sLt y.1 x.1 = true
   · rw [if_pos e]
     refine List.pairwise_cons.2 ⟨fun z hz => ?_, RiseG.put x h1.2⟩
     rcases mem_putG hz with rfl | hz
     · exact e
     · exact h1.1 z hz
   · rw [if_neg e]
     by_cases e2 : y.1 = x.1
     · rw [if_pos e2]
       exact List.pairwise_cons.2 ⟨fun z hz => e2 ▸ h1.1 z hz, h1.2⟩
     · rw [if_neg e2]
       have e3 : sLt x.1 y.1 = true := (sLt_tot y.1 x.1 (by simpa using e)).resolve_left e2
       refine List.pairwise_cons.2 ⟨fun z hz => ?_, h⟩
       rcases List.mem_cons.1 hz with rfl | hz
       · exact e3
       · exact sLt_trans _ _ _ e3 (h1.1 z hz)
theorem RiseG.ne {y : ByteArray × α} {P : KV α} (h : RiseG (y :: P)) : ∀ z ∈ P, z.1 ≠ y.1 := fun z hz e => by
 have := (List.pairwise_cons.1 h).1 z hz
 rw [e, sLt_irr] at this; cases this
theorem getG_none_of {n : ByteArray} {P : KV α} (h : ∀ z ∈ P, z.1 ≠ n) : getG P n = none := by
 unfold getG
 rw [List.find?_eq_none.2 (fun z hz => by simpa using h z hz)]; rfl
theorem getG_mem {n : ByteArray} {v : α} {P : KV α} (h : getG P n = some v) : (n, v) ∈ P := by
 unfold getG at h
 cases hf : P.find? (fun x => decide (x.1 = n)) with
 | none => rw [hf] at h; cases h
 | some y =>
   rw [hf] at h
   have h1 := List.mem_of_find?_eq_some hf
   have h2 := List.find?_some hf
   have h3 : y.2 = v := by simpa using h
   have h4 : y.1 = n := by simpa using h2
   rw [← h3, ← h4]; exact h1
theorem mem_getG {n : ByteArray} {v : α} : ∀ {P : KV α}, RiseG P → (n, v) ∈ P → getG P n = some v
 | [], _, h => by cases h
 | y :: P, hr, h => by
   rw [getG_cons]
   rcases List.mem_cons.1 h with rfl | h
   · rw [if_pos rfl]
   · rw [if_neg (fun e => RiseG.ne hr _ h e.symm)]
     exact mem_getG (List.pairwise_cons.1 hr).2 h
theorem putG_len (x : ByteArray × α) : ∀ {P : KV α}, RiseG P → (putG x P).length = if (getG P x.1).isSome then P.length else P.length + 1
 | [], _ => by simp [putG, getG]
 | y :: P, h => by
   have h1 := List.pairwise_cons.1 h
   rw [putG, getG_cons]
   by_cases e : sLt y.1 x.1 = true
   · have e2 : y.1 ≠ x.1 := fun e2 => by rw [e2, sLt_irr] at e; cases e
     rw [if_pos e, if_neg e2, List.length_cons, putG_len x h1.2]
     split <;> simp
   · rw [if_neg e]
     by_cases e2 : y.1 = x.1
     · simp [e2]
     · have e3 : sLt x.1 y.1 = true := (sLt_tot y.1 x.1 (by simpa using e)).resolve_left e2
       have e4 : getG P x.1 = none := getG_none_of (fun z hz e5 => by
         have := sLt_trans _ _ _ e3 (h1.1 z hz)
         rw [e5, sLt_irr] at this; cases this)
       rw [if_neg e2, if_neg e2, e4]
       simp
theorem RiseG.ext {P Q : KV α} (hP : RiseG P) (hQ : RiseG Q) (h : ∀ n, getG P n = getG Q n) : P = Q := by
 induction P generalizing Q with
 | nil =>
   cases Q with
   | nil => rfl
   | cons y Q => have := h y.1; rw [getG_nil, getG_cons, if_pos rfl] at this; cases this
 | cons x P ih =>
   cases Q with
   | nil => have := h x.1; rw [getG_nil, getG_cons, if_pos rfl] at this; cases this
   | cons y Q =>
     have a1 := List.pairwise_cons.1 hP
     have a2 := List.pairwise_cons.1 hQ
     have hxy : x.1 = y.1 := by
       have m1 := getG_mem (P := y :: Q) (n := x.1) (v := x.2) (by rw [← h, getG_cons, if_pos rfl])
       have m2 := getG_mem (P := x :: P) (n := y.1) (v := y.2) (by rw [h, getG_cons, if_pos rfl])
       rcases List.mem_cons.1 m1 with e | m1
       · exact congrArg Prod.fst e
       · rcases List.mem_cons.1 m2 with e | m2
         · exact (congrArg Prod.fst e).symm
         · have l1 := a2.1 _ m1
           have l2 := a1.1 _ m2
           have := sLt_trans _ _ _ l1 l2
           rw [sLt_irr] at this; cases this
     have hv : x.2 = y.2 := by
       have := h x.1
       rw [getG_cons, getG_cons, if_pos rfl, if_pos hxy.symm] at this
       injection this
     have he : x = y := Prod.ext hxy hv
     subst he
     rw [ih a1.2 a2.2 (fun n => ?_)]
     by_cases hn : x.1 = n
     · subst hn
       rw [getG_none_of (RiseG.ne hP), getG_none_of (RiseG.ne hQ)]
     · have := h n
       rw [getG_cons, getG_cons, if_neg hn, if_neg hn] at this
       exact this
def datG (f : α → DataW H) (P : KV α) : DataW H := .map (P.map fun x => (kLit x.1, f x.2))
variable (f : α → DataW H)
theorem datG_has (P : KV α) (n : ByteArray) : Maps.has (datG f P) (kLit n) = (getG P n).isSome := by
 unfold datG
 rw [Maps.has_eq]
 induction P with
 | nil => rfl
 | cons y P ih =>
   rw [List.map_cons, List.any_cons, ih, getG_cons, same_kLit]
   by_cases e : y.1 = n <;> simp [e]
theorem datG_at (P : KV α) (n : ByteArray) (z : DataW H) : (datG f P).atKey (kLit n) z = (match getG P n with | some v => f v | none => z) := by
 unfold datG DataW.atKey
 simp only
 induction P with
 | nil => rfl
 | cons y P ih =>
   rw [List.map_cons, List.find?_cons, getG_cons, same_kLit]
   by_cases e : y.1 = n
   · simp [e]
   · rw [if_neg e]
     simp only [decide_eq_false e]
     exact ih
theorem datG_size (P : KV α) : Maps.size (datG f P) = P.length := by
 unfold datG; rw [Maps.size_eq, List.length_map]
theorem datG_del (P : KV α) (n : ByteArray) : (datG f P).del (kLit n) = datG f (delG n P) := by
 unfold datG DataW.del delG
 simp only
 congr 1
 induction P with
 | nil => rfl
 | cons y P ih =>
   rw [List.map_cons, List.filter_cons, List.filter_cons, same_kLit]
   by_cases e : y.1 = n
   · rw [if_neg (by simp [e]), if_neg (by simp [e])]; exact ih
   · rw [if_pos (by simp [e]), if_pos (by simp [e]), List.map_cons, ih]
theorem datG_put {P : KV α} (h : RiseG P) (n : ByteArray) (v : α) : (datG f P).put (kLit n) (f v) = datG f (putG (n, v) P) := by
 have hd : (datG f P).put (kLit n) (f v) = .map (DataW.insert (kLit n, f v) ((delG n P).map fun x => (kLit x.1, f x.2))) := by
   have := datG_del f P n
   unfold datG DataW.del at this
   unfold datG DataW.put
   injection this with this
   simp only [this]
 rw [hd]
 unfold datG
 congr 1
 induction P with
 | nil => rfl
 | cons y P ih =>
   have h1 := List.pairwise_cons.1 h
   have ih := ih h1.2 (by
     have := datG_del f P n
     unfold datG DataW.del at this
     unfold datG DataW.put
     injection this with this
     simp only [this])
   rw [putG]
   unfold delG
   rw [List.filter_cons]
   by_cases e : sLt y.1 n = true
   · have e2 : y.1 ≠ n := fun e2 => by rw [e2, sLt_irr] at e; cases e
     rw [if_pos e, if_pos (by simpa using e2), List.map_cons, List.map_cons, DataW.insert, before_sLt]
     have e3 : sLt n y.1 = false := by
       cases hc : sLt n y.1 with
       | false => rfl
       | true => have := sLt_trans _ _ _ e hc; rw [sLt_irr] at this; cases this
     rw [e3]
     simp only [Bool.false_eq_true, if_false]
     rw [← ih]; rfl
   · have hfil : P.filter (fun x => !decide (x.1 = n)) = P := by
       apply List.filter_eq_self.2
       intro z hz
       have : sLt n z.1 = true := by
         rcases sLt_tot y.1 n (by simpa using e) with e2 | e2
         · rw [← e2]; exact h1.1 z hz
         · exact sLt_trans _ _ _ e2 (h1.1 z hz)
       have : z.1 ≠ n := fun e5 => by rw [e5, sLt_irr] at this; cases this
       simpa using this
     rw [if_neg e]
     by_cases e2 : y.1 = n
     · rw [if_pos e2, if_neg (by simp [e2]), hfil, List.map_cons]
       cases P with
       | nil => rfl
       | cons z P =>
         rw [List.map_cons, DataW.insert, before_sLt]
         have hz : sLt n z.1 = true := by rw [← e2]; exact h1.1 z (by simp)
         rw [if_pos hz]
     · have e3 : sLt n y.1 = true := (sLt_tot y.1 n (by simpa using e)).resolve_left e2
       rw [if_neg e2, if_pos (by simp [e2]), hfil, List.map_cons, DataW.insert, before_sLt, if_pos e3, List.map_cons, List.map_cons]
end
end
section
open Go.RowKit Go.Deep
def SR (w : World) (A : Option Addr) (L : List ByteArray) : Prop :=
 ∀ k s, L[k]? = some s → ∃ g o, A = some ⟨g, o, none⟩ ∧ g < w.heap.size ∧ w.cell? ⟨g, o + k, none⟩ = some (.string s)
theorem SR.below {w w' : World} {A : Option Addr} {L : List ByteArray} (h : SR w A L) (hb : Below w.heap.size w w') : SR w' A L := fun k s hk => by
 obtain ⟨g, o, e, hg, hc⟩ := h k s hk
 exact ⟨g, o, e, Nat.lt_of_lt_of_le hg hb.size, (hb.cell (p := ⟨g, o + k, none⟩) hg).trans hc⟩
theorem SR.take {w : World} {A : Option Addr} {L : List ByteArray} (h : SR w A L) (k : Nat) : SR w A (L.take k) := fun j s hj => by
 rw [List.getElem?_take] at hj
 split at hj
 · exact h j s hj
 · cases hj
def strVals (L : List ByteArray) : List Value := L.map Value.string
def OwnS (w : World) (base : Nat) (v : Value) (L : List ByteArray) : Prop := w.ownsRow base 9 1 v L.length (strVals L)
theorem OwnS.slice {w : World} {base : Nat} {v : Value} {L : List ByteArray} (h : OwnS w base v L) : ∃ A c, v = .slice A L.length c ∧ L.length ≤ c ∧ SR w A L ∧ (∀ a, A = some a → v.ownBlock = some a.block) := by
 rcases h.2 with ⟨rfl, hn⟩ | ⟨g, cap, cur, rfl, _, hh, hc, _⟩
 · refine ⟨none, 0, by rw [hn], by omega, fun k s hk => ?_, fun a e => by cases e⟩
   have := (List.getElem?_eq_some_iff.1 hk).1
   omega
 · refine ⟨_, cap, rfl, hc, fun k s hk => ⟨g, 0, rfl, (h.lt g rfl).2, ?_⟩, fun a e => by injection e with e; subst e; rfl⟩
   have hlt := (List.getElem?_eq_some_iff.1 hk).1
   rw [Nat.zero_add, World.ownsRow.cellAt h k (by omega)]
   simp [strVals, hk]
theorem infoS : (Tryz.prog.info? 9).map (fun i => (i.zero, i.size, i.bytes)) = some (some (.string ⟨#[]⟩), 1, 16) := by kernel_rfl
theorem OwnS.nil (w : World) (base : Nat) : OwnS w base (.slice none 0 0) [] := World.ownsRow_nil _ _ _ _
theorem run_appS {w : World} {base : Nat} {v : Value} {L N : List ByteArray} {A : Option Addr} {c : Nat} (h : OwnS w base v L) (hn : SR w A N) (hbase : base ≤ w.heap.size) (hl : L.length + N.length ≤ 100000000) :
   ∃ v' w', (Builtin.append_ #[23, 23] 23 #[v, .slice A N.length c]).run Tryz.prog w = .ok v' w' ∧ OwnS w' base v' (L ++ N) ∧ w.grownBy w' v.ownBlock ∧ (v'.ownBlock = v.ownBlock ∨ v'.ownBlock = some w.heap.size) := by
 obtain ⟨i0, hi, hz0, hz1, hz2⟩ := info_parts infoS
 rcases A with _ | ad
 · have hN : N = [] := by
     cases N with
     | nil => rfl
     | cons s N =>
       obtain ⟨g, o, e, _⟩ := hn 0 s rfl
       cases e
   subst hN
   refine ⟨v, w, ?_, by simpa using h, World.grownBy.refl w _, .inl rfl⟩
   rcases h.2 with ⟨rfl, _⟩ | ⟨g, cap, cur, rfl, _, _, hnc, _⟩
   · simp [Builtin.append_, run_underlying Tryz.underlying23, sizeOf, typeInfo, hi, Builtin.lenOf, Builtin.firstCells]
   · simp [Builtin.append_, run_underlying Tryz.underlying23, sizeOf, typeInfo, hi, Builtin.lenOf, Builtin.firstCells, hnc, storeCells]
 · have hcells : ∀ j u, (strVals N)[j]? = some u → w.cell? (ad.add j) = some u := fun j u hu => by
     have hj := (List.getElem?_eq_some_iff.1 hu).1
     have hj2 : j < N.length := by simpa [strVals] using hj
     obtain ⟨g, o, e, _, hc⟩ := hn j N[j] (List.getElem?_eq_getElem hj2)
     injection e with e
     subst e
     have e2 : (Addr.mk g o none).add j = ⟨g, o + j, none⟩ := by
       unfold Addr.add
       split
       · rename_i h0; subst h0; rfl
       · rfl
     rw [e2, hc]
     simpa [strVals, hj2] using hu
   obtain ⟨v', w', hrun, h2, h3, _, h5⟩ := run_append_own_at (P := Tryz.prog) w base 23 23 9 i0 _ 1 16 Tryz.underlying23 hi hz0 hz1 hz2 rfl (by omega) v L.length (strVals L) h ad N.length c (strVals N) (by simp [strVals]) hcells
     (fun u hu => by simp only [strVals, List.mem_map] at hu; obtain ⟨s, _, rfl⟩ := hu; rfl) (by simp only [maxLen]; omega) (by omega) hbase
   refine ⟨v', w', hrun, ?_, h3, h5⟩
   unfold OwnS
   rw [List.length_append, show strVals (L ++ N) = strVals L ++ strVals N from by simp [strVals]]
   exact h2
theorem wpList_app_run {P : Program} {ops : Array Oper} {rest : List Oper} {o : Oper} {a : Act} {w : World} {Q : Exit → Act → World → Prop} {t : TypeId} {v xv v' : Value} {w' : World} (hgd : o.guard = none) (s x : Operand)
   (ho : o.op = .call { callee := .builtin .append, args := #[s, x], argTypes := #[t, t] }) (hs : a.eval s = v) (hx : a.eval x = xv) (ht : o.type = t)
   (hrun : (Builtin.append_ #[t, t] t #[v, xv]).run P w = .ok v' w') (h : wpList P ops Q rest (a.put o.dst v') w') : wpList P ops Q (o :: rest) a w :=
 wpList_plain hgd fun K hK => by
   unfold Oper.wp execOp
   simp only [ho, resolve, invoke, builtin, Sem.run_bind, Sem.run_pure, Result.andThen_ok, List.map_toArray, List.map_cons, List.map_nil, hs, hx, ht, hrun]
   exact hK _ _ h
theorem sr_new (w : World) (s : ByteArray) : SR (w.alloc (.cells #[.string s] 9)) (some ⟨w.heap.size, 0, none⟩) [s] := fun k x hk => by
 cases k with
 | zero =>
   simp at hk
   subst hk
   exact ⟨_, _, rfl, by simp, by rw [World.cell?_alloc_at _ _ _ _ rfl]; rfl⟩
 | succ k => simp at hk
theorem OwnS.alloc {w : World} {base : Nat} {v : Value} {L : List ByteArray} (h : OwnS w base v L) (o : Obj) : OwnS (w.alloc o) base v L := World.ownsRow.alloc h o
end
section
open Go.RowKit Go.Deep
theorem txt_ne {a b : ByteArray} (h : a ≠ b) : (a.toList == b.toList) = false := by
 rw [beq_eq_false_iff_ne, ByteArray.toList_eq, ByteArray.toList_eq]
 exact fun e => h (ByteArray.ext (Array.ext' e))
def Drew (w w' : World) : Prop := ∃ n, w' = w.drewN n
theorem Drew.refl (w : World) : Drew w w := ⟨0, rfl⟩
theorem Drew.more {w w' : World} (h : Drew w w') (n : Nat) : Drew w (w'.drewN n) := by
 obtain ⟨m, rfl⟩ := h
 exact ⟨m + n, by simp [World.drewN, Nat.add_assoc]⟩
theorem SR.drew {w w' : World} {A : Option Addr} {L : List ByteArray} (h : SR w A L) (hd : Drew w w') : SR w' A L := by
 obtain ⟨n, rfl⟩ := hd
 exact h
theorem Drew.below {w w' : World} (h : Drew w w') : Below w.heap.size w w' := by
 obtain ⟨n, rfl⟩ := h
 exact below_drewN (Below.refl _ _) n
theorem same_any (A B : Option Addr) (c d : Nat) (L M : List ByteArray) (w : World) (hA : SR w A L) (hB : SR w B M) (hl : L.length ≤ 100000) :
   Calls Tryz.prog 20 #[.slice A L.length c, .slice B M.length d] w fun e w' => e = .returned (.bool (decide (L = M))) ∧ Drew w w' := by
 have HA := hide hA
 have HB := hide hB
 clear hA hB
 by_cases hn : L.length = M.length
 · obtain ⟨n, hn1⟩ : ∃ n, L.length = n := ⟨_, rfl⟩
   have hn2 : M.length = n := by omega
   have N1 := hide hn1
   have N2 := hide hn2
   rw [hn1, hn2]
   rw [hn1] at hl
   clear hn hn1 hn2
   go_enter Tryz.func20, Tryz.ntmps20
   go_wp2
   go_loopw [5] (fun v5 wr => ∃ k : Nat, v5 = .int .i64 k ∧ k ≤ n ∧ Hid (L.take k = M.take k) ∧ Drew w wr) (fun v5 _ => n - (intOf v5).toNat)
   case atStart => exact ⟨0, rfl, by omega, rfl, Drew.refl _⟩
   case round =>
     obtain ⟨k, rfl, hk, HE, hdr⟩ := hrel
     have HD := hide hdr
     clear hdr
     by_cases hlt : k < n
     · obtain ⟨x, hx⟩ : ∃ x, L[k]? = some x := ⟨L[k]'(by have := N1.out; omega), gE _⟩
       obtain ⟨y, hy⟩ : ∃ y, M[k]? = some y := ⟨M[k]'(by have := N2.out; omega), gE _⟩
       obtain ⟨g, o, rfl, hg, hc⟩ := (HA.out.drew HD.out) k x hx
       obtain ⟨g', o', rfl, hg', hc'⟩ := (HB.out.drew HD.out) k y hy
       have HX := hide hx
       have HY := hide hy
       clear hx hy
       by_cases he : x = y
       · subst he
         go_wp2
         go_quiet (fail)
         go_wp2
         go_roundw
         case rel =>
           refine ⟨k + 1, by go_num, by omega, ?_, HD.out.more _⟩
           show L.take (k + 1) = M.take (k + 1)
           rw [List.take_add_one, List.take_add_one, HE.out, HX.out, HY.out]
         case measure => simp [intOf]; omega
       · have hne := txt_ne he
         have HN := hide he
         clear he
         go_wp2
         go_quiet (fail)
         go_wp2
         go_ret
         refine ⟨?_, HD.out.more _⟩
         have : decide (L = M) = false := by
           rw [decide_eq_false_iff_not]
           intro e
           have h1 := HX.out
           have h2 := HY.out
           rw [e, h2] at h1
           injection h1 with h1
           exact HN.out h1.symm
         rw [this]
         rfl
     · have e : k = n := by omega
       have hf : decide (L = M) = true := by
         rw [decide_eq_true_iff]
         have := HE.out
         rw [List.take_of_length_le (by have := N1.out; omega), List.take_of_length_le (by have := N2.out; omega)] at this
         exact this
       have HF := hide hf
       clear hf e
       go_wp2
       go_ret
       refine ⟨?_, HD.out⟩
       rw [HF.out]
       rfl
 · have hb : ((L.length : Int) == (M.length : Int)) = false := by simp only [beq_eq_false_iff_ne]; omega
   have hb2 : (L.length == M.length) = false := by simp only [beq_eq_false_iff_ne]; omega
   have HF := hide (show decide (L = M) = false by rw [decide_eq_false_iff_not]; intro e; exact hn (by rw [e]))
   clear hn
   go_enter Tryz.func20, Tryz.ntmps20
   go_wp2
   go_ret
   refine ⟨?_, Drew.refl _⟩
   rw [HF.out]
   rfl
end
section
open Go.RowKit Go.Deep
theorem OwnS.lt {w : World} {base : Nat} {v : Value} {L : List ByteArray} (h : OwnS w base v L) : ∀ k, v.ownBlock = some k → base ≤ k ∧ k < w.heap.size := World.ownsRow.lt h
end
section
open Go.RowKit Go.Deep
section
variable {α : Type} (enc : α → List Value) (n : Nat)
def RG (w : World) (A : Option Addr) (L : List α) : Prop :=
 ∀ k x, L[k]? = some x → ∃ g o, A = some ⟨g, o, none⟩ ∧ g < w.heap.size ∧ ∀ j v, (enc x)[j]? = some v → w.cell? ⟨g, o + k * n + j, none⟩ = some v
variable {enc n}
theorem RG.nil (w : World) (A : Option Addr) : RG enc n w A [] := fun k s h => by simp at h
theorem RG.of {w w' : World} {A : Option Addr} {L : List α} (h : RG enc n w A L) (hs : w.heap.size ≤ w'.heap.size) (hc : ∀ a, A = some a → a.block < w.heap.size → w'.heap[a.block]? = w.heap[a.block]?) : RG enc n w' A L := fun k x hk => by
 obtain ⟨g, o, e, hg, h1⟩ := h k x hk
 have hb := hc _ e hg
 exact ⟨g, o, e, by omega, fun j v hj => (World.cell?_of_block (a := ⟨g, o + k * n + j, none⟩) hb).trans (h1 j v hj)⟩
theorem RG.below {w w' : World} {A : Option Addr} {L : List α} (h : RG enc n w A L) (hb : Below w.heap.size w w') : RG enc n w' A L := h.of hb.size fun a _ hl => hb.block a.block hl
def valsG (enc : α → List Value) (L : List α) : List Value := L.flatMap enc
theorem valsG_len (he : ∀ x, (enc x).length = n) (L : List α) : (valsG enc L).length = L.length * n := by
 induction L with
 | nil => simp [valsG]
 | cons x L ih =>
   rw [valsG, List.flatMap_cons, List.length_append, he]
   have : (L.flatMap enc).length = L.length * n := ih
   rw [this, List.length_cons, Nat.add_mul]
   omega
theorem valsG_get (he : ∀ x, (enc x).length = n) : ∀ (L : List α) (k : Nat) (x : α) (j : Nat), L[k]? = some x → j < n → (valsG enc L)[k * n + j]? = (enc x)[j]?
 | [], k, x, j, h, _ => by simp at h
 | y :: L, 0, x, j, h, hj => by
   simp at h
   subst h
   rw [valsG, List.flatMap_cons, Nat.zero_mul, Nat.zero_add, List.getElem?_append_left (by rw [he]; exact hj)]
 | y :: L, k + 1, x, j, h, hj => by
   have ih := valsG_get he L k x j (by simpa using h) hj
   rw [valsG, List.flatMap_cons, List.getElem?_append_right (by rw [he, Nat.add_mul]; omega), he]
   rw [show (k + 1) * n + j - n = k * n + j from by rw [Nat.add_mul]; omega]
   exact ih
theorem valsG_app (L N : List α) : valsG enc (L ++ N) = valsG enc L ++ valsG enc N := by simp [valsG]
def OwnG (enc : α → List Value) (n : Nat) (E : TypeId) (w : World) (base : Nat) (v : Value) (L : List α) : Prop := w.ownsRow base E n v L.length (valsG enc L)
variable {E : TypeId}
theorem OwnG.lt {w : World} {base : Nat} {v : Value} {L : List α} (h : OwnG enc n E w base v L) : ∀ k, v.ownBlock = some k → base ≤ k ∧ k < w.heap.size := World.ownsRow.lt h
theorem OwnG.slice (he : ∀ x, (enc x).length = n) {w : World} {base : Nat} {v : Value} {L : List α} (h : OwnG enc n E w base v L) : ∃ A c, v = .slice A L.length c ∧ L.length ≤ c ∧ RG enc n w A L ∧ (∀ a, A = some a → v.ownBlock = some a.block) ∧ (∀ a, A = some a → ∃ g, a = ⟨g, 0, none⟩) := by
 rcases h.2 with ⟨rfl, hn⟩ | ⟨g, cap, cur, rfl, _, hh, hc, _⟩
 · refine ⟨none, 0, by rw [hn], by omega, fun k s hk => ?_, (fun a e => by cases e), (fun a e => by cases e)⟩
   have := (List.getElem?_eq_some_iff.1 hk).1
   omega
 · refine ⟨_, cap, rfl, hc, fun k x hk => ⟨g, 0, rfl, (h.lt g rfl).2, fun j u hj => ?_⟩, (fun a e => by injection e with e; subst e; rfl), (fun a e => by injection e with e; exact ⟨g, e.symm⟩)⟩
   have hlt := (List.getElem?_eq_some_iff.1 hk).1
   have hjn : j < n := by
     have := (List.getElem?_eq_some_iff.1 hj).1
     rw [he] at this; exact this
   have hkn : k * n + j < L.length * n := by
     have : (k + 1) * n ≤ L.length * n := Nat.mul_le_mul_right n hlt
     rw [Nat.add_mul] at this
     omega
   rw [Nat.zero_add, World.ownsRow.cellAt h (k * n + j) hkn, valsG_get he L k x j hk hjn]
   exact hj
theorem OwnG.nil (w : World) (base : Nat) : OwnG enc n E w base (.slice none 0 0) [] := World.ownsRow_nil _ _ _ _
theorem OwnG.alloc {w : World} {base : Nat} {v : Value} {L : List α} (h : OwnG enc n E w base v L) (o : Obj) : OwnG enc n E (w.alloc o) base v L := World.ownsRow.alloc h o
theorem OwnG.base {w : World} {base base' : Nat} {v : Value} {L : List α} (h : OwnG enc n E w base v L) (hb : base' ≤ base) : OwnG enc n E w base' v L :=
 ⟨h.1, h.2.imp id fun ⟨g, cap, cur, e, hg, r⟩ => ⟨g, cap, cur, e, by omega, r⟩⟩
structure RowT (P : Program) (T E : TypeId) (n : Nat) where
 z : Value
 bytes : Nat
 und : P.underlying T = some (.slice E)
 info : (P.info? E).map (fun i => (i.zero, i.size, i.bytes)) = some (some z, n, bytes)
 zlen : z.cells.size = n
 pos : 0 < n
 sb : bytes ≤ 1000
theorem run_appG {P : Program} {T : TypeId} (R : RowT P T E n) (he : ∀ x, (enc x).length = n) (h1c : ∀ x, ∀ u ∈ enc x, u.oneCell' = true) {w : World} {base : Nat} {v : Value} {L N : List α} {A : Option Addr} {c : Nat} (h : OwnG enc n E w base v L) (hn : RG enc n w A N) (hbase : base ≤ w.heap.size) (hl : L.length + N.length ≤ 100000000) :
   ∃ v' w', (Builtin.append_ #[T, T] T #[v, .slice A N.length c]).run P w = .ok v' w' ∧ OwnG enc n E w' base v' (L ++ N) ∧ w.grownBy w' v.ownBlock ∧ (v'.ownBlock = v.ownBlock ∨ v'.ownBlock = some w.heap.size) := by
 obtain ⟨i0, hi, hz0, hz1, hz2⟩ := info_parts R.info
 rcases A with _ | ad
 · have hN : N = [] := by
     cases N with
     | nil => rfl
     | cons s N =>
       obtain ⟨g, o, e, _⟩ := hn 0 s rfl
       cases e
   subst hN
   refine ⟨v, w, ?_, by simpa using h, World.grownBy.refl w _, .inl rfl⟩
   rcases h.2 with ⟨rfl, _⟩ | ⟨g, cap, cur, rfl, _, _, hnc, _⟩
   · simp [Builtin.append_, run_underlying R.und, sizeOf, typeInfo, hi, Builtin.lenOf, Builtin.firstCells]
   · simp [Builtin.append_, run_underlying R.und, sizeOf, typeInfo, hi, Builtin.lenOf, Builtin.firstCells, hnc, storeCells]
 · have hpos := R.pos
   have hcells : ∀ j u, (valsG enc N)[j]? = some u → w.cell? (ad.add j) = some u := fun j u hu => by
     have hj := (List.getElem?_eq_some_iff.1 hu).1
     rw [valsG_len he] at hj
     have hj2 : j / n < N.length := (Nat.div_lt_iff_lt_mul hpos).2 hj
     obtain ⟨g, o, e, _, h1⟩ := hn (j / n) N[j / n] (List.getElem?_eq_getElem hj2)
     have hp := valsG_get he N (j / n) N[j / n] (j % n) (List.getElem?_eq_getElem hj2) (Nat.mod_lt _ hpos)
     injection e with e
     subst e
     have e2 : (Addr.mk g o none).add j = ⟨g, o + j, none⟩ := by
       unfold Addr.add
       split
       · rename_i h0; subst h0; rfl
       · rfl
     have e3 : j / n * n + j % n = j := Nat.div_add_mod' j n
     rw [e2]
     rw [e3, hu] at hp
     have := h1 (j % n) u hp.symm
     rw [Nat.add_assoc, e3] at this
     exact this
   have hbb : (L.length + N.length) * R.bytes ≤ 140737488355328 := by
     have : (L.length + N.length) * R.bytes ≤ 100000000 * 1000 := Nat.mul_le_mul hl R.sb
     omega
   obtain ⟨v', w', hrun, h2, h3, _, h5⟩ := run_append_own_at (P := P) w base T T E i0 _ n R.bytes R.und hi hz0 hz1 hz2 R.zlen hpos v L.length (valsG enc L) h ad N.length c (valsG enc N) (valsG_len he N) hcells
     (fun u hu => by
       simp only [valsG, List.mem_flatMap] at hu
       obtain ⟨s, _, hs⟩ := hu
       exact h1c s u hs) (by simp only [maxLen]; omega) hbb hbase
   refine ⟨v', w', hrun, ?_, h3, h5⟩
   unfold OwnG
   rw [List.length_append, valsG_app]
   exact h2
theorem rg_new (w : World) (x : α) (t : TypeId) : RG enc n (w.alloc (.cells (enc x).toArray t)) (some ⟨w.heap.size, 0, none⟩) [x] := fun k y hk => by
 cases k with
 | zero =>
   simp at hk
   subst hk
   refine ⟨_, _, rfl, by simp, fun j v hj => ?_⟩
   rw [World.cell?_alloc_at _ _ _ _ rfl, Nat.zero_mul, Nat.zero_add]
   simpa using hj
 | succ k => simp at hk
end
end
section
open Go.RowKit
abbrev SRow := Option Addr × Nat × List ByteArray
def sv (x : SRow) : Value := .slice x.1 x.2.2.length x.2.1
structure Rl where
 tg : SRow
 nd : SRow
 rc : SRow
def encRl (r : Rl) : List Value := [sv r.tg, sv r.nd, sv r.rc]
theorem encRl_len (r : Rl) : (encRl r).length = 3 := rfl
structure RlOk (w : World) (r : Rl) : Prop where
 tg : SR w r.tg.1 r.tg.2.2
 nd : SR w r.nd.1 r.nd.2.2
 rc : SR w r.rc.1 r.rc.2.2
 t1 : r.tg.2.2.length ≤ 100000
 n1 : r.nd.2.2.length ≤ 100000
 r1 : r.rc.2.2.length ≤ 100000
def isP (s : ByteArray) : Bool := decide ((37 : UInt8) ∈ s.data.toList)
end
end Go.Proofs.YtpheeheikigenaaGreatDoor
namespace Go.Proofs.YtpheeheikigenaaGreatDoor.Ln
abbrev T := List UInt8
def spl (c : UInt8) : T → List T
 | [] => [[]]
 | b :: l => if b = c then [] :: spl c l else match spl c l with
   | [] => [[b]]
   | h :: t => (b :: h) :: t
theorem spl_ne (c : UInt8) (l : T) : spl c l ≠ [] := by
 cases l with
 | nil => simp [spl]
 | cons b l =>
   rw [spl]
   split
   · simp
   · split <;> simp
theorem spl_cons_ne {c b : UInt8} (h : b ≠ c) (l : T) : ∃ x t, spl c l = x :: t ∧ spl c (b :: l) = (b :: x) :: t := by
 cases hs : spl c l with
 | nil => exact absurd hs (spl_ne c l)
 | cons x t => exact ⟨x, t, rfl, by rw [spl, if_neg h, hs]⟩
theorem spl_none {c : UInt8} : ∀ {l : T}, c ∉ l → spl c l = [l]
 | [], _ => rfl
 | b :: l, h => by
   have h1 : b ≠ c := fun e => h (by simp [e])
   rw [spl, if_neg h1, spl_none (fun hc => h (by simp [hc]))]
theorem spl_app {c : UInt8} : ∀ {a : T} (b : T), c ∉ a → spl c (a ++ c :: b) = a :: spl c b
 | [], b, _ => by rw [List.nil_append, spl, if_pos rfl]
 | x :: a, b, h => by
   have h1 : x ≠ c := fun e => h (by simp [e])
   rw [List.cons_append, spl, if_neg h1, spl_app b (fun hc => h (by simp [hc]))]
theorem spl_both (c : UInt8) (a b : T) : spl c (a ++ c :: b) = spl c a ++ spl c b := by
 induction a with
 | nil =>
   rw [List.nil_append, show spl c (c :: b) = [] :: spl c b from if_pos rfl]; rfl
 | cons x a ih =>
   rw [List.cons_append, spl, spl, ih]
   by_cases h : x = c
   · rw [if_pos h, if_pos h]; rfl
   · rw [if_neg h, if_neg h]
     cases hs : spl c a with
     | nil => exact absurd hs (spl_ne c a)
     | cons y t => rfl
def cutL (s : T) : List T := if (spl 10 s).getLastD [] = [] then (spl 10 s).dropLast else spl 10 s
def blk (c : UInt8) : Bool := c == 32 || c == 9
def oddB (l : T) : Bool := (l.reverse.takeWhile (· == 92)).length % 2 == 1
def trimL (l : T) : T := l.dropWhile blk
def trimR (l : T) : T := (l.reverse.dropWhile blk).reverse
def dropTab (l : T) : T := match l with
 | 9 :: l => l
 | l => l
def recF : List T → T → T → T × List T
 | [], _, acc => (acc, [])
 | n :: rest, s, acc => if oddB s = true then recF rest (dropTab n) (acc ++ 10 :: dropTab n) else (acc, n :: rest)
def front (s : T) : T := trimR s.dropLast ++ [32]
def othF : List T → T → T × List T
 | [], s => (if oddB s = true then front s else s, [])
 | n :: rest, s => if oddB s = true then othF rest (front s ++ trimL n) else (s, n :: rest)
def comm : T → T
 | [] => []
 | [c] => if c = 35 then [] else [c]
 | c :: d :: l => if c = 92 ∧ d = 35 then 35 :: comm l else if c = 35 then [] else c :: comm (d :: l)
def plainF (s : T) : T := trimL (trimR (comm s))
theorem recF_len : ∀ rest s acc, (recF rest s acc).2.length ≤ rest.length
 | [], _, _ => Nat.le_refl _
 | n :: rest, s, acc => by
   rw [recF]
   split
   · exact Nat.le_succ_of_le (recF_len rest _ _)
   · exact Nat.le_refl _
theorem othF_len : ∀ rest s, (othF rest s).2.length ≤ rest.length
 | [], _ => Nat.le_refl _
 | n :: rest, s => by
   rw [othF]
   split
   · exact Nat.le_succ_of_le (othF_len rest _)
   · exact Nat.le_refl _
abbrev Line := Bool × T
def linesF : Nat → List T → List Line
 | 0, _ => []
 | _ + 1, [] => []
 | f + 1, l :: rest => if l.headD 0 = 9 then (true, (recF rest l.tail l.tail).1) :: linesF f (recF rest l.tail l.tail).2
   else (if plainF (othF rest l).1 = [] then [] else [(false, plainF (othF rest l).1)]) ++ linesF f (othF rest l).2
theorem linesF_irr : ∀ f f' (L : List T), L.length ≤ f → L.length ≤ f' → linesF f L = linesF f' L
 | 0, 0, _, _, _ => rfl
 | 0, f' + 1, L, h, _ => by
   obtain rfl : L = [] := List.length_eq_zero_iff.1 (by omega)
   rfl
 | f + 1, 0, L, _, h => by
   obtain rfl : L = [] := List.length_eq_zero_iff.1 (by omega)
   rfl
 | f + 1, f' + 1, [], _, _ => rfl
 | f + 1, f' + 1, l :: rest, h, h' => by
   have h1 := recF_len rest l.tail l.tail
   have h2 := othF_len rest l
   simp only [List.length_cons] at h h'
   rw [linesF, linesF, linesF_irr f f' _ (by omega) (by omega), linesF_irr f f' (othF rest l).2 (by omega) (by omega)]
def linesA (L : List T) : List Line := linesF L.length L
theorem linesA_nil : linesA [] = [] := rfl
theorem linesA_cons (l : T) (rest : List T) : linesA (l :: rest) = if l.headD 0 = 9 then (true, (recF rest l.tail l.tail).1) :: linesA (recF rest l.tail l.tail).2
   else (if plainF (othF rest l).1 = [] then [] else [(false, plainF (othF rest l).1)]) ++ linesA (othF rest l).2 := by
 have h1 := recF_len rest l.tail l.tail
 have h2 := othF_len rest l
 unfold linesA
 rw [List.length_cons, linesF, linesF_irr rest.length _ _ h1 (Nat.le_refl _), linesF_irr rest.length _ _ h2 (Nat.le_refl _)]
def readF (s : T) : List Line × Nat := if 16384 < s.length then ([], 3) else if 0 ∈ s then ([], 2) else (linesA (cutL s), 0)
def wblk (c : UInt8) : Bool := c == 32 || c == 9 || c == 10
def wordsF : T → T → List T
 | [], w => if w = [] then [] else [w]
 | c :: l, w => if wblk c = true then (if w = [] then wordsF l [] else w :: wordsF l []) else wordsF l (w ++ [c])
end Go.Proofs.YtpheeheikigenaaGreatDoor.Ln
namespace Go.Proofs.YtpheeheikigenaaGreatDoor.Pth
open Ln
def stepP (out : List T) (s : T) : List T := if s = [] ∨ s = [46] then out else if s = [46, 46] then out.dropLast else out ++ [s]
def partsF (cwd p : T) : List T := (if p.head? = some 47 then spl 47 p else spl 47 cwd ++ spl 47 p).foldl stepP []
def slashed (l : List T) : T := l.flatMap (47 :: ·)
def joinF (l : List T) : T := if l = [] then [47] else slashed l
def longF (l : List T) : Bool := l.any fun s => decide (60 < s.length)
def absF (cwd p : T) : T × Nat := if p = [] ∨ 0 ∈ cwd ∨ 0 ∈ p then ([], 1) else
 if longF (partsF cwd p) = false ∧ (partsF cwd p).length ≤ 20 ∧ (joinF (partsF cwd p)).length ≤ 200 then (joinF (partsF cwd p), 0) else ([], 3)
def okN (s : T) : Prop := s ≠ [] ∧ s ≠ [46] ∧ s ≠ [46, 46] ∧ 47 ∉ s
theorem spl_noslash (c : UInt8) : ∀ (l : T) (s : T), s ∈ spl c l → c ∉ s
 | [], s, h => by rw [spl] at h; simp at h; subst h; simp
 | b :: l, s, h => by
   rw [spl] at h
   split at h
   · rcases List.mem_cons.1 h with rfl | h
     · simp
     · exact spl_noslash c l s h
   · rename_i hb
     cases hs : spl c l with
     | nil => rw [hs] at h; simp at h; subst h; simpa using fun e => hb e.symm
     | cons x t =>
       rw [hs] at h
       rcases List.mem_cons.1 h with rfl | h
       · have := spl_noslash c l x (by rw [hs]; simp)
         intro hc
         rcases List.mem_cons.1 hc with e | e
         · exact hb e.symm
         · exact this e
       · exact spl_noslash c l s (by rw [hs]; simp [h])
theorem foldl_okN : ∀ (L out : List T), (∀ s ∈ L, 47 ∉ s) → (∀ s ∈ out, okN s) → ∀ s ∈ L.foldl stepP out, okN s
 | [], _, _, ho => ho
 | x :: L, out, hL, ho => by
   rw [List.foldl_cons]
   refine foldl_okN L _ (fun s hs => hL s (by simp [hs])) (fun s hs => ?_)
   unfold stepP at hs
   split at hs
   · exact ho s hs
   · split at hs
     · exact ho s (List.dropLast_subset _ hs)
     · rename_i h1 h2
       rcases List.mem_append.1 hs with hs | hs
       · exact ho s hs
       · obtain rfl : s = x := by simpa using hs
         exact ⟨fun e => h1 (.inl e), fun e => h1 (.inr e), h2, hL _ (by simp)⟩
theorem partsF_ok (cwd p : T) : ∀ s ∈ partsF cwd p, okN s := by
 unfold partsF
 refine foldl_okN _ _ (fun s hs => ?_) (by simp)
 split at hs
 · exact spl_noslash _ _ _ hs
 · rcases List.mem_append.1 hs with hs | hs <;> exact spl_noslash _ _ _ hs
theorem slashed_len (l : List T) : (slashed l).length = (l.map (·.length + 1)).sum := by
 induction l with
 | nil => rfl
 | cons s l ih => rw [show slashed (s :: l) = (47 :: s) ++ slashed l by simp [slashed], List.length_append, ih]; simp
theorem foldl_len : ∀ (L out : List T), (L.foldl stepP out).length ≤ out.length + L.length
 | [], out => by simp
 | x :: L, out => by
   rw [List.foldl_cons]
   have := foldl_len L (stepP out x)
   have h2 : (stepP out x).length ≤ out.length + 1 := by
     unfold stepP
     split
     · omega
     · split
       · rw [List.length_dropLast]; omega
       · simp
   simp only [List.length_cons]
   omega
theorem spl_len (c : UInt8) : ∀ l : T, (spl c l).length ≤ l.length + 1
 | [] => by simp [spl]
 | b :: l => by
   have := spl_len c l
   rw [spl]
   split
   · simp; omega
   · split
     · simp
     · rename_i h; rw [h] at this; simp at this ⊢; omega
theorem partsF_len (cwd p : T) : (partsF cwd p).length ≤ cwd.length + p.length + 2 := by
 unfold partsF
 refine Nat.le_trans (foldl_len _ _) ?_
 have h1 := spl_len 47 cwd
 have h2 := spl_len 47 p
 split
 · simp; omega
 · simp; omega
theorem sum_spl (c : UInt8) : ∀ l : T, ((spl c l).map (·.length + 1)).sum = l.length + 1
 | [] => rfl
 | b :: l => by
   have := sum_spl c l
   by_cases h : b = c
   · rw [spl, if_pos h]; simp at this ⊢; omega
   · obtain ⟨x, t, h1, h2⟩ := spl_cons_ne h l
     rw [h1] at this
     rw [h2]
     simp at this ⊢
     omega
theorem sum_fold : ∀ (L out : List T), ((L.foldl stepP out).map (·.length + 1)).sum ≤ (out.map (·.length + 1)).sum + (L.map (·.length + 1)).sum
 | [], out => by simp
 | x :: L, out => by
   rw [List.foldl_cons]
   have := sum_fold L (stepP out x)
   have h2 : ((stepP out x).map (·.length + 1)).sum ≤ (out.map (·.length + 1)).sum + (x.length + 1) := by
     unfold stepP
     split
     · omega
     · split
       · rw [List.dropLast_eq_take, List.map_take]
         refine Nat.le_trans ?_ (Nat.le_add_right _ _)
         conv => rhs; rw [← List.take_append_drop (out.length - 1) (out.map (·.length + 1)), List.sum_append]
         omega
       · simp
   rw [List.map_cons, List.sum_cons]
   omega
theorem joinF_len (cwd p : T) : (joinF (partsF cwd p)).length ≤ cwd.length + p.length + 3 ∧ ∀ s ∈ partsF cwd p, s.length ≤ cwd.length + p.length + 3 := by
 have h : ((partsF cwd p).map (·.length + 1)).sum ≤ cwd.length + p.length + 2 := by
   unfold partsF
   refine Nat.le_trans (sum_fold _ _) ?_
   have h1 := sum_spl 47 cwd
   have h2 := sum_spl 47 p
   split
   · simp only [List.map_nil, List.sum_nil]; omega
   · simp only [List.map_nil, List.sum_nil, List.map_append, List.sum_append]; omega
 refine ⟨?_, fun s hs => ?_⟩
 · unfold joinF
   split
   · simp
   · rw [slashed_len]; omega
 · have : ∀ L : List T, s ∈ L → s.length + 1 ≤ (L.map (·.length + 1)).sum := by
     intro L
     induction L with
     | nil => intro h; cases h
     | cons y L ih =>
       intro h
       rw [List.map_cons, List.sum_cons]
       rcases List.mem_cons.1 h with rfl | h
       · omega
       · have := ih h; omega
   have := this _ hs
   omega
structure GoodP (l : List T) : Prop where
 ok : ∀ s ∈ l, okN s
 long : ∀ s ∈ l, s.length ≤ 60
 zero : ∀ s ∈ l, 0 ∉ s
 deep : l.length ≤ 20
 len : (joinF l).length ≤ 200
theorem longF_iff (l : List T) : longF l = false ↔ ∀ s ∈ l, s.length ≤ 60 := by
 unfold longF
 rw [List.any_eq_false]
 simp
theorem spl_mem_sub (c : UInt8) : ∀ (l : T) (s : T), s ∈ spl c l → ∀ x ∈ s, x ∈ l
 | [], s, h, x, hx => by rw [spl] at h; simp at h; subst h; cases hx
 | b :: l, s, h, x, hx => by
   rw [spl] at h
   split at h
   · rcases List.mem_cons.1 h with rfl | h
     · cases hx
     · exact List.mem_cons_of_mem _ (spl_mem_sub c l s h x hx)
   · cases hs : spl c l with
     | nil => rw [hs] at h; simp at h; subst h; simp at hx; simp [hx]
     | cons y t =>
       rw [hs] at h
       rcases List.mem_cons.1 h with rfl | h
       · rcases List.mem_cons.1 hx with rfl | hx
         · simp
         · exact List.mem_cons_of_mem _ (spl_mem_sub c l y (by rw [hs]; simp) x hx)
       · exact List.mem_cons_of_mem _ (spl_mem_sub c l s (by rw [hs]; simp [h]) x hx)
theorem foldl_zero : ∀ (L out : List T), (∀ s ∈ L, 0 ∉ s) → (∀ s ∈ out, 0 ∉ s) → ∀ s ∈ L.foldl stepP out, 0 ∉ s
 | [], _, _, ho => ho
 | x :: L, out, hL, ho => by
   rw [List.foldl_cons]
   refine foldl_zero L _ (fun s hs => hL s (by simp [hs])) (fun s hs => ?_)
   unfold stepP at hs
   split at hs
   · exact ho s hs
   · split at hs
     · exact ho s (List.dropLast_subset _ hs)
     · rcases List.mem_append.1 hs with hs | hs
       · exact ho s hs
       · obtain rfl : s = x := by simpa using hs
         exact hL _ (by simp)
theorem partsF_zero {cwd p : T} (h1 : 0 ∉ cwd) (h2 : 0 ∉ p) : ∀ s ∈ partsF cwd p, 0 ∉ s := by
 unfold partsF
 refine foldl_zero _ _ (fun s hs h0 => ?_) (by simp)
 split at hs
 · exact h2 (spl_mem_sub _ _ _ hs 0 h0)
 · rcases List.mem_append.1 hs with hs | hs
   · exact h1 (spl_mem_sub _ _ _ hs 0 h0)
   · exact h2 (spl_mem_sub _ _ _ hs 0 h0)
theorem absF_cases (cwd p : T) : (∃ l, GoodP l ∧ absF cwd p = (joinF l, 0) ∧ partsF cwd p = l) ∨ ((absF cwd p).1 = [] ∧ ((absF cwd p).2 = 1 ∨ (absF cwd p).2 = 3)) := by
 unfold absF
 split
 · exact .inr ⟨rfl, .inl rfl⟩
 · rename_i h
   split
   · rename_i h2
     refine .inl ⟨_, ⟨partsF_ok _ _, (longF_iff _).1 h2.1, partsF_zero (fun c => h (.inr (.inl c))) (fun c => h (.inr (.inr c))), h2.2.1, h2.2.2⟩, rfl, rfl⟩
   · exact .inr ⟨rfl, .inr rfl⟩
end Go.Proofs.YtpheeheikigenaaGreatDoor.Pth
namespace Go.Proofs.YtpheeheikigenaaGreatDoor
section
open Go.RowKit
def bs (l : List UInt8) : ByteArray := ⟨l.toArray⟩
theorem bs_list (l : List UInt8) : (bs l).data.toList = l := by simp [bs]
theorem bs_size (l : List UInt8) : (bs l).size = l.length := by simp [bs, ByteArray.size]
theorem bs_app (a b : List UInt8) : bs a ++ bs b = bs (a ++ b) := by
 apply ByteArray.ext
 simp [bs]
theorem bs_of (s : ByteArray) : bs s.data.toList = s := by apply ByteArray.ext; simp [bs]
theorem bs_inj {a b : List UInt8} (h : bs a = bs b) : a = b := by
 have := congrArg (fun s => s.data.toList) h
 simpa [bs_list] using this
theorem bs_toList (l : List UInt8) : (bs l).toList = l := by rw [ByteArray.toList_eq, bs_list]
theorem ext_bs (l : List UInt8) (i j : Nat) : (bs l).extract i j = bs ((l.drop i).take (j - i)) := by
 apply ByteArray.ext
 apply Array.ext'
 rw [Lib.extract_data]
 simp [bs]
theorem data_len (s : ByteArray) : s.data.toList.length = s.size := Array.length_toList
theorem ixb_ge (c : UInt8) : ∀ l : List UInt8, -1 ≤ Lib.indexByte l c
 | [] => by simp [Lib.indexByte]
 | b :: l => by
   have := ixb_ge c l
   rw [Lib.indexByte]
   split
   · omega
   · split <;> omega
theorem ixb_mem (c : UInt8) : ∀ l : List UInt8, 0 ≤ Lib.indexByte l c ↔ c ∈ l
 | [] => by simp [Lib.indexByte]
 | b :: l => by
   have h1 := ixb_mem c l
   have h2 := ixb_ge c l
   rw [Lib.indexByte, List.mem_cons, ← h1]
   by_cases e : b = c
   · subst e; simp
   · have e2 : c ≠ b := fun h => e h.symm
     rw [if_neg (by simpa using e)]
     by_cases e3 : Lib.indexByte l c = -1
     · rw [if_pos (by simpa using e3), e3]; simp [e2]
     · rw [if_neg (by simpa using e3)]
       simp only [e2, false_or]
       omega
end
end Go.Proofs.YtpheeheikigenaaGreatDoor
namespace Go.Proofs.YtpheeheikigenaaGreatDoor.Vf
open Ln Pth
structure Nd where
 dir : Bool
 data : T
 time : Nat
abbrev Mp := KV Nd
def kindM (m : Mp) (q : T) : Nat := if q = [47] then 2 else match getG m (bs q) with
 | none => 0
 | some n => if n.dir = true then 2 else 1
def wayB (m : Mp) (q : T) : Nat → Nat → Nat
 | 0, _ => 0
 | f + 1, i => if q.length ≤ i then 0 else if q.getD i 0 ≠ 47 ∨ i = 0 then wayB m q f (i + 1) else
   if kindM m (q.take i) = 0 then 6 else if kindM m (q.take i) = 1 then 11 else wayB m q f (i + 1)
def wayM (m : Mp) (q : T) : Nat := wayB m q q.length 0
structure St where
 m : Mp
 nodes : Nat
 bytes : Nat
 used : Nat
 clock : Nat
def newS (nodes bytes : Int) : St := ⟨[], (min (max 0 nodes) 10000).toNat, (min (max 0 bytes) 1048576).toNat, 0, 0⟩
def absS (S : St) (p : T) : T × Nat := if (absF [47] p).2 ≠ 0 then ([], (absF [47] p).2) else if wayM S.m (absF [47] p).1 ≠ 0 then ([], wayM S.m (absF [47] p).1) else ((absF [47] p).1, 0)
def foundS (S : St) (p : T) : T × Nat := ((absS S p).1, if (absS S p).2 = 0 ∧ kindM S.m (absS S p).1 = 0 then 6 else (absS S p).2)
def dataM (m : Mp) (q : T) : T := match getG m (bs q) with
 | none => []
 | some n => n.data
def timeM (m : Mp) (q : T) : Nat := match getG m (bs q) with
 | none => 0
 | some n => n.time
def frontF (q : T) : T := (if q.getLast? = some 47 then q.dropLast else q) ++ [47]
def preB (fr : T) (s : T) : Bool := fr.isPrefixOf s
def belowM (m : Mp) (q : T) : List T := (m.map fun x => x.1.data.toList).filter (preB (frontF q))
def namesM (m : Mp) (q : T) : List T := ((belowM m q).map (List.drop (frontF q).length)).filter fun s => decide (47 ∉ s)
def readS (S : St) (p : T) : T × Nat := if (foundS S p).2 ≠ 0 then ([], (foundS S p).2) else if kindM S.m (foundS S p).1 = 2 then ([], 10) else (dataM S.m (foundS S p).1, 0)
structure WfS (S : St) : Prop where
 rise : RiseG S.m
 good : ∀ x ∈ S.m, ∃ l, GoodP l ∧ l ≠ [] ∧ x.1 = bs (joinF l)
 sum : S.used = (S.m.map fun x => x.2.data.length).sum
 nodes : S.m.length ≤ S.nodes
 bytes : S.used ≤ S.bytes
 n10 : S.nodes ≤ 10000
 b20 : S.bytes ≤ 1048576
theorem newS_wf (n b : Int) : WfS (newS n b) := ⟨RiseG.nil, by simp [newS], rfl, Nat.zero_le _, Nat.zero_le _, by simp only [newS]; omega, by simp only [newS]; omega⟩
theorem sum_mem {m : Mp} {x : ByteArray × Nd} (h : x ∈ m) : x.2.data.length ≤ (m.map fun x => x.2.data.length).sum := by
 induction m with
 | nil => cases h
 | cons y m ih =>
   rw [List.map_cons, List.sum_cons]
   rcases List.mem_cons.1 h with rfl | h
   · omega
   · have := ih h; omega
theorem dataM_len {S : St} (h : WfS S) (q : T) : (dataM S.m q).length ≤ S.used := by
 unfold dataM
 cases hg : getG S.m (bs q) with
 | none => simp
 | some n => rw [h.sum]; exact sum_mem (getG_mem hg)
end Go.Proofs.YtpheeheikigenaaGreatDoor.Vf
namespace Go.Proofs.YtpheeheikigenaaGreatDoor.Vf
open Ln Pth
end Go.Proofs.YtpheeheikigenaaGreatDoor.Vf
namespace Go.Proofs.YtpheeheikigenaaGreatDoor.Vf
open Ln Pth
end Go.Proofs.YtpheeheikigenaaGreatDoor.Vf
namespace Go.Proofs.YtpheeheikigenaaGreatDoor.Vf
open Ln Pth
end Go.Proofs.YtpheeheikigenaaGreatDoor.Vf
namespace Go.Proofs.YtpheeheikigenaaGreatDoor.Vf
open Ln Pth
end Go.Proofs.YtpheeheikigenaaGreatDoor.Vf
namespace Go.Proofs.YtpheeheikigenaaGreatDoor.Vf
open Ln Pth
structure GoodN (s : T) : Prop where
 ok : okN s
 len : s.length ≤ 60
 zero : 0 ∉ s
structure LI (S : St) (want : List T) (i : Nat) : Prop where
 wf : WfS S
 nodes : S.nodes = 50
 bytes : S.bytes = 50
 clock : S.clock ≤ 2 + i
 len : S.m.length ≤ 2 + i
 dir : kindM S.m [47, 100] = 2
 names : namesM S.m [47, 100] = want
end Go.Proofs.YtpheeheikigenaaGreatDoor.Vf
namespace Go.Proofs.YtpheeheikigenaaGreatDoor
section
open Ln Pth Vf
structure Pn where
 needs : List ByteArray
 recipe : List ByteArray
 stem : T
 rule : Bool
def frontT (p : T) : T := (Lib.cut p [37]).1
def backT (p : T) : T := (Lib.cut p [37]).2.1
def cutsT (p : T) : Bool := (Lib.cut p [37]).2.2
theorem front_len (p : T) : (frontT p).length ≤ p.length := by
 unfold frontT Lib.cut
 split
 · rw [List.length_take]; omega
 · exact Nat.le_refl _
theorem back_len (p : T) : (backT p).length ≤ p.length := by
 unfold backT Lib.cut
 split
 · rw [List.length_drop]; omega
 · simp
def matchT (p s : T) : T × Bool :=
 if cutsT p = false then ([], decide (s = p))
 else if s.length ≤ (frontT p).length + (backT p).length then ([], false)
 else if Lib.hasPrefix s (frontT p) = false then ([], false)
 else if Lib.hasSuffix s (backT p) = false then ([], false)
 else ((s.drop (frontT p).length).take (s.length - (backT p).length - (frontT p).length), true)
theorem matchT_len (p s : T) : (matchT p s).1.length ≤ s.length := by
 unfold matchT
 split
 · simp
 · split
   · simp
   · split
     · simp
     · split
       · simp
       · simp only [List.length_take, List.length_drop]; omega
def fillT (p st : T) : T := if cutsT p = false then p else frontT p ++ st ++ backT p
theorem fillT_len (p st : T) : (fillT p st).length ≤ 2 * p.length + st.length := by
 have h1 := front_len p
 have h2 := back_len p
 unfold fillT
 split
 · omega
 · simp only [List.length_append]; omega
end
section
open Go.RowKit
structure Kp (w w' : World) (S : Nat → Prop) : Prop where
 os : w'.os = w.os
 tape : w'.tape = w.tape
 output : w'.output = w.output
 size : w.heap.size ≤ w'.heap.size
 block : ∀ k, k < w.heap.size → ¬ S k → w'.heap[k]? = w.heap[k]?
theorem Kp.below {w w' : World} {S : Nat → Prop} (h : Kp w w' S) {B : Nat} {a : World} (ha : Below B a w) (hB : B ≤ a.heap.size) (hS : ∀ k, S k → B ≤ k) : Below B a w' :=
 ha.trans ⟨h.os, h.tape, h.output, h.size, fun k hk => h.block k (by have := ha.size; omega) (fun c => by have := hS k c; omega)⟩
theorem Kp.refl (w : World) (S : Nat → Prop) : Kp w w S := ⟨rfl, rfl, rfl, Nat.le_refl _, fun _ _ _ => rfl⟩
theorem Kp.of_below {w w' : World} (h : Below w.heap.size w w') (S : Nat → Prop) : Kp w w' S := ⟨h.os, h.tape, h.output, h.size, fun k hk _ => h.block k hk⟩
theorem Kp.mono {w w' : World} {S S' : Nat → Prop} (h : Kp w w' S) (hS : ∀ k, S k → S' k) : Kp w w' S' := ⟨h.os, h.tape, h.output, h.size, fun k hk hn => h.block k hk (fun c => hn (hS k c))⟩
theorem Kp.trans {w w' w'' : World} {S : Nat → Prop} (h : Kp w w' S) (h' : Kp w' w'' (fun k => S k ∨ w.heap.size ≤ k)) : Kp w w'' S :=
 ⟨h'.os.trans h.os, h'.tape.trans h.tape, h'.output.trans h.output, Nat.le_trans h.size h'.size, fun k hk hn => (h'.block k (Nat.lt_of_lt_of_le hk h.size) (fun c => c.elim hn (fun c => absurd hk (Nat.not_lt.2 c)))).trans (h.block k hk hn)⟩
theorem Kp.cell {w w' : World} {S : Nat → Prop} (h : Kp w w' S) {g o : Nat} {v : Value} (hc : w.cell? ⟨g, o, none⟩ = some v) (hS : ¬ S g) : w'.cell? ⟨g, o, none⟩ = some v :=
 (World.cell?_of_block (h.block g (World.block_lt_of_cell? w _ hc) hS)).trans hc
abbrev Asn := (Nat → Prop) → World → Prop
def Fr (A : Asn) : Prop := ∀ T w w', A T w → (∀ k, T k → w'.heap[k]? = w.heap[k]?) → w.heap.size ≤ w'.heap.size → A T w'
def starA (A B : Asn) : Asn := fun T w => ∃ T1 T2, A T1 w ∧ B T2 w ∧ (∀ k, T1 k → T k) ∧ (∀ k, T2 k → T k) ∧ ∀ k, T1 k → ¬ T2 k
theorem Fr.star {A B : Asn} (hA : Fr A) (hB : Fr B) : Fr (starA A B) := by
 rintro T w w' ⟨T1, T2, a, b, s1, s2, d⟩ hb hs
 exact ⟨T1, T2, hA _ _ _ a (fun k hk => hb k (s1 k hk)) hs, hB _ _ _ b (fun k hk => hb k (s2 k hk)) hs, s1, s2, d⟩
def Grow (w w' : World) (T T' : Nat → Prop) : Prop := ∀ k, T' k → (T k ∨ w.heap.size ≤ k) ∧ k < w'.heap.size
def Spec (P : Program) (f : FuncId) (args : Array Value) (A : Asn) (Q : Ending → Asn) : Prop :=
 ∀ T w, A T w → (∀ k, T k → k < w.heap.size) → Calls P f args w fun e w' => ∃ T', Q e T' w' ∧ Grow w w' T T' ∧ Kp w w' T
theorem Spec.left {P : Program} {f : FuncId} {args : Array Value} {A B : Asn} {Q : Ending → Asn} (h : Spec P f args A Q) (hB : Fr B) : Spec P f args (starA A B) (fun e => starA (Q e) B) := by
 rintro T w ⟨T1, T2, a, b, s1, s2, d⟩ hT
 refine (h T1 w a (fun k hk => hT k (s1 k hk))).mono ?_
 rintro e w' ⟨T1', q, g, hk⟩
 refine ⟨fun k => T1' k ∨ T2 k, ⟨T1', T2, q, hB _ _ _ b (fun k h2 => hk.block k (hT k (s2 k h2)) (fun h1 => d k h1 h2)) hk.size, fun k h => .inl h, fun k h => .inr h, fun k h1 h2 => ?_⟩, fun k h1 => ?_, hk.mono s1⟩
 · rcases (g k h1).1 with h | h
   · exact d k h h2
   · have := hT k (s2 k h2); omega
 · rcases h1 with h1 | h2
   · exact ⟨(g k h1).1.imp_left (s1 k), (g k h1).2⟩
   · exact ⟨.inl (s2 k h2), Nat.lt_of_lt_of_le (hT k (s2 k h2)) hk.size⟩
def SpecE (P : Program) (f : FuncId) (args : Array Value) (A : Asn) (e0 : Ending) (A' : Asn) : Prop := Spec P f args A (fun e T w => e = e0 ∧ A' T w)
theorem SpecE.left {P : Program} {f : FuncId} {args : Array Value} {A A' B : Asn} {e0 : Ending} (h : SpecE P f args A e0 A') (hB : Fr B) : SpecE P f args (starA A B) e0 (starA A' B) := by
 intro T w hh hT
 refine ((Spec.left h hB) T w hh hT).mono ?_
 rintro e w' ⟨T', ⟨T1, T2, ⟨q0, q⟩, b, s1, s2, d⟩, g, hk⟩
 exact ⟨T', ⟨q0, T1, T2, q, b, s1, s2, d⟩, g, hk⟩
theorem star_mono {A A' B B' : Asn} (hA : ∀ T w, A T w → A' T w) (hB : ∀ T w, B T w → B' T w) : ∀ T w, (starA A B) T w → (starA A' B') T w := by
 rintro T w ⟨T1, T2, a, b, s1, s2, d⟩
 exact ⟨T1, T2, hA _ _ a, hB _ _ b, s1, s2, d⟩
def Inv (A : Asn) (B : Nat) (w0 w : World) : Prop := ∃ T, A T w ∧ (∀ k, T k → B ≤ k ∧ k < w.heap.size) ∧ Below B w0 w
theorem Inv.below {A : Asn} {B : Nat} {w0 w : World} (h : Inv A B w0 w) : Below B w0 w := by
 obtain ⟨T, _, _, h⟩ := h; exact h
theorem Inv.call {P : Program} {f : FuncId} {args : Array Value} {A : Asn} {Q : Ending → Asn} {B : Nat} {w0 w : World} (h : Inv A B w0 w) (hB : B ≤ w0.heap.size) (hs : Spec P f args A Q) : Calls P f args w fun e w' => Inv (Q e) B w0 w' := by
 obtain ⟨T, a, ht, hb⟩ := h
 refine (hs T w a (fun k hk => (ht k hk).2)).mono ?_
 rintro e w' ⟨T', q, g, hk⟩
 refine ⟨T', q, fun k h1 => ⟨?_, (g k h1).2⟩, hk.below hb hB (fun k h1 => (ht k h1).1)⟩
 rcases (g k h1).1 with h | h
 · exact (ht k h).1
 · have := hb.size; omega
theorem Inv.callE {P : Program} {f : FuncId} {args : Array Value} {A A' : Asn} {e0 : Ending} {B : Nat} {w0 w : World} (h : Inv A B w0 w) (hB : B ≤ w0.heap.size) (hs : SpecE P f args A e0 A') : Calls P f args w fun e w' => e = e0 ∧ Inv A' B w0 w' := by
 refine (h.call hB hs).mono ?_
 rintro e w' ⟨T, ⟨q0, q⟩, ht, hb⟩
 exact ⟨q0, T, q, ht, hb⟩
theorem Inv.mono {A A' : Asn} {B : Nat} {w0 w : World} (h : Inv A B w0 w) (hm : ∀ T w, A T w → A' T w) : Inv A' B w0 w := by
 obtain ⟨T, a, ht, hb⟩ := h
 exact ⟨T, hm T w a, ht, hb⟩
theorem Inv.snd {A A' : Asn} {B : Nat} {w0 w : World} (h : Inv (starA A A') B w0 w) : Inv A' B w0 w := by
 obtain ⟨T, ⟨T1, T2, a, b, s1, s2, d⟩, ht, hb⟩ := h
 exact ⟨T2, b, fun k hk => ht k (s2 k hk), hb⟩
theorem Inv.step {A : Asn} {B : Nat} {w0 w w' : World} (h : Inv A B w0 w) (hA : Fr A) (hb : Below w.heap.size w w') (hB : B ≤ w0.heap.size) : Inv A B w0 w' := by
 obtain ⟨T, a, ht, hb0⟩ := h
 refine ⟨T, hA T w w' a (fun k hk => hb.block k (ht k hk).2) hb.size, fun k hk => ⟨(ht k hk).1, Nat.lt_of_lt_of_le (ht k hk).2 hb.size⟩, hb0.trans (hb.mono ?_)⟩
 have := hb0.size; omega
def Blk (g : Nat) (o : Obj) : Asn := fun T w => T g ∧ w.heap[g]? = some o
theorem Blk.fr (g : Nat) (o : Obj) : Fr (Blk g o) := by
 rintro T w w' ⟨h1, h2⟩ hb _
 exact ⟨h1, (hb g h1).trans h2⟩
theorem heapNew (w : World) (o : Obj) : (w.alloc o).heap[w.heap.size]? = some o := by
 show (w.heap.push o)[w.heap.size]? = some o
 simp
theorem Inv.new {A : Asn} {B : Nat} {w0 w : World} (h : Inv A B w0 w) (hA : Fr A) (o : Obj) (hB : B ≤ w0.heap.size) : Inv (starA A (Blk w.heap.size o)) B w0 (w.alloc o) := by
 obtain ⟨T, a, ht, hb⟩ := h
 have hold : ∀ k, T k → (w.alloc o).heap[k]? = w.heap[k]? := fun k hk => Below.heap_alloc w o k (ht k hk).2
 refine ⟨fun k => T k ∨ k = w.heap.size, ⟨T, fun k => k = w.heap.size, hA T w _ a hold (by simp), ⟨rfl, heapNew _ _⟩, fun k h => .inl h, fun k h => .inr h, ?_⟩, ?_, ?_⟩
 · rintro k hk rfl
   have := (ht _ hk).2
   omega
 · intro k hk
   have := hb.size
   rcases hk with hk | rfl
   · have := ht k hk
     exact ⟨this.1, by simp; omega⟩
   · exact ⟨by omega, by simp⟩
 · exact hb.alloc (by have := hb.size; omega) _
theorem Inv.add {A N : Asn} {B : Nat} {w0 w w' : World} (h : Inv A B w0 w) (hA : Fr A) (hb : Below w.heap.size w w') (hB : B ≤ w0.heap.size) {T2 : Nat → Prop} (hn : N T2 w') (h2 : ∀ k, T2 k → w.heap.size ≤ k ∧ k < w'.heap.size) : Inv (starA A N) B w0 w' := by
 obtain ⟨T, a, ht, hb0⟩ := h
 have hs0 := hb0.size
 refine ⟨fun k => T k ∨ T2 k, ⟨T, T2, hA T w w' a (fun k hk => hb.block k (ht k hk).2) hb.size, hn, fun k h => .inl h, fun k h => .inr h, fun k h1 h3 => ?_⟩, fun k hk => ?_, hb0.trans (hb.mono (by omega))⟩
 · have := (ht k h1).2
   have := (h2 k h3).1
   omega
 · have := hb.size
   rcases hk with hk | hk
   · have := ht k hk; omega
   · have := h2 k hk; omega
theorem Inv.first (w : World) (o : Obj) : Inv (Blk w.heap.size o) w.heap.size w (w.alloc o) :=
 ⟨fun k => k = w.heap.size, ⟨rfl, heapNew _ _⟩, fun k h => by subst h; exact ⟨Nat.le_refl _, by simp⟩, (Below.refl _ _).alloc (Nat.le_refl _) _⟩
end
section
open Go.RowKit
abbrev AsnN := (Nat → Prop) → (Nat → Prop) → World → Prop
def FrN (A : AsnN) : Prop := ∀ T N N' w w', A T N w → (∀ k, T k ∨ N k → w'.heap[k]? = w.heap[k]?) → (∀ k, N k → N' k) → w.heap.size ≤ w'.heap.size → A T N' w'
def sep (A B : AsnN) : AsnN := fun T N w => ∃ T1 T2, A T1 N w ∧ B T2 N w ∧ (∀ k, T1 k → T k) ∧ (∀ k, T2 k → T k) ∧ ∀ k, T1 k → ¬ T2 k
def OkTN (T N : Nat → Prop) (w : World) : Prop := (∀ k, T k → k < w.heap.size ∧ ¬ N k) ∧ ∀ k, N k → k < w.heap.size
def GrowN (w w' : World) (T N T' N' : Nat → Prop) : Prop := (∀ k, T' k → T k ∨ w.heap.size ≤ k) ∧ (∀ k, N k → N' k) ∧ (∀ k, N' k → N k ∨ w.heap.size ≤ k) ∧ OkTN T' N' w'
theorem GrowN.refl {T N : Nat → Prop} {w w' : World} (h : OkTN T N w) (hs : w.heap.size ≤ w'.heap.size) : GrowN w w' T N T N :=
 ⟨fun _ h => .inl h, fun _ h => h, fun _ h => .inl h, fun k hk => ⟨Nat.lt_of_lt_of_le (h.1 k hk).1 hs, (h.1 k hk).2⟩, fun k hk => Nat.lt_of_lt_of_le (h.2 k hk) hs⟩
end
end Go.Proofs.YtpheeheikigenaaGreatDoor
namespace Go.Proofs
open Go.Shelf
def Tryz.lays169_ren : Go.Shelf.Ren := ⟨fun | 169 => 66 | n => n, fun | 70 => 120 | 9 => 9 | 0 => 0 | 72 => 122 | 37 => 55 | 127 => 175 | 3 => 3 | 5 => 5 | n => n, fun | n => n⟩
theorem Tryz.lays169 : Go.Proofs.Lays.n169 Tryz.prog Tryz.lays169_ren := {
 mixed := by kernel_rfl
 f169 := Tryz.func66.trans (congrArg some (by kernel_rfl))
 t0 := Tryz.underlying0
 a0 := Tryz.isAgg0
 z0 := Tryz.sizeOf0
 v0 := Tryz.zeroValue0
 t3 := Tryz.underlying3
 a3 := Tryz.isAgg3
 z3 := Tryz.sizeOf3
 v3 := Tryz.zeroValue3
 t9 := Tryz.underlying9
 a9 := Tryz.isAgg9
 z9 := Tryz.sizeOf9
 v9 := Tryz.zeroValue9
 t37 := Tryz.underlying55
 a37 := Tryz.isAgg55
 z37 := Tryz.sizeOf55
 v37 := Tryz.zeroValue55
 t70 := Tryz.underlying120
 a70 := Tryz.isAgg120
 z70 := Tryz.sizeOf120
 v70 := Tryz.zeroValue120
 t72 := Tryz.underlying122
 a72 := Tryz.isAgg122
 z72 := Tryz.sizeOf122
 v72 := Tryz.zeroValue122
 t127 := Tryz.underlying175
 a127 := Tryz.isAgg175
 z127 := Tryz.sizeOf175
 v127 := Tryz.zeroValue175 }
theorem Tryz.Builder_Extra_169 : Builder.Extra Tryz.prog Tryz.lays169_ren := {
 sizeBuilder := by kernel_rfl
 liesBuilder := by kernel_rfl
 t5 := Tryz.underlying5
 a5 := Tryz.isAgg5
 z5 := Tryz.sizeOf5
 v5 := Tryz.zeroValue5
 infoByte := by kernel_rfl
 cellsByte := by kernel_rfl
 sizeByte := by kernel_rfl
 neB5 := by decide }
def Tryz.lays156_ren : Go.Shelf.Ren := ⟨fun | 156 => 160 | 165 => 217 | 166 => 65 | 169 => 66 | 240 => 117 | 241 => 254 | 276 => 176 | 277 => 278 | n => n, fun | 31 => 23 | 9 => 9 | 3 => 3 | 4 => 4 | 0 => 0 | 20 => 20 | 72 => 122 | 76 => 125 | 70 => 120 | 37 => 55 | 75 => 124 | 127 => 175 | 164 => 218 | 5 => 5 | 80 => 127 | n => n, fun | n => n⟩
theorem Tryz.lays156 : Go.Proofs.Lays.n156 Tryz.prog Tryz.lays156_ren := {
 mixed := by kernel_rfl
 f156 := Tryz.func160.trans (congrArg some (by kernel_rfl))
 f165 := Tryz.func217.trans (congrArg some (by kernel_rfl))
 f166 := Tryz.func65.trans (congrArg some (by kernel_rfl))
 f169 := Tryz.func66.trans (congrArg some (by kernel_rfl))
 f240 := Tryz.func117.trans (congrArg some (by kernel_rfl))
 f241 := Tryz.func254.trans (congrArg some (by kernel_rfl))
 f276 := Tryz.func176.trans (congrArg some (by kernel_rfl))
 f277 := Tryz.func278.trans (congrArg some (by kernel_rfl))
 t0 := Tryz.underlying0
 a0 := Tryz.isAgg0
 z0 := Tryz.sizeOf0
 v0 := Tryz.zeroValue0
 t3 := Tryz.underlying3
 a3 := Tryz.isAgg3
 z3 := Tryz.sizeOf3
 v3 := Tryz.zeroValue3
 t4 := Tryz.underlying4
 a4 := Tryz.isAgg4
 z4 := Tryz.sizeOf4
 v4 := Tryz.zeroValue4
 t9 := Tryz.underlying9
 a9 := Tryz.isAgg9
 z9 := Tryz.sizeOf9
 v9 := Tryz.zeroValue9
 t20 := Tryz.underlying20
 a20 := Tryz.isAgg20
 z20 := Tryz.sizeOf20
 v20 := Tryz.zeroValue20
 t31 := Tryz.underlying23
 a31 := Tryz.isAgg23
 z31 := Tryz.sizeOf23
 v31 := Tryz.zeroValue23
 t37 := Tryz.underlying55
 a37 := Tryz.isAgg55
 z37 := Tryz.sizeOf55
 v37 := Tryz.zeroValue55
 t70 := Tryz.underlying120
 a70 := Tryz.isAgg120
 z70 := Tryz.sizeOf120
 v70 := Tryz.zeroValue120
 t72 := Tryz.underlying122
 a72 := Tryz.isAgg122
 z72 := Tryz.sizeOf122
 v72 := Tryz.zeroValue122
 t75 := Tryz.underlying124
 a75 := Tryz.isAgg124
 z75 := Tryz.sizeOf124
 v75 := Tryz.zeroValue124
 t76 := Tryz.underlying125
 a76 := Tryz.isAgg125
 z76 := Tryz.sizeOf125
 v76 := Tryz.zeroValue125
 t127 := Tryz.underlying175
 a127 := Tryz.isAgg175
 z127 := Tryz.sizeOf175
 v127 := Tryz.zeroValue175
 t164 := Tryz.underlying218
 a164 := Tryz.isAgg218
 z164 := Tryz.sizeOf218
 v164 := Tryz.zeroValue218 }
theorem Tryz.Builder_Extra_156 : Builder.Extra Tryz.prog Tryz.lays156_ren := {
 sizeBuilder := by kernel_rfl
 liesBuilder := by kernel_rfl
 t5 := Tryz.underlying5
 a5 := Tryz.isAgg5
 z5 := Tryz.sizeOf5
 v5 := Tryz.zeroValue5
 infoByte := by kernel_rfl
 cellsByte := by kernel_rfl
 sizeByte := by kernel_rfl
 neB5 := by decide }
open Go.RowKit in
theorem Tryz.strings_Join_none (a : Option Addr) (c : Nat) (sep : ByteArray) (w : World) :
   Calls Tryz.prog 160 #[.slice a 0 c, .string sep] w fun e w' => e = .returned (.string ⟨#[]⟩) ∧ w' = w := Any.strings_Join_none Tryz.lays156 Tryz.Builder_Extra_156 a c sep w
open Go.RowKit in
theorem Tryz.strings_Join (bk o c : Nat) (xs : List ByteArray) (sep : ByteArray) (w : World) (hcells : ∀ (j : Nat) x, xs[j]? = some x → w.cell? ⟨bk, o + j, none⟩ = some (.string x)) (hbk : bk < w.heap.size) (hN : xs.length ≤ 140737488355328) (hcap : xs.length ≤ c) (hlen : (Lib.join (xs.map (·.data.toList)) sep.data.toList).length ≤ 140737488355328) :
   Calls Tryz.prog 160 #[.slice (some ⟨bk, o, none⟩) xs.length c, .string sep] w fun e w' => e = .returned (.string ⟨(Lib.join (xs.map (·.data.toList)) sep.data.toList).toArray⟩) ∧ Below w.heap.size w w' := Any.strings_Join Tryz.lays156 Tryz.Builder_Extra_156 bk o c xs sep w hcells hbk hN hcap hlen
def Tryz.lays161_ren : Go.Shelf.Ren := ⟨fun | 161 => 139 | 231 => 189 | 227 => 154 | 233 => 190 | 235 => 191 | 228 => 155 | 197 => 219 | 151 => 245 | 260 => 255 | 152 => 152 | 137 => 88 | 119 => 212 | 224 => 213 | 225 => 214 | 217 => 143 | 266 => 194 | n => n, fun | 9 => 9 | 4 => 4 | 3 => 3 | 5 => 5 | 117 => 205 | 116 => 204 | 0 => 0 | 124 => 227 | 105 => 250 | 21 => 21 | 119 => 299 | 46 => 201 | 139 => 302 | 138 => 301 | n => n, fun | 3 => 1 | 4 => 2 | n => n⟩
theorem Tryz.lays161 : Go.Proofs.Lays.n161 Tryz.prog Tryz.lays161_ren := {
 mixed := by kernel_rfl
 f119 := Tryz.func212.trans (congrArg some (by kernel_rfl))
 f137 := Tryz.func88.trans (congrArg some (by kernel_rfl))
 f151 := Tryz.func245.trans (congrArg some (by kernel_rfl))
 f152 := Tryz.func152.trans (congrArg some (by kernel_rfl))
 f161 := Tryz.func139.trans (congrArg some (by kernel_rfl))
 f197 := Tryz.func219.trans (congrArg some (by kernel_rfl))
 f217 := Tryz.func143.trans (congrArg some (by kernel_rfl))
 f224 := Tryz.func213.trans (congrArg some (by kernel_rfl))
 f225 := Tryz.func214.trans (congrArg some (by kernel_rfl))
 f227 := Tryz.func154.trans (congrArg some (by kernel_rfl))
 f228 := Tryz.func155.trans (congrArg some (by kernel_rfl))
 f231 := Tryz.func189.trans (congrArg some (by kernel_rfl))
 f233 := Tryz.func190.trans (congrArg some (by kernel_rfl))
 f235 := Tryz.func191.trans (congrArg some (by kernel_rfl))
 f260 := Tryz.func255.trans (congrArg some (by kernel_rfl))
 f266 := Tryz.func194.trans (congrArg some (by kernel_rfl))
 t0 := Tryz.underlying0
 a0 := Tryz.isAgg0
 z0 := Tryz.sizeOf0
 v0 := Tryz.zeroValue0
 t3 := Tryz.underlying3
 a3 := Tryz.isAgg3
 z3 := Tryz.sizeOf3
 v3 := Tryz.zeroValue3
 t4 := Tryz.underlying4
 a4 := Tryz.isAgg4
 z4 := Tryz.sizeOf4
 v4 := Tryz.zeroValue4
 t5 := Tryz.underlying5
 a5 := Tryz.isAgg5
 z5 := Tryz.sizeOf5
 v5 := Tryz.zeroValue5
 t9 := Tryz.underlying9
 a9 := Tryz.isAgg9
 z9 := Tryz.sizeOf9
 v9 := Tryz.zeroValue9
 t21 := Tryz.underlying21
 a21 := Tryz.isAgg21
 z21 := Tryz.sizeOf21
 v21 := Tryz.zeroValue21
 t46 := Tryz.underlying201
 a46 := Tryz.isAgg201
 z46 := Tryz.sizeOf201
 v46 := Tryz.zeroValue201
 t105 := Tryz.underlying250
 a105 := Tryz.isAgg250
 z105 := Tryz.sizeOf250
 v105 := Tryz.zeroValue250
 t116 := Tryz.underlying204
 a116 := Tryz.isAgg204
 z116 := Tryz.sizeOf204
 t117 := Tryz.underlying205
 a117 := Tryz.isAgg205
 z117 := Tryz.sizeOf205
 v117 := Tryz.zeroValue205
 t119 := Tryz.underlying299
 a119 := Tryz.isAgg299
 z119 := Tryz.sizeOf299
 t124 := Tryz.underlying227
 a124 := Tryz.isAgg227
 z124 := Tryz.sizeOf227
 v124 := Tryz.zeroValue227
 t138 := Tryz.underlying301
 a138 := Tryz.isAgg301
 z138 := Tryz.sizeOf301
 v138 := Tryz.zeroValue301
 t139 := Tryz.underlying302
 a139 := Tryz.isAgg302
 z139 := Tryz.sizeOf302
 v139 := Tryz.zeroValue302
 g3 := by kernel_rfl
 g4 := by kernel_rfl }
def Tryz.lays162_ren : Go.Shelf.Ren := ⟨fun | 162 => 188 | 232 => 242 | 227 => 154 | 234 => 243 | 236 => 244 | 228 => 155 | 271 => 272 | 151 => 245 | 120 => 285 | 197 => 219 | 152 => 152 | 260 => 255 | 137 => 88 | 119 => 212 | 224 => 213 | 225 => 214 | 217 => 143 | 266 => 194 | n => n, fun | 9 => 9 | 4 => 4 | 3 => 3 | 5 => 5 | 117 => 205 | 116 => 204 | 0 => 0 | 124 => 227 | 21 => 21 | 105 => 250 | 46 => 201 | 119 => 299 | 139 => 302 | 138 => 301 | n => n, fun | 3 => 1 | 4 => 2 | n => n⟩
theorem Tryz.lays162 : Go.Proofs.Lays.n162 Tryz.prog Tryz.lays162_ren := {
 mixed := by kernel_rfl
 f119 := Tryz.func212.trans (congrArg some (by kernel_rfl))
 f120 := Tryz.func285.trans (congrArg some (by kernel_rfl))
 f137 := Tryz.func88.trans (congrArg some (by kernel_rfl))
 f151 := Tryz.func245.trans (congrArg some (by kernel_rfl))
 f152 := Tryz.func152.trans (congrArg some (by kernel_rfl))
 f162 := Tryz.func188.trans (congrArg some (by kernel_rfl))
 f197 := Tryz.func219.trans (congrArg some (by kernel_rfl))
 f217 := Tryz.func143.trans (congrArg some (by kernel_rfl))
 f224 := Tryz.func213.trans (congrArg some (by kernel_rfl))
 f225 := Tryz.func214.trans (congrArg some (by kernel_rfl))
 f227 := Tryz.func154.trans (congrArg some (by kernel_rfl))
 f228 := Tryz.func155.trans (congrArg some (by kernel_rfl))
 f232 := Tryz.func242.trans (congrArg some (by kernel_rfl))
 f234 := Tryz.func243.trans (congrArg some (by kernel_rfl))
 f236 := Tryz.func244.trans (congrArg some (by kernel_rfl))
 f260 := Tryz.func255.trans (congrArg some (by kernel_rfl))
 f266 := Tryz.func194.trans (congrArg some (by kernel_rfl))
 f271 := Tryz.func272.trans (congrArg some (by kernel_rfl))
 t0 := Tryz.underlying0
 a0 := Tryz.isAgg0
 z0 := Tryz.sizeOf0
 v0 := Tryz.zeroValue0
 t3 := Tryz.underlying3
 a3 := Tryz.isAgg3
 z3 := Tryz.sizeOf3
 v3 := Tryz.zeroValue3
 t4 := Tryz.underlying4
 a4 := Tryz.isAgg4
 z4 := Tryz.sizeOf4
 v4 := Tryz.zeroValue4
 t5 := Tryz.underlying5
 a5 := Tryz.isAgg5
 z5 := Tryz.sizeOf5
 v5 := Tryz.zeroValue5
 t9 := Tryz.underlying9
 a9 := Tryz.isAgg9
 z9 := Tryz.sizeOf9
 v9 := Tryz.zeroValue9
 t21 := Tryz.underlying21
 a21 := Tryz.isAgg21
 z21 := Tryz.sizeOf21
 v21 := Tryz.zeroValue21
 t46 := Tryz.underlying201
 a46 := Tryz.isAgg201
 z46 := Tryz.sizeOf201
 v46 := Tryz.zeroValue201
 t105 := Tryz.underlying250
 a105 := Tryz.isAgg250
 z105 := Tryz.sizeOf250
 v105 := Tryz.zeroValue250
 t116 := Tryz.underlying204
 a116 := Tryz.isAgg204
 z116 := Tryz.sizeOf204
 t117 := Tryz.underlying205
 a117 := Tryz.isAgg205
 z117 := Tryz.sizeOf205
 v117 := Tryz.zeroValue205
 t119 := Tryz.underlying299
 a119 := Tryz.isAgg299
 z119 := Tryz.sizeOf299
 t124 := Tryz.underlying227
 a124 := Tryz.isAgg227
 z124 := Tryz.sizeOf227
 v124 := Tryz.zeroValue227
 t138 := Tryz.underlying301
 a138 := Tryz.isAgg301
 z138 := Tryz.sizeOf301
 v138 := Tryz.zeroValue301
 t139 := Tryz.underlying302
 a139 := Tryz.isAgg302
 z139 := Tryz.sizeOf302
 v139 := Tryz.zeroValue302
 g3 := by kernel_rfl
 g4 := by kernel_rfl }
open Go.RowKit in
theorem Tryz.strings_TrimRight_one (s : ByteArray) (c : UInt8) (hc : c.toNat < 128) (w : World) (hs : s.size ≤ 9223372036854775807) :
   Calls Tryz.prog 188 #[.string s, .string ⟨#[c]⟩] w fun e w' => e = .returned (.string ⟨(Lib.trimRightB s.data.toList c).toArray⟩) ∧ w' = w := Any.strings_TrimRight_one Tryz.lays162 s c hc w hs
def Tryz.lays160_ren : Go.Shelf.Ren := ⟨fun | 160 => 187 | 232 => 242 | 231 => 189 | 227 => 154 | 234 => 243 | 233 => 190 | 236 => 244 | 235 => 191 | 228 => 155 | 271 => 272 | 151 => 245 | 197 => 219 | 120 => 285 | 152 => 152 | 260 => 255 | 137 => 88 | 119 => 212 | 224 => 213 | 225 => 214 | 217 => 143 | 266 => 194 | n => n, fun | 9 => 9 | 4 => 4 | 3 => 3 | 5 => 5 | 117 => 205 | 116 => 204 | 0 => 0 | 124 => 227 | 21 => 21 | 105 => 250 | 46 => 201 | 119 => 299 | 139 => 302 | 138 => 301 | n => n, fun | 3 => 1 | 4 => 2 | n => n⟩
theorem Tryz.lays160 : Go.Proofs.Lays.n160 Tryz.prog Tryz.lays160_ren := {
 mixed := by kernel_rfl
 f119 := Tryz.func212.trans (congrArg some (by kernel_rfl))
 f120 := Tryz.func285.trans (congrArg some (by kernel_rfl))
 f137 := Tryz.func88.trans (congrArg some (by kernel_rfl))
 f151 := Tryz.func245.trans (congrArg some (by kernel_rfl))
 f152 := Tryz.func152.trans (congrArg some (by kernel_rfl))
 f160 := Tryz.func187.trans (congrArg some (by kernel_rfl))
 f197 := Tryz.func219.trans (congrArg some (by kernel_rfl))
 f217 := Tryz.func143.trans (congrArg some (by kernel_rfl))
 f224 := Tryz.func213.trans (congrArg some (by kernel_rfl))
 f225 := Tryz.func214.trans (congrArg some (by kernel_rfl))
 f227 := Tryz.func154.trans (congrArg some (by kernel_rfl))
 f228 := Tryz.func155.trans (congrArg some (by kernel_rfl))
 f231 := Tryz.func189.trans (congrArg some (by kernel_rfl))
 f232 := Tryz.func242.trans (congrArg some (by kernel_rfl))
 f233 := Tryz.func190.trans (congrArg some (by kernel_rfl))
 f234 := Tryz.func243.trans (congrArg some (by kernel_rfl))
 f235 := Tryz.func191.trans (congrArg some (by kernel_rfl))
 f236 := Tryz.func244.trans (congrArg some (by kernel_rfl))
 f260 := Tryz.func255.trans (congrArg some (by kernel_rfl))
 f266 := Tryz.func194.trans (congrArg some (by kernel_rfl))
 f271 := Tryz.func272.trans (congrArg some (by kernel_rfl))
 t0 := Tryz.underlying0
 a0 := Tryz.isAgg0
 z0 := Tryz.sizeOf0
 v0 := Tryz.zeroValue0
 t3 := Tryz.underlying3
 a3 := Tryz.isAgg3
 z3 := Tryz.sizeOf3
 v3 := Tryz.zeroValue3
 t4 := Tryz.underlying4
 a4 := Tryz.isAgg4
 z4 := Tryz.sizeOf4
 v4 := Tryz.zeroValue4
 t5 := Tryz.underlying5
 a5 := Tryz.isAgg5
 z5 := Tryz.sizeOf5
 v5 := Tryz.zeroValue5
 t9 := Tryz.underlying9
 a9 := Tryz.isAgg9
 z9 := Tryz.sizeOf9
 v9 := Tryz.zeroValue9
 t21 := Tryz.underlying21
 a21 := Tryz.isAgg21
 z21 := Tryz.sizeOf21
 v21 := Tryz.zeroValue21
 t46 := Tryz.underlying201
 a46 := Tryz.isAgg201
 z46 := Tryz.sizeOf201
 v46 := Tryz.zeroValue201
 t105 := Tryz.underlying250
 a105 := Tryz.isAgg250
 z105 := Tryz.sizeOf250
 v105 := Tryz.zeroValue250
 t116 := Tryz.underlying204
 a116 := Tryz.isAgg204
 z116 := Tryz.sizeOf204
 t117 := Tryz.underlying205
 a117 := Tryz.isAgg205
 z117 := Tryz.sizeOf205
 v117 := Tryz.zeroValue205
 t119 := Tryz.underlying299
 a119 := Tryz.isAgg299
 z119 := Tryz.sizeOf299
 t124 := Tryz.underlying227
 a124 := Tryz.isAgg227
 z124 := Tryz.sizeOf227
 v124 := Tryz.zeroValue227
 t138 := Tryz.underlying301
 a138 := Tryz.isAgg301
 z138 := Tryz.sizeOf301
 v138 := Tryz.zeroValue301
 t139 := Tryz.underlying302
 a139 := Tryz.isAgg302
 z139 := Tryz.sizeOf302
 v139 := Tryz.zeroValue302
 g3 := by kernel_rfl
 g4 := by kernel_rfl }
def Tryz.lays137_ren : Go.Shelf.Ren := ⟨fun | 137 => 88 | 217 => 143 | 266 => 194 | n => n, fun | 9 => 9 | 5 => 5 | 3 => 3 | n => n, fun | n => n⟩
theorem Tryz.lays137 : Go.Proofs.Lays.n137 Tryz.prog Tryz.lays137_ren := {
 mixed := by kernel_rfl
 f137 := Tryz.func88.trans (congrArg some (by kernel_rfl))
 f217 := Tryz.func143.trans (congrArg some (by kernel_rfl))
 f266 := Tryz.func194.trans (congrArg some (by kernel_rfl))
 t3 := Tryz.underlying3
 a3 := Tryz.isAgg3
 z3 := Tryz.sizeOf3
 v3 := Tryz.zeroValue3
 t5 := Tryz.underlying5
 a5 := Tryz.isAgg5
 z5 := Tryz.sizeOf5
 v5 := Tryz.zeroValue5
 t9 := Tryz.underlying9
 a9 := Tryz.isAgg9
 z9 := Tryz.sizeOf9
 v9 := Tryz.zeroValue9 }
open Go.RowKit in
theorem Tryz.strings_IndexByte (s : ByteArray) (c : Int) (w : World) :
   Calls Tryz.prog 88 #[.string s, .int .u8 c] w fun e w' => e = .returned (.int .i64 (Lib.indexByte s.data.toList c.toNat.toUInt8)) ∧ w' = w := Any.strings_IndexByte Tryz.lays137 s c w
def Tryz.lays103_ren : Go.Shelf.Ren := ⟨fun | 103 => 87 | 210 => 142 | 206 => 100 | n => n, fun | 9 => 9 | 4 => 4 | 24 => 99 | 3 => 3 | n => n, fun | n => n⟩
theorem Tryz.lays103 : Go.Proofs.Lays.n103 Tryz.prog Tryz.lays103_ren := {
 mixed := by kernel_rfl
 f103 := Tryz.func87.trans (congrArg some (by kernel_rfl))
 f206 := Tryz.func100.trans (congrArg some (by kernel_rfl))
 f210 := Tryz.func142.trans (congrArg some (by kernel_rfl))
 t3 := Tryz.underlying3
 a3 := Tryz.isAgg3
 z3 := Tryz.sizeOf3
 v3 := Tryz.zeroValue3
 t4 := Tryz.underlying4
 a4 := Tryz.isAgg4
 z4 := Tryz.sizeOf4
 v4 := Tryz.zeroValue4
 t9 := Tryz.underlying9
 a9 := Tryz.isAgg9
 z9 := Tryz.sizeOf9
 v9 := Tryz.zeroValue9
 t24 := Tryz.underlying99
 a24 := Tryz.isAgg99
 z24 := Tryz.sizeOf99
 v24 := Tryz.zeroValue99 }
open Go.RowKit in
theorem Tryz.strings_CutPrefix (s p : ByteArray) (w : World) :
   Calls Tryz.prog 87 #[.string s, .string p] w fun e w' => e = .returned (.tuple #[.string ⟨(Lib.trimPrefix s.data.toList p.data.toList).toArray⟩, .bool (Lib.hasPrefix s.data.toList p.data.toList)]) ∧ w' = w := Any.strings_CutPrefix Tryz.lays103 s p w
open Go.RowKit in
theorem Tryz.Builder_String_any_k (B b : Nat) (l : List UInt8) (w : World) (h : Lib.IsBuilderF 122 5 B b (Lib.byteCells l) w) (hBw : B ≤ w.heap.size) :
   Calls Tryz.prog 66 #[.pointer (some ⟨b, 0, none⟩)] w fun e w' => e = .returned (.string ⟨l.toArray⟩) ∧ (Lib.IsBuilderF 122 5 B b (Lib.byteCells l) w' ∧ Below B w w' ∧ Lib.OthersKept 5 (some b) w w') := Any.Builder_String_any_k Tryz.lays169 Tryz.Builder_Extra_169 B b l w h hBw
def Tryz.lays144_ren : Go.Shelf.Ren := ⟨fun | 144 => 101 | 143 => 159 | 219 => 216 | 217 => 143 | 225 => 214 | 224 => 213 | 267 => 253 | 266 => 194 | 314 => 277 | n => n, fun | 9 => 9 | 4 => 4 | 3 => 3 | 5 => 5 | 46 => 201 | 146 => 296 | 51 => 243 | n => n, fun | 1 => 0 | n => n⟩
theorem Tryz.lays144 : Go.Proofs.Lays.n144 Tryz.prog Tryz.lays144_ren := {
 mixed := by kernel_rfl
 f143 := Tryz.func159.trans (congrArg some (by kernel_rfl))
 f144 := Tryz.func101.trans (congrArg some (by kernel_rfl))
 f217 := Tryz.func143.trans (congrArg some (by kernel_rfl))
 f219 := Tryz.func216.trans (congrArg some (by kernel_rfl))
 f224 := Tryz.func213.trans (congrArg some (by kernel_rfl))
 f225 := Tryz.func214.trans (congrArg some (by kernel_rfl))
 f266 := Tryz.func194.trans (congrArg some (by kernel_rfl))
 f267 := Tryz.func253.trans (congrArg some (by kernel_rfl))
 f314 := Tryz.func277.trans (congrArg some (by kernel_rfl))
 t3 := Tryz.underlying3
 a3 := Tryz.isAgg3
 z3 := Tryz.sizeOf3
 v3 := Tryz.zeroValue3
 t4 := Tryz.underlying4
 a4 := Tryz.isAgg4
 z4 := Tryz.sizeOf4
 v4 := Tryz.zeroValue4
 t5 := Tryz.underlying5
 a5 := Tryz.isAgg5
 z5 := Tryz.sizeOf5
 v5 := Tryz.zeroValue5
 t9 := Tryz.underlying9
 a9 := Tryz.isAgg9
 z9 := Tryz.sizeOf9
 v9 := Tryz.zeroValue9
 t46 := Tryz.underlying201
 a46 := Tryz.isAgg201
 z46 := Tryz.sizeOf201
 v46 := Tryz.zeroValue201
 t51 := Tryz.underlying243
 a51 := Tryz.isAgg243
 z51 := Tryz.sizeOf243
 v51 := Tryz.zeroValue243
 t146 := Tryz.underlying296
 a146 := Tryz.isAgg296
 z146 := Tryz.sizeOf296
 v146 := Tryz.zeroValue296
 g1 := by kernel_rfl }
open Go.RowKit Go.Lib in
theorem Tryz.strings_Contains_one (s : ByteArray) (c : UInt8) (w : World) :
   Calls Tryz.prog 101 #[.string s, .string ⟨#[c]⟩] w fun e w' => e = .returned (.bool (decide (0 ≤ Lib.indexByte s.data.toList c))) ∧ w' = w := Any.strings_Contains_one Tryz.lays144 s c w
def Tryz.lays145_ren : Go.Shelf.Ren := ⟨fun | 145 => 147 | 220 => 199 | 219 => 216 | 217 => 143 | 225 => 214 | 224 => 213 | 267 => 253 | 266 => 194 | 314 => 277 | n => n, fun | 9 => 9 | 4 => 4 | 59 => 195 | 3 => 3 | 5 => 5 | 46 => 201 | 146 => 296 | 51 => 243 | n => n, fun | 1 => 0 | n => n⟩
theorem Tryz.lays145 : Go.Proofs.Lays.n145 Tryz.prog Tryz.lays145_ren := {
 mixed := by kernel_rfl
 f145 := Tryz.func147.trans (congrArg some (by kernel_rfl))
 f217 := Tryz.func143.trans (congrArg some (by kernel_rfl))
 f219 := Tryz.func216.trans (congrArg some (by kernel_rfl))
 f220 := Tryz.func199.trans (congrArg some (by kernel_rfl))
 f224 := Tryz.func213.trans (congrArg some (by kernel_rfl))
 f225 := Tryz.func214.trans (congrArg some (by kernel_rfl))
 f266 := Tryz.func194.trans (congrArg some (by kernel_rfl))
 f267 := Tryz.func253.trans (congrArg some (by kernel_rfl))
 f314 := Tryz.func277.trans (congrArg some (by kernel_rfl))
 t3 := Tryz.underlying3
 a3 := Tryz.isAgg3
 z3 := Tryz.sizeOf3
 v3 := Tryz.zeroValue3
 t4 := Tryz.underlying4
 a4 := Tryz.isAgg4
 z4 := Tryz.sizeOf4
 v4 := Tryz.zeroValue4
 t5 := Tryz.underlying5
 a5 := Tryz.isAgg5
 z5 := Tryz.sizeOf5
 v5 := Tryz.zeroValue5
 t9 := Tryz.underlying9
 a9 := Tryz.isAgg9
 z9 := Tryz.sizeOf9
 v9 := Tryz.zeroValue9
 t46 := Tryz.underlying201
 a46 := Tryz.isAgg201
 z46 := Tryz.sizeOf201
 v46 := Tryz.zeroValue201
 t51 := Tryz.underlying243
 a51 := Tryz.isAgg243
 z51 := Tryz.sizeOf243
 v51 := Tryz.zeroValue243
 t59 := Tryz.underlying195
 a59 := Tryz.isAgg195
 z59 := Tryz.sizeOf195
 v59 := Tryz.zeroValue195
 t146 := Tryz.underlying296
 a146 := Tryz.isAgg296
 z146 := Tryz.sizeOf296
 v146 := Tryz.zeroValue296
 g1 := by kernel_rfl }
open Go.RowKit Go.Lib in
theorem Tryz.strings_Cut (s sep : ByteArray) (m : Int) (w : World) (hs : s.size < 4294967281) (hm : w.cell? ⟨0, 0, none⟩ = some (.int .i64 m)) :
   Calls Tryz.prog 147 #[.string s, .string sep] w fun e w' => e = .returned (.tuple #[.string ⟨(Lib.cut s.data.toList sep.data.toList).1.toArray⟩, .string ⟨(Lib.cut s.data.toList sep.data.toList).2.1.toArray⟩, .bool (Lib.cut s.data.toList sep.data.toList).2.2]) ∧ ∃ n, w' = w.drewN n := Any.strings_Cut Tryz.lays145 s sep m w hs hm
def Tryz.lays99_ren : Go.Shelf.Ren := ⟨fun | 99 => 48 | 206 => 100 | n => n, fun | 9 => 9 | 4 => 4 | 3 => 3 | n => n, fun | n => n⟩
theorem Tryz.lays99 : Go.Proofs.Lays.n99 Tryz.prog Tryz.lays99_ren := {
 mixed := by kernel_rfl
 f99 := Tryz.func48.trans (congrArg some (by kernel_rfl))
 f206 := Tryz.func100.trans (congrArg some (by kernel_rfl))
 t3 := Tryz.underlying3
 a3 := Tryz.isAgg3
 z3 := Tryz.sizeOf3
 v3 := Tryz.zeroValue3
 t4 := Tryz.underlying4
 a4 := Tryz.isAgg4
 z4 := Tryz.sizeOf4
 v4 := Tryz.zeroValue4
 t9 := Tryz.underlying9
 a9 := Tryz.isAgg9
 z9 := Tryz.sizeOf9
 v9 := Tryz.zeroValue9 }
open Go.RowKit Go.Lib in
theorem Tryz.strings_HasPrefix (s p : ByteArray) (w : World) :
   Calls Tryz.prog 48 #[.string s, .string p] w fun e w' => e = .returned (.bool (Lib.hasPrefix s.data.toList p.data.toList)) ∧ w' = w := Any.strings_HasPrefix Tryz.lays99 s p w
def Tryz.lays100_ren : Go.Shelf.Ren := ⟨fun | 100 => 302 | 207 => 223 | n => n, fun | 9 => 9 | 4 => 4 | 3 => 3 | n => n, fun | n => n⟩
theorem Tryz.lays100 : Go.Proofs.Lays.n100 Tryz.prog Tryz.lays100_ren := {
 mixed := by kernel_rfl
 f100 := Tryz.func302.trans (congrArg some (by kernel_rfl))
 f207 := Tryz.func223.trans (congrArg some (by kernel_rfl))
 t3 := Tryz.underlying3
 a3 := Tryz.isAgg3
 z3 := Tryz.sizeOf3
 v3 := Tryz.zeroValue3
 t4 := Tryz.underlying4
 a4 := Tryz.isAgg4
 z4 := Tryz.sizeOf4
 v4 := Tryz.zeroValue4
 t9 := Tryz.underlying9
 a9 := Tryz.isAgg9
 z9 := Tryz.sizeOf9
 v9 := Tryz.zeroValue9 }
open Go.RowKit Go.Lib in
theorem Tryz.strings_HasSuffix (s p : ByteArray) (w : World) (hs : s.size ≤ 9223372036854775807) :
   Calls Tryz.prog 302 #[.string s, .string p] w fun e w' => e = .returned (.bool (Lib.hasSuffix s.data.toList p.data.toList)) ∧ w' = w := Any.strings_HasSuffix Tryz.lays100 s p w hs
def Tryz.lays101_ren : Go.Shelf.Ren := ⟨fun | 101 => 186 | 208 => 241 | 206 => 100 | n => n, fun | 9 => 9 | 4 => 4 | 3 => 3 | n => n, fun | n => n⟩
theorem Tryz.lays101 : Go.Proofs.Lays.n101 Tryz.prog Tryz.lays101_ren := {
 mixed := by kernel_rfl
 f101 := Tryz.func186.trans (congrArg some (by kernel_rfl))
 f206 := Tryz.func100.trans (congrArg some (by kernel_rfl))
 f208 := Tryz.func241.trans (congrArg some (by kernel_rfl))
 t3 := Tryz.underlying3
 a3 := Tryz.isAgg3
 z3 := Tryz.sizeOf3
 v3 := Tryz.zeroValue3
 t4 := Tryz.underlying4
 a4 := Tryz.isAgg4
 z4 := Tryz.sizeOf4
 v4 := Tryz.zeroValue4
 t9 := Tryz.underlying9
 a9 := Tryz.isAgg9
 z9 := Tryz.sizeOf9
 v9 := Tryz.zeroValue9 }
open Go.RowKit Go.Lib in
theorem Tryz.strings_TrimPrefix (s p : ByteArray) (w : World) :
   Calls Tryz.prog 186 #[.string s, .string p] w fun e w' => e = .returned (.string ⟨(Lib.trimPrefix s.data.toList p.data.toList).toArray⟩) ∧ w' = w := Any.strings_TrimPrefix Tryz.lays101 s p w
def Tryz.lays146_ren : Go.Shelf.Ren := ⟨fun | 146 => 51 | 221 => 107 | 268 => 161 | 138 => 162 | 143 => 159 | 195 => 218 | 197 => 219 | 218 => 220 | 219 => 216 | 260 => 255 | 217 => 143 | 225 => 214 | 224 => 213 | 267 => 253 | 266 => 194 | 314 => 277 | n => n, fun | 9 => 9 | 31 => 23 | 3 => 3 | 4 => 4 | 0 => 0 | 105 => 250 | 21 => 21 | 5 => 5 | 46 => 201 | 119 => 299 | 139 => 302 | 138 => 301 | 146 => 296 | 51 => 243 | n => n, fun | 1 => 0 | 3 => 1 | 4 => 2 | n => n⟩
theorem Tryz.lays146 : Go.Proofs.Lays.n146 Tryz.prog Tryz.lays146_ren := {
 mixed := by kernel_rfl
 f138 := Tryz.func162.trans (congrArg some (by kernel_rfl))
 f143 := Tryz.func159.trans (congrArg some (by kernel_rfl))
 f146 := Tryz.func51.trans (congrArg some (by kernel_rfl))
 f195 := Tryz.func218.trans (congrArg some (by kernel_rfl))
 f197 := Tryz.func219.trans (congrArg some (by kernel_rfl))
 f217 := Tryz.func143.trans (congrArg some (by kernel_rfl))
 f218 := Tryz.func220.trans (congrArg some (by kernel_rfl))
 f219 := Tryz.func216.trans (congrArg some (by kernel_rfl))
 f221 := Tryz.func107.trans (congrArg some (by kernel_rfl))
 f224 := Tryz.func213.trans (congrArg some (by kernel_rfl))
 f225 := Tryz.func214.trans (congrArg some (by kernel_rfl))
 f260 := Tryz.func255.trans (congrArg some (by kernel_rfl))
 f266 := Tryz.func194.trans (congrArg some (by kernel_rfl))
 f267 := Tryz.func253.trans (congrArg some (by kernel_rfl))
 f268 := Tryz.func161.trans (congrArg some (by kernel_rfl))
 f314 := Tryz.func277.trans (congrArg some (by kernel_rfl))
 t0 := Tryz.underlying0
 a0 := Tryz.isAgg0
 z0 := Tryz.sizeOf0
 v0 := Tryz.zeroValue0
 t3 := Tryz.underlying3
 a3 := Tryz.isAgg3
 z3 := Tryz.sizeOf3
 v3 := Tryz.zeroValue3
 t4 := Tryz.underlying4
 a4 := Tryz.isAgg4
 z4 := Tryz.sizeOf4
 v4 := Tryz.zeroValue4
 t5 := Tryz.underlying5
 a5 := Tryz.isAgg5
 z5 := Tryz.sizeOf5
 v5 := Tryz.zeroValue5
 t9 := Tryz.underlying9
 a9 := Tryz.isAgg9
 z9 := Tryz.sizeOf9
 v9 := Tryz.zeroValue9
 t21 := Tryz.underlying21
 a21 := Tryz.isAgg21
 z21 := Tryz.sizeOf21
 v21 := Tryz.zeroValue21
 t31 := Tryz.underlying23
 a31 := Tryz.isAgg23
 z31 := Tryz.sizeOf23
 v31 := Tryz.zeroValue23
 t46 := Tryz.underlying201
 a46 := Tryz.isAgg201
 z46 := Tryz.sizeOf201
 v46 := Tryz.zeroValue201
 t51 := Tryz.underlying243
 a51 := Tryz.isAgg243
 z51 := Tryz.sizeOf243
 v51 := Tryz.zeroValue243
 t105 := Tryz.underlying250
 a105 := Tryz.isAgg250
 z105 := Tryz.sizeOf250
 v105 := Tryz.zeroValue250
 t119 := Tryz.underlying299
 a119 := Tryz.isAgg299
 z119 := Tryz.sizeOf299
 t138 := Tryz.underlying301
 a138 := Tryz.isAgg301
 z138 := Tryz.sizeOf301
 v138 := Tryz.zeroValue301
 t139 := Tryz.underlying302
 a139 := Tryz.isAgg302
 z139 := Tryz.sizeOf302
 v139 := Tryz.zeroValue302
 t146 := Tryz.underlying296
 a146 := Tryz.isAgg296
 z146 := Tryz.sizeOf296
 v146 := Tryz.zeroValue296
 g1 := by kernel_rfl
 g3 := by kernel_rfl
 g4 := by kernel_rfl }
open Go.RowKit Go.Lib in
theorem Tryz.strings_Split (s sep : ByteArray) (m : Int) (w : World) (hs : s.size < 4294967281) (hm : w.cell? ⟨0, 0, none⟩ = some (.int .i64 m)) (h1 : 1 ≤ sep.size) :
   Calls Tryz.prog 51 #[.string s, .string sep] w fun e w' =>
     e = .returned (.slice (some ⟨w.heap.size, 0, none⟩) (Lib.countB s sep + 1) (Lib.countB s sep + 1)) ∧ w' = w.alloc (.cells ((Lib.splitB sep 0 (Lib.countB s sep) s).map Value.string).toArray 9) := Any.strings_Split Tryz.lays146 (by kernel_rfl) s sep m w hs hm h1
def Tryz.lays155_ren : Go.Shelf.Ren := ⟨fun | 155 => 140 | 154 => 192 | 138 => 162 | 165 => 217 | 143 => 159 | 166 => 65 | 197 => 219 | 169 => 66 | 195 => 218 | 218 => 220 | 240 => 117 | 241 => 254 | 219 => 216 | 260 => 255 | 276 => 176 | 277 => 278 | 217 => 143 | 225 => 214 | 224 => 213 | 267 => 253 | 266 => 194 | 314 => 277 | n => n, fun | 9 => 9 | 3 => 3 | 4 => 4 | 72 => 122 | 0 => 0 | 76 => 125 | 105 => 250 | 21 => 21 | 5 => 5 | 70 => 120 | 20 => 20 | 37 => 55 | 75 => 124 | 127 => 175 | 164 => 218 | 46 => 201 | 119 => 299 | 139 => 302 | 138 => 301 | 146 => 296 | 51 => 243 | 80 => 127 | n => n, fun | 1 => 0 | 3 => 1 | 4 => 2 | n => n⟩
theorem Tryz.lays155 : Go.Proofs.Lays.n155 Tryz.prog Tryz.lays155_ren := {
 mixed := by kernel_rfl
 f138 := Tryz.func162.trans (congrArg some (by kernel_rfl))
 f143 := Tryz.func159.trans (congrArg some (by kernel_rfl))
 f154 := Tryz.func192.trans (congrArg some (by kernel_rfl))
 f155 := Tryz.func140.trans (congrArg some (by kernel_rfl))
 f165 := Tryz.func217.trans (congrArg some (by kernel_rfl))
 f166 := Tryz.func65.trans (congrArg some (by kernel_rfl))
 f169 := Tryz.func66.trans (congrArg some (by kernel_rfl))
 f195 := Tryz.func218.trans (congrArg some (by kernel_rfl))
 f197 := Tryz.func219.trans (congrArg some (by kernel_rfl))
 f217 := Tryz.func143.trans (congrArg some (by kernel_rfl))
 f218 := Tryz.func220.trans (congrArg some (by kernel_rfl))
 f219 := Tryz.func216.trans (congrArg some (by kernel_rfl))
 f224 := Tryz.func213.trans (congrArg some (by kernel_rfl))
 f225 := Tryz.func214.trans (congrArg some (by kernel_rfl))
 f240 := Tryz.func117.trans (congrArg some (by kernel_rfl))
 f241 := Tryz.func254.trans (congrArg some (by kernel_rfl))
 f260 := Tryz.func255.trans (congrArg some (by kernel_rfl))
 f266 := Tryz.func194.trans (congrArg some (by kernel_rfl))
 f267 := Tryz.func253.trans (congrArg some (by kernel_rfl))
 f276 := Tryz.func176.trans (congrArg some (by kernel_rfl))
 f277 := Tryz.func278.trans (congrArg some (by kernel_rfl))
 f314 := Tryz.func277.trans (congrArg some (by kernel_rfl))
 t0 := Tryz.underlying0
 a0 := Tryz.isAgg0
 z0 := Tryz.sizeOf0
 v0 := Tryz.zeroValue0
 t3 := Tryz.underlying3
 a3 := Tryz.isAgg3
 z3 := Tryz.sizeOf3
 v3 := Tryz.zeroValue3
 t4 := Tryz.underlying4
 a4 := Tryz.isAgg4
 z4 := Tryz.sizeOf4
 v4 := Tryz.zeroValue4
 t5 := Tryz.underlying5
 a5 := Tryz.isAgg5
 z5 := Tryz.sizeOf5
 v5 := Tryz.zeroValue5
 t9 := Tryz.underlying9
 a9 := Tryz.isAgg9
 z9 := Tryz.sizeOf9
 v9 := Tryz.zeroValue9
 t20 := Tryz.underlying20
 a20 := Tryz.isAgg20
 z20 := Tryz.sizeOf20
 v20 := Tryz.zeroValue20
 t21 := Tryz.underlying21
 a21 := Tryz.isAgg21
 z21 := Tryz.sizeOf21
 v21 := Tryz.zeroValue21
 t37 := Tryz.underlying55
 a37 := Tryz.isAgg55
 z37 := Tryz.sizeOf55
 v37 := Tryz.zeroValue55
 t46 := Tryz.underlying201
 a46 := Tryz.isAgg201
 z46 := Tryz.sizeOf201
 v46 := Tryz.zeroValue201
 t51 := Tryz.underlying243
 a51 := Tryz.isAgg243
 z51 := Tryz.sizeOf243
 v51 := Tryz.zeroValue243
 t70 := Tryz.underlying120
 a70 := Tryz.isAgg120
 z70 := Tryz.sizeOf120
 v70 := Tryz.zeroValue120
 t72 := Tryz.underlying122
 a72 := Tryz.isAgg122
 z72 := Tryz.sizeOf122
 v72 := Tryz.zeroValue122
 t75 := Tryz.underlying124
 a75 := Tryz.isAgg124
 z75 := Tryz.sizeOf124
 v75 := Tryz.zeroValue124
 t76 := Tryz.underlying125
 a76 := Tryz.isAgg125
 z76 := Tryz.sizeOf125
 v76 := Tryz.zeroValue125
 t105 := Tryz.underlying250
 a105 := Tryz.isAgg250
 z105 := Tryz.sizeOf250
 v105 := Tryz.zeroValue250
 t119 := Tryz.underlying299
 a119 := Tryz.isAgg299
 z119 := Tryz.sizeOf299
 t127 := Tryz.underlying175
 a127 := Tryz.isAgg175
 z127 := Tryz.sizeOf175
 v127 := Tryz.zeroValue175
 t138 := Tryz.underlying301
 a138 := Tryz.isAgg301
 z138 := Tryz.sizeOf301
 v138 := Tryz.zeroValue301
 t139 := Tryz.underlying302
 a139 := Tryz.isAgg302
 z139 := Tryz.sizeOf302
 v139 := Tryz.zeroValue302
 t146 := Tryz.underlying296
 a146 := Tryz.isAgg296
 z146 := Tryz.sizeOf296
 v146 := Tryz.zeroValue296
 t164 := Tryz.underlying218
 a164 := Tryz.isAgg218
 z164 := Tryz.sizeOf218
 v164 := Tryz.zeroValue218
 g1 := by kernel_rfl
 g3 := by kernel_rfl
 g4 := by kernel_rfl }
theorem Tryz.Builder_Extra_155 : Builder.Extra Tryz.prog Tryz.lays155_ren := {
 sizeBuilder := by kernel_rfl
 liesBuilder := by kernel_rfl
 t5 := Tryz.underlying5
 a5 := Tryz.isAgg5
 z5 := Tryz.sizeOf5
 v5 := Tryz.zeroValue5
 infoByte := by kernel_rfl
 cellsByte := by kernel_rfl
 sizeByte := by kernel_rfl
 neB5 := by decide }
open Go.RowKit Go.Lib in
theorem Tryz.strings_ReplaceAll (s old new : ByteArray) (m : Int) (w : World) (hs : s.size < 4294967281) (hm : w.cell? ⟨0, 0, none⟩ = some (.int .i64 m)) (h1 : 1 ≤ old.size) (hlen : s.size + Lib.countB s old * new.size ≤ 140737488355328) :
   Calls Tryz.prog 140 #[.string s, .string old, .string new] w fun e w' =>
     e = .returned (.string ⟨(Lib.replaceAll s.data.toList old.data.toList new.data.toList).toArray⟩) ∧ Below w.heap.size w w' := Any.strings_ReplaceAll Tryz.lays155 Tryz.Builder_Extra_155 s old new m w hs hm h1 hlen
def Tryz.laysM146_ren : Go.Shelf.Ren := ⟨fun | 146 => 51 | 221 => 107 | 268 => 161 | 138 => 162 | 143 => 159 | 195 => 218 | 197 => 219 | 218 => 220 | 219 => 216 | 260 => 255 | 217 => 143 | 225 => 214 | 224 => 213 | 267 => 253 | 266 => 194 | 314 => 277 | n => n, fun | 9 => 9 | 31 => 23 | 3 => 3 | 4 => 4 | 0 => 0 | 105 => 250 | 21 => 21 | 5 => 5 | 46 => 201 | 119 => 299 | 139 => 302 | 138 => 301 | 146 => 296 | 51 => 243 | n => n, fun | 1 => 0 | 3 => 1 | 4 => 2 | n => n⟩
theorem Tryz.laysM146 : Go.Proofs.LaysM.n146 Tryz.prog Tryz.laysM146_ren := {
 mixed := by kernel_rfl
 f138 := Tryz.func162.trans (congrArg some (by kernel_rfl))
 f143 := Tryz.func159.trans (congrArg some (by kernel_rfl))
 f146 := Tryz.func51.trans (congrArg some (by kernel_rfl))
 f195 := Tryz.func218.trans (congrArg some (by kernel_rfl))
 f197 := Tryz.func219.trans (congrArg some (by kernel_rfl))
 f217 := Tryz.func143.trans (congrArg some (by kernel_rfl))
 f218 := Tryz.func220.trans (congrArg some (by kernel_rfl))
 f219 := Tryz.func216.trans (congrArg some (by kernel_rfl))
 f221 := Tryz.func107.trans (congrArg some (by kernel_rfl))
 f224 := Tryz.func213.trans (congrArg some (by kernel_rfl))
 f225 := Tryz.func214.trans (congrArg some (by kernel_rfl))
 f260 := Tryz.func255.trans (congrArg some (by kernel_rfl))
 f266 := Tryz.func194.trans (congrArg some (by kernel_rfl))
 f267 := Tryz.func253.trans (congrArg some (by kernel_rfl))
 f268 := Tryz.func161.trans (congrArg some (by kernel_rfl))
 f314 := Tryz.func277.trans (congrArg some (by kernel_rfl))
 t0 := Tryz.underlying0
 a0 := Tryz.isAgg0
 z0 := Tryz.sizeOf0
 v0 := Tryz.zeroValue0
 t3 := Tryz.underlying3
 a3 := Tryz.isAgg3
 z3 := Tryz.sizeOf3
 v3 := Tryz.zeroValue3
 t4 := Tryz.underlying4
 a4 := Tryz.isAgg4
 z4 := Tryz.sizeOf4
 v4 := Tryz.zeroValue4
 t5 := Tryz.underlying5
 a5 := Tryz.isAgg5
 z5 := Tryz.sizeOf5
 v5 := Tryz.zeroValue5
 t9 := Tryz.underlying9
 a9 := Tryz.isAgg9
 z9 := Tryz.sizeOf9
 v9 := Tryz.zeroValue9
 t21 := Tryz.underlying21
 a21 := Tryz.isAgg21
 z21 := Tryz.sizeOf21
 v21 := Tryz.zeroValue21
 t31 := Tryz.underlying23
 a31 := Tryz.isAgg23
 z31 := Tryz.sizeOf23
 v31 := Tryz.zeroValue23
 t46 := Tryz.underlying201
 a46 := Tryz.isAgg201
 z46 := Tryz.sizeOf201
 v46 := Tryz.zeroValue201
 t51 := Tryz.underlying243
 a51 := Tryz.isAgg243
 z51 := Tryz.sizeOf243
 v51 := Tryz.zeroValue243
 t105 := Tryz.underlying250
 a105 := Tryz.isAgg250
 z105 := Tryz.sizeOf250
 v105 := Tryz.zeroValue250
 t119 := Tryz.underlying299
 a119 := Tryz.isAgg299
 z119 := Tryz.sizeOf299
 t138 := Tryz.underlying301
 a138 := Tryz.isAgg301
 z138 := Tryz.sizeOf301
 v138 := Tryz.zeroValue301
 t139 := Tryz.underlying302
 a139 := Tryz.isAgg302
 z139 := Tryz.sizeOf302
 v139 := Tryz.zeroValue302
 t146 := Tryz.underlying296
 a146 := Tryz.isAgg296
 z146 := Tryz.sizeOf296
 v146 := Tryz.zeroValue296
 g1 := by kernel_rfl
 g3 := by kernel_rfl
 g4 := by kernel_rfl
 i0 := by kernel_rfl
 i3 := by kernel_rfl
 i4 := by kernel_rfl
 i5 := by kernel_rfl
 i9 := by kernel_rfl
 i21 := by kernel_rfl
 i31 := by kernel_rfl
 i46 := by kernel_rfl
 i51 := by kernel_rfl
 i105 := by kernel_rfl
 i138 := by kernel_rfl
 i139 := by kernel_rfl
 i146 := by kernel_rfl
 m1 := by kernel_rfl
 s1_3 := fun w h => Go.Proofs.cell_of_shapedOpen_int (zero := #[.int .i64 0]) (t := 3) h (of_decide_eq_true (by kernel_rfl)) (by kernel_rfl) rfl (by kernel_rfl) (by kernel_rfl) Tryz.underlying3
 m3 := by kernel_rfl
 m4 := by kernel_rfl }
def Tryz.lays229_ren : Go.Shelf.Ren := ⟨fun | 229 => 195 | n => n, fun | 9 => 9 | 40 => 231 | 31 => 23 | 152 => 273 | 3 => 3 | 0 => 0 | 4 => 4 | 21 => 21 | 154 => 275 | n => n, fun | n => n⟩
theorem Tryz.lays229 : Go.Proofs.Lays.n229 Tryz.prog Tryz.lays229_ren := {
 mixed := by kernel_rfl
 f229 := Tryz.func195.trans (congrArg some (by kernel_rfl))
 t0 := Tryz.underlying0
 a0 := Tryz.isAgg0
 z0 := Tryz.sizeOf0
 v0 := Tryz.zeroValue0
 t3 := Tryz.underlying3
 a3 := Tryz.isAgg3
 z3 := Tryz.sizeOf3
 v3 := Tryz.zeroValue3
 t4 := Tryz.underlying4
 a4 := Tryz.isAgg4
 z4 := Tryz.sizeOf4
 v4 := Tryz.zeroValue4
 t9 := Tryz.underlying9
 a9 := Tryz.isAgg9
 z9 := Tryz.sizeOf9
 v9 := Tryz.zeroValue9
 t21 := Tryz.underlying21
 a21 := Tryz.isAgg21
 z21 := Tryz.sizeOf21
 v21 := Tryz.zeroValue21
 t31 := Tryz.underlying23
 a31 := Tryz.isAgg23
 z31 := Tryz.sizeOf23
 v31 := Tryz.zeroValue23
 t40 := Tryz.underlying231
 a40 := Tryz.isAgg231
 z40 := Tryz.sizeOf231
 v40 := Tryz.zeroValue231
 t152 := Tryz.underlying273
 a152 := Tryz.isAgg273
 z152 := Tryz.sizeOf273
 v152 := Tryz.zeroValue273
 t154 := Tryz.underlying275
 a154 := Tryz.isAgg275
 z154 := Tryz.sizeOf275
 v154 := Tryz.zeroValue275 }
open Go.RowKit Go.Lib in
theorem Tryz.strings_FieldsFunc_runes (g : Nat) (lb : Array Value) (eg : ∀ args w, (callFunc g args).run Tryz.prog w = .ok (.enter g args) w) (p : Nat → Bool) (s : ByteArray) (w : World) (hs : s.size ≤ 4294967296) (hp : PredAtRunes Tryz.prog g lb p w) :
   Calls Tryz.prog 195 #[.string s, .func (.func g) #[] lb] w fun e w' => ∃ A, e = .returned (.slice (some ⟨A, 0, none⟩) (Lib.goFieldsP p s).length (Lib.goFieldsP p s).length) ∧ w.heap.size ≤ A ∧
     w'.ownsRow w.heap.size 9 1 (.slice (some ⟨A, 0, none⟩) (Lib.goFieldsP p s).length (Lib.goFieldsP p s).length) (Lib.goFieldsP p s).length ((Lib.goFieldsP p s).map Value.string) ∧ Below w.heap.size w w' := Any.strings_FieldsFunc_runes Tryz.lays229 g lb eg p s w hs hp (by kernel_rfl) (by kernel_rfl)
def Tryz.lays110_ren : Go.Shelf.Ren := ⟨fun | 110 => 296 | 109 => 300 | n => n, fun | 31 => 23 | 9 => 9 | 4 => 4 | 3 => 3 | 0 => 0 | n => n, fun | n => n⟩
theorem Tryz.lays110 : Go.Proofs.Lays.n110 Tryz.prog Tryz.lays110_ren := {
 mixed := by kernel_rfl
 f109 := Tryz.func300.trans (congrArg some (by kernel_rfl))
 f110 := Tryz.func296.trans (congrArg some (by kernel_rfl))
 t0 := Tryz.underlying0
 a0 := Tryz.isAgg0
 z0 := Tryz.sizeOf0
 v0 := Tryz.zeroValue0
 t3 := Tryz.underlying3
 a3 := Tryz.isAgg3
 z3 := Tryz.sizeOf3
 v3 := Tryz.zeroValue3
 t4 := Tryz.underlying4
 a4 := Tryz.isAgg4
 z4 := Tryz.sizeOf4
 v4 := Tryz.zeroValue4
 t9 := Tryz.underlying9
 a9 := Tryz.isAgg9
 z9 := Tryz.sizeOf9
 v9 := Tryz.zeroValue9
 t31 := Tryz.underlying23
 a31 := Tryz.isAgg23
 z31 := Tryz.sizeOf23
 v31 := Tryz.zeroValue23 }
open Go.Lib in
theorem Tryz.slices_Contains_string (b off n c : Nat) (zs : List ByteArray) (x : ByteArray) (w : World) (hz : n ≤ zs.length) (hbig : n ≤ 9223372036854775807) (hc : ∀ j, j < zs.length → w.cell? ⟨b, off + j, none⟩ = some (.string (zs.getD j ByteArray.empty))) :
   Calls Tryz.prog 296 #[.slice (some ⟨b, off, none⟩) n c, .string x] w fun e w' => e = .returned (.bool (Lib.containsS (zs.take n) x)) ∧ w' = w := Any.slices_Contains_string Tryz.lays110 b off n c zs x w hz hbig hc
open Go.Lib in
theorem Tryz.slices_Contains_string_empty (a : Option Addr) (c : Nat) (x : ByteArray) (w : World) :
   Calls Tryz.prog 296 #[.slice a 0 c, .string x] w fun e w' => e = .returned (.bool false) ∧ w' = w := Any.slices_Contains_string_empty Tryz.lays110 a c x w
def Tryz.laysNm216_ren : Go.Shelf.Ren := ⟨fun | 16 => 301 | n => n, fun | 24 => 23 | 9 => 9 | 4 => 4 | n => n, fun | n => n⟩
theorem Tryz.laysNm216 : Go.Proofs.Lays2.n16 Tryz.prog Tryz.laysNm216_ren := {
 mixed := by kernel_rfl
 f16 := Tryz.func301.trans (congrArg some (by kernel_rfl))
 t4 := Tryz.underlying4
 a4 := Tryz.isAgg4
 z4 := Tryz.sizeOf4
 v4 := Tryz.zeroValue4
 t9 := Tryz.underlying9
 a9 := Tryz.isAgg9
 z9 := Tryz.sizeOf9
 v9 := Tryz.zeroValue9
 t24 := Tryz.underlying23
 a24 := Tryz.isAgg23
 z24 := Tryz.sizeOf23
 v24 := Tryz.zeroValue23
 i9 := by kernel_rfl }
open Go.RowKit Go.Lib in
theorem Tryz.slices_Clone_string (b off n c : Nat) (zs : List ByteArray) (w : World) (hz : n ≤ zs.length) (hbig : n * 16 ≤ 140737488355328) (hc : ∀ j, j < zs.length → w.cell? ⟨b, off + j, none⟩ = some (.string (zs.getD j ByteArray.empty))) :
   Calls Tryz.prog 301 #[.slice (some ⟨b, off, none⟩) n c] w fun e w' => ∃ v', e = .returned v' ∧ w'.ownsRow w.heap.size 9 1 v' n ((zs.take n).map (Value.string)) ∧ v' ≠ .slice none 0 0 ∧ Below w.heap.size w w' := Any.slices_Clone_string Tryz.laysNm216 b off n c zs w hz hbig hc
open Go.RowKit Go.Lib in
theorem Tryz.slices_Clone_string_nil (n c : Nat) (w : World) :
   Calls Tryz.prog 301 #[.slice none n c] w fun e w' => e = .returned (.slice none 0 0) ∧ w' = w := Any.slices_Clone_string_nil Tryz.laysNm216 n c w
open Go.RowKit Go.Lib in
theorem Tryz.slices_Clone_string_zero (a : Addr) (c : Nat) (w : World) :
   Calls Tryz.prog 301 #[.slice (some a) 0 c] w fun e w' => ∃ v', e = .returned v' ∧ w'.ownsRow w.heap.size 9 1 v' 0 [] ∧ v' ≠ .slice none 0 0 ∧ Below w.heap.size w w' := Any.slices_Clone_string_zero Tryz.laysNm216 a c w
def Tryz.laysSlK4_ren : Go.Shelf.Ren := ⟨fun | 4 => 197 | n => n, fun | 22 => 55 | 4 => 4 | 5 => 5 | n => n, fun | n => n⟩
theorem Tryz.laysSlK4 : Go.Proofs.SlLaysK.n4 Tryz.prog Tryz.laysSlK4_ren := {
 mixed := by kernel_rfl
 f4 := Tryz.func197.trans (congrArg some (by kernel_rfl))
 t4 := Tryz.underlying4
 a4 := Tryz.isAgg4
 z4 := Tryz.sizeOf4
 v4 := Tryz.zeroValue4
 t22 := Tryz.underlying55
 a22 := Tryz.isAgg55
 z22 := Tryz.sizeOf55
 v22 := Tryz.zeroValue55
 t5 := Tryz.underlying5
 i5 := by kernel_rfl }
open Go.RowKit Go.Lib in
theorem Tryz.bytes_Clone_at (a : Addr) (n c : Nat) (xs : List Int) (w : World) (hx : xs.length = n) (hbig : n ≤ 140737488355328) (hc : ∀ i, i < n → w.cell? (a.add i) = some (.int .u8 (xs.getD i 0))) :
   Calls Tryz.prog 197 #[.slice (some a) n c] w fun e w' => ∃ v', e = .returned v' ∧ w'.ownsRow w.heap.size 5 1 v' n (xs.map (Value.int .u8)) ∧ v' ≠ .slice none 0 0 ∧ Below w.heap.size w w' := Any.bytes_Clone_at Tryz.laysSlK4 a n c xs w hx hbig hc
open Go.RowKit Go.Lib in
theorem Tryz.bytes_Clone_nil (n c : Nat) (w : World) :
   Calls Tryz.prog 197 #[.slice none n c] w fun e w' => e = .returned (.slice none 0 0) ∧ w' = w := Any.bytes_Clone_nil Tryz.laysSlK4 n c w
open Go.RowKit in
theorem Tryz.strings_Trim_laid (s cutset : ByteArray) (w : World) (hs : s.size ≤ 9223372036854775807) (hcs : cutset.size < 4294967281) (hascii : ∀ (j : Nat) b, cutset.data.toList[j]? = some b → b.toNat < 128) :
   Calls Tryz.prog 187 #[.string s, .string cutset] w fun e w' => e = .returned (.string ⟨(Lib.trimS s.data.toList cutset.data.toList).toArray⟩) ∧ Below w.heap.size w w' := Any.strings_Trim_laid Tryz.lays160 (by kernel_rfl) s cutset w hs hcs hascii
open Go.RowKit in
theorem Tryz.strings_TrimLeft_laid (s cutset : ByteArray) (w : World) (hcs : cutset.size < 4294967281) (hascii : ∀ (j : Nat) b, cutset.data.toList[j]? = some b → b.toNat < 128) :
   Calls Tryz.prog 139 #[.string s, .string cutset] w fun e w' => e = .returned (.string ⟨(Lib.trimLeftS s.data.toList cutset.data.toList).toArray⟩) ∧ Below w.heap.size w w' := Any.strings_TrimLeft_laid Tryz.lays161 (by kernel_rfl) s cutset w hcs hascii
open Go.RowKit in
theorem Tryz.strings_TrimRight_laid (s cutset : ByteArray) (w : World) (hs : s.size ≤ 9223372036854775807) (hcs : cutset.size < 4294967281) (hascii : ∀ (j : Nat) b, cutset.data.toList[j]? = some b → b.toNat < 128) :
   Calls Tryz.prog 188 #[.string s, .string cutset] w fun e w' => e = .returned (.string ⟨(Lib.trimRightS s.data.toList cutset.data.toList).toArray⟩) ∧ Below w.heap.size w w' := Any.strings_TrimRight_laid Tryz.lays162 (by kernel_rfl) s cutset w hs hcs hascii
end Go.Proofs
namespace Go.Proofs.YtpheeheikigenaaGreatDoor
section
open Go.RowKit Go.Deep Ln
attribute [local go_sem] bt_eq
theorem take_drop_len {α : Type} (p : α → Bool) (l : List α) : (l.takeWhile p).length + (l.dropWhile p).length = l.length := by
 rw [← List.length_append, List.takeWhile_append_dropWhile]
theorem odd_len (l : T) (n : Nat) (h : n = (Lib.trimRightB l 92).length) : (((l.length : Int) - (n : Int)) % 2 == 1) = oddB l ∧ n ≤ l.length := by
 have h1 := take_drop_len (· == (92 : UInt8)) l.reverse
 rw [List.length_reverse] at h1
 have h2 : (Lib.trimRightB l 92).length = (l.reverse.dropWhile (· == (92 : UInt8))).length := by unfold Lib.trimRightB; rw [List.length_reverse]
 rw [h2] at h
 refine ⟨?_, by omega⟩
 unfold oddB
 rw [Bool.eq_iff_iff]
 simp only [beq_iff_eq]
 omega
theorem continued_any (l : T) (w : World) (h : l.length ≤ 1000000) : Calls Tryz.prog 185 #[.string (bs l)] w fun e w' => e = .returned (.bool (oddB l)) ∧ w = w' := by
 have hs : (bs l).size ≤ 9223372036854775807 := by rw [bs_size]; omega
 have HT := hide (Tryz.strings_TrimRight_one (bs l) 92 (by decide) w hs)
 rw [bs_list] at HT
 obtain ⟨t, ht⟩ : ∃ t, (⟨(Lib.trimRightB l 92).toArray⟩ : ByteArray) = t := ⟨_, rfl⟩
 have htz : t.size = (Lib.trimRightB l 92).length := by rw [← ht]; rfl
 obtain ⟨h1, h2⟩ := odd_len l t.size htz
 rw [ht] at HT
 have hz : (bs l).size = l.length := bs_size l
 have h3 : t.size ≤ (bs l).size := by omega
 have h4 : (bs l).size ≤ 1000000 := by omega
 rw [← hz] at h1
 have H1 := hide h1
 generalize bs l = s at *
 generalize oddB l = b at H1
 clear h1 h2 ht htz hz hs
 have h5 : (0 : Int) ≤ (s.size : Int) - (t.size : Int) := by omega
 have h6 : (s.size : Int) - (t.size : Int) ≤ 1000000 := by omega
 go_enter Tryz.func185, Tryz.ntmps185
 go_wp2_with fail
 refine HT.out.mono ?_
 rintro e w' ⟨rfl, rfl⟩
 go_wp2
 go_ret
 refine ⟨?_, rfl⟩
 rw [← H1.out]
 rfl
theorem SR.of {w w' : World} {A : Option Addr} {L : List ByteArray} (h : SR w A L) (hs : w.heap.size ≤ w'.heap.size) (hc : ∀ a, A = some a → a.block < w.heap.size → w'.heap[a.block]? = w.heap[a.block]?) : SR w' A L := fun k x hk => by
 obtain ⟨g, o, e, hg, h1⟩ := h k x hk
 have hb := hc _ e hg
 exact ⟨g, o, e, by omega, (World.cell?_of_block (a := ⟨g, o + k, none⟩) hb).trans h1⟩
def LS (A : Option Addr) (L : List ByteArray) : Asn := fun T w => SR w A L ∧ ∀ a, A = some a → T a.block
theorem LS.fr (A : Option Addr) (L : List ByteArray) : Fr (LS A L) := by
 rintro T w w' ⟨h1, h2⟩ hb hs
 exact ⟨h1.of hs (fun a e _ => hb a.block (h2 a e)), h2⟩
def RDL (g : Nat) (A : Option Addr) (n c i : Nat) : Asn := fun T w => T g ∧ w.cell? ⟨g, 0, none⟩ = some (.slice A n c) ∧ w.cell? ⟨g, 1, none⟩ = some (.int .i64 i) ∧ w.frozen? ⟨g, 0, none⟩ = false ∧ w.frozen? ⟨g, 1, none⟩ = false
theorem RDL.fr (g : Nat) (A : Option Addr) (n c i : Nat) : Fr (RDL g A n c i) := by
 rintro T w w' ⟨h1, h2, h3, h4, h5⟩ hb hs
 exact ⟨h1, (World.cell?_of_block (hb g h1)).trans h2, (World.cell?_of_block (hb g h1)).trans h3, (World.frozen?_of_block (hb g h1)).trans h4, (World.frozen?_of_block (hb g h1)).trans h5⟩
def nxt (L : List ByteArray) (i : Nat) : Value := match L[i]? with
 | some s => .tuple #[.string s, .bool true]
 | none => .tuple #[.string ⟨#[]⟩, .bool false]
theorem Kp.ds (w : World) (a b g i : Nat) (u : Value) : Kp w (((w.drewN a).setCell ⟨g, i, none⟩ u).drewN b) (fun k => k = g) :=
 ⟨rfl, rfl, rfl, by rw [show (((w.drewN a).setCell ⟨g, i, none⟩ u).drewN b).heap.size = ((w.drewN a).setCell ⟨g, i, none⟩ u).heap.size from rfl, World.size_setCell]; exact Nat.le_refl _, fun k _ hne => blk_setCell_other (w.drewN a) ⟨g, i, none⟩ u k hne⟩
theorem Kp.drewN' {w w' : World} {S : Nat → Prop} (h : Kp w w' S) (n : Nat) : Kp w (w'.drewN n) S := ⟨h.os, h.tape, h.output, h.size, h.block⟩
theorem next_spec (g : Nat) (A : Option Addr) (L : List ByteArray) (c i : Nat) (hi : i ≤ L.length) (hc : L.length ≤ c) (hL : L.length ≤ 1000000) (_hc2 : c ≤ 1000000) :
   SpecE Tryz.prog 135 #[.pointer (some ⟨g, 0, none⟩)] (starA (LS A L) (RDL g A L.length c i)) (.returned (nxt L i)) (starA (LS A L) (RDL g A L.length c (if i < L.length then i + 1 else i))) := by
 rintro T w ⟨T1, T2, ⟨a1, a2⟩, ⟨b1, b2, b3, b4, b5⟩, s1, s2, d⟩ hT
 obtain ⟨n, hn⟩ : ∃ n, L.length = n := ⟨_, rfl⟩
 rw [hn] at hi hc hL b2 ⊢
 have HN := hide hn
 clear hn
 have hi0 : (0 : Int) ≤ (i : Int) := by omega
 have hi1 : (i : Int) ≤ 1000000 := by omega
 by_cases hlt : i < n
 · obtain ⟨x, hx⟩ : ∃ x, L[i]? = some x := ⟨L[i]'(by have := HN.out; omega), gE _⟩
   have HX := hide (show nxt L i = .tuple #[.string x, .bool true] by unfold nxt; rw [hx])
   obtain ⟨gs, os, rfl, hgs, hcs⟩ := a1 i x hx
   have hgne : gs ≠ g := fun e => by subst e; exact d gs (a2 _ rfl) b1
   have HA := hide a1
   have hgl := World.block_lt_of_cell? w _ b2
   rw [if_pos hlt]
   have hne : decide ((i : Int) = (n : Int)) = false := by simp; omega
   have hne2 : ((i : Int) == (n : Int)) = false := by simp; omega
   have hne3 : (i == n) = false := by simp; omega
   clear hx
   go_enter Tryz.func135, Tryz.ntmps135
   go_wp2_with fail
   go_quiet (fail)
   go_wp2_with fail
   have hgne2 : g ≠ gs := fun e => hgne e.symm
   go_quiet (fail)
   go_wp2_with fail
   go_ret2
   rw [HX.out]
   have hk := fun a b => Kp.ds w a b g 1 (.int .i64 ((i : Int) + 1))
   refine ⟨T, ⟨rfl, T1, T2, LS.fr _ _ T1 w _ ⟨HA.out, a2⟩ (fun k h1 => (hk _ _).block k (hT k (s1 k h1)) (fun e => d k h1 (e ▸ b1))) (hk _ _).size, ⟨b1, ?_, ?_, ?_, ?_⟩, s1, s2, d⟩, fun k h1 => ⟨.inl h1, Nat.lt_of_lt_of_le (hT k h1) (hk _ _).size⟩, (hk _ _).mono (fun k e => by subst e; exact s2 _ b1)⟩
   · exact (World.cell?_setCell_other _ ⟨g, 1, none⟩ ⟨g, 0, none⟩ _ (by simp)).trans b2
   · exact World.cell?_setCell_same _ ⟨g, 1, none⟩ _ b3
   · exact (World.frozen?_setCell ..).trans b4
   · exact (World.frozen?_setCell ..).trans b5
 · obtain rfl : i = n := by omega
   have HX := hide (show nxt L i = .tuple #[.string ⟨#[]⟩, .bool false] by unfold nxt; rw [List.getElem?_eq_none (by have := HN.out; omega)])
   have HA := hide a1
   rw [if_neg hlt]
   go_enter Tryz.func135, Tryz.ntmps135
   go_wp2_with fail
   go_quiet (fail)
   go_wp2
   go_ret2
   rw [HX.out]
   exact ⟨T, ⟨rfl, T1, T2, ⟨HA.out, a2⟩, ⟨b1, b2, b3, b4, b5⟩, s1, s2, d⟩, fun k h1 => ⟨.inl h1, hT k h1⟩, (Kp.refl w T).drewN' _⟩
end
section
open Go.RowKit Go.Deep
def wR (x : Nat) : Bool := x == 32 || x == 9 || x == 10
theorem words1_any (x : Nat) (w : World) : Calls Tryz.prog 196 #[.int .i32 x] w fun e w' => e = .returned (.bool (wR x)) ∧ ∃ q, w' = w.drewN q := by
 by_cases h1 : x = 32
 · subst h1
   go_enter Tryz.func196, Tryz.ntmps196
   go_wp2
   go_ret
   exact ⟨rfl, 0, rfl⟩
 by_cases h2 : x = 9
 · subst h2
   go_enter Tryz.func196, Tryz.ntmps196
   go_wp2
   go_ret
   exact ⟨rfl, 0, rfl⟩
 by_cases h3 : x = 10
 · subst h3
   go_enter Tryz.func196, Tryz.ntmps196
   go_wp2
   go_ret
   exact ⟨rfl, 0, rfl⟩
 have hw : wR x = false := by simp [wR, h1, h2, h3]
 have d1 : ((x : Int) == 32) = false := by simp; omega
 have d2 : ((x : Int) == 9) = false := by simp; omega
 have d3 : ((x : Int) == 10) = false := by simp; omega
 rw [hw]
 clear hw h1 h2 h3
 go_enter Tryz.func196, Tryz.ntmps196
 go_wp2
 go_ret
 exact ⟨rfl, 0, rfl⟩
theorem words_any (s : ByteArray) (w : World) (hs : s.size ≤ 4294967296) :
   Calls Tryz.prog 144 #[.string s] w fun e w' => ∃ A, e = .returned (.slice (some ⟨A, 0, none⟩) (Lib.goFieldsP wR s).length (Lib.goFieldsP wR s).length) ∧ w.heap.size ≤ A ∧
     w'.ownsRow w.heap.size 9 1 (.slice (some ⟨A, 0, none⟩) (Lib.goFieldsP wR s).length (Lib.goFieldsP wR s).length) (Lib.goFieldsP wR s).length ((Lib.goFieldsP wR s).map Value.string) ∧ Below w.heap.size w w' := by
 have HC := hide (fun W => Tryz.strings_FieldsFunc_runes 196 #[] (fun _ _ => by kernel_rfl) wR s W hs (fun W' x _ _ => words1_any x W'))
 generalize Lib.goFieldsP wR s = R at *
 go_enter Tryz.func144, Tryz.ntmps144
 go_wp2_with fail
 refine (HC.out _).mono ?_
 rintro e w1 ⟨A, rfl, hA, ho, hb⟩
 have HO := hide ho
 have HB := hide hb
 clear ho hb HC
 go_wp2_with fail
 go_ret
 exact ⟨A, rfl, hA, HO.out, HB.out⟩
end
section
open Go.RowKit Go.Deep Ln
attribute [local go_sem] bt_eq
def sumL : List T → Nat
 | [] => 0
 | n :: L => n.length + 1 + sumL L
theorem dropTab_len (l : T) : (dropTab l).length ≤ l.length := by
 unfold dropTab
 split
 · simp
 · exact Nat.le_refl _
theorem dropTab_lib (l : T) : Lib.trimPrefix l [9] = dropTab l := by
 unfold Lib.trimPrefix Lib.hasPrefix dropTab
 cases l with
 | nil => rfl
 | cons c l =>
   by_cases h : c = 9
   · subst h; rfl
   · have : ([9] : List UInt8).isPrefixOf (c :: l) = false := by simp [List.isPrefixOf]; exact fun e => h e.symm
     rw [this, if_neg (by decide)]
     split
     · rename_i heq; injection heq with h1 _; exact absurd h1 h
     · rfl
abbrev RI (A : Option Addr) (L : List T) (g c i : Nat) (F : Asn) : Asn := starA (starA (LS A (L.map bs)) (RDL g A L.length c i)) F
theorem RI.fr {A : Option Addr} {L : List T} {g c i : Nat} {F : Asn} (hF : Fr F) : Fr (RI A L g c i F) := ((LS.fr _ _).star (RDL.fr _ _ _ _ _)).star hF
theorem nxt_some {L : List T} {i : Nat} {x : T} (h : L[i]? = some x) : nxt (L.map bs) i = .tuple #[.string (bs x), .bool true] := by
 unfold nxt
 rw [List.getElem?_map, h]; rfl
theorem nxt_none {L : List T} {i : Nat} (h : L.length ≤ i) : nxt (L.map bs) i = .tuple #[.string (bs []), .bool false] := by
 unfold nxt
 rw [List.getElem?_map, List.getElem?_eq_none h]; rfl
theorem next_I {A : Option Addr} {L : List T} {g c i B : Nat} {F : Asn} (hF : Fr F) {w0 w : World} (h : Inv (RI A L g c i F) B w0 w) (hB : B ≤ w0.heap.size) (hi : i ≤ L.length) (hc : L.length ≤ c) (hL : L.length ≤ 1000000) (hc2 : c ≤ 1000000) :
   Calls Tryz.prog 135 #[.pointer (some ⟨g, 0, none⟩)] w fun e w' => e = .returned (nxt (L.map bs) i) ∧ Inv (RI A L g c (if i < L.length then i + 1 else i) F) B w0 w' := by
 have := next_spec g A (L.map bs) c i (by simpa using hi) (by simpa using hc) (by simpa using hL) hc2
 rw [List.length_map] at this
 exact h.callE hB (this.left hF)
theorem sumL_drop {L : List T} {i : Nat} {x : T} (h : L[i]? = some x) : sumL (L.drop i) = x.length + 1 + sumL (L.drop (i + 1)) := by
 rw [List.drop_eq_getElem_cons (List.getElem?_eq_some_iff.1 h).1, (List.getElem?_eq_some_iff.1 h).2]; rfl
theorem drop_cons {L : List T} {i : Nat} {x : T} (h : L[i]? = some x) : L.drop i = x :: L.drop (i + 1) := by
 rw [List.drop_eq_getElem_cons (List.getElem?_eq_some_iff.1 h).1, (List.getElem?_eq_some_iff.1 h).2]
theorem recipe_I {A : Option Addr} {L : List T} {g c i B : Nat} {F : Asn} (hF : Fr F) {w0 w : World} (h : Inv (RI A L g c i F) B w0 w) (hB : B ≤ w0.heap.size) (hi : i ≤ L.length) (hc : L.length ≤ c) (hL : L.length ≤ 1000000) (hc2 : c ≤ 1000000) (t : T) (ht : t.length + sumL (L.drop i) ≤ 900000) :
   Calls Tryz.prog 136 #[.pointer (some ⟨g, 0, none⟩), .string (bs t)] w fun e w' => ∃ i', i ≤ i' ∧ i' ≤ L.length ∧ L.drop i' = (recF (L.drop i) t t).2 ∧ e = .returned (.string (bs (recF (L.drop i) t t).1)) ∧ Inv (RI A L g c i' F) B w0 w' := by
 have HI := hide h
 have HF := hide hF
 obtain ⟨n, hn⟩ : ∃ n, L.length = n := ⟨_, rfl⟩
 have HN := hide hn
 obtain ⟨R, hR⟩ : ∃ R, recF (L.drop i) t t = R := ⟨_, rfl⟩
 have HR := hide hR
 rw [hR]
 clear h hF hn hR
 go_enter Tryz.func136, Tryz.ntmps136
 go_wp2
 go_loopg [1, 5] (n - i) (fun q v1 v5 wr => ∃ (j : Nat) (s acc : T), q = n - j ∧ i ≤ j ∧ j ≤ n ∧ v1 = .string (bs s) ∧ v5 = .string (bs acc) ∧ Hid (recF (L.drop j) s acc = R) ∧ acc.length + sumL (L.drop j) ≤ 900000 ∧ s.length ≤ 900000 ∧ Inv (RI A L g c j F) B w0 wr)
 case atStart => exact ⟨i, t, t, rfl, Nat.le_refl _, by have := HN.out; omega, rfl, rfl, HR, ht, by omega, HI.out⟩
 case round =>
   obtain ⟨j, s, acc, hq, hij, hjn, rfl, rfl, HRJ, hacc, hs, hi2⟩ := hrel
   have HI2 := hide hi2
   clear hi2 HI
   have HC := hide (fun W => continued_any s W (by omega))
   have HODD := hide (show oddB s = oddB s from rfl)
   cases ho : oddB s with
   | false =>
     rw [ho] at HC
     go_wp2_with fail
     refine (HC.out _).mono ?_
     rintro e w' ⟨rfl, rfl⟩
     have HRE := hide (show recF (L.drop j) s acc = (acc, L.drop j) by
       cases hd : L.drop j with
       | nil => rfl
       | cons y ys => rw [recF, if_neg (by rw [ho]; decide)])
     have HR1 := hide (show R.1 = acc ∧ L.drop j = R.2 by rw [← HRJ.out, HRE.out]; exact ⟨rfl, rfl⟩)
     go_wp2
     go_ret
     exact ⟨j, hij, by have := HN.out; omega, HR1.out.2, by rw [HR1.out.1]; rfl, HI2.out⟩
   | true =>
     rw [ho] at HC
     have HNX := hide (next_I HF.out HI2.out hB (by have := HN.out; omega) hc hL hc2)
     by_cases hlt : j < n
     · obtain ⟨x, hx⟩ : ∃ x, L[j]? = some x := ⟨L[j]'(by have := HN.out; omega), gE _⟩
       rw [nxt_some hx, if_pos (by have := HN.out; omega)] at HNX
       have HTP := hide (fun W => Tryz.strings_TrimPrefix (bs x) ⟨#[9]⟩ W)
       rw [show (⟨(Lib.trimPrefix (bs x).data.toList (⟨#[9]⟩ : ByteArray).data.toList).toArray⟩ : ByteArray) = bs (dropTab x) from by rw [bs_list, show (⟨#[9]⟩ : ByteArray).data.toList = [9] from rfl, dropTab_lib]; rfl] at HTP
       have hsd := sumL_drop hx
       have hdl := dropTab_len x
       have HCAT := hide (show bs acc ++ ((⟨#[10]⟩ : ByteArray) ++ bs (dropTab x)) = bs (acc ++ 10 :: dropTab x) by rw [show (⟨#[10]⟩ : ByteArray) = bs [10] from rfl, bs_app, bs_app]; rfl)
       have hz1 : (bs acc).size ≤ 900000 := by rw [bs_size]; omega
       have hz2 : (bs (dropTab x)).size ≤ 900000 := by rw [bs_size]; omega
       have HRN := hide (show recF (L.drop (j + 1)) (dropTab x) (acc ++ 10 :: dropTab x) = R by rw [← HRJ.out, drop_cons hx, recF, if_pos ho])
       have hlen : (acc ++ 10 :: dropTab x).length + sumL (L.drop (j + 1)) ≤ 900000 := by simp only [List.length_append, List.length_cons]; omega
       have hlen2 : (dropTab x).length ≤ 900000 := by omega
       generalize acc ++ 10 :: dropTab x = acc2 at *
       generalize dropTab x = x2 at *
       clear hsd hdl hx
       go_wp2_with fail
       refine (HC.out _).mono ?_
       rintro e w' ⟨rfl, rfl⟩
       go_wp2_with fail
       refine HNX.out.mono ?_
       rintro e w2 ⟨rfl, hi3⟩
       have HI3 := hide hi3
       clear hi3
       go_wp2_with fail
       refine (HTP.out _).mono ?_
       rintro e w' ⟨rfl, rfl⟩
       go_wp2_with fail
       rw [HCAT.out]
       go_roundg (n - (j + 1))
       case rel => exact ⟨j + 1, x2, acc2, rfl, by omega, by omega, rfl, rfl, HRN, hlen, hlen2, HI3.out⟩
       case measure => omega
     · rw [nxt_none (by have := HN.out; omega), if_neg (by have := HN.out; omega)] at HNX
       have HR1 := hide (show R.1 = acc ∧ L.drop j = R.2 by
         have hd : L.drop j = [] := List.drop_of_length_le (by have := HN.out; omega)
         rw [← HRJ.out, hd]; exact ⟨rfl, rfl⟩)
       go_wp2_with fail
       refine (HC.out _).mono ?_
       rintro e w' ⟨rfl, rfl⟩
       go_wp2_with fail
       refine HNX.out.mono ?_
       rintro e w2 ⟨rfl, hi3⟩
       have HI3 := hide hi3
       clear hi3
       go_wp2
       go_ret
       exact ⟨j, hij, by have := HN.out; omega, HR1.out.2, by rw [HR1.out.1]; rfl, HI3.out⟩
theorem odd_ne {s : T} (h : oddB s = true) : s ≠ [] := by
 rintro rfl
 revert h; decide
theorem trimR_lib (l : T) : Lib.trimRightS l [32, 9] = trimR l := by
 unfold Lib.trimRightS trimR
 congr 2
 funext c
 simp [blk, List.contains, List.elem]
 cases c == 32 <;> cases c == 9 <;> rfl
theorem trimL_lib (l : T) : Lib.trimLeftS l [32, 9] = trimL l := by
 unfold Lib.trimLeftS trimL
 congr 1
 funext c
 simp [blk, List.contains, List.elem]
 cases c == 32 <;> cases c == 9 <;> rfl
theorem trimR_len (l : T) : (trimR l).length ≤ l.length := by
 unfold trimR
 rw [List.length_reverse]
 exact Nat.le_trans (List.dropWhile_suffix _).length_le (by simp)
theorem trimL_len (l : T) : (trimL l).length ≤ l.length := (List.dropWhile_suffix _).length_le
theorem blanks_ascii : ∀ (j : Nat) b, (⟨#[32, 9]⟩ : ByteArray).data.toList[j]? = some b → b.toNat < 128 := by
 intro j b h
 have : b ∈ ([32, 9] : List UInt8) := List.mem_of_getElem? h
 simp only [List.mem_cons, List.not_mem_nil, or_false] at this
 rcases this with rfl | rfl <;> decide
theorem dropLast_ext (s : T) : (bs s).extract 0 ((bs s).size - 1) = bs s.dropLast := by
 rw [ext_bs, bs_size, List.drop_zero, List.dropLast_eq_take, Nat.sub_zero]
theorem other_I {A : Option Addr} {L : List T} {g c i B : Nat} {F : Asn} (hF : Fr F) {w0 w : World} (h : Inv (RI A L g c i F) B w0 w) (hB : B ≤ w0.heap.size) (hi : i ≤ L.length) (hc : L.length ≤ c) (hL : L.length ≤ 1000000) (hc2 : c ≤ 1000000) (t : T) (ht : t.length + sumL (L.drop i) ≤ 900000) :
   Calls Tryz.prog 138 #[.pointer (some ⟨g, 0, none⟩), .string (bs t)] w fun e w' => ∃ i', i ≤ i' ∧ i' ≤ L.length ∧ L.drop i' = (othF (L.drop i) t).2 ∧ e = .returned (.string (bs (othF (L.drop i) t).1)) ∧ Inv (RI A L g c i' F) B w0 w' := by
 have HI := hide h
 have HF := hide hF
 obtain ⟨n, hn⟩ : ∃ n, L.length = n := ⟨_, rfl⟩
 have HN := hide hn
 obtain ⟨R, hR⟩ : ∃ R, othF (L.drop i) t = R := ⟨_, rfl⟩
 have HR := hide hR
 rw [hR]
 clear h hF hn hR
 go_enter Tryz.func138, Tryz.ntmps138
 go_wp2
 go_loopg [1] (n - i) (fun q v1 wr => ∃ (j : Nat) (s : T), q = n - j ∧ i ≤ j ∧ j ≤ n ∧ v1 = .string (bs s) ∧ Hid (othF (L.drop j) s = R) ∧ s.length + sumL (L.drop j) ≤ 900000 ∧ Inv (RI A L g c j F) B w0 wr)
 case atStart => exact ⟨i, t, rfl, Nat.le_refl _, by have := HN.out; omega, rfl, HR, ht, HI.out⟩
 case round =>
   obtain ⟨j, s, hq, hij, hjn, rfl, HRJ, hs, hi2⟩ := hrel
   have HI2 := hide hi2
   clear hi2 HI
   have HC := hide (fun W => continued_any s W (by omega))
   cases ho : oddB s with
   | false =>
     rw [ho] at HC
     have HRE := hide (show othF (L.drop j) s = (s, L.drop j) by
       cases hd : L.drop j with
       | nil => rw [othF, if_neg (by rw [ho]; decide)]
       | cons y ys => rw [othF, if_neg (by rw [ho]; decide)])
     have HR1 := hide (show R.1 = s ∧ L.drop j = R.2 by rw [← HRJ.out, HRE.out]; exact ⟨rfl, rfl⟩)
     go_wp2_with fail
     refine (HC.out _).mono ?_
     rintro e w' ⟨rfl, rfl⟩
     go_wp2
     go_ret
     exact ⟨j, hij, by have := HN.out; omega, HR1.out.2, by rw [HR1.out.1]; rfl, HI2.out⟩
   | true =>
     rw [ho] at HC
     have hne := odd_ne ho
     have hpos : 0 < s.length := List.length_pos_iff.2 hne
     have HNX := hide (next_I HF.out HI2.out hB (by have := HN.out; omega) hc hL hc2)
     have HTR := hide (fun W => Tryz.strings_TrimRight_laid (bs s.dropLast) ⟨#[32, 9]⟩ W (by rw [bs_size, List.length_dropLast]; omega) (by decide) blanks_ascii)
     rw [show (⟨(Lib.trimRightS (bs s.dropLast).data.toList (⟨#[32, 9]⟩ : ByteArray).data.toList).toArray⟩ : ByteArray) = bs (trimR s.dropLast) from by rw [bs_list, show (⟨#[32, 9]⟩ : ByteArray).data.toList = [32, 9] from rfl, trimR_lib]; rfl] at HTR
     have hfl : (trimR s.dropLast).length + 1 ≤ s.length := by have := trimR_len s.dropLast; rw [List.length_dropLast] at this; omega
     have HCF := hide (show bs (trimR s.dropLast) ++ (⟨#[32]⟩ : ByteArray) = bs (front s) by rw [show (⟨#[32]⟩ : ByteArray) = bs [32] from rfl, bs_app]; rfl)
     have HDL := hide (dropLast_ext s)
     have hfz : (front s).length ≤ s.length := by unfold front; simp only [List.length_append, List.length_cons, List.length_nil]; omega
     have hz0 : (bs s).size = s.length := bs_size s
     have hz1 : 0 < (bs s).size := by omega
     have hz2 : (bs s).size ≤ 900000 := by omega
     have hz3 : (bs (trimR s.dropLast)).size ≤ 900000 := by rw [bs_size]; omega
     have hz4 : (bs (front s)).size ≤ 900000 := by rw [bs_size]; omega
     clear hz0
     have hz5 : (0 : Int) ≤ ((bs s).size : Int) - 1 := by omega
     by_cases hlt : j < n
     · obtain ⟨x, hx⟩ : ∃ x, L[j]? = some x := ⟨L[j]'(by have := HN.out; omega), gE _⟩
       rw [nxt_some hx, if_pos (by have := HN.out; omega)] at HNX
       have hsd := sumL_drop hx
       have hxl := trimL_len x
       have HTL := hide (fun W => Tryz.strings_TrimLeft_laid (bs x) ⟨#[32, 9]⟩ W (by decide) blanks_ascii)
       rw [show (⟨(Lib.trimLeftS (bs x).data.toList (⟨#[32, 9]⟩ : ByteArray).data.toList).toArray⟩ : ByteArray) = bs (trimL x) from by rw [bs_list, show (⟨#[32, 9]⟩ : ByteArray).data.toList = [32, 9] from rfl, trimL_lib]; rfl] at HTL
       have HCN := hide (show bs (front s) ++ bs (trimL x) = bs (front s ++ trimL x) from bs_app _ _)
       have HRN := hide (show othF (L.drop (j + 1)) (front s ++ trimL x) = R by rw [← HRJ.out, drop_cons hx, othF, if_pos ho])
       have hlen : (front s ++ trimL x).length + sumL (L.drop (j + 1)) ≤ 900000 := by simp only [List.length_append]; omega
       have hz6 : (bs (trimL x)).size ≤ 900000 := by rw [bs_size]; omega
       go_wp2_with fail
       refine (HC.out _).mono ?_
       rintro e w' ⟨rfl, rfl⟩
       go_wp2_with fail
       refine HNX.out.mono ?_
       rintro e w2 ⟨rfl, hi3⟩
       have HI3 := hide hi3
       clear hi3
       go_wp2_with fail
       rw [HDL.out]
       refine (HTR.out _).mono ?_
       rintro e w3 ⟨rfl, hb3⟩
       have HI4 := hide (HI3.out.step (RI.fr HF.out) hb3 hB)
       clear hb3
       go_wp2_with fail
       rw [HCF.out]
       refine (HTL.out _).mono ?_
       rintro e w4 ⟨rfl, hb4⟩
       have HI5 := hide (HI4.out.step (RI.fr HF.out) hb4 hB)
       clear hb4
       generalize trimL x = x2 at *
       generalize front s = s2 at *
       go_wp2_with fail
       rw [HCN.out]
       go_roundg (n - (j + 1))
       case rel => exact ⟨j + 1, s2 ++ x2, rfl, by omega, by omega, rfl, HRN, hlen, HI5.out⟩
       case measure => omega
     · rw [nxt_none (by have := HN.out; omega), if_neg (by have := HN.out; omega)] at HNX
       have HR1 := hide (show R.1 = front s ∧ L.drop j = R.2 by
         have hd : L.drop j = [] := List.drop_of_length_le (by have := HN.out; omega)
         rw [← HRJ.out, hd, othF, if_pos ho]; exact ⟨rfl, rfl⟩)
       go_wp2_with fail
       refine (HC.out _).mono ?_
       rintro e w' ⟨rfl, rfl⟩
       go_wp2_with fail
       refine HNX.out.mono ?_
       rintro e w2 ⟨rfl, hi3⟩
       have HI3 := hide hi3
       clear hi3
       go_wp2_with fail
       rw [HDL.out]
       refine (HTR.out _).mono ?_
       rintro e w3 ⟨rfl, hb3⟩
       have HI4 := hide (HI3.out.step (RI.fr HF.out) hb3 hB)
       clear hb3
       go_wp2_with fail
       rw [HCF.out]
       go_ret
       exact ⟨j, hij, by have := HN.out; omega, HR1.out.2, by rw [HR1.out.1]; rfl, HI4.out⟩
end
end Go.Proofs.YtpheeheikigenaaGreatDoor
namespace Qm.Base
def dgL (n : Nat) : List Nat := if h : n < 10 then [48 + n] else dgL (n / 10) ++ [48 + n % 10]
termination_by n
decreasing_by omega
theorem dgL_small {n : Nat} (h : n < 10) : dgL n = [48 + n] := by rw [dgL, dif_pos h]
theorem dgL_big {n : Nat} (h : ¬ n < 10) : dgL n = dgL (n / 10) ++ [48 + n % 10] := by rw [dgL, dif_neg h]
theorem dgL_len (n : Nat) : ∀ k, n < 10 ^ (k + 1) → (dgL n).length ≤ k + 1 := by
 induction n using Nat.strongRecOn with
 | ind n ih =>
   intro k hk
   by_cases h : n < 10
   · rw [dgL_small h]; simp
   · rw [dgL_big h]
     cases k with
     | zero => simp at hk; omega
     | succ k =>
       have := ih (n / 10) (by omega) k (by rw [Nat.pow_succ] at hk; omega)
       simp
       omega
end Qm.Base
namespace Go.Proofs.YtpheeheikigenaaGreatDoor
open Go.RowKit Go.Deep Qm.Base
def ds (l : List Nat) : ByteArray := strOfNums (l.map fun n : Nat => (n : Int))
theorem ds_size (l : List Nat) : (ds l).size = l.length := by simp [ds, strOfNums_size]
theorem ds_app (a b : List Nat) : ds a ++ ds b = ds (a ++ b) := by
 apply ByteArray.ext
 simp [ds, strOfNums]
theorem ds_digit {k : Nat} (h : k < 10) : (⟨#[48, 49, 50, 51, 52, 53, 54, 55, 56, 57]⟩ : ByteArray).extract k (k + 1) = ds [48 + k] := by
 have h2 : k = 0 ∨ k = 1 ∨ k = 2 ∨ k = 3 ∨ k = 4 ∨ k = 5 ∨ k = 6 ∨ k = 7 ∨ k = 8 ∨ k = 9 := by omega
 rcases h2 with rfl | rfl | rfl | rfl | rfl | rfl | rfl | rfl | rfl | rfl <;> rfl
end Go.Proofs.YtpheeheikigenaaGreatDoor
namespace Go.Proofs.YtpheeheikigenaaGreatDoor
section
open Go.RowKit Go.Deep
theorem conv_bytes {W : World} {g n cap : Nat} {f : Nat → Nat} (h : ∀ i, i < n → W.cell? ⟨g, i, none⟩ = some (.int .u8 (f i : Nat))) : (convert 55 9 (.slice (some ⟨g, 0, none⟩) n cap)).run Tryz.prog W = .ok (.string (ds ((List.range n).map f))) W := by
 have := run_convert_bytes_arg W 55 5 Tryz.underlying55 Tryz.underlying5 g 0 n cap ((List.range n).map fun q => ((f q : Nat) : Int)) (by simp) (fun i hi => by
   rw [Nat.zero_add, h i hi]
   simp [List.getD_eq_getElem?_getD, hi]) 9 Tryz.underlying9
 rw [this]
 simp [ds, List.map_map, Function.comp_def]
end
section
open Go.RowKit Go.Deep
def encB (c : UInt8) : List Value := [.int .u8 c.toNat]
theorem encB_len (c : UInt8) : (encB c).length = 1 := rfl
theorem encB_one (c : UInt8) : ∀ u ∈ encB c, u.oneCell' = true := by
 intro u hu
 simp [encB] at hu
 subst hu; rfl
def rowB : RowT Tryz.prog 55 5 1 := { z := .int .u8 0, bytes := 1, und := Tryz.underlying55, info := by kernel_rfl, zlen := rfl, pos := by omega, sb := by omega }
abbrev OwnY (w : World) (base : Nat) (v : Value) (l : List UInt8) : Prop := OwnG encB 1 5 w base v l
theorem run_appY {w : World} {base : Nat} {v : Value} {L N : List UInt8} {A : Option Addr} {c : Nat} (h : OwnY w base v L) (hn : RG encB 1 w A N) (hbase : base ≤ w.heap.size) (hl : L.length + N.length ≤ 1000000) :
   ∃ v' w', (Builtin.append_ #[55, 55] 55 #[v, .slice A N.length c]).run Tryz.prog w = .ok v' w' ∧ OwnY w' base v' (L ++ N) ∧ w.grownBy w' v.ownBlock ∧ (v'.ownBlock = v.ownBlock ∨ v'.ownBlock = some w.heap.size) := run_appG rowB encB_len encB_one h hn hbase (by omega)
theorem ry_new (w : World) (c : UInt8) (t : TypeId) : RG encB 1 (w.alloc (.cells #[.int .u8 c.toNat] t)) (some ⟨w.heap.size, 0, none⟩) [c] := rg_new w c t
theorem conv_nilY (w : World) (c : Nat) : (convert 55 9 (.slice none 0 c)).run Tryz.prog w = .ok (.string ⟨#[]⟩) w := by kernel_rfl
theorem ds_map (l : List UInt8) : ds ((List.range l.length).map fun i => (l.getD i 0).toNat) = bs l := by
 have : (List.range l.length).map (fun i => (l.getD i 0).toNat) = l.map UInt8.toNat := by
   apply List.ext_getElem
   · simp
   · intro i h1 h2
     simp at h1
     simp [h1]
 rw [this]
 apply ByteArray.ext
 apply Array.ext'
 simp only [ds, bs, strOfNums, List.map_map]
 conv => rhs; rw [← List.map_id l]
 congr 1
 congr 1
 funext c
 simp
theorem conv_Y {w : World} {base : Nat} {v : Value} {l : List UInt8} (h : OwnY w base v l) : (convert 55 9 v).run Tryz.prog w = .ok (.string (bs l)) w := by
 obtain ⟨A, c, rfl, hc, hr, _, hz⟩ := h.slice encB_len
 cases A with
 | none =>
   have hl : l = [] := by
     cases l with
     | nil => rfl
     | cons b l =>
       obtain ⟨g, o, e, _⟩ := hr 0 b rfl
       cases e
   subst hl
   exact conv_nilY w c
 | some a =>
   obtain ⟨g, rfl⟩ := hz a rfl
   have := conv_bytes (W := w) (g := g) (n := l.length) (cap := c) (f := fun i => (l.getD i 0).toNat) (fun i hi => by
     obtain ⟨g', o', e, _, h1⟩ := hr i l[i] (List.getElem?_eq_getElem hi)
     injection e with e
     injection e with e1 e2
     subst e1 e2
     have := h1 0 _ rfl
     rw [show 0 + i * 1 + 0 = i from by omega] at this
     rw [this]
     simp [hi])
   rw [ds_map] at this
   exact this
theorem bt_bs (l : List UInt8) (k : Nat) : bt (bs l) k = (l.getD k 0).toNat := by
 simp [bt, bs]
end
section
open Go.RowKit Go.Deep Ln
attribute [local go_sem] bt_eq
theorem getD_nat (l : T) (k : Nat) (n : Nat) (hn : n < 256) : ((((bt (bs l) k : Nat) : Int) == (n : Int))) = decide (l.getD k 0 = UInt8.ofNat n) := by
 rw [bt_bs, Bool.eq_iff_iff]
 simp only [beq_iff_eq, decide_eq_true_eq]
 constructor
 · intro h
   have : (l.getD k 0).toNat = n := by omega
   rw [← this]; simp
 · intro h
   rw [h]
   simp [UInt8.toNat_ofNat']
   omega
end
section
open Go.RowKit Go.Deep Ln
attribute [local go_sem] bt_eq
theorem trim_lib (l : T) : Lib.trimS l [32, 9] = trimL (trimR l) := by
 unfold Lib.trimS
 rw [trimR_lib, trimL_lib]
theorem comm_len : ∀ l : T, (comm l).length ≤ l.length
 | [] => Nat.le_refl _
 | [c] => by
   rw [comm]; split <;> simp
 | c :: d :: l => by
   have h1 := comm_len l
   have h2 := comm_len (d :: l)
   rw [comm]
   split
   · simp only [List.length_cons]; omega
   · split
     · simp
     · simp only [List.length_cons] at h2 ⊢; omega
theorem drop_two {l : T} {k : Nat} (h : k + 1 < l.length) : l.drop k = (l.getD k 0) :: (l.getD (k + 1) 0) :: l.drop (k + 2) := by
 rw [List.drop_eq_getElem_cons (by omega), List.drop_eq_getElem_cons h]
 simp [show k < l.length by omega, h]
theorem drop_one {l : T} {k : Nat} (h : k + 1 = l.length) : l.drop k = [l.getD k 0] := by
 rw [List.drop_eq_getElem_cons (by omega), List.drop_of_length_le (by omega)]
 simp [show k < l.length by omega]
theorem comm_esc {l : T} {k : Nat} (h : k + 1 < l.length) (h1 : l.getD k 0 = 92) (h2 : l.getD (k + 1) 0 = 35) : comm (l.drop k) = 35 :: comm (l.drop (k + 2)) := by
 rw [drop_two h, h1, h2, comm, if_pos ⟨rfl, rfl⟩]
theorem comm_hash {l : T} {k : Nat} (h : k < l.length) (h1 : l.getD k 0 = 35) : comm (l.drop k) = [] := by
 by_cases h2 : k + 1 < l.length
 · rw [drop_two h2, h1, comm, if_neg (by rintro ⟨h, _⟩; revert h; decide), if_pos rfl]
 · rw [drop_one (by omega), h1, comm, if_pos rfl]
theorem comm_else {l : T} {k : Nat} (h : k < l.length) (h1 : l.getD k 0 ≠ 35) (h2 : ¬ (l.getD k 0 = 92 ∧ k + 1 < l.length ∧ l.getD (k + 1) 0 = 35)) : comm (l.drop k) = l.getD k 0 :: comm (l.drop (k + 1)) := by
 by_cases h3 : k + 1 < l.length
 · rw [drop_two h3, comm, if_neg (fun c => h2 ⟨c.1, h3, c.2⟩), if_neg h1]
   congr 1
   rw [show l.drop (k + 1) = l.getD (k + 1) 0 :: l.drop (k + 2) from by
     rw [List.drop_eq_getElem_cons h3]; simp [h3]]
 · rw [drop_one (by omega), comm, if_neg h1, List.drop_of_length_le (by omega)]; rfl
theorem plain_any (l : T) (w : World) (h : l.length ≤ 900000) : Calls Tryz.prog 137 #[.string (bs l)] w fun e w' => e = .returned (.string (bs (plainF l))) ∧ Below w.heap.size w w' := by
 have hz : (bs l).size = l.length := bs_size l
 have hz1 : (bs l).size ≤ 900000 := by omega
 have HZ := hide hz
 have HT := hide (fun W => Tryz.strings_Trim_laid (bs (comm l)) ⟨#[32, 9]⟩ W (by rw [bs_size]; have := comm_len l; omega) (by decide) blanks_ascii)
 rw [show (⟨(Lib.trimS (bs (comm l)).data.toList (⟨#[32, 9]⟩ : ByteArray).data.toList).toArray⟩ : ByteArray) = bs (plainF l) from by rw [bs_list, show (⟨#[32, 9]⟩ : ByteArray).data.toList = [32, 9] from rfl, trim_lib]; rfl] at HT
 generalize bs (plainF l) = R at HT ⊢
 obtain ⟨C, hC⟩ : ∃ C, comm l = C := ⟨_, rfl⟩
 have hCl : C.length ≤ 900000 := by rw [← hC]; have := comm_len l; omega
 have HC := hide hC
 rw [hC] at HT
 clear hz hC
 go_enter Tryz.func137, Tryz.ntmps137
 go_wp2_with fail
 go_step3
 go_wp2_with fail
 go_step3
 go_wp2_with fail
 go_loopw [3, 4] (fun v3 v4 wr => ∃ (k : Nat) (a : T), v4 = .int .i64 k ∧ k ≤ (bs l).size ∧ OwnY wr w.heap.size v3 a ∧ Hid (a ++ comm (l.drop k) = C) ∧ a.length ≤ k ∧ Below w.heap.size w wr) (fun _ v4 _ => (bs l).size - (intOf v4).toNat)
 case atStart => exact ⟨0, [], rfl, by omega, OwnG.nil _ _, hide HC.out, by simp, Below.refl _ _⟩
 case round =>
   obtain ⟨k, a, rfl, hk, ho, HA, hal, hb⟩ := hrel
   have HO := hide ho
   have HB := hide hb
   clear ho hb
   have hbz := HB.out.size
   by_cases hlt : k < (bs l).size
   · have hkl : k < l.length := by have := HZ.out; omega
     have hk0 : (0 : Int) ≤ (k : Int) := by omega
     have q92 := getD_nat l k 92 (by omega)
     have q35 := getD_nat l k 35 (by omega)
     have r35 := getD_nat l (k + 1) 35 (by omega)
     by_cases e35 : l.getD k 0 = 35
     · have n92 : ¬ l.getD k 0 = 92 := fun e => by rw [e35] at e; revert e; decide
       have t92 : (((bt (bs l) k : Nat) : Int) == 92) = false := by rw [show (92 : Int) = ((92 : Nat) : Int) from rfl, q92]; simpa using n92
       have t35 : (((bt (bs l) k : Nat) : Int) == 35) = true := by rw [show (35 : Int) = ((35 : Nat) : Int) from rfl, q35]; simpa using e35
       have ha : a = C := by
         have := HA.out
         rw [comm_hash hkl e35] at this
         simpa using this
       subst ha
       clear q92 q35 r35 e35 n92
       have hcv := conv_Y HO.out
       go_wp2_with fail
       refine (HT.out _).mono ?_
       rintro e w2 ⟨rfl, hb2⟩
       have HB2 := hide (below_up HB.out hb2 HB.out.size)
       clear hb2
       go_wp2
       rw [Exit.noGoto_ret]
       go_ret
       exact ⟨rfl, HB2.out⟩
     · have t35 : (((bt (bs l) k : Nat) : Int) == 35) = false := by rw [show (35 : Int) = ((35 : Nat) : Int) from rfl, q35]; simpa using e35
       have hc0 : ((l.getD k 0).toNat : Int) = ((bt (bs l) k : Nat) : Int) := by rw [bt_bs]
       by_cases e92 : l.getD k 0 = 92
       · have t92 : (((bt (bs l) k : Nat) : Int) == 92) = true := by rw [show (92 : Int) = ((92 : Nat) : Int) from rfl, q92]; simpa using e92
         by_cases hk1 : k + 1 < (bs l).size
         · have hk2 : (k : Int) + 1 < ((bs l).size : Int) := by omega
           by_cases f35 : l.getD (k + 1) 0 = 35
           · have u35 : (((bt (bs l) (k + 1) : Nat) : Int) == 35) = true := by rw [show (35 : Int) = ((35 : Nat) : Int) from rfl, r35]; simpa using f35
             have HS := hide (show (a ++ [35]) ++ comm (l.drop (k + 2)) = C by rw [← HA.out, comm_esc (by have := HZ.out; omega) e92 f35]; simp)
             clear q92 q35 r35 e35 e92 f35 hc0
             obtain ⟨v4, w4, r4, o4, g4, b4⟩ := run_appY (c := 1) (N := [35]) (OwnG.alloc HO.out (.cells #[.int .u8 35] 5)) (ry_new wr 35 5) (by simp; omega) (by simp only [List.length_cons, List.length_nil]; omega)
             have HO4 := hide o4
             have HB4 := hide ((HB.out.alloc hbz (.cells #[.int .u8 35] 5)).trans ((Below.refl w.heap.size _).grown g4 (by simp; omega) (fun q hq => (OwnG.lt HO.out q hq).1)))
             clear o4 g4 b4
             go_wp2_with (at_builtin; refine wpList_app_run ?_ (.tmp 36) (.tmp 37) ?_ ?_ ?_ ?_ r4 ?_; exact rfl; exact rfl; exact rfl; exact rfl; exact rfl)
             go_roundw
             case rel => exact ⟨k + 2, _, by go_num, by omega, HO4.out, HS, by simp only [List.length_append, List.length_cons, List.length_nil]; omega, HB4.out⟩
             case measure => simp [intOf]; omega
           · have u35 : (((bt (bs l) (k + 1) : Nat) : Int) == 35) = false := by rw [show (35 : Int) = ((35 : Nat) : Int) from rfl, r35]; simpa using f35
             have HS := hide (show (a ++ [l.getD k 0]) ++ comm (l.drop (k + 1)) = C by rw [← HA.out, comm_else hkl e35 (fun c => f35 c.2.2)]; simp)
             clear q92 q35 r35 e35 e92 f35
             obtain ⟨v4, w4, r4, o4, g4, b4⟩ := run_appY (c := 1) (N := [(l.getD k 0)]) (OwnG.alloc HO.out (.cells #[.int .u8 (l.getD k 0).toNat] 5)) (ry_new wr (l.getD k 0) 5) (by simp; omega) (by simp only [List.length_cons, List.length_nil]; omega)
             have HO4 := hide o4
             have HB4 := hide ((HB.out.alloc hbz (.cells #[.int .u8 (l.getD k 0).toNat] 5)).trans ((Below.refl w.heap.size _).grown g4 (by simp; omega) (fun q hq => (OwnG.lt HO.out q hq).1)))
             clear o4 g4 b4
             rw [hc0] at r4
             clear hc0
             go_wp2_with (at_builtin; refine wpList_app_run ?_ (.tmp 11) (.tmp 15) ?_ ?_ ?_ ?_ r4 ?_; exact rfl; exact rfl; exact rfl; exact rfl; exact rfl)
             go_roundw
             case rel => exact ⟨k + 1, _, by go_num, by omega, HO4.out, HS, by simp only [List.length_append, List.length_cons, List.length_nil]; omega, HB4.out⟩
             case measure => simp [intOf]; omega
         · have hk2 : ¬ (k : Int) + 1 < ((bs l).size : Int) := by omega
           have hk3 : ((bs l).size : Int) ≤ (k : Int) + 1 := by omega
           have HS := hide (show (a ++ [l.getD k 0]) ++ comm (l.drop (k + 1)) = C by rw [← HA.out, comm_else hkl e35 (fun c => hk1 (by have := c.2.1; have := HZ.out; omega))]; simp)
           clear q92 q35 r35 e35 e92
           obtain ⟨v4, w4, r4, o4, g4, b4⟩ := run_appY (c := 1) (N := [(l.getD k 0)]) (OwnG.alloc HO.out (.cells #[.int .u8 (l.getD k 0).toNat] 5)) (ry_new wr (l.getD k 0) 5) (by simp; omega) (by simp only [List.length_cons, List.length_nil]; omega)
           have HO4 := hide o4
           have HB4 := hide ((HB.out.alloc hbz (.cells #[.int .u8 (l.getD k 0).toNat] 5)).trans ((Below.refl w.heap.size _).grown g4 (by simp; omega) (fun q hq => (OwnG.lt HO.out q hq).1)))
           clear o4 g4 b4
           rw [hc0] at r4
           clear hc0
           go_wp2_with (at_builtin; refine wpList_app_run ?_ (.tmp 11) (.tmp 15) ?_ ?_ ?_ ?_ r4 ?_; exact rfl; exact rfl; exact rfl; exact rfl; exact rfl)
           go_roundw
           case rel => exact ⟨k + 1, _, by go_num, by omega, HO4.out, HS, by simp only [List.length_append, List.length_cons, List.length_nil]; omega, HB4.out⟩
           case measure => simp [intOf]; omega
       · have t92 : (((bt (bs l) k : Nat) : Int) == 92) = false := by rw [show (92 : Int) = ((92 : Nat) : Int) from rfl, q92]; simpa using e92
         have HS := hide (show (a ++ [l.getD k 0]) ++ comm (l.drop (k + 1)) = C by rw [← HA.out, comm_else hkl e35 (fun c => e92 c.1)]; simp)
         clear q92 q35 r35 e35 e92
         obtain ⟨v4, w4, r4, o4, g4, b4⟩ := run_appY (c := 1) (N := [(l.getD k 0)]) (OwnG.alloc HO.out (.cells #[.int .u8 (l.getD k 0).toNat] 5)) (ry_new wr (l.getD k 0) 5) (by simp; omega) (by simp only [List.length_cons, List.length_nil]; omega)
         have HO4 := hide o4
         have HB4 := hide ((HB.out.alloc hbz (.cells #[.int .u8 (l.getD k 0).toNat] 5)).trans ((Below.refl w.heap.size _).grown g4 (by simp; omega) (fun q hq => (OwnG.lt HO.out q hq).1)))
         clear o4 g4 b4
         rw [hc0] at r4
         clear hc0
         go_wp2_with (at_builtin; refine wpList_app_run ?_ (.tmp 11) (.tmp 15) ?_ ?_ ?_ ?_ r4 ?_; exact rfl; exact rfl; exact rfl; exact rfl; exact rfl)
         go_roundw
         case rel => exact ⟨k + 1, _, by go_num, by omega, HO4.out, HS, by simp only [List.length_append, List.length_cons, List.length_nil]; omega, HB4.out⟩
         case measure => simp [intOf]; omega
   · obtain rfl : k = (bs l).size := by omega
     have ha : a = C := by
       have := HA.out
       rw [List.drop_of_length_le (by rw [HZ.out]; omega)] at this
       simpa [comm] using this
     subst ha
     have hcv := conv_Y HO.out
     go_wp2_with fail
     refine (HT.out _).mono ?_
     rintro e w2 ⟨rfl, hb2⟩
     have HB2 := hide (below_up HB.out hb2 HB.out.size)
     go_wp2
     rw [Exit.noGoto_ret]
     go_ret
     exact ⟨rfl, HB2.out⟩
end
section
open Go.RowKit Go.Deep Ln
attribute [local go_sem] bt_eq
end
section
open Go.RowKit Go.Deep Ln
attribute [local go_sem] bt_eq
end
section
open Go.RowKit Go.Deep Ln
attribute [local go_sem] bt_eq
end
section
open Go.RowKit Go.Deep Ln
attribute [local go_sem] bt_eq
theorem take_snoc2 {l : T} {f i : Nat} (hf : f ≤ i) (hi : i < l.length) : (l.drop f).take (i + 1 - f) = (l.drop f).take (i - f) ++ [l.getD i 0] := by
 rw [show i + 1 - f = (i - f) + 1 from by omega, List.take_add_one, List.getElem?_drop, show f + (i - f) = i from by omega, List.getElem?_eq_getElem hi]
 simp [hi]
end
section
open Go.RowKit Go.Deep Ln
attribute [local go_sem] bt_eq
theorem wordsF_cons (c : UInt8) (l w : T) : wordsF (c :: l) w = if wblk c = true then (if w = [] then wordsF l [] else w :: wordsF l []) else wordsF l (w ++ [c]) := rfl
def WI (l : T) (C a : List T) (f i : Nat) : Prop := (i ≤ l.length → a ++ wordsF (l.drop i) ((l.drop f).take (i - f)) = C) ∧ (l.length < i → a = C)
theorem WI.go {l : T} {C a : List T} {f i : Nat} (h : WI l C a f i) (hfi : f ≤ i) (hi : i < l.length) (hb : wblk (l.getD i 0) = false) : WI l C a f (i + 1) := by
 refine ⟨fun _ => ?_, fun h => by omega⟩
 rw [← h.1 (by omega), take_snoc2 hfi hi, List.drop_eq_getElem_cons hi, wordsF_cons]
 rw [show l[i] = l.getD i 0 from by simp [hi], hb]
 rfl
theorem WI.stop {l : T} {C a : List T} {f i : Nat} (h : WI l C a f i) (hi : i ≤ l.length) (hb : i < l.length → wblk (l.getD i 0) = true) : WI l C (if (l.drop f).take (i - f) = [] then a else a ++ [(l.drop f).take (i - f)]) (i + 1) (i + 1) := by
 by_cases hl : i < l.length
 · refine ⟨fun _ => ?_, fun h => by omega⟩
   rw [← h.1 hi, List.drop_eq_getElem_cons hl, wordsF_cons, show l[i] = l.getD i 0 from by simp [hl], hb hl, Nat.sub_self, List.take_zero]
   split <;> simp
 · obtain rfl : i = l.length := by omega
   refine ⟨fun h => by omega, fun _ => ?_⟩
   rw [← h.1 hi, List.drop_length]
   split
   · rename_i e; rw [e]; simp [wordsF]
   · rename_i e; simp [wordsF, e]
end
section
open Go.Lib Ln
theorem rune_two (l : T) (i : Nat) : ((l.getD i 0).toNat < 128 ∧ Utf8.decode (bs l) i = ((l.getD i 0).toNat, 1)) ∨
   (128 ≤ (Utf8.decode (bs l) i).1 ∧ ∀ k, k < (Utf8.decode (bs l) i).2 → 128 ≤ (l.getD (i + k) 0).toNat) := by
 rw [decode_N, bs_list]
 generalize l.length - i = n
 have h := decodeN_shape n (l.getD i 0).toNat (l.getD (i + 1) 0).toNat (l.getD (i + 2) 0).toNat (l.getD (i + 3) 0).toNat
 by_cases hb : (l.getD i 0).toNat < 128
 · exact .inl ⟨hb, decodeN_ascii _ _ _ _ _ hb⟩
 · refine .inr ?_
   rcases h with h | ⟨_, _, h1, h2, e⟩ | ⟨_, _, h1, h2, h3, _, e⟩ | ⟨_, _, h1, h2, h3, h4, _, e⟩ | e
   · omega
   · rw [e]
     refine ⟨by simp only; omega, fun k hk => ?_⟩
     rcases k with _ | _ | k
     · rw [Nat.add_zero]; omega
     · show 128 ≤ (l.getD (i + 1) 0).toNat; omega
     · simp only at hk; omega
   · rw [e]
     refine ⟨by simp only; omega, fun k hk => ?_⟩
     rcases k with _ | _ | _ | k
     · rw [Nat.add_zero]; omega
     · show 128 ≤ (l.getD (i + 1) 0).toNat; omega
     · show 128 ≤ (l.getD (i + 2) 0).toNat; omega
     · simp only at hk; omega
   · rw [e]
     refine ⟨by simp only; omega, fun k hk => ?_⟩
     rcases k with _ | _ | _ | _ | k
     · rw [Nat.add_zero]; omega
     · show 128 ≤ (l.getD (i + 1) 0).toNat; omega
     · show 128 ≤ (l.getD (i + 2) 0).toNat; omega
     · show 128 ≤ (l.getD (i + 3) 0).toNat; omega
     · simp only at hk; omega
   · rw [e]
     refine ⟨by simp only; omega, fun k hk => ?_⟩
     obtain rfl : k = 0 := by simp only at hk; omega
     rw [Nat.add_zero]; omega
theorem wblk_big {c : UInt8} (h : 128 ≤ c.toNat) : wblk c = false := by
 cases e : wblk c with
 | false => rfl
 | true =>
   exfalso
   simp only [wblk, Bool.or_eq_true, beq_iff_eq] at e
   rcases e with (rfl | rfl) | rfl <;> (revert h; decide)
theorem wR_byte (c : UInt8) : wR c.toNat = wblk c := by
 have h : ∀ k : UInt8, (c.toNat == k.toNat) = (c == k) := fun k => by
   rw [Bool.eq_iff_iff, beq_iff_eq, beq_iff_eq]
   exact ⟨fun e => UInt8.toNat_inj.1 e, fun e => by rw [e]⟩
 unfold wR wblk
 rw [← h 32, ← h 9, ← h 10]
 rfl
theorem WI.goes {l : T} {C a : List T} {f i : Nat} (h : WI l C a f i) (hfi : f ≤ i) : ∀ d, i + d ≤ l.length → (∀ k, k < d → wblk (l.getD (i + k) 0) = false) → WI l C a f (i + d)
 | 0, _, _ => h
 | d + 1, hd, hk => (WI.goes h hfi d (by omega) (fun k hh => hk k (by omega))).go (by omega) (by omega) (hk d (by omega))
def piece (l : T) (x : Nat × Nat) : T := (l.drop x.1).take (x.2 - x.1)
theorem spans_close (l : T) (C : List T) (st : Option Nat) (acc : List (Nat × Nat)) (hs : ∀ f, st = some f → f < l.length) (h : WI l C (acc.map (piece l)) (st.getD l.length) l.length) : (closeSpans (bs l) (acc, st)).map (piece l) = C := by
 have h1 := h.1 (Nat.le_refl _)
 rw [List.drop_length] at h1
 cases st with
 | none =>
   rw [← h1]
   simp [closeSpans, wordsF]
 | some f =>
   have hf := hs f rfl
   have hne : (l.drop f).take (l.length - f) ≠ [] := by
     intro e
     have := congrArg List.length e
     rw [List.length_take, List.length_drop] at this
     simp at this
     omega
   rw [← h1]
   simp only [Option.getD_some, closeSpans, List.map_append, List.map_cons, List.map_nil, wordsF, if_neg hne, piece, bs_size]
theorem spans_words (l : T) (C : List T) : ∀ (n i : Nat) (st : Option Nat) (acc : List (Nat × Nat)), l.length - i ≤ n → i ≤ l.length → (∀ f, st = some f → f < i) → WI l C (acc.map (piece l)) (st.getD i) i →
   (closeSpans (bs l) (spansFromP wR (bs l) n i st acc)).map (piece l) = C
 | 0, i, st, acc, hn, hi, hs, h => by
   obtain rfl : i = l.length := by omega
   exact spans_close l C st acc hs h
 | n + 1, i, st, acc, hn, hi, hs, h => by
   by_cases hl : i < l.length
   · have hw1 : 1 ≤ (Utf8.decode (bs l) i).2 := decode_width_pos _ _ (by rw [bs_size]; exact hl)
     have hw2 : (Utf8.decode (bs l) i).2 ≤ l.length - i := by
       rw [decode_N, bs_list]
       exact decodeN_le_n' _ _ _ _ _ (by omega)
     have hfi : st.getD i ≤ i := by
       cases st with
       | none => exact Nat.le_refl _
       | some f => exact Nat.le_of_lt (hs f rfl)
     unfold spansFromP
     rw [if_pos (by rw [bs_size]; exact hl)]
     by_cases hb : wR (Utf8.decode (bs l) i).1 = true
     · have hA : wblk (l.getD i 0) = true ∧ (Utf8.decode (bs l) i).2 = 1 := by
         rcases rune_two l i with ⟨_, e⟩ | ⟨hr, _⟩
         · rw [e] at hb ⊢
           exact ⟨by rw [← wR_byte]; exact hb, rfl⟩
         · exfalso
           simp only [wR, Bool.or_eq_true, beq_iff_eq] at hb
           omega
       have h2 := h.stop hi (fun _ => hA.1)
       rw [if_pos hb, hA.2]
       cases st with
       | none =>
         refine spans_words l C n (i + 1) none acc (by omega) (by omega) (fun f e => by cases e) ?_
         rw [if_pos (by simp)] at h2
         exact h2
       | some f =>
         have hf := hs f rfl
         refine spans_words l C n (i + 1) none (acc ++ [(f, i)]) (by omega) (by omega) (fun f e => by cases e) ?_
         rw [if_neg (by
           intro e
           have := congrArg List.length e
           rw [Option.getD_some, List.length_take, List.length_drop] at this
           simp at this
           omega)] at h2
         rw [List.map_append]
         exact h2
     · have hk : ∀ k, k < (Utf8.decode (bs l) i).2 → wblk (l.getD (i + k) 0) = false := by
         rcases rune_two l i with ⟨_, e⟩ | ⟨_, h3⟩
         · rw [e] at hb ⊢
           intro k hk
           obtain rfl : k = 0 := by simp only at hk; omega
           rw [Nat.add_zero, ← wR_byte]
           simpa using hb
         · exact fun k hk => wblk_big (h3 k hk)
       have h2 := h.goes hfi _ (by omega) hk
       rw [if_neg hb]
       cases st with
       | none => exact spans_words l C n _ (some i) acc (by omega) (by omega) (fun f e => by injection e with e; omega) h2
       | some f => exact spans_words l C n _ (some f) acc (by omega) (by omega) (fun f' e => by injection e with e; have := hs f rfl; omega) h2
   · obtain rfl : i = l.length := by omega
     rw [spansFromP_end _ _ _ _ _ _ (by rw [bs_size]; omega)]
     exact spans_close l C st acc hs h
theorem fields_words (l : T) : goFieldsP wR (bs l) = (wordsF l []).map bs := by
 have h := spans_words l (wordsF l []) (bs l).size 0 none [] (by rw [bs_size]; omega) (Nat.zero_le _) (fun f e => by cases e) ⟨fun _ => by simp, fun h => by omega⟩
 rw [← h, List.map_map]
 unfold goFieldsP spansOfP
 refine List.map_congr_left fun x _ => ?_
 exact ext_bs l x.1 x.2
end
end Go.Proofs.YtpheeheikigenaaGreatDoor
namespace Go.Proofs.YtpheeheikigenaaGreatDoor
namespace Mc
open Go.RowKit Ln
abbrev Mp := List (T × T)
def lastV (l : Mp) (n : T) : Option T := (l.reverse.find? fun x => x.1 == n).map Prod.snd
def nameC (c : UInt8) : Bool := (decide (97 ≤ c) && decide (c ≤ 122)) || (decide (65 ≤ c) && decide (c ≤ 90)) || (decide (48 ≤ c) && decide (c ≤ 57)) || c == 95 || c == 46 || c == 45
def nameF (s : T) : Bool := !s.isEmpty && decide (s.length ≤ 60) && s.all nameC
def closeF (o x : UInt8) : Nat → T → Option Nat
 | _, [] => none
 | n, c :: t => if c = o then (closeF o x (n + 1) t).map (· + 1) else if c = x then (if n = 0 then some 0 else (closeF o x (n - 1) t).map (· + 1)) else (closeF o x n t).map (· + 1)
theorem closeF_lt (o x : UInt8) : ∀ (n : Nat) (t : T) (k : Nat), closeF o x n t = some k → k < t.length
 | _, [], k, h => by simp [closeF] at h
 | n, c :: t, k, h => by
   rw [closeF] at h
   have key : ∀ m, (closeF o x m t).map (· + 1) = some k → k < (c :: t).length := fun m h => by
     obtain ⟨j, hj, rfl⟩ := Option.map_eq_some_iff.1 h
     have := closeF_lt o x m t j hj
     simp; omega
   split at h
   · exact key _ h
   · split at h
     · split at h
       · injection h with h; subst h; simp
       · exact key _ h
     · exact key _ h
abbrev R := Except Nat (T × Nat)
def swapW (frm dst w : T) : T :=
 if (37 : UInt8) ∈ frm then (if (matchT frm w).2 then fillT dst (matchT frm w).1 else w)
 else if Lib.hasSuffix w frm then w.take (w.length - frm.length) ++ dst else w
def swapF (v frm dst : T) : T := Lib.join ((wordsF v []).map (swapW frm dst)) [32]
def valueF (auto l : Mp) (rec : List T → T → Nat → R) (opn : List T) (name : T) (refs : Nat) : R :=
 match lastV auto name with
 | some v => .ok (v, refs)
 | none => match lastV l name with
   | none => .ok ([], refs)
   | some v => if name ∈ opn then .error 18 else rec (opn ++ [name]) v refs
def refF (auto l : Mp) (rec : List T → T → Nat → R) (opn : List T) (s : T) (refs : Nat) : R :=
 match rec opn s refs with
 | .error e => .error e
 | .ok (t, r) =>
   if (Lib.cut t [58]).2.2 = true ∧ (Lib.cut (Lib.cut t [58]).2.1 [61]).2.2 = true then
     match valueF auto l rec opn (Lib.cut t [58]).1 r with
     | .error e => .error e
     | .ok (v, r') => .ok (swapF v (Lib.cut (Lib.cut t [58]).2.1 [61]).1 (Lib.cut (Lib.cut t [58]).2.1 [61]).2.1, r')
   else valueF auto l rec opn t r
def oneF (ref : T → Nat → R) (s : T) (refs : Nat) : Except Nat (T × Nat × Nat) :=
 match s with
 | [] => .ok ([36], 0, refs)
 | c :: t =>
   if c = 36 then .ok ([36], 1, refs)
   else if 10000 < refs + 1 then .error 3
   else if c = 40 then
     match closeF 40 41 0 t with
     | none => .error 2
     | some n => match ref (t.take n) (refs + 1) with
       | .error e => .error e
       | .ok (y, r) => .ok (y, n + 2, r)
   else if c = 123 then
     match closeF 123 125 0 t with
     | none => .error 2
     | some n => match ref (t.take n) (refs + 1) with
       | .error e => .error e
       | .ok (y, r) => .ok (y, n + 2, r)
   else match ref [c] (refs + 1) with
     | .error e => .error e
     | .ok (y, r) => .ok (y, 1, r)
theorem oneF_le {ref : T → Nat → R} {s : T} {refs : Nat} {y : T} {n r : Nat} (h : oneF ref s refs = .ok (y, n, r)) : n ≤ s.length := by
 unfold oneF at h
 split at h
 · injection h with h; injection h with h1 h2; injection h2 with h2 h3; subst h2; simp
 · rename_i c t
   split at h
   · injection h with h; injection h with h1 h2; injection h2 with h2 h3; subst h2; simp
   · split at h
     · cases h
     · split at h
       · split at h
         · cases h
         · rename_i k hk
           have := closeF_lt _ _ _ _ _ hk
           split at h
           · cases h
           · injection h with h; injection h with h1 h2; injection h2 with h2 h3; subst h2; simp; omega
       · split at h
         · split at h
           · cases h
           · rename_i k hk
             have := closeF_lt _ _ _ _ _ hk
             split at h
             · cases h
             · injection h with h; injection h with h1 h2; injection h2 with h2 h3; subst h2; simp; omega
         · split at h
           · cases h
           · injection h with h; injection h with h1 h2; injection h2 with h2 h3; subst h2; simp
def scanF (one : T → Nat → Except Nat (T × Nat × Nat)) : T → Nat → T → Nat → R
 | [], _, out, r => .ok (out, r)
 | _ :: s, k + 1, out, r => scanF one s k out r
 | c :: s, 0, out, r =>
   if c = 36 then
     match one s r with
     | .error e => .error e
     | .ok (y, n, r') => if 16384 < (out ++ y).length then .error 3 else scanF one s n (out ++ y) r'
   else if 16384 < out.length + 1 then .error 3 else scanF one s 0 (out ++ [c]) r
def textF (auto l : Mp) : Nat → List T → T → Nat → R
 | 0 => fun opn s refs => if 16384 < s.length then .error 3 else scanF (oneF fun _ _ => .error 3) s 0 [] refs
 | d + 1 => fun opn s refs => if 16384 < s.length then .error 3 else scanF (oneF (refF auto l (textF auto l d) opn)) s 0 [] refs
def refD (auto l : Mp) : Nat → List T → T → Nat → R
 | 0 => fun _ _ _ => .error 3
 | d + 1 => fun opn s refs => refF auto l (textF auto l d) opn s refs
theorem textF_eq (auto l : Mp) (d : Nat) (opn : List T) (s : T) (refs : Nat) : textF auto l d opn s refs = if 16384 < s.length then .error 3 else scanF (oneF (refD auto l d opn)) s 0 [] refs := by
 cases d <;> rfl
def expR (r : R) : T × Nat := match r with
 | .error e => ([], e)
 | .ok (t, _) => (t, 0)
def expF (auto l : Mp) (s : T) : T × Nat := expR (textF auto l 40 [] s 0)
theorem scan_skip (one : T → Nat → Except Nat (T × Nat × Nat)) : ∀ (k : Nat) (s out : T) (r : Nat), scanF one s k out r = scanF one (s.drop k) 0 out r
 | 0, s, out, r => by rw [List.drop_zero]
 | k + 1, [], out, r => by simp [scanF]
 | k + 1, c :: s, out, r => by rw [scanF, scan_skip one k s out r, List.drop_succ_cons]
theorem scan_front (one : T → Nat → Except Nat (T × Nat × Nat)) (rest : T) (r : Nat) : ∀ (a out : T), (∀ c ∈ a, c ≠ 36) → out.length ≤ 16384 → scanF one (a ++ rest) 0 out r = if 16384 < out.length + a.length then .error 3 else scanF one rest 0 (out ++ a) r
 | [], out, _, h => by rw [if_neg (by simp; omega)]; simp
 | c :: a, out, ha, h => by
   rw [List.cons_append, scanF, if_neg (ha c (by simp))]
   by_cases h1 : 16384 < out.length + 1
   · rw [if_pos h1, if_pos (by simp; omega)]
   · rw [if_neg h1, scan_front one rest r a _ (fun d hd => ha d (by simp [hd])) (by simp; omega)]
     simp [Nat.add_assoc, Nat.add_comm 1]
theorem scan_one (one : T → Nat → Except Nat (T × Nat × Nat)) (s out : T) (r : Nat) : scanF one (36 :: s) 0 out r = match one s r with
   | .error e => .error e
   | .ok (y, n, r') => if 16384 < (out ++ y).length then .error 3 else scanF one (s.drop n) 0 (out ++ y) r' := by
 rw [scanF, if_pos rfl]
 split
 · rfl
 · rw [scan_skip]
theorem scan_len (one : T → Nat → Except Nat (T × Nat × Nat)) : ∀ (s : T) (k : Nat) (out : T) (r : Nat) (t : T) (r' : Nat), out.length ≤ 16384 → scanF one s k out r = .ok (t, r') → t.length ≤ 16384
 | [], k, out, r, t, r', h, e => by
   rw [scanF] at e
   injection e with e; injection e with e1 e2
   rw [← e1]; exact h
 | c :: s, k + 1, out, r, t, r', h, e => by
   rw [scanF] at e
   exact scan_len one s k out r t r' h e
 | c :: s, 0, out, r, t, r', h, e => by
   rw [scanF] at e
   split at e
   · split at e
     · cases e
     · split at e
       · cases e
       · exact scan_len one s _ _ _ t r' (by omega) e
   · split at e
     · cases e
     · exact scan_len one s 0 _ r t r' (by simp; omega) e
theorem textF_len {auto l : Mp} {d : Nat} {opn : List T} {s : T} {refs : Nat} {t : T} {r : Nat} (h : textF auto l d opn s refs = .ok (t, r)) : t.length ≤ 16384 := by
 rw [textF_eq] at h
 split at h
 · cases h
 · exact scan_len _ _ _ _ _ _ _ (by simp) h
theorem expF_len (auto l : Mp) (s : T) : (expF auto l s).1.length ≤ 16384 := by
 unfold expF expR
 split
 · simp
 · rename_i t r h; exact textF_len h
theorem one_refs {ref : T → Nat → R} (hr : ∀ t n y r, n ≤ 10000 → ref t n = .ok (y, r) → r ≤ 10000) {s : T} {refs : Nat} {y : T} {k r : Nat} (h : oneF ref s refs = .ok (y, k, r)) (h0 : refs ≤ 10000) : r ≤ 10000 := by
 unfold oneF at h
 split at h
 · injection h with h; injection h with h1 h2; injection h2 with h2 h3; omega
 · rename_i c t
   split at h
   · injection h with h; injection h with h1 h2; injection h2 with h2 h3; omega
   · split at h
     · cases h
     · have key : ∀ {u : T} {m : Nat}, (match ref u (refs + 1) with | .error e => (.error e : Except Nat (T × Nat × Nat)) | .ok (y, r) => .ok (y, m, r)) = .ok (y, k, r) → r ≤ 10000 := fun {u m} h => by
         split at h
         · cases h
         · rename_i y' r' h'
           injection h with h; injection h with h1 h2; injection h2 with h2 h3
           subst h3
           exact hr _ _ _ _ (by omega) h'
       split at h
       · split at h
         · cases h
         · exact key h
       · split at h
         · split at h
           · cases h
           · exact key h
         · exact key h
theorem scan_refs {one : T → Nat → Except Nat (T × Nat × Nat)} (ho : ∀ s n y k r, n ≤ 10000 → one s n = .ok (y, k, r) → r ≤ 10000) : ∀ (s : T) (k : Nat) (out : T) (n : Nat) (t : T) (r : Nat), n ≤ 10000 → scanF one s k out n = .ok (t, r) → r ≤ 10000
 | [], k, out, n, t, r, h, e => by
   rw [scanF] at e
   injection e with e; injection e with e1 e2
   omega
 | c :: s, k + 1, out, n, t, r, h, e => by
   rw [scanF] at e
   exact scan_refs ho s k out n t r h e
 | c :: s, 0, out, n, t, r, h, e => by
   rw [scanF] at e
   split at e
   · split at e
     · cases e
     · rename_i y k' r' h'
       split at e
       · cases e
       · exact scan_refs ho s _ _ _ t r (ho _ _ _ _ _ h h') e
   · split at e
     · cases e
     · exact scan_refs ho s 0 _ n t r h e
theorem valueF_refs {auto l : Mp} {rec : List T → T → Nat → R} (hr : ∀ o s n y r, n ≤ 10000 → rec o s n = .ok (y, r) → r ≤ 10000) {opn : List T} {name : T} {n : Nat} {y : T} {r : Nat} (h0 : n ≤ 10000) (h : valueF auto l rec opn name n = .ok (y, r)) : r ≤ 10000 := by
 unfold valueF at h
 split at h
 · injection h with h; injection h with h1 h2; omega
 · split at h
   · injection h with h; injection h with h1 h2; omega
   · split at h
     · cases h
     · exact hr _ _ _ _ _ h0 h
theorem refF_refs {auto l : Mp} {rec : List T → T → Nat → R} (hr : ∀ o s n y r, n ≤ 10000 → rec o s n = .ok (y, r) → r ≤ 10000) {opn : List T} {s : T} {n : Nat} {y : T} {r : Nat} (h0 : n ≤ 10000) (h : refF auto l rec opn s n = .ok (y, r)) : r ≤ 10000 := by
 unfold refF at h
 split at h
 · cases h
 · rename_i t r1 h1
   have h2 := hr _ _ _ _ _ h0 h1
   split at h
   · split at h
     · cases h
     · rename_i v r2 h3
       injection h with h; injection h with h4 h5
       subst h5
       exact valueF_refs hr h2 h3
   · exact valueF_refs hr h2 h
theorem textF_refs {auto l : Mp} : ∀ (d : Nat) {opn : List T} {s : T} {n : Nat} {y : T} {r : Nat}, n ≤ 10000 → textF auto l d opn s n = .ok (y, r) → r ≤ 10000
 | 0, opn, s, n, y, r, h0, h => by
   rw [textF_eq] at h
   split at h
   · cases h
   · exact scan_refs (fun s n y k r hn h => one_refs (fun t n y r _ h => by cases h) h hn) _ _ _ _ _ _ h0 h
 | d + 1, opn, s, n, y, r, h0, h => by
   rw [textF_eq] at h
   split at h
   · cases h
   · exact scan_refs (one := oneF (refD auto l (d + 1) opn)) (fun s n y k r hn h => one_refs (ref := refD auto l (d + 1) opn) (fun t n y r hn h => refF_refs (rec := textF auto l d) (fun o s n y r hn h => textF_refs d hn h) hn h) h hn) _ _ _ _ _ _ h0 h
theorem refD_refs {auto l : Mp} {d : Nat} {opn : List T} {s : T} {n : Nat} {y : T} {r : Nat} (h0 : n ≤ 10000) (h : refD auto l d opn s n = .ok (y, r)) : r ≤ 10000 := by
 cases d with
 | zero => cases h
 | succ d => exact refF_refs (rec := textF auto l d) (fun o s n y r hn h => textF_refs d hn h) h0 h
theorem lastV_mem {l : Mp} {n v : T} (h : lastV l n = some v) : ∃ x ∈ l, x.2 = v := by
 unfold lastV at h
 obtain ⟨x, hx, rfl⟩ := Option.map_eq_some_iff.1 h
 exact ⟨x, by simpa using List.mem_of_find?_eq_some hx, rfl⟩
theorem cut_len (p : T) (c : UInt8) : (Lib.cut p [c]).1.length ≤ p.length ∧ (Lib.cut p [c]).2.1.length ≤ p.length := by
 unfold Lib.cut
 split
 · refine ⟨?_, ?_⟩
   · simp; omega
   · simp
 · simp
theorem valueF_len {auto l : Mp} {d : Nat} (ha : ∀ x ∈ auto, x.2.length ≤ 900000) {opn : List T} {name : T} {n : Nat} {y : T} {r : Nat} (h : valueF auto l (textF auto l d) opn name n = .ok (y, r)) : y.length ≤ 900000 := by
 unfold valueF at h
 split at h
 · rename_i v hv
   injection h with h; injection h with h1 h2
   obtain ⟨x, hx, rfl⟩ := lastV_mem hv
   rw [← h1]
   exact ha x hx
 · split at h
   · injection h with h; injection h with h1 h2
     rw [← h1]; simp
   · split at h
     · cases h
     · have := textF_len h
       omega
end Mc
end Go.Proofs.YtpheeheikigenaaGreatDoor
namespace Go.Proofs.YtpheeheikigenaaGreatDoor
namespace Rd
open Go.RowKit Ln Pth Vf Mc
structure RuleS where
 tg : List T
 nd : List T
 rc : List T
structure Sx where
 mac : KV ByteArray
 giv : List T
 rules : List RuleS
 files : Nat
def mpOf (P : KV ByteArray) : Mc.Mp := P.map fun x => (x.1.data.toList, x.2.data.toList)
def expS (mac : KV ByteArray) (t : T) : Except Nat T := if (expF [] (mpOf mac) t).2 = 0 then .ok (expF [] (mpOf mac) t).1 else .error (expF [] (mpOf mac) t).2
def opsL : List T := [[58, 58, 61], [58, 61], [43, 61], [63, 61], [61]]
def opF (rest : T) : List T → Option (T × T)
 | [] => none
 | o :: os => if Lib.hasPrefix rest o then some (o, trimL (rest.drop o.length)) else opF rest os
def defsF (s : T) : Option (T × T × T) :=
 if nameF (s.takeWhile nameC) then (opF (trimL (s.dropWhile nameC)) opsL).map fun x => (s.takeWhile nameC, x.1, x.2) else none
def dbl (t : T) : T := t.flatMap fun c => if c = 36 then [36, 36] else [c]
def oldV (mac : KV ByteArray) (n : T) : T := match getG mac (bs n) with | some v => v.data.toList | none => []
def valV (mac : KV ByteArray) (n o v : T) : Except Nat T :=
 if o = [58, 61] ∨ o = [58, 58, 61] then (match expS mac v with | .error e => .error e | .ok t => .ok (dbl t))
 else if o = [43, 61] ∧ oldV mac n ≠ [] then .ok (oldV mac n ++ 32 :: v) else .ok v
def defineF (s : Sx) (n o v : T) : Except Nat Sx :=
 if n ∈ s.giv ∨ (o = [63, 61] ∧ (getG s.mac (bs n)).isSome = true) then .ok s
 else match valV s.mac n o v with
   | .error e => .error e
   | .ok t => if (getG s.mac (bs n)).isSome = false ∧ 200 ≤ s.mac.length then .error 3 else .ok { s with mac := putG (bs n, bs t) s.mac }
def passF (o x : UInt8) : Nat → T → Nat
 | _, [] => 0
 | 0, _ :: _ => 0
 | n + 1, c :: t => 1 + passF o x (if c = o then n + 2 else if c = x then n else n + 1) t
def cutF : T → Nat → T → T × T × Bool
 | [], _, acc => (acc, [], false)
 | c :: t, k + 1, acc => cutF t k (acc ++ [c])
 | c :: t, 0, acc =>
   if c = 36 then cutF t (match t with | [] => 0 | d :: u => if d = 40 then 1 + passF 40 41 1 u else if d = 123 then 1 + passF 123 125 1 u else 1) (acc ++ [c])
   else if c = 59 then (acc, trimL t, true) else cutF t 0 (acc ++ [c])
def pc (t : T) : Bool := decide ((37 : UInt8) ∈ t)
def mixF (l : List T) : Bool := l.any pc && l.any fun t => !pc t
def ruleF (s : Sx) (t : T) : Except Nat Sx :=
 match expS s.mac (cutF t 0 []).1 with
 | .error e => .error e
 | .ok x =>
   if (Lib.cut x [58]).2.2 = false ∨ (58 : UInt8) ∈ (Lib.cut x [58]).2.1 ∨ wordsF (Lib.cut x [58]).1 [] = [] ∨ mixF (wordsF (Lib.cut x [58]).1 []) = true then .error 2
   else if 300 ≤ s.rules.length ∨ 200 < (wordsF (Lib.cut x [58]).1 []).length ∨ 200 < (wordsF (Lib.cut x [58]).2.1 []).length then .error 3
   else .ok { s with rules := s.rules ++ [⟨wordsF (Lib.cut x [58]).1 [], wordsF (Lib.cut x [58]).2.1 [], if (cutF t 0 []).2.2 then [(cutF t 0 []).2.1] else []⟩] }
def inclF (fs : St) (cwd : T) (rec : Option (Sx → T → Except Nat Sx)) : List T → Sx → Except Nat Sx
 | [], s => .ok s
 | x :: l, s =>
   if (absF cwd x).2 ≠ 0 then .error (absF cwd x).2
   else if (readS fs (absF cwd x).1).2 ≠ 0 then .error (readS fs (absF cwd x).1).2
   else match rec with
     | none => .error 3
     | some f => if 100 < s.files + 1 then .error 3 else match f { s with files := s.files + 1 } (readS fs (absF cwd x).1).1 with
       | .error e => .error e
       | .ok s' => inclF fs cwd rec l s'
def addL (s : Sx) (t : T) : Except Nat Sx := match s.rules.getLast? with
 | none => .error 2
 | some r => .ok { s with rules := s.rules.dropLast ++ [{ r with rc := r.rc ++ [t] }] }
def incT : T := [105, 110, 99, 108, 117, 100, 101]
def isInc (t : T) : Bool := Lib.hasPrefix t incT && ((t.drop 7).headD 0 == 32 || (t.drop 7).headD 0 == 9)
def lineF (fs : St) (cwd : T) (rec : Option (Sx → T → Except Nat Sx)) (s : Sx) (x : Line) : Except Nat Sx :=
 if x.1 then addL s x.2
 else match defsF x.2 with
   | some d => defineF s d.1 d.2.1 d.2.2
   | none => if isInc x.2 then (match expS s.mac (x.2.drop 7) with | .error e => .error e | .ok t => inclF fs cwd rec (wordsF t []) s) else ruleF s x.2
def foldE (f : Sx → Line → Except Nat Sx) : List Line → Sx → Except Nat Sx
 | [], s => .ok s
 | x :: l, s => match f s x with
   | .error e => .error e
   | .ok s' => foldE f l s'
theorem foldE_nil (f : Sx → Line → Except Nat Sx) (s : Sx) : foldE f [] s = .ok s := rfl
theorem foldE_cons (f : Sx → Line → Except Nat Sx) (x : Line) (l : List Line) (s : Sx) : foldE f (x :: l) s = (match f s x with | .error e => .error e | .ok s' => foldE f l s') := rfl
theorem inclF_nil (fs : St) (cwd : T) (rc : Option (Sx → T → Except Nat Sx)) (s : Sx) : inclF fs cwd rc [] s = .ok s := rfl
theorem inclF_cons (fs : St) (cwd : T) (rc : Option (Sx → T → Except Nat Sx)) (x : T) (l : List T) (s : Sx) : inclF fs cwd rc (x :: l) s =
   if (absF cwd x).2 ≠ 0 then .error (absF cwd x).2
   else if (readS fs (absF cwd x).1).2 ≠ 0 then .error (readS fs (absF cwd x).1).2
   else match rc with
     | none => .error 3
     | some f => if 100 < s.files + 1 then .error 3 else match f { s with files := s.files + 1 } (readS fs (absF cwd x).1).1 with
       | .error e => .error e
       | .ok s' => inclF fs cwd rc l s' := rfl
def bodyR (fs : St) (cwd : T) (rec : Option (Sx → T → Except Nat Sx)) (s : Sx) (t : T) : Except Nat Sx := if (readF t).2 ≠ 0 then .error (readF t).2 else foldE (lineF fs cwd rec) (readF t).1 s
def textR (fs : St) (cwd : T) : Nat → Sx → T → Except Nat Sx
 | 0 => bodyR fs cwd none
 | d + 1 => bodyR fs cwd (some (textR fs cwd d))
def recR (fs : St) (cwd : T) : Nat → Option (Sx → T → Except Nat Sx)
 | 0 => none
 | d + 1 => some (textR fs cwd d)
theorem textR_eq (fs : St) (cwd : T) (d : Nat) : textR fs cwd d = bodyR fs cwd (recR fs cwd d) := by cases d <;> rfl
structure Bd (s : Sx) (k : Nat) : Prop where
 mac : ∀ x ∈ s.mac, x.2.size ≤ 40000 * (k + 1)
 nam : ∀ x ∈ s.mac, x.1.size ≤ 60
 rise : RiseG s.mac
 cnt : s.mac.length ≤ 1000
 rc : ∀ r ∈ s.rules, r.rc.length ≤ k + 1
 rl : s.rules.length ≤ 300
 fl : s.files ≤ 100
def Qs (s : Sx) (k : Nat) : Nat := k + 16385 * (101 - s.files)
theorem Bd.mono {s : Sx} {k k' : Nat} (h : Bd s k) (hk : k ≤ k') : Bd s k' :=
 ⟨fun x hx => Nat.le_trans (h.mac x hx) (by omega), h.nam, h.rise, h.cnt, fun r hr => Nat.le_trans (h.rc r hr) (by omega), h.rl, h.fl⟩
theorem expS_len {mac : KV ByteArray} {t x : T} (h : expS mac t = .ok x) : x.length ≤ 16384 := by
 unfold expS at h
 split at h
 · injection h with h
   rw [← h]; exact expF_len _ _ _
 · cases h
theorem dbl_len (t : T) : (dbl t).length ≤ 2 * t.length := by
 induction t with
 | nil => simp [dbl]
 | cons c t ih =>
   have e : dbl (c :: t) = (if c = 36 then [36, 36] else [c]) ++ dbl t := rfl
   rw [e, List.length_append, List.length_cons]
   split <;> simp <;> omega
theorem oldV_len {s : Sx} {k : Nat} (h : Bd s k) (n : T) : (oldV s.mac n).length ≤ 40000 * (k + 1) := by
 unfold oldV
 split
 · rename_i v hv
   have := h.mac _ (getG_mem hv)
   rw [← data_len] at this
   exact this
 · simp
theorem valV_len {s : Sx} {k : Nat} (h : Bd s k) {n o v t : T} (hv : v.length ≤ 16384) (e : valV s.mac n o v = .ok t) : t.length ≤ 40000 * (k + 2) := by
 unfold valV at e
 split at e
 · split at e
   · cases e
   · rename_i x hx
     injection e with e
     have h1 := expS_len hx
     have h2 := dbl_len x
     rw [← e]; omega
 · have := oldV_len h n
   split at e
   · injection e with e
     rw [← e]; simp; omega
   · injection e with e
     rw [← e]; omega
theorem define_bd {s : Sx} {k : Nat} (h : Bd s k) {n o v : T} {s' : Sx} (hn : n.length ≤ 60) (hv : v.length ≤ 16384) (e : defineF s n o v = .ok s') : Bd s' (k + 1) ∧ s'.files = s.files := by
 unfold defineF at e
 split at e
 · injection e with e
   subst e
   exact ⟨h.mono (by omega), rfl⟩
 · split at e
   · cases e
   · rename_i t ht
     have h1 := valV_len h hv ht
     split at e
     · cases e
     · rename_i hc
       injection e with e
       subst e
       refine ⟨⟨fun x hx => ?_, fun x hx => ?_, h.rise.put _, ?_, fun r hr => Nat.le_trans (h.rc r hr) (by omega), h.rl, h.fl⟩, rfl⟩
       · rcases mem_putG hx with rfl | hx
         · show (bs t).size ≤ _
           rw [bs_size]; omega
         · have := h.mac x hx
           omega
       · rcases mem_putG hx with rfl | hx
         · show (bs n).size ≤ _
           rw [bs_size]; exact hn
         · exact h.nam x hx
       · show (putG (bs n, bs t) s.mac).length ≤ 1000
         rw [putG_len _ h.rise]
         split
         · exact h.cnt
         · rename_i hg
           have hf : (getG s.mac (bs n)).isSome = false := by simpa using hg
           have : ¬ 200 ≤ s.mac.length := fun h2 => hc ⟨hf, h2⟩
           omega
theorem rule_bd {s : Sx} {k : Nat} (h : Bd s k) {t : T} {s' : Sx} (e : ruleF s t = .ok s') : Bd s' (k + 1) ∧ s'.files = s.files := by
 unfold ruleF at e
 split at e
 · cases e
 · split at e
   · cases e
   · split at e
     · cases e
     · rename_i hc
       injection e with e
       subst e
       refine ⟨⟨fun x hx => Nat.le_trans (h.mac x hx) (by omega), h.nam, h.rise, h.cnt, fun r hr => ?_, ?_, h.fl⟩, rfl⟩
       · rcases List.mem_append.1 hr with hr | hr
         · exact Nat.le_trans (h.rc r hr) (by omega)
         · rw [List.mem_singleton.1 hr]
           show (if _ then _ else _ : List T).length ≤ _
           split <;> simp
       · show (s.rules ++ _).length ≤ 300
         rw [List.length_append, List.length_singleton]
         omega
theorem add_bd {s : Sx} {k : Nat} (h : Bd s k) {t : T} {s' : Sx} (e : addL s t = .ok s') : Bd s' (k + 1) ∧ s'.files = s.files := by
 unfold addL at e
 split at e
 · cases e
 · rename_i r hr
   injection e with e
   subst e
   have hm := List.mem_of_getLast? hr
   have hne : s.rules ≠ [] := by rintro e; rw [e] at hr; cases hr
   refine ⟨⟨fun x hx => Nat.le_trans (h.mac x hx) (by omega), h.nam, h.rise, h.cnt, fun q hq => ?_, ?_, h.fl⟩, rfl⟩
   · rcases List.mem_append.1 hq with hq | hq
     · exact Nat.le_trans (h.rc q (List.dropLast_subset _ hq)) (by omega)
     · rw [List.mem_singleton.1 hq]
       show (r.rc ++ [t]).length ≤ _
       have := h.rc r hm
       rw [List.length_append, List.length_singleton]
       omega
   · show (s.rules.dropLast ++ _).length ≤ 300
     have := h.rl
     have := List.length_pos_iff.2 hne
     rw [List.length_append, List.length_singleton, List.length_dropLast]
     omega
def Keeps (f : Sx → T → Except Nat Sx) : Prop := ∀ (s : Sx) (k : Nat) (t : T) (s' : Sx), Bd s k → f s t = .ok s' → ∃ k', Bd s' k' ∧ Qs s' k' ≤ Qs s k + 16385 ∧ s.files ≤ s'.files
theorem incl_bd (fs : St) (cwd : T) {rec : Option (Sx → T → Except Nat Sx)} (hr : ∀ f, rec = some f → Keeps f) : ∀ (l : List T) (s : Sx) (k : Nat) (s' : Sx), Bd s k → inclF fs cwd rec l s = .ok s' → ∃ k', Bd s' k' ∧ Qs s' k' ≤ Qs s k ∧ s.files ≤ s'.files
 | [], s, k, s', h, e => by
   rw [inclF_nil] at e
   injection e with e
   subst e
   exact ⟨k, h, Nat.le_refl _, Nat.le_refl _⟩
 | x :: l, s, k, s', h, e => by
   rw [inclF_cons] at e
   split at e
   · cases e
   · split at e
     · cases e
     · split at e
       · cases e
       · rename_i f
         split at e
         · cases e
         · rename_i hc
           split at e
           · cases e
           · rename_i s1 h1
             have hb : Bd { s with files := s.files + 1 } k := ⟨h.mac, h.nam, h.rise, h.cnt, h.rc, h.rl, by show s.files + 1 ≤ 100; omega⟩
             obtain ⟨k1, b1, q1, f1⟩ := hr f rfl _ k _ s1 hb h1
             obtain ⟨k2, b2, q2, f2⟩ := incl_bd fs cwd hr l s1 k1 s' b1 e
             refine ⟨k2, b2, ?_, ?_⟩
             · unfold Qs at q1 q2 ⊢
               dsimp only at q1
               omega
             · dsimp only at f1
               omega
theorem trimL_len (l : T) : (trimL l).length ≤ l.length := (List.dropWhile_sublist _).length_le
theorem opF_len {rest : T} : ∀ {l : List T} {x : T × T}, opF rest l = some x → x.2.length ≤ rest.length
 | [], x, h => by cases h
 | o :: os, x, h => by
   rw [opF] at h
   split at h
   · injection h with h
     rw [← h]
     refine Nat.le_trans (trimL_len _) ?_
     rw [List.length_drop]; omega
   · exact opF_len h
theorem defsF_len {t : T} {x : T × T × T} (h : defsF t = some x) : x.1.length ≤ 60 ∧ x.2.2.length ≤ t.length := by
 unfold defsF at h
 split at h
 · rename_i hn
   obtain ⟨y, hy, rfl⟩ := Option.map_eq_some_iff.1 h
   refine ⟨?_, ?_⟩
   · unfold nameF at hn
     simp only [Bool.and_eq_true, decide_eq_true_eq] at hn
     exact hn.1.2
   · have h1 := opF_len hy
     have h2 := trimL_len (t.dropWhile nameC)
     have h3 := (List.dropWhile_sublist (l := t) nameC).length_le
     dsimp only
     omega
 · cases h
theorem line_bd (fs : St) (cwd : T) {rec : Option (Sx → T → Except Nat Sx)} (hr : ∀ f, rec = some f → Keeps f) {s : Sx} {k : Nat} {x : Line} {s' : Sx} (h : Bd s k) (hx : x.2.length ≤ 16384) (e : lineF fs cwd rec s x = .ok s') : ∃ k', Bd s' k' ∧ Qs s' k' ≤ Qs s k + 1 ∧ s.files ≤ s'.files := by
 have one : ∀ {s' : Sx}, Bd s' (k + 1) ∧ s'.files = s.files → ∃ k', Bd s' k' ∧ Qs s' k' ≤ Qs s k + 1 ∧ s.files ≤ s'.files := fun {s'} ⟨h1, h2⟩ => ⟨k + 1, h1, by unfold Qs; rw [h2]; omega, by omega⟩
 unfold lineF at e
 split at e
 · exact one (add_bd h e)
 · split at e
   · rename_i d hd
     obtain ⟨h1, h2⟩ := defsF_len hd
     exact one (define_bd h h1 (by omega) e)
   · split at e
     · split at e
       · cases e
       · obtain ⟨k', b, q, f⟩ := incl_bd fs cwd hr _ _ _ _ h e
         exact ⟨k', b, by omega, f⟩
     · exact one (rule_bd h e)
theorem fold_bd (fs : St) (cwd : T) {rec : Option (Sx → T → Except Nat Sx)} (hr : ∀ f, rec = some f → Keeps f) : ∀ (l : List Line) (s : Sx) (k : Nat) (s' : Sx), (∀ x ∈ l, x.2.length ≤ 16384) → Bd s k → foldE (lineF fs cwd rec) l s = .ok s' → ∃ k', Bd s' k' ∧ Qs s' k' ≤ Qs s k + l.length ∧ s.files ≤ s'.files
 | [], s, k, s', _, h, e => by
   rw [foldE_nil] at e
   injection e with e
   subst e
   exact ⟨k, h, by simp, Nat.le_refl _⟩
 | x :: l, s, k, s', hx, h, e => by
   rw [foldE_cons] at e
   split at e
   · cases e
   · rename_i s1 h1
     obtain ⟨k1, b1, q1, f1⟩ := line_bd fs cwd hr h (hx x (by simp)) h1
     obtain ⟨k2, b2, q2, f2⟩ := fold_bd fs cwd hr l s1 k1 s' (fun y hy => hx y (by simp [hy])) b1 e
     exact ⟨k2, b2, by rw [List.length_cons]; omega, by omega⟩
end Rd
end Go.Proofs.YtpheeheikigenaaGreatDoor
namespace Go.Proofs.YtpheeheikigenaaGreatDoor
section
open Go.RowKit Go.Deep Go.Maps
def hB (v : Value) : Option (DataW Value × List MemPlace) := some (.held v, [])
def fB (b : Bool) : DataW Value := .held (.bool b)
def valB : Option Bool → Value
 | none => .bool false
 | some b => .bool b
def MapB (w : World) (b : Nat) (P : KV Bool) : Prop := w.ownsMap Tryz.prog 9 hB b P.length (datG fB P)
theorem bkeyed : Keyed Tryz.prog 9 := string_keyed Tryz.underlying9
theorem bzero (w : World) : (zeroValue 4).run Tryz.prog w = .ok (.bool false) w := by kernel_rfl
theorem bkey {s : ByteArray} (h : s.size ≤ 9223372036854775807) : keyOf Tryz.prog 9 (.string s) = some (kLit s) := Go.WideMaps.keyOf_string_mk Tryz.underlying9 (by unfold maxLen; omega)
theorem own_tightB {w : World} {b n : Nat} {P : KV Bool} (h : w.ownsMap Tryz.prog 9 hB b n (datG fB P)) : MapB w b P := by
 obtain ⟨es, clock, h1, h2, h3, h4⟩ := h
 refine ⟨es, clock, h1, h2, ?_, h4⟩
 have := congrArg Maps.size h4
 rw [datG_size] at this
 rw [this]
 simp [Maps.size, length_sorted]
theorem MapB.of {w w' : World} {b : Nat} {P : KV Bool} (h : MapB w b P) (hb : w'.heap[b]? = w.heap[b]?) : MapB w' b P := by
 obtain ⟨es, clock, h1, h2⟩ := h
 exact ⟨es, clock, hb.trans h1, h2⟩
theorem MapB.lt {w : World} {b : Nat} {P : KV Bool} (h : MapB w b P) : b < w.heap.size := by
 obtain ⟨es, clock, h1, h2⟩ := h
 exact (Array.getElem?_eq_some_iff.1 h1).1
theorem bat_val {P : KV Bool} {s : ByteArray} {v : Value} {ps : List MemPlace} (h : hB v = some ((datG fB P).atKey (kLit s) (.held (.bool false)), ps)) : v = valB (getG P s) := by
 unfold hB at h
 rw [datG_at] at h
 cases hg : getG P s with
 | none => rw [hg] at h; injection h with h; injection h with h1 h2; injection h1
 | some e => rw [hg] at h; injection h with h; injection h with h1 h2; unfold fB at h1; injection h1
theorem blook1 {w : World} {b : Nat} {P : KV Bool} (h : MapB w b P) {s : ByteArray} (hs : s.size ≤ 9223372036854775807) :
   (Instr.lookup 77 (.map (some b)) (.string s) false).run Tryz.prog w = .ok (valB (getG P s)) w := by
 obtain ⟨v, ps, hrun, hv⟩ := h.lookup bkeyed Tryz.underlying77 (bzero w) (zd := .held (.bool false)) (zp := []) rfl (bkey hs)
 rw [hrun, bat_val hv]
theorem turnedB {w w' : World} {b : Nat} (h : w.mapTurned w' b) : Kp w w' (fun k => k = b) :=
 ⟨h.grown.os, h.grown.tape, h.grown.output, h.grown.size, fun k hk hne => h.grown.block k hk (by intro e; injection e with e; exact hne e)⟩
theorem bstore {w : World} {b : Nat} {P : KV Bool} (h : MapB w b P) (hr : RiseG P) (hl : P.length ≤ 1000000) {s : ByteArray} (hs : s.size ≤ 9223372036854775807) (e : Bool) :
   ∃ w', (Instr.mapUpdate 77 (.map (some b)) (.string s) (.bool e)).run Tryz.prog w = .ok () w' ∧ MapB w' b (putG (s, e) P) ∧ Kp w w' (fun k => k = b) ∧ w'.heap.size = w.heap.size := by
 obtain ⟨w', h1, h2, h3⟩ := h.store bkeyed Tryz.underlying77 (by unfold maxLen; omega) (bkey hs) (val := .bool e) (d := fB e) (ps := []) rfl
 rw [datG_put fB hr] at h2
 refine ⟨w', h1, own_tightB h2, turnedB h3, ?_⟩
 obtain ⟨es, clock, es', clock', hb, rfl⟩ := h3
 simp [ChangeMaps.setBlock]
def MSet (w : World) (b : Nat) (l : List ByteArray) : Prop := ∃ P : KV Bool, MapB w b P ∧ RiseG P ∧ P.length ≤ l.length ∧ ∀ s, getG P s = if Lib.containsS l s = true then some true else none
theorem MSet.of {w w' : World} {b : Nat} {l : List ByteArray} (h : MSet w b l) (hb : w'.heap[b]? = w.heap[b]?) : MSet w' b l := by
 obtain ⟨P, h1, h2⟩ := h
 exact ⟨P, h1.of hb, h2⟩
theorem MSet.lt {w : World} {b : Nat} {l : List ByteArray} (h : MSet w b l) : b < w.heap.size := by
 obtain ⟨P, h1, h2⟩ := h
 exact h1.lt
theorem MSet.look {w : World} {b : Nat} {l : List ByteArray} (h : MSet w b l) {s : ByteArray} (hs : s.size ≤ 9223372036854775807) :
   (Instr.lookup 77 (.map (some b)) (.string s) false).run Tryz.prog w = .ok (.bool (Lib.containsS l s)) w := by
 obtain ⟨P, h1, h2, h3, h4⟩ := h
 rw [blook1 h1 hs, h4]
 cases Lib.containsS l s <;> rfl
theorem MSet.made (w : World) : MSet (w.alloc (.map #[] 0)) w.heap.size [] :=
 ⟨[], own_tightB (P := []) (World.ownsMap_made w Tryz.prog 9 hB), RiseG.nil, Nat.le_refl _, fun s => by rw [show Lib.containsS [] s = false by rw [← Bool.not_eq_true, Lib.containsS_iff]; simp]; rfl⟩
theorem MSet.add {w : World} {b : Nat} {l : List ByteArray} (h : MSet w b l) (hl : l.length ≤ 1000000) {s : ByteArray} (hs : s.size ≤ 9223372036854775807) :
   ∃ w', (Instr.mapUpdate 77 (.map (some b)) (.string s) (.bool true)).run Tryz.prog w = .ok () w' ∧ MSet w' b (l ++ [s]) ∧ Kp w w' (fun k => k = b) ∧ w'.heap.size = w.heap.size := by
 obtain ⟨P, h1, h2, h3, h4⟩ := h
 obtain ⟨w', r1, r2, r3, r4⟩ := bstore h1 h2 (by omega) hs true
 refine ⟨w', r1, ⟨_, r2, RiseG.put _ h2, ?_, fun x => ?_⟩, r3, r4⟩
 · rw [putG_len _ h2, List.length_append, List.length_singleton]
   split <;> omega
 · rw [getG_put, h4]
   by_cases e : s = x
   · subst e
     rw [if_pos rfl, if_pos ((Lib.containsS_iff _ _).2 (by simp))]
   · rw [if_neg e]
     have : Lib.containsS (l ++ [s]) x = Lib.containsS l x := by
       rw [Bool.eq_iff_iff, Lib.containsS_iff, Lib.containsS_iff, List.mem_append, List.mem_singleton]
       constructor
       · rintro (h | h)
         · exact h
         · exact absurd h.symm e
       · exact .inl
     rw [this]
end
section
open Go.RowKit Go.Deep
abbrev Pr := ByteArray × ByteArray
def PR (w : World) (A : Option Addr) (P : List Pr) : Prop :=
 ∀ k x, P[k]? = some x → ∃ g o, A = some ⟨g, o, none⟩ ∧ g < w.heap.size ∧ w.cell? ⟨g, o + k * 2, none⟩ = some (.string x.1) ∧ w.cell? ⟨g, o + k * 2 + 1, none⟩ = some (.string x.2)
theorem PR.nil (w : World) (A : Option Addr) : PR w A [] := fun k s h => by simp at h
theorem PR.of {w w' : World} {A : Option Addr} {P : List Pr} (h : PR w A P) (hs : w.heap.size ≤ w'.heap.size) (hc : ∀ a, A = some a → a.block < w.heap.size → w'.heap[a.block]? = w.heap[a.block]?) : PR w' A P := fun k x hk => by
 obtain ⟨g, o, e, hg, h1, h2⟩ := h k x hk
 have hb := hc _ e hg
 exact ⟨g, o, e, by omega, (World.cell?_of_block (a := ⟨g, o + k * 2, none⟩) hb).trans h1, (World.cell?_of_block (a := ⟨g, o + k * 2 + 1, none⟩) hb).trans h2⟩
theorem PR.below {w w' : World} {A : Option Addr} {P : List Pr} (h : PR w A P) (hb : Below w.heap.size w w') : PR w' A P := h.of hb.size fun a _ hl => hb.block a.block hl
theorem PR.drew {w w' : World} {A : Option Addr} {P : List Pr} (h : PR w A P) (hd : Drew w w') : PR w' A P := by
 obtain ⟨n, rfl⟩ := hd
 exact h
def pairVals (P : List Pr) : List Value := P.flatMap fun x => [.string x.1, .string x.2]
theorem pairVals_len (P : List Pr) : (pairVals P).length = P.length * 2 := by
 induction P with
 | nil => rfl
 | cons x P ih =>
   rw [pairVals, List.flatMap_cons, List.length_append]
   have : (P.flatMap fun x => [Value.string x.1, Value.string x.2]).length = P.length * 2 := ih
   simp [this]
   omega
theorem pairVals_get : ∀ (P : List Pr) (k : Nat) (x : Pr), P[k]? = some x → (pairVals P)[k * 2]? = some (.string x.1) ∧ (pairVals P)[k * 2 + 1]? = some (.string x.2)
 | [], k, x, h => by simp at h
 | y :: P, 0, x, h => by
   simp at h
   subst h
   exact ⟨rfl, rfl⟩
 | y :: P, k + 1, x, h => by
   have ih := pairVals_get P k x (by simpa using h)
   rw [show pairVals (y :: P) = .string y.1 :: .string y.2 :: pairVals P from rfl, show (k + 1) * 2 = k * 2 + 1 + 1 from by omega]
   simpa using ih
theorem pairVals_app (P N : List Pr) : pairVals (P ++ N) = pairVals P ++ pairVals N := by simp [pairVals]
def OwnP (w : World) (base : Nat) (v : Value) (P : List Pr) : Prop := w.ownsRow base 42 2 v P.length (pairVals P)
theorem OwnP.slice {w : World} {base : Nat} {v : Value} {P : List Pr} (h : OwnP w base v P) : ∃ A c, v = .slice A P.length c ∧ P.length ≤ c ∧ PR w A P ∧ (∀ a, A = some a → v.ownBlock = some a.block) := by
 rcases h.2 with ⟨rfl, hn⟩ | ⟨g, cap, cur, rfl, _, hh, hc, _⟩
 · refine ⟨none, 0, by rw [hn], by omega, fun k s hk => ?_, fun a e => by cases e⟩
   have := (List.getElem?_eq_some_iff.1 hk).1
   omega
 · refine ⟨_, cap, rfl, hc, fun k x hk => ⟨g, 0, rfl, (h.lt g rfl).2, ?_, ?_⟩, fun a e => by injection e with e; subst e; rfl⟩
   · have hlt := (List.getElem?_eq_some_iff.1 hk).1
     rw [Nat.zero_add, World.ownsRow.cellAt h (k * 2) (by omega), (pairVals_get P k x hk).1]
   · have hlt := (List.getElem?_eq_some_iff.1 hk).1
     rw [Nat.zero_add, World.ownsRow.cellAt h (k * 2 + 1) (by omega), (pairVals_get P k x hk).2]
theorem infoP : (Tryz.prog.info? 42).map (fun i => (i.zero, i.size, i.bytes)) = some (some (.agg #[.string ⟨#[]⟩, .string ⟨#[]⟩]), 2, 32) := by kernel_rfl
theorem OwnP.nil (w : World) (base : Nat) : OwnP w base (.slice none 0 0) [] := World.ownsRow_nil _ _ _ _
theorem OwnP.kept {w w' : World} {base : Nat} {v : Value} {P : List Pr} {r : Option Nat} (h : OwnP w base v P) (hg : w.grownBy w' r) (hne : v.ownBlock = none ∨ v.ownBlock ≠ r) : OwnP w' base v P := World.ownsRow.kept h hg hne
theorem OwnP.alloc {w : World} {base : Nat} {v : Value} {P : List Pr} (h : OwnP w base v P) (o : Obj) : OwnP (w.alloc o) base v P := World.ownsRow.alloc h o
theorem run_appP {w : World} {base : Nat} {v : Value} {P N : List Pr} {A : Option Addr} {c : Nat} (h : OwnP w base v P) (hn : PR w A N) (hbase : base ≤ w.heap.size) (hl : P.length + N.length ≤ 1000000) :
   ∃ v' w', (Builtin.append_ #[25, 25] 25 #[v, .slice A N.length c]).run Tryz.prog w = .ok v' w' ∧ OwnP w' base v' (P ++ N) ∧ w.grownBy w' v.ownBlock ∧ (v'.ownBlock = v.ownBlock ∨ v'.ownBlock = some w.heap.size) := by
 obtain ⟨i0, hi, hz0, hz1, hz2⟩ := info_parts infoP
 rcases A with _ | ad
 · have hN : N = [] := by
     cases N with
     | nil => rfl
     | cons s N =>
       obtain ⟨g, o, e, _⟩ := hn 0 s rfl
       cases e
   subst hN
   refine ⟨v, w, ?_, by simpa using h, World.grownBy.refl w _, .inl rfl⟩
   rcases h.2 with ⟨rfl, _⟩ | ⟨g, cap, cur, rfl, _, _, hnc, _⟩
   · simp [Builtin.append_, run_underlying Tryz.underlying25, sizeOf, typeInfo, hi, Builtin.lenOf, Builtin.firstCells]
   · simp [Builtin.append_, run_underlying Tryz.underlying25, sizeOf, typeInfo, hi, Builtin.lenOf, Builtin.firstCells, hnc, storeCells]
 · have hcells : ∀ j u, (pairVals N)[j]? = some u → w.cell? (ad.add j) = some u := fun j u hu => by
     have hj := (List.getElem?_eq_some_iff.1 hu).1
     rw [pairVals_len] at hj
     have hj2 : j / 2 < N.length := by omega
     obtain ⟨g, o, e, _, h1, h2⟩ := hn (j / 2) N[j / 2] (List.getElem?_eq_getElem hj2)
     have hp := pairVals_get N (j / 2) N[j / 2] (List.getElem?_eq_getElem hj2)
     injection e with e
     subst e
     have e2 : (Addr.mk g o none).add j = ⟨g, o + j, none⟩ := by
       unfold Addr.add
       split
       · rename_i h0; subst h0; rfl
       · rfl
     rw [e2]
     rcases Nat.mod_two_eq_zero_or_one j with hm | hm
     · rw [show j / 2 * 2 = j from by omega] at h1 hp
       rw [h1, ← hp.1, hu]
     · rw [show o + j / 2 * 2 + 1 = o + j from by omega] at h2
       rw [show j / 2 * 2 + 1 = j from by omega] at hp
       rw [h2, ← hp.2, hu]
   obtain ⟨v', w', hrun, h2, h3, _, h5⟩ := run_append_own_at (P := Tryz.prog) w base 25 25 42 i0 _ 2 32 Tryz.underlying25 hi hz0 hz1 hz2 rfl (by omega) v P.length (pairVals P) h ad N.length c (pairVals N) (pairVals_len N) hcells
     (fun u hu => by simp only [pairVals, List.mem_flatMap] at hu; obtain ⟨s, _, hs⟩ := hu; simp at hs; rcases hs with rfl | rfl <;> rfl) (by simp only [maxLen]; omega) (by omega) hbase
   refine ⟨v', w', hrun, ?_, h3, h5⟩
   unfold OwnP
   rw [List.length_append, pairVals_app]
   exact h2
theorem pr_new (w : World) (a b : ByteArray) : PR (w.alloc (.cells #[.string a, .string b] 42)) (some ⟨w.heap.size, 0, none⟩) [(a, b)] := fun k x hk => by
 cases k with
 | zero =>
   simp at hk
   subst hk
   exact ⟨_, _, rfl, by simp, by rw [World.cell?_alloc_at _ _ _ _ rfl]; rfl, by rw [World.cell?_alloc_at _ _ _ _ rfl]; rfl⟩
 | succ k => simp at hk
end
section
open Go.RowKit Go.Deep Go.Maps
def fS (s : ByteArray) : DataW Value := .held (.string s)
def valS : Option ByteArray → Value
 | none => .string ⟨#[]⟩
 | some s => .string s
def MapS (w : World) (b : Nat) (P : KV ByteArray) : Prop := w.ownsMap Tryz.prog 9 hB b P.length (datG fS P)
theorem szeroS (w : World) : (zeroValue 9).run Tryz.prog w = .ok (.string ⟨#[]⟩) w := by kernel_rfl
theorem own_tightS {w : World} {b n : Nat} {P : KV ByteArray} (h : w.ownsMap Tryz.prog 9 hB b n (datG fS P)) : MapS w b P := by
 obtain ⟨es, clock, h1, h2, h3, h4⟩ := h
 refine ⟨es, clock, h1, h2, ?_, h4⟩
 have := congrArg Maps.size h4
 rw [datG_size] at this
 rw [this]
 simp [Maps.size, length_sorted]
theorem MapS.of {w w' : World} {b : Nat} {P : KV ByteArray} (h : MapS w b P) (hb : w'.heap[b]? = w.heap[b]?) : MapS w' b P := by
 obtain ⟨es, clock, h1, h2⟩ := h
 exact ⟨es, clock, hb.trans h1, h2⟩
theorem MapS.lt {w : World} {b : Nat} {P : KV ByteArray} (h : MapS w b P) : b < w.heap.size := by
 obtain ⟨es, clock, h1, h2⟩ := h
 exact (Array.getElem?_eq_some_iff.1 h1).1
theorem sat_val {P : KV ByteArray} {s : ByteArray} {v : Value} {ps : List MemPlace} (h : hB v = some ((datG fS P).atKey (kLit s) (.held (.string ⟨#[]⟩)), ps)) : v = valS (getG P s) := by
 unfold hB at h
 rw [datG_at] at h
 cases hg : getG P s with
 | none => rw [hg] at h; injection h with h; injection h with h1 h2; injection h1
 | some e => rw [hg] at h; injection h with h; injection h with h1 h2; unfold fS at h1; injection h1
theorem slook2 {w : World} {b : Nat} {P : KV ByteArray} (h : MapS w b P) {s : ByteArray} (hs : s.size ≤ 9223372036854775807) :
   (Instr.lookup 76 (.map (some b)) (.string s) true).run Tryz.prog w = .ok (.tuple #[valS (getG P s), .bool (getG P s).isSome]) w := by
 obtain ⟨v, ps, hrun, hv⟩ := h.look_ok bkeyed Tryz.underlying76 (szeroS w) (zd := .held (.string ⟨#[]⟩)) (zp := []) rfl (bkey hs)
 rw [hrun, sat_val hv, datG_has]
theorem slenS {w : World} {b : Nat} {P : KV ByteArray} (h : MapS w b P) (ty : TypeId) : (Builtin.len_ #[76] ty #[.map (some b)]).run Tryz.prog w = .ok (.int .i64 P.length) w := by
 rw [h.len Tryz.underlying76 ty, datG_size]
theorem sstoreS {w : World} {b : Nat} {P : KV ByteArray} (h : MapS w b P) (hr : RiseG P) (hl : P.length ≤ 1000000) {s : ByteArray} (hs : s.size ≤ 9223372036854775807) (e : ByteArray) :
   ∃ w', (Instr.mapUpdate 76 (.map (some b)) (.string s) (.string e)).run Tryz.prog w = .ok () w' ∧ MapS w' b (putG (s, e) P) ∧ Kp w w' (fun k => k = b) ∧ w'.heap.size = w.heap.size := by
 obtain ⟨w', h1, h2, h3⟩ := h.store bkeyed Tryz.underlying76 (by unfold maxLen; omega) (bkey hs) (val := .string e) (d := fS e) (ps := []) rfl
 rw [datG_put fS hr] at h2
 refine ⟨w', h1, own_tightS h2, turnedB h3, ?_⟩
 obtain ⟨es, clock, es', clock', hb, rfl⟩ := h3
 simp [ChangeMaps.setBlock]
theorem MapS.made (w : World) : MapS (w.alloc (.map #[] 0)) w.heap.size [] := own_tightS (P := []) (World.ownsMap_made w Tryz.prog 9 hB)
theorem keyS_in {P : KV ByteArray} {x : ByteArray} {kl : Lit} {y : DataW Value × List MemPlace} (hkey : keyOf Tryz.prog 9 (.string x) = some kl) (hat : ∀ zd, (datG fS P).atKey kl zd = y.1) : kl = kLit x ∧ ∃ v, getG P x = some v ∧ y.1 = fS v := by
 have hk : kl = kLit x := by
   obtain ⟨s, h1, h2, h3⟩ := Go.WideMaps.string_of_keyOf Tryz.underlying9 hkey
   injection h1 with h1
   rw [h1]
   exact h2
 refine ⟨hk, ?_⟩
 subst hk
 cases hg : getG P x with
 | none =>
   have h1 := hat (.held (.bool true))
   have h2 := hat (.held (.bool false))
   rw [datG_at, hg] at h1 h2
   rw [← h2] at h1
   injection h1 with h1
   injection h1 with h1
   cases h1
 | some v =>
   refine ⟨v, rfl, ?_⟩
   have h1 := hat (.held (.bool true))
   rw [datG_at, hg] at h1
   exact h1.symm
def goneS (left : Lit → Bool) (k : ByteArray) : Bool := !left (kLit k)
theorem goneS_step (left : Lit → Bool) (x k : ByteArray) : goneS (fun z => left z && !z.sameKey (kLit x)) k = (goneS left k || decide (k = x)) := by
 unfold goneS
 simp only [same_kLit]
 cases left (kLit k) <;> simp
def collS (P : KV ByteArray) (left : Lit → Bool) : List Pr := P.filter fun x => goneS left x.1
theorem collS_len (P : KV ByteArray) (left : Lit → Bool) : (collS P left).length ≤ P.length := List.length_filter_le _ _
theorem collS_start (P : KV ByteArray) : collS P (Maps.has (datG fS P)) = [] := by
 unfold collS
 rw [List.filter_eq_nil_iff]
 intro x hx
 have : (getG P x.1).isSome = true := by
   unfold getG
   rw [Option.isSome_map, List.find?_isSome]
   exact ⟨x, hx, by simp⟩
 unfold goneS
 rw [datG_has, this]
 simp
theorem collS_end (P : KV ByteArray) {left : Lit → Bool} (h : ∀ kl, left kl = false) : collS P left = P := by
 unfold collS goneS
 rw [List.filter_eq_self]
 intro x hx
 rw [h]
 rfl
theorem collS_step : ∀ {P : KV ByteArray}, RiseG P → ∀ {x v : ByteArray}, (x, v) ∈ P → ∀ {q q' : ByteArray → Bool}, (∀ k, q' k = (q k || decide (k = x))) → q x = false → (P.filter fun y => q' y.1).Perm ((P.filter fun y => q y.1) ++ [(x, v)])
 | [], _, x, v, h, _, _, _, _ => by cases h
 | y :: P, hr, x, v, h, q, q', hq, hx => by
   have hne := hr.ne
   have hr' : RiseG P := (List.pairwise_cons.1 hr).2
   by_cases e : y.1 = x
   · have hy : y = (x, v) := by
       rcases List.mem_cons.1 h with h | h
       · exact h.symm
       · exact absurd e.symm (hne _ h)
     subst hy
     have hsame : (P.filter fun y => q' y.1) = P.filter fun y => q y.1 := by
       apply List.filter_congr
       intro z hz
       rw [hq, decide_eq_false (hne z hz), Bool.or_false]
     have h1 : q' x = true := by rw [hq]; simp
     rw [List.filter_cons, List.filter_cons]
     simp only [h1, hx, if_true, hsame]
     exact List.perm_append_comm (l₁ := [(x, v)])
   · have h' : (x, v) ∈ P := by
       rcases List.mem_cons.1 h with h | h
       · exact absurd (by rw [← h]) e
       · exact h
     have ih := collS_step hr' h' hq hx
     have h1 : q' y.1 = q y.1 := by rw [hq, decide_eq_false e, Bool.or_false]
     rw [List.filter_cons, List.filter_cons, h1]
     split
     · exact ih.cons y
     · exact ih
end
end Go.Proofs.YtpheeheikigenaaGreatDoor
namespace Go.Proofs
open Go.Shelf
def Tryz.sort91_ren : Go.Shelf.Ren := ⟨fun | 6 => 91 | 15 => 150 | 14 => 149 | 28 => 210 | 29 => 211 | 20 => 202 | 21 => 203 | 22 => 204 | 23 => 205 | 24 => 206 | 25 => 207 | 26 => 208 | 27 => 209 | 46 => 248 | 47 => 249 | 48 => 250 | 49 => 251 | 50 => 252 | 57 => 276 | n => n, fun | 22 => 25 | 24 => 42 | 25 => 151 | 3 => 3 | 39 => 201 | 0 => 0 | 53 => 243 | 55 => 158 | 4 => 4 | 46 => 236 | 45 => 235 | 50 => 240 | 5 => 5 | 9 => 9 | 66 => 276 | 70 => 280 | 76 => 293 | 77 => 294 | n => n, fun | n => n⟩
theorem Tryz.sort91 : Go.Proofs.SlLaysF0.n6 Tryz.prog Tryz.sort91_ren := {
 mixed := by kernel_rfl
 f6 := ⟨Tryz.f91.name, by decide, Tryz.func91.trans (congrArg some (by kernel_rfl))⟩
 f14 := ⟨Tryz.f149.name, by decide, Tryz.func149.trans (congrArg some (by kernel_rfl))⟩
 f15 := Tryz.func150.trans (congrArg some (by kernel_rfl))
 f20 := ⟨Tryz.f202.name, by decide, Tryz.func202.trans (congrArg some (by kernel_rfl))⟩
 f21 := ⟨Tryz.f203.name, by decide, Tryz.func203.trans (congrArg some (by kernel_rfl))⟩
 f22 := ⟨Tryz.f204.name, by decide, Tryz.func204.trans (congrArg some (by kernel_rfl))⟩
 f23 := ⟨Tryz.f205.name, by decide, Tryz.func205.trans (congrArg some (by kernel_rfl))⟩
 f24 := ⟨Tryz.f206.name, by decide, Tryz.func206.trans (congrArg some (by kernel_rfl))⟩
 f25 := ⟨Tryz.f207.name, by decide, Tryz.func207.trans (congrArg some (by kernel_rfl))⟩
 f26 := ⟨Tryz.f208.name, by decide, Tryz.func208.trans (congrArg some (by kernel_rfl))⟩
 f27 := ⟨Tryz.f209.name, by decide, Tryz.func209.trans (congrArg some (by kernel_rfl))⟩
 f28 := Tryz.func210.trans (congrArg some (by kernel_rfl))
 f29 := Tryz.func211.trans (congrArg some (by kernel_rfl))
 f46 := ⟨Tryz.f248.name, by decide, Tryz.func248.trans (congrArg some (by kernel_rfl))⟩
 f47 := Tryz.func249.trans (congrArg some (by kernel_rfl))
 f48 := Tryz.func250.trans (congrArg some (by kernel_rfl))
 f49 := ⟨Tryz.f251.name, by decide, Tryz.func251.trans (congrArg some (by kernel_rfl))⟩
 f50 := ⟨Tryz.f252.name, by decide, Tryz.func252.trans (congrArg some (by kernel_rfl))⟩
 f57 := ⟨Tryz.f276.name, by decide, Tryz.func276.trans (congrArg some (by kernel_rfl))⟩
 t0 := Tryz.underlying0
 a0 := Tryz.isAgg0
 z0 := Tryz.sizeOf0
 v0 := Tryz.zeroValue0
 t3 := Tryz.underlying3
 a3 := Tryz.isAgg3
 z3 := Tryz.sizeOf3
 v3 := Tryz.zeroValue3
 t4 := Tryz.underlying4
 a4 := Tryz.isAgg4
 z4 := Tryz.sizeOf4
 v4 := Tryz.zeroValue4
 t5 := Tryz.underlying5
 a5 := Tryz.isAgg5
 z5 := Tryz.sizeOf5
 v5 := Tryz.zeroValue5
 t9 := Tryz.underlying9
 a9 := Tryz.isAgg9
 z9 := Tryz.sizeOf9
 v9 := Tryz.zeroValue9
 t22 := Tryz.underlying25
 a22 := Tryz.isAgg25
 z22 := Tryz.sizeOf25
 v22 := Tryz.zeroValue25
 t25 := Tryz.underlying151
 a25 := Tryz.isAgg151
 z25 := Tryz.sizeOf151
 v25 := Tryz.zeroValue151
 t39 := Tryz.underlying201
 a39 := Tryz.isAgg201
 z39 := Tryz.sizeOf201
 v39 := Tryz.zeroValue201
 t45 := Tryz.underlying235
 a45 := Tryz.isAgg235
 z45 := Tryz.sizeOf235
 v45 := Tryz.zeroValue235
 t46 := Tryz.underlying236
 a46 := Tryz.isAgg236
 z46 := Tryz.sizeOf236
 v46 := Tryz.zeroValue236
 t50 := Tryz.underlying240
 a50 := Tryz.isAgg240
 z50 := Tryz.sizeOf240
 v50 := Tryz.zeroValue240
 t53 := Tryz.underlying243
 a53 := Tryz.isAgg243
 z53 := Tryz.sizeOf243
 v53 := Tryz.zeroValue243
 t55 := Tryz.underlying158
 a55 := Tryz.isAgg158
 z55 := Tryz.sizeOf158
 v55 := Tryz.zeroValue158
 t66 := Tryz.underlying276
 a66 := Tryz.isAgg276
 z66 := Tryz.sizeOf276
 v66 := Tryz.zeroValue276
 t70 := Tryz.underlying280
 a70 := Tryz.isAgg280
 z70 := Tryz.sizeOf280
 v70 := Tryz.zeroValue280
 t76 := Tryz.underlying293
 a76 := Tryz.isAgg293
 z76 := Tryz.sizeOf293
 v76 := Tryz.zeroValue293
 t77 := Tryz.underlying294
 a77 := Tryz.isAgg294
 z77 := Tryz.sizeOf294
 v77 := Tryz.zeroValue294 }
end Go.Proofs

namespace Go.Proofs.YtpheeheikigenaaGreatDoor
section
open Go.RowKit Go.Deep Go.Sort Go.Shelf
def encPr (x : Pr) : List Value := [.string x.1, .string x.2]
def cmpS (x y : ByteArray) : Int := if sLt x y then -1 else if sLt y x then 1 else 0
theorem isNaN_any (x : ByteArray) (w : World) : Calls Tryz.prog 151 #[.string x] w fun e w' => e = .returned (.bool false) ∧ w = w' := by
 go_enter Tryz.func151, Tryz.ntmps151
 go_wp2
 go_ret
 exact ⟨by simp, rfl⟩
theorem compare_any (x y : ByteArray) (w : World) : Calls Tryz.prog 93 #[.string x, .string y] w fun e w' => e = .returned (.int .i64 (cmpS x y)) ∧ w = w' := by
 have HN := hide (fun s W => isNaN_any s W)
 cases h1 : sLt x y with
 | true =>
   have q1 : Op.bytesLess x.toList y.toList = true := h1
   have HR := hide (show cmpS x y = -1 by unfold cmpS; rw [h1]; rfl)
   clear h1
   go_enter Tryz.func93, Tryz.ntmps93
   go_wp2_with fail
   refine (HN.out _ _).mono ?_
   rintro e w' ⟨rfl, rfl⟩
   go_wp2_with fail
   refine (HN.out _ _).mono ?_
   rintro e w' ⟨rfl, rfl⟩
   go_wp2
   go_ret
   rw [HR.out]
   exact ⟨rfl, rfl⟩
 | false =>
   have q1 : Op.bytesLess x.toList y.toList = false := h1
   cases h2 : sLt y x with
   | true =>
     have q2 : Op.bytesLess y.toList x.toList = true := h2
     have HR := hide (show cmpS x y = 1 by unfold cmpS; rw [h1, h2]; rfl)
     have q3 : (x.toList == y.toList) = false := by
       rw [← Bool.not_eq_true, beq_iff_eq]
       intro e
       rw [e] at q1
       rw [← e] at q2
       rw [e] at q2
       rw [q1] at q2
       cases q2
     clear h1 h2
     go_enter Tryz.func93, Tryz.ntmps93
     go_wp2_with fail
     refine (HN.out _ _).mono ?_
     rintro e w' ⟨rfl, rfl⟩
     go_wp2_with fail
     refine (HN.out _ _).mono ?_
     rintro e w' ⟨rfl, rfl⟩
     go_wp2
     go_ret
     rw [HR.out]
     exact ⟨rfl, rfl⟩
   | false =>
     have HR := hide (show cmpS x y = 0 by unfold cmpS; rw [h1, h2]; rfl)
     have hxy : x = y := by
       rcases sLt_tot _ _ h1 with e | e
       · exact e
       · rw [h2] at e; cases e
     subst hxy
     clear h1 h2
     go_enter Tryz.func93, Tryz.ntmps93
     go_wp2_with fail
     refine (HN.out _ _).mono ?_
     rintro e w' ⟨rfl, rfl⟩
     go_wp2_with fail
     refine (HN.out _ _).mono ?_
     rintro e w' ⟨rfl, rfl⟩
     go_wp2
     go_ret
     rw [HR.out]
     exact ⟨rfl, rfl⟩
theorem pairs1_any (x y : Pr) (W : World) : Calls Tryz.prog 92 #[.agg #[.string x.1, .string x.2], .agg #[.string y.1, .string y.2]] W fun e w' => e = .returned (.int .i64 (cmpS x.1 y.1)) ∧ ∃ q os', w' = grow (W.drewN q) os' := by
 have HC := hide (fun W' => compare_any x.1 y.1 W')
 obtain ⟨r, hr⟩ : ∃ r, cmpS x.1 y.1 = r := ⟨_, rfl⟩
 rw [hr] at HC ⊢
 clear hr
 go_enter Tryz.func92, Tryz.ntmps92
 go_wp2_with fail
 refine (HC.out _).mono ?_
 rintro e w' ⟨rfl, rfl⟩
 go_wp2
 go_ret
 exact ⟨rfl, 0, _, by rw [alloc_eq_grow, alloc_eq_grow, grow_grow]; rfl⟩
theorem lt_cmpS (x y : Pr) : ltOf (fun x y : Pr => cmpS x.1 y.1) x y = sLt x.1 y.1 := by
 unfold ltOf cmpS
 cases h1 : sLt x.1 y.1 with
 | true => simp [h1]
 | false => cases h2 : sLt y.1 x.1 <;> simp [h1, h2]
theorem swo_cmpS : SWO (ltOf fun x y : Pr => cmpS x.1 y.1) where
 irrefl x := by rw [lt_cmpS]; exact sLt_irr _
 trans x y z h1 h2 := by rw [lt_cmpS] at *; exact sLt_trans _ _ _ h1 h2
 ntrans x y z h1 h2 := by
   rw [lt_cmpS] at *
   rw [← Bool.not_eq_true]
   intro h3
   rcases sLt_tot _ _ h1 with e | h4
   · rw [e] at h3; rw [h2] at h3; cases h3
   · have := sLt_trans _ _ _ h4 h3
     rw [h2] at this; cases this
theorem flat_list (L : List Pr) : (flatK encPr 2 L.toArray).toList = pairVals L := by
 apply List.ext_getElem?
 intro t
 by_cases ht : t < L.length * 2
 · have hk : t / 2 < L.length := by omega
   have h1 : (flatK encPr 2 L.toArray).toList[t]? = some ((flatK encPr 2 L.toArray)[t]!) := by
     rw [Array.getElem?_toList, Array.getElem?_eq_getElem (by simpa using ht)]
     congr 1
     exact (getElem!_pos _ t (by simpa using ht)).symm
   rw [h1, get_flatK _ _ _ _ (by simpa using ht)]
   have h2 : L.toArray[t / 2]! = L[t / 2] := by
     rw [getElem!_pos _ _ (by simpa using hk)]
     simp
   rw [h2]
   have h3 := pairVals_get L (t / 2) L[t / 2] (List.getElem?_eq_getElem hk)
   rcases Nat.mod_two_eq_zero_or_one t with hm | hm
   · have e : t = t / 2 * 2 := by omega
     rw [hm]
     conv => rhs; rw [e, h3.1]
     rfl
   · have e : t = t / 2 * 2 + 1 := by omega
     rw [hm]
     conv => rhs; rw [e, h3.2]
     rfl
 · rw [List.getElem?_eq_none (by rw [Array.length_toList, size_flatK]; simpa using ht), List.getElem?_eq_none (by rw [pairVals_len]; omega)]
theorem putI_heap {w : World} {g n : Nat} {os : Array Obj} {cur : Array Value} {e : TypeId} {fr : Nat × Nat} (d : Array Value) (hb : w.heap[g]? = some (.cells cur e fr)) : (grow (putRow id (Sort.ahead w n) g 0 d) os).heap[g]? = some (.cells (putCells id 0 d cur) e fr) := by
 have hg : g < w.heap.size := (Array.getElem?_eq_some_iff.1 hb).1
 rw [heap_grow_old _ _ (by simpa using hg)]
 simp [putRow, mapBlock, Sort.ahead, Array.getElem?_modify, hb, onCells]
theorem putI_grown {w : World} {g n : Nat} {os : Array Obj} (d : Array Value) : w.grownBy (grow (putRow id (Sort.ahead w n) g 0 d) os) (some g) := by
 refine ⟨rfl, rfl, rfl, by simp, fun k hk hne => ?_⟩
 rw [heap_grow_old _ _ (by simpa using hk)]
 have : g ≠ k := fun e => hne (by rw [e])
 simp [putRow, mapBlock, Sort.ahead, Array.getElem?_modify, this]
theorem putI_take (cur : Array Value) (ts : List Value) (h : ts.length ≤ cur.size) : (putCells id 0 ts.toArray cur).toList.take ts.length = ts := by
 apply List.ext_getElem?
 intro j
 by_cases hj : j < ts.length
 · rw [List.getElem?_take_of_lt hj, Array.getElem?_toList]
   simp [putCells, hj, show j < cur.size by omega]
 · rw [List.getElem?_take_eq_none (by omega), List.getElem?_eq_none (by omega)]
theorem rise_unique {P Q : KV ByteArray} (hP : RiseG P) (hQ : RiseG Q) (h : P.Perm Q) : P = Q := by
 refine hP.ext hQ fun n => ?_
 cases h1 : getG P n with
 | some v => exact (mem_getG hQ (h.mem_iff.1 (getG_mem h1))).symm
 | none =>
   cases h2 : getG Q n with
   | none => rfl
   | some v =>
     have := mem_getG hP (h.mem_iff.2 (getG_mem h2))
     rw [h1] at this; cases this
theorem sorted_rise {P : KV ByteArray} (hP : RiseG P) {d : Array Pr} (hp : d.toList.Perm P) (hs : SortedIn (ltOf fun x y : Pr => cmpS x.1 y.1) 0 d.size d) : d.toList = P := by
 refine rise_unique ?_ hP hp
 have hnd : (d.toList.map Prod.fst).Nodup := by
   refine (hp.map Prod.fst).nodup_iff.2 ?_
   rw [List.nodup_iff_pairwise_ne, List.pairwise_map]
   exact hP.imp fun {a b} h e => by rw [e, sLt_irr] at h; cases h
 unfold RiseG
 rw [List.pairwise_iff_getElem]
 intro i j hi hj hij
 have hi' : i < d.size := by simpa using hi
 have hj' : j < d.size := by simpa using hj
 have h1 := hs i j (Nat.zero_le _) hij hj'
 rw [lt_cmpS, getElem!_pos d i hi', getElem!_pos d j hj'] at h1
 rcases sLt_tot _ _ h1 with e | h
 · exfalso
   rw [List.nodup_iff_pairwise_ne, List.pairwise_map, List.pairwise_iff_getElem] at hnd
   exact hnd i j hi hj hij (by simpa using e.symm)
 · simpa using h
theorem sortPairs_any {w : World} {base : Nat} {v : Value} {P0 : List Pr} {P : KV ByteArray} (h : OwnP w base v P0) (hp : P0.Perm P) (hr : RiseG P) (hl : P0.length ≤ 1000000) :
   Calls Tryz.prog 91 #[v, .func (.func 92) #[] #[]] w fun e w' => e = .returned (.tuple #[]) ∧ OwnP w' base v P ∧ w.grownBy w' v.ownBlock := by
 have eg : ∀ args w, (callFunc 92 args).run Tryz.prog w = .ok (.enter 92 args) w := enters_of Tryz.func92 (by kernel_rfl) rfl
 have hpl := hp.length_eq
 rcases h.2 with ⟨rfl, hn⟩ | ⟨g, cap, cur, rfl, hbg, hh, hc, hm, hs, ht⟩
 · have hF : P0 = [] := List.eq_nil_of_length_eq_zero hn
   subst hF
   have hP : P = [] := List.eq_nil_of_length_eq_zero (by rw [← hpl]; rfl)
   subst hP
   exact (AnyF.slices_SortFunc_none Tryz.sort91 none 0 _ w).mono fun e w' ⟨h1, h2⟩ => ⟨h1, by rw [h2]; exact OwnP.nil w base, by rw [h2]; exact World.grownBy.refl _ _⟩
 · have hlt : g < w.heap.size := (Array.getElem?_eq_some_iff.1 hh).1
   have hH : HoldsK encPr 2 w g 0 P0.toArray := by
     intro j hj
     have hj2 : j < P0.length * 2 := by simpa using hj
     refine ⟨?_, by simp [World.frozen?, hh]⟩
     have h1 : (cur.toList.take (P0.length * 2))[j]? = (pairVals P0)[j]? := by rw [ht]
     rw [List.getElem?_take_of_lt hj2] at h1
     have h2 : (flatK encPr 2 P0.toArray).toList[j]? = (pairVals P0)[j]? := by rw [flat_list]
     have h3 : (flatK encPr 2 P0.toArray)[j]? = some ((flatK encPr 2 P0.toArray)[j]!) := by
       rw [Array.getElem?_eq_getElem (by simpa using hj)]
       congr 1
       exact (getElem!_pos _ j (by simpa using hj)).symm
     rw [Array.getElem?_toList, h3] at h2
     simp only [World.cell?, hh, Nat.zero_add]
     simp only [Option.isSome_none, Bool.false_eq_true, if_false]
     rw [← Array.getElem?_toList, h1, ← h2]
     rfl
   have hcon := AnyQ.slices_SortFunc Tryz.sort91 2 Tryz.isAgg42 Tryz.sizeOf42 encPr (fun _ => rfl) (fun x v hv => by simp [encPr] at hv; rcases hv with rfl | rfl <;> rfl) (fun x y : Pr => cmpS x.1 y.1) swo_cmpS 92 #[] g 0 cap P0.toArray w eg (fun _ _ _ _ x y => pairs1_any x y _) hH hlt (by simp; omega)
   change Calls Tryz.prog 91 #[.slice (some ⟨g, 0, none⟩) P0.length cap, .func (.func 92) #[] #[]] w _ at hcon
   refine hcon.mono ?_
   rintro e w' ⟨rfl, d', n, os, hpm, hst, rfl⟩
   have hsz : d'.size = P0.length := by simpa using hpm.1
   have hpm2 : d'.toList.Perm P := by
     have := hpm.2.2
     rw [show (P0.toArray).size = P0.length by simp] at this
     have e1 : (d'.extract 0 P0.length).toList = d'.toList := by rw [← hsz]; simp
     rw [e1] at this
     refine this.trans ?_
     simpa using hp
   have hst2 : SortedIn (ltOf fun x y : Pr => cmpS x.1 y.1) 0 d'.size d' := by rw [hsz]; simpa using hst
   have hdl := sorted_rise hr hpm2 hst2
   obtain rfl : d' = P.toArray := by rw [← hdl]
   refine ⟨rfl, ?_, putI_grown _⟩
   have hfl : (flatK encPr 2 P.toArray) = (pairVals P).toArray := by
     apply Array.ext'
     rw [flat_list]
   unfold sortWorldK putRowK
   rw [hfl]
   refine ⟨pairVals_len P, .inr ⟨g, cap, _, by rw [hpl], hbg, putI_heap _ hh, by rw [← hpl]; exact hc, hm, by simp [putCells, hs], ?_⟩⟩
   rw [← pairVals_len P]
   exact putI_take cur (pairVals P) (by rw [pairVals_len, hs, ← hpl]; exact Nat.mul_le_mul_right 2 hc)
end
section
open Go.RowKit
theorem ownsRow_put {w : World} {base : Nat} {e : TypeId} {n g len cap : Nat} {vals : List Value} (h : w.ownsRow base e n (.slice (some ⟨g, 0, none⟩) len cap) len vals) {i : Nat} (hi : i < len * n) (u : Value) :
   (∃ v, w.cell? ⟨g, i, none⟩ = some v) ∧ w.frozen? ⟨g, i, none⟩ = false ∧ (w.setCell ⟨g, i, none⟩ u).ownsRow base e n (.slice (some ⟨g, 0, none⟩) len cap) len (vals.set i u) := by
 obtain ⟨h1, h2⟩ := h
 rcases h2 with ⟨h2, _⟩ | ⟨g', cap', cur, e1, hb, hh, hc, hm, hs, ht⟩
 · cases h2
 injection e1 with e1 e2 e3
 injection e1 with e1
 injection e1 with e1
 subst e1 e3
 have hcur : i < cur.size := by
   rw [hs]
   exact Nat.lt_of_lt_of_le hi (Nat.mul_le_mul_right n hc)
 refine ⟨⟨cur[i], by simp [World.cell?, hh, hcur]⟩, by simp [World.frozen?, hh], by rw [List.length_set]; exact h1, .inr ⟨g, cap, cur.setIfInBounds i u, rfl, hb, ?_, hc, hm, by simpa using hs, ?_⟩⟩
 · simp [World.setCell, Array.getElem?_modify, hh]
 · rw [Array.toList_setIfInBounds, List.take_set, ht]
theorem OwnS.at {w : World} {base : Nat} {A : Option Addr} {n c : Nat} {L : List ByteArray} (h : OwnS w base (.slice A n c) L) {k : Nat} {x : ByteArray} (hx : L[k]? = some x) : n = L.length ∧ ∃ g, A = some ⟨g, 0, none⟩ ∧ w.cell? ⟨g, k, none⟩ = some (.string x) ∧ base ≤ g ∧ g < w.heap.size := by
 have hk := (List.getElem?_eq_some_iff.1 hx).1
 have h0 := h
 obtain ⟨A', c', e, _, hs, _⟩ := h.slice
 injection e with e1 e2 e3
 rcases h.2 with ⟨_, hn⟩ | ⟨g, cap, cur, e, _⟩
 · omega
 · injection e with e1' e2' e3'
   subst e1'
   obtain ⟨g', o, e4, hg, hc⟩ := (e1 ▸ hs : SR w (some ⟨g, 0, none⟩) L) k x hx
   injection e4 with e4
   injection e4 with e5 e6
   subst e5 e6
   rw [Nat.zero_add] at hc
   exact ⟨e2, g, rfl, hc, (h0.lt g rfl).1, hg⟩
theorem OwnS.setAt {w : World} {base : Nat} {g n c : Nat} {L : List ByteArray} (h : OwnS w base (.slice (some ⟨g, 0, none⟩) n c) L) {k : Nat} (hn : n = L.length) (hk : k < n) (x : ByteArray) :
   w.frozen? ⟨g, k, none⟩ = false ∧ OwnS (w.setCell ⟨g, k, none⟩ (.string x)) base (.slice (some ⟨g, 0, none⟩) n c) (L.set k x) := by
 subst hn
 have h1 := ownsRow_put h (i := k) (by omega) (.string x)
 refine ⟨h1.2.1, ?_⟩
 unfold OwnS
 rw [List.length_set]
 have e : strVals (L.set k x) = (strVals L).set k (.string x) := by unfold strVals; rw [List.map_set]
 rw [e]
 exact h1.2.2
theorem upd_set {α : Type} (f : α → α) {L : List α} {k : Nat} {x : α} (h : L[k]? = some x) : ((L.take k).map f ++ L.drop k).set k (f x) = (L.take (k + 1)).map f ++ L.drop (k + 1) := by
 have hk := (List.getElem?_eq_some_iff.1 h).1
 have hd : L.drop k = x :: L.drop (k + 1) := by
   rw [List.drop_eq_getElem_cons hk]
   rw [List.getElem?_eq_getElem hk] at h
   injection h with h
   rw [h]
 rw [hd, List.take_add_one, h, List.set_append, if_neg (by simp; omega)]
 rw [List.length_map, List.length_take, Nat.min_eq_left (by omega), Nat.sub_self]
 simp
theorem upd_same {α : Type} (f : α → α) {L : List α} {k : Nat} {x : α} (h : L[k]? = some x) (hf : f x = x) : (L.take k).map f ++ L.drop k = (L.take (k + 1)).map f ++ L.drop (k + 1) := by
 have hk := (List.getElem?_eq_some_iff.1 h).1
 have hd : L.drop k = x :: L.drop (k + 1) := by
   rw [List.drop_eq_getElem_cons hk]
   rw [List.getElem?_eq_getElem hk] at h
   injection h with h
   rw [h]
 rw [hd, List.take_add_one, h]
 simp [hf]
theorem upd_at {α : Type} (f : α → α) {L : List α} {k : Nat} {x : α} (h : L[k]? = some x) : ((L.take k).map f ++ L.drop k)[k]? = some x := by
 have hk := (List.getElem?_eq_some_iff.1 h).1
 rw [List.getElem?_append_right (by rw [List.length_map, List.length_take]; omega), List.length_map, List.length_take, Nat.min_eq_left (by omega), Nat.sub_self, List.getElem?_drop]
 simpa using h
end
end Go.Proofs.YtpheeheikigenaaGreatDoor
