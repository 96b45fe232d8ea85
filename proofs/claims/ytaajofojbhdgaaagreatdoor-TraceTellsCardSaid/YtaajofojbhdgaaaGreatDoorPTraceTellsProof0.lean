/- Texts of mine, joined (QBase, MapG, StrsWalk, OpenRows, RowG, RulesRep, PairsWalk, OpenMk, ContFunc, Sep, Bs, Shelf, FindWalkA, BigMk, LinesMath, PathMath): walks and plain facts that the claim uses, each as its own comment says. -/
import Derived.Test.YtaajofojbhdgaaaGreatDoorProg
import Derived.WalkKit
import Derived.WalkSpells
import Derived.WalkLawsBesides
import Derived.Handy
import Derived.BigQuiet
import Derived.Deep.QuietTactic
import Derived.Deep.OwnRows
import Derived.StillTailTactics
import Derived.Lib.Hide
import Derived.Deep.Light
import Derived.Deep.DeepCutAuto
import Derived.Deep.CutRange
import Derived.Deep.LoopGhost
import Derived.Deep.DeepFit
import Derived.Maps.AppendAt
import Derived.Deep.AppendLies
import Derived.ShutString
import Derived.Maps.Views
import Derived.Sort.Walk0
import Derived.StringKeys
import Derived.Sort.KeysCollected
import Derived.Deep.SlicePairs
import Derived.OpenShut
import Derived.ProofKit
import Derived.SliceStrings
import Derived.Lib.SlicesS
import Derived.SizedLaws
import Derived.Below
import Derived.Lib.Strings
import Derived.Lib.Bytealg
import Derived.Shelf.Strings.SlTrimAscii
import Derived.Shelf.Strings.Builder1
import Derived.Shelf.Strings.Builder2
import Derived.Shelf.Strings.OnBuilder
import Derived.Shelf.Strings.Trim
import Derived.Shelf.Small.Utf8
import Derived.Shelf.Small.Bits
import Derived.Shelf.Small.Strs
import Derived.Shelf.Small.Wraps
import Derived.Shelf.Strings.BuilderF
import Derived.Shelf.Strings.BuilderK
import Derived.Shelf.Strings.Builder2Cap
import Derived.Shelf.Strconv.Itoa0
import Derived.Shelf.Strings.Search1
import Derived.Shelf.Strings.Search2
import Derived.Shelf.Strings.Search3
import Derived.Shelf.Strings.Cut
import Derived.Shelf.Strings.Count
import Derived.Shelf.LaysM
import Derived.Shelf.Strings.Shaped
import Derived.Shelf.Sort.Plain
import Derived.Shelf.Strings.Prefix
import Derived.Shelf.Strings.Split
import Derived.Shelf.Strings.SplitShaped
import Derived.Shelf.Strings.Runes
import Derived.Shelf.Strings.AsciiSet
import Derived.Shelf.Unicode.DecodeSlow
import Derived.Shelf.Strings.BuilderCap
import Derived.Shelf.Slices.Turned
import Derived.Shelf.Slices.Equal
import Derived.Ground.Names2Prog
import Derived.Shelf.Slices.ReverseS
import Derived.Shelf.Slices.Clone
import Derived.Shelf.Slices.Cells
import Derived.Shelf.Slices.In.SortNone
import Derived.Shelf.Slices.Empties2
import Derived.Ground.SlgfProg
import Derived.Shelf.SlicesE.IndexFunc
import Derived.Lib.SplitLaws
/- Small words and facts for walks: a text's byte by its index, rows and blocks, hiding. More words for walks: an append of one new element that tells which block it wrote; slices of bytes of the call's own. -/
namespace Go.Proofs.YtaajofojbhdgaaaGreatDoor
open Go.RowKit Go.Deep
/-- byte i of a text, 0 behind its end -/
def bt (s : ByteArray) (i : Nat) : Nat := (s.data.getD i 0).toNat
theorem bt_eq (s : ByteArray) (i : Nat) (h : i < s.size) : (s[i]'h).toNat = bt s i := by
  simp only [bt, Array.getD_eq_getD_getElem?]
  have h2 : i < s.data.size := h
  rw [Array.getElem?_eq_getElem h2]
  rfl
theorem hide {p : Prop} (h : p) : Hid p := h
theorem below_drewN {B : Nat} {a w : World} (h : Below B a w) (n : Nat) : Below B a (w.drewN n) := ⟨h.os, h.tape, h.output, h.size, h.block⟩
theorem gb_setCell {a w : World} {g : Nat} (h : a.grownBy w (some g)) (i : Nat) (u : Value) : a.grownBy (w.setCell ⟨g, i, none⟩ u) (some g) :=
  ⟨h.os, h.tape, h.output, by simpa [World.setCell] using h.size, fun k hk hne => (Below.heap_setCell w _ u k (by rintro rfl; exact hne rfl)).trans (h.block k hk hne)⟩
theorem below_up {B : Nat} {a b c : World} (h : Below B a b) (k : Below b.heap.size b c) (hB : B ≤ b.heap.size) : Below B a c := h.trans (k.mono hB)
end Go.Proofs.YtaajofojbhdgaaaGreatDoor
namespace Go.Proofs.YtaajofojbhdgaaaGreatDoor
open Go.RowKit Go.Deep
def nbytes (l : List Nat) : List Value := l.map fun n => .int .u8 (n : Nat)
/-- a slice of bytes of the call's own -/
def OwnB (w : World) (base : Nat) (v : Value) (l : List Nat) : Prop := w.ownsRow base 5 1 v l.length (nbytes l)
end Go.Proofs.YtaajofojbhdgaaaGreatDoor
/- Maps from texts as rising lists: what the datum of such a map is behind a look-up, a store, a delete. No program in sight. -/
namespace Go.Proofs.YtaajofojbhdgaaaGreatDoor
open Go.RowKit Go.Maps

def kLit (s : ByteArray) : Lit := .string s.data.toList
theorem kLit_inj {a b : ByteArray} (h : kLit a = kLit b) : a = b := by
  injection h with h
  exact ByteArray.ext (Array.ext' h)
/-- one text is ahead of another -/
def sLt (a b : ByteArray) : Bool := Op.bytesLess a.toList b.toList
theorem before_lt : ∀ a b : List UInt8, bytesBefore a b = decide (a < b)
  | [], [] => by simp [bytesBefore]
  | [], _ :: _ => by simp [bytesBefore]
  | _ :: _, [] => by simp [bytesBefore]
  | a :: r, b :: s => by
    rw [bytesBefore, before_lt r s, Bool.eq_iff_iff]
    simp only [Bool.or_eq_true, Bool.and_eq_true, decide_eq_true_eq, beq_iff_eq, List.cons_lt_cons_iff]
theorem sLt_iff (a b : ByteArray) : sLt a b = true ↔ a.data.toList < b.data.toList := by
  rw [sLt, bytesLess_eq, ByteArray.toList_eq, ByteArray.toList_eq, decide_eq_true_iff]
theorem before_sLt (a b : ByteArray) : (kLit a).before (kLit b) = sLt a b := by
  show bytesBefore a.data.toList b.data.toList = _
  rw [before_lt, Bool.eq_iff_iff, sLt_iff, decide_eq_true_iff]
theorem sLt_irr (a : ByteArray) : sLt a a = false := by
  rw [← Bool.not_eq_true, sLt_iff]; exact List.lt_irrefl _
theorem sLt_trans (a b c : ByteArray) (h : sLt a b = true) (k : sLt b c = true) : sLt a c = true :=
  (sLt_iff a c).2 (List.lt_trans ((sLt_iff a b).1 h) ((sLt_iff b c).1 k))
theorem sLt_tot (a b : ByteArray) (h : sLt a b = false) : a = b ∨ sLt b a = true := by
  rw [← Bool.not_eq_true, sLt_iff] at h
  by_cases k : sLt b a = true
  · exact .inr k
  · rw [sLt_iff] at k
    exact .inl (ByteArray.ext (Array.ext' (List.le_antisymm (List.not_lt.1 k) (List.not_lt.1 h))))
theorem same_kLit (a b : ByteArray) : (kLit a).sameKey (kLit b) = decide (a = b) := by
  rw [Bool.eq_iff_iff, decide_eq_true_iff]
  constructor
  · intro h; exact kLit_inj (WideAt.sameKey_eq h)
  · rintro rfl; exact WideAt.sameKey_self (by simp [kLit, WideAt.IsKeyLit])
section
variable {α H : Type}
/-- a map as a list by rising names -/
abbrev KV (α : Type) := List (ByteArray × α)
def getG (P : KV α) (n : ByteArray) : Option α := (P.find? fun x => decide (x.1 = n)).map (·.2)
def putG (x : ByteArray × α) : KV α → KV α
  | [] => [x]
  | y :: P => if sLt y.1 x.1 = true then y :: putG x P else if y.1 = x.1 then x :: P else x :: y :: P
def delG (n : ByteArray) (P : KV α) : KV α := P.filter fun x => !decide (x.1 = n)
def RiseG (P : KV α) : Prop := P.Pairwise fun a b => sLt a.1 b.1 = true
theorem getG_nil (n : ByteArray) : getG ([] : KV α) n = none := rfl
theorem getG_cons (y : ByteArray × α) (P : KV α) (n : ByteArray) : getG (y :: P) n = if y.1 = n then some y.2 else getG P n := by
  unfold getG
  rw [List.find?_cons]
  by_cases h : y.1 = n <;> simp [h]
theorem getG_del (P : KV α) (m n : ByteArray) : getG (delG m P) n = if m = n then none else getG P n := by
  unfold delG
  induction P with
  | nil => simp [getG]
  | cons y P ih =>
    rw [List.filter_cons]
    by_cases h : y.1 = m
    · rw [if_neg (by simp [h]), ih, getG_cons, h]
      by_cases e : m = n <;> simp [e]
    · rw [if_pos (by simp [h]), getG_cons, ih, getG_cons]
      by_cases e : m = n
      · subst e; simp [h]
      · simp [e]
theorem getG_put (x : ByteArray × α) (n : ByteArray) : ∀ P : KV α, getG (putG x P) n = if x.1 = n then some x.2 else getG P n
  | [] => by rw [putG, getG_cons]
  | y :: P => by
    rw [putG]
    by_cases h : sLt y.1 x.1 = true
    · rw [if_pos h, getG_cons, getG_put x n P, getG_cons]
      by_cases e : x.1 = n
      · have : y.1 ≠ n := fun e2 => by rw [e2, ← e, sLt_irr] at h; cases h
        simp [e, this]
      · simp [e]
    · rw [if_neg h]
      by_cases e : y.1 = x.1
      · rw [if_pos e, getG_cons, getG_cons, e]
        by_cases e2 : x.1 = n <;> simp [e2]
      · rw [if_neg e, getG_cons]
theorem RiseG.nil : RiseG ([] : KV α) := List.Pairwise.nil
theorem RiseG.del {P : KV α} (h : RiseG P) (n : ByteArray) : RiseG (delG n P) := List.Pairwise.filter _ h
theorem mem_putG {x z : ByteArray × α} : ∀ {P : KV α}, z ∈ putG x P → z = x ∨ z ∈ P
  | [], h => by simpa [putG] using h
  | y :: P, h => by
    rw [putG] at h
    split at h
    · rcases List.mem_cons.1 h with h | h
      · exact .inr (by simp [h])
      · rcases mem_putG h with h | h
        · exact .inl h
        · exact .inr (by simp [h])
    · split at h
      · rcases List.mem_cons.1 h with h | h
        · exact .inl h
        · exact .inr (by simp [h])
      · rcases List.mem_cons.1 h with h | h
        · exact .inl h
        · exact .inr h
theorem RiseG.put (x : ByteArray × α) : ∀ {P : KV α}, RiseG P → RiseG (putG x P)
  | [], _ => by simp [RiseG, putG]
  | y :: P, h => by
    have h1 := List.pairwise_cons.1 h
    rw [putG]
    by_cases e : sLt y.1 x.1 = true
    · rw [if_pos e]
      refine List.pairwise_cons.2 ⟨fun z hz => ?_, RiseG.put x h1.2⟩
      rcases mem_putG hz with rfl | hz
      · exact e
      · exact h1.1 z hz
    · rw [if_neg e]
      by_cases e2 : y.1 = x.1
      · rw [if_pos e2]
        exact List.pairwise_cons.2 ⟨fun z hz => e2 ▸ h1.1 z hz, h1.2⟩
      · rw [if_neg e2]
        have e3 : sLt x.1 y.1 = true := (sLt_tot y.1 x.1 (by simpa using e)).resolve_left e2
        refine List.pairwise_cons.2 ⟨fun z hz => ?_, h⟩
        rcases List.mem_cons.1 hz with rfl | hz
        · exact e3
        · exact sLt_trans _ _ _ e3 (h1.1 z hz)
theorem RiseG.ne {y : ByteArray × α} {P : KV α} (h : RiseG (y :: P)) : ∀ z ∈ P, z.1 ≠ y.1 := fun z hz e => by
  have := (List.pairwise_cons.1 h).1 z hz
  rw [e, sLt_irr] at this; cases this
theorem getG_none_of {n : ByteArray} {P : KV α} (h : ∀ z ∈ P, z.1 ≠ n) : getG P n = none := by
  unfold getG
  rw [List.find?_eq_none.2 (fun z hz => by simpa using h z hz)]; rfl
theorem getG_mem {n : ByteArray} {v : α} {P : KV α} (h : getG P n = some v) : (n, v) ∈ P := by
  unfold getG at h
  cases hf : P.find? (fun x => decide (x.1 = n)) with
  | none => rw [hf] at h; cases h
  | some y =>
    rw [hf] at h
    have h1 := List.mem_of_find?_eq_some hf
    have h2 := List.find?_some hf
    have h3 : y.2 = v := by simpa using h
    have h4 : y.1 = n := by simpa using h2
    rw [← h3, ← h4]; exact h1
theorem mem_getG {n : ByteArray} {v : α} : ∀ {P : KV α}, RiseG P → (n, v) ∈ P → getG P n = some v
  | [], _, h => by cases h
  | y :: P, hr, h => by
    rw [getG_cons]
    rcases List.mem_cons.1 h with rfl | h
    · rw [if_pos rfl]
    · rw [if_neg (fun e => RiseG.ne hr _ h e.symm)]
      exact mem_getG (List.pairwise_cons.1 hr).2 h
theorem putG_len (x : ByteArray × α) : ∀ {P : KV α}, RiseG P → (putG x P).length = if (getG P x.1).isSome then P.length else P.length + 1
  | [], _ => by simp [putG, getG]
  | y :: P, h => by
    have h1 := List.pairwise_cons.1 h
    rw [putG, getG_cons]
    by_cases e : sLt y.1 x.1 = true
    · have e2 : y.1 ≠ x.1 := fun e2 => by rw [e2, sLt_irr] at e; cases e
      rw [if_pos e, if_neg e2, List.length_cons, putG_len x h1.2]
      split <;> simp
    · rw [if_neg e]
      by_cases e2 : y.1 = x.1
      · simp [e2]
      · have e3 : sLt x.1 y.1 = true := (sLt_tot y.1 x.1 (by simpa using e)).resolve_left e2
        have e4 : getG P x.1 = none := getG_none_of (fun z hz e5 => by
          have := sLt_trans _ _ _ e3 (h1.1 z hz)
          rw [e5, sLt_irr] at this; cases this)
        rw [if_neg e2, if_neg e2, e4]
        simp
theorem delG_len (n : ByteArray) : ∀ {P : KV α}, RiseG P → (delG n P).length + (if (getG P n).isSome then 1 else 0) = P.length
  | [], _ => rfl
  | y :: P, h => by
    have h1 := List.pairwise_cons.1 h
    have ih := delG_len n h1.2
    unfold delG at ih ⊢
    rw [List.filter_cons, getG_cons]
    by_cases e : y.1 = n
    · subst e
      have e4 : getG P y.1 = none := getG_none_of (RiseG.ne h)
      rw [e4] at ih
      rw [if_neg (by simp), if_pos rfl]
      simp at ih ⊢
      omega
    · rw [if_pos (by simpa using e), if_neg e]
      simp only [List.length_cons]
      omega
/-- two rising lists with the same at each name are one -/
theorem RiseG.ext {P Q : KV α} (hP : RiseG P) (hQ : RiseG Q) (h : ∀ n, getG P n = getG Q n) : P = Q := by
  induction P generalizing Q with
  | nil =>
    cases Q with
    | nil => rfl
    | cons y Q => have := h y.1; rw [getG_nil, getG_cons, if_pos rfl] at this; cases this
  | cons x P ih =>
    cases Q with
    | nil => have := h x.1; rw [getG_nil, getG_cons, if_pos rfl] at this; cases this
    | cons y Q =>
      have a1 := List.pairwise_cons.1 hP
      have a2 := List.pairwise_cons.1 hQ
      have hxy : x.1 = y.1 := by
        have m1 := getG_mem (P := y :: Q) (n := x.1) (v := x.2) (by rw [← h, getG_cons, if_pos rfl])
        have m2 := getG_mem (P := x :: P) (n := y.1) (v := y.2) (by rw [h, getG_cons, if_pos rfl])
        rcases List.mem_cons.1 m1 with e | m1
        · exact congrArg Prod.fst e
        · rcases List.mem_cons.1 m2 with e | m2
          · exact (congrArg Prod.fst e).symm
          · have l1 := a2.1 _ m1
            have l2 := a1.1 _ m2
            have := sLt_trans _ _ _ l1 l2
            rw [sLt_irr] at this; cases this
      have hv : x.2 = y.2 := by
        have := h x.1
        rw [getG_cons, getG_cons, if_pos rfl, if_pos hxy.symm] at this
        injection this
      have he : x = y := Prod.ext hxy hv
      subst he
      rw [ih a1.2 a2.2 (fun n => ?_)]
      by_cases hn : x.1 = n
      · subst hn
        rw [getG_none_of (RiseG.ne hP), getG_none_of (RiseG.ne hQ)]
      · have := h n
        rw [getG_cons, getG_cons, if_neg hn, if_neg hn] at this
        exact this
/-- the datum of such a map -/
def datG (f : α → DataW H) (P : KV α) : DataW H := .map (P.map fun x => (kLit x.1, f x.2))
variable (f : α → DataW H)
theorem datG_has (P : KV α) (n : ByteArray) : Maps.has (datG f P) (kLit n) = (getG P n).isSome := by
  unfold datG
  rw [Maps.has_eq]
  induction P with
  | nil => rfl
  | cons y P ih =>
    rw [List.map_cons, List.any_cons, ih, getG_cons, same_kLit]
    by_cases e : y.1 = n <;> simp [e]
theorem datG_at (P : KV α) (n : ByteArray) (z : DataW H) : (datG f P).atKey (kLit n) z = (match getG P n with | some v => f v | none => z) := by
  unfold datG DataW.atKey
  simp only
  induction P with
  | nil => rfl
  | cons y P ih =>
    rw [List.map_cons, List.find?_cons, getG_cons, same_kLit]
    by_cases e : y.1 = n
    · simp [e]
    · rw [if_neg e]
      simp only [decide_eq_false e]
      exact ih
theorem datG_size (P : KV α) : Maps.size (datG f P) = P.length := by
  unfold datG; rw [Maps.size_eq, List.length_map]
theorem datG_del (P : KV α) (n : ByteArray) : (datG f P).del (kLit n) = datG f (delG n P) := by
  unfold datG DataW.del delG
  simp only
  congr 1
  induction P with
  | nil => rfl
  | cons y P ih =>
    rw [List.map_cons, List.filter_cons, List.filter_cons, same_kLit]
    by_cases e : y.1 = n
    · rw [if_neg (by simp [e]), if_neg (by simp [e])]; exact ih
    · rw [if_pos (by simp [e]), if_pos (by simp [e]), List.map_cons, ih]
theorem datG_put {P : KV α} (h : RiseG P) (n : ByteArray) (v : α) : (datG f P).put (kLit n) (f v) = datG f (putG (n, v) P) := by
  have hd : (datG f P).put (kLit n) (f v) = .map (DataW.insert (kLit n, f v) ((delG n P).map fun x => (kLit x.1, f x.2))) := by
    have := datG_del f P n
    unfold datG DataW.del at this
    unfold datG DataW.put
    injection this with this
    simp only [this]
  rw [hd]
  unfold datG
  congr 1
  induction P with
  | nil => rfl
  | cons y P ih =>
    have h1 := List.pairwise_cons.1 h
    have ih := ih h1.2 (by
      have := datG_del f P n
      unfold datG DataW.del at this
      unfold datG DataW.put
      injection this with this
      simp only [this])
    rw [putG]
    unfold delG
    rw [List.filter_cons]
    by_cases e : sLt y.1 n = true
    · have e2 : y.1 ≠ n := fun e2 => by rw [e2, sLt_irr] at e; cases e
      rw [if_pos e, if_pos (by simpa using e2), List.map_cons, List.map_cons, DataW.insert, before_sLt]
      have e3 : sLt n y.1 = false := by
        cases hc : sLt n y.1 with
        | false => rfl
        | true => have := sLt_trans _ _ _ e hc; rw [sLt_irr] at this; cases this
      rw [e3]
      simp only [Bool.false_eq_true, if_false]
      rw [← ih]; rfl
    · have hfil : P.filter (fun x => !decide (x.1 = n)) = P := by
        apply List.filter_eq_self.2
        intro z hz
        have : sLt n z.1 = true := by
          rcases sLt_tot y.1 n (by simpa using e) with e2 | e2
          · rw [← e2]; exact h1.1 z hz
          · exact sLt_trans _ _ _ e2 (h1.1 z hz)
        have : z.1 ≠ n := fun e5 => by rw [e5, sLt_irr] at this; cases this
        simpa using this
      rw [if_neg e]
      by_cases e2 : y.1 = n
      · rw [if_pos e2, if_neg (by simp [e2]), hfil, List.map_cons]
        cases P with
        | nil => rfl
        | cons z P =>
          rw [List.map_cons, DataW.insert, before_sLt]
          have hz : sLt n z.1 = true := by rw [← e2]; exact h1.1 z (by simp)
          rw [if_pos hz]
      · have e3 : sLt n y.1 = true := (sLt_tot y.1 n (by simpa using e)).resolve_left e2
        rw [if_neg e2, if_pos (by simp [e2]), hfil, List.map_cons, DataW.insert, before_sLt, if_pos e3, List.map_cons, List.map_cons]
end
end Go.Proofs.YtaajofojbhdgaaaGreatDoor
/- Slices of strings: reading one, appending to one of the call's own; the walk of the reference's SameStrings. Walks of the reference's SameStrings and PutString. Walk of the reference's PutString. -/
namespace Go.Proofs.YtaajofojbhdgaaaGreatDoor
open Go.RowKit Go.Deep
/-- a slice's address under which the strings L lie -/
def SR (w : World) (A : Option Addr) (L : List ByteArray) : Prop :=
  ∀ k s, L[k]? = some s → ∃ g o, A = some ⟨g, o, none⟩ ∧ g < w.heap.size ∧ w.cell? ⟨g, o + k, none⟩ = some (.string s)
theorem SR.nil (w : World) (A : Option Addr) : SR w A [] := fun k s h => by simp at h
theorem SR.below {w w' : World} {A : Option Addr} {L : List ByteArray} (h : SR w A L) (hb : Below w.heap.size w w') : SR w' A L := fun k s hk => by
  obtain ⟨g, o, e, hg, hc⟩ := h k s hk
  exact ⟨g, o, e, Nat.lt_of_lt_of_le hg hb.size, (hb.cell (p := ⟨g, o + k, none⟩) hg).trans hc⟩
theorem SR.gb {w w' : World} {A : Option Addr} {L : List ByteArray} {r : Option Nat} (h : SR w A L) (hb : w.grownBy w' r) (hr : ∀ a, A = some a → some a.block ≠ r) : SR w' A L := fun k s hk => by
  obtain ⟨g, o, e, hg, hc⟩ := h k s hk
  exact ⟨g, o, e, Nat.lt_of_lt_of_le hg hb.size, hb.cell (a := ⟨g, o + k, none⟩) hc (show some g ≠ r from hr _ e)⟩
theorem SR.drop {w : World} {g o : Nat} {L : List ByteArray} (h : SR w (some ⟨g, o, none⟩) L) (k : Nat) : SR w (some ⟨g, o + k, none⟩) (L.drop k) := fun j s hj => by
  rw [List.getElem?_drop] at hj
  obtain ⟨g', o', e, hg, hc⟩ := h _ s hj
  injection e with e
  injection e with e1 e2
  subst e1 e2
  exact ⟨g, o + k, rfl, hg, by rw [Nat.add_assoc]; exact hc⟩
theorem SR.take {w : World} {A : Option Addr} {L : List ByteArray} (h : SR w A L) (k : Nat) : SR w A (L.take k) := fun j s hj => by
  rw [List.getElem?_take] at hj
  split at hj
  · exact h j s hj
  · cases hj
def strVals (L : List ByteArray) : List Value := L.map Value.string
/-- a slice of strings of the call's own -/
def OwnS (w : World) (base : Nat) (v : Value) (L : List ByteArray) : Prop := w.ownsRow base 9 1 v L.length (strVals L)
theorem OwnS.slice {w : World} {base : Nat} {v : Value} {L : List ByteArray} (h : OwnS w base v L) : ∃ A c, v = .slice A L.length c ∧ L.length ≤ c ∧ SR w A L ∧ (∀ a, A = some a → v.ownBlock = some a.block) := by
  rcases h.2 with ⟨rfl, hn⟩ | ⟨g, cap, cur, rfl, _, hh, hc, _⟩
  · refine ⟨none, 0, by rw [hn], by omega, fun k s hk => ?_, fun a e => by cases e⟩
    have := (List.getElem?_eq_some_iff.1 hk).1
    omega
  · refine ⟨_, cap, rfl, hc, fun k s hk => ⟨g, 0, rfl, (h.lt g rfl).2, ?_⟩, fun a e => by injection e with e; subst e; rfl⟩
    have hlt := (List.getElem?_eq_some_iff.1 hk).1
    rw [Nat.zero_add, World.ownsRow.cellAt h k (by omega)]
    simp [strVals, hk]
theorem infoS : (Tryz.prog.info? 9).map (fun i => (i.zero, i.size, i.bytes)) = some (some (.string ⟨#[]⟩), 1, 16) := by kernel_rfl
theorem OwnS.nil (w : World) (base : Nat) : OwnS w base (.slice none 0 0) [] := World.ownsRow_nil _ _ _ _
set_option maxRecDepth 100000 in
/-- append of strings to such a slice, the source nil or not -/
theorem run_appS {w : World} {base : Nat} {v : Value} {L N : List ByteArray} {A : Option Addr} {c : Nat} (h : OwnS w base v L) (hn : SR w A N) (hbase : base ≤ w.heap.size) (hl : L.length + N.length ≤ 100000000) :
    ∃ v' w', (Builtin.append_ #[39, 39] 39 #[v, .slice A N.length c]).run Tryz.prog w = .ok v' w' ∧ OwnS w' base v' (L ++ N) ∧ w.grownBy w' v.ownBlock ∧ (v'.ownBlock = v.ownBlock ∨ v'.ownBlock = some w.heap.size) := by
  obtain ⟨i0, hi, hz0, hz1, hz2⟩ := info_parts infoS
  rcases A with _ | ad
  · have hN : N = [] := by
      cases N with
      | nil => rfl
      | cons s N =>
        obtain ⟨g, o, e, _⟩ := hn 0 s rfl
        cases e
    subst hN
    refine ⟨v, w, ?_, by simpa using h, World.grownBy.refl w _, .inl rfl⟩
    rcases h.2 with ⟨rfl, _⟩ | ⟨g, cap, cur, rfl, _, _, hnc, _⟩
    · simp [Builtin.append_, run_underlying Tryz.underlying39, sizeOf, typeInfo, hi, Builtin.lenOf, Builtin.firstCells]
    · simp [Builtin.append_, run_underlying Tryz.underlying39, sizeOf, typeInfo, hi, Builtin.lenOf, Builtin.firstCells, hnc, storeCells]
  · have hcells : ∀ j u, (strVals N)[j]? = some u → w.cell? (ad.add j) = some u := fun j u hu => by
      have hj := (List.getElem?_eq_some_iff.1 hu).1
      have hj2 : j < N.length := by simpa [strVals] using hj
      obtain ⟨g, o, e, _, hc⟩ := hn j N[j] (List.getElem?_eq_getElem hj2)
      injection e with e
      subst e
      have e2 : (Addr.mk g o none).add j = ⟨g, o + j, none⟩ := by
        unfold Addr.add
        split
        · rename_i h0; subst h0; rfl
        · rfl
      rw [e2, hc]
      simpa [strVals, hj2] using hu
    obtain ⟨v', w', hrun, h2, h3, _, h5⟩ := run_append_own_at (P := Tryz.prog) w base 39 39 9 i0 _ 1 16 Tryz.underlying39 hi hz0 hz1 hz2 rfl (by omega) v L.length (strVals L) h ad N.length c (strVals N) (by simp [strVals]) hcells
      (fun u hu => by simp only [strVals, List.mem_map] at hu; obtain ⟨s, _, rfl⟩ := hu; rfl) (by simp only [maxLen]; omega) (by omega) hbase
    refine ⟨v', w', hrun, ?_, h3, h5⟩
    unfold OwnS
    rw [List.length_append, show strVals (L ++ N) = strVals L ++ strVals N from by simp [strVals]]
    exact h2
/-- an append whose run is known -/
theorem wpList_app_run {P : Program} {ops : Array Oper} {rest : List Oper} {o : Oper} {a : Act} {w : World} {Q : Exit → Act → World → Prop} {t : TypeId} {v xv v' : Value} {w' : World} (hgd : o.guard = none) (s x : Operand)
    (ho : o.op = .call { callee := .builtin .append, args := #[s, x], argTypes := #[t, t] }) (hs : a.eval s = v) (hx : a.eval x = xv) (ht : o.type = t)
    (hrun : (Builtin.append_ #[t, t] t #[v, xv]).run P w = .ok v' w') (h : wpList P ops Q rest (a.put o.dst v') w') : wpList P ops Q (o :: rest) a w :=
  wpList_plain hgd fun K hK => by
    unfold Oper.wp execOp
    simp only [ho, resolve, invoke, builtin, Sem.run_bind, Sem.run_pure, Result.andThen_ok, List.map_toArray, List.map_cons, List.map_nil, hs, hx, ht, hrun]
    exact hK _ _ h
theorem sr_new (w : World) (s : ByteArray) : SR (w.alloc (.cells #[.string s] 9)) (some ⟨w.heap.size, 0, none⟩) [s] := fun k x hk => by
  cases k with
  | zero =>
    simp at hk
    subst hk
    exact ⟨_, _, rfl, by simp, by rw [World.cell?_alloc_at _ _ _ _ rfl]; rfl⟩
  | succ k => simp at hk
theorem OwnS.kept {w w' : World} {base : Nat} {v : Value} {L : List ByteArray} {r : Option Nat} (h : OwnS w base v L) (hg : w.grownBy w' r) (hne : v.ownBlock = none ∨ v.ownBlock ≠ r) : OwnS w' base v L := World.ownsRow.kept h hg hne
theorem OwnS.alloc {w : World} {base : Nat} {v : Value} {L : List ByteArray} (h : OwnS w base v L) (o : Obj) : OwnS (w.alloc o) base v L := World.ownsRow.alloc h o
end Go.Proofs.YtaajofojbhdgaaaGreatDoor
namespace Go.Proofs.YtaajofojbhdgaaaGreatDoor
open Go.RowKit Go.Deep
theorem txt_ne {a b : ByteArray} (h : a ≠ b) : (a.toList == b.toList) = false := by
  rw [beq_eq_false_iff_ne, ByteArray.toList_eq, ByteArray.toList_eq]
  exact fun e => h (ByteArray.ext (Array.ext' e))
/-- but for draws the same world -/
def Drew (w w' : World) : Prop := ∃ n, w' = w.drewN n
theorem Drew.refl (w : World) : Drew w w := ⟨0, rfl⟩
theorem Drew.more {w w' : World} (h : Drew w w') (n : Nat) : Drew w (w'.drewN n) := by
  obtain ⟨m, rfl⟩ := h
  exact ⟨m + n, by simp [World.drewN, Nat.add_assoc]⟩
theorem SR.drewN {w : World} {A : Option Addr} {L : List ByteArray} (h : SR w A L) (n : Nat) : SR (w.drewN n) A L := h
theorem SR.drew {w w' : World} {A : Option Addr} {L : List ByteArray} (h : SR w A L) (hd : Drew w w') : SR w' A L := by
  obtain ⟨n, rfl⟩ := hd
  exact h
theorem Drew.below {w w' : World} (h : Drew w w') : Below w.heap.size w w' := by
  obtain ⟨n, rfl⟩ := h
  exact below_drewN (Below.refl _ _) n
set_option maxRecDepth 100000 in
set_option maxHeartbeats 400000 in
theorem same_any (A B : Option Addr) (c d : Nat) (L M : List ByteArray) (w : World) (hA : SR w A L) (hB : SR w B M) (hl : L.length ≤ 100000) :
    Calls Tryz.prog 13 #[.slice A L.length c, .slice B M.length d] w fun e w' => e = .returned (.bool (decide (L = M))) ∧ Drew w w' := by
  have HA := hide hA
  have HB := hide hB
  clear hA hB
  by_cases hn : L.length = M.length
  · obtain ⟨n, hn1⟩ : ∃ n, L.length = n := ⟨_, rfl⟩
    have hn2 : M.length = n := by omega
    have N1 := hide hn1
    have N2 := hide hn2
    rw [hn1, hn2]
    rw [hn1] at hl
    clear hn hn1 hn2
    go_enter Tryz.func13, Tryz.ntmps13
    go_wp2
    go_loopw [5] (fun v5 wr => ∃ k : Nat, v5 = .int .i64 k ∧ k ≤ n ∧ Hid (L.take k = M.take k) ∧ Drew w wr) (fun v5 _ => n - (intOf v5).toNat)
    case atStart => exact ⟨0, rfl, by omega, rfl, Drew.refl _⟩
    case round =>
      obtain ⟨k, rfl, hk, HE, hdr⟩ := hrel
      have HD := hide hdr
      clear hdr
      by_cases hlt : k < n
      · obtain ⟨x, hx⟩ : ∃ x, L[k]? = some x := ⟨L[k]'(by have := N1.out; omega), List.getElem?_eq_getElem _⟩
        obtain ⟨y, hy⟩ : ∃ y, M[k]? = some y := ⟨M[k]'(by have := N2.out; omega), List.getElem?_eq_getElem _⟩
        obtain ⟨g, o, rfl, hg, hc⟩ := (HA.out.drew HD.out) k x hx
        obtain ⟨g', o', rfl, hg', hc'⟩ := (HB.out.drew HD.out) k y hy
        have HX := hide hx
        have HY := hide hy
        clear hx hy
        by_cases he : x = y
        · subst he
          go_wp2
          go_quiet (fail)
          go_wp2
          go_roundw
          case rel =>
            refine ⟨k + 1, by go_num, by omega, ?_, HD.out.more _⟩
            show L.take (k + 1) = M.take (k + 1)
            rw [List.take_add_one, List.take_add_one, HE.out, HX.out, HY.out]
          case measure => simp [intOf]; omega
        · have hne := txt_ne he
          have HN := hide he
          clear he
          go_wp2
          go_quiet (fail)
          go_wp2
          go_ret
          refine ⟨?_, HD.out.more _⟩
          have : decide (L = M) = false := by
            rw [decide_eq_false_iff_not]
            intro e
            have h1 := HX.out
            have h2 := HY.out
            rw [e, h2] at h1
            injection h1 with h1
            exact HN.out h1.symm
          rw [this]
          rfl
      · have e : k = n := by omega
        have hf : decide (L = M) = true := by
          rw [decide_eq_true_iff]
          have := HE.out
          rw [List.take_of_length_le (by have := N1.out; omega), List.take_of_length_le (by have := N2.out; omega)] at this
          exact this
        have HF := hide hf
        clear hf e
        go_wp2
        go_ret
        refine ⟨?_, HD.out⟩
        rw [HF.out]
        rfl
  · have hb : ((L.length : Int) == (M.length : Int)) = false := by simp only [beq_eq_false_iff_ne]; omega
    have hb2 : (L.length == M.length) = false := by simp only [beq_eq_false_iff_ne]; omega
    have HF := hide (show decide (L = M) = false by rw [decide_eq_false_iff_not]; intro e; exact hn (by rw [e]))
    clear hn
    go_enter Tryz.func13, Tryz.ntmps13
    go_wp2
    go_ret
    refine ⟨?_, Drew.refl _⟩
    rw [HF.out]
    rfl
end Go.Proofs.YtaajofojbhdgaaaGreatDoor
namespace Go.Proofs.YtaajofojbhdgaaaGreatDoor
open Go.RowKit Go.Deep
/-- a text into a rising list, once -/
def putS (s : ByteArray) : List ByteArray → List ByteArray
  | [] => [s]
  | x :: l => if sLt x s then x :: putS s l else if x = s then x :: l else s :: x :: l
theorem putS_at {s : ByteArray} : ∀ (L : List ByteArray) (k : Nat), k ≤ L.length → (∀ j x, j < k → L[j]? = some x → sLt x s = true) → (∀ x, L[k]? = some x → sLt x s = false) →
    putS s L = if L[k]? = some s then L else L.take k ++ [s] ++ L.drop k
  | [], k, hk, _, _ => by
    obtain rfl : k = 0 := by simpa using hk
    rfl
  | x :: L, 0, hk, h1, h2 => by
    have := h2 x rfl
    rw [putS, if_neg (by rw [this]; simp)]
    simp
  | x :: L, k + 1, hk, h1, h2 => by
    rw [putS, if_pos (h1 0 x (by omega) rfl), putS_at L k (by simpa using hk) (fun j y hj hy => h1 (j + 1) y (by omega) (by simpa using hy)) (fun y hy => h2 y (by simpa using hy))]
    simp only [List.getElem?_cons_succ]
    split <;> simp
theorem Below.of_gb {w w' : World} {r : Option Nat} {B : Nat} (h : w.grownBy w' r) (hB : B ≤ w.heap.size) (hr : ∀ k, r = some k → B ≤ k) : Below B w w' := (Below.refl B w).grown h hB hr
theorem OwnS.lt {w : World} {base : Nat} {v : Value} {L : List ByteArray} (h : OwnS w base v L) : ∀ k, v.ownBlock = some k → base ≤ k ∧ k < w.heap.size := World.ownsRow.lt h
set_option maxRecDepth 100000 in
/-- three appends, one behind the other, in new rows -/
theorem putstr_chain (w : World) (A1 A2 : Option Addr) (c1 c2 : Nat) (L1 L2 : List ByteArray) (s : ByteArray) (h1 : SR w A2 L2) (h2 : SR w A1 L1) (hl : L1.length + L2.length ≤ 100000) :
    ∃ v1 w1 v2 w2 v3 w3 v4 w4, (Builtin.append_ #[39, 39] 39 #[.slice none 0 0, .slice A2 L2.length c2]).run Tryz.prog w = .ok v1 w1 ∧
      (Builtin.append_ #[39, 39] 39 #[.slice none 0 0, .slice A1 L1.length c1]).run Tryz.prog w1 = .ok v2 w2 ∧
      (Builtin.append_ #[39, 39] 39 #[v2, .slice (some ⟨w2.heap.size, 0, none⟩) 1 1]).run Tryz.prog (w2.alloc (.cells #[.string s] 9)) = .ok v3 w3 ∧
      (Builtin.append_ #[39, 39] 39 #[v3, v1]).run Tryz.prog w3 = .ok v4 w4 ∧ OwnS w4 w.heap.size v4 (L1 ++ [s] ++ L2) ∧ Below w.heap.size w w4 := by
  obtain ⟨v1, w1, r1, o1, g1, b1⟩ := run_appS (OwnS.nil w w.heap.size) h1 (Nat.le_refl _) (by simp; omega)
  have hb1 : Below w.heap.size w w1 := Below.of_gb g1 (Nat.le_refl _) (fun k hk => by cases hk)
  obtain ⟨v2, w2, r2, o2, g2, b2⟩ := run_appS (OwnS.nil w1 w1.heap.size) (h2.below hb1) (Nat.le_refl _) (by simp; omega)
  have hb2 : Below w.heap.size w w2 := below_up hb1 (Below.of_gb g2 (Nat.le_refl _) (fun k hk => by cases hk)) hb1.size
  have s1 := hb1.size
  have s2 := hb2.size
  have s12 := g2.size
  simp only [List.nil_append] at o1 o2
  have n1 : ∀ k, v1.ownBlock = some k → k < w1.heap.size := fun k hk => (o1.lt k hk).2
  have n2 : ∀ k, v2.ownBlock = some k → k = w1.heap.size := fun k hk => by
    rcases b2 with e | e
    · rw [e] at hk; cases hk
    · rw [e] at hk; injection hk with hk; exact hk.symm
  have o1a : OwnS (w2.alloc (.cells #[.string s] 9)) w.heap.size v1 L2 := (o1.kept g2 (Classical.em _)).alloc _
  obtain ⟨v3, w3, r3, o3, g3, b3⟩ := run_appS (o2.alloc (.cells #[.string s] 9)) (sr_new w2 s) (by simp; omega) (by simp; omega)
  have n3 : ∀ k, v3.ownBlock = some k → w.heap.size ≤ k := fun k hk => by
    rcases b3 with e | e
    · have := n2 k (e ▸ hk); omega
    · rw [e] at hk; injection hk with hk; simp at hk; omega
  have o1b : OwnS w3 w.heap.size v1 L2 := o1a.kept g3 (by
    cases hv : v1.ownBlock with
    | none => exact .inl rfl
    | some k =>
      right
      intro e
      have := n2 k e.symm
      have := n1 k hv
      omega)
  have hb3 : Below w.heap.size w w3 := (hb2.alloc hb2.size _).trans (Below.of_gb g3 (by simp; omega) (fun k hk => by have := n2 k hk; omega))
  have s3 := hb3.size
  obtain ⟨A, c, rfl, _, hsr, _⟩ := o1b.slice
  obtain ⟨v4, w4, r4, o4, g4, b4⟩ := run_appS o3 hsr (by have := g3.size; simp at this; omega) (by simp; omega)
  refine ⟨_, w1, v2, w2, v3, w3, v4, w4, r1, r2, r3, r4, ?_, hb3.trans (Below.of_gb g4 s3 n3)⟩
  exact ⟨o4.1, o4.2.imp id fun ⟨g, cap, cur, e, hg, r⟩ => ⟨g, cap, cur, e, by omega, r⟩⟩
set_option maxRecDepth 100000 in
set_option maxHeartbeats 1000000 in
theorem putstr_any (A : Option Addr) (c : Nat) (L : List ByteArray) (s : ByteArray) (w : World) (hA : SR w A L) (hl : L.length ≤ 10000) (hc : L.length ≤ c) :
    Calls Tryz.prog 23 #[.slice A L.length c, .string s] w fun e w' => (∃ A' c', e = .returned (.slice A' (putS s L).length c') ∧ SR w' A' (putS s L) ∧ (putS s L).length ≤ c') ∧ Below w.heap.size w w' := by
  obtain ⟨n, hn1⟩ : ∃ n, L.length = n := ⟨_, rfl⟩
  rw [hn1]
  rw [hn1] at hl hc
  have HN := hide hn1
  have HA := hide hA
  clear hA hn1
  go_enter Tryz.func23, Tryz.ntmps23
  go_wp2
  go_loop [5] (fun v5 => ∃ k : Nat, v5 = .int .i64 k ∧ k ≤ n ∧ Hid (∀ j x, j < k → L[j]? = some x → sLt x s = true)) (fun v5 => n - (intOf v5).toNat)
  case atStart => exact ⟨0, rfl, by omega, fun j x hj => by omega⟩
  case round =>
    obtain ⟨k, rfl, hk, HE⟩ := hrel
    by_cases hlt : k < n
    · obtain ⟨x, hx⟩ : ∃ x, L[k]? = some x := ⟨L[k]'(by have := HN.out; omega), List.getElem?_eq_getElem _⟩
      obtain ⟨g, o, rfl, hg, hcell⟩ := HA.out k x hx
      have HX := hide hx
      clear hx
      cases hs : sLt x s with
      | true =>
        have hs2 : Op.bytesLess x.toList s.toList = true := hs
        have HS := hide hs
        clear hs
        go_wp2
        go_round
        case rel =>
          refine ⟨k + 1, by go_num, by omega, fun j y hj hy => ?_⟩
          by_cases e : j = k
          · subst e
            have h1 := HX.out
            rw [h1] at hy
            injection hy with hy
            rw [← hy]
            exact HS.out
          · exact HE.out j y (by omega) hy
        case measure => simp [intOf]; omega
      | false =>
        have hs2 : Op.bytesLess x.toList s.toList = false := hs
        have HS := hide hs
        clear hs
        have HP := hide (putS_at (s := s) L k (by have := HN.out; omega) HE.out (fun y hy => by rw [HX.out] at hy; injection hy with hy; rw [← hy]; exact HS.out))
        by_cases he : x = s
        · have he2 : (x.toList == s.toList) = true := by simp [he]
          have HQ := hide (show putS s L = L by rw [HP.out, HX.out, he, if_pos rfl])
          clear he
          go_wp2
          go_ret
          refine ⟨⟨some ⟨g, o, none⟩, c, ?_, ?_, ?_⟩, Below.refl _ _⟩
          · rw [HQ.out, HN.out]; rfl
          · rw [HQ.out]; exact HA.out
          · rw [HQ.out, HN.out]; exact hc
        · have he2 := txt_ne he
          have HQ := hide (show putS s L = L.take k ++ [s] ++ L.drop k by rw [HP.out, HX.out, if_neg (fun e => he (by injection e))])
          clear he
          have hck : ¬ c = k := by omega
          obtain ⟨v1, w1, v2, w2, v3, w3, v4, w4, r1, r2, r3, r4, ho, hb⟩ := putstr_chain w (some ⟨g, o, none⟩) (some ⟨g, o + k, none⟩) c (c - k) (L.take k) (L.drop k) s (HA.out.drop k) (HA.out.take k) (by have := HN.out; simp; omega)
          rw [show (L.drop k).length = n - k from by simp; rw [HN.out]] at r1
          rw [show (L.take k).length = k from by simp; rw [HN.out]; omega] at r2
          have HO := hide ho
          have HB := hide hb
          clear ho hb
          go_wp2_with (first
            | (at_builtin; refine wpList_app_run ?_ (.const (.slice none 0 0)) (.tmp 36) ?_ ?_ ?_ ?_ r1 ?_; exact rfl; exact rfl; exact rfl; exact rfl; exact rfl)
            | (at_builtin; refine wpList_app_run ?_ (.const (.slice none 0 0)) (.tmp 40) ?_ ?_ ?_ ?_ r2 ?_; exact rfl; exact rfl; exact rfl; exact rfl; exact rfl)
            | (at_builtin; refine wpList_app_run ?_ (.tmp 41) (.tmp 43) ?_ ?_ ?_ ?_ r3 ?_; exact rfl; exact rfl; exact rfl; exact rfl; exact rfl)
            | (at_builtin; refine wpList_app_run ?_ (.tmp 44) (.tmp 45) ?_ ?_ ?_ ?_ r4 ?_; exact rfl; exact rfl; exact rfl; exact rfl; exact rfl))
          go_ret
          obtain ⟨A4, c4, rfl, hc4, hs4, _⟩ := HO.out.slice
          refine ⟨⟨A4, c4, ?_, ?_, ?_⟩, HB.out⟩
          · rw [HQ.out]; rfl
          · rw [HQ.out]; exact hs4
          · rw [HQ.out]; exact hc4
    · have e : k = n := by omega
      have HP := hide (putS_at (s := s) L k (by have := HN.out; omega) HE.out (fun y hy => by have := (List.getElem?_eq_some_iff.1 hy).1; have := HN.out; omega))
      have HQ := hide (show putS s L = L ++ [s] by
        have hnone : L[k]? = none := List.getElem?_eq_none (by have := HN.out; omega)
        rw [HP.out, hnone, if_neg (by simp), List.take_of_length_le (by have := HN.out; omega), List.drop_of_length_le (by have := HN.out; omega)]
        simp)
      clear HP
      subst e
      by_cases hck : c = k
      · subst hck
        obtain ⟨v1, w1, v2, w2, v3, w3, v4, w4, r1, r2, r3, r4, ho, hb⟩ := putstr_chain w A A c 0 L [] s (SR.nil _ _) HA.out (by have := HN.out; simp; omega)
        rw [List.append_nil] at ho
        rw [HN.out] at r2
        simp only [List.length_nil] at r1
        have HO := hide ho
        have HB := hide hb
        clear ho hb
        go_wp2_with (first
          | (at_builtin; refine wpList_app_run ?_ (.const (.slice none 0 0)) (.tmp 36) ?_ ?_ ?_ ?_ r1 ?_; exact rfl; exact rfl; exact rfl; exact rfl; exact rfl)
          | (at_builtin; refine wpList_app_run ?_ (.const (.slice none 0 0)) (.tmp 40) ?_ ?_ ?_ ?_ r2 ?_; exact rfl; exact rfl; exact rfl; exact rfl; exact rfl)
          | (at_builtin; refine wpList_app_run ?_ (.tmp 41) (.tmp 43) ?_ ?_ ?_ ?_ r3 ?_; exact rfl; exact rfl; exact rfl; exact rfl; exact rfl)
          | (at_builtin; refine wpList_app_run ?_ (.tmp 44) (.tmp 45) ?_ ?_ ?_ ?_ r4 ?_; exact rfl; exact rfl; exact rfl; exact rfl; exact rfl))
        go_ret
        obtain ⟨A4, c4, rfl, hc4, hs4, _⟩ := HO.out.slice
        refine ⟨⟨A4, c4, ?_, ?_, ?_⟩, HB.out⟩
        · rw [HQ.out]; rfl
        · rw [HQ.out]; exact hs4
        · rw [HQ.out]; exact hc4
      · obtain ⟨v1, w1, v2, w2, v3, w3, v4, w4, r1, r2, r3, r4, ho, hb⟩ := putstr_chain w A (Option.map (fun x => x.add k) A) c (c - k) L [] s (SR.nil _ _) HA.out (by have := HN.out; simp; omega)
        rw [List.append_nil] at ho
        rw [HN.out] at r2
        simp only [List.length_nil] at r1
        have HO := hide ho
        have HB := hide hb
        clear ho hb
        go_wp2_with (first
          | (at_builtin; refine wpList_app_run ?_ (.const (.slice none 0 0)) (.tmp 36) ?_ ?_ ?_ ?_ r1 ?_; exact rfl; exact rfl; exact rfl; exact rfl; exact rfl)
          | (at_builtin; refine wpList_app_run ?_ (.const (.slice none 0 0)) (.tmp 40) ?_ ?_ ?_ ?_ r2 ?_; exact rfl; exact rfl; exact rfl; exact rfl; exact rfl)
          | (at_builtin; refine wpList_app_run ?_ (.tmp 41) (.tmp 43) ?_ ?_ ?_ ?_ r3 ?_; exact rfl; exact rfl; exact rfl; exact rfl; exact rfl)
          | (at_builtin; refine wpList_app_run ?_ (.tmp 44) (.tmp 45) ?_ ?_ ?_ ?_ r4 ?_; exact rfl; exact rfl; exact rfl; exact rfl; exact rfl))
        go_ret
        obtain ⟨A4, c4, rfl, hc4, hs4, _⟩ := HO.out.slice
        refine ⟨⟨A4, c4, ?_, ?_, ?_⟩, HB.out⟩
        · rw [HQ.out]; rfl
        · rw [HQ.out]; exact hs4
        · rw [HQ.out]; exact hc4
end Go.Proofs.YtaajofojbhdgaaaGreatDoor
/- A slice among a law's arguments, whose elements are opened one by one, as one list. A slice of strings among a law's arguments, opened as one list. A slice of bools among a law's arguments, opened as one list. A slice of ints, or of bools, among a law's arguments, opened as one list. -/
namespace Go.Proofs.YtaajofojbhdgaaaGreatDoor
open Go.RowKit Go.Deep Go.ChangeShapes Go.WideShapes
theorem choose_list {α : Type} {P : Nat → α → Prop} : ∀ n, (∀ i, i < n → ∃ x, P i x) → ∃ L : List α, L.length = n ∧ ∀ i x, L[i]? = some x → P i x
  | 0, _ => ⟨[], rfl, fun i x h => by simp at h⟩
  | n + 1, h => by
    obtain ⟨L, hl, hL⟩ := choose_list n (fun i hi => h i (by omega))
    obtain ⟨x, hx⟩ := h n (by omega)
    refine ⟨L ++ [x], by simp [hl], fun i y hy => ?_⟩
    by_cases hi : i < L.length
    · rw [List.getElem?_append_left hi] at hy
      exact hL i y hy
    · rw [List.getElem?_append_right (by omega)] at hy
      have : i - L.length = 0 := by
        have := (List.getElem?_eq_some_iff.1 hy).1
        simp at this
        omega
      rw [this] at hy
      simp at hy
      subst hy
      rw [show i = n by omega]
      exact hx
theorem add_offR (b off k : Nat) : (Addr.mk b off none).add k = ⟨b, off + k, none⟩ := by
  unfold Addr.add
  split
  · rename_i h0; subst h0; rfl
  · rfl
/-- the cells of one element -/
def CellsAt (w : World) (g o : Nat) (cs : List Value) : Prop := ∀ j v, cs[j]? = some v → w.cell? ⟨g, o + j, none⟩ = some v
/-- elements at a slice's address, each of n cells, as good says -/
def RowsAt {α : Type} (n : Nat) (good : World → α → List Value → Prop) (w : World) (A : Option Addr) (L : List α) : Prop :=
  ∀ k x, L[k]? = some x → ∃ g o cs, A = some ⟨g, o, none⟩ ∧ g < w.heap.size ∧ cs.length = n ∧ CellsAt w g (o + k * n) cs ∧ good w x cs
theorem open_rows {H α : Type} {enc : TypeId × Value → H} {P : Program} {w : World} {spare : Nat → Bool} {held : Bool} {t e : TypeId} {n : Nat} (ht : P.underlying t = some (.slice e)) (hn : P.cellsOf e = n) (h0 : 0 < n) (good : World → α → List Value → Prop)
    (each : ∀ fuel cs y, cs.length = n → DataW.trod enc P w 0 spare held fuel e cs = some y → ∃ x, good w x cs)
    {a0 : Option Addr} {len cap : Nat} {d : DataW H} {ps : List MemPlace} (h : DataW.Trod enc P w 0 spare held t (.slice a0 len cap) d ps) :
    ∃ L : List α, L.length = len ∧ L.length ≤ maxLen ∧ (∀ x ∈ L, ∃ cs, good w x cs) ∧ RowsAt n good w a0 L := by
  obtain ⟨fuel, hf⟩ := h
  rcases open_slice ht hf with ⟨hcs, hx⟩ | ⟨a, len', cap', m, fl, D, Pl, hcs, _, hl, hm, hmm, _, hx⟩
  · simp [Value.cells] at hcs
    obtain ⟨rfl, rfl, rfl⟩ := hcs
    exact ⟨[], rfl, Nat.zero_le _, fun x hx => by simp at hx, fun k x hk => by simp at hk⟩
  · simp [Value.cells] at hcs
    obtain ⟨rfl, rfl, rfl⟩ := hcs
    have hlm : len ≤ m := by rw [hmm]; split <;> omega
    obtain ⟨L, hL, hLx⟩ := choose_list (P := fun i x => ∃ cs, cs.length = n ∧ (∀ j v, cs[j]? = some v → w.cell? ((a.add (i * n)).add j) = some v) ∧ good w x cs) len (fun i hi => by
      obtain ⟨cs', h1, h2⟩ := hx i (by omega)
      rw [hn] at h1
      obtain ⟨_, hlen, hcell⟩ := World.cells?_some h1
      obtain ⟨x, hx⟩ := each _ _ _ hlen h2
      refine ⟨x, cs', hlen, fun j v hj => ?_, hx⟩
      have hjn : j < n := by
        have := (List.getElem?_eq_some_iff.1 hj).1
        omega
      have := hcell j hjn
      rw [hj] at this
      exact this)
    refine ⟨L, hL, by omega, fun x hx => ?_, fun k x hk => ?_⟩
    · obtain ⟨i, hi⟩ := List.getElem?_of_mem hx
      obtain ⟨cs, _, _, hg⟩ := hLx i x hi
      exact ⟨cs, hg⟩
    · obtain ⟨cs, h1, h2, h3⟩ := hLx k x hk
      obtain ⟨b, off, spot⟩ := a
      have hk2 : k < len := by
        have := (List.getElem?_eq_some_iff.1 hk).1
        omega
      obtain ⟨v0, hv0⟩ : ∃ v, cs[0]? = some v := ⟨cs[0]'(by omega), List.getElem?_eq_getElem _⟩
      have hc0 := h2 0 v0 hv0
      have hspot : spot = none := by
        obtain ⟨x0, hx0⟩ : ∃ x, L[0]? = some x := ⟨L[0]'(by omega), List.getElem?_eq_getElem _⟩
        obtain ⟨cs0, q1, q2, _⟩ := hLx 0 x0 hx0
        obtain ⟨u0, hu0⟩ : ∃ v, cs0[0]? = some v := ⟨cs0[0]'(by omega), List.getElem?_eq_getElem _⟩
        have := q2 0 u0 hu0
        rw [Nat.zero_mul] at this
        simpa [Addr.add] using World.cell?_spot this
      subst hspot
      refine ⟨b, off, cs, rfl, ?_, h1, fun j v hj => ?_, h3⟩
      · rw [add_offR, add_offR] at hc0
        exact World.block_lt_of_cell? w _ hc0
      · have := h2 j v hj
        rw [add_offR, add_offR] at this
        exact this
end Go.Proofs.YtaajofojbhdgaaaGreatDoor
namespace Go.Proofs.YtaajofojbhdgaaaGreatDoor
open Go.RowKit Go.Deep Go.ChangeShapes Go.WideShapes
end Go.Proofs.YtaajofojbhdgaaaGreatDoor
namespace Go.Proofs.YtaajofojbhdgaaaGreatDoor
open Go.RowKit Go.Deep Go.ChangeShapes Go.WideShapes
def BR (w : World) (A : Option Addr) (L : List Bool) : Prop := ∀ (k : Nat) (x : Bool), L[k]? = some x → ∃ g o, A = some ⟨g, o, none⟩ ∧ g < w.heap.size ∧ w.cell? ⟨g, o + k, none⟩ = some (.bool x)
theorem BR.below {w w' : World} {A : Option Addr} {L : List Bool} (h : BR w A L) (hb : Below w.heap.size w w') : BR w' A L := fun k x hk => by
  obtain ⟨g, o, e, hg, hc⟩ := h k x hk
  exact ⟨g, o, e, Nat.lt_of_lt_of_le hg hb.size, (hb.cell (p := ⟨g, o + k, none⟩) hg).trans hc⟩
def goodB (_ : World) (x : Bool) (cs : List Value) : Prop := cs = [.bool x]
end Go.Proofs.YtaajofojbhdgaaaGreatDoor
namespace Go.Proofs.YtaajofojbhdgaaaGreatDoor
open Go.RowKit Go.Deep Go.ChangeShapes Go.WideShapes
def IR (w : World) (A : Option Addr) (L : List Int) : Prop := ∀ (k : Nat) (x : Int), L[k]? = some x → ∃ g o, A = some ⟨g, o, none⟩ ∧ g < w.heap.size ∧ w.cell? ⟨g, o + k, none⟩ = some (.int .i64 x)
theorem IR.below {w w' : World} {A : Option Addr} {L : List Int} (h : IR w A L) (hb : Below w.heap.size w w') : IR w' A L := fun k x hk => by
  obtain ⟨g, o, e, hg, hc⟩ := h k x hk
  exact ⟨g, o, e, Nat.lt_of_lt_of_le hg hb.size, (hb.cell (p := ⟨g, o + k, none⟩) hg).trans hc⟩
def goodI (_ : World) (x : Int) (cs : List Value) : Prop := cs = [.int .i64 x] ∧ -9223372036854775808 ≤ x ∧ x ≤ 9223372036854775807
end Go.Proofs.YtaajofojbhdgaaaGreatDoor
/- Slices of elements of n cells each, of whatever program: reading one, appending to one of the call's own. -/
namespace Go.Proofs.YtaajofojbhdgaaaGreatDoor
open Go.RowKit Go.Deep
section
variable {α : Type} (enc : α → List Value) (n : Nat)
/-- a slice's address under which the elements L lie -/
def RG (w : World) (A : Option Addr) (L : List α) : Prop :=
  ∀ k x, L[k]? = some x → ∃ g o, A = some ⟨g, o, none⟩ ∧ g < w.heap.size ∧ ∀ j v, (enc x)[j]? = some v → w.cell? ⟨g, o + k * n + j, none⟩ = some v
variable {enc n}
theorem RG.nil (w : World) (A : Option Addr) : RG enc n w A [] := fun k s h => by simp at h
theorem RG.of {w w' : World} {A : Option Addr} {L : List α} (h : RG enc n w A L) (hs : w.heap.size ≤ w'.heap.size) (hc : ∀ a, A = some a → a.block < w.heap.size → w'.heap[a.block]? = w.heap[a.block]?) : RG enc n w' A L := fun k x hk => by
  obtain ⟨g, o, e, hg, h1⟩ := h k x hk
  have hb := hc _ e hg
  exact ⟨g, o, e, by omega, fun j v hj => (World.cell?_of_block (a := ⟨g, o + k * n + j, none⟩) hb).trans (h1 j v hj)⟩
theorem RG.below {w w' : World} {A : Option Addr} {L : List α} (h : RG enc n w A L) (hb : Below w.heap.size w w') : RG enc n w' A L := h.of hb.size fun a _ hl => hb.block a.block hl
theorem RG.gb {w w' : World} {A : Option Addr} {L : List α} {r : Option Nat} (h : RG enc n w A L) (hb : w.grownBy w' r) (hr : ∀ a, A = some a → some a.block ≠ r) : RG enc n w' A L := h.of hb.size fun a e hl => hb.block a.block hl (hr a e)
theorem RG.drew {w w' : World} {A : Option Addr} {L : List α} (h : RG enc n w A L) (hd : Drew w w') : RG enc n w' A L := by
  obtain ⟨n, rfl⟩ := hd
  exact h
theorem RG.take {w : World} {A : Option Addr} {L : List α} (h : RG enc n w A L) (k : Nat) : RG enc n w A (L.take k) := fun j s hj => by
  rw [List.getElem?_take] at hj
  split at hj
  · exact h j s hj
  · cases hj
theorem RG.drop {w : World} {g o : Nat} {L : List α} (h : RG enc n w (some ⟨g, o, none⟩) L) (k : Nat) : RG enc n w (some ⟨g, o + k * n, none⟩) (L.drop k) := fun j s hj => by
  rw [List.getElem?_drop] at hj
  obtain ⟨g', o', e, hg, h1⟩ := h _ s hj
  injection e with e
  injection e with e1 e2
  subst e1 e2
  refine ⟨g, o + k * n, rfl, hg, fun i v hi => ?_⟩
  have := h1 i v hi
  rw [Nat.add_mul] at this
  rw [show o + k * n + j * n + i = o + (k * n + j * n) + i from by omega]
  exact this
def valsG (enc : α → List Value) (L : List α) : List Value := L.flatMap enc
theorem valsG_len (he : ∀ x, (enc x).length = n) (L : List α) : (valsG enc L).length = L.length * n := by
  induction L with
  | nil => simp [valsG]
  | cons x L ih =>
    rw [valsG, List.flatMap_cons, List.length_append, he]
    have : (L.flatMap enc).length = L.length * n := ih
    rw [this, List.length_cons, Nat.add_mul]
    omega
theorem valsG_get (he : ∀ x, (enc x).length = n) : ∀ (L : List α) (k : Nat) (x : α) (j : Nat), L[k]? = some x → j < n → (valsG enc L)[k * n + j]? = (enc x)[j]?
  | [], k, x, j, h, _ => by simp at h
  | y :: L, 0, x, j, h, hj => by
    simp at h
    subst h
    rw [valsG, List.flatMap_cons, Nat.zero_mul, Nat.zero_add, List.getElem?_append_left (by rw [he]; exact hj)]
  | y :: L, k + 1, x, j, h, hj => by
    have ih := valsG_get he L k x j (by simpa using h) hj
    rw [valsG, List.flatMap_cons, List.getElem?_append_right (by rw [he, Nat.add_mul]; omega), he]
    rw [show (k + 1) * n + j - n = k * n + j from by rw [Nat.add_mul]; omega]
    exact ih
theorem valsG_app (L N : List α) : valsG enc (L ++ N) = valsG enc L ++ valsG enc N := by simp [valsG]
/-- a slice of such elements of the call's own -/
def OwnG (enc : α → List Value) (n : Nat) (E : TypeId) (w : World) (base : Nat) (v : Value) (L : List α) : Prop := w.ownsRow base E n v L.length (valsG enc L)
variable {E : TypeId}
theorem OwnG.lt {w : World} {base : Nat} {v : Value} {L : List α} (h : OwnG enc n E w base v L) : ∀ k, v.ownBlock = some k → base ≤ k ∧ k < w.heap.size := World.ownsRow.lt h
theorem OwnG.slice (he : ∀ x, (enc x).length = n) {w : World} {base : Nat} {v : Value} {L : List α} (h : OwnG enc n E w base v L) : ∃ A c, v = .slice A L.length c ∧ L.length ≤ c ∧ RG enc n w A L ∧ (∀ a, A = some a → v.ownBlock = some a.block) ∧ (∀ a, A = some a → ∃ g, a = ⟨g, 0, none⟩) := by
  rcases h.2 with ⟨rfl, hn⟩ | ⟨g, cap, cur, rfl, _, hh, hc, _⟩
  · refine ⟨none, 0, by rw [hn], by omega, fun k s hk => ?_, (fun a e => by cases e), (fun a e => by cases e)⟩
    have := (List.getElem?_eq_some_iff.1 hk).1
    omega
  · refine ⟨_, cap, rfl, hc, fun k x hk => ⟨g, 0, rfl, (h.lt g rfl).2, fun j u hj => ?_⟩, (fun a e => by injection e with e; subst e; rfl), (fun a e => by injection e with e; exact ⟨g, e.symm⟩)⟩
    have hlt := (List.getElem?_eq_some_iff.1 hk).1
    have hjn : j < n := by
      have := (List.getElem?_eq_some_iff.1 hj).1
      rw [he] at this; exact this
    have hkn : k * n + j < L.length * n := by
      have : (k + 1) * n ≤ L.length * n := Nat.mul_le_mul_right n hlt
      rw [Nat.add_mul] at this
      omega
    rw [Nat.zero_add, World.ownsRow.cellAt h (k * n + j) hkn, valsG_get he L k x j hk hjn]
    exact hj
theorem OwnG.nil (w : World) (base : Nat) : OwnG enc n E w base (.slice none 0 0) [] := World.ownsRow_nil _ _ _ _
theorem OwnG.kept {w w' : World} {base : Nat} {v : Value} {L : List α} {r : Option Nat} (h : OwnG enc n E w base v L) (hg : w.grownBy w' r) (hne : v.ownBlock = none ∨ v.ownBlock ≠ r) : OwnG enc n E w' base v L := World.ownsRow.kept h hg hne
theorem OwnG.alloc {w : World} {base : Nat} {v : Value} {L : List α} (h : OwnG enc n E w base v L) (o : Obj) : OwnG enc n E (w.alloc o) base v L := World.ownsRow.alloc h o
theorem OwnG.base {w : World} {base base' : Nat} {v : Value} {L : List α} (h : OwnG enc n E w base v L) (hb : base' ≤ base) : OwnG enc n E w base' v L :=
  ⟨h.1, h.2.imp id fun ⟨g, cap, cur, e, hg, r⟩ => ⟨g, cap, cur, e, by omega, r⟩⟩
/-- what is known of a slice type T whose elements E have n cells -/
structure RowT (P : Program) (T E : TypeId) (n : Nat) where
  z : Value
  bytes : Nat
  und : P.underlying T = some (.slice E)
  info : (P.info? E).map (fun i => (i.zero, i.size, i.bytes)) = some (some z, n, bytes)
  zlen : z.cells.size = n
  pos : 0 < n
  sb : bytes ≤ 1000
/-- append of elements to such a slice, the source nil or not -/
theorem run_appG {P : Program} {T : TypeId} (R : RowT P T E n) (he : ∀ x, (enc x).length = n) (h1c : ∀ x, ∀ u ∈ enc x, u.oneCell' = true) {w : World} {base : Nat} {v : Value} {L N : List α} {A : Option Addr} {c : Nat} (h : OwnG enc n E w base v L) (hn : RG enc n w A N) (hbase : base ≤ w.heap.size) (hl : L.length + N.length ≤ 100000000) :
    ∃ v' w', (Builtin.append_ #[T, T] T #[v, .slice A N.length c]).run P w = .ok v' w' ∧ OwnG enc n E w' base v' (L ++ N) ∧ w.grownBy w' v.ownBlock ∧ (v'.ownBlock = v.ownBlock ∨ v'.ownBlock = some w.heap.size) := by
  obtain ⟨i0, hi, hz0, hz1, hz2⟩ := info_parts R.info
  rcases A with _ | ad
  · have hN : N = [] := by
      cases N with
      | nil => rfl
      | cons s N =>
        obtain ⟨g, o, e, _⟩ := hn 0 s rfl
        cases e
    subst hN
    refine ⟨v, w, ?_, by simpa using h, World.grownBy.refl w _, .inl rfl⟩
    rcases h.2 with ⟨rfl, _⟩ | ⟨g, cap, cur, rfl, _, _, hnc, _⟩
    · simp [Builtin.append_, run_underlying R.und, sizeOf, typeInfo, hi, Builtin.lenOf, Builtin.firstCells]
    · simp [Builtin.append_, run_underlying R.und, sizeOf, typeInfo, hi, Builtin.lenOf, Builtin.firstCells, hnc, storeCells]
  · have hpos := R.pos
    have hcells : ∀ j u, (valsG enc N)[j]? = some u → w.cell? (ad.add j) = some u := fun j u hu => by
      have hj := (List.getElem?_eq_some_iff.1 hu).1
      rw [valsG_len he] at hj
      have hj2 : j / n < N.length := (Nat.div_lt_iff_lt_mul hpos).2 hj
      obtain ⟨g, o, e, _, h1⟩ := hn (j / n) N[j / n] (List.getElem?_eq_getElem hj2)
      have hp := valsG_get he N (j / n) N[j / n] (j % n) (List.getElem?_eq_getElem hj2) (Nat.mod_lt _ hpos)
      injection e with e
      subst e
      have e2 : (Addr.mk g o none).add j = ⟨g, o + j, none⟩ := by
        unfold Addr.add
        split
        · rename_i h0; subst h0; rfl
        · rfl
      have e3 : j / n * n + j % n = j := Nat.div_add_mod' j n
      rw [e2]
      rw [e3, hu] at hp
      have := h1 (j % n) u hp.symm
      rw [Nat.add_assoc, e3] at this
      exact this
    have hbb : (L.length + N.length) * R.bytes ≤ 140737488355328 := by
      have : (L.length + N.length) * R.bytes ≤ 100000000 * 1000 := Nat.mul_le_mul hl R.sb
      omega
    obtain ⟨v', w', hrun, h2, h3, _, h5⟩ := run_append_own_at (P := P) w base T T E i0 _ n R.bytes R.und hi hz0 hz1 hz2 R.zlen hpos v L.length (valsG enc L) h ad N.length c (valsG enc N) (valsG_len he N) hcells
      (fun u hu => by
        simp only [valsG, List.mem_flatMap] at hu
        obtain ⟨s, _, hs⟩ := hu
        exact h1c s u hs) (by simp only [maxLen]; omega) hbb hbase
    refine ⟨v', w', hrun, ?_, h3, h5⟩
    unfold OwnG
    rw [List.length_append, valsG_app]
    exact h2
end
end Go.Proofs.YtaajofojbhdgaaaGreatDoor
/- Rules of a makefile in memory; what is asked of them. -/
namespace Go.Proofs.YtaajofojbhdgaaaGreatDoor
open Go.RowKit
/-- a list of texts, where it lies -/
abbrev SRow := Option Addr × Nat × List ByteArray
def sv (x : SRow) : Value := .slice x.1 x.2.2.length x.2.1
/-- a rule: targets, needs, recipe -/
structure Rl where
  tg : SRow
  nd : SRow
  rc : SRow
def encRl (r : Rl) : List Value := [sv r.tg, sv r.nd, sv r.rc]
structure RlOk (w : World) (r : Rl) : Prop where
  tg : SR w r.tg.1 r.tg.2.2
  nd : SR w r.nd.1 r.nd.2.2
  rc : SR w r.rc.1 r.rc.2.2
  t1 : r.tg.2.2.length ≤ 100000
  n1 : r.nd.2.2.length ≤ 100000
  r1 : r.rc.2.2.length ≤ 100000
theorem RlOk.below {w w' : World} {r : Rl} (h : RlOk w r) (hb : Below w.heap.size w w') : RlOk w' r := ⟨h.tg.below hb, h.nd.below hb, h.rc.below hb, h.t1, h.n1, h.r1⟩
def RLS (w : World) (A : Option Addr) (L : List Rl) : Prop := RG encRl 3 w A L ∧ ∀ r ∈ L, RlOk w r
theorem RLS.below {w w' : World} {A : Option Addr} {L : List Rl} (h : RLS w A L) (hb : Below w.heap.size w w') : RLS w' A L := ⟨h.1.below hb, fun r hr => (h.2 r hr).below hb⟩
/-- whether a target is a pattern's -/
def isP (s : ByteArray) : Bool := decide ((37 : UInt8) ∈ s.data.toList)
def plainR (L : List ByteArray) : Bool := !L.any isP
def ofR (name : ByteArray) (r : Rl) : Bool := plainR r.tg.2.2 && Lib.containsS r.tg.2.2 name
def specialR (L : List Rl) (name : ByteArray) : List ByteArray := L.flatMap fun r => if ofR name r = true then r.nd.2.2 else []
def knownR (L : List Rl) (name : ByteArray) : Bool := L.any (ofR name)
def hasR (L : List Rl) (name target : ByteArray) : Bool := Lib.containsS (specialR L name) target || (decide ((specialR L name).length = 0) && knownR L name)
theorem special_take {L : List Rl} {k : Nat} {r : Rl} (h : L[k]? = some r) (name : ByteArray) : specialR (L.take (k + 1)) name = specialR (L.take k) name ++ if ofR name r = true then r.nd.2.2 else [] := by
  unfold specialR
  rw [List.take_add_one, h]
  simp
end Go.Proofs.YtaajofojbhdgaaaGreatDoor
/- Slices of pairs of texts: reading one, appending to one of the call's own. -/
namespace Go.Proofs.YtaajofojbhdgaaaGreatDoor
open Go.RowKit Go.Deep
abbrev Pr := ByteArray × ByteArray
/-- a slice's address under which the pairs P lie -/
def PR (w : World) (A : Option Addr) (P : List Pr) : Prop :=
  ∀ k x, P[k]? = some x → ∃ g o, A = some ⟨g, o, none⟩ ∧ g < w.heap.size ∧ w.cell? ⟨g, o + k * 2, none⟩ = some (.string x.1) ∧ w.cell? ⟨g, o + k * 2 + 1, none⟩ = some (.string x.2)
theorem PR.nil (w : World) (A : Option Addr) : PR w A [] := fun k s h => by simp at h
theorem PR.of {w w' : World} {A : Option Addr} {P : List Pr} (h : PR w A P) (hs : w.heap.size ≤ w'.heap.size) (hc : ∀ a, A = some a → a.block < w.heap.size → w'.heap[a.block]? = w.heap[a.block]?) : PR w' A P := fun k x hk => by
  obtain ⟨g, o, e, hg, h1, h2⟩ := h k x hk
  have hb := hc _ e hg
  exact ⟨g, o, e, by omega, (World.cell?_of_block (a := ⟨g, o + k * 2, none⟩) hb).trans h1, (World.cell?_of_block (a := ⟨g, o + k * 2 + 1, none⟩) hb).trans h2⟩
theorem PR.below {w w' : World} {A : Option Addr} {P : List Pr} (h : PR w A P) (hb : Below w.heap.size w w') : PR w' A P := h.of hb.size fun a _ hl => hb.block a.block hl
theorem PR.gb {w w' : World} {A : Option Addr} {P : List Pr} {r : Option Nat} (h : PR w A P) (hb : w.grownBy w' r) (hr : ∀ a, A = some a → some a.block ≠ r) : PR w' A P := h.of hb.size fun a e hl => hb.block a.block hl (hr a e)
theorem PR.drew {w w' : World} {A : Option Addr} {P : List Pr} (h : PR w A P) (hd : Drew w w') : PR w' A P := by
  obtain ⟨n, rfl⟩ := hd
  exact h
theorem PR.take {w : World} {A : Option Addr} {P : List Pr} (h : PR w A P) (k : Nat) : PR w A (P.take k) := fun j s hj => by
  rw [List.getElem?_take] at hj
  split at hj
  · exact h j s hj
  · cases hj
theorem PR.drop {w : World} {g o : Nat} {P : List Pr} (h : PR w (some ⟨g, o, none⟩) P) (k : Nat) : PR w (some ⟨g, o + k * 2, none⟩) (P.drop k) := fun j s hj => by
  rw [List.getElem?_drop] at hj
  obtain ⟨g', o', e, hg, h1, h2⟩ := h _ s hj
  injection e with e
  injection e with e1 e2
  subst e1 e2
  exact ⟨g, o + k * 2, rfl, hg, by rw [show o + k * 2 + j * 2 = o + (k + j) * 2 from by omega]; exact h1, by rw [show o + k * 2 + j * 2 + 1 = o + (k + j) * 2 + 1 from by omega]; exact h2⟩
def pairVals (P : List Pr) : List Value := P.flatMap fun x => [.string x.1, .string x.2]
theorem pairVals_get : ∀ (P : List Pr) (k : Nat) (x : Pr), P[k]? = some x → (pairVals P)[k * 2]? = some (.string x.1) ∧ (pairVals P)[k * 2 + 1]? = some (.string x.2)
  | [], k, x, h => by simp at h
  | y :: P, 0, x, h => by
    simp at h
    subst h
    exact ⟨rfl, rfl⟩
  | y :: P, k + 1, x, h => by
    have ih := pairVals_get P k x (by simpa using h)
    rw [show pairVals (y :: P) = .string y.1 :: .string y.2 :: pairVals P from rfl, show (k + 1) * 2 = k * 2 + 1 + 1 from by omega]
    simpa using ih
/-- a slice of pairs of the call's own -/
def OwnP (w : World) (base : Nat) (v : Value) (P : List Pr) : Prop := w.ownsRow base 65 2 v P.length (pairVals P)
theorem OwnP.slice {w : World} {base : Nat} {v : Value} {P : List Pr} (h : OwnP w base v P) : ∃ A c, v = .slice A P.length c ∧ P.length ≤ c ∧ PR w A P ∧ (∀ a, A = some a → v.ownBlock = some a.block) := by
  rcases h.2 with ⟨rfl, hn⟩ | ⟨g, cap, cur, rfl, _, hh, hc, _⟩
  · refine ⟨none, 0, by rw [hn], by omega, fun k s hk => ?_, fun a e => by cases e⟩
    have := (List.getElem?_eq_some_iff.1 hk).1
    omega
  · refine ⟨_, cap, rfl, hc, fun k x hk => ⟨g, 0, rfl, (h.lt g rfl).2, ?_, ?_⟩, fun a e => by injection e with e; subst e; rfl⟩
    · have hlt := (List.getElem?_eq_some_iff.1 hk).1
      rw [Nat.zero_add, World.ownsRow.cellAt h (k * 2) (by omega), (pairVals_get P k x hk).1]
    · have hlt := (List.getElem?_eq_some_iff.1 hk).1
      rw [Nat.zero_add, World.ownsRow.cellAt h (k * 2 + 1) (by omega), (pairVals_get P k x hk).2]
theorem OwnP.nil (w : World) (base : Nat) : OwnP w base (.slice none 0 0) [] := World.ownsRow_nil _ _ _ _
theorem OwnP.kept {w w' : World} {base : Nat} {v : Value} {P : List Pr} {r : Option Nat} (h : OwnP w base v P) (hg : w.grownBy w' r) (hne : v.ownBlock = none ∨ v.ownBlock ≠ r) : OwnP w' base v P := World.ownsRow.kept h hg hne
theorem OwnP.alloc {w : World} {base : Nat} {v : Value} {P : List Pr} (h : OwnP w base v P) (o : Obj) : OwnP (w.alloc o) base v P := World.ownsRow.alloc h o
theorem OwnP.lt {w : World} {base : Nat} {v : Value} {P : List Pr} (h : OwnP w base v P) : ∀ k, v.ownBlock = some k → base ≤ k ∧ k < w.heap.size := World.ownsRow.lt h
theorem OwnP.base {w : World} {base base' : Nat} {v : Value} {P : List Pr} (h : OwnP w base v P) (hb : base' ≤ base) : OwnP w base' v P :=
  ⟨h.1, h.2.imp id fun ⟨g, cap, cur, e, hg, r⟩ => ⟨g, cap, cur, e, by omega, r⟩⟩
end Go.Proofs.YtaajofojbhdgaaaGreatDoor
/- A makefile among a law's arguments, opened: its rules and definitions; no text in it is longer than a bound that the data keep. -/
namespace Go.Proofs.YtaajofojbhdgaaaGreatDoor
open Go.RowKit Go.Deep Go.ChangeShapes Go.WideShapes
set_option linter.unusedVariables false
/-- what data have that are not too great: their parts have it as well, and texts are of at most K bytes -/
structure SmallD (H : Type) (K : Nat) where
  P : TypeId → DataW H → Prop
  elem : ∀ {t e : TypeId} {elems spare : List (DataW H)} {d : DataW H}, Tryz.prog.underlying t = some (.slice e) → P t (.slice elems spare) → d ∈ elems → P e d
  part : ∀ {t : TypeId} {fs : Array Field} {parts : List (DataW H)} {j : Nat} {f : Field} {d : DataW H}, Tryz.prog.underlying t = some (.struct fs) → P t (.agg parts) → fs[j]? = some f → parts[j]? = some d → P f.type d
  str : ∀ {t : TypeId} {b : List UInt8}, P t (.lit (.string b)) → b.length ≤ K
theorem weightsAll_mem {H : Type} {P : Program} {e : TypeId} {n : Nat} {d : DataW H} (hn : n ∈ d.weights P e) : ∀ {l : List (DataW H)}, d ∈ l → n ∈ DataW.weightsAll P e l
  | [], h => by cases h
  | x :: l, h => by
    simp only [DataW.weightsAll, List.mem_append]
    rcases List.mem_cons.1 h with rfl | h
    · exact .inl hn
    · exact .inr (weightsAll_mem hn h)
/-- by the form's own reach -/
def weighD (H : Type) : SmallD H reachBytes where
  P := fun t d => ∀ n ∈ d.weights Tryz.prog t, n ≤ reachBytes
  elem := fun {t e elems spare d} hu h hd n hn => h n (by
    simp only [DataW.weights, hu, List.mem_cons, List.mem_append]
    exact .inr (.inl (weightsAll_mem hn hd)))
  part := fun {t fs parts j f d} hu h hf hd n hn => h n (by
    simp only [DataW.weights, hu]
    exact DataW.weights_mem_each (j := j) (t := f.type) (by rw [List.getElem?_map, Array.getElem?_toList, hf]; rfl) hd n hn)
  str := fun {t b} h => h b.length (by simp [DataW.weights])
theorem weighD_arg {H : Type} {ts : List TypeId} {ds : List (DataW H)} (h : (DataW.weightsEach Tryz.prog ts ds).all (· ≤ reachBytes) = true) {j : Nat} {t : TypeId} {d : DataW H} (ht : ts[j]? = some t) (hd : ds[j]? = some d) : (weighD H).P t d := fun n hn => by
  have := List.all_eq_true.1 h _ (DataW.weights_mem_each ht hd n hn)
  simpa using this
theorem open_rowsD {H α : Type} {enc : TypeId × Value → H} {w : World} {spare : Nat → Bool} {held : Bool} {K : Nat} (S : SmallD H K) {t e : TypeId} {n : Nat} (ht : Tryz.prog.underlying t = some (.slice e)) (hn : Tryz.prog.cellsOf e = n) (h0 : 0 < n) (good : World → α → List Value → Prop)
    (each : ∀ fuel cs y, cs.length = n → S.P e y.1 → DataW.trod enc Tryz.prog w 0 spare held fuel e cs = some y → ∃ x, good w x cs)
    {a0 : Option Addr} {len cap : Nat} {d : DataW H} {ps : List MemPlace} (h : DataW.Trod enc Tryz.prog w 0 spare held t (.slice a0 len cap) d ps) (hS : S.P t d) :
    ∃ L : List α, L.length = len ∧ L.length ≤ maxLen ∧ (∀ x ∈ L, ∃ cs, good w x cs) ∧ RowsAt n good w a0 L := by
  obtain ⟨fuel, hf⟩ := h
  rcases open_slice ht hf with ⟨hcs, hx⟩ | ⟨a, len', cap', m, fl, D, Pl, hcs, _, hl, hm, hmm, hdd, hx⟩
  · simp [Value.cells] at hcs
    obtain ⟨rfl, rfl, rfl⟩ := hcs
    exact ⟨[], rfl, Nat.zero_le _, fun x hx => by simp at hx, fun k x hk => by simp at hk⟩
  · simp [Value.cells] at hcs
    obtain ⟨rfl, rfl, rfl⟩ := hcs
    have hd1 := congrArg Prod.fst hdd
    simp only at hd1
    rw [hd1] at hS
    have hlm : len ≤ m := by rw [hmm]; split <;> omega
    obtain ⟨L, hL, hLx⟩ := choose_list (P := fun i x => ∃ cs, cs.length = n ∧ (∀ j v, cs[j]? = some v → w.cell? ((a.add (i * n)).add j) = some v) ∧ good w x cs) len (fun i hi => by
      obtain ⟨cs', h1, h2⟩ := hx i (by omega)
      rw [hn] at h1
      obtain ⟨_, hlen, hcell⟩ := World.cells?_some h1
      obtain ⟨x, hx⟩ := each _ _ _ hlen (S.elem ht hS (List.mem_map.2 ⟨i, List.mem_range.2 hi, rfl⟩)) h2
      refine ⟨x, cs', hlen, fun j v hj => ?_, hx⟩
      have hjn : j < n := by
        have := (List.getElem?_eq_some_iff.1 hj).1
        omega
      have := hcell j hjn
      rw [hj] at this
      exact this)
    refine ⟨L, hL, by omega, fun x hx => ?_, fun k x hk => ?_⟩
    · obtain ⟨i, hi⟩ := List.getElem?_of_mem hx
      obtain ⟨cs, _, _, hg⟩ := hLx i x hi
      exact ⟨cs, hg⟩
    · obtain ⟨cs, h1, h2, h3⟩ := hLx k x hk
      obtain ⟨b, off, spot⟩ := a
      have hk2 : k < len := by
        have := (List.getElem?_eq_some_iff.1 hk).1
        omega
      obtain ⟨v0, hv0⟩ : ∃ v, cs[0]? = some v := ⟨cs[0]'(by omega), List.getElem?_eq_getElem _⟩
      have hc0 := h2 0 v0 hv0
      have hspot : spot = none := by
        obtain ⟨x0, hx0⟩ : ∃ x, L[0]? = some x := ⟨L[0]'(by omega), List.getElem?_eq_getElem _⟩
        obtain ⟨cs0, q1, q2, _⟩ := hLx 0 x0 hx0
        obtain ⟨u0, hu0⟩ : ∃ v, cs0[0]? = some v := ⟨cs0[0]'(by omega), List.getElem?_eq_getElem _⟩
        have := q2 0 u0 hu0
        rw [Nat.zero_mul] at this
        simpa [Addr.add] using World.cell?_spot this
      subst hspot
      refine ⟨b, off, cs, rfl, ?_, h1, fun j v hj => ?_, h3⟩
      · rw [add_offR, add_offR] at hc0
        exact World.block_lt_of_cell? w _ hc0
      · have := h2 j v hj
        rw [add_offR, add_offR] at this
        exact this
/-- texts that are not too long -/
theorem open_SRD {H : Type} {enc : TypeId × Value → H} {W : World} {K : Nat} (S : SmallD H K) {a0 : Option Addr} {len cap : Nat} {d : DataW H} {ps : List MemPlace} (h : DataW.Trod enc Tryz.prog W 0 (fun _ => true) true 39 (.slice a0 len cap) d ps) (hS : S.P 39 d) :
    ∃ L : List ByteArray, L.length = len ∧ L.length ≤ maxLen ∧ (∀ s ∈ L, s.size ≤ K) ∧ SR W a0 L := by
  obtain ⟨L, h1, h2, h3, h4⟩ := open_rowsD S (n := 1) Tryz.underlying39 (by kernel_rfl) (by omega) (fun _ (s : ByteArray) cs => cs = [.string s] ∧ s.size ≤ K) (fun fuel cs y hlen hP hy => by
    obtain ⟨s, rfl, rfl, _⟩ := DataW.trod_string Tryz.underlying9 hy
    have := S.str hP
    exact ⟨s, rfl, by simpa using this⟩) h hS
  refine ⟨L, h1, h2, fun s hs => by obtain ⟨cs, hg⟩ := h3 s hs; exact hg.2, fun k s hk => ?_⟩
  obtain ⟨g, o, cs, e, hg, _, hc, rfl, _⟩ := h4 k s hk
  refine ⟨g, o, e, hg, ?_⟩
  have := hc 0 _ rfl
  simpa using this
theorem slice_of {H : Type} {enc : TypeId × Value → H} {W : World} {spare : Nat → Bool} {held : Bool} {fuel : Nat} {t e : TypeId} {v : Value} {x : DataW H × List MemPlace} (ht : Tryz.prog.underlying t = some (.slice e)) (h : DataW.trod enc Tryz.prog W 0 spare held fuel t [v] = some x) : ∃ A l c, v = .slice A l c := by
  rcases open_slice ht h with ⟨hcs, _⟩ | ⟨a, len', cap', m, fl, D, Pl, hcs, _⟩
  · exact ⟨_, _, _, (List.cons.inj hcs).1⟩
  · exact ⟨_, _, _, (List.cons.inj hcs).1⟩
/-- one list of texts in a cell -/
theorem open_SVD {H : Type} {enc : TypeId × Value → H} {W : World} {K : Nat} (S : SmallD H K) {fuel : Nat} {v : Value} {y : DataW H × List MemPlace} (h : DataW.trod enc Tryz.prog W 0 (fun _ => true) true fuel 39 [v] = some y) (hS : S.P 39 y.1) :
    ∃ x : SRow, v = sv x ∧ SR W x.1 x.2.2 ∧ x.2.2.length ≤ maxLen ∧ ∀ s ∈ x.2.2, s.size ≤ K := by
  obtain ⟨A, len, c, rfl⟩ := slice_of Tryz.underlying39 h
  obtain ⟨L, rfl, m, s, r⟩ := open_SRD S (show DataW.Trod enc Tryz.prog W 0 (fun _ => true) true 39 (.slice A len c) y.1 y.2 from ⟨fuel, h⟩) hS
  exact ⟨(A, c, L), rfl, r, m, s⟩
/-- a rule as it comes, its texts not too long -/
structure RlIn (K : Nat) (w : World) (r : Rl) : Prop where
  tg : SR w r.tg.1 r.tg.2.2
  nd : SR w r.nd.1 r.nd.2.2
  rc : SR w r.rc.1 r.rc.2.2
  t1 : r.tg.2.2.length ≤ maxLen
  n1 : r.nd.2.2.length ≤ maxLen
  r1 : r.rc.2.2.length ≤ maxLen
  t2 : ∀ s ∈ r.tg.2.2, s.size ≤ K
  n2 : ∀ s ∈ r.nd.2.2, s.size ≤ K
  r2 : ∀ s ∈ r.rc.2.2, s.size ≤ K
theorem RlIn.below {K : Nat} {w w' : World} {r : Rl} (h : RlIn K w r) (hb : Below w.heap.size w w') : RlIn K w' r := ⟨h.tg.below hb, h.nd.below hb, h.rc.below hb, h.t1, h.n1, h.r1, h.t2, h.n2, h.r2⟩
set_option maxRecDepth 100000 in
theorem open_Rl {H : Type} {enc : TypeId × Value → H} {W : World} {K : Nat} (S : SmallD H K) {fuel : Nat} {cs : List Value} {y : DataW H × List MemPlace} (hlen : cs.length = 3) (hP : S.P 63 y.1) (hy : DataW.trod enc Tryz.prog W 0 (fun _ => true) true fuel 63 cs = some y) :
    ∃ r : Rl, cs = encRl r ∧ RlIn K W r := by
  obtain ⟨xs, k, hk, hxy, _, hxl, hf⟩ := DataW.trod_struct Tryz.underlying63 hy
  match xs, hxl, cs, hlen with
  | [y0, y1, y2], _, [v0, v1, v2], _ =>
    have hd := congrArg Prod.fst hxy
    simp only at hd
    rw [hd] at hP
    obtain ⟨a, ea, a1, a2, a3⟩ := open_SVD S (hf 0 _ rfl) (S.part (j := 0) Tryz.underlying63 hP rfl rfl)
    obtain ⟨b, eb, b1, b2, b3⟩ := open_SVD S (hf 1 _ rfl) (S.part (j := 1) Tryz.underlying63 hP rfl rfl)
    obtain ⟨c, ec, c1, c2, c3⟩ := open_SVD S (hf 2 _ rfl) (S.part (j := 2) Tryz.underlying63 hP rfl rfl)
    subst ea eb ec
    exact ⟨⟨a, b, c⟩, rfl, a1, b1, c1, a2, b2, c2, a3, b3, c3⟩
/-- rules as they come -/
def RLI (K : Nat) (w : World) (A : Option Addr) (L : List Rl) : Prop := RG encRl 3 w A L ∧ ∀ r ∈ L, RlIn K w r
theorem RLI.below {K : Nat} {w w' : World} {A : Option Addr} {L : List Rl} (h : RLI K w A L) (hb : Below w.heap.size w w') : RLI K w' A L := ⟨h.1.below hb, fun r hr => (h.2 r hr).below hb⟩
theorem open_RLD {H : Type} {enc : TypeId × Value → H} {W : World} {K : Nat} (S : SmallD H K) {a0 : Option Addr} {len cap : Nat} {d : DataW H} {ps : List MemPlace} (h : DataW.Trod enc Tryz.prog W 0 (fun _ => true) true 23 (.slice a0 len cap) d ps) (hS : S.P 23 d) :
    ∃ L : List Rl, L.length = len ∧ L.length ≤ maxLen ∧ RLI K W a0 L := by
  obtain ⟨L, h1, h2, h3, h4⟩ := open_rowsD S (n := 3) Tryz.underlying23 (by kernel_rfl) (by omega) (fun w (r : Rl) cs => cs = encRl r ∧ RlIn K w r) (fun fuel cs y hlen hP hy => open_Rl S hlen hP hy) h hS
  refine ⟨L, h1, h2, fun k r hk => ?_, fun r hr => by obtain ⟨cs, hg⟩ := h3 r hr; exact hg.2⟩
  obtain ⟨g, o, cs, e, hg, _, hc, rfl, _⟩ := h4 k r hk
  exact ⟨g, o, e, hg, fun j v hj => hc j v hj⟩
set_option maxRecDepth 100000 in
theorem open_PRD {H : Type} {enc : TypeId × Value → H} {W : World} {K : Nat} (S : SmallD H K) {a0 : Option Addr} {len cap : Nat} {d : DataW H} {ps : List MemPlace} (h : DataW.Trod enc Tryz.prog W 0 (fun _ => true) true 22 (.slice a0 len cap) d ps) (hS : S.P 22 d) :
    ∃ L : List Pr, L.length = len ∧ L.length ≤ maxLen ∧ (∀ x ∈ L, x.1.size ≤ K ∧ x.2.size ≤ K) ∧ PR W a0 L := by
  obtain ⟨L, h1, h2, h3, h4⟩ := open_rowsD S (n := 2) Tryz.underlying22 (by kernel_rfl) (by omega) (fun _ (x : Pr) cs => cs = [.string x.1, .string x.2] ∧ x.1.size ≤ K ∧ x.2.size ≤ K) (fun fuel cs y hlen hP hy => by
    obtain ⟨xs, k, hk, hxy, _, hxl, hf⟩ := DataW.trod_struct Tryz.underlying65 hy
    match xs, hxl, cs, hlen with
    | [y0, y1], _, [v0, v1], _ =>
      have hd := congrArg Prod.fst hxy
      simp only at hd
      rw [hd] at hP
      obtain ⟨a, ea, a1, _⟩ := DataW.trod_string Tryz.underlying9 (hf 0 _ rfl)
      obtain ⟨b, eb, b1, _⟩ := DataW.trod_string Tryz.underlying9 (hf 1 _ rfl)
      have e0 : [v0] = [.string a] := ea
      have e1 : [v1] = [.string b] := eb
      obtain rfl : v0 = .string a := List.cons.inj e0 |>.1
      obtain rfl : v1 = .string b := List.cons.inj e1 |>.1
      subst a1 b1
      have p0 := S.str (S.part (j := 0) Tryz.underlying65 hP rfl rfl)
      have p1 := S.str (S.part (j := 1) Tryz.underlying65 hP rfl rfl)
      exact ⟨(a, b), rfl, by simpa using p0, by simpa using p1⟩) h hS
  refine ⟨L, h1, h2, fun s hs => by obtain ⟨cs, hg⟩ := h3 s hs; exact hg.2, fun k x hk => ?_⟩
  obtain ⟨g, o, cs, e, hg, _, hc, rfl, _⟩ := h4 k x hk
  exact ⟨g, o, e, hg, by have := hc 0 _ rfl; simpa using this, hc 1 _ rfl⟩
/-- a makefile as it comes -/
structure MkV where
  ma : Option Addr
  mc : Nat
  ml : List Pr
  ra : Option Addr
  rc : Nat
  rl : List Rl
def MkV.mv (x : MkV) : Value := .slice x.ma x.ml.length x.mc
def MkV.rv (x : MkV) : Value := .slice x.ra x.rl.length x.rc
structure MkIn (K : Nat) (w : World) (x : MkV) : Prop where
  m1 : x.ml.length ≤ maxLen
  r1 : x.rl.length ≤ maxLen
  m2 : ∀ p ∈ x.ml, p.1.size ≤ K ∧ p.2.size ≤ K
  mr : PR w x.ma x.ml
  rr : RLI K w x.ra x.rl
theorem MkIn.below {K : Nat} {w w' : World} {x : MkV} (h : MkIn K w x) (hb : Below w.heap.size w w') : MkIn K w' x := ⟨h.m1, h.r1, h.m2, h.mr.below hb, h.rr.below hb⟩
set_option maxRecDepth 100000 in
theorem open_MK {H : Type} {enc : TypeId × Value → H} {W : World} {K : Nat} (S : SmallD H K) {fuel : Nat} {cs : List Value} {y : DataW H × List MemPlace} (hlen : cs.length = 2) (hP : S.P 25 y.1) (hy : DataW.trod enc Tryz.prog W 0 (fun _ => true) true fuel 25 cs = some y) :
    ∃ x : MkV, cs = [x.mv, x.rv] ∧ MkIn K W x := by
  obtain ⟨xs, k, hk, hxy, _, hxl, hf⟩ := DataW.trod_struct Tryz.underlying25 hy
  match xs, hxl, cs, hlen with
  | [y0, y1], _, [v0, v1], _ =>
    have hd := congrArg Prod.fst hxy
    simp only at hd
    rw [hd] at hP
    have f0 : DataW.trod enc Tryz.prog W 0 (fun _ => true) true k 22 [v0] = some y0 := hf 0 _ rfl
    have f1 : DataW.trod enc Tryz.prog W 0 (fun _ => true) true k 23 [v1] = some y1 := hf 1 _ rfl
    obtain ⟨A, l0, c, rfl⟩ := slice_of Tryz.underlying22 f0
    obtain ⟨B, l1, c1, rfl⟩ := slice_of Tryz.underlying23 f1
    obtain ⟨ML, rfl, m1, m2, mr⟩ := open_PRD S (show DataW.Trod enc Tryz.prog W 0 (fun _ => true) true 22 (.slice A l0 c) y0.1 y0.2 from ⟨k, f0⟩) (S.part (j := 0) Tryz.underlying25 hP rfl rfl)
    obtain ⟨RL, rfl, r1, rr⟩ := open_RLD S (show DataW.Trod enc Tryz.prog W 0 (fun _ => true) true 23 (.slice B l1 c1) y1.1 y1.2 from ⟨k, f1⟩) (S.part (j := 1) Tryz.underlying25 hP rfl rfl)
    exact ⟨⟨A, c, ML, B, c1, RL⟩, rfl, m1, r1, m2, mr, rr⟩
end Go.Proofs.YtaajofojbhdgaaaGreatDoor
/- Walks of slices.IndexFunc and slices.ContainsFunc at texts, for a function that may make memory. -/
namespace Go.Proofs.YtaajofojbhdgaaaGreatDoor
open Go.RowKit Go.Deep
/-- where the first is, and whether there is one -/
def IdxPost (p : ByteArray → Bool) (L : List ByteArray) (w : World) (e : Ending) (w' : World) : Prop := ∃ i : Int, e = .returned (.int .i64 i) ∧ decide (0 ≤ i) = L.any p ∧ Below w.heap.size w w'
set_option maxRecDepth 100000 in
set_option maxHeartbeats 1000000 in
theorem idxf_any (p : ByteArray → Bool) (g : Nat) (lb : Array Value) (eg : ∀ args w, (callFunc g args).run Tryz.prog w = .ok (.enter g args) w) (A : Option Addr) (c : Nat) (L : List ByteArray) (w : World) (hl : L.length ≤ 100000000) (hA : SR w A L)
    (hf : ∀ (W : World) (x : ByteArray), x ∈ L → Below w.heap.size w W → Calls Tryz.prog g (#[.string x] ++ lb) W fun e w' => e = .returned (.bool (p x)) ∧ Below w.heap.size w w') :
    Calls Tryz.prog 85 #[.slice A L.length c, .func (.func g) #[] lb] w (IdxPost p L w) := by
  have HA := hide hA
  have HF := hide hf
  clear hA hf
  obtain ⟨n, hn⟩ : ∃ n, L.length = n := ⟨_, rfl⟩
  have HN := hide hn
  rw [hn] at hl ⊢
  clear hn
  have hn1 : (n : Int) ≤ 100000000 := by omega
  go_enter Tryz.func85, Tryz.ntmps85
  go_wp2
  go_loopw [5, 8] (fun _v5 v8 wr => ∃ k : Nat, v8 = .int .i64 k ∧ k ≤ n ∧ Hid ((L.take k).any p = false) ∧ Below w.heap.size w wr) (fun _ v8 _ => n - (intOf v8).toNat)
  case atStart => exact ⟨0, rfl, by omega, rfl, Below.refl _ _⟩
  case round =>
    obtain ⟨k, rfl, hk, HP, hb⟩ := hrel
    have HB := hide hb
    have HAR := hide (HA.out.below hb)
    clear hb
    by_cases hlt : k < n
    · obtain ⟨x, hx⟩ : ∃ x, L[k]? = some x := ⟨L[k]'(by have := HN.out; omega), List.getElem?_eq_getElem _⟩
      obtain ⟨gs, o, rfl, hg, hc⟩ := HAR.out k x hx
      have hcall := HF.out wr x (List.mem_of_getElem? hx) HB.out
      have b1 : (k : Int) < (n : Int) := by omega
      have HX := hide hx
      clear hx
      obtain ⟨pb, hpb⟩ : ∃ b, p x = b := ⟨_, rfl⟩
      rw [hpb] at hcall
      have HPB := hide hpb
      clear hpb
      have HC := hide hcall
      clear hcall
      go_wp2_with fail
      refine HC.out.mono ?_
      rintro e w' ⟨rfl, hb'⟩
      have HB' := hide hb'
      clear hb'
      cases pb with
      | true =>
        go_wp2
        go_ret
        refine ⟨_, rfl, ?_, HB'.out⟩
        have : L.any p = true := List.any_eq_true.2 ⟨x, List.mem_of_getElem? HX.out, HPB.out⟩
        rw [this]
        simp
      | false =>
        go_wp2
        go_roundw
        case rel =>
          refine ⟨k + 1, by go_num, by omega, ?_, HB'.out⟩
          show (L.take (k + 1)).any p = false
          rw [List.take_add_one, List.any_append, HP.out, HX.out]
          simpa using HPB.out
        case measure => simp [intOf]; omega
    · obtain rfl : k = n := by omega
      have HE := hide (show L.any p = false by
        have := HP.out
        rwa [List.take_of_length_le (by have := HN.out; omega)] at this)
      go_wp2
      go_ret
      exact ⟨_, rfl, by rw [HE.out]; rfl, HB.out⟩
set_option maxRecDepth 100000 in
theorem contf_any (p : ByteArray → Bool) (g : Nat) (lb : Array Value) (eg : ∀ args w, (callFunc g args).run Tryz.prog w = .ok (.enter g args) w) (A : Option Addr) (c : Nat) (L : List ByteArray) (w : World) (hl : L.length ≤ 100000000) (hA : SR w A L)
    (hf : ∀ (W : World) (x : ByteArray), x ∈ L → Below w.heap.size w W → Calls Tryz.prog g (#[.string x] ++ lb) W fun e w' => e = .returned (.bool (p x)) ∧ Below w.heap.size w w') :
    Calls Tryz.prog 46 #[.slice A L.length c, .func (.func g) #[] lb] w fun e w' => e = .returned (.bool (L.any p)) ∧ Below w.heap.size w w' := by
  have HI := hide (idxf_any p g lb eg A c L w hl hA hf)
  clear hA hf
  obtain ⟨n, hn⟩ : ∃ n, L.length = n := ⟨_, rfl⟩
  rw [hn] at HI ⊢
  clear hn hl
  obtain ⟨b, hb⟩ : ∃ b, L.any p = b := ⟨_, rfl⟩
  unfold IdxPost at HI
  rw [hb] at HI ⊢
  clear hb
  go_enter Tryz.func46, Tryz.ntmps46
  go_wp2_with fail
  refine HI.out.mono ?_
  rintro e w' ⟨i, rfl, hi, hb'⟩
  have HI2 := hide hi
  have HB := hide hb'
  clear hi hb'
  go_wp2
  go_ret
  refine ⟨?_, HB.out⟩
  rw [← HI2.out]
  rfl
end Go.Proofs.YtaajofojbhdgaaaGreatDoor
/- Things in memory, each in blocks of its own: what a call on one of them leaves of the others. No program in sight. Things in memory: each has blocks of its own, which may change, and reads blocks that all share and that never change. No program in sight. -/
namespace Go.Proofs.YtaajofojbhdgaaaGreatDoor
open Go.RowKit

/-- blocks outside S are as they were -/
structure Kp (w w' : World) (S : Nat → Prop) : Prop where
  os : w'.os = w.os
  tape : w'.tape = w.tape
  output : w'.output = w.output
  size : w.heap.size ≤ w'.heap.size
  block : ∀ k, k < w.heap.size → ¬ S k → w'.heap[k]? = w.heap[k]?
theorem Kp.below {w w' : World} {S : Nat → Prop} (h : Kp w w' S) {B : Nat} {a : World} (ha : Below B a w) (hB : B ≤ a.heap.size) (hS : ∀ k, S k → B ≤ k) : Below B a w' :=
  ha.trans ⟨h.os, h.tape, h.output, h.size, fun k hk => h.block k (by have := ha.size; omega) (fun c => by have := hS k c; omega)⟩
theorem Kp.refl (w : World) (S : Nat → Prop) : Kp w w S := ⟨rfl, rfl, rfl, Nat.le_refl _, fun _ _ _ => rfl⟩
theorem Kp.of_below {w w' : World} (h : Below w.heap.size w w') (S : Nat → Prop) : Kp w w' S := ⟨h.os, h.tape, h.output, h.size, fun k hk _ => h.block k hk⟩
theorem Kp.mono {w w' : World} {S S' : Nat → Prop} (h : Kp w w' S) (hS : ∀ k, S k → S' k) : Kp w w' S' := ⟨h.os, h.tape, h.output, h.size, fun k hk hn => h.block k hk (fun c => hn (hS k c))⟩
theorem Kp.trans {w w' w'' : World} {S : Nat → Prop} (h : Kp w w' S) (h' : Kp w' w'' (fun k => S k ∨ w.heap.size ≤ k)) : Kp w w'' S :=
  ⟨h'.os.trans h.os, h'.tape.trans h.tape, h'.output.trans h.output, Nat.le_trans h.size h'.size, fun k hk hn => (h'.block k (Nat.lt_of_lt_of_le hk h.size) (fun c => c.elim hn (fun c => absurd hk (Nat.not_lt.2 c)))).trans (h.block k hk hn)⟩
theorem Kp.cell {w w' : World} {S : Nat → Prop} (h : Kp w w' S) {g o : Nat} {v : Value} (hc : w.cell? ⟨g, o, none⟩ = some v) (hS : ¬ S g) : w'.cell? ⟨g, o, none⟩ = some v :=
  (World.cell?_of_block (h.block g (World.block_lt_of_cell? w _ hc) hS)).trans hc
theorem Kp.frozen {w w' : World} {S : Nat → Prop} (h : Kp w w' S) {g o : Nat} (hg : g < w.heap.size) (hf : w.frozen? ⟨g, o, none⟩ = false) (hS : ¬ S g) : w'.frozen? ⟨g, o, none⟩ = false :=
  (World.frozen?_of_block (h.block g hg hS)).trans hf

/-- what holds of some blocks -/
abbrev Asn := (Nat → Prop) → World → Prop
/-- it hangs on those blocks alone -/
def Fr (A : Asn) : Prop := ∀ T w w', A T w → (∀ k, T k → w'.heap[k]? = w.heap[k]?) → w.heap.size ≤ w'.heap.size → A T w'
def starA (A B : Asn) : Asn := fun T w => ∃ T1 T2, A T1 w ∧ B T2 w ∧ (∀ k, T1 k → T k) ∧ (∀ k, T2 k → T k) ∧ ∀ k, T1 k → ¬ T2 k
/-- the blocks behind a call: those, and new ones -/
def Grow (w w' : World) (T T' : Nat → Prop) : Prop := ∀ k, T' k → (T k ∨ w.heap.size ≤ k) ∧ k < w'.heap.size
/-- a call that changes what holds of some blocks, and nothing else -/
def Spec (P : Program) (f : FuncId) (args : Array Value) (A : Asn) (Q : Ending → Asn) : Prop :=
  ∀ T w, A T w → (∀ k, T k → k < w.heap.size) → Calls P f args w fun e w' => ∃ T', Q e T' w' ∧ Grow w w' T T' ∧ Kp w w' T
theorem Spec.left {P : Program} {f : FuncId} {args : Array Value} {A B : Asn} {Q : Ending → Asn} (h : Spec P f args A Q) (hB : Fr B) : Spec P f args (starA A B) (fun e => starA (Q e) B) := by
  rintro T w ⟨T1, T2, a, b, s1, s2, d⟩ hT
  refine (h T1 w a (fun k hk => hT k (s1 k hk))).mono ?_
  rintro e w' ⟨T1', q, g, hk⟩
  refine ⟨fun k => T1' k ∨ T2 k, ⟨T1', T2, q, hB _ _ _ b (fun k h2 => hk.block k (hT k (s2 k h2)) (fun h1 => d k h1 h2)) hk.size, fun k h => .inl h, fun k h => .inr h, fun k h1 h2 => ?_⟩, fun k h1 => ?_, hk.mono s1⟩
  · rcases (g k h1).1 with h | h
    · exact d k h h2
    · have := hT k (s2 k h2); omega
  · rcases h1 with h1 | h2
    · exact ⟨(g k h1).1.imp_left (s1 k), (g k h1).2⟩
    · exact ⟨.inl (s2 k h2), Nat.lt_of_lt_of_le (hT k (s2 k h2)) hk.size⟩
theorem star_comm {A B : Asn} {T : Nat → Prop} {w : World} (h : (starA A B) T w) : (starA B A) T w := by
  obtain ⟨T1, T2, a, b, s1, s2, d⟩ := h
  exact ⟨T2, T1, b, a, s2, s1, fun k h2 h1 => d k h1 h2⟩
theorem Spec.right {P : Program} {f : FuncId} {args : Array Value} {A B : Asn} {Q : Ending → Asn} (h : Spec P f args A Q) (hB : Fr B) : Spec P f args (starA B A) (fun e => starA B (Q e)) := by
  intro T w hh hT
  refine ((h.left hB) T w (star_comm hh) hT).mono ?_
  rintro e w' ⟨T', q, g, hk⟩
  exact ⟨T', star_comm q, g, hk⟩
/-- the same, with the one ending -/
def SpecE (P : Program) (f : FuncId) (args : Array Value) (A : Asn) (e0 : Ending) (A' : Asn) : Prop := Spec P f args A (fun e T w => e = e0 ∧ A' T w)
theorem SpecE.left {P : Program} {f : FuncId} {args : Array Value} {A A' B : Asn} {e0 : Ending} (h : SpecE P f args A e0 A') (hB : Fr B) : SpecE P f args (starA A B) e0 (starA A' B) := by
  intro T w hh hT
  refine ((Spec.left h hB) T w hh hT).mono ?_
  rintro e w' ⟨T', ⟨T1, T2, ⟨q0, q⟩, b, s1, s2, d⟩, g, hk⟩
  exact ⟨T', ⟨q0, T1, T2, q, b, s1, s2, d⟩, g, hk⟩
theorem SpecE.right {P : Program} {f : FuncId} {args : Array Value} {A A' B : Asn} {e0 : Ending} (h : SpecE P f args A e0 A') (hB : Fr B) : SpecE P f args (starA B A) e0 (starA B A') := by
  intro T w hh hT
  refine ((Spec.right h hB) T w hh hT).mono ?_
  rintro e w' ⟨T', ⟨T1, T2, b, ⟨q0, q⟩, s1, s2, d⟩, g, hk⟩
  exact ⟨T', ⟨q0, T1, T2, b, q, s1, s2, d⟩, g, hk⟩
/-- it holds of blocks from B on, and what lay below B is as it was -/
def Inv (A : Asn) (B : Nat) (w0 w : World) : Prop := ∃ T, A T w ∧ (∀ k, T k → B ≤ k ∧ k < w.heap.size) ∧ Below B w0 w
theorem Inv.below {A : Asn} {B : Nat} {w0 w : World} (h : Inv A B w0 w) : Below B w0 w := by
  obtain ⟨T, _, _, h⟩ := h; exact h
theorem Inv.call {P : Program} {f : FuncId} {args : Array Value} {A : Asn} {Q : Ending → Asn} {B : Nat} {w0 w : World} (h : Inv A B w0 w) (hB : B ≤ w0.heap.size) (hs : Spec P f args A Q) : Calls P f args w fun e w' => Inv (Q e) B w0 w' := by
  obtain ⟨T, a, ht, hb⟩ := h
  refine (hs T w a (fun k hk => (ht k hk).2)).mono ?_
  rintro e w' ⟨T', q, g, hk⟩
  refine ⟨T', q, fun k h1 => ⟨?_, (g k h1).2⟩, hk.below hb hB (fun k h1 => (ht k h1).1)⟩
  rcases (g k h1).1 with h | h
  · exact (ht k h).1
  · have := hb.size; omega
theorem Inv.mono {A A' : Asn} {B : Nat} {w0 w : World} (h : Inv A B w0 w) (hm : ∀ T w, A T w → A' T w) : Inv A' B w0 w := by
  obtain ⟨T, a, ht, hb⟩ := h
  exact ⟨T, hm T w a, ht, hb⟩
theorem Inv.fst {A A' : Asn} {B : Nat} {w0 w : World} (h : Inv (starA A A') B w0 w) : Inv A B w0 w := by
  obtain ⟨T, ⟨T1, T2, a, b, s1, s2, d⟩, ht, hb⟩ := h
  exact ⟨T1, a, fun k hk => ht k (s1 k hk), hb⟩
theorem Inv.snd {A A' : Asn} {B : Nat} {w0 w : World} (h : Inv (starA A A') B w0 w) : Inv A' B w0 w := by
  obtain ⟨T, ⟨T1, T2, a, b, s1, s2, d⟩, ht, hb⟩ := h
  exact ⟨T2, b, fun k hk => ht k (s2 k hk), hb⟩
theorem Inv.comm {A A' : Asn} {B : Nat} {w0 w : World} (h : Inv (starA A A') B w0 w) : Inv (starA A' A) B w0 w := h.mono (fun _ _ h => star_comm h)
/-- a call that changes nothing old keeps it -/
theorem Inv.step {A : Asn} {B : Nat} {w0 w w' : World} (h : Inv A B w0 w) (hA : Fr A) (hb : Below w.heap.size w w') (hB : B ≤ w0.heap.size) : Inv A B w0 w' := by
  obtain ⟨T, a, ht, hb0⟩ := h
  refine ⟨T, hA T w w' a (fun k hk => hb.block k (ht k hk).2) hb.size, fun k hk => ⟨(ht k hk).1, Nat.lt_of_lt_of_le (ht k hk).2 hb.size⟩, hb0.trans (hb.mono ?_)⟩
  have := hb0.size; omega
/-- a block that is known whole -/
def Blk (g : Nat) (o : Obj) : Asn := fun T w => T g ∧ w.heap[g]? = some o
theorem Blk.fr (g : Nat) (o : Obj) : Fr (Blk g o) := by
  rintro T w w' ⟨h1, h2⟩ hb _
  exact ⟨h1, (hb g h1).trans h2⟩
theorem heapNew (w : World) (o : Obj) : (w.alloc o).heap[w.heap.size]? = some o := by
  show (w.heap.push o)[w.heap.size]? = some o
  simp
/-- a new block -/
theorem Inv.new {A : Asn} {B : Nat} {w0 w : World} (h : Inv A B w0 w) (hA : Fr A) (o : Obj) (hB : B ≤ w0.heap.size) : Inv (starA A (Blk w.heap.size o)) B w0 (w.alloc o) := by
  obtain ⟨T, a, ht, hb⟩ := h
  have hold : ∀ k, T k → (w.alloc o).heap[k]? = w.heap[k]? := fun k hk => Below.heap_alloc w o k (ht k hk).2
  refine ⟨fun k => T k ∨ k = w.heap.size, ⟨T, fun k => k = w.heap.size, hA T w _ a hold (by simp), ⟨rfl, heapNew _ _⟩, fun k h => .inl h, fun k h => .inr h, ?_⟩, ?_, ?_⟩
  · rintro k hk rfl
    have := (ht _ hk).2
    omega
  · intro k hk
    have := hb.size
    rcases hk with hk | rfl
    · have := ht k hk
      exact ⟨this.1, by simp; omega⟩
    · exact ⟨by omega, by simp⟩
  · exact hb.alloc (by have := hb.size; omega) _
/-- more, in new blocks -/
theorem Inv.add {A N : Asn} {B : Nat} {w0 w w' : World} (h : Inv A B w0 w) (hA : Fr A) (hb : Below w.heap.size w w') (hB : B ≤ w0.heap.size) {T2 : Nat → Prop} (hn : N T2 w') (h2 : ∀ k, T2 k → w.heap.size ≤ k ∧ k < w'.heap.size) : Inv (starA A N) B w0 w' := by
  obtain ⟨T, a, ht, hb0⟩ := h
  have hs0 := hb0.size
  refine ⟨fun k => T k ∨ T2 k, ⟨T, T2, hA T w w' a (fun k hk => hb.block k (ht k hk).2) hb.size, hn, fun k h => .inl h, fun k h => .inr h, fun k h1 h3 => ?_⟩, fun k hk => ?_, hb0.trans (hb.mono (by omega))⟩
  · have := (ht k h1).2
    have := (h2 k h3).1
    omega
  · have := hb.size
    rcases hk with hk | hk
    · have := ht k hk; omega
    · have := h2 k hk; omega
theorem Inv.drew {A : Asn} {B : Nat} {w0 w : World} (h : Inv A B w0 w) (hA : Fr A) (hB : B ≤ w0.heap.size) : Inv A B w0 w.drew := h.step hA (Below.refl _ _).drew hB
theorem Blk.cell {g : Nat} {cs : Array Value} {t : TypeId} {B : Nat} {w0 w : World} (h : Inv (Blk g (.cells cs t)) B w0 w) {j : Nat} {v : Value} (hj : cs[j]? = some v) : w.cell? ⟨g, j, none⟩ = some v := by
  obtain ⟨T, ⟨_, hg⟩, _, _⟩ := h
  simpa [World.cell?, hg] using hj
theorem Inv.start (w : World) : Inv (fun _ _ => True) w.heap.size w w := ⟨fun _ => False, trivial, fun _ h => h.elim, Below.refl _ _⟩
/-- the first block -/
theorem Inv.first (w : World) (o : Obj) : Inv (Blk w.heap.size o) w.heap.size w (w.alloc o) :=
  ⟨fun k => k = w.heap.size, ⟨rfl, heapNew _ _⟩, fun k h => by subst h; exact ⟨Nat.le_refl _, by simp⟩, (Below.refl _ _).alloc (Nat.le_refl _) _⟩
end Go.Proofs.YtaajofojbhdgaaaGreatDoor
namespace Go.Proofs.YtaajofojbhdgaaaGreatDoor
open Go.RowKit

/-- what holds of some blocks (T), given blocks that never change (N) -/
abbrev AsnN := (Nat → Prop) → (Nat → Prop) → World → Prop
/-- it hangs on those blocks alone -/
def FrN (A : AsnN) : Prop := ∀ T N N' w w', A T N w → (∀ k, T k ∨ N k → w'.heap[k]? = w.heap[k]?) → (∀ k, N k → N' k) → w.heap.size ≤ w'.heap.size → A T N' w'
def sep (A B : AsnN) : AsnN := fun T N w => ∃ T1 T2, A T1 N w ∧ B T2 N w ∧ (∀ k, T1 k → T k) ∧ (∀ k, T2 k → T k) ∧ ∀ k, T1 k → ¬ T2 k
theorem FrN.join {A B : AsnN} (hA : FrN A) (hB : FrN B) : FrN (sep A B) := by
  rintro T N N' w w' ⟨T1, T2, a, b, s1, s2, d⟩ hb hn hs
  exact ⟨T1, T2, hA _ _ _ _ _ a (fun k hk => hb k (hk.imp_left (s1 k))) hn hs, hB _ _ _ _ _ b (fun k hk => hb k (hk.imp_left (s2 k))) hn hs, s1, s2, d⟩
/-- the blocks lie in the world, and apart -/
def OkTN (T N : Nat → Prop) (w : World) : Prop := (∀ k, T k → k < w.heap.size ∧ ¬ N k) ∧ ∀ k, N k → k < w.heap.size
/-- the blocks behind a call: those, and new ones -/
def GrowN (w w' : World) (T N T' N' : Nat → Prop) : Prop := (∀ k, T' k → T k ∨ w.heap.size ≤ k) ∧ (∀ k, N k → N' k) ∧ (∀ k, N' k → N k ∨ w.heap.size ≤ k) ∧ OkTN T' N' w'
theorem GrowN.refl {T N : Nat → Prop} {w w' : World} (h : OkTN T N w) (hs : w.heap.size ≤ w'.heap.size) : GrowN w w' T N T N :=
  ⟨fun _ h => .inl h, fun _ h => h, fun _ h => .inl h, fun k hk => ⟨Nat.lt_of_lt_of_le (h.1 k hk).1 hs, (h.1 k hk).2⟩, fun k hk => Nat.lt_of_lt_of_le (h.2 k hk) hs⟩
theorem GrowN.trans {T N T' N' T'' N'' : Nat → Prop} {w w' w'' : World} (h : GrowN w w' T N T' N') (h' : GrowN w' w'' T' N' T'' N'') (hs : w.heap.size ≤ w'.heap.size) : GrowN w w'' T N T'' N'' :=
  ⟨fun k hk => (h'.1 k hk).elim (h.1 k) (fun h => .inr (Nat.le_trans hs h)), fun k hk => h'.2.1 k (h.2.1 k hk), fun k hk => (h'.2.2.1 k hk).elim (h.2.2.1 k) (fun h => .inr (Nat.le_trans hs h)), h'.2.2.2⟩
/-- a step that changes what holds of some blocks, and nothing else -/
def StepN (A A' : AsnN) (w w' : World) : Prop := ∀ T N, A T N w → OkTN T N w → ∃ T' N', A' T' N' w' ∧ GrowN w w' T N T' N' ∧ Kp w w' T
/-- a call that changes what holds of some blocks, and nothing else -/
def SpecN (P : Program) (f : FuncId) (args : Array Value) (A : AsnN) (Q : Ending → AsnN) : Prop :=
  ∀ T N w, A T N w → OkTN T N w → Calls P f args w fun e w' => ∃ T' N', Q e T' N' w' ∧ GrowN w w' T N T' N' ∧ Kp w w' T
theorem SpecN.left {P : Program} {f : FuncId} {args : Array Value} {A B : AsnN} {Q : Ending → AsnN} (h : SpecN P f args A Q) (hB : FrN B) : SpecN P f args (sep A B) (fun e => sep (Q e) B) := by
  rintro T N w ⟨T1, T2, a, b, s1, s2, d⟩ hT
  refine (h T1 N w a ⟨fun k hk => hT.1 k (s1 k hk), hT.2⟩).mono ?_
  rintro e w' ⟨T1', N', q, ⟨g1, g2, g3, g4, g5⟩, hk⟩
  refine ⟨fun k => T1' k ∨ T2 k, N', ⟨T1', T2, q, hB _ _ _ _ _ b (fun k h2 => ?_) g2 hk.size, fun k h => .inl h, fun k h => .inr h, fun k h1 h2 => ?_⟩, ⟨fun k h1 => ?_, g2, g3, fun k h1 => ?_, g5⟩, hk.mono s1⟩
  · rcases h2 with h2 | h2
    · exact hk.block k (hT.1 k (s2 k h2)).1 (fun h1 => d k h1 h2)
    · exact hk.block k (hT.2 k h2) (fun h1 => (hT.1 k (s1 k h1)).2 h2)
  · rcases g1 k h1 with h | h
    · exact d k h h2
    · have := (hT.1 k (s2 k h2)).1; omega
  · rcases h1 with h1 | h2
    · exact (g1 k h1).imp_left (s1 k)
    · exact .inl (s2 k h2)
  · rcases h1 with h1 | h2
    · exact g4 k h1
    · refine ⟨Nat.lt_of_lt_of_le (hT.1 k (s2 k h2)).1 hk.size, fun h => ?_⟩
      rcases g3 k h with h | h
      · exact (hT.1 k (s2 k h2)).2 h
      · have := (hT.1 k (s2 k h2)).1; omega
theorem sep_comm {A B : AsnN} {T N : Nat → Prop} {w : World} (h : (sep A B) T N w) : (sep B A) T N w := by
  obtain ⟨T1, T2, a, b, s1, s2, d⟩ := h
  exact ⟨T2, T1, b, a, s2, s1, fun k h2 h1 => d k h1 h2⟩
theorem SpecN.right {P : Program} {f : FuncId} {args : Array Value} {A B : AsnN} {Q : Ending → AsnN} (h : SpecN P f args A Q) (hB : FrN B) : SpecN P f args (sep B A) (fun e => sep B (Q e)) := by
  intro T N w hh hT
  refine ((h.left hB) T N w (sep_comm hh) hT).mono ?_
  rintro e w' ⟨T', N', q, g, hk⟩
  exact ⟨T', N', sep_comm q, g, hk⟩
theorem SpecN.mono {P : Program} {f : FuncId} {args : Array Value} {A : AsnN} {Q Q' : Ending → AsnN} (h : SpecN P f args A Q) (hQ : ∀ e T N w, Q e T N w → Q' e T N w) : SpecN P f args A Q' := by
  intro T N w hh hT
  refine (h T N w hh hT).mono ?_
  rintro e w' ⟨T', N', q, g, hk⟩
  exact ⟨T', N', hQ _ _ _ _ q, g, hk⟩
/-- what is known without blocks -/
def pureN (p : Prop) (A : AsnN) : AsnN := fun T N w => p ∧ A T N w
theorem sep_mono {A A' B B' : AsnN} (hA : ∀ T N w, A T N w → A' T N w) (hB : ∀ T N w, B T N w → B' T N w) : ∀ T N w, (sep A B) T N w → (sep A' B') T N w := by
  rintro T N w ⟨T1, T2, a, b, s1, s2, d⟩
  exact ⟨T1, T2, hA _ _ _ a, hB _ _ _ b, s1, s2, d⟩
/-- it holds of blocks from B on, and what lay below B is as it was -/
def InvN (A : AsnN) (B : Nat) (w0 w : World) : Prop := ∃ T N, A T N w ∧ OkTN T N w ∧ (∀ k, T k → B ≤ k) ∧ Below B w0 w
theorem InvN.below {A : AsnN} {B : Nat} {w0 w : World} (h : InvN A B w0 w) : Below B w0 w := by
  obtain ⟨T, N, _, _, _, h⟩ := h; exact h
theorem InvN.to {A A' : AsnN} {B : Nat} {w0 w w' : World} (h : InvN A B w0 w) (hB : B ≤ w0.heap.size) (hs : StepN A A' w w') : InvN A' B w0 w' := by
  obtain ⟨T, N, a, ok, ht, hb⟩ := h
  obtain ⟨T', N', q, g, hk⟩ := hs T N a ok
  refine ⟨T', N', q, g.2.2.2, fun k h1 => ?_, hk.below hb hB ht⟩
  rcases g.1 k h1 with h | h
  · exact ht k h
  · have := hb.size; omega
theorem InvN.call {P : Program} {f : FuncId} {args : Array Value} {A : AsnN} {Q : Ending → AsnN} {B : Nat} {w0 w : World} (h : InvN A B w0 w) (hB : B ≤ w0.heap.size) (hs : SpecN P f args A Q) : Calls P f args w fun e w' => InvN (Q e) B w0 w' := by
  obtain ⟨T, N, a, ok, ht, hb⟩ := h
  refine (hs T N w a ok).mono ?_
  rintro e w' ⟨T', N', q, g, hk⟩
  refine ⟨T', N', q, g.2.2.2, fun k h1 => ?_, hk.below hb hB ht⟩
  rcases g.1 k h1 with h | h
  · exact ht k h
  · have := hb.size; omega
theorem InvN.mono {A A' : AsnN} {B : Nat} {w0 w : World} (h : InvN A B w0 w) (hm : ∀ T N w, A T N w → A' T N w) : InvN A' B w0 w := by
  obtain ⟨T, N, a, ok, ht, hb⟩ := h
  exact ⟨T, N, hm _ _ _ a, ok, ht, hb⟩
theorem InvN.fst {A A' : AsnN} {B : Nat} {w0 w : World} (h : InvN (sep A A') B w0 w) : InvN A B w0 w := by
  obtain ⟨T, N, ⟨T1, T2, a, b, s1, s2, d⟩, ok, ht, hb⟩ := h
  exact ⟨T1, N, a, ⟨fun k hk => ok.1 k (s1 k hk), ok.2⟩, fun k hk => ht k (s1 k hk), hb⟩
theorem InvN.snd {A A' : AsnN} {B : Nat} {w0 w : World} (h : InvN (sep A A') B w0 w) : InvN A' B w0 w := by
  obtain ⟨T, N, ⟨T1, T2, a, b, s1, s2, d⟩, ok, ht, hb⟩ := h
  exact ⟨T2, N, b, ⟨fun k hk => ok.1 k (s2 k hk), ok.2⟩, fun k hk => ht k (s2 k hk), hb⟩
theorem InvN.comm {A A' : AsnN} {B : Nat} {w0 w : World} (h : InvN (sep A A') B w0 w) : InvN (sep A' A) B w0 w := h.mono (fun _ _ _ h => sep_comm h)
/-- a step that changes nothing old keeps it -/
theorem InvN.step {A : AsnN} {B : Nat} {w0 w w' : World} (h : InvN A B w0 w) (hA : FrN A) (hb : Below w.heap.size w w') (hB : B ≤ w0.heap.size) : InvN A B w0 w' := by
  obtain ⟨T, N, a, ok, ht, hb0⟩ := h
  refine ⟨T, N, hA T N N w w' a (fun k hk => hb.block k ?_) (fun _ h => h) hb.size, (GrowN.refl ok hb.size).2.2.2, ht, hb0.trans (hb.mono ?_)⟩
  · exact hk.elim (fun h => (ok.1 k h).1) (ok.2 k)
  · have := hb0.size; omega
theorem InvN.drew {A : AsnN} {B : Nat} {w0 w : World} (h : InvN A B w0 w) (hA : FrN A) (hB : B ≤ w0.heap.size) : InvN A B w0 w.drew := h.step hA (Below.refl _ _).drew hB
/-- a block that is known whole -/
def BlkN (g : Nat) (o : Obj) : AsnN := fun T _ w => T g ∧ w.heap[g]? = some o
theorem BlkN.fr (g : Nat) (o : Obj) : FrN (BlkN g o) := by
  rintro T N N' w w' ⟨h1, h2⟩ hb _ _
  exact ⟨h1, (hb g (.inl h1)).trans h2⟩
/-- more, in new blocks -/
theorem InvN.add {A X : AsnN} {B : Nat} {w0 w w' : World} (h : InvN A B w0 w) (hA : FrN A) (hb : Below w.heap.size w w') (hB : B ≤ w0.heap.size) {T2 N2 : Nat → Prop} (hX : FrN X) (hn : X T2 N2 w') (hok : OkTN T2 N2 w') (h2 : ∀ k, T2 k → w.heap.size ≤ k) (h3 : ∀ k, N2 k → w.heap.size ≤ k) : InvN (sep A X) B w0 w' := by
  obtain ⟨T, N, a, ok, ht, hb0⟩ := h
  have hs0 := hb0.size
  have hs1 := hb.size
  refine ⟨fun k => T k ∨ T2 k, fun k => N k ∨ N2 k, ⟨T, T2, hA T N _ w w' a (fun k hk => hb.block k (hk.elim (fun h => (ok.1 k h).1) (ok.2 k))) (fun k h => .inl h) hb.size, hX T2 N2 _ w' w' hn (fun _ _ => rfl) (fun k h => .inr h) (Nat.le_refl _), fun k h => .inl h, fun k h => .inr h, fun k h1 h4 => ?_⟩, ⟨fun k hk => ?_, fun k hk => ?_⟩, fun k hk => ?_, hb0.trans (hb.mono (by omega))⟩
  · have := (ok.1 k h1).1
    have := h2 k h4
    omega
  · rcases hk with hk | hk
    · refine ⟨Nat.lt_of_lt_of_le (ok.1 k hk).1 hb.size, fun h => ?_⟩
      rcases h with h | h
      · exact (ok.1 k hk).2 h
      · have := h3 k h; have := (ok.1 k hk).1; omega
    · refine ⟨(hok.1 k hk).1, fun h => ?_⟩
      rcases h with h | h
      · have := h2 k hk; have := ok.2 k h; omega
      · exact (hok.1 k hk).2 h
  · rcases hk with hk | hk
    · exact Nat.lt_of_lt_of_le (ok.2 k hk) hb.size
    · exact hok.2 k hk
  · rcases hk with hk | hk
    · exact ht k hk
    · have := h2 k hk; omega
theorem InvN.new {A : AsnN} {B : Nat} {w0 w : World} (h : InvN A B w0 w) (hA : FrN A) (o : Obj) (hB : B ≤ w0.heap.size) : InvN (sep A (BlkN w.heap.size o)) B w0 (w.alloc o) :=
  h.add hA ((Below.refl _ _).alloc (Nat.le_refl _) o) hB (T2 := fun k => k = w.heap.size) (N2 := fun _ => False) (BlkN.fr _ _) ⟨rfl, heapNew _ _⟩ ⟨fun k hk => by subst hk; exact ⟨by simp, fun h => h⟩, fun k h => h.elim⟩ (fun k hk => by subst hk; exact Nat.le_refl _) (fun k h => h.elim)
theorem BlkN.cell {g : Nat} {cs : Array Value} {t : TypeId} {B : Nat} {w0 w : World} (h : InvN (BlkN g (.cells cs t)) B w0 w) {j : Nat} {v : Value} (hj : cs[j]? = some v) : w.cell? ⟨g, j, none⟩ = some v := by
  obtain ⟨T, N, ⟨_, hg⟩, _, _⟩ := h
  simpa [World.cell?, hg] using hj
theorem InvN.start (w : World) : InvN (fun _ _ _ => True) w.heap.size w w := ⟨fun _ => False, fun _ => False, trivial, ⟨fun _ h => h.elim, fun _ h => h.elim⟩, fun _ h => h.elim, Below.refl _ _⟩
/-- the first things, in new blocks -/
theorem InvN.first {X : AsnN} {w w' : World} (hb : Below w.heap.size w w') {T2 N2 : Nat → Prop} (hn : X T2 N2 w') (hok : OkTN T2 N2 w') (h2 : ∀ k, T2 k → w.heap.size ≤ k) : InvN X w.heap.size w w' := ⟨T2, N2, hn, hok, h2, hb⟩
end Go.Proofs.YtaajofojbhdgaaaGreatDoor
/- Texts as lists of bytes. -/
namespace Go.Proofs.YtaajofojbhdgaaaGreatDoor
open Go.RowKit

def bs (l : List UInt8) : ByteArray := ⟨l.toArray⟩
theorem bs_list (l : List UInt8) : (bs l).data.toList = l := by simp [bs]
theorem bs_size (l : List UInt8) : (bs l).size = l.length := by simp [bs, ByteArray.size]
theorem bs_app (a b : List UInt8) : bs a ++ bs b = bs (a ++ b) := by
  apply ByteArray.ext
  simp [bs]
theorem bs_of (s : ByteArray) : bs s.data.toList = s := by apply ByteArray.ext; simp [bs]
theorem bs_inj {a b : List UInt8} (h : bs a = bs b) : a = b := by
  have := congrArg (fun s => s.data.toList) h
  simpa [bs_list] using this
theorem bs_toList (l : List UInt8) : (bs l).toList = l := by rw [ByteArray.toList_eq, bs_list]
theorem ext_bs (l : List UInt8) (i j : Nat) : (bs l).extract i j = bs ((l.drop i).take (j - i)) := by
  apply ByteArray.ext
  apply Array.ext'
  rw [Lib.extract_data]
  simp [bs]
theorem data_len (s : ByteArray) : s.data.toList.length = s.size := Array.length_toList
theorem ixb_ge (c : UInt8) : ∀ l : List UInt8, -1 ≤ Lib.indexByte l c
  | [] => by simp [Lib.indexByte]
  | b :: l => by
    have := ixb_ge c l
    rw [Lib.indexByte]
    split
    · omega
    · split <;> omega
theorem ixb_mem (c : UInt8) : ∀ l : List UInt8, 0 ≤ Lib.indexByte l c ↔ c ∈ l
  | [] => by simp [Lib.indexByte]
  | b :: l => by
    have h1 := ixb_mem c l
    have h2 := ixb_ge c l
    rw [Lib.indexByte, List.mem_cons, ← h1]
    by_cases e : b = c
    · subst e; simp
    · have e2 : c ≠ b := fun h => e h.symm
      rw [if_neg (by simpa using e)]
      by_cases e3 : Lib.indexByte l c = -1
      · rw [if_pos (by simpa using e3), e3]; simp [e2]
      · rw [if_neg (by simpa using e3)]
        simp only [e2, false_or]
        omega
end Go.Proofs.YtaajofojbhdgaaaGreatDoor
/-
  DERIVED: THE SHELF's CONTRACTS AT THIS DUMP, IN PLAIN WORDS (tools/lay-plain.mjs out of 'TryzShelf.lean', which tools/lay-shelf.mjs wrote): THE SAME DECLARATIONS UNDER THE SAME NAMES: 'import', 'namespace', 'open', 'def', 'theorem' AND NOTHING ELSE: no command of the shelf's: FOR A HAND-IN. Each laying: the table of numbers ('.._ren') and one theorem, a field a fact of the dump's own or the kernel's comparison; each contract: ONE APPLICATION.
-/
namespace Go.Proofs
open Go.Shelf
def Tryz.lays169_ren : Go.Shelf.Ren := ⟨fun | 169 => 181 | n => n, fun | 70 => 195 | 9 => 9 | 0 => 0 | 72 => 197 | 37 => 66 | 127 => 206 | 3 => 3 | 5 => 5 | n => n, fun | n => n⟩
def Tryz.lays241_ren : Go.Shelf.Ren := ⟨fun | 241 => 190 | 277 => 196 | n => n, fun | 70 => 195 | 3 => 3 | 0 => 0 | 72 => 197 | 37 => 66 | 5 => 5 | n => n, fun | n => n⟩
def Tryz.lays165_ren : Go.Shelf.Ren := ⟨fun | 165 => 179 | 240 => 189 | 241 => 190 | 276 => 195 | 277 => 196 | n => n, fun | 70 => 195 | 3 => 3 | 0 => 0 | 4 => 4 | 9 => 9 | 20 => 20 | 72 => 197 | 37 => 66 | 164 => 212 | 5 => 5 | n => n, fun | n => n⟩
def Tryz.lays156_ren : Go.Shelf.Ren := ⟨fun | 156 => 165 | 165 => 179 | 166 => 180 | 169 => 181 | 240 => 189 | 241 => 190 | 276 => 195 | 277 => 196 | n => n, fun | 31 => 39 | 9 => 9 | 3 => 3 | 4 => 4 | 0 => 0 | 20 => 20 | 72 => 197 | 76 => 201 | 70 => 195 | 37 => 66 | 75 => 200 | 127 => 206 | 164 => 212 | 5 => 5 | 80 => 203 | n => n, fun | n => n⟩
theorem Tryz.lays156 : Go.Proofs.Lays.n156 Tryz.prog Tryz.lays156_ren := {
  mixed := by kernel_rfl
  f156 := Tryz.func165.trans (congrArg some (by kernel_rfl))
  f165 := Tryz.func179.trans (congrArg some (by kernel_rfl))
  f166 := Tryz.func180.trans (congrArg some (by kernel_rfl))
  f169 := Tryz.func181.trans (congrArg some (by kernel_rfl))
  f240 := Tryz.func189.trans (congrArg some (by kernel_rfl))
  f241 := Tryz.func190.trans (congrArg some (by kernel_rfl))
  f276 := Tryz.func195.trans (congrArg some (by kernel_rfl))
  f277 := Tryz.func196.trans (congrArg some (by kernel_rfl))
  t0 := Tryz.underlying0
  a0 := Tryz.isAgg0
  z0 := Tryz.sizeOf0
  v0 := Tryz.zeroValue0
  t3 := Tryz.underlying3
  a3 := Tryz.isAgg3
  z3 := Tryz.sizeOf3
  v3 := Tryz.zeroValue3
  t4 := Tryz.underlying4
  a4 := Tryz.isAgg4
  z4 := Tryz.sizeOf4
  v4 := Tryz.zeroValue4
  t9 := Tryz.underlying9
  a9 := Tryz.isAgg9
  z9 := Tryz.sizeOf9
  v9 := Tryz.zeroValue9
  t20 := Tryz.underlying20
  a20 := Tryz.isAgg20
  z20 := Tryz.sizeOf20
  v20 := Tryz.zeroValue20
  t31 := Tryz.underlying39
  a31 := Tryz.isAgg39
  z31 := Tryz.sizeOf39
  v31 := Tryz.zeroValue39
  t37 := Tryz.underlying66
  a37 := Tryz.isAgg66
  z37 := Tryz.sizeOf66
  v37 := Tryz.zeroValue66
  t70 := Tryz.underlying195
  a70 := Tryz.isAgg195
  z70 := Tryz.sizeOf195
  v70 := Tryz.zeroValue195
  t72 := Tryz.underlying197
  a72 := Tryz.isAgg197
  z72 := Tryz.sizeOf197
  v72 := Tryz.zeroValue197
  t75 := Tryz.underlying200
  a75 := Tryz.isAgg200
  z75 := Tryz.sizeOf200
  v75 := Tryz.zeroValue200
  t76 := Tryz.underlying201
  a76 := Tryz.isAgg201
  z76 := Tryz.sizeOf201
  v76 := Tryz.zeroValue201
  t127 := Tryz.underlying206
  a127 := Tryz.isAgg206
  z127 := Tryz.sizeOf206
  v127 := Tryz.zeroValue206
  t164 := Tryz.underlying212
  a164 := Tryz.isAgg212
  z164 := Tryz.sizeOf212
  v164 := Tryz.zeroValue212 }
theorem Tryz.Builder_Extra_156 : Builder.Extra Tryz.prog Tryz.lays156_ren := {
  sizeBuilder := by kernel_rfl
  liesBuilder := by kernel_rfl
  t5 := Tryz.underlying5
  a5 := Tryz.isAgg5
  z5 := Tryz.sizeOf5
  v5 := Tryz.zeroValue5
  infoByte := by kernel_rfl
  cellsByte := by kernel_rfl
  sizeByte := by kernel_rfl
  neB5 := by decide }
open Go.RowKit in
/-- No element: the empty string; the world is as it was. (Whatever the slice's address and capacity: a nil slice too.) (LAID: no walk: one application.) -/
theorem Tryz.strings_Join_none (a : Option Addr) (c : Nat) (sep : ByteArray) (w : World) :
    Calls Tryz.prog 165 #[.slice a 0 c, .string sep] w fun e w' => e = .returned (.string ⟨#[]⟩) ∧ w' = w := Any.strings_Join_none Tryz.lays156 Tryz.Builder_Extra_156 a c sep w
open Go.RowKit in
/-- strings.Join: "Join concatenates the elements of its first argument to create a single string. The separator string sep is placed between elements in the resulting string.": HOWEVER MANY ELEMENTS. Below the heap's end the world is as it was. (LAID: no walk: one application.) -/
theorem Tryz.strings_Join (bk o c : Nat) (xs : List ByteArray) (sep : ByteArray) (w : World) (hcells : ∀ (j : Nat) x, xs[j]? = some x → w.cell? ⟨bk, o + j, none⟩ = some (.string x)) (hbk : bk < w.heap.size) (hN : xs.length ≤ 140737488355328) (hcap : xs.length ≤ c) (hlen : (Lib.join (xs.map (·.data.toList)) sep.data.toList).length ≤ 140737488355328) :
    Calls Tryz.prog 165 #[.slice (some ⟨bk, o, none⟩) xs.length c, .string sep] w fun e w' => e = .returned (.string ⟨(Lib.join (xs.map (·.data.toList)) sep.data.toList).toArray⟩) ∧ Below w.heap.size w w' := Any.strings_Join Tryz.lays156 Tryz.Builder_Extra_156 bk o c xs sep w hcells hbk hN hcap hlen
def Tryz.lays231_ren : Go.Shelf.Ren := ⟨fun | 231 => 137 | n => n, fun | 9 => 9 | 5 => 5 | 3 => 3 | 4 => 4 | n => n, fun | n => n⟩
def Tryz.lays232_ren : Go.Shelf.Ren := ⟨fun | 232 => 138 | n => n, fun | 9 => 9 | 5 => 5 | 3 => 3 | 4 => 4 | n => n, fun | n => n⟩
def Tryz.lays160_ren : Go.Shelf.Ren := ⟨fun | 160 => 103 | 232 => 138 | 231 => 137 | 227 => 139 | 234 => 141 | 233 => 140 | 236 => 143 | 235 => 142 | 228 => 167 | 271 => 170 | 151 => 169 | 197 => 168 | 120 => 184 | 152 => 183 | 260 => 182 | 137 => 191 | 119 => 192 | 224 => 161 | 225 => 160 | 217 => 159 | 266 => 176 | n => n, fun | 9 => 9 | 4 => 4 | 3 => 3 | 5 => 5 | 117 => 168 | 116 => 167 | 0 => 0 | 124 => 171 | 21 => 21 | 105 => 185 | 46 => 130 | 119 => 207 | 139 => 210 | 138 => 209 | n => n, fun | 3 => 1 | 4 => 2 | n => n⟩
theorem Tryz.lays160 : Go.Proofs.Lays.n160 Tryz.prog Tryz.lays160_ren := {
  mixed := by kernel_rfl
  f119 := Tryz.func192.trans (congrArg some (by kernel_rfl))
  f120 := Tryz.func184.trans (congrArg some (by kernel_rfl))
  f137 := Tryz.func191.trans (congrArg some (by kernel_rfl))
  f151 := Tryz.func169.trans (congrArg some (by kernel_rfl))
  f152 := Tryz.func183.trans (congrArg some (by kernel_rfl))
  f160 := Tryz.func103.trans (congrArg some (by kernel_rfl))
  f197 := Tryz.func168.trans (congrArg some (by kernel_rfl))
  f217 := Tryz.func159.trans (congrArg some (by kernel_rfl))
  f224 := Tryz.func161.trans (congrArg some (by kernel_rfl))
  f225 := Tryz.func160.trans (congrArg some (by kernel_rfl))
  f227 := Tryz.func139.trans (congrArg some (by kernel_rfl))
  f228 := Tryz.func167.trans (congrArg some (by kernel_rfl))
  f231 := Tryz.func137.trans (congrArg some (by kernel_rfl))
  f232 := Tryz.func138.trans (congrArg some (by kernel_rfl))
  f233 := Tryz.func140.trans (congrArg some (by kernel_rfl))
  f234 := Tryz.func141.trans (congrArg some (by kernel_rfl))
  f235 := Tryz.func142.trans (congrArg some (by kernel_rfl))
  f236 := Tryz.func143.trans (congrArg some (by kernel_rfl))
  f260 := Tryz.func182.trans (congrArg some (by kernel_rfl))
  f266 := Tryz.func176.trans (congrArg some (by kernel_rfl))
  f271 := Tryz.func170.trans (congrArg some (by kernel_rfl))
  t0 := Tryz.underlying0
  a0 := Tryz.isAgg0
  z0 := Tryz.sizeOf0
  v0 := Tryz.zeroValue0
  t3 := Tryz.underlying3
  a3 := Tryz.isAgg3
  z3 := Tryz.sizeOf3
  v3 := Tryz.zeroValue3
  t4 := Tryz.underlying4
  a4 := Tryz.isAgg4
  z4 := Tryz.sizeOf4
  v4 := Tryz.zeroValue4
  t5 := Tryz.underlying5
  a5 := Tryz.isAgg5
  z5 := Tryz.sizeOf5
  v5 := Tryz.zeroValue5
  t9 := Tryz.underlying9
  a9 := Tryz.isAgg9
  z9 := Tryz.sizeOf9
  v9 := Tryz.zeroValue9
  t21 := Tryz.underlying21
  a21 := Tryz.isAgg21
  z21 := Tryz.sizeOf21
  v21 := Tryz.zeroValue21
  t46 := Tryz.underlying130
  a46 := Tryz.isAgg130
  z46 := Tryz.sizeOf130
  v46 := Tryz.zeroValue130
  t105 := Tryz.underlying185
  a105 := Tryz.isAgg185
  z105 := Tryz.sizeOf185
  v105 := Tryz.zeroValue185
  t116 := Tryz.underlying167
  a116 := Tryz.isAgg167
  z116 := Tryz.sizeOf167
  t117 := Tryz.underlying168
  a117 := Tryz.isAgg168
  z117 := Tryz.sizeOf168
  v117 := Tryz.zeroValue168
  t119 := Tryz.underlying207
  a119 := Tryz.isAgg207
  z119 := Tryz.sizeOf207
  t124 := Tryz.underlying171
  a124 := Tryz.isAgg171
  z124 := Tryz.sizeOf171
  v124 := Tryz.zeroValue171
  t138 := Tryz.underlying209
  a138 := Tryz.isAgg209
  z138 := Tryz.sizeOf209
  v138 := Tryz.zeroValue209
  t139 := Tryz.underlying210
  a139 := Tryz.isAgg210
  z139 := Tryz.sizeOf210
  v139 := Tryz.zeroValue210
  g3 := by kernel_rfl
  g4 := by kernel_rfl }
def Tryz.lays119_ren : Go.Shelf.Ren := ⟨fun | 119 => 192 | n => n, fun | 21 => 21 | 4 => 4 | n => n, fun | n => n⟩
def Tryz.lays120_ren : Go.Shelf.Ren := ⟨fun | 120 => 184 | n => n, fun | 5 => 5 | 4 => 4 | n => n, fun | n => n⟩
def Tryz.lays128_ren : Go.Shelf.Ren := ⟨fun | 128 => 125 | n => n, fun | 51 => 160 | 3 => 3 | 4 => 4 | 46 => 130 | 5 => 5 | 9 => 9 | n => n, fun | n => n⟩
def Tryz.lays125_ren : Go.Shelf.Ren := ⟨fun | 125 => 84 | 128 => 125 | 129 => 126 | n => n, fun | 46 => 130 | 3 => 3 | 51 => 160 | 53 => 162 | 4 => 4 | 5 => 5 | 9 => 9 | n => n, fun | n => n⟩
def Tryz.lays137_ren : Go.Shelf.Ren := ⟨fun | 137 => 191 | 217 => 159 | 266 => 176 | n => n, fun | 9 => 9 | 5 => 5 | 3 => 3 | n => n, fun | n => n⟩
def Tryz.lays210_ren : Go.Shelf.Ren := ⟨fun | 210 => 186 | 206 => 87 | n => n, fun | 9 => 9 | 4 => 4 | 3 => 3 | n => n, fun | n => n⟩
def Tryz.lays103_ren : Go.Shelf.Ren := ⟨fun | 103 => 173 | 210 => 186 | 206 => 87 | n => n, fun | 9 => 9 | 4 => 4 | 24 => 57 | 3 => 3 | n => n, fun | n => n⟩
theorem Tryz.lays103 : Go.Proofs.Lays.n103 Tryz.prog Tryz.lays103_ren := {
  mixed := by kernel_rfl
  f103 := Tryz.func173.trans (congrArg some (by kernel_rfl))
  f206 := Tryz.func87.trans (congrArg some (by kernel_rfl))
  f210 := Tryz.func186.trans (congrArg some (by kernel_rfl))
  t3 := Tryz.underlying3
  a3 := Tryz.isAgg3
  z3 := Tryz.sizeOf3
  v3 := Tryz.zeroValue3
  t4 := Tryz.underlying4
  a4 := Tryz.isAgg4
  z4 := Tryz.sizeOf4
  v4 := Tryz.zeroValue4
  t9 := Tryz.underlying9
  a9 := Tryz.isAgg9
  z9 := Tryz.sizeOf9
  v9 := Tryz.zeroValue9
  t24 := Tryz.underlying57
  a24 := Tryz.isAgg57
  z24 := Tryz.sizeOf57
  v24 := Tryz.zeroValue57 }
open Go.RowKit in
/-- strings.CutPrefix: "CutPrefix returns s without the provided leading prefix string and reports whether it found the prefix. If s doesn't start with prefix, CutPrefix returns s, false. If prefix is the empty string, CutPrefix returns s, true.": IT RETURNS '(Lib.trimPrefix s p, Lib.hasPrefix s p)'; the world is as it was. (LAID: no walk: one application.) -/
theorem Tryz.strings_CutPrefix (s p : ByteArray) (w : World) :
    Calls Tryz.prog 173 #[.string s, .string p] w fun e w' => e = .returned (.tuple #[.string ⟨(Lib.trimPrefix s.data.toList p.data.toList).toArray⟩, .bool (Lib.hasPrefix s.data.toList p.data.toList)]) ∧ w' = w := Any.strings_CutPrefix Tryz.lays103 s p w
def Tryz.lays129_ren : Go.Shelf.Ren := ⟨fun | 129 => 126 | n => n, fun | 53 => 162 | 3 => 3 | 4 => 4 | 46 => 130 | 5 => 5 | 9 => 9 | n => n, fun | n => n⟩
def Tryz.lays217_ren : Go.Shelf.Ren := ⟨fun | 217 => 159 | 266 => 176 | n => n, fun | 9 => 9 | 5 => 5 | 3 => 3 | n => n, fun | n => n⟩
def Tryz.lays224_ren : Go.Shelf.Ren := ⟨fun | 224 => 161 | n => n, fun | 3 => 3 | n => n, fun | n => n⟩
def Tryz.lays314_ren : Go.Shelf.Ren := ⟨fun | 314 => 177 | n => n, fun | 9 => 9 | 51 => 160 | 3 => 3 | 4 => 4 | 5 => 5 | 46 => 130 | n => n, fun | n => n⟩
def Tryz.lays267_ren : Go.Shelf.Ren := ⟨fun | 267 => 162 | 314 => 177 | n => n, fun | 9 => 9 | 3 => 3 | 146 => 192 | 51 => 160 | 4 => 4 | 5 => 5 | 46 => 130 | n => n, fun | n => n⟩
def Tryz.lays219_ren : Go.Shelf.Ren := ⟨fun | 219 => 127 | 217 => 159 | 225 => 160 | 224 => 161 | 267 => 162 | 266 => 176 | 314 => 177 | n => n, fun | 9 => 9 | 3 => 3 | 4 => 4 | 5 => 5 | 46 => 130 | 146 => 192 | 51 => 160 | n => n, fun | 1 => 0 | n => n⟩
def Tryz.lays143_ren : Go.Shelf.Ren := ⟨fun | 143 => 86 | 219 => 127 | 217 => 159 | 225 => 160 | 224 => 161 | 267 => 162 | 266 => 176 | 314 => 177 | n => n, fun | 9 => 9 | 3 => 3 | 4 => 4 | 5 => 5 | 46 => 130 | 146 => 192 | 51 => 160 | n => n, fun | 1 => 0 | n => n⟩
def Tryz.lays144_ren : Go.Shelf.Ren := ⟨fun | 144 => 48 | 143 => 86 | 219 => 127 | 217 => 159 | 225 => 160 | 224 => 161 | 267 => 162 | 266 => 176 | 314 => 177 | n => n, fun | 9 => 9 | 4 => 4 | 3 => 3 | 5 => 5 | 46 => 130 | 146 => 192 | 51 => 160 | n => n, fun | 1 => 0 | n => n⟩
theorem Tryz.lays144 : Go.Proofs.Lays.n144 Tryz.prog Tryz.lays144_ren := {
  mixed := by kernel_rfl
  f143 := Tryz.func86.trans (congrArg some (by kernel_rfl))
  f144 := Tryz.func48.trans (congrArg some (by kernel_rfl))
  f217 := Tryz.func159.trans (congrArg some (by kernel_rfl))
  f219 := Tryz.func127.trans (congrArg some (by kernel_rfl))
  f224 := Tryz.func161.trans (congrArg some (by kernel_rfl))
  f225 := Tryz.func160.trans (congrArg some (by kernel_rfl))
  f266 := Tryz.func176.trans (congrArg some (by kernel_rfl))
  f267 := Tryz.func162.trans (congrArg some (by kernel_rfl))
  f314 := Tryz.func177.trans (congrArg some (by kernel_rfl))
  t3 := Tryz.underlying3
  a3 := Tryz.isAgg3
  z3 := Tryz.sizeOf3
  v3 := Tryz.zeroValue3
  t4 := Tryz.underlying4
  a4 := Tryz.isAgg4
  z4 := Tryz.sizeOf4
  v4 := Tryz.zeroValue4
  t5 := Tryz.underlying5
  a5 := Tryz.isAgg5
  z5 := Tryz.sizeOf5
  v5 := Tryz.zeroValue5
  t9 := Tryz.underlying9
  a9 := Tryz.isAgg9
  z9 := Tryz.sizeOf9
  v9 := Tryz.zeroValue9
  t46 := Tryz.underlying130
  a46 := Tryz.isAgg130
  z46 := Tryz.sizeOf130
  v46 := Tryz.zeroValue130
  t51 := Tryz.underlying160
  a51 := Tryz.isAgg160
  z51 := Tryz.sizeOf160
  v51 := Tryz.zeroValue160
  t146 := Tryz.underlying192
  a146 := Tryz.isAgg192
  z146 := Tryz.sizeOf192
  v146 := Tryz.zeroValue192
  g1 := by kernel_rfl }
open Go.RowKit Go.Lib in
/-- strings.Contains: "Contains reports whether substr is within s.": AT A substr OF ONE BYTE c: IT RETURNS 'decide (0 ≤ Lib.indexByte s c)'; the world is as it was. (LAID: no walk: one application.) -/
theorem Tryz.strings_Contains_one (s : ByteArray) (c : UInt8) (w : World) :
    Calls Tryz.prog 48 #[.string s, .string ⟨#[c]⟩] w fun e w' => e = .returned (.bool (decide (0 ≤ Lib.indexByte s.data.toList c))) ∧ w' = w := Any.strings_Contains_one Tryz.lays144 s c w
def Tryz.lays220_ren : Go.Shelf.Ren := ⟨fun | 220 => 185 | 219 => 127 | 217 => 159 | 225 => 160 | 224 => 161 | 267 => 162 | 266 => 176 | 314 => 177 | n => n, fun | 9 => 9 | 4 => 4 | 3 => 3 | 5 => 5 | 46 => 130 | 146 => 192 | 51 => 160 | n => n, fun | 1 => 0 | n => n⟩
def Tryz.lays145_ren : Go.Shelf.Ren := ⟨fun | 145 => 171 | 220 => 185 | 219 => 127 | 217 => 159 | 225 => 160 | 224 => 161 | 267 => 162 | 266 => 176 | 314 => 177 | n => n, fun | 9 => 9 | 4 => 4 | 59 => 86 | 3 => 3 | 5 => 5 | 46 => 130 | 146 => 192 | 51 => 160 | n => n, fun | 1 => 0 | n => n⟩
theorem Tryz.lays145 : Go.Proofs.Lays.n145 Tryz.prog Tryz.lays145_ren := {
  mixed := by kernel_rfl
  f145 := Tryz.func171.trans (congrArg some (by kernel_rfl))
  f217 := Tryz.func159.trans (congrArg some (by kernel_rfl))
  f219 := Tryz.func127.trans (congrArg some (by kernel_rfl))
  f220 := Tryz.func185.trans (congrArg some (by kernel_rfl))
  f224 := Tryz.func161.trans (congrArg some (by kernel_rfl))
  f225 := Tryz.func160.trans (congrArg some (by kernel_rfl))
  f266 := Tryz.func176.trans (congrArg some (by kernel_rfl))
  f267 := Tryz.func162.trans (congrArg some (by kernel_rfl))
  f314 := Tryz.func177.trans (congrArg some (by kernel_rfl))
  t3 := Tryz.underlying3
  a3 := Tryz.isAgg3
  z3 := Tryz.sizeOf3
  v3 := Tryz.zeroValue3
  t4 := Tryz.underlying4
  a4 := Tryz.isAgg4
  z4 := Tryz.sizeOf4
  v4 := Tryz.zeroValue4
  t5 := Tryz.underlying5
  a5 := Tryz.isAgg5
  z5 := Tryz.sizeOf5
  v5 := Tryz.zeroValue5
  t9 := Tryz.underlying9
  a9 := Tryz.isAgg9
  z9 := Tryz.sizeOf9
  v9 := Tryz.zeroValue9
  t46 := Tryz.underlying130
  a46 := Tryz.isAgg130
  z46 := Tryz.sizeOf130
  v46 := Tryz.zeroValue130
  t51 := Tryz.underlying160
  a51 := Tryz.isAgg160
  z51 := Tryz.sizeOf160
  v51 := Tryz.zeroValue160
  t59 := Tryz.underlying86
  a59 := Tryz.isAgg86
  z59 := Tryz.sizeOf86
  v59 := Tryz.zeroValue86
  t146 := Tryz.underlying192
  a146 := Tryz.isAgg192
  z146 := Tryz.sizeOf192
  v146 := Tryz.zeroValue192
  g1 := by kernel_rfl }
open Go.RowKit Go.Lib in
/-- strings.Cut: "Cut slices s around the first instance of sep, returning the text before and after sep. The found result reports whether sep appears in s. If sep does not appear in s, cut returns s, "", false.": IT RETURNS 'Lib.cut s sep'; the world is as it was but for the count of draws. (LAID: no walk: one application.) -/
theorem Tryz.strings_Cut (s sep : ByteArray) (m : Int) (w : World) (hs : s.size < 4294967281) (hm : w.cell? ⟨0, 0, none⟩ = some (.int .i64 m)) :
    Calls Tryz.prog 171 #[.string s, .string sep] w fun e w' => e = .returned (.tuple #[.string ⟨(Lib.cut s.data.toList sep.data.toList).1.toArray⟩, .string ⟨(Lib.cut s.data.toList sep.data.toList).2.1.toArray⟩, .bool (Lib.cut s.data.toList sep.data.toList).2.2]) ∧ ∃ n, w' = w.drewN n := Any.strings_Cut Tryz.lays145 s sep m w hs hm
def Tryz.lays138_ren : Go.Shelf.Ren := ⟨fun | 138 => 188 | 195 => 193 | 218 => 194 | 143 => 86 | 219 => 127 | 217 => 159 | 225 => 160 | 224 => 161 | 267 => 162 | 266 => 176 | 314 => 177 | n => n, fun | 9 => 9 | 3 => 3 | 4 => 4 | 5 => 5 | 0 => 0 | 46 => 130 | 146 => 192 | 51 => 160 | n => n, fun | 1 => 0 | n => n⟩
def Tryz.laysM219_ren : Go.Shelf.Ren := ⟨fun | 219 => 127 | 217 => 159 | 225 => 160 | 224 => 161 | 267 => 162 | 266 => 176 | 314 => 177 | n => n, fun | 9 => 9 | 3 => 3 | 4 => 4 | 5 => 5 | 46 => 130 | 146 => 192 | 51 => 160 | n => n, fun | 1 => 0 | n => n⟩
def Tryz.laysM143_ren : Go.Shelf.Ren := ⟨fun | 143 => 86 | 219 => 127 | 217 => 159 | 225 => 160 | 224 => 161 | 267 => 162 | 266 => 176 | 314 => 177 | n => n, fun | 9 => 9 | 3 => 3 | 4 => 4 | 5 => 5 | 46 => 130 | 146 => 192 | 51 => 160 | n => n, fun | 1 => 0 | n => n⟩
def Tryz.laysM144_ren : Go.Shelf.Ren := ⟨fun | 144 => 48 | 143 => 86 | 219 => 127 | 217 => 159 | 225 => 160 | 224 => 161 | 267 => 162 | 266 => 176 | 314 => 177 | n => n, fun | 9 => 9 | 4 => 4 | 3 => 3 | 5 => 5 | 46 => 130 | 146 => 192 | 51 => 160 | n => n, fun | 1 => 0 | n => n⟩
def Tryz.laysM220_ren : Go.Shelf.Ren := ⟨fun | 220 => 185 | 219 => 127 | 217 => 159 | 225 => 160 | 224 => 161 | 267 => 162 | 266 => 176 | 314 => 177 | n => n, fun | 9 => 9 | 4 => 4 | 3 => 3 | 5 => 5 | 46 => 130 | 146 => 192 | 51 => 160 | n => n, fun | 1 => 0 | n => n⟩
def Tryz.laysM145_ren : Go.Shelf.Ren := ⟨fun | 145 => 171 | 220 => 185 | 219 => 127 | 217 => 159 | 225 => 160 | 224 => 161 | 267 => 162 | 266 => 176 | 314 => 177 | n => n, fun | 9 => 9 | 4 => 4 | 59 => 86 | 3 => 3 | 5 => 5 | 46 => 130 | 146 => 192 | 51 => 160 | n => n, fun | 1 => 0 | n => n⟩
def Tryz.laysM138_ren : Go.Shelf.Ren := ⟨fun | 138 => 188 | 195 => 193 | 218 => 194 | 143 => 86 | 219 => 127 | 217 => 159 | 225 => 160 | 224 => 161 | 267 => 162 | 266 => 176 | 314 => 177 | n => n, fun | 9 => 9 | 3 => 3 | 4 => 4 | 5 => 5 | 0 => 0 | 46 => 130 | 146 => 192 | 51 => 160 | n => n, fun | 1 => 0 | n => n⟩
def Tryz.lays190_ren : Go.Shelf.Ren := ⟨fun | 190 => 44 | 125 => 84 | 258 => 83 | 128 => 125 | 129 => 126 | 302 => 116 | 303 => 117 | 304 => 118 | 305 => 119 | 306 => 120 | 307 => 121 | 308 => 122 | 309 => 123 | 310 => 124 | 333 => 153 | 329 => 154 | 330 => 155 | 334 => 156 | 335 => 157 | 336 => 158 | 344 => 175 | n => n, fun | 31 => 39 | 9 => 9 | 3 => 3 | 46 => 130 | 0 => 0 | 51 => 160 | 53 => 162 | 4 => 4 | 183 => 153 | 182 => 152 | 131 => 157 | 5 => 5 | 218 => 176 | 222 => 180 | 228 => 189 | 229 => 190 | n => n, fun | n => n⟩
theorem Tryz.lays190 : Go.Proofs.Lays.n190 Tryz.prog Tryz.lays190_ren := {
  mixed := by kernel_rfl
  f125 := Tryz.func84.trans (congrArg some (by kernel_rfl))
  f128 := Tryz.func125.trans (congrArg some (by kernel_rfl))
  f129 := Tryz.func126.trans (congrArg some (by kernel_rfl))
  f190 := Tryz.func44.trans (congrArg some (by kernel_rfl))
  f258 := Tryz.func83.trans (congrArg some (by kernel_rfl))
  f302 := Tryz.func116.trans (congrArg some (by kernel_rfl))
  f303 := Tryz.func117.trans (congrArg some (by kernel_rfl))
  f304 := Tryz.func118.trans (congrArg some (by kernel_rfl))
  f305 := Tryz.func119.trans (congrArg some (by kernel_rfl))
  f306 := Tryz.func120.trans (congrArg some (by kernel_rfl))
  f307 := Tryz.func121.trans (congrArg some (by kernel_rfl))
  f308 := Tryz.func122.trans (congrArg some (by kernel_rfl))
  f309 := Tryz.func123.trans (congrArg some (by kernel_rfl))
  f310 := Tryz.func124.trans (congrArg some (by kernel_rfl))
  f329 := Tryz.func154.trans (congrArg some (by kernel_rfl))
  f330 := Tryz.func155.trans (congrArg some (by kernel_rfl))
  f333 := Tryz.func153.trans (congrArg some (by kernel_rfl))
  f334 := Tryz.func156.trans (congrArg some (by kernel_rfl))
  f335 := Tryz.func157.trans (congrArg some (by kernel_rfl))
  f336 := Tryz.func158.trans (congrArg some (by kernel_rfl))
  f344 := Tryz.func175.trans (congrArg some (by kernel_rfl))
  t0 := Tryz.underlying0
  a0 := Tryz.isAgg0
  z0 := Tryz.sizeOf0
  v0 := Tryz.zeroValue0
  t3 := Tryz.underlying3
  a3 := Tryz.isAgg3
  z3 := Tryz.sizeOf3
  v3 := Tryz.zeroValue3
  t4 := Tryz.underlying4
  a4 := Tryz.isAgg4
  z4 := Tryz.sizeOf4
  v4 := Tryz.zeroValue4
  t5 := Tryz.underlying5
  a5 := Tryz.isAgg5
  z5 := Tryz.sizeOf5
  v5 := Tryz.zeroValue5
  t9 := Tryz.underlying9
  a9 := Tryz.isAgg9
  z9 := Tryz.sizeOf9
  v9 := Tryz.zeroValue9
  t31 := Tryz.underlying39
  a31 := Tryz.isAgg39
  z31 := Tryz.sizeOf39
  v31 := Tryz.zeroValue39
  t46 := Tryz.underlying130
  a46 := Tryz.isAgg130
  z46 := Tryz.sizeOf130
  v46 := Tryz.zeroValue130
  t51 := Tryz.underlying160
  a51 := Tryz.isAgg160
  z51 := Tryz.sizeOf160
  v51 := Tryz.zeroValue160
  t53 := Tryz.underlying162
  a53 := Tryz.isAgg162
  z53 := Tryz.sizeOf162
  v53 := Tryz.zeroValue162
  t131 := Tryz.underlying157
  a131 := Tryz.isAgg157
  z131 := Tryz.sizeOf157
  v131 := Tryz.zeroValue157
  t182 := Tryz.underlying152
  a182 := Tryz.isAgg152
  z182 := Tryz.sizeOf152
  v182 := Tryz.zeroValue152
  t183 := Tryz.underlying153
  a183 := Tryz.isAgg153
  z183 := Tryz.sizeOf153
  v183 := Tryz.zeroValue153
  t218 := Tryz.underlying176
  a218 := Tryz.isAgg176
  z218 := Tryz.sizeOf176
  v218 := Tryz.zeroValue176
  t222 := Tryz.underlying180
  a222 := Tryz.isAgg180
  z222 := Tryz.sizeOf180
  v222 := Tryz.zeroValue180
  t228 := Tryz.underlying189
  a228 := Tryz.isAgg189
  z228 := Tryz.sizeOf189
  v228 := Tryz.zeroValue189
  t229 := Tryz.underlying190
  a229 := Tryz.isAgg190
  z229 := Tryz.sizeOf190
  v229 := Tryz.zeroValue190 }
open Go.Sort Go.RowKit in
theorem Tryz.slices_Sort_string (blk off cap : Nat) (ss : List (List UInt8)) (w : World) (hH : Holds encStr w blk off ss.toArray) (hblk : blk < w.heap.size) (hsz : ss.length < 4611686018427387904) :
    Calls Tryz.prog 44 #[.slice (some ⟨blk, off, none⟩) ss.length cap] w fun e w' =>
      e = .returned (.tuple #[]) ∧ ∃ n os, w' = grow (putRow encStr (Sort.ahead w n) blk off (ss.mergeSort fun x y => decide (x ≤ y)).toArray) os := Any.slices_Sort_string Tryz.lays190 blk off cap ss w hH hblk hsz
def Tryz.lays206_ren : Go.Shelf.Ren := ⟨fun | 206 => 87 | n => n, fun | 9 => 9 | 4 => 4 | 3 => 3 | n => n, fun | n => n⟩
def Tryz.lays99_ren : Go.Shelf.Ren := ⟨fun | 99 => 49 | 206 => 87 | n => n, fun | 9 => 9 | 4 => 4 | 3 => 3 | n => n, fun | n => n⟩
theorem Tryz.lays99 : Go.Proofs.Lays.n99 Tryz.prog Tryz.lays99_ren := {
  mixed := by kernel_rfl
  f99 := Tryz.func49.trans (congrArg some (by kernel_rfl))
  f206 := Tryz.func87.trans (congrArg some (by kernel_rfl))
  t3 := Tryz.underlying3
  a3 := Tryz.isAgg3
  z3 := Tryz.sizeOf3
  v3 := Tryz.zeroValue3
  t4 := Tryz.underlying4
  a4 := Tryz.isAgg4
  z4 := Tryz.sizeOf4
  v4 := Tryz.zeroValue4
  t9 := Tryz.underlying9
  a9 := Tryz.isAgg9
  z9 := Tryz.sizeOf9
  v9 := Tryz.zeroValue9 }
open Go.RowKit Go.Lib in
/-- strings.HasPrefix: "HasPrefix reports whether the string s begins with prefix.": IT RETURNS 'Lib.hasPrefix s prefix'; the world is as it was. (LAID: no walk: one application.) -/
theorem Tryz.strings_HasPrefix (s p : ByteArray) (w : World) :
    Calls Tryz.prog 49 #[.string s, .string p] w fun e w' => e = .returned (.bool (Lib.hasPrefix s.data.toList p.data.toList)) ∧ w' = w := Any.strings_HasPrefix Tryz.lays99 s p w
def Tryz.lays207_ren : Go.Shelf.Ren := ⟨fun | 207 => 174 | n => n, fun | 9 => 9 | 4 => 4 | 3 => 3 | n => n, fun | n => n⟩
def Tryz.lays100_ren : Go.Shelf.Ren := ⟨fun | 100 => 149 | 207 => 174 | n => n, fun | 9 => 9 | 4 => 4 | 3 => 3 | n => n, fun | n => n⟩
theorem Tryz.lays100 : Go.Proofs.Lays.n100 Tryz.prog Tryz.lays100_ren := {
  mixed := by kernel_rfl
  f100 := Tryz.func149.trans (congrArg some (by kernel_rfl))
  f207 := Tryz.func174.trans (congrArg some (by kernel_rfl))
  t3 := Tryz.underlying3
  a3 := Tryz.isAgg3
  z3 := Tryz.sizeOf3
  v3 := Tryz.zeroValue3
  t4 := Tryz.underlying4
  a4 := Tryz.isAgg4
  z4 := Tryz.sizeOf4
  v4 := Tryz.zeroValue4
  t9 := Tryz.underlying9
  a9 := Tryz.isAgg9
  z9 := Tryz.sizeOf9
  v9 := Tryz.zeroValue9 }
open Go.RowKit Go.Lib in
/-- strings.HasSuffix: "HasSuffix reports whether the string s ends with suffix.": IT RETURNS 'Lib.hasSuffix s suffix'; the world is as it was. ('hs': no Go string is longer: a caller has it of every string that it was handed.) (LAID: no walk: one application.) -/
theorem Tryz.strings_HasSuffix (s p : ByteArray) (w : World) (hs : s.size ≤ 9223372036854775807) :
    Calls Tryz.prog 149 #[.string s, .string p] w fun e w' => e = .returned (.bool (Lib.hasSuffix s.data.toList p.data.toList)) ∧ w' = w := Any.strings_HasSuffix Tryz.lays100 s p w hs
def Tryz.lays209_ren : Go.Shelf.Ren := ⟨fun | 209 => 163 | 207 => 174 | n => n, fun | 9 => 9 | 4 => 4 | 3 => 3 | n => n, fun | n => n⟩
def Tryz.lays102_ren : Go.Shelf.Ren := ⟨fun | 102 => 128 | 209 => 163 | 207 => 174 | n => n, fun | 9 => 9 | 4 => 4 | 3 => 3 | n => n, fun | n => n⟩
theorem Tryz.lays102 : Go.Proofs.Lays.n102 Tryz.prog Tryz.lays102_ren := {
  mixed := by kernel_rfl
  f102 := Tryz.func128.trans (congrArg some (by kernel_rfl))
  f207 := Tryz.func174.trans (congrArg some (by kernel_rfl))
  f209 := Tryz.func163.trans (congrArg some (by kernel_rfl))
  t3 := Tryz.underlying3
  a3 := Tryz.isAgg3
  z3 := Tryz.sizeOf3
  v3 := Tryz.zeroValue3
  t4 := Tryz.underlying4
  a4 := Tryz.isAgg4
  z4 := Tryz.sizeOf4
  v4 := Tryz.zeroValue4
  t9 := Tryz.underlying9
  a9 := Tryz.isAgg9
  z9 := Tryz.sizeOf9
  v9 := Tryz.zeroValue9 }
open Go.RowKit Go.Lib in
/-- strings.TrimSuffix: "TrimSuffix returns s without the provided trailing suffix string. If s doesn't end with suffix, s is returned unchanged.": IT RETURNS 'Lib.trimSuffix s suffix'; the world is as it was. (LAID: no walk: one application.) -/
theorem Tryz.strings_TrimSuffix (s p : ByteArray) (w : World) (hs : s.size ≤ 9223372036854775807) :
    Calls Tryz.prog 128 #[.string s, .string p] w fun e w' => e = .returned (.string ⟨(Lib.trimSuffix s.data.toList p.data.toList).toArray⟩) ∧ w' = w := Any.strings_TrimSuffix Tryz.lays102 s p w hs
def Tryz.lays221_ren : Go.Shelf.Ren := ⟨fun | 221 => 178 | 268 => 187 | 138 => 188 | 143 => 86 | 195 => 193 | 197 => 168 | 218 => 194 | 219 => 127 | 260 => 182 | 217 => 159 | 225 => 160 | 224 => 161 | 267 => 162 | 266 => 176 | 314 => 177 | n => n, fun | 9 => 9 | 3 => 3 | 31 => 39 | 4 => 4 | 0 => 0 | 105 => 185 | 21 => 21 | 5 => 5 | 46 => 130 | 119 => 207 | 139 => 210 | 138 => 209 | 146 => 192 | 51 => 160 | n => n, fun | 1 => 0 | 3 => 1 | 4 => 2 | n => n⟩
def Tryz.lays146_ren : Go.Shelf.Ren := ⟨fun | 146 => 164 | 221 => 178 | 268 => 187 | 138 => 188 | 143 => 86 | 195 => 193 | 197 => 168 | 218 => 194 | 219 => 127 | 260 => 182 | 217 => 159 | 225 => 160 | 224 => 161 | 267 => 162 | 266 => 176 | 314 => 177 | n => n, fun | 9 => 9 | 31 => 39 | 3 => 3 | 4 => 4 | 0 => 0 | 105 => 185 | 21 => 21 | 5 => 5 | 46 => 130 | 119 => 207 | 139 => 210 | 138 => 209 | 146 => 192 | 51 => 160 | n => n, fun | 1 => 0 | 3 => 1 | 4 => 2 | n => n⟩
theorem Tryz.lays146 : Go.Proofs.Lays.n146 Tryz.prog Tryz.lays146_ren := {
  mixed := by kernel_rfl
  f138 := Tryz.func188.trans (congrArg some (by kernel_rfl))
  f143 := Tryz.func86.trans (congrArg some (by kernel_rfl))
  f146 := Tryz.func164.trans (congrArg some (by kernel_rfl))
  f195 := Tryz.func193.trans (congrArg some (by kernel_rfl))
  f197 := Tryz.func168.trans (congrArg some (by kernel_rfl))
  f217 := Tryz.func159.trans (congrArg some (by kernel_rfl))
  f218 := Tryz.func194.trans (congrArg some (by kernel_rfl))
  f219 := Tryz.func127.trans (congrArg some (by kernel_rfl))
  f221 := Tryz.func178.trans (congrArg some (by kernel_rfl))
  f224 := Tryz.func161.trans (congrArg some (by kernel_rfl))
  f225 := Tryz.func160.trans (congrArg some (by kernel_rfl))
  f260 := Tryz.func182.trans (congrArg some (by kernel_rfl))
  f266 := Tryz.func176.trans (congrArg some (by kernel_rfl))
  f267 := Tryz.func162.trans (congrArg some (by kernel_rfl))
  f268 := Tryz.func187.trans (congrArg some (by kernel_rfl))
  f314 := Tryz.func177.trans (congrArg some (by kernel_rfl))
  t0 := Tryz.underlying0
  a0 := Tryz.isAgg0
  z0 := Tryz.sizeOf0
  v0 := Tryz.zeroValue0
  t3 := Tryz.underlying3
  a3 := Tryz.isAgg3
  z3 := Tryz.sizeOf3
  v3 := Tryz.zeroValue3
  t4 := Tryz.underlying4
  a4 := Tryz.isAgg4
  z4 := Tryz.sizeOf4
  v4 := Tryz.zeroValue4
  t5 := Tryz.underlying5
  a5 := Tryz.isAgg5
  z5 := Tryz.sizeOf5
  v5 := Tryz.zeroValue5
  t9 := Tryz.underlying9
  a9 := Tryz.isAgg9
  z9 := Tryz.sizeOf9
  v9 := Tryz.zeroValue9
  t21 := Tryz.underlying21
  a21 := Tryz.isAgg21
  z21 := Tryz.sizeOf21
  v21 := Tryz.zeroValue21
  t31 := Tryz.underlying39
  a31 := Tryz.isAgg39
  z31 := Tryz.sizeOf39
  v31 := Tryz.zeroValue39
  t46 := Tryz.underlying130
  a46 := Tryz.isAgg130
  z46 := Tryz.sizeOf130
  v46 := Tryz.zeroValue130
  t51 := Tryz.underlying160
  a51 := Tryz.isAgg160
  z51 := Tryz.sizeOf160
  v51 := Tryz.zeroValue160
  t105 := Tryz.underlying185
  a105 := Tryz.isAgg185
  z105 := Tryz.sizeOf185
  v105 := Tryz.zeroValue185
  t119 := Tryz.underlying207
  a119 := Tryz.isAgg207
  z119 := Tryz.sizeOf207
  t138 := Tryz.underlying209
  a138 := Tryz.isAgg209
  z138 := Tryz.sizeOf209
  v138 := Tryz.zeroValue209
  t139 := Tryz.underlying210
  a139 := Tryz.isAgg210
  z139 := Tryz.sizeOf210
  v139 := Tryz.zeroValue210
  t146 := Tryz.underlying192
  a146 := Tryz.isAgg192
  z146 := Tryz.sizeOf192
  v146 := Tryz.zeroValue192
  g1 := by kernel_rfl
  g3 := by kernel_rfl
  g4 := by kernel_rfl }
open Go.RowKit Go.Lib in
/-- strings.Split. (LAID: no walk: one application.) -/
theorem Tryz.strings_Split (s sep : ByteArray) (m : Int) (w : World) (hs : s.size < 4294967281) (hm : w.cell? ⟨0, 0, none⟩ = some (.int .i64 m)) (h1 : 1 ≤ sep.size) :
    Calls Tryz.prog 164 #[.string s, .string sep] w fun e w' =>
      e = .returned (.slice (some ⟨w.heap.size, 0, none⟩) (Lib.countB s sep + 1) (Lib.countB s sep + 1)) ∧ w' = w.alloc (.cells ((Lib.splitB sep 0 (Lib.countB s sep) s).map Value.string).toArray 9) := Any.strings_Split Tryz.lays146 (by kernel_rfl) s sep m w hs hm h1
def Tryz.laysM146_ren : Go.Shelf.Ren := ⟨fun | 146 => 164 | 221 => 178 | 268 => 187 | 138 => 188 | 143 => 86 | 195 => 193 | 197 => 168 | 218 => 194 | 219 => 127 | 260 => 182 | 217 => 159 | 225 => 160 | 224 => 161 | 267 => 162 | 266 => 176 | 314 => 177 | n => n, fun | 9 => 9 | 31 => 39 | 3 => 3 | 4 => 4 | 0 => 0 | 105 => 185 | 21 => 21 | 5 => 5 | 46 => 130 | 119 => 207 | 139 => 210 | 138 => 209 | 146 => 192 | 51 => 160 | n => n, fun | 1 => 0 | 3 => 1 | 4 => 2 | n => n⟩
theorem Tryz.laysM146 : Go.Proofs.LaysM.n146 Tryz.prog Tryz.laysM146_ren := {
  mixed := by kernel_rfl
  f138 := Tryz.func188.trans (congrArg some (by kernel_rfl))
  f143 := Tryz.func86.trans (congrArg some (by kernel_rfl))
  f146 := Tryz.func164.trans (congrArg some (by kernel_rfl))
  f195 := Tryz.func193.trans (congrArg some (by kernel_rfl))
  f197 := Tryz.func168.trans (congrArg some (by kernel_rfl))
  f217 := Tryz.func159.trans (congrArg some (by kernel_rfl))
  f218 := Tryz.func194.trans (congrArg some (by kernel_rfl))
  f219 := Tryz.func127.trans (congrArg some (by kernel_rfl))
  f221 := Tryz.func178.trans (congrArg some (by kernel_rfl))
  f224 := Tryz.func161.trans (congrArg some (by kernel_rfl))
  f225 := Tryz.func160.trans (congrArg some (by kernel_rfl))
  f260 := Tryz.func182.trans (congrArg some (by kernel_rfl))
  f266 := Tryz.func176.trans (congrArg some (by kernel_rfl))
  f267 := Tryz.func162.trans (congrArg some (by kernel_rfl))
  f268 := Tryz.func187.trans (congrArg some (by kernel_rfl))
  f314 := Tryz.func177.trans (congrArg some (by kernel_rfl))
  t0 := Tryz.underlying0
  a0 := Tryz.isAgg0
  z0 := Tryz.sizeOf0
  v0 := Tryz.zeroValue0
  t3 := Tryz.underlying3
  a3 := Tryz.isAgg3
  z3 := Tryz.sizeOf3
  v3 := Tryz.zeroValue3
  t4 := Tryz.underlying4
  a4 := Tryz.isAgg4
  z4 := Tryz.sizeOf4
  v4 := Tryz.zeroValue4
  t5 := Tryz.underlying5
  a5 := Tryz.isAgg5
  z5 := Tryz.sizeOf5
  v5 := Tryz.zeroValue5
  t9 := Tryz.underlying9
  a9 := Tryz.isAgg9
  z9 := Tryz.sizeOf9
  v9 := Tryz.zeroValue9
  t21 := Tryz.underlying21
  a21 := Tryz.isAgg21
  z21 := Tryz.sizeOf21
  v21 := Tryz.zeroValue21
  t31 := Tryz.underlying39
  a31 := Tryz.isAgg39
  z31 := Tryz.sizeOf39
  v31 := Tryz.zeroValue39
  t46 := Tryz.underlying130
  a46 := Tryz.isAgg130
  z46 := Tryz.sizeOf130
  v46 := Tryz.zeroValue130
  t51 := Tryz.underlying160
  a51 := Tryz.isAgg160
  z51 := Tryz.sizeOf160
  v51 := Tryz.zeroValue160
  t105 := Tryz.underlying185
  a105 := Tryz.isAgg185
  z105 := Tryz.sizeOf185
  v105 := Tryz.zeroValue185
  t119 := Tryz.underlying207
  a119 := Tryz.isAgg207
  z119 := Tryz.sizeOf207
  t138 := Tryz.underlying209
  a138 := Tryz.isAgg209
  z138 := Tryz.sizeOf209
  v138 := Tryz.zeroValue209
  t139 := Tryz.underlying210
  a139 := Tryz.isAgg210
  z139 := Tryz.sizeOf210
  v139 := Tryz.zeroValue210
  t146 := Tryz.underlying192
  a146 := Tryz.isAgg192
  z146 := Tryz.sizeOf192
  v146 := Tryz.zeroValue192
  g1 := by kernel_rfl
  g3 := by kernel_rfl
  g4 := by kernel_rfl
  i0 := by kernel_rfl
  i3 := by kernel_rfl
  i4 := by kernel_rfl
  i5 := by kernel_rfl
  i9 := by kernel_rfl
  i21 := by kernel_rfl
  i31 := by kernel_rfl
  i46 := by kernel_rfl
  i51 := by kernel_rfl
  i105 := by kernel_rfl
  i138 := by kernel_rfl
  i139 := by kernel_rfl
  i146 := by kernel_rfl
  m1 := by kernel_rfl
  s1_3 := fun w h => Go.Proofs.cell_of_shapedOpen_int (zero := #[.int .i64 0]) (t := 3) h (of_decide_eq_true (by kernel_rfl)) (by kernel_rfl) rfl (by kernel_rfl) (by kernel_rfl) Tryz.underlying3
  m3 := by kernel_rfl
  m4 := by kernel_rfl }
def Tryz.lays152_ren : Go.Shelf.Ren := ⟨fun | 152 => 183 | 137 => 191 | 119 => 192 | 224 => 161 | 225 => 160 | 217 => 159 | 266 => 176 | n => n, fun | 9 => 9 | 21 => 21 | 3 => 3 | 4 => 4 | 5 => 5 | 0 => 0 | 46 => 130 | n => n, fun | n => n⟩
def Tryz.lays151_ren : Go.Shelf.Ren := ⟨fun | 151 => 169 | 152 => 183 | 137 => 191 | 119 => 192 | 224 => 161 | 225 => 160 | 217 => 159 | 266 => 176 | n => n, fun | 9 => 9 | 21 => 21 | 4 => 4 | 3 => 3 | 5 => 5 | 0 => 0 | 46 => 130 | n => n, fun | n => n⟩
def Tryz.lays227_ren : Go.Shelf.Ren := ⟨fun | 227 => 139 | n => n, fun | 9 => 9 | 116 => 167 | 4 => 4 | 0 => 0 | 3 => 3 | 5 => 5 | n => n, fun | n => n⟩
def Tryz.lays228_ren : Go.Shelf.Ren := ⟨fun | 228 => 167 | n => n, fun | 124 => 171 | 5 => 5 | 4 => 4 | 0 => 0 | 116 => 167 | n => n, fun | n => n⟩
def Tryz.lays260_ren : Go.Shelf.Ren := ⟨fun | 260 => 182 | n => n, fun | 9 => 9 | 21 => 21 | 3 => 3 | 4 => 4 | 5 => 5 | 119 => 207 | 0 => 0 | 46 => 130 | 139 => 210 | 138 => 209 | n => n, fun | 3 => 1 | 4 => 2 | n => n⟩
def Tryz.lays109_ren : Go.Shelf.Ren := ⟨fun | 109 => 105 | n => n, fun | 31 => 39 | 9 => 9 | 3 => 3 | 0 => 0 | 4 => 4 | n => n, fun | n => n⟩
def Tryz.lays110_ren : Go.Shelf.Ren := ⟨fun | 110 => 65 | 109 => 105 | n => n, fun | 31 => 39 | 9 => 9 | 4 => 4 | 3 => 3 | 0 => 0 | n => n, fun | n => n⟩
theorem Tryz.lays110 : Go.Proofs.Lays.n110 Tryz.prog Tryz.lays110_ren := {
  mixed := by kernel_rfl
  f109 := Tryz.func105.trans (congrArg some (by kernel_rfl))
  f110 := Tryz.func65.trans (congrArg some (by kernel_rfl))
  t0 := Tryz.underlying0
  a0 := Tryz.isAgg0
  z0 := Tryz.sizeOf0
  v0 := Tryz.zeroValue0
  t3 := Tryz.underlying3
  a3 := Tryz.isAgg3
  z3 := Tryz.sizeOf3
  v3 := Tryz.zeroValue3
  t4 := Tryz.underlying4
  a4 := Tryz.isAgg4
  z4 := Tryz.sizeOf4
  v4 := Tryz.zeroValue4
  t9 := Tryz.underlying9
  a9 := Tryz.isAgg9
  z9 := Tryz.sizeOf9
  v9 := Tryz.zeroValue9
  t31 := Tryz.underlying39
  a31 := Tryz.isAgg39
  z31 := Tryz.sizeOf39
  v31 := Tryz.zeroValue39 }
open Go.Lib in
/-- slices.Contains at []string: "Contains reports whether v is present in s.": IT RETURNS 'Lib.containsS (the elements) v', which is true just where v is among them ('Lib.containsS_iff'); the world is as it was. ITS CALLEE slices.Index IS MET BY ITS OWN CONTRACT OFF THE SHELF (lay that first): no loop is walked here. (LAID: no walk: one application.) -/
theorem Tryz.slices_Contains_string (b off n c : Nat) (zs : List ByteArray) (x : ByteArray) (w : World) (hz : n ≤ zs.length) (hbig : n ≤ 9223372036854775807) (hc : ∀ j, j < zs.length → w.cell? ⟨b, off + j, none⟩ = some (.string (zs.getD j ByteArray.empty))) :
    Calls Tryz.prog 65 #[.slice (some ⟨b, off, none⟩) n c, .string x] w fun e w' => e = .returned (.bool (Lib.containsS (zs.take n) x)) ∧ w' = w := Any.slices_Contains_string Tryz.lays110 b off n c zs x w hz hbig hc
open Go.Lib in
/-- The same at a slice of length 0, a nil one too. (LAID: no walk: one application.) -/
theorem Tryz.slices_Contains_string_empty (a : Option Addr) (c : Nat) (x : ByteArray) (w : World) :
    Calls Tryz.prog 65 #[.slice a 0 c, .string x] w fun e w' => e = .returned (.bool false) ∧ w' = w := Any.slices_Contains_string_empty Tryz.lays110 a c x w
def Tryz.lays193_ren : Go.Shelf.Ren := ⟨fun | 193 => 166 | n => n, fun | 31 => 39 | 9 => 9 | 4 => 4 | 3 => 3 | 0 => 0 | n => n, fun | n => n⟩
theorem Tryz.lays193 : Go.Proofs.Lays.n193 Tryz.prog Tryz.lays193_ren := {
  mixed := by kernel_rfl
  f193 := Tryz.func166.trans (congrArg some (by kernel_rfl))
  t0 := Tryz.underlying0
  a0 := Tryz.isAgg0
  z0 := Tryz.sizeOf0
  v0 := Tryz.zeroValue0
  t3 := Tryz.underlying3
  a3 := Tryz.isAgg3
  z3 := Tryz.sizeOf3
  v3 := Tryz.zeroValue3
  t4 := Tryz.underlying4
  a4 := Tryz.isAgg4
  z4 := Tryz.sizeOf4
  v4 := Tryz.zeroValue4
  t9 := Tryz.underlying9
  a9 := Tryz.isAgg9
  z9 := Tryz.sizeOf9
  v9 := Tryz.zeroValue9
  t31 := Tryz.underlying39
  a31 := Tryz.isAgg39
  z31 := Tryz.sizeOf39
  v31 := Tryz.zeroValue39 }
open Go.RowKit Go.Lib in
/-- slices.Equal at []string: "Equal reports whether two slices are equal: the same length and all elements equal. If the lengths are different, Equal returns false. Otherwise, the elements are compared in increasing index order, and the comparison stops at the first unequal pair. Empty and nil slices are considered equal.": IT RETURNS WHETHER THE TWO LISTS OF ELEMENTS ARE ONE; the world is as it was but for the count of draws (the test 's1[i] != s2[i]' has two reads, whose order the model draws, once a round). 'xs', 'ys': what the cells behind the two addresses hold (the spare capacity too, if you have it); 'xs.take n', 'ys.take m': the elements. THE TWO SLICES MAY OVERLAP. (LAID: no walk: one application.) -/
theorem Tryz.slices_Equal_string (b1 o1 n c b2 o2 m d : Nat) (xs ys : List ByteArray) (w : World) (hx : n ≤ xs.length) (hy : m ≤ ys.length) (hbig : n ≤ 9223372036854775807) (hbig2 : m ≤ 9223372036854775807) (hc1 : ∀ j, j < xs.length → w.cell? ⟨b1, o1 + j, none⟩ = some (.string (xs.getD j ByteArray.empty))) (hc2 : ∀ j, j < ys.length → w.cell? ⟨b2, o2 + j, none⟩ = some (.string (ys.getD j ByteArray.empty))) :
    Calls Tryz.prog 166 #[.slice (some ⟨b1, o1, none⟩) n c, .slice (some ⟨b2, o2, none⟩) m d] w fun e w' => e = .returned (.bool (decide (xs.take n = ys.take m))) ∧ ∃ q, w' = w.drewN q := Any.slices_Equal_string Tryz.lays193 b1 o1 n c b2 o2 m d xs ys w hx hy hbig hbig2 hc1 hc2
open Go.RowKit Go.Lib in
/-- The same where the first is of length 0 (a nil one too): no cell is asked for. (LAID: no walk: one application.) -/
theorem Tryz.slices_Equal_string_empty (a1 a2 : Option Addr) (c m d : Nat) (w : World) (hbig2 : m ≤ 9223372036854775807) :
    Calls Tryz.prog 166 #[.slice a1 0 c, .slice a2 m d] w fun e w' => e = .returned (.bool (decide (m = 0))) ∧ w' = w := Any.slices_Equal_string_empty Tryz.lays193 a1 a2 c m d w hbig2
def Tryz.laysNm217_ren : Go.Shelf.Ren := ⟨fun | 17 => 43 | n => n, fun | 24 => 39 | 9 => 9 | 3 => 3 | 4 => 4 | 0 => 0 | n => n, fun | n => n⟩
def Tryz.laysNm216_ren : Go.Shelf.Ren := ⟨fun | 16 => 42 | n => n, fun | 24 => 39 | 9 => 9 | 4 => 4 | n => n, fun | n => n⟩
theorem Tryz.laysNm216 : Go.Proofs.Lays2.n16 Tryz.prog Tryz.laysNm216_ren := {
  mixed := by kernel_rfl
  f16 := Tryz.func42.trans (congrArg some (by kernel_rfl))
  t4 := Tryz.underlying4
  a4 := Tryz.isAgg4
  z4 := Tryz.sizeOf4
  v4 := Tryz.zeroValue4
  t9 := Tryz.underlying9
  a9 := Tryz.isAgg9
  z9 := Tryz.sizeOf9
  v9 := Tryz.zeroValue9
  t24 := Tryz.underlying39
  a24 := Tryz.isAgg39
  z24 := Tryz.sizeOf39
  v24 := Tryz.zeroValue39
  i9 := by kernel_rfl }
open Go.RowKit Go.Lib in
/-- slices.Clone at []string: "Clone returns a copy of the slice. The elements are copied using assignment, so this is a shallow clone. The result may have additional unused capacity. The result preserves the nilness of s.": OF A SLICE THAT IS NOT nil IT RETURNS A SLICE THAT IS NOT nil, OF THE SAME ELEMENTS, IN MEMORY OF THE CALL's OWN: in the how-to's words (6f): 'w'.ownsRow B e 1 v' n cells': v' begins at the head of a row among the blocks from B on (B: the heap's size at the call), not frozen, whose first cells are the elements · 'Below B w w'': below B all is as it was. The capacity is whatever the run-time gives. 'zs': what the cells behind the slice's address hold; 'zs.take n': its elements. (LAID: no walk: one application.) -/
theorem Tryz.slices_Clone_string (b off n c : Nat) (zs : List ByteArray) (w : World) (hz : n ≤ zs.length) (hbig : n * 16 ≤ 140737488355328) (hc : ∀ j, j < zs.length → w.cell? ⟨b, off + j, none⟩ = some (.string (zs.getD j ByteArray.empty))) :
    Calls Tryz.prog 42 #[.slice (some ⟨b, off, none⟩) n c] w fun e w' => ∃ v', e = .returned v' ∧ w'.ownsRow w.heap.size 9 1 v' n ((zs.take n).map (Value.string)) ∧ v' ≠ .slice none 0 0 ∧ Below w.heap.size w w' := Any.slices_Clone_string Tryz.laysNm216 b off n c zs w hz hbig hc
open Go.RowKit Go.Lib in
/-- The same at nil: nil comes back; the world is as it was. (LAID: no walk: one application.) -/
theorem Tryz.slices_Clone_string_nil (n c : Nat) (w : World) :
    Calls Tryz.prog 42 #[.slice none n c] w fun e w' => e = .returned (.slice none 0 0) ∧ w' = w := Any.slices_Clone_string_nil Tryz.laysNm216 n c w
open Go.RowKit Go.Lib in
/-- The same at a slice of length 0 that is not nil, WHATEVER ITS ADDRESS (no cell is asked for): a slice that is not nil and owns nothing comes back. (LAID: no walk: one application.) -/
theorem Tryz.slices_Clone_string_zero (a : Addr) (c : Nat) (w : World) :
    Calls Tryz.prog 42 #[.slice (some a) 0 c] w fun e w' => ∃ v', e = .returned v' ∧ w'.ownsRow w.heap.size 9 1 v' 0 [] ∧ v' ≠ .slice none 0 0 ∧ Below w.heap.size w w' := Any.slices_Clone_string_zero Tryz.laysNm216 a c w
open Go.RowKit Go.Sort in
/-- .. and plain. (LAID: no walk: one application.) -/
theorem Tryz.slices_Sort_string_none (p : Option Addr) (cap : Nat) (w : World) :
    Calls Tryz.prog 44 #[.slice p 0 cap] w fun e w' => e = .returned (.tuple #[]) ∧ w' = w := Any.slices_Sort_string_none Tryz.lays190 p cap w
open Go.RowKit Go.Lib in
theorem Tryz.slices_Equal_string_lens (a1 a2 : Option Addr) (n c m d : Nat) (w : World) (hnm : n ≠ m) :
    Calls Tryz.prog 166 #[.slice a1 n c, .slice a2 m d] w fun e w' => e = .returned (.bool false) ∧ w' = w := Any.slices_Equal_string_lens Tryz.lays193 a1 a2 n c m d w hnm
def Tryz.laysSlH6_f85_ren : Go.Shelf.Ren := ⟨fun | 6 => 85 | n => n, fun | 22 => 39 | 23 => 9 | 25 => 80 | 3 => 3 | 0 => 0 | 4 => 4 | n => n, fun | n => n⟩
def Tryz.laysSlH8_f46_ren : Go.Shelf.Ren := ⟨fun | 8 => 46 | 6 => 85 | n => n, fun | 22 => 39 | 23 => 9 | 25 => 80 | 4 => 4 | 3 => 3 | 0 => 0 | n => n, fun | n => n⟩
open Go.RowKit in
theorem Tryz.strings_Trim_laid (s cutset : ByteArray) (w : World) (hs : s.size ≤ 9223372036854775807) (hcs : cutset.size < 4294967281) (hascii : ∀ (j : Nat) b, cutset.data.toList[j]? = some b → b.toNat < 128) :
    Calls Tryz.prog 103 #[.string s, .string cutset] w fun e w' => e = .returned (.string ⟨(Lib.trimS s.data.toList cutset.data.toList).toArray⟩) ∧ Below w.heap.size w w' := Any.strings_Trim_laid Tryz.lays160 (by kernel_rfl) s cutset w hs hcs hascii
end Go.Proofs
/- Walks of stem.Is, find.plain, find.Special. -/
namespace Go.Proofs.YtaajofojbhdgaaaGreatDoor
open Go.RowKit Go.Deep
attribute [local go_sem] bt_eq

theorem cont_any (A : Option Addr) (c : Nat) (L : List ByteArray) (x : ByteArray) (w : World) (hA : SR w A L) (hl : L.length ≤ 1000000) :
    Calls Tryz.prog 65 #[.slice A L.length c, .string x] w fun e w' => e = .returned (.bool (Lib.containsS L x)) ∧ w = w' := by
  cases L with
  | nil => exact (Tryz.slices_Contains_string_empty A c x w).mono fun e w' ⟨h1, h2⟩ => ⟨h1, h2.symm⟩
  | cons y L =>
    obtain ⟨g, o, rfl, _, _⟩ := hA 0 y rfl
    have := Tryz.slices_Contains_string g o (y :: L).length c (y :: L) x w (Nat.le_refl _) (by omega) (fun j hj => by
      obtain ⟨g', o', e, _, hc⟩ := hA j ((y :: L)[j]) (List.getElem?_eq_getElem hj)
      injection e with e
      injection e with e1 e2
      subst e1 e2
      rw [hc]
      congr 2
      rw [List.getD_eq_getElem?_getD, List.getElem?_eq_getElem hj]
      rfl)
    rw [List.take_length] at this
    exact this.mono fun e w' ⟨h1, h2⟩ => ⟨h1, h2.symm⟩
set_option maxRecDepth 100000 in
theorem stemIs_any (s : ByteArray) (w : World) : Calls Tryz.prog 104 #[.string s] w fun e w' => e = .returned (.bool (isP s)) ∧ w = w' := by
  have h := Tryz.strings_Contains_one s 37 w
  rw [show decide (0 ≤ Lib.indexByte s.data.toList 37) = isP s from decide_eq_decide.2 (ixb_mem 37 _)] at h
  have H := hide h
  clear h
  generalize isP s = b at *
  go_enter Tryz.func104, Tryz.ntmps104
  go_wp2_with fail
  refine H.out.mono ?_
  rintro e w' ⟨rfl, rfl⟩
  go_wp2
  go_ret
  exact ⟨rfl, rfl⟩
set_option maxRecDepth 100000 in
set_option maxHeartbeats 400000 in
theorem plain_any (r : Rl) (w : World) (hr : RlOk w r) : Calls Tryz.prog 64 #[.agg #[sv r.tg, sv r.nd, sv r.rc]] w fun e w' => e = .returned (.bool (plainR r.tg.2.2)) ∧ Below w.heap.size w w' := by
  have HC := hide (fun W (hb : Below w.heap.size w W) => contf_any isP 104 #[] (fun _ _ => by kernel_rfl) r.tg.1 r.tg.2.1 r.tg.2.2 W (by have := hr.t1; omega) (hr.tg.below hb) (fun W' x _ hb' => (stemIs_any x W').mono (fun e w' ⟨h1, h2⟩ => ⟨h1, h2 ▸ hb'⟩)))
  unfold plainR
  obtain ⟨b, hb⟩ : ∃ b, r.tg.2.2.any isP = b := ⟨_, rfl⟩
  rw [hb] at HC ⊢
  unfold sv
  clear hr hb
  go_enter Tryz.func64, Tryz.ntmps64
  go_wp2_with fail
  refine (HC.out _ ((Below.refl _ _).alloc (Nat.le_refl _) _)).mono ?_
  rintro e w' ⟨rfl, hb⟩
  have HB := hide (((Below.refl w.heap.size w).alloc (Nat.le_refl _) _).trans (hb.mono (by simp)))
  clear hb
  go_wp2
  go_ret
  exact ⟨rfl, HB.out⟩
theorem OwnS.below' {w w' : World} {base : Nat} {v : Value} {L : List ByteArray} (h : OwnS w base v L) (hb : Below w.heap.size w w') : OwnS w' base v L := by
  obtain ⟨h1, h2⟩ := h
  refine ⟨h1, h2.imp id ?_⟩
  rintro ⟨g, cap, cur, e, hg, hh, r⟩
  exact ⟨g, cap, cur, e, hg, (hb.block g (Array.getElem?_eq_some_iff.1 hh).1).trans hh, r⟩
theorem cellOf' {w : World} {g : Nat} {cs : Array Value} {t : TypeId} (h : w.heap[g]? = some (.cells cs t)) {j : Nat} {v : Value} (hj : cs[j]? = some v) : w.cell? ⟨g, j, none⟩ = some v := by
  simpa [World.cell?, h] using hj
set_option maxRecDepth 100000 in
set_option maxHeartbeats 2000000 in
theorem special_any (mac : Value) (A : Option Addr) (c : Nat) (L : List Rl) (name : ByteArray) (w : World) (hA : RLS w A L) (hl : L.length ≤ 1000) (hs : ∀ k, (specialR (L.take k) name).length ≤ 900000) :
    Calls Tryz.prog 107 #[.agg #[mac, .slice A L.length c], .string name] w fun e w' => (∃ v, e = .returned v ∧ OwnS w' w.heap.size v (specialR L name)) ∧ Below w.heap.size w w' := by
  have HA := hide hA
  have HS := hide hs
  obtain ⟨n, hn⟩ : ∃ n, L.length = n := ⟨_, rfl⟩
  have HN := hide hn
  rw [hn] at hl ⊢
  clear hn hA hs
  have hn1 : (n : Int) ≤ 1000 := by omega
  go_enter Tryz.func107, Tryz.ntmps107
  go_wp2
  have HB0 := hide ((Below.refl w.heap.size w).alloc (Nat.le_refl _) (.cells #[mac, .slice A n c] 25))
  generalize w.alloc (.cells #[mac, .slice A n c] 25) = W at HB0 ⊢
  go_loopw [5, 7, 11] (fun v5 _ v11 wr => ∃ k : Nat, v11 = .int .i64 k ∧ k ≤ n ∧ OwnS wr w.heap.size v5 (specialR (L.take k) name) ∧ Below w.heap.size w wr) (fun _ _ v11 _ => n - (intOf v11).toNat)
  case atStart => exact ⟨0, rfl, by omega, OwnS.nil _ _, HB0.out⟩
  case round =>
    obtain ⟨k, rfl, hk, ho, hb⟩ := hrel
    have HO := hide ho
    have HB := hide hb
    have HAR := hide (HA.out.below hb)
    clear ho hb
    by_cases hlt : k < n
    · obtain ⟨r, hr⟩ : ∃ r, L[k]? = some r := ⟨L[k]'(by have := HN.out; omega), List.getElem?_eq_getElem _⟩
      obtain ⟨g, o, rfl, hg, hc⟩ := HAR.out.1 k r hr
      have hrk := HAR.out.2 r (List.mem_of_getElem? hr)
      have HRK := hide hrk
      have hc1 : wr.cell? ⟨g, o + k * 3, none⟩ = some (sv r.tg) := by have := hc 0 _ rfl; simpa using this
      have hc2 : wr.cell? ⟨g, o + k * 3 + 1, none⟩ = some (sv r.nd) := hc 1 _ rfl
      have hc3 : wr.cell? ⟨g, o + k * 3 + 2, none⟩ = some (sv r.rc) := hc 2 _ rfl
      have HT := hide (special_take hr name)
      have hlen := HS.out (k + 1)
      rw [HT.out, List.length_append] at hlen
      have HLN := hide hlen
      have b1 : (k : Int) < (n : Int) := by omega
      have hbw : w.heap.size ≤ wr.heap.size := HB.out.size
      clear hc hr hlen hrk
      have HPL := hide (fun W (hb : Below wr.heap.size wr W) => plain_any r W (HRK.out.below hb))
      have HCT := hide (fun W (hb : Below wr.heap.size wr W) => cont_any r.tg.1 r.tg.2.1 r.tg.2.2 name W (HRK.out.tg.below hb) (by have := HRK.out.t1; omega))
      have hof : ofR name r = (plainR r.tg.2.2 && Lib.containsS r.tg.2.2 name) := rfl
      obtain ⟨p1, hp1⟩ : ∃ b, plainR r.tg.2.2 = b := ⟨_, rfl⟩
      obtain ⟨p2, hp2⟩ : ∃ b, Lib.containsS r.tg.2.2 name = b := ⟨_, rfl⟩
      rw [hp1] at HPL hof
      rw [hp2] at HCT hof
      have HOF := hide hof
      clear hof hp1 hp2
      unfold sv at hc1 hc2 hc3 HPL
      have hnb := heapNew wr (.cells #[.slice r.tg.1 r.tg.2.2.length r.tg.2.1, .slice r.nd.1 r.nd.2.2.length r.nd.2.1, .slice r.rc.1 r.rc.2.2.length r.rc.2.1] 63)
      have hba := (Below.refl wr.heap.size wr).alloc (Nat.le_refl _) (.cells #[.slice r.tg.1 r.tg.2.2.length r.tg.2.1, .slice r.nd.1 r.nd.2.2.length r.nd.2.1, .slice r.rc.1 r.rc.2.2.length r.rc.2.1] 63)
      have HNB := hide hnb
      have HBA := hide hba
      clear hnb hba
      go_wp2_with fail
      refine (HPL.out _ HBA.out).mono ?_
      rintro e w1 ⟨rfl, hb1⟩
      have hsz1 : wr.heap.size < w1.heap.size := by have h1 := HNB.out; have h2 := (Array.getElem?_eq_some_iff.1 h1).1; have := hb1.size; omega
      have hk1 := hb1.block wr.heap.size (Array.getElem?_eq_some_iff.1 HNB.out).1
      have hn1' := hk1.trans HNB.out
      have hd0 := cellOf' hn1' (j := 0) rfl
      have hd1 := cellOf' hn1' (j := 1) rfl
      have HB1 := hide (below_up HBA.out hb1 HBA.out.size)
      clear hb1 hk1 hn1'
      cases p1 with
      | false =>
        have HE := hide (show specialR (L.take (k + 1)) name = specialR (L.take k) name by rw [HT.out, HOF.out, if_neg (by simp), List.append_nil])
        go_wp2
        go_roundw
        case rel => exact ⟨k + 1, by go_num, by omega, by rw [HE.out]; exact HO.out.below' HB1.out, below_up HB.out HB1.out hbw⟩
        case measure => simp [intOf]; omega
      | true =>
        go_wp2_with fail
        refine (HCT.out _ HB1.out).mono ?_
        rintro e w' ⟨rfl, rfl⟩
        cases p2 with
        | false =>
          have HE := hide (show specialR (L.take (k + 1)) name = specialR (L.take k) name by rw [HT.out, HOF.out, if_neg (by simp), List.append_nil])
          go_wp2
          go_roundw
          case rel => exact ⟨k + 1, by go_num, by omega, by rw [HE.out]; exact HO.out.below' HB1.out, below_up HB.out HB1.out hbw⟩
          case measure => simp [intOf]; omega
        | true =>
          have HE := hide (show specialR (L.take (k + 1)) name = specialR (L.take k) name ++ r.nd.2.2 by rw [HT.out, HOF.out, if_pos (show (true && true) = true from rfl)])
          have hl2 : (specialR (L.take k) name).length + r.nd.2.2.length ≤ 1000000 := by
            have := HLN.out
            rw [HOF.out, if_pos (show (true && true) = true from rfl)] at this
            omega
          obtain ⟨v', w4, r4, o4, g4, b4⟩ := run_appS (c := r.nd.2.1) (HO.out.below' HB1.out) (HRK.out.nd.below HB1.out) (by have := HB1.out.size; omega) (by omega)
          have HO4 := hide o4
          have HB4 := hide ((below_up HB.out HB1.out hbw).grown g4 (by have := HB1.out.size; omega) (fun q hq => (World.ownsRow.lt HO.out q hq).1))
          clear o4 g4 b4
          go_wp2_with (at_builtin; refine wpList_app_run ?_ (.tmp 23) (.tmp 25) ?_ ?_ ?_ ?_ r4 ?_; exact rfl; exact rfl; exact rfl; exact rfl; exact rfl)
          go_roundw
          case rel => exact ⟨k + 1, by go_num, by omega, by rw [HE.out]; exact HO4.out, HB4.out⟩
          case measure => simp [intOf]; omega
    · obtain rfl : k = n := by omega
      have HF := hide (show specialR (L.take k) name = specialR L name by rw [List.take_of_length_le (by have := HN.out; omega)])
      rw [HF.out] at HO
      go_wp2
      go_ret
      exact ⟨⟨_, rfl, HO.out⟩, HB.out⟩
theorem special_len_take (L : List Rl) (name : ByteArray) (k : Nat) : (specialR (L.take k) name).length ≤ (specialR L name).length := by
  unfold specialR
  conv => rhs; rw [← List.take_append_drop k L, List.flatMap_append, List.length_append]
  omega
end Go.Proofs.YtaajofojbhdgaaaGreatDoor
/- Walk of chapter 21's Big: which makefiles are too great. -/
namespace Go.Proofs.YtaajofojbhdgaaaGreatDoor
open Go.RowKit Go.Deep
set_option linter.unusedSimpArgs false
set_option linter.unusedVariables false
attribute [local go_sem] bt_eq

def szS (L : List ByteArray) : Nat := (L.map ByteArray.size).sum
def rlMany (r : Rl) : Bool := decide (20 < r.tg.2.2.length) || decide (20 < r.nd.2.2.length) || decide (20 < r.rc.2.2.length)
def rlSize (r : Rl) : Nat := szS r.tg.2.2 + szS r.nd.2.2 + szS r.rc.2.2
def rlsSize (L : List Rl) : Nat := (L.map rlSize).sum
def prSize (L : List Pr) : Nat := (L.map fun p => p.2.size).sum
/-- whether a makefile is too great -/
def bigM (ml : List Pr) (M : List Rl) : Bool := (M.take 60).any rlMany || (decide (40 < M.length) || (decide (40 < ml.length) || decide (4000 < rlsSize (M.take 60) + prSize (ml.take 60))))
theorem szS_take {L : List ByteArray} {k : Nat} {x : ByteArray} (h : L[k]? = some x) : szS (L.take (k + 1)) = szS (L.take k) + x.size := by
  unfold szS
  rw [List.take_add_one, h]
  simp
theorem rls_take {L : List Rl} {k : Nat} {x : Rl} (h : L[k]? = some x) : rlsSize (L.take (k + 1)) = rlsSize (L.take k) + rlSize x := by
  unfold rlsSize
  rw [List.take_add_one, h]
  simp
theorem pr_take {L : List Pr} {k : Nat} {x : Pr} (h : L[k]? = some x) : prSize (L.take (k + 1)) = prSize (L.take k) + x.2.size := by
  unfold prSize
  rw [List.take_add_one, h]
  simp
theorem szS_le {L : List ByteArray} {K : Nat} (h : ∀ s ∈ L, s.size ≤ K) : szS L ≤ L.length * K := by
  induction L with
  | nil => simp [szS]
  | cons x L ih =>
    have h1 := ih (fun s hs => h s (List.mem_cons_of_mem _ hs))
    have h2 := h x (List.mem_cons_self ..)
    unfold szS at h1 ⊢
    rw [List.map_cons, List.sum_cons, List.length_cons, Nat.add_mul]
    omega
theorem szS_mem {L : List ByteArray} {s : ByteArray} (h : s ∈ L) : s.size ≤ szS L := by
  induction L with
  | nil => cases h
  | cons x L ih =>
    unfold szS at ih ⊢
    rw [List.map_cons, List.sum_cons]
    rcases List.mem_cons.1 h with rfl | h
    · omega
    · have := ih h; omega
theorem rls_mem {L : List Rl} {r : Rl} (h : r ∈ L) : rlSize r ≤ rlsSize L := by
  induction L with
  | nil => cases h
  | cons x L ih =>
    unfold rlsSize at ih ⊢
    rw [List.map_cons, List.sum_cons]
    rcases List.mem_cons.1 h with rfl | h
    · omega
    · have := ih h; omega
/-- what a makefile is that is not too great -/
structure SmallM (ml : List Pr) (M : List Rl) : Prop where
  rules : M.length ≤ 40
  macros : ml.length ≤ 40
  tg : ∀ r ∈ M, r.tg.2.2.length ≤ 20
  nd : ∀ r ∈ M, r.nd.2.2.length ≤ 20
  rc : ∀ r ∈ M, r.rc.2.2.length ≤ 20
  size : rlsSize M + prSize ml ≤ 4000
theorem bigM_no {ml : List Pr} {M : List Rl} (h : bigM ml M = false) : SmallM ml M := by
  unfold bigM at h
  simp only [Bool.or_eq_false_iff, decide_eq_false_iff_not] at h
  obtain ⟨h1, h2, h3, h4⟩ := h
  rw [List.take_of_length_le (by omega)] at h1 h4
  rw [List.take_of_length_le (show ml.length ≤ 60 by omega)] at h4
  have hm : ∀ r ∈ M, ¬ 20 < r.tg.2.2.length ∧ ¬ 20 < r.nd.2.2.length ∧ ¬ 20 < r.rc.2.2.length := fun r hr => by
    have := List.any_eq_false.1 h1 r hr
    unfold rlMany at this
    simp only [Bool.or_eq_true, decide_eq_true_eq, not_or] at this
    exact ⟨this.1.1, this.1.2, this.2⟩
  exact ⟨by omega, by omega, fun r hr => by have := (hm r hr).1; omega, fun r hr => by have := (hm r hr).2.1; omega, fun r hr => by have := (hm r hr).2.2; omega, by omega⟩
theorem SmallM.tgz {ml : List Pr} {M : List Rl} (h : SmallM ml M) : ∀ r ∈ M, ∀ s ∈ r.tg.2.2, s.size ≤ 4000 := fun r hr s hs => by
  have h1 := rls_mem hr
  have h2 := szS_mem hs
  have h3 := h.size
  unfold rlSize at h1
  omega
theorem SmallM.ndz {ml : List Pr} {M : List Rl} (h : SmallM ml M) : ∀ r ∈ M, ∀ s ∈ r.nd.2.2, s.size ≤ 4000 := fun r hr s hs => by
  have h1 := rls_mem hr
  have h2 := szS_mem hs
  have h3 := h.size
  unfold rlSize at h1
  omega
theorem SmallM.special {ml : List Pr} {M : List Rl} (h : SmallM ml M) (name : ByteArray) : (specialR M name).length ≤ 800 := by
  have key : ∀ N : List Rl, (∀ r ∈ N, r.nd.2.2.length ≤ 20) → (specialR N name).length ≤ N.length * 20 := fun N hN => by
    induction N with
    | nil => simp [specialR]
    | cons x N ih =>
      have h1 := ih (fun r hr => hN r (List.mem_cons_of_mem _ hr))
      have h2 := hN x (List.mem_cons_self ..)
      unfold specialR at h1 ⊢
      rw [List.flatMap_cons, List.length_append, List.length_cons, Nat.add_mul]
      have : (if ofR name x = true then x.nd.2.2 else []).length ≤ 20 := by split <;> first | exact h2 | exact Nat.zero_le _
      omega
  have := key M h.nd
  have := h.rules
  omega
theorem SmallM.rls {K : Nat} {ml : List Pr} {M : List Rl} (h : SmallM ml M) {w : World} {A : Option Addr} (hr : RLI K w A M) : RLS w A M :=
  ⟨hr.1, fun r hm => ⟨(hr.2 r hm).tg, (hr.2 r hm).nd, (hr.2 r hm).rc, by have := h.tg r hm; omega, by have := h.nd r hm; omega, by have := h.rc r hm; omega⟩⟩
set_option maxRecDepth 100000 in
set_option maxHeartbeats 8000000 in
theorem bigM_any (K : Nat) (hK : K ≤ 140737488355328) (x : MkV) (w : World) (h : MkIn K w x) :
    Calls Tryz.prog 8 #[.agg #[x.mv, x.rv]] w fun e w' => e = .returned (.bool (bigM x.ml x.rl)) ∧ Below w.heap.size w w' := by
  obtain ⟨ma, mc, ml, ra, rc, M⟩ := x
  have HI := hide h
  have hml : ml.length ≤ 9223372036854775807 := h.m1
  have hrl : M.length ≤ 9223372036854775807 := h.r1
  unfold MkV.mv MkV.rv
  simp only
  obtain ⟨n, hn⟩ : ∃ n, M.length = n := ⟨_, rfl⟩
  obtain ⟨p, hp⟩ : ∃ n, ml.length = n := ⟨_, rfl⟩
  have HN := hide hn
  have HP := hide hp
  rw [hn] at hrl ⊢
  rw [hp] at hml ⊢
  have HQ : Hid (bigM ml M = ((M.take 60).any rlMany || (decide (40 < n) || (decide (40 < p) || decide (4000 < rlsSize (M.take 60) + prSize (ml.take 60)))))) := hide (by unfold bigM; rw [hn, hp])
  have hn1 : (n : Int) ≤ 9223372036854775807 := by omega
  have hp1 : (p : Int) ≤ 9223372036854775807 := by omega
  clear h hn hp
  have HB0 := hide ((Below.refl w.heap.size w).alloc (Nat.le_refl _) (.cells #[.slice ma p mc, .slice ra n rc] 25))
  have HNB := hide (heapNew w (.cells #[.slice ma p mc, .slice ra n rc] 25))
  go_enter Tryz.func8, Tryz.ntmps8
  go_wp2
  generalize w.alloc (.cells #[.slice ma p mc, .slice ra n rc] 25) = W at HB0 HNB ⊢
  go_loopw [3, 4, 5, 6, 7, 8] (fun v3 v4 _ _ _ _ wr => ∃ k : Nat, v4 = .int .i64 k ∧ k ≤ n ∧ k ≤ 60 ∧ v3 = .int .i64 (rlsSize (M.take k)) ∧ Hid (rlsSize (M.take k) ≤ k * 8444249301319680 ∧ (M.take k).any rlMany = false) ∧ Below w.heap.size w wr ∧ wr.heap[w.heap.size]? = some (.cells #[.slice ma p mc, .slice ra n rc] 25)) (fun _ v4 _ _ _ _ _ => n - (intOf v4).toNat)
  case atStart => exact ⟨0, rfl, by omega, by omega, by simp [rlsSize], hide ⟨by simp [rlsSize], by simp⟩, HB0.out, HNB.out⟩
  case round =>
    obtain ⟨wo, hwo⟩ : ∃ Z, Z = wr := ⟨_, rfl⟩
    subst hwo
    obtain ⟨k, rfl, hk, hk6, rfl, HR, hb, hnb⟩ := hrel
    have HB := hide hb
    have HH := hide hnb
    have m0 := cellOf' hnb (j := 0) rfl
    have m1 := cellOf' hnb (j := 1) rfl
    have hlw := (Array.getElem?_eq_some_iff.1 hnb).1
    have hnk : (k : Int) ≤ 60 := by omega
    clear hb hnb
    by_cases hin : k < n ∧ k < 60
    case neg =>
      have HZ := hide (show rlsSize (M.take k) = rlsSize (M.take 60) ∧ (M.take k).any rlMany = (M.take 60).any rlMany by
        by_cases h6 : k = 60
        · rw [h6]; exact ⟨rfl, rfl⟩
        · have : k = n := by omega
          rw [List.take_of_length_le (show M.length ≤ k by have := HN.out; omega), List.take_of_length_le (show M.length ≤ 60 by have := HN.out; omega)]
          exact ⟨rfl, rfl⟩)
      have hz := HR.out.1
      obtain ⟨z, hzz⟩ : ∃ z, rlsSize (M.take k) = z := ⟨_, rfl⟩
      rw [hzz] at hz ⊢
      have hz1 : (z : Int) ≤ 506654958079180800 := by omega
      have HZZ := hide (show z = rlsSize (M.take 60) ∧ (M.take 60).any rlMany = false from ⟨hzz ▸ HZ.out.1, HZ.out.2 ▸ HR.out.2⟩)
      have HM2 := hide HI.out.m2
      have HMR := hide (HI.out.mr.below HB.out)
      have hsp : ∀ j, j ≤ 60 → prSize (ml.take j) ≤ 8444249301319680 := fun j hj => by
        have key : ∀ N : List Pr, (∀ x ∈ N, x.2.size ≤ K) → prSize N ≤ N.length * K := fun N hN => by
          induction N with
          | nil => simp [prSize]
          | cons x N ih =>
            have h1 := ih (fun s hs => hN s (List.mem_cons_of_mem _ hs))
            have h2 := hN x (List.mem_cons_self ..)
            unfold prSize at h1 ⊢
            rw [List.map_cons, List.sum_cons, List.length_cons, Nat.add_mul]
            omega
        have h1 := key (ml.take j) (fun x hx => (HM2.out x (List.mem_of_mem_take hx)).2)
        have h2 : (ml.take j).length * K ≤ 60 * 140737488355328 := Nat.mul_le_mul (by rw [List.length_take]; omega) hK
        omega
      have HSP := hide hsp
      have hex : (¬ (k : Int) < (n : Int)) ∨ ((k : Int) < (n : Int) ∧ ¬ (k : Int) < 60) := by omega
      clear hsp hzz hz hin hnk
      rcases hex with q1 | ⟨q1, q2⟩
      all_goals
        go_wp2
        go_loop [3, 9] (fun v3 v9 => ∃ j : Nat, v9 = .int .i64 j ∧ j ≤ p ∧ j ≤ 60 ∧ v3 = .int .i64 ((z : Int) + (prSize (ml.take j) : Int))) (fun _ v9 => p - (intOf v9).toNat)
        case atStart => exact ⟨0, rfl, by omega, by omega, by simp [prSize]⟩
        case round =>
          obtain ⟨j, rfl, hj, hj6, rfl⟩ := hrel
          by_cases hjn : j < p ∧ j < 60
          case neg =>
            have HE := hide (show prSize (ml.take j) = prSize (ml.take 60) by
              by_cases h6 : j = 60
              · rw [h6]
              · have : j = p := by omega
                rw [List.take_of_length_le (show ml.length ≤ j by have := HP.out; omega), List.take_of_length_le (show ml.length ≤ 60 by have := HP.out; omega)])
            have hu := HSP.out j hj6
            obtain ⟨u, huu⟩ : ∃ u, prSize (ml.take j) = u := ⟨_, rfl⟩
            rw [huu] at hu HE ⊢
            have HF := hide (show bigM ml M = (decide (40 < n) || (decide (40 < p) || decide (4000 < z + u))) by rw [HQ.out, HZZ.out.2, HE.out, HZZ.out.1]; rfl)
            have hex2 : (¬ (j : Int) < (p : Int)) ∨ ((j : Int) < (p : Int) ∧ ¬ (j : Int) < 60) := by omega
            clear huu hjn
            rcases hex2 with r1 | ⟨r1, r2⟩
            all_goals
              by_cases f1 : 40 < n
              · have D1 : decide ((40 : Int) < (n : Int)) = true := by simp; omega
                have D1' : decide (40 < n) = true := by simpa using f1
                have HX := hide (show bigM ml M = true by rw [HF.out, D1']; rfl)
                clear f1
                go_wp2
                go_ret
                rw [HX.out]
                exact ⟨rfl, HB.out⟩
              · have D1 : decide ((40 : Int) < (n : Int)) = false := by simp; omega
                have D1' : decide (40 < n) = false := by simpa using f1
                by_cases f2 : 40 < p
                · have D2 : decide ((40 : Int) < (p : Int)) = true := by simp; omega
                  have D2' : decide (40 < p) = true := by simpa using f2
                  have HX := hide (show bigM ml M = true by rw [HF.out, D2']; simp)
                  clear f1 f2
                  go_wp2
                  go_ret
                  rw [HX.out]
                  exact ⟨rfl, HB.out⟩
                · have D2 : decide ((40 : Int) < (p : Int)) = false := by simp; omega
                  have D2' : decide (40 < p) = false := by simpa using f2
                  by_cases f3 : 4000 < z + u
                  · have D3 : decide ((4000 : Int) < (z : Int) + (u : Int)) = true := by simp; omega
                    have D3' : decide (4000 < z + u) = true := by simpa using f3
                    have HX := hide (show bigM ml M = true by rw [HF.out, D3']; simp)
                    clear f1 f2 f3
                    go_wp2
                    go_ret
                    rw [HX.out]
                    exact ⟨rfl, HB.out⟩
                  · have D3 : decide ((4000 : Int) < (z : Int) + (u : Int)) = false := by simp; omega
                    have D3' : decide (4000 < z + u) = false := by simpa using f3
                    have HX := hide (show bigM ml M = false by rw [HF.out, D1', D2', D3']; rfl)
                    clear f1 f2 f3
                    go_wp2
                    go_ret
                    rw [HX.out]
                    exact ⟨rfl, HB.out⟩
          obtain ⟨y, hy⟩ : ∃ y, ml[j]? = some y := ⟨ml[j]'(by have := HP.out; omega), List.getElem?_eq_getElem _⟩
          obtain ⟨g, o, rfl, hg, hc1, hc2⟩ := HMR.out j y hy
          have ht := pr_take hy
          have hs1 := HSP.out (j + 1) (by omega)
          rw [ht] at hs1
          have HTK := hide ht
          have b1 : (j : Int) < (p : Int) := by omega
          have b2 : (j : Int) < 60 := by omega
          have b3 : (prSize (ml.take j) : Int) + (y.2.size : Int) ≤ 8444249301319680 := by omega
          clear hy ht hs1 hjn
          go_wp2
          go_round
          case rel => exact ⟨j + 1, by go_num, by omega, by omega, by rw [HTK.out]; go_num⟩
          case measure => simp [intOf]; omega
    obtain ⟨hkn, hk60⟩ := hin
    obtain ⟨r, hr⟩ : ∃ r, M[k]? = some r := ⟨M[k]'(by have := HN.out; omega), List.getElem?_eq_getElem _⟩
    obtain ⟨⟨ta, tc, tl⟩, ⟨na, nc, nl⟩, ⟨ca, cc, cl⟩⟩ := r
    have har := HI.out.rr.below HB.out
    obtain ⟨g, o, rfl, hg, hc⟩ := har.1 k _ hr
    have hri := har.2 _ (List.mem_of_getElem? hr)
    have c0 : wo.cell? ⟨g, o + k * 3, none⟩ = some (.slice ta tl.length tc) := by have := hc 0 _ rfl; simpa [sv] using this
    have c1 : wo.cell? ⟨g, o + k * 3 + 1, none⟩ = some (.slice na nl.length nc) := hc 1 _ rfl
    have c2 : wo.cell? ⟨g, o + k * 3 + 2, none⟩ = some (.slice ca cl.length cc) := hc 2 _ rfl
    have HTG := hide (show SR wo ta tl from hri.tg)
    have HND := hide (show SR wo na nl from hri.nd)
    have HRC := hide (show SR wo ca cl from hri.rc)
    have szb : ∀ N : List ByteArray, (∀ s ∈ N, s.size ≤ K) → N.length ≤ 20 → ∀ j, szS (N.take j) ≤ 2814749767106560 := fun N hN hl j => by
      have h1 := szS_le (L := N.take j) (fun s hs => hN s (List.mem_of_mem_take hs))
      have h2 : (N.take j).length * K ≤ 20 * 140737488355328 := Nat.mul_le_mul (by rw [List.length_take]; omega) hK
      omega
    have HS1 := hide (szb tl hri.t2)
    have HS2 := hide (szb nl hri.n2)
    have HS3 := hide (szb cl hri.r2)
    have htk : rlsSize (M.take (k + 1)) = rlsSize (M.take k) + (szS tl + szS nl + szS cl) := rls_take hr
    have hat : (M.take (k + 1)).any rlMany = ((M.take k).any rlMany || (decide (20 < tl.length) || decide (20 < nl.length) || decide (20 < cl.length))) := by rw [List.take_add_one, hr]; simp [rlMany]
    have hmk : rlMany ⟨(ta, tc, tl), (na, nc, nl), (ca, cc, cl)⟩ = true → bigM ml M = true := fun hm => by
      rw [HQ.out]
      have : (M.take 60).any rlMany = true := by
        rw [List.any_eq_true]
        refine ⟨_, List.mem_of_getElem? (i := k) ?_, hm⟩
        rw [List.getElem?_take_of_lt hk60]
        exact hr
      rw [this]; rfl
    have hmk' : (decide (20 < tl.length) || decide (20 < nl.length) || decide (20 < cl.length)) = true → bigM ml M = true := hmk
    have l1 : tl.length ≤ 9223372036854775807 := hri.t1
    have l2 : nl.length ≤ 9223372036854775807 := hri.n1
    have l3 : cl.length ≤ 9223372036854775807 := hri.r1
    obtain ⟨t, htl⟩ : ∃ q, tl.length = q := ⟨_, rfl⟩
    obtain ⟨d, hnl⟩ : ∃ q, nl.length = q := ⟨_, rfl⟩
    obtain ⟨c, hcl⟩ : ∃ q, cl.length = q := ⟨_, rfl⟩
    rw [htl] at c0 HS1 hat hmk' l1
    rw [hnl] at c1 HS2 hat hmk' l2
    rw [hcl] at c2 HS3 hat hmk' l3
    have HTK := hide htk
    have HAT := hide hat
    have HMK := hide hmk'
    have HTL := hide htl
    have HNL := hide hnl
    have HCL := hide hcl
    have b1 : (k : Int) < (n : Int) := by omega
    have b2 : (k : Int) < 60 := by omega
    have hce := HB.out.size
    have HBX := hide (HB.out.alloc hce (.cells #[.slice ta t tc, .slice na d nc, .slice ca c cc] 63))
    have HNX := hide (heapNew wo (.cells #[.slice ta t tc, .slice na d nc, .slice ca c cc] 63))
    have HBY := hide ((Below.refl wo.heap.size wo).alloc (Nat.le_refl _) (.cells #[.slice ta t tc, .slice na d nc, .slice ca c cc] 63))
    have hz := HR.out.1
    obtain ⟨z, hzz⟩ : ∃ z, rlsSize (M.take k) = z := ⟨_, rfl⟩
    rw [hzz] at hz HTK ⊢
    have HZZ := hide (show (M.take k).any rlMany = false ∧ z ≤ k * 8444249301319680 from ⟨HR.out.2, hz⟩)
    have hz1 : (z : Int) ≤ 506654958079180800 := by omega
    clear hr har hc hri szb htk hat hmk hmk' htl hnl hcl hzz hz
    by_cases e1 : 20 < t
    · have e1i : (20 : Int) < (t : Int) := by omega
      have HX := hide (HMK.out (by rw [decide_eq_true e1]; rfl))
      clear e1
      go_wp2
      go_ret
      rw [HX.out]
      exact ⟨rfl, HBX.out⟩
    have e1i : ¬ (20 : Int) < (t : Int) := by omega
    by_cases e2 : 20 < d
    · have e2i : (20 : Int) < (d : Int) := by omega
      have HX := hide (HMK.out (by rw [decide_eq_true e2]; simp))
      clear e1 e2
      go_wp2
      go_ret
      rw [HX.out]
      exact ⟨rfl, HBX.out⟩
    have e2i : ¬ (20 : Int) < (d : Int) := by omega
    by_cases e3 : 20 < c
    · have e3i : (20 : Int) < (c : Int) := by omega
      have HX := hide (HMK.out (by rw [decide_eq_true e3]; simp))
      clear e1 e2 e3
      go_wp2
      go_ret
      rw [HX.out]
      exact ⟨rfl, HBX.out⟩
    have e3i : ¬ (20 : Int) < (c : Int) := by omega
    have HAN := hide (show (M.take (k + 1)).any rlMany = false by rw [HAT.out, HZZ.out.1, decide_eq_false e1, decide_eq_false e2, decide_eq_false e3]; rfl)
    have HS1' := hide (HS1.out (by omega))
    have HS2' := hide (HS2.out (by omega))
    have HS3' := hide (HS3.out (by omega))
    have t20 : (t : Int) ≤ 20 := by omega
    have d20 : (d : Int) ≤ 20 := by omega
    have c20 : (c : Int) ≤ 20 := by omega
    clear HS1 HS2 HS3 e1 e2 e3 HMK
    go_wp2
    generalize hWX : wo.alloc (.cells #[.slice ta t tc, .slice na d nc, .slice ca c cc] 63) = W1 at HBX HNX HBY ⊢
    have r0 := cellOf' HNX.out (j := 0) rfl
    have r1 := cellOf' HNX.out (j := 1) rfl
    have r2 := cellOf' HNX.out (j := 2) rfl
    have HTG1 := hide (HTG.out.below HBY.out)
    have HND1 := hide (HND.out.below HBY.out)
    have HRC1 := hide (HRC.out.below HBY.out)
    have HH1 := hide ((HBY.out.block _ hlw).trans HH.out)
    clear hWX c0 c1 c2 m0 m1
    go_loop [3, 6] (fun v3 v6 => ∃ j : Nat, v6 = .int .i64 j ∧ j ≤ t ∧ v3 = .int .i64 ((z : Int) + (szS (tl.take j) : Int))) (fun _ v6 => t - (intOf v6).toNat)
    case atStart => exact ⟨0, rfl, by omega, by simp [szS]⟩
    case round =>
      obtain ⟨j, rfl, hj, rfl⟩ := hrel
      by_cases hjn : j < t
      · obtain ⟨y, hy⟩ : ∃ y, tl[j]? = some y := ⟨tl[j]'(by have := HTL.out; omega), List.getElem?_eq_getElem _⟩
        obtain ⟨gy, oy, rfl, hgy, hcy⟩ := HTG1.out j y hy
        have ht := szS_take hy
        have hs1 := HS1'.out (j + 1)
        rw [ht] at hs1
        have HTJ := hide ht
        have b1 : (j : Int) < (t : Int) := by omega
        have b3 : (szS (tl.take j) : Int) + (y.size : Int) ≤ 2814749767106560 := by omega
        clear hy ht hs1
        go_wp2
        go_round
        case rel => exact ⟨j + 1, by go_num, by omega, by rw [HTJ.out]; go_num⟩
        case measure => simp [intOf]; omega
      obtain rfl : j = t := by omega
      rw [List.take_of_length_le (show tl.length ≤ j by have := HTL.out; omega)]
      have hsa := HS1'.out j
      rw [List.take_of_length_le (show tl.length ≤ j by have := HTL.out; omega)] at hsa
      obtain ⟨sa, hsusa⟩ : ∃ q, szS tl = q := ⟨_, rfl⟩
      rw [hsusa] at hsa HTK ⊢
      have hsai : (sa : Int) ≤ 2814749767106560 := by omega
      clear hsusa hjn
      go_wp2
      go_loop [3, 7] (fun v3 v7 => ∃ j : Nat, v7 = .int .i64 j ∧ j ≤ d ∧ v3 = .int .i64 ((z : Int) + (sa : Int) + (szS (nl.take j) : Int))) (fun _ v7 => d - (intOf v7).toNat)
      case atStart => exact ⟨0, rfl, by omega, by simp [szS]⟩
      case round =>
        obtain ⟨j, rfl, hj, rfl⟩ := hrel
        by_cases hjn : j < d
        · obtain ⟨y, hy⟩ : ∃ y, nl[j]? = some y := ⟨nl[j]'(by have := HNL.out; omega), List.getElem?_eq_getElem _⟩
          obtain ⟨gy, oy, rfl, hgy, hcy⟩ := HND1.out j y hy
          have ht := szS_take hy
          have hs1 := HS2'.out (j + 1)
          rw [ht] at hs1
          have HTJ := hide ht
          have b1 : (j : Int) < (d : Int) := by omega
          have b3 : (szS (nl.take j) : Int) + (y.size : Int) ≤ 2814749767106560 := by omega
          clear hy ht hs1
          go_wp2
          go_round
          case rel => exact ⟨j + 1, by go_num, by omega, by rw [HTJ.out]; go_num⟩
          case measure => simp [intOf]; omega
        obtain rfl : j = d := by omega
        rw [List.take_of_length_le (show nl.length ≤ j by have := HNL.out; omega)]
        have hsb := HS2'.out j
        rw [List.take_of_length_le (show nl.length ≤ j by have := HNL.out; omega)] at hsb
        obtain ⟨sb, hsusb⟩ : ∃ q, szS nl = q := ⟨_, rfl⟩
        rw [hsusb] at hsb HTK ⊢
        have hsbi : (sb : Int) ≤ 2814749767106560 := by omega
        clear hsusb hjn
        go_wp2
        go_loop [3, 8] (fun v3 v8 => ∃ j : Nat, v8 = .int .i64 j ∧ j ≤ c ∧ v3 = .int .i64 ((z : Int) + (sa : Int) + (sb : Int) + (szS (cl.take j) : Int))) (fun _ v8 => c - (intOf v8).toNat)
        case atStart => exact ⟨0, rfl, by omega, by simp [szS]⟩
        case round =>
          obtain ⟨j, rfl, hj, rfl⟩ := hrel
          by_cases hjn : j < c
          · obtain ⟨y, hy⟩ : ∃ y, cl[j]? = some y := ⟨cl[j]'(by have := HCL.out; omega), List.getElem?_eq_getElem _⟩
            obtain ⟨gy, oy, rfl, hgy, hcy⟩ := HRC1.out j y hy
            have ht := szS_take hy
            have hs1 := HS3'.out (j + 1)
            rw [ht] at hs1
            have HTJ := hide ht
            have b1 : (j : Int) < (c : Int) := by omega
            have b3 : (szS (cl.take j) : Int) + (y.size : Int) ≤ 2814749767106560 := by omega
            clear hy ht hs1
            go_wp2
            go_round
            case rel => exact ⟨j + 1, by go_num, by omega, by rw [HTJ.out]; go_num⟩
            case measure => simp [intOf]; omega
          obtain rfl : j = c := by omega
          rw [List.take_of_length_le (show cl.length ≤ j by have := HCL.out; omega)]
          have hsc := HS3'.out j
          rw [List.take_of_length_le (show cl.length ≤ j by have := HCL.out; omega)] at hsc
          obtain ⟨sc, hsusc⟩ : ∃ q, szS cl = q := ⟨_, rfl⟩
          rw [hsusc] at hsc HTK ⊢
          have hsci : (sc : Int) ≤ 2814749767106560 := by omega
          clear hsusc hjn
          go_wp2
          go_roundw
          case rel => exact ⟨k + 1, by go_num, by omega, by omega, by rw [HTK.out]; go_num, hide ⟨by rw [HTK.out]; have := HZZ.out.2; omega, HAN.out⟩, HBX.out, HH1.out⟩
          case measure => simp [intOf]; omega
end Go.Proofs.YtaajofojbhdgaaaGreatDoor
/- Plain law of chapter 18: lines, continued lines, comments, words. No program in sight. -/
namespace Go.Proofs.YtaajofojbhdgaaaGreatDoor.Ln

abbrev T := List UInt8
/-- a text, parted at a byte -/
def spl (c : UInt8) : T → List T
  | [] => [[]]
  | b :: l => if b = c then [] :: spl c l else match spl c l with
    | [] => [[b]]
    | h :: t => (b :: h) :: t
theorem spl_ne (c : UInt8) (l : T) : spl c l ≠ [] := by
  cases l with
  | nil => simp [spl]
  | cons b l =>
    rw [spl]
    split
    · simp
    · split <;> simp
theorem spl_cons_ne {c b : UInt8} (h : b ≠ c) (l : T) : ∃ x t, spl c l = x :: t ∧ spl c (b :: l) = (b :: x) :: t := by
  cases hs : spl c l with
  | nil => exact absurd hs (spl_ne c l)
  | cons x t => exact ⟨x, t, rfl, by rw [spl, if_neg h, hs]⟩
theorem spl_none {c : UInt8} : ∀ {l : T}, c ∉ l → spl c l = [l]
  | [], _ => rfl
  | b :: l, h => by
    have h1 : b ≠ c := fun e => h (by simp [e])
    rw [spl, if_neg h1, spl_none (fun hc => h (by simp [hc]))]
theorem spl_app {c : UInt8} : ∀ {a : T} (b : T), c ∉ a → spl c (a ++ c :: b) = a :: spl c b
  | [], b, _ => by rw [List.nil_append, spl, if_pos rfl]
  | x :: a, b, h => by
    have h1 : x ≠ c := fun e => h (by simp [e])
    rw [List.cons_append, spl, if_neg h1, spl_app b (fun hc => h (by simp [hc]))]
theorem spl_both (c : UInt8) (a b : T) : spl c (a ++ c :: b) = spl c a ++ spl c b := by
  induction a with
  | nil =>
    rw [List.nil_append, show spl c (c :: b) = [] :: spl c b from if_pos rfl]; rfl
  | cons x a ih =>
    rw [List.cons_append, spl, spl, ih]
    by_cases h : x = c
    · rw [if_pos h, if_pos h]; rfl
    · rw [if_neg h, if_neg h]
      cases hs : spl c a with
      | nil => exact absurd hs (spl_ne c a)
      | cons y t => rfl
/-- the lines of a text: the last one may want its end -/
def cutL (s : T) : List T := if (spl 10 s).getLastD [] = [] then (spl 10 s).dropLast else spl 10 s
def blk (c : UInt8) : Bool := c == 32 || c == 9
def oddB (l : T) : Bool := (l.reverse.takeWhile (· == 92)).length % 2 == 1
def trimL (l : T) : T := l.dropWhile blk
def trimR (l : T) : T := (l.reverse.dropWhile blk).reverse
def dropTab (l : T) : T := match l with
  | 9 :: l => l
  | l => l
/-- a recipe's whole line: what was read last, all of it so far -/
def recF : List T → T → T → T × List T
  | [], _, acc => (acc, [])
  | n :: rest, s, acc => if oddB s = true then recF rest (dropTab n) (acc ++ 10 :: dropTab n) else (acc, n :: rest)
/-- a line that goes on, without its backslash and the blanks ahead of it, and a blank -/
def front (s : T) : T := trimR s.dropLast ++ [32]
def othF : List T → T → T × List T
  | [], s => (if oddB s = true then front s else s, [])
  | n :: rest, s => if oddB s = true then othF rest (front s ++ trimL n) else (s, n :: rest)
/-- a line without its comment -/
def comm : T → T
  | [] => []
  | [c] => if c = 35 then [] else [c]
  | c :: d :: l => if c = 92 ∧ d = 35 then 35 :: comm l else if c = 35 then [] else c :: comm (d :: l)
def plainF (s : T) : T := trimL (trimR (comm s))
abbrev Line := Bool × T
/-- the lines that are told, by steps -/
def linesF : Nat → List T → List Line
  | 0, _ => []
  | _ + 1, [] => []
  | f + 1, l :: rest => if l.headD 0 = 9 then (true, (recF rest l.tail l.tail).1) :: linesF f (recF rest l.tail l.tail).2
    else (if plainF (othF rest l).1 = [] then [] else [(false, plainF (othF rest l).1)]) ++ linesF f (othF rest l).2
def linesA (L : List T) : List Line := linesF L.length L
/-- what a makefile's text comes to: its lines, and an error or 0 -/
def readF (s : T) : List Line × Nat := if 16384 < s.length then ([], 3) else if 0 ∈ s then ([], 2) else (linesA (cutL s), 0)
/-- the words of a text -/
def wblk (c : UInt8) : Bool := c == 32 || c == 9 || c == 10
def wordsF : T → T → List T
  | [], w => if w = [] then [] else [w]
  | c :: l, w => if wblk c = true then (if w = [] then wordsF l [] else w :: wordsF l []) else wordsF l (w ++ [c])
end Go.Proofs.YtaajofojbhdgaaaGreatDoor.Ln
/- Plain law of paths: the names of a path, a path of names, a path from the root on. No program in sight. -/
namespace Go.Proofs.YtaajofojbhdgaaaGreatDoor.Pth
open Ln

def stepP (out : List T) (s : T) : List T := if s = [] ∨ s = [46] then out else if s = [46, 46] then out.dropLast else out ++ [s]
/-- the names of a path -/
def partsF (cwd p : T) : List T := (if p.head? = some 47 then spl 47 p else spl 47 cwd ++ spl 47 p).foldl stepP []
def withinF (p q : T) : Bool := decide ((partsF [47] q).take (partsF [47] p).length = partsF [47] p)
/-- the names, each behind a stroke -/
def slashed (l : List T) : T := l.flatMap (47 :: ·)
/-- the path of names -/
def joinF (l : List T) : T := if l = [] then [47] else slashed l
def longF (l : List T) : Bool := l.any fun s => decide (60 < s.length)
/-- a path from the root on, or an error -/
def absF (cwd p : T) : T × Nat := if p = [] ∨ 0 ∈ cwd ∨ 0 ∈ p then ([], 1) else
  if longF (partsF cwd p) = false ∧ (partsF cwd p).length ≤ 20 ∧ (joinF (partsF cwd p)).length ≤ 200 then (joinF (partsF cwd p), 0) else ([], 3)
/-- a name in a path -/
def okN (s : T) : Prop := s ≠ [] ∧ s ≠ [46] ∧ s ≠ [46, 46] ∧ 47 ∉ s
theorem stepP_ok {s : T} (h : okN s) (out : List T) : stepP out s = out ++ [s] := by
  rw [stepP, if_neg (by rintro (e | e); exact h.1 e; exact h.2.1 e), if_neg h.2.2.1]
theorem stepP_nil (out : List T) : stepP out [] = out := if_pos (.inl rfl)
theorem spl_noslash (c : UInt8) : ∀ (l : T) (s : T), s ∈ spl c l → c ∉ s
  | [], s, h => by rw [spl] at h; simp at h; subst h; simp
  | b :: l, s, h => by
    rw [spl] at h
    split at h
    · rcases List.mem_cons.1 h with rfl | h
      · simp
      · exact spl_noslash c l s h
    · rename_i hb
      cases hs : spl c l with
      | nil => rw [hs] at h; simp at h; subst h; simpa using fun e => hb e.symm
      | cons x t =>
        rw [hs] at h
        rcases List.mem_cons.1 h with rfl | h
        · have := spl_noslash c l x (by rw [hs]; simp)
          intro hc
          rcases List.mem_cons.1 hc with e | e
          · exact hb e.symm
          · exact this e
        · exact spl_noslash c l s (by rw [hs]; simp [h])
theorem foldl_okN : ∀ (L out : List T), (∀ s ∈ L, 47 ∉ s) → (∀ s ∈ out, okN s) → ∀ s ∈ L.foldl stepP out, okN s
  | [], _, _, ho => ho
  | x :: L, out, hL, ho => by
    rw [List.foldl_cons]
    refine foldl_okN L _ (fun s hs => hL s (by simp [hs])) (fun s hs => ?_)
    unfold stepP at hs
    split at hs
    · exact ho s hs
    · split at hs
      · exact ho s (List.dropLast_subset _ hs)
      · rename_i h1 h2
        rcases List.mem_append.1 hs with hs | hs
        · exact ho s hs
        · obtain rfl : s = x := by simpa using hs
          exact ⟨fun e => h1 (.inl e), fun e => h1 (.inr e), h2, hL _ (by simp)⟩
theorem partsF_ok (cwd p : T) : ∀ s ∈ partsF cwd p, okN s := by
  unfold partsF
  refine foldl_okN _ _ (fun s hs => ?_) (by simp)
  split at hs
  · exact spl_noslash _ _ _ hs
  · rcases List.mem_append.1 hs with hs | hs <;> exact spl_noslash _ _ _ hs
theorem spl_slashed : ∀ {l : List T}, (∀ s ∈ l, 47 ∉ s) → l ≠ [] → spl 47 (slashed l) = [] :: l
  | [], _, h => absurd rfl h
  | [s], h, _ => by
    have : slashed [s] = 47 :: s := by simp [slashed]
    rw [this, spl, if_pos rfl, spl_none (h s (by simp))]
  | s :: t :: l, h, _ => by
    have ih := spl_slashed (l := t :: l) (fun s hs => h s (by simp [hs])) (by simp)
    have e : slashed (s :: t :: l) = 47 :: (s ++ slashed (t :: l)) := by simp [slashed]
    have e2 : slashed (t :: l) = 47 :: (t ++ slashed l) := by simp [slashed]
    rw [e, spl, if_pos rfl, e2, spl_app _ (h s (by simp))]
    rw [e2, spl, if_pos rfl] at ih
    injection ih with _ ih
    rw [ih]
theorem foldl_names : ∀ (l out : List T), (∀ s ∈ l, okN s) → l.foldl stepP out = out ++ l
  | [], out, _ => by simp
  | s :: l, out, h => by
    rw [List.foldl_cons, stepP_ok (h s (by simp)), foldl_names l _ (fun s hs => h s (by simp [hs]))]
    simp
theorem joinF_head (l : List T) : (joinF l).head? = some 47 := by
  unfold joinF
  split
  · rfl
  · cases l with
    | nil => exact absurd rfl ‹_›
    | cons s l => simp [slashed]
/-- the names of a path of names -/
theorem parts_join {l : List T} (h : ∀ s ∈ l, okN s) (cwd : T) : partsF cwd (joinF l) = l := by
  unfold partsF
  rw [if_pos (joinF_head l)]
  by_cases e : l = []
  · subst e; rfl
  · rw [joinF, if_neg e, spl_slashed (fun s hs => (h s hs).2.2.2) e, List.foldl_cons, stepP_nil, foldl_names l [] h, List.nil_append]
theorem joinF_inj {a b : List T} (ha : ∀ s ∈ a, okN s) (hb : ∀ s ∈ b, okN s) (h : joinF a = joinF b) : a = b := by
  rw [← parts_join ha [], h, parts_join hb]
theorem slashed_app (a b : List T) : slashed (a ++ b) = slashed a ++ slashed b := by simp [slashed]
theorem slashed_len (l : List T) : (slashed l).length = (l.map (·.length + 1)).sum := by
  induction l with
  | nil => rfl
  | cons s l ih => rw [show slashed (s :: l) = (47 :: s) ++ slashed l by simp [slashed], List.length_append, ih]; simp
theorem slashed_ne {l : List T} (h : l ≠ []) : slashed l ≠ [] := by
  cases l with
  | nil => exact absurd rfl h
  | cons s l => simp [slashed]
theorem foldl_len : ∀ (L out : List T), (L.foldl stepP out).length ≤ out.length + L.length
  | [], out => by simp
  | x :: L, out => by
    rw [List.foldl_cons]
    have := foldl_len L (stepP out x)
    have h2 : (stepP out x).length ≤ out.length + 1 := by
      unfold stepP
      split
      · omega
      · split
        · rw [List.length_dropLast]; omega
        · simp
    simp only [List.length_cons]
    omega
theorem spl_len (c : UInt8) : ∀ l : T, (spl c l).length ≤ l.length + 1
  | [] => by simp [spl]
  | b :: l => by
    have := spl_len c l
    rw [spl]
    split
    · simp; omega
    · split
      · simp
      · rename_i h; rw [h] at this; simp at this ⊢; omega
theorem partsF_len (cwd p : T) : (partsF cwd p).length ≤ cwd.length + p.length + 2 := by
  unfold partsF
  refine Nat.le_trans (foldl_len _ _) ?_
  have h1 := spl_len 47 cwd
  have h2 := spl_len 47 p
  split
  · simp; omega
  · simp; omega
theorem sum_spl (c : UInt8) : ∀ l : T, ((spl c l).map (·.length + 1)).sum = l.length + 1
  | [] => rfl
  | b :: l => by
    have := sum_spl c l
    by_cases h : b = c
    · rw [spl, if_pos h]; simp at this ⊢; omega
    · obtain ⟨x, t, h1, h2⟩ := spl_cons_ne h l
      rw [h1] at this
      rw [h2]
      simp at this ⊢
      omega
theorem sum_fold : ∀ (L out : List T), ((L.foldl stepP out).map (·.length + 1)).sum ≤ (out.map (·.length + 1)).sum + (L.map (·.length + 1)).sum
  | [], out => by simp
  | x :: L, out => by
    rw [List.foldl_cons]
    have := sum_fold L (stepP out x)
    have h2 : ((stepP out x).map (·.length + 1)).sum ≤ (out.map (·.length + 1)).sum + (x.length + 1) := by
      unfold stepP
      split
      · omega
      · split
        · rw [List.dropLast_eq_take, List.map_take]
          refine Nat.le_trans ?_ (Nat.le_add_right _ _)
          conv => rhs; rw [← List.take_append_drop (out.length - 1) (out.map (·.length + 1)), List.sum_append]
          omega
        · simp
    rw [List.map_cons, List.sum_cons]
    omega
theorem joinF_len (cwd p : T) : (joinF (partsF cwd p)).length ≤ cwd.length + p.length + 3 ∧ ∀ s ∈ partsF cwd p, s.length ≤ cwd.length + p.length + 3 := by
  have h : ((partsF cwd p).map (·.length + 1)).sum ≤ cwd.length + p.length + 2 := by
    unfold partsF
    refine Nat.le_trans (sum_fold _ _) ?_
    have h1 := sum_spl 47 cwd
    have h2 := sum_spl 47 p
    split
    · simp only [List.map_nil, List.sum_nil]; omega
    · simp only [List.map_nil, List.sum_nil, List.map_append, List.sum_append]; omega
  refine ⟨?_, fun s hs => ?_⟩
  · unfold joinF
    split
    · simp
    · rw [slashed_len]; omega
  · have : ∀ L : List T, s ∈ L → s.length + 1 ≤ (L.map (·.length + 1)).sum := by
      intro L
      induction L with
      | nil => intro h; cases h
      | cons y L ih =>
        intro h
        rw [List.map_cons, List.sum_cons]
        rcases List.mem_cons.1 h with rfl | h
        · omega
        · have := ih h; omega
    have := this _ hs
    omega
/-- what a good path is -/
structure GoodP (l : List T) : Prop where
  ok : ∀ s ∈ l, okN s
  long : ∀ s ∈ l, s.length ≤ 60
  zero : ∀ s ∈ l, 0 ∉ s
  deep : l.length ≤ 20
  len : (joinF l).length ≤ 200
theorem longF_iff (l : List T) : longF l = false ↔ ∀ s ∈ l, s.length ≤ 60 := by
  unfold longF
  rw [List.any_eq_false]
  simp
theorem spl_mem_sub (c : UInt8) : ∀ (l : T) (s : T), s ∈ spl c l → ∀ x ∈ s, x ∈ l
  | [], s, h, x, hx => by rw [spl] at h; simp at h; subst h; cases hx
  | b :: l, s, h, x, hx => by
    rw [spl] at h
    split at h
    · rcases List.mem_cons.1 h with rfl | h
      · cases hx
      · exact List.mem_cons_of_mem _ (spl_mem_sub c l s h x hx)
    · cases hs : spl c l with
      | nil => rw [hs] at h; simp at h; subst h; simp at hx; simp [hx]
      | cons y t =>
        rw [hs] at h
        rcases List.mem_cons.1 h with rfl | h
        · rcases List.mem_cons.1 hx with rfl | hx
          · simp
          · exact List.mem_cons_of_mem _ (spl_mem_sub c l y (by rw [hs]; simp) x hx)
        · exact List.mem_cons_of_mem _ (spl_mem_sub c l s (by rw [hs]; simp [h]) x hx)
theorem foldl_zero : ∀ (L out : List T), (∀ s ∈ L, 0 ∉ s) → (∀ s ∈ out, 0 ∉ s) → ∀ s ∈ L.foldl stepP out, 0 ∉ s
  | [], _, _, ho => ho
  | x :: L, out, hL, ho => by
    rw [List.foldl_cons]
    refine foldl_zero L _ (fun s hs => hL s (by simp [hs])) (fun s hs => ?_)
    unfold stepP at hs
    split at hs
    · exact ho s hs
    · split at hs
      · exact ho s (List.dropLast_subset _ hs)
      · rcases List.mem_append.1 hs with hs | hs
        · exact ho s hs
        · obtain rfl : s = x := by simpa using hs
          exact hL _ (by simp)
theorem partsF_zero {cwd p : T} (h1 : 0 ∉ cwd) (h2 : 0 ∉ p) : ∀ s ∈ partsF cwd p, 0 ∉ s := by
  unfold partsF
  refine foldl_zero _ _ (fun s hs h0 => ?_) (by simp)
  split at hs
  · exact h2 (spl_mem_sub _ _ _ hs 0 h0)
  · rcases List.mem_append.1 hs with hs | hs
    · exact h1 (spl_mem_sub _ _ _ hs 0 h0)
    · exact h2 (spl_mem_sub _ _ _ hs 0 h0)
/-- the two ways of a path -/
theorem absF_cases (cwd p : T) : (∃ l, GoodP l ∧ absF cwd p = (joinF l, 0) ∧ partsF cwd p = l) ∨ ((absF cwd p).1 = [] ∧ ((absF cwd p).2 = 1 ∨ (absF cwd p).2 = 3)) := by
  unfold absF
  split
  · exact .inr ⟨rfl, .inl rfl⟩
  · rename_i h
    split
    · rename_i h2
      refine .inl ⟨_, ⟨partsF_ok _ _, (longF_iff _).1 h2.1, partsF_zero (fun c => h (.inr (.inl c))) (fun c => h (.inr (.inr c))), h2.2.1, h2.2.2⟩, rfl, rfl⟩
    · exact .inr ⟨rfl, .inr rfl⟩
theorem joinF_zero {l : List T} (h : ∀ s ∈ l, 0 ∉ s) : 0 ∉ joinF l := by
  unfold joinF
  split
  · simp
  · intro h0
    rw [slashed, List.mem_flatMap] at h0
    obtain ⟨s, hs, h0⟩ := h0
    rcases List.mem_cons.1 h0 with e | e
    · cases e
    · exact h s hs e
theorem joinF_ne (l : List T) : joinF l ≠ [] := by
  intro h
  have := joinF_head l
  rw [h] at this
  cases this
/-- a good path is its own -/
theorem absF_good {l : List T} (h : GoodP l) : absF [47] (joinF l) = (joinF l, 0) := by
  unfold absF
  rw [if_neg (by
    rintro (e | e | e)
    · exact joinF_ne l e
    · simp at e
    · exact joinF_zero h.zero e), parts_join h.ok, if_pos ⟨(longF_iff _).2 h.long, h.deep, h.len⟩]
theorem joinF_nil : joinF [] = [47] := rfl
theorem joinF_root {l : List T} (h : ∀ s ∈ l, okN s) : joinF l = [47] ↔ l = [] := by
  constructor
  · intro e
    have := joinF_inj h (b := []) (by simp) e
    exact this
  · rintro rfl; rfl
theorem GoodP.take {l : List T} (h : GoodP l) (k : Nat) : GoodP (l.take k) := by
  refine ⟨fun s hs => h.ok s (List.mem_of_mem_take hs), fun s hs => h.long s (List.mem_of_mem_take hs), fun s hs => h.zero s (List.mem_of_mem_take hs), by rw [List.length_take]; have := h.deep; omega, ?_⟩
  have h1 := h.len
  unfold joinF at h1 ⊢
  split
  · simp
  · rename_i he
    rw [if_neg (fun e => he (by rw [e, List.take_nil]))] at h1
    refine Nat.le_trans ?_ h1
    conv => rhs; rw [← List.take_append_drop k l, slashed_app, List.length_append]
    omega
theorem GoodP.nil : GoodP [] := ⟨by simp, by simp, by simp, by simp, by simp [joinF]⟩
end Go.Proofs.YtaajofojbhdgaaaGreatDoor.Pth
