/- Small words and facts for walks: a text's byte by its index, rows and blocks, hiding. More words for walks: an append of one new element that tells which block it wrote; slices of bytes of the call's own. -/
import Derived.Test.YthcgnfoijemcbaaProg
import Derived.WalkKit
import Derived.WalkSpells
import Derived.WalkLawsBesides
import Derived.Handy
import Derived.BigQuiet
import Derived.Deep.QuietTactic
import Derived.Deep.OwnRows
import Derived.StillTailTactics
import Derived.Lib.Hide
import Derived.Deep.Light
import Derived.Deep.DeepCutAuto
import Derived.Deep.CutRange
import Derived.Deep.LoopGhost
import Derived.Deep.DeepFit
import Derived.Maps.AppendAt
import Derived.Deep.AppendLies
import Derived.ShutString
namespace Go.Proofs.Ythcgnfoijemcbaa
open Go.RowKit Go.Deep
/-- byte i of a text, 0 behind its end -/
def bt (s : ByteArray) (i : Nat) : Nat := (s.data.getD i 0).toNat
theorem bt_eq (s : ByteArray) (i : Nat) (h : i < s.size) : (s[i]'h).toNat = bt s i := by
  simp only [bt, Array.getD_eq_getD_getElem?]
  have h2 : i < s.data.size := h
  rw [Array.getElem?_eq_getElem h2]
  rfl
theorem bt_lt (s : ByteArray) (i : Nat) : bt s i < 256 := by
  have := (s.data.getD i 0).toNat_lt
  simpa [bt] using this
theorem hide {p : Prop} (h : p) : Hid p := h
theorem and63_i64 (k : Nat) (h : k ≤ 1000) : bits .and .i64 (k : Int) 63 = ((k % 64 : Nat) : Int) := by
  have hx : BitVec.ofInt 64 (k : Int) &&& BitVec.ofInt 64 (63 : Int) = BitVec.ofNat 64 (k % 64) := by
    have e1 : (BitVec.ofInt 64 (k : Int)).toNat = k := by
      rw [BitVec.ofInt_natCast, BitVec.toNat_ofNat]; exact Nat.mod_eq_of_lt (by omega)
    apply BitVec.eq_of_toNat_eq
    rw [BitVec.toNat_and, e1, show (BitVec.ofInt 64 (63 : Int)).toNat = 2 ^ 6 - 1 from rfl, Nat.and_two_pow_sub_one_eq_mod, BitVec.toNat_ofNat]
    omega
  show IntKind.i64.wrap ((BitVec.ofInt 64 (k : Int) &&& BitVec.ofInt 64 (63 : Int)).toNat : Int) = _
  rw [hx, BitVec.toNat_ofNat, IntKind.wrap_i64]
  omega
theorem below_drewN {B : Nat} {a w : World} (h : Below B a w) (n : Nat) : Below B a (w.drewN n) := ⟨h.os, h.tape, h.output, h.size, h.block⟩
theorem gb_drew {a w : World} {r : Option Nat} (h : a.grownBy w r) : a.grownBy w.drew r := ⟨h.os, h.tape, h.output, h.size, h.block⟩
theorem gb_drewN {a w : World} {r : Option Nat} (h : a.grownBy w r) (n : Nat) : a.grownBy (w.drewN n) r := ⟨h.os, h.tape, h.output, h.size, h.block⟩
theorem gb_trans {a b c : World} {r : Option Nat} (h : a.grownBy b r) (k : b.grownBy c r) : a.grownBy c r :=
  ⟨k.os.trans h.os, k.tape.trans h.tape, k.output.trans h.output, Nat.le_trans h.size k.size, fun i hi hne => (k.block i (Nat.lt_of_lt_of_le hi h.size) hne).trans (h.block i hi hne)⟩
theorem gb_alloc {a w : World} {r : Option Nat} (h : a.grownBy w r) (o : Obj) : a.grownBy (w.alloc o) r :=
  ⟨h.os, h.tape, h.output, Nat.le_trans h.size (by simp), fun i hi hne => (Below.heap_alloc w o i (Nat.lt_of_lt_of_le hi h.size)).trans (h.block i hi hne)⟩
theorem gb_setCell {a w : World} {g : Nat} (h : a.grownBy w (some g)) (i : Nat) (u : Value) : a.grownBy (w.setCell ⟨g, i, none⟩ u) (some g) :=
  ⟨h.os, h.tape, h.output, by simpa [World.setCell] using h.size, fun k hk hne => (Below.heap_setCell w _ u k (by rintro rfl; exact hne rfl)).trans (h.block k hk hne)⟩
theorem below_of_gb {B g : Nat} {a w : World} (h : a.grownBy w (some g)) (hB : B ≤ a.heap.size) (hg : B ≤ g) : Below B a w :=
  ⟨h.os, h.tape, h.output, h.size, fun k hk => h.block k (by omega) (by intro e; injection e; omega)⟩
theorem u64_or_pow (n b : Nat) (hn : n < 18446744073709551616) (hb : b < 64) : bits .or .u64 (n : Int) (IntKind.u64.wrap (2 ^ b)) = ((n ||| 2 ^ b : Nat) : Int) := by
  have h1 : (2 : Nat) ^ b < 18446744073709551616 := by
    have : (2 : Nat) ^ b < 2 ^ 64 := Nat.pow_lt_pow_right (by omega) hb
    simpa using this
  have e : IntKind.u64.wrap ((2 : Int) ^ b) = ((2 ^ b : Nat) : Int) := by
    rw [IntKind.wrap_u64]
    have : ((2 : Int) ^ b) = ((2 ^ b : Nat) : Int) := by push_cast; rfl
    rw [this]
    generalize 2 ^ b = x at h1
    omega
  rw [e, u64_or_nat n (2 ^ b) hn h1]
theorem u64_not (n : Nat) (hn : n < 18446744073709551616) : bits .xor .u64 (if IntKind.u64.signed = true then -1 else IntKind.u64.max) (n : Int) = ((18446744073709551615 - n : Nat) : Int) := by
  have e : (if IntKind.u64.signed = true then -1 else IntKind.u64.max) = ((18446744073709551615 : Nat) : Int) := by rw [if_neg (by decide)]; rfl
  rw [e, u64_xor_nat _ _ (by omega) hn]
  congr 1
  apply Nat.eq_of_testBit_eq
  intro b
  have e1 : 18446744073709551615 = 2 ^ 64 - (0 + 1) := by omega
  have e2 : 18446744073709551615 - n = 2 ^ 64 - (n + 1) := by omega
  rw [Nat.testBit_xor, e2, Nat.testBit_two_pow_sub_succ (by omega), e1, Nat.testBit_two_pow_sub_succ (by omega)]
  by_cases hb : b < 64
  · simp [hb]
  · have : n < 2 ^ b := Nat.lt_of_lt_of_le (show n < 2 ^ 64 by omega) (Nat.pow_le_pow_right (by omega) (by omega))
    simp [hb, Nat.testBit_lt_two_pow this]
theorem u64_bit (n b : Nat) (hn : n < 18446744073709551616) : bits .and .u64 ((n : Int) / 2 ^ b) 1 = ((n / 2 ^ b % 2 : Nat) : Int) := by
  have h1 : n / 2 ^ b < 18446744073709551616 := Nat.lt_of_le_of_lt (Nat.div_le_self _ _) hn
  have e : (n : Int) / 2 ^ b = ((n / 2 ^ b : Nat) : Int) := by push_cast; rfl
  have := u64_and_nat (n / 2 ^ b) 1 h1 (by omega)
  rw [e, show (1 : Int) = ((1 : Nat) : Int) from rfl, this, Nat.and_one_is_mod]
/-- append of one new element, just built, to a slice of the call's own -/
theorem wpList_app1 {P : Program} {ops : Array Oper} {rest : List Oper} {o : Oper} {a : Act} {Q : Exit → Act → World → Prop} (wr : World) (hgd : o.guard = none) (s x : Operand) (t : TypeId)
    (ho : o.op = .call { callee := .builtin .append, args := #[s, x], argTypes := #[t, t] })
    (base : Nat) (e : TypeId) (i : TypeInfo) (z : Value) (size bytes : Nat) (ht : P.underlying t = some (.slice e)) (hi : P.info? e = some i) (hz : i.zero = some z)
    (hsize : i.size = size) (hby : i.bytes = bytes) (hzs : z.cells.size = size) (hsz : 0 < size)
    (v : Value) (n : Nat) (xs : List Value) (hs : a.eval s = v) (hown : wr.ownsRow base e size v n xs)
    (news : Array Value) (c : Nat) (hx : a.eval x = .slice (some ⟨wr.heap.size, 0, none⟩) 1 c) (hl : news.size = size) (h1 : ∀ u ∈ news.toList, u.oneCell' = true)
    (h63 : n + 1 ≤ maxLen) (hbytes : (n + 1) * bytes ≤ 140737488355328) (hbase : base ≤ wr.heap.size) (B : Nat) (w0 : World) (hB : Below B w0 wr) (hb0 : B ≤ base)
    (h : ∀ v' w', w'.ownsRow base e size v' (n + 1) (xs ++ news.toList) → Below B w0 w' → wpList P ops Q rest (a.put o.dst v') w') : wpList P ops Q (o :: rest) a (wr.alloc (.cells news e)) := by
  refine wpList_append_own _ hgd s x t ho base e i z size bytes ht hi hz hsize hby hzs hsz v n xs hs (hown.alloc _) ⟨wr.heap.size, 0, none⟩ 1 c news.toList hx (by simp [hl]) (fun j u hu => ?_) h1 h63 hbytes (by simp; omega) ?_
  · have : (wr.alloc (.cells news e)).cell? ⟨wr.heap.size, j, none⟩ = some u := by
      rw [World.cell?_alloc_at _ _ _ _ rfl]
      simpa using hu
    unfold Addr.add
    by_cases hj : j = 0
    · subst hj; simpa using this
    · simpa [hj] using this
  · intro v' w' hown' hg _
    refine h v' w' hown' ?_
    exact (hB.alloc (by omega) _).grown hg (by simp; omega) (fun k hk => by
      have := hown.lt k hk
      omega)
theorem own_below {w w' : World} {base : Nat} {e : TypeId} {size n : Nat} {v : Value} {xs : List Value} (h : w.ownsRow base e size v n xs) (hb : Below w.heap.size w w') : w'.ownsRow base e size v n xs :=
  h.kept (row := none) ⟨hb.os, hb.tape, hb.output, hb.size, fun i hi _ => hb.block i hi⟩ (by
    rcases h' : v.ownBlock with _ | k
    · exact .inl rfl
    · exact .inr (by simp))
theorem own_gb {w w' : World} {base : Nat} {e : TypeId} {size n g : Nat} {v : Value} {xs : List Value} (h : w.ownsRow base e size v n xs) (hg : w.grownBy w' (some g)) (hne : ∀ k, v.ownBlock = some k → k ≠ g) : w'.ownsRow base e size v n xs :=
  h.kept hg (by
    rcases h' : v.ownBlock with _ | k
    · exact .inl rfl
    · exact .inr (by intro e; injection e with e; exact hne k h' e))
theorem below_up {B : Nat} {a b c : World} (h : Below B a b) (k : Below b.heap.size b c) (hB : B ≤ b.heap.size) : Below B a c := h.trans (k.mono hB)
end Go.Proofs.Ythcgnfoijemcbaa
namespace Go.Proofs.Ythcgnfoijemcbaa
open Go.RowKit Go.Deep
/-- append of one new element, just built, to a slice of the call's own: which block is written -/
theorem wpList_app1at {P : Program} {ops : Array Oper} {rest : List Oper} {o : Oper} {a : Act} {Q : Exit → Act → World → Prop} (wr : World) (hgd : o.guard = none) (s x : Operand) (t : TypeId)
    (ho : o.op = .call { callee := .builtin .append, args := #[s, x], argTypes := #[t, t] })
    (base : Nat) (e : TypeId) (i : TypeInfo) (z : Value) (size bytes : Nat) (ht : P.underlying t = some (.slice e)) (hi : P.info? e = some i) (hz : i.zero = some z)
    (hsize : i.size = size) (hby : i.bytes = bytes) (hzs : z.cells.size = size) (hsz : 0 < size)
    (v : Value) (n : Nat) (xs : List Value) (hs : a.eval s = v) (hown : wr.ownsRow base e size v n xs)
    (news : Array Value) (c : Nat) (hx : a.eval x = .slice (some ⟨wr.heap.size, 0, none⟩) 1 c) (hl : news.size = size) (h1 : ∀ u ∈ news.toList, u.oneCell' = true)
    (h63 : n + 1 ≤ maxLen) (hbytes : (n + 1) * bytes ≤ 140737488355328) (hbase : base ≤ wr.heap.size)
    (h : ∀ v' w', w'.ownsRow base e size v' (n + 1) (xs ++ news.toList) → (wr.alloc (.cells news e)).grownBy w' v.ownBlock → (v'.ownBlock = v.ownBlock ∨ v'.ownBlock = some (wr.heap.size + 1)) → wpList P ops Q rest (a.put o.dst v') w') :
    wpList P ops Q (o :: rest) a (wr.alloc (.cells news e)) := by
  refine wpList_append_own_at _ hgd s x t ho base e i z size bytes ht hi hz hsize hby hzs hsz v n xs hs (hown.alloc _) ⟨wr.heap.size, 0, none⟩ 1 c news.toList hx (by simp [hl]) (fun j u hu => ?_) h1 h63 hbytes (by simp; omega) ?_
  · have : (wr.alloc (.cells news e)).cell? ⟨wr.heap.size, j, none⟩ = some u := by
      rw [World.cell?_alloc_at _ _ _ _ rfl]
      simpa using hu
    unfold Addr.add
    by_cases hj : j = 0
    · subst hj; simpa using this
    · simpa [hj] using this
  · intro v' w' hown' hg _ hb
    exact h v' w' hown' hg (by simpa using hb)
def nbytes (l : List Nat) : List Value := l.map fun n => .int .u8 (n : Nat)
/-- a slice of bytes of the call's own -/
def OwnB (w : World) (base : Nat) (v : Value) (l : List Nat) : Prop := w.ownsRow base 5 1 v l.length (nbytes l)
theorem own_row_ne {w : World} {base : Nat} {e : TypeId} {size n : Nat} {v : Value} {xs : List Value} {g t N : Nat} {f : Nat → Value} (h : w.ownsRow base e size v n xs) (hr : w.rowIs g t N f) (hne : e ≠ t) : v.ownBlock ≠ some g := by
  rcases h.2 with ⟨rfl, _⟩ | ⟨g', cap, cur, rfl, _, hh, _⟩
  · simp [Value.ownBlock]
  · intro he
    have : g' = g := by simpa [Value.ownBlock] using he
    subst this
    obtain ⟨c, hb, _, _⟩ := hr
    rw [hh] at hb
    injection hb with hb
    injection hb with _ ht
    exact hne ht
theorem own_own_ne {w : World} {base base' : Nat} {e e' : TypeId} {size n size' n' : Nat} {v v' : Value} {xs xs' : List Value} (h : w.ownsRow base e size v n xs) (h' : w.ownsRow base' e' size' v' n' xs') (hne : e ≠ e') :
    v.ownBlock = none ∨ v.ownBlock ≠ v'.ownBlock := by
  rcases h.2 with ⟨rfl, _⟩ | ⟨g, cap, cur, rfl, _, hh, _⟩
  · left; rfl
  · right
    rcases h'.2 with ⟨rfl, _⟩ | ⟨g', cap', cur', rfl, _, hh', _⟩
    · simp [Value.ownBlock]
    · intro he
      have : g = g' := by simpa [Value.ownBlock] using he
      subst this
      rw [hh] at hh'
      injection hh' with hb
      injection hb with _ ht
      exact hne ht
theorem own_setCell_row {w : World} {base : Nat} {e : TypeId} {size n : Nat} {v : Value} {xs : List Value} {g t N : Nat} {f : Nat → Value} (h : w.ownsRow base e size v n xs) (hr : w.rowIs g t N f) (hne : e ≠ t) (i : Nat) (u : Value) :
    (w.setCell ⟨g, i, none⟩ u).ownsRow base e size v n xs :=
  h.kept (gb_setCell (World.grownBy.refl w (some g)) i u) (.inr (own_row_ne h hr hne))
theorem info5 : (Try.prog.info? 5).map (fun i => (i.zero, i.size, i.bytes)) = some (some (.int .u8 0), 1, 1) := by kernel_rfl
theorem nbytes_snoc (l : List Nat) (b : Nat) : nbytes (l ++ [b]) = nbytes l ++ [.int .u8 b] := by simp [nbytes]
/-- append of one byte to a slice of bytes of the call's own -/
theorem wpList_appB {ops : Array Oper} {rest : List Oper} {o : Oper} {a : Act} {Q : Exit → Act → World → Prop} (wr : World) (hgd : o.guard = none) (s x : Operand)
    (ho : o.op = .call { callee := .builtin .append, args := #[s, x], argTypes := #[36, 36] }) (base : Nat) (v : Value) (l : List Nat) (hs : a.eval s = v)
    (hown : OwnB wr base v l) (b : Nat) (hx : a.eval x = .slice (some ⟨wr.heap.size, 0, none⟩) 1 1) (hl : l.length ≤ 1000000) (hbase : base ≤ wr.heap.size)
    (h : ∀ v' w', OwnB w' base v' (l ++ [b]) → (wr.alloc (.cells #[.int .u8 (b : Nat)] 5)).grownBy w' v.ownBlock → (v'.ownBlock = v.ownBlock ∨ v'.ownBlock = some (wr.heap.size + 1)) → wpList Try.prog ops Q rest (a.put o.dst v') w') :
    wpList Try.prog ops Q (o :: rest) a (wr.alloc (.cells #[.int .u8 (b : Nat)] 5)) := by
  obtain ⟨i0, hi, hz0, hz1, hz2⟩ := info_parts info5
  refine wpList_app1at wr hgd s x 36 ho base 5 i0 _ 1 1 Try.underlying36 hi hz0 hz1 hz2 rfl (by omega) v l.length (nbytes l) hs hown _ 1 hx rfl (by intro u hu; simp at hu; subst hu; rfl)
    (by simp only [maxLen]; omega) (by omega) hbase ?_
  intro v' w' ho' hg hb
  refine h v' w' ?_ hg hb
  unfold OwnB
  rw [nbytes_snoc, List.length_append]
  exact ho'
theorem Try.info4 : (Try.prog.info? 4).map (fun i => (i.zero, i.size, i.bytes)) = some (some (.bool false), 1, 1) := by kernel_rfl
theorem row0 (w : World) (n : Nat) (t : TypeId) (u z : Value) : (w.alloc (.cells ((madeCells #[z] n).setIfInBounds 0 u) t)).rowIs w.heap.size t n (fun k => if k = 0 then u else z) := by
  obtain ⟨c, hb, hn, hc⟩ := World.rowIs_made w z n t
  have e : c = madeCells #[z] n := by
    have h2 : (w.alloc (.cells (madeCells #[z] n) t)).heap[w.heap.size]? = some (.cells (madeCells #[z] n) t (0, 0)) := heap_alloc_new w _
    rw [hb] at h2
    injection h2 with h2
    injection h2
  subst e
  have h3 : ((madeCells #[z] n).setIfInBounds 0 u).size = n := by simp [hn]
  have := World.rowIs_alloc w ((madeCells #[z] n).setIfInBounds 0 u) t (fun k => if k = 0 then u else z) (fun i hi => by
    rw [h3] at hi
    by_cases h0 : i = 0
    · subst h0
      simp [hn, hi]
    · rw [Array.getElem?_setIfInBounds]
      simp only [h0, if_false]
      rw [if_neg (fun e => h0 e.symm)]
      exact hc i hi)
  rwa [h3] at this
end Go.Proofs.Ythcgnfoijemcbaa
