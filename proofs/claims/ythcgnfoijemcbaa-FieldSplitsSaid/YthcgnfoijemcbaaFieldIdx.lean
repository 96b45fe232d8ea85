/- Walk of strings.IndexAny at the blanks, whatever the text. -/
import Derived.Test.YthcgnfoijemcbaaShelf
import Derived.Test.YthcgnfoijemcbaaQBase
import Derived.Test.YthcgnfoijemcbaaSep
import Derived.Test.YthcgnfoijemcbaaBs
import Derived.Laws.RangeAny
import Derived.Laws.Runes
import Derived.Lib.IndexAny
import Derived.StillTailTactics
namespace Go.Proofs.Ythcgnfoijemcbaa
open Go.RowKit Go.Deep
set_option linter.unusedSimpArgs false
set_option linter.unusedVariables false
attribute [local go_sem] bt_eq

/-! a text's iterator that lies in some block -/
def itW (W : World) (g : Nat) (s : ByteArray) (p : Nat) : World := { W with heap := W.heap.setIfInBounds g (.stringIter s p) }
theorem itW_at {W : World} {g : Nat} {s : ByteArray} {p q : Nat} (h : W.heap[g]? = some (.stringIter s q)) : (itW W g s p).heap[g]? = some (.stringIter s p) := by
  have := (Array.getElem?_eq_some_iff.1 h).1
  simp [itW, this]
theorem itW_below {W : World} {g : Nat} {s : ByteArray} {p : Nat} {B : Nat} (h : B ≤ g) (hB : B ≤ W.heap.size) : Below B W (itW W g s p) := by
  refine ⟨rfl, rfl, rfl, by simp [itW], fun k hk => ?_⟩
  simp only [itW]
  rw [Array.getElem?_setIfInBounds_ne (by omega)]
theorem next_gen {P : Program} {W : World} {g : Nat} {s : ByteArray} {p : Nat} (ty : TypeId) (hg : W.heap[g]? = some (.stringIter s p)) (h : p < s.size) :
    (Instr.next (.pointer (some ⟨g, 0, none⟩)) true ty).run P W = .ok (.tuple #[.bool true, .int .i64 p, .int .i32 (Utf8.decode s p).1]) (itW W g s (p + (Utf8.decode s p).2)) := by
  simp only [Instr.next, getObj, setObj, Sem.run_bind, Sem.run, hg, Result.andThen, h, if_true]
  simp [goInt, itW]
theorem next_fin {P : Program} {W : World} {g : Nat} {s : ByteArray} {p : Nat} (ty : TypeId) (hg : W.heap[g]? = some (.stringIter s p)) (h : ¬ p < s.size) :
    (Instr.next (.pointer (some ⟨g, 0, none⟩)) true ty).run P W = .ok (.tuple #[.bool false]) W := by
  simp [Instr.next, getObj, Sem.run, hg, h]
def blks : ByteArray := ⟨#[32, 9, 10]⟩
theorem blks_lt (j : Nat) : bt blks j < 128 := by
  match j with
  | 0 => decide
  | 1 => decide
  | 2 => decide
  | j + 3 => show (blks.data.getD (j + 3) 0).toNat < 128; simp [blks]
theorem blks_dec {p : Nat} (h : p < 3) : Utf8.decode blks p = (bt blks p, 1) := by
  match p, h with
  | 0, _ => decide
  | 1, _ => decide
  | 2, _ => decide
theorem itW_pos {W : World} {g : Nat} {s : ByteArray} {p q : Nat} (h : W.heap[g]? = some (.stringIter s q)) : (itW W g s p).iterPos g = p := by
  unfold World.iterPos
  rw [itW_at h]
theorem iter_pos {W : World} {g : Nat} {s : ByteArray} {q : Nat} (h : W.heap[g]? = some (.stringIter s q)) : W.iterPos g = q := by
  unfold World.iterPos
  rw [h]
theorem ib_none {l : List UInt8} {c : UInt8} (h : c ∉ l) : Lib.indexByte l c = -1 := by
  by_cases k : 0 ≤ Lib.indexByte l c
  · exact absurd ((ixb_mem c l).1 k) h
  · have := ixb_ge c l; omega
theorem tail_none (m y : Nat) (h : 128 ≤ y) (hy : y < 256) (Z : World) : Calls Try.prog 27 #[.string (blks.extract (m + 1) blks.size), .int .u8 y] Z fun e w' => e = .returned (.int .i64 (-1)) ∧ w' = Z := by
  refine (Try.strings_IndexByte _ _ Z).mono ?_
  rintro e w' ⟨rfl, h2⟩
  refine ⟨?_, h2⟩
  rw [ib_none]
  intro hm
  obtain ⟨j, hj⟩ := List.getElem?_of_mem hm
  have hl : ∀ c ∈ (blks.extract (m + 1) blks.size).data.toList, c.toNat < 128 := by
    intro c hc
    have : c ∈ blks.data.toList := by
      rw [Lib.extract_data] at hc
      exact List.mem_of_mem_drop (List.mem_of_mem_take hc)
    revert this
    show c ∈ [32, 9, 10] → _
    simp
    rintro (rfl | rfl | rfl) <;> decide
  have := hl _ hm
  simp at this
  omega
set_option maxRecDepth 100000 in
set_option maxHeartbeats 4000000 in
/-- a rune that is no byte of ASCII is none of the blanks -/
theorem irune_high (r : Int) (h1 : 128 ≤ r) (h2 : r ≤ 2147483647) (w : World) :
    Calls Try.prog 22 #[.string blks, .int .i32 r] w fun e w' => e = .returned (.int .i64 (-1)) ∧ Below w.heap.size w w' := by
  have t1 : (0 : Int) ≤ r := by omega
  have t2 : ¬ r < 128 := by omega
  by_cases he : r = 65533
  · subst he
    go_enter Try.func22, Try.ntmps22
    go_wp2
    go_loopw [5, 6] (fun _ _ wr => ∃ p : Nat, p ≤ 3 ∧ wr.heap[w.heap.size]? = some (.stringIter blks p) ∧ Below w.heap.size w wr) (fun _ _ wr => 3 - wr.iterPos w.heap.size)
    case atStart => exact ⟨0, by omega, World.iter_heap _ _ _, (Below.refl _ _).alloc (Nat.le_refl _) _⟩
    case round =>
      obtain ⟨p, hp, hg, hb⟩ := hrel
      by_cases hlt : p < 3
      · have hnx := fun ty => next_gen (P := Try.prog) ty hg (show p < blks.size from hlt)
        rw [blks_dec hlt] at hnx
        have hbp := blks_lt p
        obtain ⟨c, hc⟩ : ∃ c, bt blks p = c := ⟨_, rfl⟩
        rw [hc] at hnx hbp
        have tb : decide ((c : Int) = 65533) = false := by simp; omega
        have tc : ¬ (c : Int) = 65533 := by omega
        have HG := hide hg
        have HB := hide hb
        clear hg hb hc
        go_wp2
        go_roundw
        case rel => exact ⟨p + 1, by omega, itW_at HG.out, HB.out.trans (itW_below (Nat.le_refl _) HB.out.size)⟩
        case measure => rw [itW_pos HG.out, iter_pos HG.out]; omega
      · have hnx := fun ty => next_fin (P := Try.prog) ty hg (show ¬ p < blks.size from hlt)
        have HB := hide hb
        clear hg hb
        go_wp2
        go_ret
        exact ⟨rfl, HB.out⟩
  · have t3 : decide (r = 65533) = false := by simpa using he
    have HV := hide (Try.utf8_ValidRune r)
    obtain ⟨v, hv⟩ : ∃ v, Lib.validRune r = v := ⟨_, rfl⟩
    rw [hv] at HV
    cases v with
    | false =>
      clear hv
      go_enter Try.func22, Try.ntmps22
      go_wp2_with fail
      refine (HV.out w).mono ?_
      rintro e w' ⟨rfl, hw⟩
      obtain rfl := hw.symm
      go_wp2
      go_ret
      exact ⟨rfl, Below.refl _ _⟩
    | true =>
      have hva : Utf8.valid r = true := by
        unfold Lib.validRune at hv
        unfold Utf8.valid
        simp at hv ⊢
        omega
      obtain ⟨e1, e2, e3⟩ := encode_facts r hva h1
      have e4 := e3 (by omega)
      rw [bt_eq] at e4
      obtain ⟨E, hE⟩ : ∃ E, Utf8.encode r = E := ⟨_, rfl⟩
      have HE := hide hE
      rw [hE] at e1 e2 e4
      obtain ⟨n, hn⟩ : ∃ n, E.size = n := ⟨_, rfl⟩
      rw [hn] at e1 e2 e4
      obtain ⟨m, rfl⟩ : ∃ m, n = m + 1 := ⟨n - 1, by omega⟩
      rw [Nat.add_sub_cancel] at e4
      have hmm : m = 1 ∨ m = 2 ∨ m = 3 := by omega
      have hlt := blks_lt m
      have hbz : blks.size = 3 := rfl
      obtain ⟨x, hx⟩ : ∃ x, bt blks m = x := ⟨_, rfl⟩
      obtain ⟨y, hy⟩ : ∃ y, bt E m = y := ⟨_, rfl⟩
      rw [hx] at hlt
      rw [hy] at e4
      have tn : ((x : Int) == (y : Int)) = false := by simp; omega
      have tn2 : (x : Int) ≠ (y : Int) := by omega
      have w1 : ((m + 1 : Nat) : Int) - 1 = (m : Int) := by omega
      have hm1 : (m : Int) < ((m + 1 : Nat) : Int) := by omega
      clear hv hva e3
      rcases hmm with rfl | rfl | rfl
      · have HIB := hide (fun Z => tail_none 1 y e4 (by rw [← hy]; exact bt_lt _ _) Z)
        go_enter Try.func22, Try.ntmps22
        go_wp2_with fail
        refine (HV.out w).mono ?_
        rintro e w' ⟨rfl, hw⟩
        obtain rfl := hw.symm
        go_wp2_with fail
        go_step3
        go_wp2_with fail
        go_loopw [9, 10] (fun v9 v10 wr => v9 = .int .i64 1 ∧ v10 = .int .i64 0 ∧ wr = w) (fun _ _ _ => 0)
        case atStart => exact ⟨rfl, rfl, rfl⟩
        case round =>
          obtain ⟨rfl, rfl, rfl⟩ := hrel
          go_wp2_with fail
          go_step3
          go_upto_region 6 with (fail)
          go_region
          go_wp2_with fail
          go_region_with (go_at_call 27; refine (HIB.out _).mono ?_; rintro e w' ⟨rfl, rfl⟩)
          go_wp2
          all_goals
            rw [Exit.noGoto_ret]
            simp +zetaDelta only [Exit.inBlock, Exit.noGoto_ret, Exit.then]

            go_ret
            exact ⟨rfl, (Below.refl _ _).drew.drew⟩
      · have HIB := hide (fun Z => tail_none 2 y e4 (by rw [← hy]; exact bt_lt _ _) Z)
        go_enter Try.func22, Try.ntmps22
        go_wp2_with fail
        refine (HV.out w).mono ?_
        rintro e w' ⟨rfl, hw⟩
        obtain rfl := hw.symm
        go_wp2_with fail
        go_step3
        go_wp2_with fail
        go_loopw [9, 10] (fun v9 v10 wr => v9 = .int .i64 2 ∧ v10 = .int .i64 0 ∧ wr = w) (fun _ _ _ => 0)
        case atStart => exact ⟨rfl, rfl, rfl⟩
        case round =>
          obtain ⟨rfl, rfl, rfl⟩ := hrel
          go_wp2_with fail
          go_step3
          go_upto_region 6 with (fail)
          go_region
          go_wp2_with fail
          go_region_with (go_at_call 27; refine (HIB.out _).mono ?_; rintro e w' ⟨rfl, rfl⟩)
          go_wp2
          all_goals
            rw [Exit.noGoto_ret]
            simp +zetaDelta only [Exit.inBlock, Exit.noGoto_ret, Exit.then]
            go_ret
            exact ⟨rfl, (Below.refl _ _).drew.drew⟩
      · go_enter Try.func22, Try.ntmps22
        go_wp2_with fail
        refine (HV.out w).mono ?_
        rintro e w' ⟨rfl, hw⟩
        obtain rfl := hw.symm
        go_wp2_with fail
        go_step3
        go_wp2_with fail
        go_loopw [9, 10] (fun v9 v10 wr => v9 = .int .i64 3 ∧ v10 = .int .i64 0 ∧ wr = w) (fun _ _ _ => 0)
        case atStart => exact ⟨rfl, rfl, rfl⟩
        case round =>
          obtain ⟨rfl, rfl, rfl⟩ := hrel
          go_wp2
          (try rw [Exit.noGoto_ret])
          go_ret
          exact ⟨rfl, Below.refl _ _⟩
end Go.Proofs.Ythcgnfoijemcbaa
