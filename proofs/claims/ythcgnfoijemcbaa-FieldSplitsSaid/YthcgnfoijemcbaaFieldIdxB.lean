/- Walk of strings.IndexAny at the blanks, whatever the text. -/
import Derived.Test.YthcgnfoijemcbaaFieldIdx
import Derived.Lib.IndexBytes
namespace Go.Proofs.Ythcgnfoijemcbaa
open Go.RowKit Go.Deep
set_option linter.unusedSimpArgs false
set_option linter.unusedVariables false
attribute [local go_sem] bt_eq

/-- the bytes of a rune that is no byte of ASCII are none either -/
theorem decode_cont (s : ByteArray) (p : Nat) (h : p < s.size) (ha : 128 ≤ (s[p]'h).toNat) : ∀ k, k < (Utf8.decode s p).2 → p + k < s.size ∧ 128 ≤ (s.get! (p + k)).toNat := by
  intro k hk
  have hn : ¬ (s[p]'h).toNat < 128 := by omega
  have z : p + 0 < s.size ∧ 128 ≤ (s.get! (p + 0)).toNat := ⟨by omega, by rw [get_at s p h]; exact ha⟩
  have c : ∀ j, (decide (p + j < s.size) && (s.get! (p + j)).toNat / 64 == 2) = true → p + j < s.size ∧ 128 ≤ (s.get! (p + j)).toNat := fun j hj => by
    simp only [Bool.and_eq_true, decide_eq_true_eq, beq_iff_eq] at hj
    exact ⟨hj.1, by omega⟩
  simp only [Utf8.decode, get_at s p h, hn, if_false] at hk
  split at hk
  · rename_i h1
    simp only [Bool.and_eq_true] at h1
    have c1 := c 1 (by simpa using h1.2)
    split at hk
    · match k, hk with
      | 0, _ => exact z
      | 1, _ => exact c1
    · match k, hk with
      | 0, _ => exact z
  · split at hk
    · rename_i h1
      simp only [Bool.and_eq_true] at h1
      have c1 := c 1 (by simpa using h1.1.2)
      have c2 := c 2 (by simpa using h1.2)
      split at hk
      · match k, hk with
        | 0, _ => exact z
        | 1, _ => exact c1
        | 2, _ => exact c2
      · match k, hk with
        | 0, _ => exact z
    · split at hk
      · rename_i h1
        simp only [Bool.and_eq_true] at h1
        have c1 := c 1 (by simpa using h1.1.1.2)
        have c2 := c 2 (by simpa using h1.1.2)
        have c3 := c 3 (by simpa using h1.2)
        split at hk
        · match k, hk with
          | 0, _ => exact z
          | 1, _ => exact c1
          | 2, _ => exact c2
          | 3, _ => exact c3
        · match k, hk with
          | 0, _ => exact z
      · match k, hk with
        | 0, _ => exact z
theorem blks_no {x : UInt8} (h : 128 ≤ x.toNat) : blks.data.toList.contains x = false := by
  rw [Bool.eq_false_iff]
  intro hc
  rw [List.contains_iff_mem] at hc
  have : x ∈ [32, 9, 10] := hc
  simp at this
  rcases this with rfl | rfl | rfl <;> revert h <;> decide
theorem get_at? (s : ByteArray) (p : Nat) (h : p < s.size) : s.data.toList[p]? = some (s.get! p) := by
  rw [Lib.data_getElem? s p h]
  congr 1
  have := get_at s p h
  rw [Nat.add_zero] at this
  exact this.symm
/-- no blank in a whole rune -/
theorem noany_rune {s : ByteArray} {p : Nat} (h : p < s.size) (ha : 128 ≤ (s[p]'h).toNat) (hn : Lib.NoAny s.data.toList blks.data.toList p) : ∀ k, k ≤ (Utf8.decode s p).2 → Lib.NoAny s.data.toList blks.data.toList (p + k)
  | 0, _ => hn
  | k + 1, hk => by
    obtain ⟨h1, h2⟩ := decode_cont s p h ha k (by omega)
    have ih := noany_rune h ha hn k (by omega)
    have := ih.succ (get_at? s (p + k) h1) (blks_no h2)
    exact this
/-- where the first blank is; -1: nowhere -/
def ixB (l : List UInt8) : Int := Lib.indexAny l blks.data.toList
theorem setZero (w : World) : (zeroValue 49).run Try.prog w = .ok (.agg (Array.replicate 256 (.bool false))) w := by kernel_rfl
theorem blks_ascii : ∀ (j : Nat) b, blks.data.toList[j]? = some b → b.toNat < 128 := fun j b h => by
  have := List.mem_of_getElem? h
  have : b ∈ [32, 9, 10] := this
  simp at this
  rcases this with rfl | rfl | rfl <;> decide
set_option maxRecDepth 100000 in
set_option maxHeartbeats 4000000 in
theorem iany_any (s : ByteArray) (w : World) (hs : s.size < 4294967281) :
    Calls Try.prog 16 #[.string s, .string blks] w fun e w' => e = .returned (.int .i64 (ixB s.data.toList)) ∧ Below w.heap.size w w' := by
  by_cases h8 : 8 < s.size
  · refine (Try.strings_IndexAny_long setZero s blks w (by decide) h8 hs (by decide) blks_ascii).mono ?_
    rintro e w' ⟨rfl, rfl⟩
    exact ⟨rfl, ((Below.refl _ _).alloc (Nat.le_refl _) _).alloc (by simp) _⟩
  · have hbz : blks.size = 3 := rfl
    have hbe : blks.toList.isEmpty = false := by rw [Lib.toList_data]; rfl
    have h8z : decide ((8 : Int) < (s.size : Int)) = false := decide_eq_false (by omega)
    have HSU := hide (fun Z => Try.strings_shouldUseASCIISet (s.size : Int) Z)
    rw [h8z] at HSU
    have hsz : (s.size : Int) ≤ 8 := by omega
    go_enter Try.func16, Try.ntmps16
    go_wp2_with fail
    refine (HSU.out w).mono ?_
    rintro e w' ⟨rfl, hw⟩
    obtain rfl := hw.symm
    go_wp2
    go_loopg [9, 10] s.size (fun q _ _ wr => ∃ p : Nat, p + q = s.size ∧ wr.heap[w.heap.size]? = some (.stringIter s p) ∧ Hid (Below w.heap.size w wr) ∧ Hid (Lib.NoAny s.data.toList blks.data.toList p))
    case atStart => exact ⟨0, by omega, World.iter_heap _ _ _, hide ((Below.refl _ _).alloc (Nat.le_refl _) _), hide (Lib.NoAny.zero _ _)⟩
    case round =>
      obtain ⟨p, hpq, hg, HB, HN⟩ := hrel
      by_cases hlt : p < s.size
      case neg =>
        have hnx := fun ty => next_fin (P := Try.prog) ty hg hlt
        have HE := hide (show ixB s.data.toList = -1 from Lib.indexAny_none (by
          rw [← Lib.size_eq]
          have := HN.out
          rwa [show p = s.size by omega] at this))
        clear hg
        go_wp2
        go_ret
        rw [HE.out]
        exact ⟨rfl, HB.out⟩
      have hnx := fun ty => next_gen (P := Try.prog) ty hg hlt
      have HG := hide hg
      have hgl := (Array.getElem?_eq_some_iff.1 hg).1
      by_cases ha : (s[p]'hlt).toNat < 128
      · have hxl := Lib.data_getElem? s p hlt
        have hdec := decode_ascii s p hlt ha
        rw [hdec] at hnx
        dsimp only at hnx
        obtain ⟨x, hx⟩ : ∃ x : UInt8, s[p]'hlt = x := ⟨_, rfl⟩
        rw [hx] at hxl hnx ha
        have HX := hide hxl
        have hax : (x.toNat : Int) < 128 := by omega
        have hcon := Lib.contains_iff_indexByte blks.data.toList x
        have hback : ((x.toNat : Int)).toNat.toUInt8 = x := by simp
        have HIR := hide (fun Z => Try.strings_IndexRune_ascii blks (x.toNat : Int) Z (by omega) hax)
        rw [hback] at HIR
        have HBI := hide (HB.out.trans (itW_below (W := wr) (s := s) (p := p + 1) (Nat.le_refl w.heap.size) HB.out.size))
        have HGI := hide (itW_at (p := p + 1) hg)
        cases hin : blks.data.toList.contains x with
        | false =>
          rw [hin] at hcon
          have hlt2 : ¬ ((0 : Int) ≤ Lib.indexByte blks.data.toList x) := of_decide_eq_false hcon.symm
          obtain ⟨q2, hq2⟩ : ∃ q, Lib.indexByte blks.data.toList x = q := ⟨_, rfl⟩
          rw [hq2] at HIR hlt2
          have HN2 := hide (HN.out.succ HX.out hin)
          clear hcon hin hxl hdec hx hg hq2
          go_wp2_with fail
          refine (HIR.out _).mono ?_
          rintro e w' ⟨rfl, hw⟩
          obtain rfl := hw.symm
          go_wp2
          go_roundg (s.size - (p + 1))
          case measure => omega
          case rel => exact ⟨p + 1, by omega, HGI.out, HBI, HN2⟩
        | true =>
          rw [hin] at hcon
          have hge : (0 : Int) ≤ Lib.indexByte blks.data.toList x := of_decide_eq_true hcon.symm
          obtain ⟨q2, hq2⟩ : ∃ q, Lib.indexByte blks.data.toList x = q := ⟨_, rfl⟩
          rw [hq2] at HIR hge
          have HE := hide (show ixB s.data.toList = (p : Int) from Lib.indexAny_hit HN.out HX.out hin)
          clear hcon hin hxl hdec hx hg hq2
          go_wp2_with fail
          refine (HIR.out _).mono ?_
          rintro e w' ⟨rfl, hw⟩
          obtain rfl := hw.symm
          go_wp2
          go_ret
          rw [HE.out]
          exact ⟨rfl, HBI.out⟩
      · have hdh := decode_high s p hlt (by omega)
        have hdl := decode_le s p
        have HN2 := hide (noany_rune hlt (by omega) HN.out _ (Nat.le_refl _))
        have hcn := decode_cont s p hlt (by omega) ((Utf8.decode s p).2 - 1) (by omega)
        obtain ⟨r, hr⟩ : ∃ r, (Utf8.decode s p).1 = r := ⟨_, rfl⟩
        obtain ⟨d, hd⟩ : ∃ r, (Utf8.decode s p).2 = r := ⟨_, rfl⟩
        rw [hr, hd] at hnx
        rw [hr, hd] at hdh
        rw [hr] at hdl
        rw [hd] at HN2 hcn
        have HIR := hide (fun Z => irune_high (r : Int) (by omega) (by omega) Z)
        have HBI := hide (HB.out.trans (itW_below (W := wr) (s := s) (p := p + d) (Nat.le_refl w.heap.size) HB.out.size))
        have HGI := hide (itW_at (p := p + d) hg)
        have hpd : p + d ≤ s.size := by omega
        have hd1 : 1 ≤ d := hdh.2
        clear hr hd hdh hdl hcn hg ha
        go_wp2_with fail
        refine (HIR.out _).mono ?_
        rintro e w' ⟨rfl, hb'⟩
        have hgl2 := (Array.getElem?_eq_some_iff.1 HGI.out).1
        have HG2 := hide ((hb'.block _ hgl2).trans HGI.out)
        have HB2 := hide (below_up HBI.out hb' HBI.out.size)
        clear hb' hgl2
        go_wp2
        go_roundg (s.size - (p + d))
        case measure => omega
        case rel => exact ⟨p + d, by omega, HG2.out, HB2, HN2⟩
end Go.Proofs.Ythcgnfoijemcbaa
