/- The walk of the law GlobPlain, from the contracts. -/
import Derived.Test.YtkhomdannnklhaaGlobLawD
import Derived.Test.YtkhomdannnklhaaGlobWalkG
import Derived.Test.YtkhomdannnklhaaGlobPlainD
namespace Go.Proofs.Ytkhomdannnklhaa
open Go.RowKit Go.Deep Qm.Glob
attribute [local go_sem] bt_eq strOfNums_size

theorem bt_sb (l : List Nat) (j : Nat) : bt (sb l) j = l.getD j 0 % 256 := by
  rw [sb, bt_nums]
  simp only [List.getD_eq_getElem?_getD, List.getElem?_map]
  cases l[j]? <;> rfl
theorem plain_same (p : ByteArray) : plAll (gItems (bt p) p.size) = rAll (rItems (bt p) p.size) ∧ (plAll (gItems (bt p) p.size) = true → plBytes (gItems (bt p) p.size) = rBytes (rItems (bt p) p.size) ∧ gItems (bt p) p.size = (plBytes (gItems (bt p) p.size)).map giOne) :=
  sameP_all (sameP_it (bt p) p.size (p.size + 1) 0)
/-- every byte of a pattern's items is one -/
theorem gIt_byte {t : Nat → Nat} (ht : ∀ j, t j < 256) (n : Nat) : ∀ f i x, x ∈ gIt t n f i → x.c < 256
  | 0, _, x, h => by simp [gIt] at h
  | f + 1, i, x, h => by
    rw [gIt] at h
    have ih := gIt_byte ht n f
    have h1 := ht i
    have h2 := ht (i + 1)
    by_cases h0 : i < n
    · rw [if_pos h0] at h
      (repeat' split at h) <;> rcases List.mem_cons.1 h with rfl | h <;> first | exact ih _ _ h | (simp [giStar, giAny, giOne, giSet]; done) | (simp [giOne]; omega)
    · rw [if_neg h0] at h
      simp at h
theorem match_plain {p : ByteArray} (h : plAll (gItems (bt p) p.size) = true) (s : ByteArray) :
    gMatch p s = (s.size == (plBytes (gItems (bt p) p.size)).length && (List.range (plBytes (gItems (bt p) p.size)).length).all fun j => bt s j == (plBytes (gItems (bt p) p.size)).getD j 0) := by
  rw [gMatch_EL]
  have e := ((plain_same p).2 h).2
  rw [← EL_text (bt s) (plBytes (gItems (bt p) p.size)) s.size, ← e]
theorem plBytes_lt (p : ByteArray) (j : Nat) : (plBytes (gItems (bt p) p.size)).getD j 0 < 256 := by
  rw [List.getD_eq_getElem?_getD]
  cases h : (plBytes (gItems (bt p) p.size))[j]? with
  | none => simp
  | some c =>
    simp only [Option.getD_some]
    obtain ⟨x, hx, rfl⟩ := List.mem_map.1 (List.mem_of_getElem? h)
    exact gIt_byte (bt_lt p) _ _ _ x hx
theorem match_own {p : ByteArray} (h : plAll (gItems (bt p) p.size) = true) : gMatch p (sb (plBytes (gItems (bt p) p.size))) = true := by
  rw [match_plain h, sb_size]
  simp only [beq_self_eq_true, Bool.true_and, List.all_eq_true, beq_iff_eq]
  intro j hj
  rw [bt_sb]
  exact Nat.mod_eq_of_lt (plBytes_lt p j)

set_option maxRecDepth 100000 in
set_option maxHeartbeats 1000000 in
theorem law_globPlain (p : ByteArray) (w0 : p.size ≤ maxLen) (w : World) :
    Calls Try.prog 7 #[.string p] w fun e w' => e = .returned (.bool true) ∧ Below w.heap.size w w' := by
  unfold maxLen at w0
  by_cases c1 : 100 < p.size
  · go_enter Try.func7, Try.ntmps7
    go_wp2_with fail
    refine (alive1_any w).mono ?_
    rintro e w1 ⟨rfl, hb1⟩
    go_wp2
    go_ret
    exact ⟨rfl, hb1⟩
  · go_enter Try.func7, Try.ntmps7
    go_wp2_with fail
    refine (alive1_any w).mono ?_
    rintro e w1 ⟨rfl, hb1⟩
    have hpl := plain_same p
    have hmo := @match_own p
    have hlen : (plBytes (gItems (bt p) p.size)).length ≤ 1000 := by
      have := gItems_len (bt p) p.size
      simp only [plBytes, List.length_map]
      omega
    go_wp2_with fail
    refine (plain_any p w1 (by omega)).mono ?_
    rintro e w2 ⟨rfl, hb2⟩
    generalize plAll (gItems (bt p) p.size) = ok at hpl hmo ⊢
    generalize hbs : plBytes (gItems (bt p) p.size) = l at hpl hmo hlen ⊢
    have HPL := hide hpl
    have HMO := hide hmo
    clear hpl hmo hbs
    have hlen2 : (sb l).size ≤ 1000 := by rw [sb_size]; exact hlen
    cases ok with
    | false =>
      simp only [plVal, Bool.false_eq_true, if_false]
      go_wp2_with fail
      refine (rplain_any p w2 (by omega)).mono ?_
      rintro e w3 ⟨rfl, hb3⟩
      rw [← HPL.out.1]
      simp only [plVal, Bool.false_eq_true, if_false]
      have HF := hide (below_up (below_up hb1 hb2 hb1.size) hb3 (by have s1 := hb1.size; have s2 := hb2.size; omega))
      clear hb1 hb2 hb3
      go_wp2
      go_ret
      exact ⟨rfl, HF.out⟩
    | true =>
      simp only [plVal, if_true]
      go_wp2_with fail
      refine (rplain_any p w2 (by omega)).mono ?_
      rintro e w3 ⟨rfl, hb3⟩
      rw [← HPL.out.1, ← (HPL.out.2 (by trivial)).1]
      simp only [plVal, if_true]
      go_wp2_with fail
      refine (match_any p (sb l) _ (by omega) hlen2).mono ?_
      rintro e w4 ⟨rfl, hb4⟩
      rw [HMO.out (by trivial)]
      have HF := hide (below_up (below_up (below_up hb1 hb2 hb1.size) hb3 (by have s1 := hb1.size; have s2 := hb2.size; omega)) hb4 (by have s1 := hb1.size; have s2 := hb2.size; have s3 := hb3.size; omega))
      clear hb1 hb2 hb3 hb4
      go_wp2
      go_ret
      exact ⟨rfl, HF.out⟩
end Go.Proofs.Ytkhomdannnklhaa
