/- Plain law: Go's fields at the blanks are the words, byte by byte. -/
import Derived.Test.YtkocnbehogefnaaDoorLinesWordsA
import Derived.Test.YtkocnbehogefnaaDoorLinesWordsB
import Derived.Lib.FieldsP
import Derived.Lib.TrimUEq
import Derived.Lib.SpaceUEq
import Derived.Lib.MapLaws
import Derived.Lib.RuneCount
namespace Go.Proofs.YtkocnbehogefnaaDoor
open Go.Lib Ln
/-- a rune is its byte, or it and its bytes are all beyond 127 -/
theorem rune_two (l : T) (i : Nat) : ((l.getD i 0).toNat < 128 ∧ Utf8.decode (bs l) i = ((l.getD i 0).toNat, 1)) ∨
    (128 ≤ (Utf8.decode (bs l) i).1 ∧ ∀ k, k < (Utf8.decode (bs l) i).2 → 128 ≤ (l.getD (i + k) 0).toNat) := by
  rw [decode_N, bs_list]
  generalize l.length - i = n
  have h := decodeN_shape n (l.getD i 0).toNat (l.getD (i + 1) 0).toNat (l.getD (i + 2) 0).toNat (l.getD (i + 3) 0).toNat
  by_cases hb : (l.getD i 0).toNat < 128
  · exact .inl ⟨hb, decodeN_ascii _ _ _ _ _ hb⟩
  · refine .inr ?_
    rcases h with h | ⟨_, _, h1, h2, e⟩ | ⟨_, _, h1, h2, h3, _, e⟩ | ⟨_, _, h1, h2, h3, h4, _, e⟩ | e
    · omega
    · rw [e]
      refine ⟨by simp only; omega, fun k hk => ?_⟩
      rcases k with _ | _ | k
      · rw [Nat.add_zero]; omega
      · show 128 ≤ (l.getD (i + 1) 0).toNat; omega
      · simp only at hk; omega
    · rw [e]
      refine ⟨by simp only; omega, fun k hk => ?_⟩
      rcases k with _ | _ | _ | k
      · rw [Nat.add_zero]; omega
      · show 128 ≤ (l.getD (i + 1) 0).toNat; omega
      · show 128 ≤ (l.getD (i + 2) 0).toNat; omega
      · simp only at hk; omega
    · rw [e]
      refine ⟨by simp only; omega, fun k hk => ?_⟩
      rcases k with _ | _ | _ | _ | k
      · rw [Nat.add_zero]; omega
      · show 128 ≤ (l.getD (i + 1) 0).toNat; omega
      · show 128 ≤ (l.getD (i + 2) 0).toNat; omega
      · show 128 ≤ (l.getD (i + 3) 0).toNat; omega
      · simp only at hk; omega
    · rw [e]
      refine ⟨by simp only; omega, fun k hk => ?_⟩
      obtain rfl : k = 0 := by simp only at hk; omega
      rw [Nat.add_zero]; omega
theorem wblk_big {c : UInt8} (h : 128 ≤ c.toNat) : wblk c = false := by
  cases e : wblk c with
  | false => rfl
  | true =>
    exfalso
    simp only [wblk, Bool.or_eq_true, beq_iff_eq] at e
    rcases e with (rfl | rfl) | rfl <;> (revert h; decide)
theorem wR_byte (c : UInt8) : wR c.toNat = wblk c := by
  have h : ∀ k : UInt8, (c.toNat == k.toNat) = (c == k) := fun k => by
    rw [Bool.eq_iff_iff, beq_iff_eq, beq_iff_eq]
    exact ⟨fun e => UInt8.toNat_inj.1 e, fun e => by rw [e]⟩
  unfold wR wblk
  rw [← h 32, ← h 9, ← h 10]
  rfl
theorem WI.goes {l : T} {C a : List T} {f i : Nat} (h : WI l C a f i) (hfi : f ≤ i) : ∀ d, i + d ≤ l.length → (∀ k, k < d → wblk (l.getD (i + k) 0) = false) → WI l C a f (i + d)
  | 0, _, _ => h
  | d + 1, hd, hk => (WI.goes h hfi d (by omega) (fun k hh => hk k (by omega))).go (by omega) (by omega) (hk d (by omega))
def piece (l : T) (x : Nat × Nat) : T := (l.drop x.1).take (x.2 - x.1)
theorem spans_close (l : T) (C : List T) (st : Option Nat) (acc : List (Nat × Nat)) (hs : ∀ f, st = some f → f < l.length) (h : WI l C (acc.map (piece l)) (st.getD l.length) l.length) : (closeSpans (bs l) (acc, st)).map (piece l) = C := by
  have h1 := h.1 (Nat.le_refl _)
  rw [List.drop_length] at h1
  cases st with
  | none =>
    rw [← h1]
    simp [closeSpans, wordsF]
  | some f =>
    have hf := hs f rfl
    have hne : (l.drop f).take (l.length - f) ≠ [] := by
      intro e
      have := congrArg List.length e
      rw [List.length_take, List.length_drop] at this
      simp at this
      omega
    rw [← h1]
    simp only [Option.getD_some, closeSpans, List.map_append, List.map_cons, List.map_nil, wordsF, if_neg hne, piece, bs_size]
theorem spans_words (l : T) (C : List T) : ∀ (n i : Nat) (st : Option Nat) (acc : List (Nat × Nat)), l.length - i ≤ n → i ≤ l.length → (∀ f, st = some f → f < i) → WI l C (acc.map (piece l)) (st.getD i) i →
    (closeSpans (bs l) (spansFromP wR (bs l) n i st acc)).map (piece l) = C
  | 0, i, st, acc, hn, hi, hs, h => by
    obtain rfl : i = l.length := by omega
    exact spans_close l C st acc hs h
  | n + 1, i, st, acc, hn, hi, hs, h => by
    by_cases hl : i < l.length
    · have hw1 : 1 ≤ (Utf8.decode (bs l) i).2 := decode_width_pos _ _ (by rw [bs_size]; exact hl)
      have hw2 : (Utf8.decode (bs l) i).2 ≤ l.length - i := by
        rw [decode_N, bs_list]
        exact decodeN_le_n' _ _ _ _ _ (by omega)
      have hfi : st.getD i ≤ i := by
        cases st with
        | none => exact Nat.le_refl _
        | some f => exact Nat.le_of_lt (hs f rfl)
      unfold spansFromP
      rw [if_pos (by rw [bs_size]; exact hl)]
      by_cases hb : wR (Utf8.decode (bs l) i).1 = true
      · have hA : wblk (l.getD i 0) = true ∧ (Utf8.decode (bs l) i).2 = 1 := by
          rcases rune_two l i with ⟨_, e⟩ | ⟨hr, _⟩
          · rw [e] at hb ⊢
            exact ⟨by rw [← wR_byte]; exact hb, rfl⟩
          · exfalso
            simp only [wR, Bool.or_eq_true, beq_iff_eq] at hb
            omega
        have h2 := h.stop hi (fun _ => hA.1)
        rw [if_pos hb, hA.2]
        cases st with
        | none =>
          refine spans_words l C n (i + 1) none acc (by omega) (by omega) (fun f e => by cases e) ?_
          rw [if_pos (by simp)] at h2
          exact h2
        | some f =>
          have hf := hs f rfl
          refine spans_words l C n (i + 1) none (acc ++ [(f, i)]) (by omega) (by omega) (fun f e => by cases e) ?_
          rw [if_neg (by
            intro e
            have := congrArg List.length e
            rw [Option.getD_some, List.length_take, List.length_drop] at this
            simp at this
            omega)] at h2
          rw [List.map_append]
          exact h2
      · have hk : ∀ k, k < (Utf8.decode (bs l) i).2 → wblk (l.getD (i + k) 0) = false := by
          rcases rune_two l i with ⟨_, e⟩ | ⟨_, h3⟩
          · rw [e] at hb ⊢
            intro k hk
            obtain rfl : k = 0 := by simp only at hk; omega
            rw [Nat.add_zero, ← wR_byte]
            simpa using hb
          · exact fun k hk => wblk_big (h3 k hk)
        have h2 := h.goes hfi _ (by omega) hk
        rw [if_neg hb]
        cases st with
        | none => exact spans_words l C n _ (some i) acc (by omega) (by omega) (fun f e => by injection e with e; omega) h2
        | some f => exact spans_words l C n _ (some f) acc (by omega) (by omega) (fun f' e => by injection e with e; have := hs f rfl; omega) h2
    · obtain rfl : i = l.length := by omega
      rw [spansFromP_end _ _ _ _ _ _ (by rw [bs_size]; omega)]
      exact spans_close l C st acc hs h
theorem fields_words (l : T) : goFieldsP wR (bs l) = (wordsF l []).map bs := by
  have h := spans_words l (wordsF l []) (bs l).size 0 none [] (by rw [bs_size]; omega) (Nat.zero_le _) (fun f e => by cases e) ⟨fun _ => by simp, fun h => by omega⟩
  rw [← h, List.map_map]
  unfold goFieldsP spansOfP
  refine List.map_congr_left fun x _ => ?_
  exact ext_bs l x.1 x.2
end Go.Proofs.YtkocnbehogefnaaDoor
