/- Walk of package glob's Names. -/
import Derived.Test.YthlboecjlelemaaNamesWalkA
import Derived.Test.YthlboecjlelemaaShelf
import Derived.Sort.OwnSorted
namespace Go.Proofs.Ythlboecjlelemaa
open Go.RowKit Go.Deep Qm.Glob Qm.Base
open Go.Sort
attribute [local go_sem] bt_eq

/-- a text's bytes; a text of bytes -/
def tl (s : ByteArray) : Tx := s.data.toList
def tb (l : Tx) : ByteArray := ⟨l.toArray⟩
theorem tb_tl (s : ByteArray) : tb (tl s) = s := by cases s; rfl
theorem tl_tb (l : Tx) : tl (tb l) = l := rfl
theorem map_tb_tl (L : List ByteArray) : (L.map tl).map tb = L := by
  rw [List.map_map]
  exact (List.map_congr_left fun s _ => tb_tl s).trans (List.map_id _)
theorem vals_tb (l : List Tx) : strVals (l.map tb) = l.map encStr := by
  rw [strVals, List.map_map]
  rfl
theorem vals_tl (L : List ByteArray) : strVals L = (L.map tl).map encStr := by
  rw [← vals_tb, map_tb_tl]
theorem sLt_tl (a b : ByteArray) : sLt a b = decide (tl a < tl b) := by
  rw [sLt, bytesLess_eq, ByteArray.toList_eq, ByteArray.toList_eq]
  rfl
theorem putS_tl (s : ByteArray) : ∀ L : List ByteArray, (putS s L).map tl = putT (tl s) (L.map tl)
  | [] => rfl
  | x :: L => by
    rw [putS, List.map_cons, putT, sLt_tl]
    by_cases h : tl x < tl s
    · rw [if_pos (by simpa using h), if_pos h, List.map_cons, putS_tl s L]
    · rw [if_neg (by simpa using h), if_neg h]
      by_cases e : x = s
      · rw [if_pos e, if_pos (by rw [e])]; rfl
      · rw [if_neg e, if_neg (fun e2 => e (by rw [← tb_tl x, ← tb_tl s, e2]))]; rfl
theorem putAll_tl : ∀ (F acc : List ByteArray), (F.foldl (fun acc s => putS s acc) acc).map tl = (F.map tl).foldl (fun acc s => putT s acc) (acc.map tl)
  | [], acc => rfl
  | s :: F, acc => by
    rw [List.foldl_cons, putAll_tl F, List.map_cons, List.foldl_cons, putS_tl]
theorem names_sorted (p : ByteArray) (L : List ByteArray) : (Lib.compact ((((L.filter (keepN p)).map tl).mergeSort fun x y => decide (x ≤ y)))).map tb = namesOf p L := by
  rw [sorted_put, putAll, show ([] : List Tx) = ([] : List ByteArray).map tl from rfl, ← putAll_tl, map_tb_tl]
  rfl
theorem hasdot_any (s : ByteArray) (w : World) : Calls Try.prog 57 #[.string s, .string ⟨#[46]⟩] w fun e w' => e = .returned (.bool (dotS s)) ∧ w = w' :=
  (Try.strings_HasPrefix s ⟨#[46]⟩ w).mono fun e w' ⟨h1, h2⟩ => ⟨by
    rw [h1]
    congr 2
    obtain ⟨⟨l⟩⟩ := s
    cases l with
    | nil => rfl
    | cons a l =>
      have e : dotS ⟨⟨a :: l⟩⟩ = (a.toNat == 46) := by simp [dotS, bt, ByteArray.size]
      rw [e]
      show (46 == a && true) = _
      rw [Bool.and_true, Bool.eq_iff_iff]
      simp only [beq_iff_eq]
      exact ⟨fun h => by rw [← h]; rfl, fun h => UInt8.toNat_inj.1 h.symm⟩, h2.symm⟩
def bsdP (p : ByteArray) : Bool := decide (1 < p.size) && bt p 0 == 92 && bt p 1 == 46
theorem hasbs_any (s : ByteArray) (w : World) : Calls Try.prog 57 #[.string s, .string ⟨#[92, 46]⟩] w fun e w' => e = .returned (.bool (bsdP s)) ∧ w = w' :=
  (Try.strings_HasPrefix s ⟨#[92, 46]⟩ w).mono fun e w' ⟨h1, h2⟩ => ⟨by
    rw [h1]
    congr 2
    obtain ⟨⟨l⟩⟩ := s
    rcases l with _ | ⟨a, _ | ⟨b, l⟩⟩
    · rfl
    · show (92 == a && false) = _
      rw [Bool.and_false]
      simp [bsdP, ByteArray.size]
    · have e : bsdP ⟨⟨a :: b :: l⟩⟩ = (a.toNat == 92 && b.toNat == 46) := by simp [bsdP, bt, ByteArray.size]
      rw [e]
      show (92 == a && (46 == b && true)) = _
      rw [Bool.and_true, Bool.eq_iff_iff]
      simp only [Bool.and_eq_true, beq_iff_eq]
      exact ⟨fun ⟨h, k⟩ => by rw [← h, ← k]; exact ⟨rfl, rfl⟩, fun ⟨h, k⟩ => ⟨UInt8.toNat_inj.1 h.symm, UInt8.toNat_inj.1 k.symm⟩⟩, h2.symm⟩
theorem dotP_eq (p : ByteArray) : dotP p = (dotS p || bsdP p) := rfl
/-- Sort on texts of the call's own -/
theorem sort_own {w : World} {base : Nat} {v : Value} {F : List ByteArray} (h : OwnS w base v F) (hl : F.length ≤ 100000) :
    Calls Try.prog 58 #[v] w fun e w' => e = .returned (.tuple #[]) ∧ OwnS w' base v (((F.map tl).mergeSort fun x y => decide (x ≤ y)).map tb) ∧ w.grownBy w' v.ownBlock := by
  rcases h.2 with ⟨rfl, hn⟩ | ⟨g, cap, cur, rfl, hbg, hh, hc, hm, hs, ht⟩
  · have hF : F = [] := List.eq_nil_of_length_eq_zero hn
    subst hF
    exact (Try.slices_Sort_string_none none 0 w).mono fun e w' ⟨h1, h2⟩ => ⟨h1, by rw [h2]; simpa using OwnS.nil w base, by rw [h2]; exact World.grownBy.refl _ _⟩
  · have hlen : (F.map tl).length = F.length := by simp
    rw [Nat.mul_one] at ht
    have hH : Holds encStr w g 0 (F.map tl).toArray := holds_of_block hh (by rw [hlen, ht, vals_tl])
    have := Try.slices_Sort_string g 0 cap (F.map tl) w hH (h.lt g rfl).2 (by rw [hlen]; omega)
    rw [hlen] at this
    refine this.mono ?_
    rintro e w' ⟨rfl, n, os, rfl⟩
    refine ⟨rfl, ?_, grownBy_sorted _⟩
    have ho := ownsRow_sorted (n := n) (os := os) (ss := F.map tl) (ts := (F.map tl).mergeSort fun x y => decide (x ≤ y)) (by simp) hbg hh (by rw [hlen]; exact hc) hm hs
    unfold OwnS
    rw [vals_tb]
    simpa using ho
theorem compact_len (G : List Tx) : (Lib.compact G).length ≤ G.length := by
  unfold Lib.compact Lib.compactUpTo
  rw [List.length_map]
  exact Nat.le_trans (List.length_filter_le _ _) (by simp)
/-- Compact on texts of the call's own -/
theorem compact_own {w : World} {base : Nat} {v : Value} {G : List Tx} (h : OwnS w base v (G.map tb)) (hl : G.length ≤ 100000) :
    Calls Try.prog 59 #[v] w fun e w' => (∃ A' c', e = .returned (.slice A' ((Lib.compact G).map tb).length c') ∧ SR w' A' ((Lib.compact G).map tb) ∧ ((Lib.compact G).map tb).length ≤ c') ∧ w.grownBy w' v.ownBlock := by
  rcases h.2 with ⟨rfl, hn⟩ | ⟨g, cap, cur, rfl, hbg, hh, hc, hm, hs, ht⟩
  · have hG : G = [] := List.eq_nil_of_length_eq_zero (by simpa using hn)
    subst hG
    refine (Try.slices_Compact_string_empty none 0 w).mono fun e w' ⟨h1, h2⟩ => ⟨⟨none, 0, h1, SR.nil _ _, Nat.le_refl _⟩, by rw [h2]; exact World.grownBy.refl _ _⟩
  · have hlen : (G.map tb).length = G.length := by simp
    rw [Nat.mul_one, hlen] at ht
    rw [hlen] at hc
    have hH : Holds encStr w g 0 G.toArray := holds_of_block hh (by rw [ht, vals_tb])
    have hcl := compact_len G
    have := Try.slices_Compact_string g 0 cap G w hH (by omega) hc
    rw [hlen]
    refine this.mono ?_
    rintro e w' ⟨rfl, q, rfl⟩
    have hgb := grownBy_sorted (w := w) (g := g) (n := q) (os := #[]) (Lib.compact G ++ List.replicate (G.length - (Lib.compact G).length) []).toArray
    rw [grow_empty] at hgb
    refine ⟨⟨some ⟨g, 0, none⟩, cap, by rw [List.length_map], fun k s hk => ⟨g, 0, rfl, by simpa using (h.lt g rfl).2, ?_⟩, by rw [List.length_map]; omega⟩, hgb⟩
    have hk2 : k < (Lib.compact G).length := by
      have := (List.getElem?_eq_some_iff.1 hk).1
      simpa using this
    have hs2 : s = tb (Lib.compact G)[k] := by
      rw [List.getElem?_map, List.getElem?_eq_getElem hk2] at hk
      injection hk with hk
      exact hk.symm
    rw [cell?_putRow encStr (Sort.ahead w q) g 0 G.toArray _ (holds_ahead _ _ _ _ _ _ hH) (by simp; omega) k (by simp; omega)]
    rw [getElem!_pos _ _ (by simp; omega)]
    simp only [List.getElem_toArray]
    rw [List.getElem_append_left hk2, hs2]
    rfl
end Go.Proofs.Ythlboecjlelemaa
