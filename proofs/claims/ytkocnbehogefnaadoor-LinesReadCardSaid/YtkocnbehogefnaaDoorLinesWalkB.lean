/- Walks of the program's lines: recipe, other. -/
import Derived.Test.YtkocnbehogefnaaDoorLinesWalkA
namespace Go.Proofs.YtkocnbehogefnaaDoor
open Go.RowKit Go.Deep Ln
attribute [local go_sem] bt_eq

/-- how long texts are, with an end each -/
def sumL : List T → Nat
  | [] => 0
  | n :: L => n.length + 1 + sumL L
theorem dropTab_len (l : T) : (dropTab l).length ≤ l.length := by
  unfold dropTab
  split
  · simp
  · exact Nat.le_refl _
theorem dropTab_lib (l : T) : Lib.trimPrefix l [9] = dropTab l := by
  unfold Lib.trimPrefix Lib.hasPrefix dropTab
  cases l with
  | nil => rfl
  | cons c l =>
    by_cases h : c = 9
    · subst h; rfl
    · have : ([9] : List UInt8).isPrefixOf (c :: l) = false := by simp [List.isPrefixOf]; exact fun e => h e.symm
      rw [this, if_neg (by decide)]
      split
      · rename_i heq; injection heq with h1 _; exact absurd h1 h
      · rfl
theorem bs_nil : (⟨#[]⟩ : ByteArray) = bs [] := rfl
/-- the lines, the reader, and more -/
abbrev RI (A : Option Addr) (L : List T) (g c i : Nat) (F : Asn) : Asn := starA (starA (LS A (L.map bs)) (RDL g A L.length c i)) F
theorem RI.fr {A : Option Addr} {L : List T} {g c i : Nat} {F : Asn} (hF : Fr F) : Fr (RI A L g c i F) := ((LS.fr _ _).star (RDL.fr _ _ _ _ _)).star hF
theorem nxt_some {L : List T} {i : Nat} {x : T} (h : L[i]? = some x) : nxt (L.map bs) i = .tuple #[.string (bs x), .bool true] := by
  unfold nxt
  rw [List.getElem?_map, h]; rfl
theorem nxt_none {L : List T} {i : Nat} (h : L.length ≤ i) : nxt (L.map bs) i = .tuple #[.string (bs []), .bool false] := by
  unfold nxt
  rw [List.getElem?_map, List.getElem?_eq_none h]; rfl
theorem next_I {A : Option Addr} {L : List T} {g c i B : Nat} {F : Asn} (hF : Fr F) {w0 w : World} (h : Inv (RI A L g c i F) B w0 w) (hB : B ≤ w0.heap.size) (hi : i ≤ L.length) (hc : L.length ≤ c) (hL : L.length ≤ 1000000) (hc2 : c ≤ 1000000) :
    Calls Tryd.prog 23 #[.pointer (some ⟨g, 0, none⟩)] w fun e w' => e = .returned (nxt (L.map bs) i) ∧ Inv (RI A L g c (if i < L.length then i + 1 else i) F) B w0 w' := by
  have := next_spec g A (L.map bs) c i (by simpa using hi) (by simpa using hc) (by simpa using hL) hc2
  rw [List.length_map] at this
  exact h.callE hB (this.left hF)
theorem sumL_drop {L : List T} {i : Nat} {x : T} (h : L[i]? = some x) : sumL (L.drop i) = x.length + 1 + sumL (L.drop (i + 1)) := by
  rw [List.drop_eq_getElem_cons (List.getElem?_eq_some_iff.1 h).1, (List.getElem?_eq_some_iff.1 h).2]; rfl
theorem drop_cons {L : List T} {i : Nat} {x : T} (h : L[i]? = some x) : L.drop i = x :: L.drop (i + 1) := by
  rw [List.drop_eq_getElem_cons (List.getElem?_eq_some_iff.1 h).1, (List.getElem?_eq_some_iff.1 h).2]
set_option maxRecDepth 100000 in
set_option maxHeartbeats 2000000 in
theorem recipe_I {A : Option Addr} {L : List T} {g c i B : Nat} {F : Asn} (hF : Fr F) {w0 w : World} (h : Inv (RI A L g c i F) B w0 w) (hB : B ≤ w0.heap.size) (hi : i ≤ L.length) (hc : L.length ≤ c) (hL : L.length ≤ 1000000) (hc2 : c ≤ 1000000) (t : T) (ht : t.length + sumL (L.drop i) ≤ 900000) :
    Calls Tryd.prog 25 #[.pointer (some ⟨g, 0, none⟩), .string (bs t)] w fun e w' => ∃ i', i ≤ i' ∧ i' ≤ L.length ∧ L.drop i' = (recF (L.drop i) t t).2 ∧ e = .returned (.string (bs (recF (L.drop i) t t).1)) ∧ Inv (RI A L g c i' F) B w0 w' := by
  have HI := hide h
  have HF := hide hF
  obtain ⟨n, hn⟩ : ∃ n, L.length = n := ⟨_, rfl⟩
  have HN := hide hn
  obtain ⟨R, hR⟩ : ∃ R, recF (L.drop i) t t = R := ⟨_, rfl⟩
  have HR := hide hR
  rw [hR]
  clear h hF hn hR
  go_enter Tryd.func25, Tryd.ntmps25
  go_wp2
  go_loopg [1, 5] (n - i) (fun q v1 v5 wr => ∃ (j : Nat) (s acc : T), q = n - j ∧ i ≤ j ∧ j ≤ n ∧ v1 = .string (bs s) ∧ v5 = .string (bs acc) ∧ Hid (recF (L.drop j) s acc = R) ∧ acc.length + sumL (L.drop j) ≤ 900000 ∧ s.length ≤ 900000 ∧ Inv (RI A L g c j F) B w0 wr)
  case atStart => exact ⟨i, t, t, rfl, Nat.le_refl _, by have := HN.out; omega, rfl, rfl, HR, ht, by omega, HI.out⟩
  case round =>
    obtain ⟨j, s, acc, hq, hij, hjn, rfl, rfl, HRJ, hacc, hs, hi2⟩ := hrel
    have HI2 := hide hi2
    clear hi2 HI
    have HC := hide (fun W => continued_any s W (by omega))
    have HODD := hide (show oddB s = oddB s from rfl)
    cases ho : oddB s with
    | false =>
      rw [ho] at HC
      go_wp2_with fail
      refine (HC.out _).mono ?_
      rintro e w' ⟨rfl, rfl⟩
      have HRE := hide (show recF (L.drop j) s acc = (acc, L.drop j) by
        cases hd : L.drop j with
        | nil => rfl
        | cons y ys => rw [recF, if_neg (by rw [ho]; decide)])
      have HR1 := hide (show R.1 = acc ∧ L.drop j = R.2 by rw [← HRJ.out, HRE.out]; exact ⟨rfl, rfl⟩)
      go_wp2
      go_ret
      exact ⟨j, hij, by have := HN.out; omega, HR1.out.2, by rw [HR1.out.1]; rfl, HI2.out⟩
    | true =>
      rw [ho] at HC
      have HNX := hide (next_I HF.out HI2.out hB (by have := HN.out; omega) hc hL hc2)
      by_cases hlt : j < n
      · obtain ⟨x, hx⟩ : ∃ x, L[j]? = some x := ⟨L[j]'(by have := HN.out; omega), List.getElem?_eq_getElem _⟩
        rw [nxt_some hx, if_pos (by have := HN.out; omega)] at HNX
        have HTP := hide (fun W => Tryd.strings_TrimPrefix (bs x) ⟨#[9]⟩ W)
        rw [show (⟨(Lib.trimPrefix (bs x).data.toList (⟨#[9]⟩ : ByteArray).data.toList).toArray⟩ : ByteArray) = bs (dropTab x) from by rw [bs_list, show (⟨#[9]⟩ : ByteArray).data.toList = [9] from rfl, dropTab_lib]; rfl] at HTP
        have hsd := sumL_drop hx
        have hdl := dropTab_len x
        have HCAT := hide (show bs acc ++ ((⟨#[10]⟩ : ByteArray) ++ bs (dropTab x)) = bs (acc ++ 10 :: dropTab x) by rw [show (⟨#[10]⟩ : ByteArray) = bs [10] from rfl, bs_app, bs_app]; rfl)
        have hz1 : (bs acc).size ≤ 900000 := by rw [bs_size]; omega
        have hz2 : (bs (dropTab x)).size ≤ 900000 := by rw [bs_size]; omega
        have HRN := hide (show recF (L.drop (j + 1)) (dropTab x) (acc ++ 10 :: dropTab x) = R by rw [← HRJ.out, drop_cons hx, recF, if_pos ho])
        have hlen : (acc ++ 10 :: dropTab x).length + sumL (L.drop (j + 1)) ≤ 900000 := by simp only [List.length_append, List.length_cons]; omega
        have hlen2 : (dropTab x).length ≤ 900000 := by omega
        generalize acc ++ 10 :: dropTab x = acc2 at *
        generalize dropTab x = x2 at *
        clear hsd hdl hx
        go_wp2_with fail
        refine (HC.out _).mono ?_
        rintro e w' ⟨rfl, rfl⟩
        go_wp2_with fail
        refine HNX.out.mono ?_
        rintro e w2 ⟨rfl, hi3⟩
        have HI3 := hide hi3
        clear hi3
        go_wp2_with fail
        refine (HTP.out _).mono ?_
        rintro e w' ⟨rfl, rfl⟩
        go_wp2_with fail
        rw [HCAT.out]
        go_roundg (n - (j + 1))
        case rel => exact ⟨j + 1, x2, acc2, rfl, by omega, by omega, rfl, rfl, HRN, hlen, hlen2, HI3.out⟩
        case measure => omega
      · rw [nxt_none (by have := HN.out; omega), if_neg (by have := HN.out; omega)] at HNX
        have HR1 := hide (show R.1 = acc ∧ L.drop j = R.2 by
          have hd : L.drop j = [] := List.drop_of_length_le (by have := HN.out; omega)
          rw [← HRJ.out, hd]; exact ⟨rfl, rfl⟩)
        go_wp2_with fail
        refine (HC.out _).mono ?_
        rintro e w' ⟨rfl, rfl⟩
        go_wp2_with fail
        refine HNX.out.mono ?_
        rintro e w2 ⟨rfl, hi3⟩
        have HI3 := hide hi3
        clear hi3
        go_wp2
        go_ret
        exact ⟨j, hij, by have := HN.out; omega, HR1.out.2, by rw [HR1.out.1]; rfl, HI3.out⟩
theorem odd_ne {s : T} (h : oddB s = true) : s ≠ [] := by
  rintro rfl
  revert h; decide
theorem trimR_lib (l : T) : Lib.trimRightS l [32, 9] = trimR l := by
  unfold Lib.trimRightS trimR
  congr 2
  funext c
  simp [blk, List.contains, List.elem]
  cases c == 32 <;> cases c == 9 <;> rfl
theorem trimL_lib (l : T) : Lib.trimLeftS l [32, 9] = trimL l := by
  unfold Lib.trimLeftS trimL
  congr 1
  funext c
  simp [blk, List.contains, List.elem]
  cases c == 32 <;> cases c == 9 <;> rfl
theorem trimR_len (l : T) : (trimR l).length ≤ l.length := by
  unfold trimR
  rw [List.length_reverse]
  exact Nat.le_trans (List.dropWhile_suffix _).length_le (by simp)
theorem trimL_len (l : T) : (trimL l).length ≤ l.length := (List.dropWhile_suffix _).length_le
theorem blanks_ascii : ∀ (j : Nat) b, (⟨#[32, 9]⟩ : ByteArray).data.toList[j]? = some b → b.toNat < 128 := by
  intro j b h
  have : b ∈ ([32, 9] : List UInt8) := List.mem_of_getElem? h
  simp only [List.mem_cons, List.not_mem_nil, or_false] at this
  rcases this with rfl | rfl <;> decide
theorem dropLast_ext (s : T) : (bs s).extract 0 ((bs s).size - 1) = bs s.dropLast := by
  rw [ext_bs, bs_size, List.drop_zero, List.dropLast_eq_take, Nat.sub_zero]
set_option maxRecDepth 100000 in
set_option maxHeartbeats 2000000 in
theorem other_I {A : Option Addr} {L : List T} {g c i B : Nat} {F : Asn} (hF : Fr F) {w0 w : World} (h : Inv (RI A L g c i F) B w0 w) (hB : B ≤ w0.heap.size) (hi : i ≤ L.length) (hc : L.length ≤ c) (hL : L.length ≤ 1000000) (hc2 : c ≤ 1000000) (t : T) (ht : t.length + sumL (L.drop i) ≤ 900000) :
    Calls Tryd.prog 27 #[.pointer (some ⟨g, 0, none⟩), .string (bs t)] w fun e w' => ∃ i', i ≤ i' ∧ i' ≤ L.length ∧ L.drop i' = (othF (L.drop i) t).2 ∧ e = .returned (.string (bs (othF (L.drop i) t).1)) ∧ Inv (RI A L g c i' F) B w0 w' := by
  have HI := hide h
  have HF := hide hF
  obtain ⟨n, hn⟩ : ∃ n, L.length = n := ⟨_, rfl⟩
  have HN := hide hn
  obtain ⟨R, hR⟩ : ∃ R, othF (L.drop i) t = R := ⟨_, rfl⟩
  have HR := hide hR
  rw [hR]
  clear h hF hn hR
  go_enter Tryd.func27, Tryd.ntmps27
  go_wp2
  go_loopg [1] (n - i) (fun q v1 wr => ∃ (j : Nat) (s : T), q = n - j ∧ i ≤ j ∧ j ≤ n ∧ v1 = .string (bs s) ∧ Hid (othF (L.drop j) s = R) ∧ s.length + sumL (L.drop j) ≤ 900000 ∧ Inv (RI A L g c j F) B w0 wr)
  case atStart => exact ⟨i, t, rfl, Nat.le_refl _, by have := HN.out; omega, rfl, HR, ht, HI.out⟩
  case round =>
    obtain ⟨j, s, hq, hij, hjn, rfl, HRJ, hs, hi2⟩ := hrel
    have HI2 := hide hi2
    clear hi2 HI
    have HC := hide (fun W => continued_any s W (by omega))
    cases ho : oddB s with
    | false =>
      rw [ho] at HC
      have HRE := hide (show othF (L.drop j) s = (s, L.drop j) by
        cases hd : L.drop j with
        | nil => rw [othF, if_neg (by rw [ho]; decide)]
        | cons y ys => rw [othF, if_neg (by rw [ho]; decide)])
      have HR1 := hide (show R.1 = s ∧ L.drop j = R.2 by rw [← HRJ.out, HRE.out]; exact ⟨rfl, rfl⟩)
      go_wp2_with fail
      refine (HC.out _).mono ?_
      rintro e w' ⟨rfl, rfl⟩
      go_wp2
      go_ret
      exact ⟨j, hij, by have := HN.out; omega, HR1.out.2, by rw [HR1.out.1]; rfl, HI2.out⟩
    | true =>
      rw [ho] at HC
      have hne := odd_ne ho
      have hpos : 0 < s.length := List.length_pos_iff.2 hne
      have HNX := hide (next_I HF.out HI2.out hB (by have := HN.out; omega) hc hL hc2)
      have HTR := hide (fun W => Tryd.strings_TrimRight_laid (bs s.dropLast) ⟨#[32, 9]⟩ W (by rw [bs_size, List.length_dropLast]; omega) (by decide) blanks_ascii)
      rw [show (⟨(Lib.trimRightS (bs s.dropLast).data.toList (⟨#[32, 9]⟩ : ByteArray).data.toList).toArray⟩ : ByteArray) = bs (trimR s.dropLast) from by rw [bs_list, show (⟨#[32, 9]⟩ : ByteArray).data.toList = [32, 9] from rfl, trimR_lib]; rfl] at HTR
      have hfl : (trimR s.dropLast).length + 1 ≤ s.length := by have := trimR_len s.dropLast; rw [List.length_dropLast] at this; omega
      have HCF := hide (show bs (trimR s.dropLast) ++ (⟨#[32]⟩ : ByteArray) = bs (front s) by rw [show (⟨#[32]⟩ : ByteArray) = bs [32] from rfl, bs_app]; rfl)
      have HDL := hide (dropLast_ext s)
      have hfz : (front s).length ≤ s.length := by unfold front; simp only [List.length_append, List.length_cons, List.length_nil]; omega
      have hz0 : (bs s).size = s.length := bs_size s
      have hz1 : 0 < (bs s).size := by omega
      have hz2 : (bs s).size ≤ 900000 := by omega
      have hz3 : (bs (trimR s.dropLast)).size ≤ 900000 := by rw [bs_size]; omega
      have hz4 : (bs (front s)).size ≤ 900000 := by rw [bs_size]; omega
      clear hz0
      have hz5 : (0 : Int) ≤ ((bs s).size : Int) - 1 := by omega
      by_cases hlt : j < n
      · obtain ⟨x, hx⟩ : ∃ x, L[j]? = some x := ⟨L[j]'(by have := HN.out; omega), List.getElem?_eq_getElem _⟩
        rw [nxt_some hx, if_pos (by have := HN.out; omega)] at HNX
        have hsd := sumL_drop hx
        have hxl := trimL_len x
        have HTL := hide (fun W => Tryd.strings_TrimLeft_laid (bs x) ⟨#[32, 9]⟩ W (by decide) blanks_ascii)
        rw [show (⟨(Lib.trimLeftS (bs x).data.toList (⟨#[32, 9]⟩ : ByteArray).data.toList).toArray⟩ : ByteArray) = bs (trimL x) from by rw [bs_list, show (⟨#[32, 9]⟩ : ByteArray).data.toList = [32, 9] from rfl, trimL_lib]; rfl] at HTL
        have HCN := hide (show bs (front s) ++ bs (trimL x) = bs (front s ++ trimL x) from bs_app _ _)
        have HRN := hide (show othF (L.drop (j + 1)) (front s ++ trimL x) = R by rw [← HRJ.out, drop_cons hx, othF, if_pos ho])
        have hlen : (front s ++ trimL x).length + sumL (L.drop (j + 1)) ≤ 900000 := by simp only [List.length_append]; omega
        have hz6 : (bs (trimL x)).size ≤ 900000 := by rw [bs_size]; omega
        go_wp2_with fail
        refine (HC.out _).mono ?_
        rintro e w' ⟨rfl, rfl⟩
        go_wp2_with fail
        refine HNX.out.mono ?_
        rintro e w2 ⟨rfl, hi3⟩
        have HI3 := hide hi3
        clear hi3
        go_wp2_with fail
        rw [HDL.out]
        refine (HTR.out _).mono ?_
        rintro e w3 ⟨rfl, hb3⟩
        have HI4 := hide (HI3.out.step (RI.fr HF.out) hb3 hB)
        clear hb3
        go_wp2_with fail
        rw [HCF.out]
        refine (HTL.out _).mono ?_
        rintro e w4 ⟨rfl, hb4⟩
        have HI5 := hide (HI4.out.step (RI.fr HF.out) hb4 hB)
        clear hb4
        generalize trimL x = x2 at *
        generalize front s = s2 at *
        go_wp2_with fail
        rw [HCN.out]
        go_roundg (n - (j + 1))
        case rel => exact ⟨j + 1, s2 ++ x2, rfl, by omega, by omega, rfl, HRN, hlen, HI5.out⟩
        case measure => omega
      · rw [nxt_none (by have := HN.out; omega), if_neg (by have := HN.out; omega)] at HNX
        have HR1 := hide (show R.1 = front s ∧ L.drop j = R.2 by
          have hd : L.drop j = [] := List.drop_of_length_le (by have := HN.out; omega)
          rw [← HRJ.out, hd, othF, if_pos ho]; exact ⟨rfl, rfl⟩)
        go_wp2_with fail
        refine (HC.out _).mono ?_
        rintro e w' ⟨rfl, rfl⟩
        go_wp2_with fail
        refine HNX.out.mono ?_
        rintro e w2 ⟨rfl, hi3⟩
        have HI3 := hide hi3
        clear hi3
        go_wp2_with fail
        rw [HDL.out]
        refine (HTR.out _).mono ?_
        rintro e w3 ⟨rfl, hb3⟩
        have HI4 := hide (HI3.out.step (RI.fr HF.out) hb3 hB)
        clear hb3
        go_wp2_with fail
        rw [HCF.out]
        go_ret
        exact ⟨j, hij, by have := HN.out; omega, HR1.out.2, by rw [HR1.out.1]; rfl, HI4.out⟩
end Go.Proofs.YtkocnbehogefnaaDoor
