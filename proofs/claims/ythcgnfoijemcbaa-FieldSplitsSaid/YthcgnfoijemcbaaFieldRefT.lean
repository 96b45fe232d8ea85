/- Walk of the reference's Split. -/
import Derived.Test.YthcgnfoijemcbaaFieldRefS
namespace Go.Proofs.Ythcgnfoijemcbaa
open Go.RowKit Go.Deep
set_option linter.unusedSimpArgs false
set_option linter.unusedVariables false
attribute [local go_sem] bt_eq

theorem isB_blkQ (c : UInt8) : blkQ c.toNat = isB c := by
  have k : ∀ d : UInt8, c.toNat = d.toNat ↔ c = d := fun d => UInt8.toNat_inj
  unfold blkQ isB
  have e : ∀ d : UInt8, (c.toNat == d.toNat) = (c == d) := fun d => by
    rw [Bool.eq_iff_iff, beq_iff_eq, beq_iff_eq]
    exact k d
  have e1 := e 32
  have e2 := e 9
  have e3 := e 10
  rw [← e1, ← e2, ← e3]
  rfl
/-- the text from a to b -/
def subL (tx : ByteArray) (a b : Nat) : List UInt8 := (tx.data.toList.take b).drop a
theorem subL_ext (tx : ByteArray) (a b : Nat) : tx.extract a b = bsF (subL tx a b) := by
  refine ByteArray.ext (Array.ext' ?_)
  rw [Lib.extract_data]
  unfold subL bsF
  simp
  exact List.drop_take.symm
theorem subL_self (tx : ByteArray) (a : Nat) : subL tx a a = [] := by
  unfold subL
  rw [List.drop_eq_nil_iff, List.length_take]
  omega
theorem subL_succ (tx : ByteArray) (a b : Nat) (h : a ≤ b) (hb : b < tx.data.toList.length) : subL tx a (b + 1) = subL tx a b ++ [tx.data.toList[b]] := by
  unfold subL
  rw [List.take_add_one, List.getElem?_eq_getElem hb, List.drop_append, List.length_take]
  rw [show a - min b tx.data.toList.length = 0 by omega]
  simp
theorem subL_nil (tx : ByteArray) (a b : Nat) (h : a ≤ b) (hb : b ≤ tx.data.toList.length) : subL tx a b = [] ↔ a = b := by
  unfold subL
  rw [List.drop_eq_nil_iff, List.length_take]
  omega
theorem drop_bt (tx : ByteArray) (k : Nat) (hk : k < tx.size) : ∃ c : UInt8, tx.data.toList.drop k = c :: tx.data.toList.drop (k + 1) ∧ bt tx k = c.toNat ∧ k < tx.data.toList.length ∧ tx.data.toList[k]? = some c := by
  have hl : k < tx.data.toList.length := by rw [← Lib.size_eq]; exact hk
  refine ⟨tx.data.toList[k], List.drop_eq_getElem_cons hl, ?_, hl, List.getElem?_eq_getElem hl⟩
  rw [← bt_eq tx k hk]; rfl
theorem RpP.done {w w' : World} {s : Sp} {vo vn : Value} (h : RpP w s vo vn w') : SplitP s.1 w (.returned vo) w' := by
  obtain ⟨out, h1, h2⟩ := h
  obtain ⟨A, c, rfl, _, h3, _, _⟩ := h2.oo.slice encFR_len
  exact ⟨out, A, c, rfl, h1, h3, fun r hr => ⟨(h2.rows r hr).1, (h2.rows r hr).2.1, (h2.rows r hr).2.2.1⟩, h2.below⟩
theorem flushS_nil {s : Sp} (h : s.2 = []) : flushS s = s := by unfold flushS; rw [if_pos h]
set_option maxRecDepth 100000 in
set_option maxHeartbeats 8000000 in
theorem rsplit12_any (A : Option Addr) (c : Nat) (L : List Pt) (w : World) (hA : RG encPt 6 w A L) (hl : L.length ≤ 100) (hz : ∀ p ∈ L, p.text.size ≤ 5000) :
    Calls Try.prog 10 #[.slice A L.length c] w (SplitP (splitS L) w) := by
  have HA := hide hA
  have HZ := hide hz
  obtain ⟨n, hn⟩ : ∃ n, L.length = n := ⟨_, rfl⟩
  have HN := hide hn
  rw [hn] at hl ⊢
  have hni : (n : Int) ≤ 100 := by omega
  have HI0 := hide (show RpP w ([], []) (.slice none 0 0) (.slice none 0 0) w from ⟨[], rfl, RpI.made w⟩)
  clear hA hz hn
  go_enter Try.func10, Try.ntmps10
  go_wp2
  go_loopw [3, 4, 5, 6, 7, 8] (fun v3 v4 v5 _ _ _ wr => ∃ i : Nat, v5 = .int .i64 i ∧ i ≤ n ∧ Hid (RpP w ((L.take i).foldl stS ([], [])) v3 v4 wr) ∧ Hid (cntS ((L.take i).foldl stS ([], [])) ≤ i * 5001)) (fun _ _ v5 _ _ _ _ => n - (intOf v5).toNat)
  case atStart => exact ⟨0, rfl, by omega, by simpa using HI0, hide (by simp [cntS])⟩
  case round =>
    obtain ⟨wo, hwo⟩ : ∃ Z, Z = wr := ⟨_, rfl⟩
    subst hwo
    obtain ⟨i, rfl, hi, HSP, HCN⟩ := hrel
    by_cases hlt : i < n
    case neg =>
      obtain rfl : i = n := by omega
      have htk : L.take i = L := List.take_of_length_le (by have := HN.out; omega)
      rw [htk] at HSP HCN
      clear htk
      have hcn := HCN.out
      have HSS := hide (show splitS L = (flushS (L.foldl stS ([], []))).1 from rfl)
      obtain ⟨sk, hsk⟩ : ∃ s, L.foldl stS ([], []) = s := ⟨_, rfl⟩
      rw [hsk] at HSP hcn HSS
      clear hsk
      obtain ⟨A4, c4, rfl⟩ := HSP.out.now
      have hnl : sk.2.length ≤ 1000000 := by unfold cntS at hcn; omega
      by_cases hs0 : sk.2 = []
      · have hs1 : sk.2.length = 0 := by rw [hs0]; rfl
        have HD := hide HSP.out.done
        rw [flushS_nil hs0] at HSS
        rw [hs1]
        clear hs1 hs0
        go_wp2
        go_ret
        rw [HSS.out]
        exact HD.out
      · obtain ⟨vo', w4, hrun, hfin⟩ := HSP.out.flush hs0 (by omega)
        have hs1 : (0 : Int) < ((sk.2.length : Nat) : Int) := by have := List.length_pos_iff.2 hs0; omega
        have HD := hide hfin.done
        obtain ⟨m, hm⟩ : ∃ m, sk.2.length = m := ⟨_, rfl⟩
        rw [hm] at hrun hs1 hnl ⊢
        clear hfin hs0 hm
        go_wp2_with (at_builtin; refine wpList_app_run ?_ (.tmp 79) (.tmp 81) ?_ ?_ ?_ ?_ hrun ?_; exact rfl; exact rfl; exact rfl; exact rfl; exact rfl)
        go_ret
        rw [HSS.out]
        exact HD.out
    obtain ⟨x, hx⟩ : ∃ x, L[i]? = some x := ⟨L[i]'(by have := HN.out; omega), List.getElem?_eq_getElem _⟩
    obtain ⟨out0, _, hsp0⟩ := HSP.out
    obtain ⟨g, o, rfl, hg, hc⟩ := HA.out.below hsp0.below i x hx
    have hc0 : wo.cell? ⟨g, o + i * 6, none⟩ = some (.int .i64 x.kind) := by have := hc 0 _ rfl; simpa using this
    have hc1 : wo.cell? ⟨g, o + i * 6 + 1, none⟩ = some (.string x.text) := hc 1 _ rfl
    have hc2 : wo.cell? ⟨g, o + i * 6 + 2, none⟩ = some (.string x.name) := hc 2 _ rfl
    have hc3 : wo.cell? ⟨g, o + i * 6 + 3, none⟩ = some (.string x.op) := hc 3 _ rfl
    have hc4 : wo.cell? ⟨g, o + i * 6 + 4, none⟩ = some (.slice x.wA x.wn x.wc) := hc 4 _ rfl
    have hc5 : wo.cell? ⟨g, o + i * 6 + 5, none⟩ = some (.bool x.q) := hc 5 _ rfl
    have b1 : (i : Int) < (n : Int) := by omega
    have hz := HZ.out x (List.mem_of_getElem? hx)
    have hst : (L.take (i + 1)).foldl stS ([], []) = stS ((L.take i).foldl stS ([], [])) x := by rw [List.take_add_one, hx, List.foldl_append]; rfl
    have HST := hide hst
    obtain ⟨sk, hsk⟩ : ∃ s, (L.take i).foldl stS ([], []) = s := ⟨_, rfl⟩
    rw [hsk] at HSP HCN HST
    obtain ⟨kd, tx, nm, op, wA, wn, wk, q⟩ := x
    dsimp only at hc0 hc1 hc2 hc3 hc4 hc5 hz
    have hcn := HCN.out
    clear hc hx hst hsk hsp0
    by_cases hkd : kd = 1
    case neg =>
      have t1 : (kd != 1) = true := by simpa using hkd
      have t2 : ¬ kd = 1 := hkd
      obtain ⟨vn', w4, hrun, hfin⟩ := HSP.out.push (by omega) ⟨kd, tx, nm, op, wA, wn, wk, q⟩
      have HF := hide hfin
      have HS2 := hide (show stS sk ⟨kd, tx, nm, op, wA, wn, wk, q⟩ = (sk.1, sk.2 ++ [⟨kd, tx, nm, op, wA, wn, wk, q⟩]) by unfold stS; rw [if_neg t2])
      clear hfin
      go_wp2_with (at_builtin; refine wpList_app_run ?_ (.tmp 21) (.tmp 26) ?_ ?_ ?_ ?_ hrun ?_; exact rfl; exact rfl; exact rfl; exact rfl; exact rfl)
      refine ⟨⟨i + 1, by go_num, by omega, ?_, ?_⟩, by simp [intOf]; omega⟩
      · rw [HST.out, HS2.out]; exact HF
      · rw [HST.out, HS2.out]
        refine hide ?_
        have := HCN.out
        unfold cntS at this ⊢
        simp only [List.length_append, List.length_singleton]
        omega
    subst hkd
    have t1 : ((1 : Int) != 1) = false := rfl
    go_wp2
    have hcni := HCN.out
    have HTT := hide (show stS sk ⟨1, tx, nm, op, wA, wn, wk, q⟩ = txS [] tx.data.toList sk by unfold stS; rw [if_pos rfl])
    go_loopw [3, 4, 7, 8] (fun v3 v4 v7 v8 wx => ∃ (k f : Nat) (sp : Sp), v8 = .int .i64 k ∧ v7 = .int .i64 f ∧ k ≤ tx.size + 1 ∧ Hid (RpP w sp v3 v4 wx) ∧ cntS sp ≤ i * 5001 + k ∧ Hid ((k ≤ tx.size ∧ f ≤ k ∧ txS (subL tx f k) (tx.data.toList.drop k) sp = txS [] tx.data.toList sk) ∨ (k = tx.size + 1 ∧ sp = txS [] tx.data.toList sk))) (fun _ _ _ v8 _ => tx.size + 1 - (intOf v8).toNat)
    case atStart => exact ⟨0, 0, sk, rfl, rfl, by omega, HSP, by omega, hide (.inl ⟨by omega, by omega, by rw [subL_self, List.drop_zero]⟩)⟩
    case round =>
      obtain ⟨wp, hwp⟩ : ∃ Z, Z = wr := ⟨_, rfl⟩
      subst hwp
      obtain ⟨k, f, sp, rfl, rfl, hk, HSQ, hcs, HT⟩ := hrel
      have hd := HT.out
      rcases hd with ⟨hk1, hfk, htx⟩ | ⟨hk1, htx⟩
      case inr =>
        subst hk1
        have b2 : ¬ ((tx.size + 1 : Nat) : Int) ≤ (tx.size : Int) := by omega
        have HTE := hide htx
        clear htx HT
        go_wp2
        refine ⟨⟨i + 1, by go_num, by omega, ?_, ?_⟩, by simp [intOf]; omega⟩
        · rw [HST.out, HTT.out, ← HTE.out]; exact HSQ
        · rw [HST.out, HTT.out, ← HTE.out]
          exact hide (by omega)
      have HTX := hide htx
      clear htx HT
      have b2 : (k : Int) ≤ (tx.size : Int) := by omega
      have hlen : tx.data.toList.length = tx.size := (Lib.size_eq _).symm
      by_cases hks : k < tx.size
      · obtain ⟨c0, hdc, hbc, hkl, hgc⟩ := drop_bt tx k hks
        have b3 : (k : Int) < (tx.size : Int) := by omega
        have HDC := hide hdc
        have HSU := hide (show subL tx f (k + 1) = subL tx f k ++ [c0] by rw [subL_succ tx f k hfk hkl]; rw [List.getElem?_eq_getElem hkl] at hgc; injection hgc with hgc; rw [hgc])
        have HBL := hide (show ∀ W : World, Calls Try.prog 19 #[.int .u8 (bt tx k)] W fun e w' => e = .returned (.bool (isB c0)) ∧ W = w' from fun W => by
          have := blank12_any (bt tx k) W
          rw [show blkQ (bt tx k) = isB c0 by rw [hbc]; exact isB_blkQ c0] at this
          exact this)
        have HNIL := hide (subL_nil tx f k hfk (by omega))
        by_cases hbl : isB c0 = true
        case neg =>
          have hb0 : isB c0 = false := by simpa using hbl
          have HT2 := hide (show txS (subL tx f (k + 1)) (tx.data.toList.drop (k + 1)) sp = txS [] tx.data.toList sk by rw [← HTX.out, HDC.out, txS, if_neg hbl, HSU.out])
          rw [hb0] at HBL
          clear hdc hgc hbl hb0 hbc
          go_wp2_with fail
          refine (HBL.out _).mono ?_
          rintro e w' ⟨rfl, rfl⟩
          go_wp2
          exact ⟨⟨k + 1, f, sp, by go_num, rfl, by omega, HSQ, by omega, hide (.inl ⟨by omega, by omega, HT2.out⟩)⟩, by simp [intOf]; omega⟩
        have HT2 := hide (show txS [] (tx.data.toList.drop (k + 1)) (flushS (pushS (subL tx f k) sp)) = txS [] tx.data.toList sk by rw [← HTX.out, HDC.out, txS, if_pos hbl])
        rw [hbl] at HBL
        have HT3 := hide (fun (sp' : Sp) (hsp : flushS (pushS (subL tx f k) sp) = sp') => show (k + 1 ≤ tx.size ∧ k + 1 ≤ k + 1 ∧ txS (subL tx (k + 1) (k + 1)) (tx.data.toList.drop (k + 1)) sp' = txS [] tx.data.toList sk) ∨ (k + 1 = tx.size + 1 ∧ sp' = txS [] tx.data.toList sk) from .inl ⟨by omega, by omega, by rw [subL_self, ← hsp]; exact HT2.out⟩)
        clear hdc hgc hbl hbc
        by_cases hfk2 : f < k
        · have b4 : (f : Int) < (k : Int) := by omega
          have hex : (tx.extract f k).size = k - f := by rw [ByteArray.size_extract]; omega
          have hpp : pushS (subL tx f k) sp = (sp.1, sp.2 ++ [⟨1, tx.extract f k, ⟨#[]⟩, ⟨#[]⟩, none, 0, 0, false⟩]) := by
            unfold pushS
            rw [if_neg (fun e => by have := HNIL.out.1 e; omega), subL_ext]
            rfl
          obtain ⟨vn', w4, hrun, hfin⟩ := HSQ.out.push (by omega) ⟨1, tx.extract f k, ⟨#[]⟩, ⟨#[]⟩, none, 0, 0, false⟩
          rw [← hpp] at hfin
          have hcp := push_cnt (subL tx f k) sp
          have HPP := hide hpp
          have hne : (pushS (subL tx f k) sp).2 ≠ [] := by rw [hpp]; simp
          obtain ⟨sq, hsq⟩ : ∃ s, pushS (subL tx f k) sp = s := ⟨_, rfl⟩
          rw [hsq] at hfin hcp hne HT3
          obtain ⟨A4, c4, rfl⟩ := hfin.now
          obtain ⟨vo', w5, hrun2, hfin2⟩ := hfin.flush hne (by omega)
          have hs1 : (0 : Int) < ((sq.2.length : Nat) : Int) := by have := List.length_pos_iff.2 hne; omega
          obtain ⟨m, hm⟩ : ∃ m, sq.2.length = m := ⟨_, rfl⟩
          rw [hm] at hrun hrun2 hs1
          have HR1 := hide hrun
          have HR2 := hide hrun2
          have HF2 := hide hfin2
          have hcf := flush_cnt sq
          clear hfin hfin2 hpp hne hrun hrun2 hsq hm
          go_wp2_with fail
          refine (HBL.out _).mono ?_
          rintro e w' ⟨rfl, rfl⟩
          go_wp2_with (at_builtin; first | (refine wpList_app_run ?_ (.tmp 53) (.tmp 59) ?_ ?_ ?_ ?_ HR1.out ?_; exact rfl; exact rfl; exact rfl; exact rfl; exact rfl) | (refine wpList_app_run ?_ (.tmp 72) (.tmp 74) ?_ ?_ ?_ ?_ HR2.out ?_; exact rfl; exact rfl; exact rfl; exact rfl; exact rfl))
          exact ⟨⟨k + 1, k + 1, flushS sq, by go_num, by go_num, by omega, HF2, by omega, hide (HT3.out _ rfl)⟩, by simp [intOf]; omega⟩
        · obtain rfl : f = k := by omega
          have b4 : ¬ (f : Int) < (f : Int) := by omega
          have hpp : pushS (subL tx f f) sp = sp := by unfold pushS; rw [if_pos (HNIL.out.2 rfl)]
          rw [hpp] at HT3
          obtain ⟨A4, c4, rfl⟩ := HSQ.out.now
          by_cases hs0 : sp.2 = []
          · have hs1 : sp.2.length = 0 := by rw [hs0]; rfl
            rw [flushS_nil hs0] at HT3
            rw [hs1] at HSQ ⊢
            clear hs0 hs1 hpp
            go_wp2_with fail
            refine (HBL.out _).mono ?_
            rintro e w' ⟨rfl, rfl⟩
            go_wp2
            exact ⟨⟨f + 1, f + 1, sp, by go_num, by go_num, by omega, HSQ, by omega, hide (HT3.out _ rfl)⟩, by simp [intOf]; omega⟩
          · obtain ⟨vo', w5, hrun2, hfin2⟩ := HSQ.out.flush hs0 (by omega)
            have hs1 : (0 : Int) < ((sp.2.length : Nat) : Int) := by have := List.length_pos_iff.2 hs0; omega
            obtain ⟨m, hm⟩ : ∃ m, sp.2.length = m := ⟨_, rfl⟩
            rw [hm] at hrun2 hs1 HSQ ⊢
            have HR2 := hide hrun2
            have HF2 := hide hfin2
            have hcf := flush_cnt sp
            clear hfin2 hrun2 hm hs0 hpp
            go_wp2_with fail
            refine (HBL.out _).mono ?_
            rintro e w' ⟨rfl, rfl⟩
            go_wp2_with (at_builtin; (refine wpList_app_run ?_ (.tmp 72) (.tmp 74) ?_ ?_ ?_ ?_ HR2.out ?_; exact rfl; exact rfl; exact rfl; exact rfl; exact rfl))
            exact ⟨⟨f + 1, f + 1, flushS sp, by go_num, by go_num, by omega, HF2, by omega, hide (HT3.out _ rfl)⟩, by simp [intOf]; omega⟩
      · obtain rfl : k = tx.size := by omega
        have b3 : ¬ ((tx.size : Nat) : Int) < (tx.size : Int) := by omega
        have HT4 := hide (show pushS (subL tx f tx.size) sp = txS [] tx.data.toList sk by rw [← HTX.out, List.drop_of_length_le (by omega), txS])
        have HNIL := hide (subL_nil tx f tx.size hfk (by omega))
        by_cases hfk2 : f < tx.size
        · have b4 : (f : Int) < (tx.size : Int) := by omega
          have hex : (tx.extract f tx.size).size = tx.size - f := by rw [ByteArray.size_extract]; omega
          have hpp : pushS (subL tx f tx.size) sp = (sp.1, sp.2 ++ [⟨1, tx.extract f tx.size, ⟨#[]⟩, ⟨#[]⟩, none, 0, 0, false⟩]) := by
            unfold pushS
            rw [if_neg (fun e => by have := HNIL.out.1 e; omega), subL_ext]
            rfl
          obtain ⟨vn', w4, hrun, hfin⟩ := HSQ.out.push (by omega) ⟨1, tx.extract f tx.size, ⟨#[]⟩, ⟨#[]⟩, none, 0, 0, false⟩
          rw [← hpp] at hfin
          have hcp := push_cnt (subL tx f tx.size) sp
          rw [HT4.out] at hfin hcp
          have HR1 := hide hrun
          have HF1 := hide hfin
          clear hfin hrun hpp
          go_wp2_with (at_builtin; (refine wpList_app_run ?_ (.tmp 53) (.tmp 59) ?_ ?_ ?_ ?_ HR1.out ?_; exact rfl; exact rfl; exact rfl; exact rfl; exact rfl))
          exact ⟨⟨tx.size + 1, tx.size + 1, _, by go_num, by go_num, by omega, HF1, by omega, hide (.inr ⟨rfl, rfl⟩)⟩, by simp [intOf]⟩
        · obtain rfl : f = tx.size := by omega
          have b4 : ¬ ((tx.size : Nat) : Int) < (tx.size : Int) := by omega
          have hpp : pushS (subL tx tx.size tx.size) sp = sp := by unfold pushS; rw [if_pos (HNIL.out.2 rfl)]
          have HT5 := hide (show sp = txS [] tx.data.toList sk from hpp.symm.trans HT4.out)
          clear hpp
          go_wp2
          exact ⟨⟨tx.size + 1, tx.size + 1, sp, by go_num, by go_num, by omega, HSQ, by omega, hide (.inr ⟨rfl, HT5.out⟩)⟩, by simp [intOf]⟩
end Go.Proofs.Ythcgnfoijemcbaa
