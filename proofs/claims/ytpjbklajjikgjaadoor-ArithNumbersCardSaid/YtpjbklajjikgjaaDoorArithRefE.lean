/- Walk of the reference's arith: what a name has. -/
import Derived.Test.YtpjbklajjikgjaaDoorArithRefD
import Derived.Test.YtpjbklajjikgjaaDoorArithWalkJ
import Derived.Deep.CutBlock
namespace Go.Proofs.YtpjbklajjikgjaaDoor
open Go.RowKit Go.Deep

theorem trR_cons (p : UInt8 → Bool) (c : UInt8) (l : List UInt8) : ((c :: l).reverse.dropWhile p).reverse = if (l.reverse.dropWhile p) = [] then (if p c = true then [] else [c]) else c :: (l.reverse.dropWhile p).reverse := by
  rw [List.reverse_cons, List.dropWhile_append]
  by_cases h : l.reverse.dropWhile p = []
  · rw [if_pos h, h]
    simp only [List.isEmpty_nil, if_true, List.dropWhile_cons, List.dropWhile_nil]
    split <;> rfl
  · rw [if_neg h, if_neg (by simpa using h), List.reverse_append]
    rfl
theorem trim_comm (p : UInt8 → Bool) : ∀ l : List UInt8, (((l.reverse.dropWhile p).reverse).dropWhile p) = (((l.dropWhile p).reverse.dropWhile p).reverse)
  | [] => rfl
  | c :: l => by
    have ih := trim_comm p l
    by_cases hc : p c = true
    · have e : (c :: l).dropWhile p = l.dropWhile p := by rw [List.dropWhile_cons, if_pos hc]
      rw [e, ← ih, trR_cons]
      by_cases h : l.reverse.dropWhile p = []
      · rw [if_pos h, h, if_pos hc]; rfl
      · rw [if_neg h, List.dropWhile_cons, if_pos hc]
    · have e : (c :: l).dropWhile p = c :: l := by rw [List.dropWhile_cons, if_neg hc]
      rw [e, trR_cons, if_neg hc]
      by_cases h : l.reverse.dropWhile p = []
      · rw [if_pos h, List.dropWhile_cons, if_neg hc]
      · rw [if_neg h, List.dropWhile_cons, if_neg hc]
theorem blk_has (c : UInt8) : ([32, 9, 10] : List UInt8).contains c = Ar.blk c := by
  simp only [List.contains_cons, List.contains_nil, Bool.or_false, Ar.blk, Bool.or_assoc]
/-- without the blanks at its end -/
def trR (l : List UInt8) : List UInt8 := (l.reverse.dropWhile Ar.blk).reverse
theorem trB_eq (l : List UInt8) : trB l = trR (Ar.sk l) := by
  unfold trB Lib.trimS Lib.trimLeftS Lib.trimRightS trR Ar.sk
  rw [show (fun c => ([32, 9, 10] : List UInt8).contains c) = Ar.blk from funext blk_has]
  exact trim_comm _ _
theorem sk_tail {l : List UInt8} {c : UInt8} {m : List UInt8} (h : l = c :: m) (hb : Ar.blk c = true) : Ar.sk l = Ar.sk m := by
  subst h
  show List.dropWhile Ar.blk (c :: m) = _
  rw [List.dropWhile_cons, if_pos hb]; rfl
theorem sk_stay {l : List UInt8} {c : UInt8} {m : List UInt8} (h : l = c :: m) (hb : Ar.blk c = false) : Ar.sk l = l := by
  subst h
  show List.dropWhile Ar.blk (c :: m) = _
  rw [List.dropWhile_cons, if_neg (by rw [hb]; simp)]
theorem trR_last (m : List UInt8) (c : UInt8) : trR (m ++ [c]) = if Ar.blk c = true then trR m else m ++ [c] := by
  unfold trR
  rw [List.reverse_append]
  show (List.dropWhile Ar.blk (c :: m.reverse)).reverse = _
  rw [List.dropWhile_cons]
  split
  · rfl
  · simp
theorem trR_nil : trR [] = [] := rfl
theorem dig2_all {l : List UInt8} (h : (dig2 l).2 = true) : l.all Ar.dgl = true := by
  unfold dig2 at h
  split at h
  · assumption
  · cases h
theorem isEmpty_ne {t : ByteArray} (h : ¬ t.size = 0) : t.toList.isEmpty = false := by
  cases he : t.toList.isEmpty with
  | false => rfl
  | true => exact absurd (List.isEmpty_iff.1 he) (toList_ne h)
/-- how a call of the reader that may fail ends -/
def VEndR (g : Nat) (s : ByteArray) (lv : Value) (i d : Nat) (z : Bool) (w : World) (r : Except Nat Int) (e : Ending) (w' : World) : Prop := match r with
  | .ok v => e = .returned (.int .i64 v) ∧ RR w' g s lv i d 0 z ∧ Gr w w' g
  | .error c => e = .returned (.int .i64 0) ∧ RR w' g s lv i d c z ∧ Gr w w' g
set_option maxRecDepth 100000 in
set_option maxHeartbeats 2000000 in
theorem rname7_any (g : Nat) (s : ByteArray) (i : Nat) (A : Option Addr) (P : List Pr) (c d : Nat) (z : Bool) (n : ByteArray) (B : Nat) (w : World) (h : RR w g s (.slice A P.length c) i d 0 z) (hP : PB w A P B) (_hB : B ≤ g)
    (hl : P.length ≤ maxLen) (hv : ∀ x ∈ P, x.2.size ≤ maxLen) :
    Calls Tryd.prog 50 #[.pointer (some ⟨g, 0, none⟩), .string n] w fun e w' => VEndR g s (.slice A P.length c) i d z w (valT (trB (lastV P n).data.toList)) e w' := by
  obtain ⟨m, hm⟩ : ∃ m, P.length = m := ⟨_, rfl⟩
  rw [hm] at h hl ⊢
  have HM := hide hm
  have H := hide h
  have hc1 := h.c1
  have HP := hide hP
  have HV := hide hv
  have hl2 : (m : Int) ≤ 9223372036854775807 := by unfold maxLen at hl; omega
  clear hm h hP hv
  go_enter Tryd.func50, Tryd.ntmps50
  go_wp2
  go_loop [5, 6] (fun v5 v6 => ∃ (k : Nat) (t : ByteArray), v6 = .int .i64 k ∧ k ≤ m ∧ v5 = .string t ∧ t.size ≤ maxLen ∧ Hid (t = lastV (P.take k) n)) (fun _ v6 => m - (intOf v6).toNat)
  case atStart => exact ⟨0, ⟨#[]⟩, rfl, by omega, rfl, by decide, rfl⟩
  case round =>
    obtain ⟨k, t, rfl, hk, rfl, hts, HT⟩ := hrel
    by_cases hlt : k < m
    · obtain ⟨x, hx⟩ : ∃ x, P[k]? = some x := ⟨P[k]'(by have := HM.out; omega), List.getElem?_eq_getElem _⟩
      obtain ⟨x1, x2⟩ := x
      obtain ⟨ga, oa, rfl, hga, hca1, hca2⟩ := HP.out.pr k _ hx
      have hx2 := HV.out _ (List.mem_of_getElem? hx)
      have HX := hide (show lastV (P.take (k + 1)) n = if x1 = n then x2 else lastV (P.take k) n by rw [List.take_add_one, hx]; exact lastV_snoc _ _ _)
      clear hx
      by_cases he : x1 = n
      · subst he
        rw [if_pos rfl] at HX
        go_wp2
        go_round
        case rel => exact ⟨k + 1, _, by go_num, by omega, rfl, hx2, by rw [HX.out]; exact rfl⟩
        case measure => simp [intOf]; omega
      · rw [if_neg he] at HX
        have hne := txt_ne he
        have HE := hide he
        clear he
        go_wp2
        go_round
        case rel => exact ⟨k + 1, t, by go_num, by omega, rfl, hts, by rw [HX.out]; exact HT.out⟩
        case measure => simp [intOf]; omega
    · have hlen : P.length ≤ k := by have := HM.out; omega
      have HTT := hide (show lastV P n = t by rw [HT.out, List.take_of_length_le hlen])
      clear HT hlen
      go_upto_block 2 with (fail)
      go_cut [5] from 36 to 44 (fun v5 wr => w = wr ∧ ∃ t2 : ByteArray, v5 = .string t2 ∧ t2.size ≤ maxLen ∧ Hid (t2.data.toList = Ar.sk t.data.toList))
      case first =>
        go_wp2
        go_loop [5] (fun v5 => ∃ t' : ByteArray, v5 = .string t' ∧ t'.size ≤ maxLen ∧ Hid (Ar.sk t'.data.toList = Ar.sk t.data.toList)) (fun v5 => Lib.strSize v5)
        case atStart => exact ⟨t, rfl, hts, rfl⟩
        case round =>
          obtain ⟨t', rfl, hts', HT'⟩ := hrel
          by_cases h0 : t'.size = 0
          · have hnil := toList_nil h0
            have hle : t'.toList.isEmpty = true := by rw [hnil]; rfl
            have HNIL := hide (show t'.data.toList = [] by rw [← ByteArray.toList_eq]; exact hnil)
            clear h0 hnil
            go_wp2
            go_meet
            exact ⟨rfl, t', rfl, hts', by rw [HNIL.out, ← HT'.out, HNIL.out]; exact rfl⟩
          · have hle := isEmpty_ne h0
            have hpos : 0 < t'.size := by omega
            have hdc : t'.data.toList = t'[0] :: dr t' 1 := dr_cons hpos
            cases hb : Ar.blk t'[0] with
            | true =>
              have HS := hide (sk_tail hdc hb)
              have HB := hide hb
              clear hb hdc h0
              obtain ⟨tt, hte⟩ : ∃ tt, t'.extract 1 t'.size = tt := ⟨_, rfl⟩
              obtain ⟨h1, h2⟩ := text_rest hte
              have HTE := hide hte
              have H1 := hide h1
              have hi1 : (1 : Int) ≤ (t'.size : Int) := by omega
              clear hte h1
              go_wp2_with fail
              refine (rblank_any t'[0] _).mono ?_
              rintro e w' ⟨rfl, rfl⟩
              rw [HB.out]
              go_wp2
              go_round
              case rel => exact ⟨_, rfl, by rw [HTE.out]; omega, by rw [HTE.out, H1.out, ← HS.out]; exact HT'.out⟩
              case measure => rw [Lib.strSize_string, Lib.strSize_string, HTE.out]; omega
            | false =>
              have HS := hide (sk_stay hdc hb)
              have HB := hide hb
              clear hb hdc h0
              go_wp2_with fail
              refine (rblank_any t'[0] _).mono ?_
              rintro e w' ⟨rfl, rfl⟩
              rw [HB.out]
              go_wp2
              go_meet
              exact ⟨rfl, t', rfl, hts', by rw [← HT'.out, HS.out]; exact rfl⟩
      case rest =>
        obtain ⟨rfl, t2, rfl, hts2, HT2⟩ := hcut
        go_upto_block 4 with (fail)
        go_cut [5] from 45 to 59 (fun v5 wr => w = wr ∧ ∃ t3 : ByteArray, v5 = .string t3 ∧ t3.size ≤ maxLen ∧ Hid (t3.data.toList = trR t2.data.toList))
        case first =>
          go_wp2
          go_loop [5] (fun v5 => ∃ t' : ByteArray, v5 = .string t' ∧ t'.size ≤ maxLen ∧ Hid (trR t'.data.toList = trR t2.data.toList)) (fun v5 => Lib.strSize v5)
          case atStart => exact ⟨t2, rfl, hts2, rfl⟩
          case round =>
            obtain ⟨t', rfl, hts', HT'⟩ := hrel
            by_cases h0 : t'.size = 0
            · have hnil := toList_nil h0
              have hle : t'.toList.isEmpty = true := by rw [hnil]; rfl
              have HNIL := hide (show t'.data.toList = [] by rw [← ByteArray.toList_eq]; exact hnil)
              clear h0 hnil
              go_wp2
              go_meet
              exact ⟨rfl, t', rfl, hts', by rw [← HT'.out, HNIL.out]; exact rfl⟩
            · have hle := isEmpty_ne h0
              obtain ⟨q, hq⟩ : ∃ q, t'.size = q + 1 := ⟨t'.size - 1, by omega⟩
              have hql : q < t'.size := by omega
              have hsn : t'.data.toList = t'.data.toList.take q ++ [t'[q]] := by
                rw [← take_byte hql, ← hq, List.take_of_length_le (by simp)]
              have HSN := hide hsn
              have HQ := hide hq
              have hq1 : (t'.size : Int) - 1 = (q : Int) := by omega
              have hq63 : (t'.size : Int) ≤ 9223372036854775807 := by unfold maxLen at hts'; omega
              have HQ1 := hide hq1
              have hw : IntKind.i64.wrap ((t'.size : Int) - 1) = (q : Int) := by rw [hq1]; exact IntWalk.i64_in _ (by omega)
              clear hsn hq h0 hq1
              cases hb : Ar.blk t'[q] with
              | true =>
                have HS := hide (show trR t'.data.toList = trR (t'.data.toList.take q) by rw [HSN.out, trR_last, if_pos hb, ← HSN.out])
                have HB := hide hb
                clear hb
                have hxt : t'.extract 0 q = ⟨(t'.data.toList.take q).toArray⟩ := text_take rfl
                have hxs : (t'.extract 0 q).size ≤ maxLen ∧ (t'.extract 0 q).size < t'.size := by
                  rw [hxt, size_toArray]
                  have h1 : (t'.data.toList.take q).length ≤ q := List.length_take_le _ _
                  omega
                have hxd : (t'.extract 0 q).data.toList = t'.data.toList.take q := by rw [hxt]
                have HXS := hide hxs
                have HXD := hide hxd
                clear hxt hxs hxd
                go_wp2_with fail
                refine (rblank_any t'[q] _).mono ?_
                rintro e w' ⟨rfl, rfl⟩
                rw [HB.out]
                go_wp2
                go_round
                case rel => exact ⟨_, rfl, HXS.out.1, by rw [HXD.out, ← HS.out]; exact HT'.out⟩
                case measure => rw [Lib.strSize_string, Lib.strSize_string]; exact HXS.out.2
              | false =>
                have HS := hide (show trR t'.data.toList = t'.data.toList by rw [HSN.out, trR_last, if_neg (by rw [hb]; simp)])
                have HB := hide hb
                clear hb
                go_wp2_with fail
                refine (rblank_any t'[q] _).mono ?_
                rintro e w' ⟨rfl, rfl⟩
                rw [HB.out]
                go_wp2
                go_meet
                exact ⟨rfl, t', rfl, hts', by rw [← HT'.out, HS.out]; exact rfl⟩
        case rest =>
          obtain ⟨rfl, t3, rfl, hts3, HT3⟩ := hcut
          have HV0 := hide (show valT (trB (lastV P n).data.toList) = valT t3.data.toList by rw [HTT.out, trB_eq, HT3.out, HT2.out])
          clear HT3 HT2 HTT
          by_cases h0 : t3.size = 0
          · have hnil := toList_nil h0
            have hle : t3.toList.isEmpty = true := by rw [hnil]; rfl
            have HE := hide (show valT (trB (lastV P n).data.toList) = .ok 0 by rw [HV0.out, ← ByteArray.toList_eq, hnil]; rfl)
            clear hnil h0
            go_wp2
            go_ret
            rw [HE.out]
            exact ⟨rfl, H.out, Gr.refl _ _⟩
          · have hle := isEmpty_ne h0
            have hpos : 0 < t3.size := by omega
            have hdc : t3.data.toList = t3[0] :: dr t3 1 := dr_cons hpos
            have hne0 : ¬ t3.data.toList = [] := by rw [hdc]; simp
            by_cases h45 : t3[0] = 45
            · have hb4 : (((t3[0].toNat : Nat) : Int) == 45) = true := by rw [h45]; rfl
              obtain ⟨rt, hte⟩ : ∃ rt, t3.extract 1 t3.size = rt := ⟨_, rfl⟩
              obtain ⟨h1, h2⟩ := text_rest hte
              have HV3 := hide (show valT (trB (lastV P n).data.toList) = if (dig2 rt.data.toList).2 = true then .ok (wrap64 (-(dig2 rt.data.toList).1)) else .error 2 by
                rw [HV0.out, valT, if_neg hne0, if_pos (by rw [hdc]; exact h45), hdc, h1]; rfl)
              have hrl : rt.size ≤ maxLen := by omega
              have hi1 : (1 : Int) ≤ (t3.size : Int) := by omega
              clear h45 hdc hne0 h1 h2 h0
              go_wp2_with fail
              clear hte
              have hrl2 : (rt.size : Int) ≤ 9223372036854775807 := by unfold maxLen at hrl; omega
              go_loop [8] (fun v8 => ∃ q : Nat, v8 = .int .i64 q ∧ q ≤ rt.size ∧ Hid ((rt.data.toList.take q).all Ar.dgl = true)) (fun v8 => rt.size - (intOf v8).toNat)
              case atStart => exact ⟨0, rfl, Nat.zero_le _, rfl⟩
              case round =>
                obtain ⟨q, rfl, hq, HQ⟩ := hrel
                by_cases hqt : q < rt.size
                · have HTK := hide (take_byte hqt)
                  cases hdg : Ar.dgl rt[q] with
                  | true =>
                    have HD := hide hdg
                    have hd2 : dgB rt[q].toNat = true := by rw [dgB_eq]; exact hdg
                    have HD2 := hide hd2
                    clear hdg hd2
                    go_wp2_with fail
                    refine (rdigit_any rt[q].toNat _ (UInt8.toNat_lt _)).mono ?_
                    rintro e w' ⟨rfl, rfl⟩
                    rw [HD2.out]
                    go_wp2
                    go_round
                    case rel => exact ⟨q + 1, by go_num, by omega, by rw [HTK.out, List.all_append, HQ.out, List.all_cons, List.all_nil, HD.out]; exact rfl⟩
                    case measure => simp [intOf]; omega
                  | false =>
                    have HD := hide hdg
                    have hd2 : dgB rt[q].toNat = false := by rw [dgB_eq]; exact hdg
                    have HD2 := hide hd2
                    clear hdg hd2
                    have HE := hide (show valT (trB (lastV P n).data.toList) = .error 2 by
                      rw [HV3.out, if_neg]
                      · intro hsnd
                        have hall := dig2_all hsnd
                        have h1 : rt[q] ∈ rt.data.toList := by
                          have : rt[q] ∈ rt.data.toList.take (q + 1) := by rw [HTK.out]; simp
                          exact List.mem_of_mem_take this
                        have h2 := List.all_eq_true.1 hall _ h1
                        rw [HD.out] at h2
                        cases h2)
                    go_wp2_with fail
                    refine (rdigit_any rt[q].toNat _ (UInt8.toNat_lt _)).mono ?_
                    rintro e w' ⟨rfl, rfl⟩
                    rw [HD2.out]
                    go_wp2_with fail
                    refine (rfail_any g s _ i d 0 z 2 _ H.out).mono ?_
                    rintro e w' ⟨rfl, h1, h2⟩
                    have H1 := hide h1
                    have H2 := hide h2
                    clear h1 h2
                    go_wp2
                    go_ret
                    rw [HE.out]
                    exact ⟨rfl, H1.out, H2.out⟩
                · have hall : rt.data.toList.all Ar.dgl = true := by
                    have := HQ.out
                    rwa [List.take_of_length_le (by simp; omega)] at this
                  have HALL := hide hall
                  by_cases h0 : rt.size = 0
                  · have hnil := toList_nil h0
                    have hle2 : rt.toList.isEmpty = true := by rw [hnil]; rfl
                    have HE := hide (show valT (trB (lastV P n).data.toList) = .error 2 by
                      rw [HV3.out, ← ByteArray.toList_eq, hnil]; rfl)
                    clear hnil h0
                    go_wp2_with fail
                    refine (rfail_any g s _ i d 0 z 2 _ H.out).mono ?_
                    rintro e w' ⟨rfl, h1, h2⟩
                    have H1 := hide h1
                    have H2 := hide h2
                    clear h1 h2
                    go_wp2
                    go_ret
                    rw [HE.out]
                    exact ⟨rfl, H1.out, H2.out⟩
                  · have hle2 := isEmpty_ne h0
                    have hse : rt.data.toList.isEmpty = false := by rw [← ByteArray.toList_eq]; exact hle2
                    have HE := hide (show valT (trB (lastV P n).data.toList) = .ok (wrap64 (-(nI rt.data.toList))) by
                      rw [HV3.out, dig2, if_pos hall, hse]; rfl)
                    have hrs : rt.size ≤ 9223372036854775807 := by unfold maxLen at hrl; omega
                    have HRS := hide hrs
                    clear hall h0 hse hrs
                    go_wp2_with fail
                    refine (number_any rt _ HRS.out HALL.out).mono ?_
                    rintro e w' ⟨rfl, rfl⟩
                    go_wp2
                    go_ret
                    rw [HE.out]
                    exact ⟨rfl, H.out, Gr.refl _ _⟩
            · have hb4 : (((t3[0].toNat : Nat) : Int) == 45) = false := by
                simp only [beq_eq_false_iff_ne]
                intro e
                exact h45 (UInt8.toNat_inj.1 (by exact_mod_cast e))
              have HV3 := hide (show valT (trB (lastV P n).data.toList) = if (dig2 t3.data.toList).2 = true then .ok (dig2 t3.data.toList).1 else .error 2 by
                rw [HV0.out, valT, if_neg hne0, if_neg (by rw [hdc]; exact h45)])
              have hrl := hts3
              clear h45 hdc hne0 h0
              go_wp2_with fail
              have hrl2 : (t3.size : Int) ≤ 9223372036854775807 := by unfold maxLen at hrl; omega
              go_loop [8] (fun v8 => ∃ q : Nat, v8 = .int .i64 q ∧ q ≤ t3.size ∧ Hid ((t3.data.toList.take q).all Ar.dgl = true)) (fun v8 => t3.size - (intOf v8).toNat)
              case atStart => exact ⟨0, rfl, Nat.zero_le _, rfl⟩
              case round =>
                obtain ⟨q, rfl, hq, HQ⟩ := hrel
                by_cases hqt : q < t3.size
                · have HTK := hide (take_byte hqt)
                  cases hdg : Ar.dgl t3[q] with
                  | true =>
                    have HD := hide hdg
                    have hd2 : dgB t3[q].toNat = true := by rw [dgB_eq]; exact hdg
                    have HD2 := hide hd2
                    clear hdg hd2
                    go_wp2_with fail
                    refine (rdigit_any t3[q].toNat _ (UInt8.toNat_lt _)).mono ?_
                    rintro e w' ⟨rfl, rfl⟩
                    rw [HD2.out]
                    go_wp2
                    go_round
                    case rel => exact ⟨q + 1, by go_num, by omega, by rw [HTK.out, List.all_append, HQ.out, List.all_cons, List.all_nil, HD.out]; exact rfl⟩
                    case measure => simp [intOf]; omega
                  | false =>
                    have HD := hide hdg
                    have hd2 : dgB t3[q].toNat = false := by rw [dgB_eq]; exact hdg
                    have HD2 := hide hd2
                    clear hdg hd2
                    have HE := hide (show valT (trB (lastV P n).data.toList) = .error 2 by
                      rw [HV3.out, if_neg]
                      · intro hsnd
                        have hall := dig2_all hsnd
                        have h1 : t3[q] ∈ t3.data.toList := by
                          have : t3[q] ∈ t3.data.toList.take (q + 1) := by rw [HTK.out]; simp
                          exact List.mem_of_mem_take this
                        have h2 := List.all_eq_true.1 hall _ h1
                        rw [HD.out] at h2
                        cases h2)
                    go_wp2_with fail
                    refine (rdigit_any t3[q].toNat _ (UInt8.toNat_lt _)).mono ?_
                    rintro e w' ⟨rfl, rfl⟩
                    rw [HD2.out]
                    go_wp2_with fail
                    refine (rfail_any g s _ i d 0 z 2 _ H.out).mono ?_
                    rintro e w' ⟨rfl, h1, h2⟩
                    have H1 := hide h1
                    have H2 := hide h2
                    clear h1 h2
                    go_wp2
                    go_ret
                    rw [HE.out]
                    exact ⟨rfl, H1.out, H2.out⟩
                · have hall : t3.data.toList.all Ar.dgl = true := by
                    have := HQ.out
                    rwa [List.take_of_length_le (by simp; omega)] at this
                  have HALL := hide hall
                  by_cases h0 : t3.size = 0
                  · exact absurd hpos (by omega)
                  · have hle2 := isEmpty_ne h0
                    have hse : t3.data.toList.isEmpty = false := by rw [← ByteArray.toList_eq]; exact hle2
                    have HE := hide (show valT (trB (lastV P n).data.toList) = .ok (nI t3.data.toList) by
                      rw [HV3.out, dig2, if_pos hall, hse]; rfl)
                    have hrs : t3.size ≤ 9223372036854775807 := by unfold maxLen at hrl; omega
                    have HRS := hide hrs
                    clear hall h0 hse hrs
                    go_wp2_with fail
                    refine (number_any t3 _ HRS.out HALL.out).mono ?_
                    rintro e w' ⟨rfl, rfl⟩
                    go_wp2
                    go_ret
                    rw [HE.out]
                    exact ⟨rfl, H.out, Gr.refl _ _⟩
end Go.Proofs.YtpjbklajjikgjaaDoor
