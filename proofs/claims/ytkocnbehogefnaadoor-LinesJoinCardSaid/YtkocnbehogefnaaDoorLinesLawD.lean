/- The walk of the law LinesJoin. -/
import Derived.Test.YtkocnbehogefnaaDoorLinesLawB
import Derived.Test.YtkocnbehogefnaaDoorLinesMathC
namespace Go.Proofs.YtkocnbehogefnaaDoor
open Go.RowKit Go.Deep Ln
attribute [local go_sem] bt_eq
theorem line_eql (x1 y1 : Bool) (x2 y2 : ByteArray) (w : World) : (binOp .eql 34 (.agg #[.bool x1, .string x2]) (.agg #[.bool y1, .string y2])).run Tryd.prog w = .ok (.bool ((x1 == y1) && (x2.toList == y2.toList))) w := by
  rw [run_eql_struct, run_equalIn_struct w 9999 _ _ _ lineStruct lineStood]
  simp [Program.fieldsOf, Tryd.underlying34, Op.eqFields, go_sem]
  by_cases h1 : x1 = y1 <;> by_cases h2 : x2.toList = y2.toList <;> simp [h1, h2]
theorem Jo_next (sep : T) {M : List T} {k : Nat} {x : T} (hx : M[k]? = some x) : Jo sep (M.take (k + 1)) = if k = 0 then x else Jo sep (M.take k) ++ sep ++ x := by
  cases M with
  | nil => cases hx
  | cons y M =>
    cases k with
    | zero =>
      injection hx with hx
      subst hx
      simp [Jo]
    | succ k =>
      have hx2 : M[k]? = some x := hx
      rw [if_neg (by omega), List.take_succ_cons, List.take_succ_cons, List.take_add_one, hx2, ← Jo_snoc]
      rfl
def letter (c : UInt8) : Prop := 97 ≤ c.toNat ∧ c.toNat ≤ 122
theorem letter_ok {c : UInt8} (h : letter c) : okc c := by
  obtain ⟨h1, h2⟩ := h
  refine ⟨?_, ?_, ?_, ?_, ?_, ?_⟩ <;> (intro e; subst e; revert h1 h2; decide)
set_option maxRecDepth 100000 in
set_option maxHeartbeats 4000000 in
theorem law_linesJoin (A : Option Addr) (c : Nat) (L : List ByteArray) (rc : Bool) (hl : L.length ≤ maxLen) (hv : ∀ (k : Nat) (s : ByteArray), L[k]? = some s → s.size ≤ maxLen) (w : World) (hm : MX w) (hA : SR w A L) :
    Calls Tryd.prog 4 #[.slice A L.length c, .bool rc] w fun e w' => e = .returned (.bool true) ∧ Below w.heap.size w w' := by
  unfold maxLen at hl hv
  have HA := hide hA
  have HV := hide hv
  have HM := hide hm
  clear hA hv hm
  obtain ⟨n, hn⟩ : ∃ n, L.length = n := ⟨_, rfl⟩
  rw [hn] at hl ⊢
  have HN := hide hn
  clear hn
  have hl1 : (n : Int) ≤ 9223372036854775807 := by omega
  go_enter Tryd.func4, Tryd.ntmps4
  go_wp2_with fail
  refine (alive18_any w HM.out).mono ?_
  rintro e w1 ⟨rfl, hb1⟩
  have HB1 := hide hb1
  have HA1 := hide (HA.out.below hb1)
  have HM1 := hide (HM.out.below hb1)
  clear hb1
  by_cases c1 : n < 1
  · have d1 : (n : Int) < 1 := by omega
    go_wp2
    go_ret
    exact ⟨rfl, HB1.out⟩
  have d1 : (1 : Int) ≤ (n : Int) := by omega
  by_cases c2 : 20 < n
  · have d2 : (20 : Int) < (n : Int) := by omega
    go_wp2
    go_ret
    exact ⟨rfl, HB1.out⟩
  have d2 : (n : Int) ≤ 20 := by omega
  obtain ⟨M, hM⟩ : ∃ M : List T, L = M.map bs := ⟨L.map (fun s => s.data.toList), by simp [Function.comp_def, bs_of]⟩
  have HMM := hide hM
  clear hM
  obtain ⟨X, hX⟩ : ∃ X : T, (if rc = true then SEP else [32]) = X := ⟨_, rfl⟩
  have HX := hide hX
  clear hX
  go_wp2
  go_loopw [6, 7, 8, 9] (fun v6 v7 v8 _v9 wr => ∃ (k : Nat) (P Q : T), v8 = .int .i64 k ∧ k ≤ n ∧ v6 = .string (bs P) ∧ v7 = .string (bs Q) ∧ Hid (P = Jo SEP (M.take k) ∧ Q = Jo X (M.take k) ∧ ∀ x ∈ M.take k, okw x) ∧ P.length ≤ k * 66 ∧ Q.length ≤ k * 66 ∧ Below w1.heap.size w1 wr) (fun _v6 _v7 v8 _v9 _ => n - (intOf v8).toNat)
  case atStart => exact ⟨0, [], [], rfl, by omega, rfl, rfl, ⟨rfl, rfl, by simp⟩, by simp, by simp, Below.refl _ _⟩
  case round =>
    obtain ⟨k, P, Q, rfl, hk, rfl, rfl, HR, hp, hq, hb⟩ := hrel
    have HB := hide hb
    clear hb
    by_cases hlt : k < n
    · obtain ⟨s, hs⟩ : ∃ s, L[k]? = some s := ⟨L[k]'(by have := HN.out; omega), List.getElem?_eq_getElem _⟩
      obtain ⟨x, hx, rfl⟩ : ∃ x, M[k]? = some x ∧ bs x = s := by
        have := hs
        rw [HMM.out, List.getElem?_map] at this
        cases hm : M[k]? with
        | none => rw [hm] at this; cases this
        | some x => rw [hm] at this; injection this with this; exact ⟨x, rfl, this⟩
      have HXK := hide hx
      have hz := HV.out k _ hs
      obtain ⟨g, o, rfl, hg, hc⟩ := (HA1.out.below HB.out) k _ hs
      have HS := hide hs
      have zx : (bs x).size = x.length := bs_size x
      have b1 : (k : Int) < (n : Int) := by omega
      clear hx hs
      cases x with
      | nil =>
        have hem : (bs ([] : T)).toList.isEmpty = true := by rw [empty_bs]; rfl
        go_wp2
        go_ret
        exact ⟨rfl, below_up HB1.out HB.out HB1.out.size⟩
      | cons x0 x' =>
      have hem : (bs (x0 :: x')).toList.isEmpty = false := by rw [empty_bs]; rfl
      have HNE := hide (show (x0 :: x' : T) ≠ [] by simp)
      obtain ⟨x, hxx⟩ : ∃ x, x0 :: x' = x := ⟨_, rfl⟩
      rw [hxx] at hc HXK HS zx hem hz HNE
      clear hxx
      obtain ⟨m, hm⟩ : ∃ m, x.length = m := ⟨_, rfl⟩
      rw [hm] at zx
      have HMX := hide hm
      clear hm
      by_cases c3 : 60 < m
      · have d3 : (60 : Int) < (m : Int) := by omega
        go_wp2
        go_ret
        exact ⟨rfl, below_up HB1.out HB.out HB1.out.size⟩
      have d3 : (m : Int) ≤ 60 := by omega
      obtain ⟨w2, rfl⟩ : ∃ w2, w2 = wr := ⟨wr, rfl⟩
      go_wp2
      go_loopw [9] (fun v9 wr => ∃ j : Nat, v9 = .int .i64 j ∧ j ≤ m ∧ Hid (∀ i, i < j → 97 ≤ bt (bs x) i ∧ bt (bs x) i ≤ 122) ∧ wr = w2) (fun v9 _ => m - (intOf v9).toNat)
      case atStart => exact ⟨0, rfl, by omega, fun i hi => by omega, rfl⟩
      case round =>
        obtain ⟨j, rfl, hj, HJ, rfl⟩ := hrel
        by_cases hjl : j < m
        · have b2 : (j : Int) < (m : Int) := by omega
          by_cases t1 : 97 ≤ bt (bs x) j
          case neg =>
            have t1' : (bt (bs x) j : Int) < 97 := by omega
            go_wp2
            go_ret
            exact ⟨rfl, below_up HB1.out HB.out HB1.out.size⟩
          have t1' : (97 : Int) ≤ bt (bs x) j := by omega
          by_cases t2 : bt (bs x) j ≤ 122
          case neg =>
            have t2' : decide ((bt (bs x) j : Int) ≤ 122) = false := by simp; omega
            go_wp2
            go_ret
            exact ⟨rfl, below_up HB1.out HB.out HB1.out.size⟩
          have t2' : (bt (bs x) j : Int) ≤ 122 := by omega
          go_wp2
          go_roundw
          case rel =>
            refine ⟨j + 1, by go_num, by omega, fun i hi => ?_, by first | rfl | trivial⟩
            by_cases e : i = j
            · subst e; exact ⟨t1, t2⟩
            · exact HJ.out i (by omega)
          case measure => simp [intOf]; omega
        · obtain rfl : j = m := by omega
          have HOK := hide (show okw x from ⟨HNE.out, fun q hq => by
            obtain ⟨i, hi, rfl⟩ := List.mem_iff_getElem.1 hq
            have h := HJ.out i (by have := HMX.out; omega)
            rw [bt_bs, List.getD_eq_getElem?_getD, List.getElem?_eq_getElem hi] at h
            exact letter_ok h⟩)
          have zP : (bs P).size = P.length := bs_size P
          have zQ : (bs Q).size = Q.length := bs_size Q
          have hpk : (P.length : Int) ≤ 1320 := by omega
          have hqk : (Q.length : Int) ≤ 1320 := by omega
          by_cases ck : 0 < k
          · have ck' : (0 : Int) < (k : Int) := by omega
            have e1 : bs P ++ (⟨#[32, 9, 92, 10, 32, 32]⟩ : ByteArray) = bs (P ++ SEP) := bs_app P SEP
            have e2 : bs Q ++ (⟨#[32, 9, 92, 10, 32, 32]⟩ : ByteArray) = bs (Q ++ SEP) := bs_app Q SEP
            have e3 : bs Q ++ (⟨#[32]⟩ : ByteArray) = bs (Q ++ [32]) := bs_app Q [32]
            have z1 : (bs (P ++ SEP)).size = P.length + 6 := by rw [bs_size]; simp
            have z2 : (bs (Q ++ SEP)).size = Q.length + 6 := by rw [bs_size]; simp
            have z3 : (bs (Q ++ [32])).size = Q.length + 1 := by rw [bs_size]; simp
            have e4 : bs (P ++ SEP) ++ bs x = bs (P ++ SEP ++ x) := bs_app _ _
            have e5 : bs (Q ++ SEP) ++ bs x = bs (Q ++ SEP ++ x) := bs_app _ _
            have e6 : bs (Q ++ [32]) ++ bs x = bs (Q ++ [32] ++ x) := bs_app _ _
            cases rc with
            | true =>
              go_wp2
              go_roundw
              case rel =>
                refine ⟨k + 1, P ++ SEP ++ x, Q ++ SEP ++ x, by go_num, by omega, by first | rfl | simp, by first | rfl | simp, ?_, ?_, ?_, HB.out⟩
                · have hX := HX.out
                  rw [if_pos rfl] at hX
                  subst hX
                  refine ⟨?_, ?_, ?_⟩
                  · rw [Jo_next SEP HXK.out, if_neg (by omega), HR.out.1]
                  · rw [Jo_next SEP HXK.out, if_neg (by omega), HR.out.2.1]
                  · intro q hq
                    rw [List.take_add_one, HXK.out] at hq
                    rcases List.mem_append.1 hq with h | h
                    · exact HR.out.2.2 q h
                    · obtain rfl : q = x := by simpa using h
                      exact HOK.out
                · have := HMX.out; simp only [List.length_append, List.length_cons, List.length_nil]; omega
                · have := HMX.out; simp only [List.length_append, List.length_cons, List.length_nil]; omega
              case measure => simp [intOf]; omega
            | false =>
              go_wp2
              go_roundw
              case rel =>
                refine ⟨k + 1, P ++ SEP ++ x, Q ++ [32] ++ x, by go_num, by omega, by first | rfl | simp, by first | rfl | simp, ?_, ?_, ?_, HB.out⟩
                · have hX := HX.out
                  rw [if_neg (by simp)] at hX
                  subst hX
                  refine ⟨?_, ?_, ?_⟩
                  · rw [Jo_next SEP HXK.out, if_neg (by omega), HR.out.1]
                  · rw [Jo_next [32] HXK.out, if_neg (by omega), HR.out.2.1]
                  · intro q hq
                    rw [List.take_add_one, HXK.out] at hq
                    rcases List.mem_append.1 hq with h | h
                    · exact HR.out.2.2 q h
                    · obtain rfl : q = x := by simpa using h
                      exact HOK.out
                · have := HMX.out; simp only [List.length_append, List.length_cons, List.length_nil]; omega
                · have := HMX.out; simp only [List.length_append, List.length_cons, List.length_nil]; omega
              case measure => simp [intOf]; omega
          · have hk0 := hide (show k = 0 by omega)
            have ck' : (k : Int) ≤ 0 := by omega
            have e4 : bs P ++ bs x = bs (P ++ x) := bs_app _ _
            have e5 : bs Q ++ bs x = bs (Q ++ x) := bs_app _ _
            go_wp2
            go_roundw
            case rel =>
              refine ⟨k + 1, P ++ x, Q ++ x, by go_num, by omega, by first | rfl | simp, by first | rfl | simp, ?_, ?_, ?_, HB.out⟩
              · obtain rfl := hk0.out
                have hP : P = [] := HR.out.1
                have hQ : Q = [] := HR.out.2.1
                subst hP hQ
                refine ⟨?_, ?_, ?_⟩
                · exact (Jo_next SEP HXK.out).symm
                · exact (Jo_next X HXK.out).symm
                · intro q hq
                  rw [List.take_add_one, HXK.out] at hq
                  obtain rfl : q = x := by simpa using hq
                  exact HOK.out
              · have := HMX.out; simp only [List.length_append]; omega
              · have := HMX.out; simp only [List.length_append]; omega
            case measure => simp [intOf]; omega
    · obtain rfl : k = n := by omega
      have hlen : M.length = k := by have := HN.out; rw [HMM.out, List.length_map] at this; exact this
      have hfull : M.take k = M := List.take_of_length_le (by omega)
      obtain ⟨w0, ws, hMM⟩ : ∃ w0 ws, M = w0 :: ws := by
        cases M with
        | nil => simp at hlen; omega
        | cons a b => exact ⟨a, b, rfl⟩
      have hP := HR.out.1
      have hQ := HR.out.2.1
      have hO := HR.out.2.2
      rw [hfull, hMM] at hP hQ hO
      have ho0 := hO w0 (by simp)
      have hos : ∀ x ∈ ws, okw x := fun x hx => hO x (by simp [hx])
      have zP : (bs P).size = P.length := bs_size P
      have hpk : (P.length : Int) ≤ 1320 := by omega
      have hpk2 : P.length ≤ 1320 := by omega
      have hmr := HM1.out.below HB.out
      cases rc with
      | true =>
        have hX := HX.out
        rw [if_pos rfl] at hX
        have hrf : readF (9 :: P) = ([(true, Q)], 0) := by
          rw [hQ, ← hX, hP]
          exact join_recipe ho0 ws hos (by rw [← hP]; simp only [List.length_cons]; omega)
        have hrd := read_any (9 :: P) wr hmr (by rw [bs_size]; simp only [List.length_cons]; omega)
        unfold ReadPost at hrd
        rw [hrf] at hrd
        have HRD := hide hrd
        have e1 : (⟨#[9]⟩ : ByteArray) ++ bs P = bs (9 :: P) := bs_app [9] P
        clear hrd hrf hX hP hQ hO ho0 hos hfull hMM hlen hmr
        have HBB := hide (below_up HB1.out HB.out HB1.out.size)
        go_wp2_with fail
        refine HRD.out.mono ?_
        rintro e w3 ⟨⟨C, cc, rfl, hcc, hr⟩, hb3⟩
        obtain ⟨g, o, rfl, hg, hx⟩ := hr 0 _ rfl
        have hx1 : w3.cell? ⟨g, o, none⟩ = some (.bool true) := hx 0 _ rfl
        have hx2 : w3.cell? ⟨g, o + 1, none⟩ = some (.string (bs Q)) := hx 1 _ rfl
        have HB3 := hide (below_up HBB.out hb3 HBB.out.size)
        clear hx hr hb3 HRD
        have hpn := line_eql true true (bs Q) (bs Q)
        rw [show ((true == true) && ((bs Q).toList == (bs Q).toList)) = true by simp] at hpn
        have hpg := lineGuard
        go_wp2_with fail
        refine (num18_any 0 _).mono ?_
        rintro e w' ⟨rfl, rfl⟩
        go_wp2
        go_ret
        exact ⟨rfl, HB3.out⟩
      | false =>
        have hX := HX.out
        rw [if_neg (by simp)] at hX
        have hrf : readF P = ([(false, Q)], 0) := by
          rw [hQ, ← hX, hP]
          exact join_plain ho0 ws hos (by rw [← hP]; omega)
        have hrd := read_any P wr hmr (by rw [bs_size]; omega)
        unfold ReadPost at hrd
        rw [hrf] at hrd
        have HRD := hide hrd
        clear hrd hrf hX hP hQ hO ho0 hos hfull hMM hlen hmr
        have HBB := hide (below_up HB1.out HB.out HB1.out.size)
        go_wp2_with fail
        refine HRD.out.mono ?_
        rintro e w3 ⟨⟨C, cc, rfl, hcc, hr⟩, hb3⟩
        obtain ⟨g, o, rfl, hg, hx⟩ := hr 0 _ rfl
        have hx1 : w3.cell? ⟨g, o, none⟩ = some (.bool false) := hx 0 _ rfl
        have hx2 : w3.cell? ⟨g, o + 1, none⟩ = some (.string (bs Q)) := hx 1 _ rfl
        have HB3 := hide (below_up HBB.out hb3 HBB.out.size)
        clear hx hr hb3 HRD
        have hpn := line_eql false false (bs Q) (bs Q)
        rw [show ((false == false) && ((bs Q).toList == (bs Q).toList)) = true by simp] at hpn
        have hpg := lineGuard
        go_wp2_with fail
        refine (num18_any 0 _).mono ?_
        rintro e w' ⟨rfl, rfl⟩
        go_wp2
        go_ret
        exact ⟨rfl, HB3.out⟩
end Go.Proofs.YtkocnbehogefnaaDoor
