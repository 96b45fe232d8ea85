/- Walk of the reference's Names. -/
import Derived.Test.YthlboecjlelemaaStrsWalkC
import Derived.Test.YthlboecjlelemaaStrsMath
import Derived.Test.YthlboecjlelemaaGlobLawA
namespace Go.Proofs.Ythlboecjlelemaa
open Go.RowKit Go.Deep Qm.Glob Qm.Base
attribute [local go_sem] bt_eq

/-- has a text a dot ahead? has a pattern one? -/
def dotS (s : ByteArray) : Bool := decide (0 < s.size) && bt s 0 == 46
def dotP (p : ByteArray) : Bool := dotS p || (decide (1 < p.size) && bt p 0 == 92 && bt p 1 == 46)
/-- does a pattern tell a name? -/
def keepN (p s : ByteArray) : Bool := (!dotS s || dotP p) && gMatch p s
def namesOf (p : ByteArray) (L : List ByteArray) : List ByteArray := (L.filter (keepN p)).foldl (fun acc s => putS s acc) []
theorem putS_len (s : ByteArray) : ∀ L, (putS s L).length ≤ L.length + 1
  | [] => by simp [putS]
  | x :: L => by
    rw [putS]
    split
    · have := putS_len s L; simp; omega
    · split <;> simp
theorem namesOf_snoc (p : ByteArray) (L : List ByteArray) (s : ByteArray) : namesOf p (L ++ [s]) = if keepN p s then putS s (namesOf p L) else namesOf p L := by
  rw [namesOf, List.filter_append, List.foldl_append]
  cases h : keepN p s <;> simp [h, namesOf]
theorem namesOf_len (p : ByteArray) (L : List ByteArray) : (namesOf p L).length ≤ L.length := by
  have : ∀ n, ∀ L : List ByteArray, L.length = n → (namesOf p L).length ≤ n := fun n => by
    induction n with
    | zero => intro L h; rw [List.eq_nil_of_length_eq_zero h]; simp [namesOf]
    | succ n ih =>
      intro L h
      obtain ⟨L', x, rfl⟩ : ∃ l' x, L = l' ++ [x] := ⟨L.dropLast, L.getLast (by intro e; subst e; simp at h), (List.dropLast_concat_getLast _).symm⟩
      have h2 := ih L' (by simpa using h)
      rw [namesOf_snoc]
      split
      · have := putS_len x (namesOf p L'); omega
      · omega
  exact this _ L rfl

set_option maxRecDepth 100000 in
set_option maxHeartbeats 1000000 in
theorem rnames_any (p : ByteArray) (A : Option Addr) (c : Nat) (L : List ByteArray) (w : World) (hp : p.size ≤ 1000) (hL : ∀ (k : Nat) (s : ByteArray), L[k]? = some s → s.size ≤ 1000) (hn : L.length ≤ 1000) (hA : SR w A L) :
    Calls Try.prog 39 #[.string p, .slice A L.length c] w fun e w' => (∃ A' c', e = .returned (.slice A' (namesOf p L).length c') ∧ SR w' A' (namesOf p L) ∧ (namesOf p L).length ≤ c') ∧ Below w.heap.size w w' := by
  obtain ⟨n, hn1⟩ : ∃ n, L.length = n := ⟨_, rfl⟩
  rw [hn1]
  rw [hn1] at hn
  have HN := hide hn1
  have HA := hide hA
  have HL := hide hL
  have HDP := hide (show dotP p = (dotS p || (decide (1 < p.size) && bt p 0 == 92 && bt p 1 == 46)) from rfl)
  have HDS := hide (show dotS p = (decide (0 < p.size) && bt p 0 == 46) from rfl)
  clear hA hn1 hL
  go_enter Try.func39, Try.ntmps39
  go_upto_region 1 with (fail)
  go_cut [5] from 9 to 32 (fun v5 w' => v5 = .bool (dotP p) ∧ w = w')
  case first =>
    by_cases h0 : 0 < p.size
    · by_cases h1 : bt p 0 = 46
      · have g1 : (((bt p 0 : Nat) : Int) == 46) = true := by simp [h1]
        have HF := hide (show dotP p = true by rw [HDP.out, HDS.out, h1]; simp [h0])
        clear h1
        go_wp2
        go_meet
        exact ⟨by rw [HF.out], rfl⟩
      · have g1 : (((bt p 0 : Nat) : Int) == 46) = false := by simp only [beq_eq_false_iff_ne]; omega
        by_cases h2 : 1 < p.size
        · by_cases h3 : bt p 0 = 92
          · have g3 : (((bt p 0 : Nat) : Int) == 92) = true := by simp [h3]
            by_cases h4 : bt p 1 = 46
            · have g4 : (((bt p 1 : Nat) : Int) == 46) = true := by simp [h4]
              have HF := hide (show dotP p = true by rw [HDP.out, HDS.out, h3, h4]; simp [h2])
              clear h1 h3 h4
              go_wp2
              go_meet
              exact ⟨by rw [HF.out], rfl⟩
            · have g4 : (((bt p 1 : Nat) : Int) == 46) = false := by simp only [beq_eq_false_iff_ne]; omega
              have HF := hide (show dotP p = false by rw [HDP.out, HDS.out, h3]; simp [h4])
              clear h1 h3 h4
              go_wp2
              go_meet
              exact ⟨by rw [HF.out], rfl⟩
          · have g3 : (((bt p 0 : Nat) : Int) == 92) = false := by simp only [beq_eq_false_iff_ne]; omega
            have HF := hide (show dotP p = false by rw [HDP.out, HDS.out]; simp [h1, h3])
            clear h1 h3
            go_wp2
            go_meet
            exact ⟨by rw [HF.out], rfl⟩
        · have HF := hide (show dotP p = false by rw [HDP.out, HDS.out]; simp [h1, h2])
          clear h1
          go_wp2
          go_meet
          exact ⟨by rw [HF.out], rfl⟩
    · have HF := hide (show dotP p = false by rw [HDP.out, HDS.out]; simp [h0]; omega)
      go_wp2
      go_meet
      exact ⟨by rw [HF.out], rfl⟩
  case rest =>
    obtain ⟨rfl, rfl⟩ := hcut
    generalize hdp : dotP p = dp
    have HDQ := hide hdp
    clear hdp HDP HDS
    go_wp2
    go_loopw [6, 7] (fun v6 v7 wr => ∃ (k : Nat) (A' : Option Addr) (c' : Nat), v7 = .int .i64 k ∧ k ≤ n ∧ v6 = .slice A' (namesOf p (L.take k)).length c' ∧ SR wr A' (namesOf p (L.take k)) ∧ (namesOf p (L.take k)).length ≤ c' ∧ Below w.heap.size w wr) (fun _ v7 _ => n - (intOf v7).toNat)
    case atStart => exact ⟨0, none, 0, rfl, by omega, rfl, SR.nil _ _, Nat.le_refl _, Below.refl _ _⟩
    case round =>
      obtain ⟨k, A', c', rfl, hk, rfl, hsr, hc', hb⟩ := hrel
      have HSR := hide hsr
      have HB := hide hb
      clear hsr hb
      by_cases hlt : k < n
      · obtain ⟨x, hx⟩ : ∃ x, L[k]? = some x := ⟨L[k]'(by have := HN.out; omega), List.getElem?_eq_getElem _⟩
        have hxs := HL.out k x hx
        obtain ⟨g, o, rfl, hg, hcell⟩ := (HA.out.below HB.out) k x hx
        have HX := hide (show namesOf p (L.take (k + 1)) = if keepN p x then putS x (namesOf p (L.take k)) else namesOf p (L.take k) by rw [take_snoc' hx, namesOf_snoc])
        have hkp : keepN p x = ((!dotS x || dp) && gMatch p x) := by rw [keepN, HDQ.out]
        have HKP := hide hkp
        have HDX := hide (show dotS x = (decide (0 < x.size) && bt x 0 == 46) from rfl)
        have hml : (namesOf p (L.take k)).length ≤ 1000 := by
          have := namesOf_len p (L.take k)
          simp at this
          omega
        clear hx hkp
        by_cases h0 : 0 < x.size
        · by_cases h1 : bt x 0 = 46
          · have g1 : (((bt x 0 : Nat) : Int) == 46) = true := by simp [h1]
            cases dp with
            | true =>
              have HD := hide (show (!dotS x || true) = true by simp)
              clear h1
              go_wp2_with fail
              refine (rmatch_any p x wr hp hxs).mono ?_
              rintro e w2 ⟨rfl, hb2⟩
              rw [← match_same]
              have HSR2 := hide (HSR.out.below hb2)
              have hcell2 : w2.cell? ⟨g, o + k, none⟩ = some (.string x) := (hb2.cell (p := ⟨g, o + k, none⟩) hg).trans hcell
              have HB2 := hide (below_up HB.out hb2 HB.out.size)
              clear hb2
              cases hm : gMatch p x with
              | true =>
                have HK := hide (show keepN p x = true by rw [HKP.out, HD.out, hm]; rfl)
                clear hm
                go_wp2_with fail
                refine (put_any A' c' (namesOf p (L.take k)) x w2 HSR2.out (by omega) hc').mono ?_
                rintro e w3 ⟨⟨A3, c3, rfl, hs3, hc3⟩, hb3⟩
                have HS3 := hide hs3
                have HB3 := hide (below_up HB2.out hb3 HB2.out.size)
                clear hs3 hb3
                go_wp2
                go_roundw
                case rel => exact ⟨k + 1, A3, c3, by go_num, by omega, by rw [HX.out, HK.out]; rfl, by rw [HX.out, HK.out]; exact HS3.out, by rw [HX.out, HK.out]; exact hc3, HB3.out⟩
                case measure => simp [intOf]; omega
              | false =>
                have HK := hide (show keepN p x = false by rw [HKP.out, hm, Bool.and_false])
                clear hm
                go_wp2
                go_roundw
                case rel => exact ⟨k + 1, A', c', by go_num, by omega, by rw [HX.out, HK.out]; rfl, by rw [HX.out, HK.out]; exact HSR2.out, by rw [HX.out, HK.out]; exact hc', HB2.out⟩
                case measure => simp [intOf]; omega
            | false =>
              have HK := hide (show keepN p x = false by rw [HKP.out, HDX.out, h1]; simp [h0])
              clear h1
              go_wp2
              go_roundw
              case rel => exact ⟨k + 1, A', c', by go_num, by omega, by rw [HX.out, HK.out]; rfl, by rw [HX.out, HK.out]; exact HSR.out, by rw [HX.out, HK.out]; exact hc', HB.out⟩
              case measure => simp [intOf]; omega
          · have g1 : (((bt x 0 : Nat) : Int) == 46) = false := by simp only [beq_eq_false_iff_ne]; omega
            have HD := hide (show (!dotS x || dp) = true by rw [HDX.out]; simp [h1])
            clear h1
            go_wp2_with fail
            refine (rmatch_any p x wr hp hxs).mono ?_
            rintro e w2 ⟨rfl, hb2⟩
            rw [← match_same]
            have HSR2 := hide (HSR.out.below hb2)
            have hcell2 : w2.cell? ⟨g, o + k, none⟩ = some (.string x) := (hb2.cell (p := ⟨g, o + k, none⟩) hg).trans hcell
            have HB2 := hide (below_up HB.out hb2 HB.out.size)
            clear hb2
            cases hm : gMatch p x with
            | true =>
              have HK := hide (show keepN p x = true by rw [HKP.out, HD.out, hm]; rfl)
              clear hm
              go_wp2_with fail
              refine (put_any A' c' (namesOf p (L.take k)) x w2 HSR2.out (by omega) hc').mono ?_
              rintro e w3 ⟨⟨A3, c3, rfl, hs3, hc3⟩, hb3⟩
              have HS3 := hide hs3
              have HB3 := hide (below_up HB2.out hb3 HB2.out.size)
              clear hs3 hb3
              go_wp2
              go_roundw
              case rel => exact ⟨k + 1, A3, c3, by go_num, by omega, by rw [HX.out, HK.out]; rfl, by rw [HX.out, HK.out]; exact HS3.out, by rw [HX.out, HK.out]; exact hc3, HB3.out⟩
              case measure => simp [intOf]; omega
            | false =>
              have HK := hide (show keepN p x = false by rw [HKP.out, hm, Bool.and_false])
              clear hm
              go_wp2
              go_roundw
              case rel => exact ⟨k + 1, A', c', by go_num, by omega, by rw [HX.out, HK.out]; rfl, by rw [HX.out, HK.out]; exact HSR2.out, by rw [HX.out, HK.out]; exact hc', HB2.out⟩
              case measure => simp [intOf]; omega
        · have HD := hide (show (!dotS x || dp) = true by rw [HDX.out]; simp [h0])
          go_wp2_with fail
          refine (rmatch_any p x wr hp hxs).mono ?_
          rintro e w2 ⟨rfl, hb2⟩
          rw [← match_same]
          have HSR2 := hide (HSR.out.below hb2)
          have hcell2 : w2.cell? ⟨g, o + k, none⟩ = some (.string x) := (hb2.cell (p := ⟨g, o + k, none⟩) hg).trans hcell
          have HB2 := hide (below_up HB.out hb2 HB.out.size)
          clear hb2
          cases hm : gMatch p x with
          | true =>
            have HK := hide (show keepN p x = true by rw [HKP.out, HD.out, hm]; rfl)
            clear hm
            go_wp2_with fail
            refine (put_any A' c' (namesOf p (L.take k)) x w2 HSR2.out (by omega) hc').mono ?_
            rintro e w3 ⟨⟨A3, c3, rfl, hs3, hc3⟩, hb3⟩
            have HS3 := hide hs3
            have HB3 := hide (below_up HB2.out hb3 HB2.out.size)
            clear hs3 hb3
            go_wp2
            go_roundw
            case rel => exact ⟨k + 1, A3, c3, by go_num, by omega, by rw [HX.out, HK.out]; rfl, by rw [HX.out, HK.out]; exact HS3.out, by rw [HX.out, HK.out]; exact hc3, HB3.out⟩
            case measure => simp [intOf]; omega
          | false =>
            have HK := hide (show keepN p x = false by rw [HKP.out, hm, Bool.and_false])
            clear hm
            go_wp2
            go_roundw
            case rel => exact ⟨k + 1, A', c', by go_num, by omega, by rw [HX.out, HK.out]; rfl, by rw [HX.out, HK.out]; exact HSR2.out, by rw [HX.out, HK.out]; exact hc', HB2.out⟩
            case measure => simp [intOf]; omega
      · obtain rfl : k = n := by omega
        have HT := hide (show L.take k = L from List.take_of_length_le (by have := HN.out; omega))
        go_wp2
        go_ret
        refine ⟨⟨A', c', ?_, ?_, ?_⟩, HB.out⟩
        · rw [HT.out]; rfl
        · have := HSR.out; rw [HT.out] at this; exact this
        · rw [HT.out] at hc'; exact hc'
end Go.Proofs.Ythlboecjlelemaa
