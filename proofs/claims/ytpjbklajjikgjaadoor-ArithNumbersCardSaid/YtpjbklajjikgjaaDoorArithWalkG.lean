/- Walk of package arith: a name's value. -/
import Derived.Test.YtpjbklajjikgjaaDoorArithWalkF
import Derived.Test.YtpjbklajjikgjaaDoorPairsWalk
namespace Go.Proofs.YtpjbklajjikgjaaDoor
open Go.RowKit Go.Deep
attribute [local go_sem] bt_eq

/-- what a name has, in the last pair of it -/
def lastV (P : List Pr) (n : ByteArray) : ByteArray := P.foldl (fun t x => if x.1 = n then x.2 else t) ⟨#[]⟩
theorem lastV_snoc (P : List Pr) (x : Pr) (n : ByteArray) : lastV (P ++ [x]) n = if x.1 = n then x.2 else lastV P n := by simp [lastV]
/-- a text without the blanks at its ends -/
def trB (l : List UInt8) : List UInt8 := Lib.trimS l [32, 9, 10]
/-- a value's number -/
def valT (l : List UInt8) : Except Nat Int :=
  if l = [] then .ok 0
  else if l.headD 0 = 45 then (if (dig2 l.tail).2 = true then .ok (wrap64 (-(dig2 l.tail).1)) else .error 2)
  else (if (dig2 l).2 = true then .ok (dig2 l).1 else .error 2)
def nvF (P : List Pr) (n : ByteArray) : Except Nat Int := if 60 < n.size then .error 2 else valT (trB (lastV P n).data.toList)
theorem trB_nil : trB [] = [] := by decide
/-- how a call of the reader ends -/
def VEnd (g : Nat) (s : ByteArray) (i : Nat) (lv : Value) (d : Nat) (z : Bool) (w : World) (r : Except Nat Int) (e : Ending) (w' : World) : Prop := match r with
  | .ok v => e = .returned (.int .i64 v) ∧ RD w' g s i lv d z ∧ Gr w w' g
  | .error c => e = .panicked (pw c) ∧ Gr w w' g
/-- the pairs lie below block B -/
structure PB (w : World) (A : Option Addr) (P : List Pr) (B : Nat) : Prop where
  pr : PR w A P
  lo : ∀ a, A = some a → P = [] ∨ a.block < B
theorem PB.kept {w w' : World} {A : Option Addr} {P : List Pr} {B g : Nat} (h : PB w A P B) (hg : Gr w w' g) (hB : B ≤ g) : PB w' A P B :=
  ⟨by
    by_cases hP : P = []
    · subst hP; exact PR.nil _ _
    · exact h.pr.gb hg (fun a e c => by injection c with c; rcases h.lo a e with h1 | h1 <;> first | exact hP h1 | omega), h.lo⟩
theorem PR.pb {w : World} {A : Option Addr} {P : List Pr} (h : PR w A P) : PB w A P w.heap.size :=
  ⟨h, fun a e => by
    cases P with
    | nil => exact .inl rfl
    | cons x P =>
      obtain ⟨g, o, e2, hg, _⟩ := h 0 x rfl
      rw [e] at e2
      injection e2 with e2
      subst e2
      exact .inr hg⟩
theorem trB_len (l : List UInt8) : (trB l).length ≤ l.length := by
  unfold trB Lib.trimS Lib.trimLeftS Lib.trimRightS
  refine Nat.le_trans (List.dropWhile_suffix _).length_le ?_
  rw [List.length_reverse]
  exact Nat.le_trans (List.dropWhile_suffix _).length_le (by simp)
theorem size_toArray (l : List UInt8) : (⟨l.toArray⟩ : ByteArray).size = l.length := rfl
theorem trB_size (s : ByteArray) : (⟨(trB s.data.toList).toArray⟩ : ByteArray).size ≤ s.size := by
  rw [size_toArray]
  exact Nat.le_trans (trB_len _) (by simp)
theorem hasMinus {l : List UInt8} (h : l.headD 0 = 45) : Lib.hasPrefix l [45] = true := by
  cases l with
  | nil => exact absurd h (by decide)
  | cons c l =>
    have : c = 45 := h
    subst this
    simp [Lib.hasPrefix]
theorem noMinus {l : List UInt8} (h : ¬ l.headD 0 = 45) : Lib.hasPrefix l [45] = false := by
  cases l with
  | nil => rfl
  | cons c l =>
    have h1 : ¬ c = 45 := h
    have h2 : ((45 : UInt8) == c) = false := by simpa using Ne.symm h1
    show ((45 : UInt8) == c && [].isPrefixOf l) = false
    rw [h2]; rfl
theorem tail_text {l : List UInt8} (h : l.headD 0 = 45) : ∃ rt : ByteArray, (⟨(Lib.trimPrefix l [45]).toArray⟩ : ByteArray) = rt ∧ l.tail = rt.data.toList ∧ rt.size ≤ l.length :=
  ⟨_, rfl, by rw [Lib.trimPrefix, if_pos (hasMinus h)]; simp, by rw [size_toArray, Lib.trimPrefix, if_pos (hasMinus h)]; simp⟩
theorem same_text {t : ByteArray} (h : ¬ t.data.toList.headD 0 = 45) : (⟨(Lib.trimPrefix t.data.toList [45]).toArray⟩ : ByteArray) = t := by
  rw [Lib.trimPrefix, if_neg (by rw [noMinus h]; simp)]
set_option maxRecDepth 100000 in
set_option maxHeartbeats 1000000 in
theorem value_any (g : Nat) (s : ByteArray) (i : Nat) (A : Option Addr) (P : List Pr) (c : Nat) (d : Nat) (z : Bool) (n : ByteArray) (B : Nat) (w : World) (h : RD w g s i (.slice A P.length c) d z) (hP : PB w A P B) (hB : B ≤ g)
    (hl : P.length ≤ maxLen) (hv : ∀ x ∈ P, x.2.size ≤ maxLen) (hn : n.size ≤ maxLen) :
    Calls Tryd.prog 55 #[.pointer (some ⟨g, 0, none⟩), .string n] w fun e w' => VEnd g s i (.slice A P.length c) d z w (nvF P n) e w' := by
  obtain ⟨m, hm⟩ : ∃ m, P.length = m := ⟨_, rfl⟩
  rw [hm] at h hl ⊢
  have HM := hide hm
  have H := hide h
  have hc2 := h.c2
  have HP := hide hP
  have HV := hide hv
  have hl2 : (m : Int) ≤ 9223372036854775807 := by unfold maxLen at hl; omega
  have hn2 : (n.size : Int) ≤ 9223372036854775807 := by unfold maxLen at hn; omega
  clear hm h hP hv
  by_cases h60 : 60 < n.size
  · have HN := hide (show nvF P n = .error 2 from if_pos h60)
    go_enter Tryd.func55, Tryd.ntmps55
    go_wp2_with fail
    refine (fail_any 2 _).mono ?_
    rintro e w' ⟨rfl, rfl⟩
    exact ⟨rfl, by rw [HN.out]; exact ⟨rfl, Gr.refl _ _⟩⟩
  · have HN := hide (show nvF P n = valT (trB (lastV P n).data.toList) from if_neg h60)
    go_enter Tryd.func55, Tryd.ntmps55
    go_wp2
    go_loopw [5, 21] (fun v5 v21 wr => ∃ (k : Nat) (t : ByteArray), v21 = .int .i64 k ∧ k ≤ m ∧ v5 = .string t ∧ t.size ≤ maxLen ∧ Hid (t.data.toList = trB (lastV (P.take k) n).data.toList) ∧ RD wr g s i (.slice A m c) d z ∧ Gr w wr g) (fun _ v21 _ => m - (intOf v21).toNat)
    case atStart => exact ⟨0, ⟨#[]⟩, rfl, by omega, rfl, by decide, trB_nil.symm, H.out, Gr.refl _ _⟩
    case round =>
      obtain ⟨k, t, rfl, hk, rfl, hts, HT, hr, hg⟩ := hrel
      have HR := hide hr
      have HG := hide hg
      clear hr hg hc2
      by_cases hlt : k < m
      · obtain ⟨x, hx⟩ : ∃ x, P[k]? = some x := ⟨P[k]'(by have := HM.out; omega), List.getElem?_eq_getElem _⟩
        obtain ⟨x1, x2⟩ := x
        obtain ⟨ga, oa, rfl, hga, hca1, hca2⟩ := (HP.out.kept HG.out hB).pr k _ hx
        have hx2 := HV.out _ (List.mem_of_getElem? hx)
        have HX := hide (show lastV (P.take (k + 1)) n = if x1 = n then x2 else lastV (P.take k) n by rw [List.take_add_one, hx]; exact lastV_snoc _ _ _)
        clear hx
        by_cases he : x1 = n
        · subst he
          rw [if_pos rfl] at HX
          go_wp2_with fail
          refine (Tryd.strings_Trim_laid x2 ⟨#[32, 9, 10]⟩ _ hx2 (by decide) (ascii_of_all (by decide))).mono ?_
          rintro e w2 ⟨rfl, hb2⟩
          have HR2 := hide ((HR.out.below ((Below.refl _ _).alloc (Nat.le_refl _) _)).below hb2)
          have HG2 := hide (gr_below' (gb_alloc HG.out _) hb2)
          clear hb2
          go_wp2
          go_roundw
          case rel => exact ⟨k + 1, _, by go_num, by omega, rfl, Nat.le_trans (trB_size _) hx2, by rw [HX.out]; rfl, HR2.out, HG2.out⟩
          case measure => simp [intOf]; omega
        · rw [if_neg he] at HX
          have hne := txt_ne he
          have HE := hide he
          clear he
          go_wp2
          go_roundw
          case rel => exact ⟨k + 1, t, by go_num, by omega, rfl, hts, by rw [HX.out]; exact HT.out, HR.out.below ((Below.refl _ _).alloc (Nat.le_refl _) _), gb_alloc HG.out _⟩
          case measure => simp [intOf]; omega
      · have hlen : P.length ≤ k := by have := HM.out; omega
        have HTT := hide (show nvF P n = valT t.data.toList by rw [HN.out, HT.out, List.take_of_length_le hlen])
        have hts2 : (t.size : Int) ≤ 9223372036854775807 := by unfold maxLen at hts; omega
        clear HT HN hlen
        by_cases h0 : t.size = 0
        · have hl := toList_nil h0
          have HL := hide (show nvF P n = .ok 0 by rw [HTT.out, ← ByteArray.toList_eq, hl]; rfl)
          have H0 := hide h0
          clear h0
          go_wp2
          go_ret
          rw [HL.out]
          exact ⟨rfl, HR.out, HG.out⟩
        · have hl := toList_ne h0
          have hlne : ¬ t.data.toList = [] := by rw [← ByteArray.toList_eq]; exact hl
          have hle : t.toList.isEmpty = false := by
            cases h : t.toList.isEmpty with
            | false => rfl
            | true => exact absurd (List.isEmpty_iff.1 h) hl
          by_cases hm45 : t.data.toList.headD 0 = 45
          · obtain ⟨rt, hrt, hrs, hrl⟩ := tail_text hm45
            have HCP := hide hrt
            have HHP := hide (hasMinus hm45)
            have HL := hide (show nvF P n = if (dig2 rt.data.toList).2 = true then .ok (wrap64 (-(dig2 rt.data.toList).1)) else .error 2 by
              rw [HTT.out, valT, if_neg hlne, if_pos hm45, hrs])
            have hrl2 : rt.size ≤ 9223372036854775807 := by
              have : t.data.toList.length = t.size := by simp
              omega
            clear hrt hrs hlne hm45 hrl
            go_wp2_with fail
            refine (Tryd.strings_CutPrefix t ⟨#[45]⟩ _).mono ?_
            rintro e w2 ⟨rfl, rfl⟩
            rw [show (⟨#[45]⟩ : ByteArray).data.toList = [45] from rfl, HHP.out, HCP.out]
            go_wp2_with fail
            refine (digits7_any rt _ hrl2).mono ?_
            rintro e w2 ⟨rfl, rfl⟩
            generalize dig2 rt.data.toList = q at HL ⊢
            obtain ⟨q1, q2⟩ := q
            cases q2 with
            | true =>
              go_wp2
              go_ret
              rw [HL.out]
              exact ⟨rfl, HR.out, HG.out⟩
            | false =>
              go_wp2_with fail
              refine (fail_any 2 _).mono ?_
              rintro e w' ⟨rfl, rfl⟩
              exact ⟨rfl, by rw [HL.out]; exact ⟨rfl, HG.out⟩⟩
          · have HCP := hide (same_text hm45)
            have HHP := hide (noMinus hm45)
            have HL := hide (show nvF P n = if (dig2 t.data.toList).2 = true then .ok (dig2 t.data.toList).1 else .error 2 by
              rw [HTT.out, valT, if_neg hlne, if_neg hm45])
            have hrl2 : t.size ≤ 9223372036854775807 := by omega
            clear hlne hm45
            go_wp2_with fail
            refine (Tryd.strings_CutPrefix t ⟨#[45]⟩ _).mono ?_
            rintro e w2 ⟨rfl, rfl⟩
            rw [show (⟨#[45]⟩ : ByteArray).data.toList = [45] from rfl, HHP.out, HCP.out]
            go_wp2_with fail
            refine (digits7_any t _ hrl2).mono ?_
            rintro e w2 ⟨rfl, rfl⟩
            generalize dig2 t.data.toList = q at HL ⊢
            obtain ⟨q1, q2⟩ := q
            cases q2 with
            | true =>
              go_wp2
              go_ret
              rw [HL.out]
              exact ⟨rfl, HR.out, HG.out⟩
            | false =>
              go_wp2_with fail
              refine (fail_any 2 _).mono ?_
              rintro e w' ⟨rfl, rfl⟩
              exact ⟨rfl, by rw [HL.out]; exact ⟨rfl, HG.out⟩⟩
end Go.Proofs.YtpjbklajjikgjaaDoor
