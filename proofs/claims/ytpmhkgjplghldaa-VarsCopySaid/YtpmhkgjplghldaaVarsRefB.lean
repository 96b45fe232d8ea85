/- Walks of the reference's Name, At, Vars.Get, Vars.Unset. -/
import Derived.Test.YtpmhkgjplghldaaVarsRefA
import Derived.Test.YtpmhkgjplghldaaPairsWalkB
import Derived.Test.YtpmhkgjplghldaaVarsWalkC
namespace Go.Proofs.Ytpmhkgjplghldaa
open Go.RowKit Go.Deep
attribute [local go_sem] bt_eq

set_option maxRecDepth 100000 in
set_option maxHeartbeats 400000 in
theorem rname_any (s : ByteArray) (w : World) (hs : s.size ≤ 100000) : Calls Try.prog 14 #[.string s] w fun e w' => e = .returned (.bool (nmOk (bt s) s.size)) ∧ w = w' := by
  have hl := nmF_le (bt s) s.size s.size 0 (by omega)
  by_cases h0 : s.size = 0
  · obtain rfl : s = ⟨#[]⟩ := ByteArray.ext (Array.eq_empty_of_size_eq_zero h0)
    go_enter Try.func14, Try.ntmps14
    go_wp2
    go_ret
    exact ⟨rfl, rfl⟩
  · have hne : (s.toList.isEmpty) = false := by
      rw [ByteArray.toList_eq]
      cases h : s.data.toList with
      | nil => exact absurd (by have := congrArg List.length h; simpa using this) h0
      | cons a l => rfl
    have hne2 : ¬ (s.toList = []) := fun h => by rw [h] at hne; cases hne
    by_cases h6 : s.size ≤ 60
    · have hok : nmOk (bt s) s.size = (nmRun (bt s) s.size == s.size) := by
        rw [nmOk, decide_eq_true (by omega), decide_eq_true h6]; rfl
      have HOK := hide hok
      clear hok
      have hcast : (((nmRun (bt s) s.size : Nat) : Int) == ((s.size : Nat) : Int)) = (nmRun (bt s) s.size == s.size) := by
        rw [Bool.eq_iff_iff]; simp only [beq_iff_eq]; omega
      have HC := hide hcast
      clear hcast
      have hrl := rlen_any s 0 w hs (by omega)
      rw [Nat.sub_zero, show shB (bt s) 0 = bt s from by funext j; simp [shB]] at hrl
      go_enter Try.func14, Try.ntmps14
      go_wp2_with fail
      refine hrl.mono ?_
      rintro e w' ⟨rfl, rfl⟩
      clear hrl
      go_wp2
      go_ret
      refine ⟨?_, rfl⟩
      rw [HOK.out, ← HC.out]
      rfl
    · have hok : nmOk (bt s) s.size = false := by simp [nmOk, h6]
      have HOK := hide hok
      clear hok
      go_enter Try.func14, Try.ntmps14
      go_wp2
      go_ret
      refine ⟨?_, rfl⟩
      rw [HOK.out]
      rfl
/-- where a byte is first -/
def atF (t : Nat → Nat) (n c : Nat) : Nat → Nat → Option Nat
  | 0, _ => none
  | f + 1, k => if k < n then if t k = c then some k else atF t n c f (k + 1) else none
def atV (o : Option Nat) : Int := match o with
  | some k => k
  | none => -1
set_option maxRecDepth 100000 in
set_option maxHeartbeats 400000 in
theorem rat_any (s : ByteArray) (c : Nat) (w : World) (hs : s.size ≤ 100000) : Calls Try.prog 19 #[.string s, .int .u8 c] w fun e w' => e = .returned (.int .i64 (atV (atF (bt s) s.size c s.size 0))) ∧ w = w' := by
  go_enter Try.func19, Try.ntmps19
  go_wp2
  go_loop [5] (fun v5 => ∃ k f : Nat, v5 = .int .i64 k ∧ k ≤ s.size ∧ s.size ≤ k + f ∧ Hid (atF (bt s) s.size c f k = atF (bt s) s.size c s.size 0)) (fun v5 => s.size - (intOf v5).toNat)
  case atStart => exact ⟨0, s.size, rfl, by omega, by omega, rfl⟩
  case round =>
    obtain ⟨k, f, rfl, hk, hf, HR⟩ := hrel
    by_cases hlt : k < s.size
    · obtain ⟨f, rfl⟩ : ∃ f', f = f' + 1 := ⟨f - 1, by omega⟩
      by_cases he : bt s k = c
      · have g1 : (((bt s k : Nat) : Int) == (c : Int)) = true := by simp [he]
        have HE := hide he
        clear he
        go_wp2
        go_ret
        refine ⟨?_, rfl⟩
        have := HR.out
        rw [atF, if_pos hlt, if_pos HE.out] at this
        rw [← this]
        rfl
      · have g1 : (((bt s k : Nat) : Int) == (c : Int)) = false := by simp only [beq_eq_false_iff_ne]; omega
        have HE := hide he
        clear he
        go_wp2
        go_round
        case rel => exact ⟨k + 1, f, by go_num, by omega, by omega, by have := HR.out; rw [atF, if_pos hlt, if_neg HE.out] at this; exact this⟩
        case measure => simp [intOf]; omega
    · go_wp2
      go_ret
      refine ⟨?_, rfl⟩
      have := HR.out
      have e : atF (bt s) s.size c f k = none := by cases f <;> simp [atF, hlt]
      rw [← this, e]
      rfl
/-- what a name has in a list of pairs -/
def getP (P : List Pr) (n : ByteArray) : Option ByteArray := (P.find? fun x => decide (x.1 = n)).map (·.2)
def getV (o : Option ByteArray) : Value := match o with
  | some v => .tuple #[.string v, .bool true]
  | none => .tuple #[.string ⟨#[]⟩, .bool false]
theorem find_drop {P : List Pr} {k : Nat} {x : Pr} (h : P[k]? = some x) (f : Pr → Bool) : (P.drop k).find? f = if f x then some x else (P.drop (k + 1)).find? f := by
  have hk := (List.getElem?_eq_some_iff.1 h).1
  have e : P.drop k = x :: P.drop (k + 1) := by
    rw [List.drop_eq_getElem_cons hk]
    congr 1
    exact (List.getElem?_eq_some_iff.1 h).2
  rw [e, List.find?_cons]
  cases f x <;> rfl
set_option maxRecDepth 100000 in
set_option maxHeartbeats 1000000 in
theorem rget_any (g : Nat) (A : Option Addr) (c : Nat) (P : List Pr) (n : ByteArray) (w : World) (hc : w.cell? ⟨g, 0, none⟩ = some (.slice A P.length c)) (hP : PR w A P) (hl : P.length ≤ 10000) :
    Calls Try.prog 12 #[.pointer (some ⟨g, 0, none⟩), .string n] w fun e w' => e = .returned (getV (getP P n)) ∧ w = w' := by
  obtain ⟨m, hm⟩ : ∃ m, P.length = m := ⟨_, rfl⟩
  rw [hm] at hc hl
  have HM := hide hm
  have HP := hide hP
  clear hm hP
  go_enter Try.func12, Try.ntmps12
  go_wp2
  go_loop [6] (fun v6 => ∃ k : Nat, v6 = .int .i64 k ∧ k ≤ m ∧ Hid ((P.drop k).find? (fun x => decide (x.1 = n)) = P.find? fun x => decide (x.1 = n))) (fun v6 => m - (intOf v6).toNat)
  case atStart => exact ⟨0, rfl, by omega, rfl⟩
  case round =>
    obtain ⟨k, rfl, hk, HR⟩ := hrel
    by_cases hlt : k < m
    · obtain ⟨x, hx⟩ : ∃ x, P[k]? = some x := ⟨P[k]'(by have := HM.out; omega), List.getElem?_eq_getElem _⟩
      obtain ⟨x1, x2⟩ := x
      obtain ⟨g', o, rfl, hg, hc1, hc2⟩ := HP.out k _ hx
      have HF := hide (find_drop hx (fun x => decide (x.1 = n)))
      clear hx
      by_cases he : x1 = n
      · subst he
        go_wp2
        go_ret2
        refine ⟨?_, rfl⟩
        have := HR.out
        rw [HF.out, if_pos (by simp)] at this
        rw [getP, ← this]
        rfl
      · have hne := txt_ne he
        have HE := hide he
        clear he
        go_wp2
        go_round
        case rel => exact ⟨k + 1, by go_num, by omega, by have := HR.out; rw [HF.out, if_neg (by simpa using HE.out)] at this; exact this⟩
        case measure => simp [intOf]; omega
    · go_wp2
      go_ret2
      refine ⟨?_, rfl⟩
      have := HR.out
      rw [List.drop_of_length_le (by have := HM.out; omega)] at this
      rw [getP, ← this]
      rfl
end Go.Proofs.Ytpmhkgjplghldaa
