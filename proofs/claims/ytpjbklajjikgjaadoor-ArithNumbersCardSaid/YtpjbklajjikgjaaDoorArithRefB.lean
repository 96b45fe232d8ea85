/- Walk of the reference's sign. -/
import Derived.Test.YtpjbklajjikgjaaDoorArithRefA
import Derived.Deep.CutBlock
namespace Go.Proofs.YtpjbklajjikgjaaDoor
open Go.RowKit Go.Deep

def sgnL : List ByteArray := [⟨#[124, 124]⟩, ⟨#[38, 38]⟩, ⟨#[61, 61]⟩, ⟨#[33, 61]⟩, ⟨#[60, 61]⟩, ⟨#[62, 61]⟩, ⟨#[60, 60]⟩, ⟨#[62, 62]⟩, ⟨#[124]⟩, ⟨#[94]⟩, ⟨#[38]⟩, ⟨#[60]⟩, ⟨#[62]⟩, ⟨#[43]⟩, ⟨#[45]⟩, ⟨#[42]⟩, ⟨#[47]⟩, ⟨#[37]⟩, ⟨#[33]⟩, ⟨#[126]⟩, ⟨#[40]⟩, ⟨#[41]⟩]
def sgP (f : ByteArray → Bool) : ByteArray := (sgnL.find? f).getD ⟨#[]⟩
def S15 : List UInt8 := [124, 38, 94, 61, 33, 60, 62, 43, 45, 42, 47, 37, 126, 40, 41]
theorem sgn_form : ∀ o ∈ sgnL, (∃ a ∈ S15, o.data.toList = [a]) ∨ ∃ a ∈ S15, ∃ b ∈ S5, o.data.toList = [a, b] := by decide
theorem fin_sgn : ∀ c ∈ (0 :: S15), ∀ d ∈ (0 :: S5), sgP (at2 c d) = opS (Ar.opc2 c d) := by decide +kernel
theorem find_same {α : Type} {f g : α → Bool} : ∀ (l : List α), (∀ x ∈ l, f x = g x) → l.find? f = l.find? g
  | [], _ => rfl
  | x :: l, h => by
    rw [List.find?_cons, List.find?_cons, h x (by simp), find_same l (fun y hy => h y (by simp [hy]))]
theorem sgP_same {f g : ByteArray → Bool} (h : ∀ o ∈ sgnL, f o = g o) : sgP f = sgP g := by rw [sgP, sgP, find_same sgnL h]
theorem opc2_c {c : UInt8} (h : c ∉ S15) (d : UInt8) : Ar.opc2 c d = 0 := by
  have g : ∀ a ∈ S15, ¬ c = a := fun a ha e => h (e ▸ ha)
  unfold Ar.opc2
  rw [if_neg (g 124 (by decide)), if_neg (g 38 (by decide)), if_neg (g 94 (by decide)), if_neg (g 61 (by decide)), if_neg (g 33 (by decide)), if_neg (g 60 (by decide)), if_neg (g 62 (by decide)), if_neg (g 43 (by decide)), if_neg (g 45 (by decide)), if_neg (g 42 (by decide)), if_neg (g 47 (by decide)), if_neg (g 37 (by decide)), if_neg (g 126 (by decide)), if_neg (g 40 (by decide)), if_neg (g 41 (by decide))]
theorem sgP_c {c : UInt8} (hc : c ∉ S15) (d d' : UInt8) : sgP (at2 c d) = sgP (at2 0 d') := by
  refine sgP_same fun o ho => ?_
  have z : (0 : UInt8) ∉ S15 := by decide
  rcases sgn_form o ho with ⟨a, ha, e⟩ | ⟨a, ha, b, hb, e⟩
  · simp only [at2, e, ne_of_mem hc ha, ne_of_mem z ha]
  · simp only [at2, e, ne_of_mem hc ha, ne_of_mem z ha, Bool.false_and]
theorem sg2_eq (c d : UInt8) : sgP (at2 c d) = opS (Ar.opc2 c d) := by
  by_cases hc : c ∈ S15
  · by_cases hd : d ∈ S5
    · exact fin_sgn c (by simp [hc]) d (by simp [hd])
    · rw [opc2_d hd, ← fin_sgn c (by simp [hc]) 0 (by simp)]
      refine sgP_same fun o ho => ?_
      have z : (0 : UInt8) ∉ S5 := by decide
      rcases sgn_form o ho with ⟨a, ha, e⟩ | ⟨a, ha, b, hb, e⟩
      · simp only [at2, e]
      · simp only [at2, e, ne_of_mem hd hb, ne_of_mem z hb]
  · rw [opc2_c hc, sgP_c hc d 0]
    decide +kernel
theorem S15_ne : ∀ a ∈ S15, a ≠ 0 := by decide
/-- the sign that stands ahead -/
def sgF (u : List UInt8) : ByteArray := sgP (fun o => Lib.hasPrefix u o.data.toList)
theorem sgF_eq (u : List UInt8) : sgF u = opS (Ar.opc u) := by
  rw [sgF, Ar.opc, ← sg2_eq]
  refine sgP_same fun o ho => ?_
  rcases sgn_form o ho with ⟨a, ha, e⟩ | ⟨a, ha, b, hb, e⟩
  · simp only [at2, e, pre_one u a (S15_ne a ha)]
  · simp only [at2, e, pre_two u a b (S15_ne a ha) (S5_ne b hb)]
theorem find_at {α : Type} {f : α → Bool} {l : List α} {k : Nat} {x : α} (h : l[k]? = some x) (hx : f x = true) (hn : ∀ j y, j < k → l[j]? = some y → f y = false) : l.find? f = some x := by
  have hk := (List.getElem?_eq_some_iff.1 h).1
  rw [← List.take_append_drop k l, List.find?_append]
  have h1 : (l.take k).find? f = none := by
    rw [List.find?_eq_none]
    intro y hy
    obtain ⟨j, hj⟩ := List.getElem?_of_mem hy
    rw [List.getElem?_take] at hj
    split at hj
    · rename_i hlt
      rw [hn j y hlt hj]; simp
    · cases hj
  have h2 : l.drop k = x :: l.drop (k + 1) := by
    rw [List.drop_eq_getElem_cons hk]
    congr 1
    exact (List.getElem?_eq_some_iff.1 h).2
  rw [h1, h2, List.find?_cons, hx]
  rfl
set_option maxRecDepth 100000 in
set_option maxHeartbeats 2000000 in
theorem sign_any (g : Nat) (s : ByteArray) (lv : Value) (i d b : Nat) (z : Bool) (w : World) (h : RR w g s lv i d b z) (hi : i ≤ s.size) (hs : s.size ≤ 100000) :
    Calls Tryd.prog 22 #[.pointer (some ⟨g, 0, none⟩)] w fun e w' => e = .returned (.string (opS (Ar.opc (Ar.sk (dr s i))))) ∧ ∃ j, RR w' g s lv j d b z ∧ i ≤ j ∧ j ≤ s.size ∧ dr s j = Ar.sk (dr s i) ∧ Gr w w' g := by
  have H := hide h
  clear h
  go_enter Tryd.func22, Tryd.ntmps22
  go_upto_block 0 with (fail)
  go_cut [] from 5 to 33 (fun wr => ∃ j, RR wr g s lv j d b z ∧ i ≤ j ∧ j ≤ s.size ∧ dr s j = Ar.sk (dr s i) ∧ Gr w wr g)
  case first =>
    go_wp2
    go_loopg [] (s.size - i) (fun n wr => ∃ k, n = s.size - k ∧ RR wr g s lv k d b z ∧ i ≤ k ∧ k ≤ s.size ∧ Ar.sk (dr s k) = Ar.sk (dr s i) ∧ Gr w wr g)
    case atStart => exact ⟨i, rfl, H.out, Nat.le_refl _, hi, rfl, Gr.refl _ _⟩
    case round =>
      obtain ⟨k, hgk, hr, hik, hk, hsk, hgr⟩ := hrel
      have hc0 := hr.c0
      have hc2 := hr.c2
      have hf := hr.fz 2
      have HR := hide hr
      have HG := hide hgr
      have HS := hide hsk
      clear hr hgr hsk
      by_cases hlt : k < s.size
      · have HK := hide (sk_step hlt)
        have hkk : (0 : Int) ≤ (k : Int) := by omega
        have hkl : (k : Int) < (s.size : Int) := by omega
        have hd : decide ((k : Int) < (s.size : Int)) = true := by simp only [decide_eq_true_eq]; omega
        cases hb : Ar.blk s[k] with
        | true =>
          have HB := hide hb
          go_wp2
          go_quiet ((go_at_call 30; exact Calls.quiet_of_same ((rblank_any _ _).mono fun _ _ ⟨h1, h2⟩ => ⟨h1, h2.symm⟩)))
          go_wp2
          go_roundg (s.size - (k + 1))
          case rel => exact ⟨k + 1, rfl, (HR.out.drewN _).seti (k + 1), by omega, by omega, by rw [← HS.out, HK.out, if_pos HB.out], gb_setCell (gb_drewN HG.out _) _ _⟩
          case measure => omega
        | false =>
          have HB := hide hb
          go_wp2
          go_quiet ((go_at_call 30; exact Calls.quiet_of_same ((rblank_any _ _).mono fun _ _ ⟨h1, h2⟩ => ⟨h1, h2.symm⟩)))
          go_wp2
          go_meet
          exact ⟨k, HR.out.drewN _, hik, hk, by rw [← HS.out, HK.out, if_neg (by rw [HB.out]; simp)], gb_drewN HG.out _⟩
      · have hd : decide ((k : Int) < (s.size : Int)) = false := by simp only [decide_eq_false_iff_not]; omega
        go_wp2
        go_quiet (fail)
        go_wp2
        go_meet
        exact ⟨k, HR.out.drewN _, hik, hk, by rw [← HS.out, sk_end (by omega)], gb_drewN HG.out _⟩
  case rest =>
    obtain ⟨j, hr, hij, hj, hsk, hg⟩ := hcut
    have HSK := hide hsk
    have hbel : Below wc.heap.size wc (wc.alloc (.cells (sgnL.map Value.string).toArray 9)) := (Below.refl _ _).alloc (Nat.le_refl _) _
    have hsr : SR (wc.alloc (.cells (sgnL.map Value.string).toArray 9)) (some ⟨wc.heap.size, 0, none⟩) sgnL := sr_block (heap_alloc_new wc _) (fun i s hi => by simp [hi])
    have HR := hide (hr.below hbel)
    have HG := hide (gr_below' hg hbel)
    have HSR := hide hsr
    obtain ⟨u, hu⟩ : ∃ u, dr s j = u := ⟨_, rfl⟩
    have HU := hide hu
    have HUE := hide (show opS (Ar.opc (Ar.sk (dr s i))) = sgF u by rw [← hsk, hu, sgF_eq])
    have hji : (0 : Int) ≤ (j : Int) := by omega
    have hjs : (j : Int) ≤ (s.size : Int) := by omega
    have htk : List.take (s.size - j) (List.drop j s.data.toList) = u := by rw [List.take_of_length_le (by simp), ← hu]; rfl
    have HTK := hide htk
    clear hr hsk hg hbel hsr hu htk H
    go_wp2
    go_loopg [4] 22 (fun n v4 wr => ∃ q : Nat, n = 22 - q ∧ v4 = .int .i64 q ∧ q ≤ 22 ∧ Hid (∀ (t : Nat) (o : ByteArray), t < q → sgnL[t]? = some o → Lib.hasPrefix u o.data.toList = false) ∧ RR wr g s lv j d b z ∧ SR wr (some ⟨wc.heap.size, 0, none⟩) sgnL ∧ Gr w wr g)
    case atStart => exact ⟨0, rfl, rfl, by omega, fun t o ht => by omega, HR.out, HSR.out, HG.out⟩
    case round =>
      obtain ⟨q, hgq, rfl, hq, HN, hr, hsr, hg⟩ := hrel
      have hc0 := hr.c0
      have hc2 := hr.c2
      have HR2 := hide hr
      have HG2 := hide hg
      have HSR2 := hide hsr
      clear hr hsr hg HR HG HSR
      by_cases hlt : q < 22
      · obtain ⟨o, ho⟩ : ∃ o, sgnL[q]? = some o := ⟨sgnL[q]'hlt, List.getElem?_eq_getElem _⟩
        obtain ⟨ga, oa, hea, hga, hcell⟩ := HSR2.out q o ho
        injection hea with hea
        injection hea with h1 h2
        subst h1 h2
        rw [Nat.zero_add] at hcell
        have HO := hide ho
        have hq0 : (0 : Int) ≤ (q : Int) := by omega
        have hq1 : (q : Int) < 22 := by omega
        clear ho
        cases hp : Lib.hasPrefix u o.data.toList with
        | true =>
          have hpp : Lib.hasPrefix (s.extract j s.size).data.toList o.data.toList = true := by rw [Lib.extract_to_end, show s.data.toList.drop j = u from HU.out, hp]
          have HPP := hide hpp
          clear hpp
          have HF := hide (show sgF u = o by rw [sgF, sgP, find_at HO.out hp (fun t o' ht ho' => HN.out t o' ht ho')]; rfl)
          clear hp
          go_wp2
          go_quiet ((go_at_call 31; exact Calls.quiet_of_same (begins_v (s.extract j s.size) o _ HPP.out _)))
          go_wp2
          go_ret
          refine ⟨?_, j, HR2.out.drewN _, hij, hj, HSK.out, gb_drewN HG2.out _⟩
          rw [HUE.out, HF.out]
          rfl
        | false =>
          have hpp : Lib.hasPrefix (s.extract j s.size).data.toList o.data.toList = false := by rw [Lib.extract_to_end, show s.data.toList.drop j = u from HU.out, hp]
          have HPP := hide hpp
          clear hpp
          have HP := hide hp
          clear hp
          go_wp2
          go_quiet ((go_at_call 31; exact Calls.quiet_of_same (begins_v (s.extract j s.size) o _ HPP.out _)))
          go_wp2
          go_roundg (22 - (q + 1))
          case rel => exact ⟨q + 1, rfl, by go_num, by omega, fun t o' ht ho' => by
            by_cases e : t = q
            · subst e
              rw [HO.out] at ho'
              injection ho' with ho'
              rw [← ho']
              exact HP.out
            · exact HN.out t o' (by omega) ho', HR2.out.drewN _, HSR2.out, gb_drewN HG2.out _⟩
          case measure => omega
      · obtain rfl : q = 22 := by omega
        have HF := hide (show sgF u = ⟨#[]⟩ by
          rw [sgF, sgP, List.find?_eq_none.2 (fun o ho => by
            obtain ⟨t, ht⟩ := List.getElem?_of_mem ho
            rw [HN.out t o (List.getElem?_eq_some_iff.1 ht).1 ht]; simp)]
          rfl)
        go_wp2
        go_ret
        refine ⟨?_, j, HR2.out, hij, hj, HSK.out, HG2.out⟩
        rw [HUE.out, HF.out]
        rfl
end Go.Proofs.YtpjbklajjikgjaaDoor
