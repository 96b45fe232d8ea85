/- Walks of path.join and path.Abs. -/
import Derived.Test.YtmblmenafplccaaDoorPathWalkA
import Derived.Test.YtmblmenafplccaaDoorContFunc
import Derived.Lib.Join
namespace Go.Proofs.YtmblmenafplccaaDoor
open Go.RowKit Go.Deep Ln Pth
attribute [local go_sem] bt_eq

theorem join_slashed : ∀ l : List T, 47 :: Lib.join l [47] = joinF l
  | [] => rfl
  | s :: l => by
    rw [joinF, if_neg (by simp)]
    induction l generalizing s with
    | nil => rw [Lib.join_one]; simp [slashed]
    | cons t l ih =>
      have := ih t
      rw [slashed_cons' , ← this]
      simp [Lib.join, List.intercalate]
where
  slashed_cons' {s : T} {r : List T} : slashed (s :: r) = 47 :: (s ++ slashed r) := by simp [slashed]
set_option maxRecDepth 100000 in
set_option maxHeartbeats 400000 in
theorem pjoin_any (A : Option Addr) (c : Nat) (l : List T) (w : World) (hA : SR w A (l.map bs)) (hc : l.length ≤ c) (hn : l.length ≤ 1000000) (hl : (joinF l).length ≤ 1000000) :
    Calls Tryd.prog 60 #[.slice A l.length c] w fun e w' => e = .returned (.string (bs (joinF l))) ∧ Below w.heap.size w w' := by
  have hjl : (Lib.join l [47]).length ≤ 1000000 := by
    have := join_slashed l
    have h2 := congrArg List.length this
    simp only [List.length_cons] at h2
    omega
  have HJ : Hid (Calls Tryd.prog 82 #[.slice A l.length c, .string ⟨#[47]⟩] w fun e w' => e = .returned (.string (bs (Lib.join l [47]))) ∧ Below w.heap.size w w') := by
    cases l with
    | nil => exact hide ((Tryd.strings_Join_none A c ⟨#[47]⟩ w).mono fun e w' ⟨h1, h2⟩ => ⟨h1, h2 ▸ Below.refl _ _⟩)
    | cons s l =>
      obtain ⟨g, o, rfl, hg, _⟩ := hA 0 (bs s) rfl
      have hm : ((s :: l).map bs).map (·.data.toList) = s :: l := by
        rw [List.map_map]
        conv => rhs; rw [← List.map_id (s :: l)]
        apply List.map_congr_left
        intro x _
        exact bs_list x
      have := Tryd.strings_Join g o c ((s :: l).map bs) ⟨#[47]⟩ w (fun j x hj => by
        obtain ⟨g', o', e, _, hc'⟩ := hA j x hj
        injection e with e
        injection e with e1 e2
        subst e1 e2
        exact hc') hg (by rw [List.length_map]; omega) (by rw [List.length_map]; exact hc) (by rw [hm]; show (Lib.join (s :: l) [47]).length ≤ _; omega)
      rw [hm, List.length_map] at this
      exact hide this
  have HE := hide (show (⟨#[47]⟩ : ByteArray) ++ bs (Lib.join l [47]) = bs (joinF l) by rw [← join_slashed l]; exact bs_app [47] _)
  have z1 : (bs (Lib.join l [47])).size ≤ 1000000 := by rw [bs_size]; exact hjl
  generalize bs (Lib.join l [47]) = s1 at HJ HE z1
  generalize bs (joinF l) = s2 at HE ⊢
  obtain ⟨n, hn⟩ : ∃ n, l.length = n := ⟨_, rfl⟩
  rw [hn] at HJ ⊢
  clear hA hc hl hjl hn
  go_enter Tryd.func60, Tryd.ntmps60
  go_wp2_with fail
  refine HJ.out.mono ?_
  rintro e w' ⟨rfl, hb⟩
  have HB := hide hb
  clear hb
  go_wp2
  go_ret
  refine ⟨?_, HB.out⟩
  rw [← HE.out]
  rfl
theorem has0_any (l : T) (w : World) : Calls Tryd.prog 54 #[.string (bs l), .string ⟨#[0]⟩] w fun e w' => e = .returned (.bool (decide (0 ∈ l))) ∧ w = w' := by
  have := Tryd.strings_Contains_one (bs l) 0 w
  rw [bs_list, show decide (0 ≤ Lib.indexByte l 0) = decide ((0 : UInt8) ∈ l) from decide_eq_decide.2 (ixb_mem 0 l)] at this
  exact this.mono fun e w' ⟨h1, h2⟩ => ⟨h1, h2.symm⟩
set_option maxRecDepth 100000 in
theorem abs1_any (s : ByteArray) (w : World) (h : s.size ≤ 9223372036854775807) : Calls Tryd.prog 59 #[.string s] w fun e w' => e = .returned (.bool (decide (60 < s.size))) ∧ w = w' := by
  have h1 : (s.size : Int) ≤ 9223372036854775807 := by omega
  by_cases hs : 60 < s.size
  · have h2 : (60 : Int) < (s.size : Int) := by omega
    rw [decide_eq_true hs]
    clear hs
    go_enter Tryd.func59, Tryd.ntmps59
    go_wp2
    go_ret
    exact ⟨rfl, rfl⟩
  · have h2 : decide (60 < (s.size : Int)) = false := by simp; omega
    rw [decide_eq_false hs]
    clear hs
    go_enter Tryd.func59, Tryd.ntmps59
    go_wp2
    go_ret
    exact ⟨rfl, rfl⟩
/-- what Abs tells -/
def AbsPost (a : T × Nat) (w : World) (e : Ending) (w' : World) : Prop := e = .returned (.tuple #[.string (bs a.1), .int .i64 a.2]) ∧ Below w.heap.size w w'
set_option maxRecDepth 100000 in
set_option maxHeartbeats 1000000 in
theorem abs_any (cwd p : T) (w : World) (hm : MX w) (h1 : cwd.length ≤ 100000) (h2 : p.length ≤ 100000) :
    Calls Tryd.prog 42 #[.string (bs cwd), .string (bs p)] w (AbsPost (absF cwd p) w) := by
  have HC0 := hide (fun W => has0_any cwd W)
  have HP0 := hide (fun W => has0_any p W)
  have HPA := hide (fun W h => parts_any cwd p W h h1 h2)
  have HM := hide hm
  clear hm
  by_cases c1 : p = []
  · subst c1
    have hem : (bs ([] : T)).toList.isEmpty = true := by rw [bs_toList]; rfl
    have HR := hide (show absF cwd [] = ([], 1) from if_pos (.inl rfl))
    go_enter Tryd.func42, Tryd.ntmps42
    go_wp2
    go_ret2
    unfold AbsPost
    rw [HR.out]
    exact ⟨rfl, Below.refl _ _⟩
  have hem : (bs p).toList.isEmpty = false := by rw [bs_toList]; cases p; exact absurd rfl c1; rfl
  by_cases c2 : 0 ∈ cwd
  · rw [decide_eq_true c2] at HC0
    have HR := hide (show absF cwd p = ([], 1) from if_pos (.inr (.inl c2)))
    clear c2
    go_enter Tryd.func42, Tryd.ntmps42
    go_wp2_with fail
    refine (HC0.out _).mono ?_
    rintro e w' ⟨rfl, rfl⟩
    go_wp2
    go_ret2
    unfold AbsPost
    rw [HR.out]
    exact ⟨rfl, Below.refl _ _⟩
  rw [decide_eq_false c2] at HC0
  by_cases c3 : 0 ∈ p
  · rw [decide_eq_true c3] at HP0
    have HR := hide (show absF cwd p = ([], 1) from if_pos (.inr (.inr c3)))
    clear c3 c2
    go_enter Tryd.func42, Tryd.ntmps42
    go_wp2_with fail
    refine (HC0.out _).mono ?_
    rintro e w' ⟨rfl, rfl⟩
    go_wp2_with fail
    refine (HP0.out _).mono ?_
    rintro e w' ⟨rfl, rfl⟩
    go_wp2
    go_ret2
    unfold AbsPost
    rw [HR.out]
    exact ⟨rfl, Below.refl _ _⟩
  rw [decide_eq_false c3] at HP0
  have hR : absF cwd p = if longF (partsF cwd p) = false ∧ (partsF cwd p).length ≤ 20 ∧ (joinF (partsF cwd p)).length ≤ 200 then (joinF (partsF cwd p), 0) else ([], 3) := by
    unfold absF
    rw [if_neg (by rintro (h | h | h); exact c1 h; exact c2 h; exact c3 h)]
  have hpl := partsF_len cwd p
  have hjl := joinF_len cwd p
  obtain ⟨L, hL⟩ : ∃ L, partsF cwd p = L := ⟨_, rfl⟩
  rw [hL] at hR HPA hpl hjl
  have HR := hide hR
  clear c1 c2 c3 hL hR
  go_enter Tryd.func42, Tryd.ntmps42
  go_wp2_with fail
  refine (HC0.out _).mono ?_
  rintro e w' ⟨rfl, rfl⟩
  go_wp2_with fail
  refine (HP0.out _).mono ?_
  rintro e w' ⟨rfl, rfl⟩
  go_wp2_with fail
  refine (HPA.out w HM.out).mono ?_
  rintro e w1 ⟨⟨v, rfl, ho⟩, hb1⟩
  obtain ⟨A, c, rfl, hc, hsr, _⟩ := OwnS.slice ho
  have HA := hide hsr
  have HB1 := hide hb1
  rw [List.length_map] at hc ⊢
  have hln : L.any (fun s => decide (60 < s.length)) = longF L := rfl
  have HCF := hide (contf_any (fun s => decide (60 < s.size)) 59 #[] (fun _ _ => by kernel_rfl) A c (L.map bs) w1 (by rw [List.length_map]; omega) HA.out (fun W x hx hb => by
    obtain ⟨y, hy, rfl⟩ := List.mem_map.1 hx
    refine (abs1_any (bs y) W (by rw [bs_size]; have := hjl.2 y hy; omega)).mono ?_
    rintro e w' ⟨h1, rfl⟩
    exact ⟨h1, hb⟩))
  have hany : (L.map bs).any (fun s => decide (60 < s.size)) = longF L := by
    unfold longF
    rw [List.any_map]
    congr 1
  rw [hany, List.length_map] at HCF
  clear hany hln ho hb1 hsr
  have HPJ := hide (fun W (h : Below w1.heap.size w1 W) => pjoin_any A c L W (HA.out.below h) hc (by omega) (by omega))
  obtain ⟨n, hn⟩ : ∃ n, L.length = n := ⟨_, rfl⟩
  have zj : (bs (joinF L)).size = (joinF L).length := bs_size _
  obtain ⟨J, hJ⟩ : ∃ J, joinF L = J := ⟨_, rfl⟩
  obtain ⟨lg, hlg⟩ : ∃ b, longF L = b := ⟨_, rfl⟩
  obtain ⟨sj, hsj⟩ : ∃ s, bs J = s := ⟨_, rfl⟩
  obtain ⟨jn, hjn⟩ : ∃ s, J.length = s := ⟨_, rfl⟩
  rw [hJ, hjn, hsj] at zj
  rw [hJ, hjn] at hjl
  rw [hn] at HPJ HCF hpl ⊢
  rw [hJ, hsj] at HPJ
  rw [hlg] at HCF
  have hR := HR.out
  rw [hJ, hn, hlg, hjn] at hR
  have HRR := hide hR
  have HSJ := hide hsj
  have hjl1 := hjl.1
  clear hR HR hJ hlg hsj hjn hn hjl hc
  have hn1 : (n : Int) ≤ 300000 := by omega
  go_wp2_with fail
  refine HCF.out.mono ?_
  rintro e w2 ⟨rfl, hb2⟩
  have HB2 := hide (below_up HB1.out hb2 HB1.out.size)
  have HBJ := hide hb2
  clear hb2
  go_wp2_with fail
  refine (HPJ.out w2 HBJ.out).mono ?_
  rintro e w3 ⟨rfl, hb3⟩
  have HB3 := hide (below_up HB2.out hb3 HB2.out.size)
  clear hb3
  cases lg with
  | true =>
    have HE := hide (show absF cwd p = ([], 3) by rw [HRR.out, if_neg (by simp)])
    go_wp2
    go_ret2
    unfold AbsPost
    rw [HE.out]
    exact ⟨rfl, HB3.out⟩
  | false =>
    by_cases d1 : n ≤ 20
    · by_cases d2 : jn ≤ 200
      · have HE := hide (show absF cwd p = (J, 0) by rw [HRR.out, if_pos ⟨rfl, d1, d2⟩])
        have e1 : (n : Int) ≤ 20 := by omega
        have e2 : (jn : Int) ≤ 200 := by omega
        go_wp2
        go_ret2
        unfold AbsPost
        rw [HE.out, HSJ.out]
        exact ⟨rfl, HB3.out⟩
      · have HE := hide (show absF cwd p = ([], 3) by rw [HRR.out, if_neg (by rintro ⟨_, _, h⟩; exact d2 h)])
        have e1 : (n : Int) ≤ 20 := by omega
        have e2 : decide ((jn : Int) ≤ 200) = false := by simp; omega
        go_wp2
        go_ret2
        unfold AbsPost
        rw [HE.out]
        exact ⟨rfl, HB3.out⟩
    · have HE := hide (show absF cwd p = ([], 3) by rw [HRR.out, if_neg (by rintro ⟨_, h, _⟩; exact d1 h)])
      have e1 : decide ((n : Int) ≤ 20) = false := by simp; omega
      go_wp2
      go_ret2
      unfold AbsPost
      rw [HE.out]
      exact ⟨rfl, HB3.out⟩
end Go.Proofs.YtmblmenafplccaaDoor
