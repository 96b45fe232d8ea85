/- Walks of the file system's abs, found, Kind, Time, room and New. -/
import Derived.Test.YtmblmenafplccaaDoorVfsWalkA
namespace Go.Proofs.YtmblmenafplccaaDoor
open Go.RowKit Go.Deep Go.Maps Ln Pth Vf
attribute [local go_sem] bt_eq

theorem absF_len (p : T) : (absF [47] p).1.length ≤ 200 := by
  rcases absF_cases [47] p with ⟨l, g, e, _⟩ | ⟨e, _⟩
  · rw [e]; exact g.len
  · rw [e]; simp
theorem absS_len (S : St) (p : T) : (absS S p).1.length ≤ 200 := by
  unfold absS
  split
  · simp
  · split
    · simp
    · exact absF_len p
theorem fld0 (x y z : Value) (w : World) : (Instr.field 64 (.agg #[x, y, z]) 0).run Tryd.prog w = .ok x w := by kernel_rfl
theorem fld1 (x y z : Value) (w : World) : (Instr.field 64 (.agg #[x, y, z]) 1).run Tryd.prog w = .ok y w := by kernel_rfl
theorem fld2 (x y z : Value) (w : World) : (Instr.field 64 (.agg #[x, y, z]) 2).run Tryd.prog w = .ok z w := by kernel_rfl
theorem mkMap (w : World) : (Instr.makeMap 57 none).run Tryd.prog w = .ok (.map (some w.heap.size)) (w.alloc (.map #[] 0)) := by kernel_rfl
attribute [local go_sem] fld0 fld1 fld2 mkMap
theorem ne0 {n : Nat} (h : n ≠ 0) : ((n : Int) != 0) = true ∧ ((n : Int) == 0) = false := by
  constructor
  · simpa using h
  · simpa using h
set_option maxRecDepth 100000 in
set_option maxHeartbeats 1000000 in
theorem vabs_any (g : Nat) (S : St) (p : T) (w : World) (h : Hs (VS g S) w) (hm : MX w) (hp : p.length ≤ 50000) :
    Calls Tryd.prog 24 #[.pointer (some ⟨g, 0, none⟩), .string (bs p)] w (AbsPost (absS S p) w) := by
  have HA := hide (abs_any [47] p w hm (by simp) (by omega))
  have hl := absF_len p
  have HW := hide (fun W (hb : Below w.heap.size w W) => way_any g S (absF [47] p).1 W (h.below (VS.fr g S) hb) (by omega))
  have hR : absS S p = if (absF [47] p).2 ≠ 0 then ([], (absF [47] p).2) else if wayM S.m (absF [47] p).1 ≠ 0 then ([], wayM S.m (absF [47] p).1) else ((absF [47] p).1, 0) := rfl
  unfold AbsPost at HA
  obtain ⟨q, hq⟩ : ∃ q, (absF [47] p).1 = q := ⟨_, rfl⟩
  obtain ⟨e, he⟩ : ∃ q, (absF [47] p).2 = q := ⟨_, rfl⟩
  rw [hq] at HA HW hR hl
  rw [he] at HA hR
  obtain ⟨y, hy⟩ : ∃ y, wayM S.m q = y := ⟨_, rfl⟩
  rw [hy] at HW hR
  have HR := hide hR
  clear hR hq he hy h hm
  by_cases c1 : e = 0
  · subst c1
    go_enter Tryd.func24, Tryd.ntmps24
    go_wp2_with fail
    refine HA.out.mono ?_
    rintro e w1 ⟨rfl, hb⟩
    have HB := hide hb
    clear hb
    go_wp2_with fail
    refine (HW.out w1 HB.out).mono ?_
    rintro e w2 ⟨rfl, hb⟩
    have HB2 := hide (below_up HB.out hb HB.out.size)
    clear hb
    by_cases c2 : y = 0
    · subst c2
      have HE := hide (show absS S p = (q, 0) from HR.out)
      go_wp2
      go_ret2
      unfold AbsPost
      rw [HE.out]
      exact ⟨rfl, HB2.out⟩
    · obtain ⟨t1, t2⟩ := ne0 c2
      have HE := hide (show absS S p = ([], y) by rw [HR.out, if_neg (by simp), if_pos c2])
      clear c2
      go_wp2
      go_ret2
      unfold AbsPost
      rw [HE.out]
      exact ⟨rfl, HB2.out⟩
  · obtain ⟨t1, t2⟩ := ne0 c1
    have HE := hide (show absS S p = ([], e) by rw [HR.out, if_pos c1])
    clear c1
    go_enter Tryd.func24, Tryd.ntmps24
    go_wp2_with fail
    refine HA.out.mono ?_
    rintro e w1 ⟨rfl, hb⟩
    have HB := hide hb
    clear hb
    go_wp2
    go_ret2
    unfold AbsPost
    rw [HE.out]
    exact ⟨rfl, HB.out⟩
set_option maxRecDepth 100000 in
set_option maxHeartbeats 1000000 in
theorem vfound_any (g : Nat) (S : St) (p : T) (w : World) (h : Hs (VS g S) w) (hm : MX w) (hp : p.length ≤ 50000) :
    Calls Tryd.prog 37 #[.pointer (some ⟨g, 0, none⟩), .string (bs p)] w (AbsPost (foundS S p) w) := by
  have HA := hide (vabs_any g S p w h hm hp)
  have hl := absS_len S p
  have HK := hide (fun W (hb : Below w.heap.size w W) => kind_any g S (absS S p).1 W (h.below (VS.fr g S) hb) (by omega))
  have hR : foundS S p = ((absS S p).1, if (absS S p).2 = 0 ∧ kindM S.m (absS S p).1 = 0 then 6 else (absS S p).2) := rfl
  unfold AbsPost at HA
  obtain ⟨q, hq⟩ : ∃ q, (absS S p).1 = q := ⟨_, rfl⟩
  obtain ⟨e, he⟩ : ∃ q, (absS S p).2 = q := ⟨_, rfl⟩
  rw [hq] at HA HK hR hl
  rw [he] at HA hR
  obtain ⟨y, hy⟩ : ∃ y, kindM S.m q = y := ⟨_, rfl⟩
  rw [hy] at HK hR
  have HR := hide hR
  clear hR hq he hy h hm
  by_cases c1 : e = 0
  · subst c1
    go_enter Tryd.func37, Tryd.ntmps37
    go_wp2_with fail
    refine HA.out.mono ?_
    rintro e w1 ⟨rfl, hb⟩
    have HB := hide hb
    clear hb
    go_wp2_with fail
    refine (HK.out w1 HB.out).mono ?_
    rintro e w2 ⟨rfl, hb⟩
    have HB2 := hide (below_up HB.out hb HB.out.size)
    clear hb
    by_cases c2 : y = 0
    · subst c2
      have HE := hide (show foundS S p = (q, 6) from HR.out)
      go_wp2
      go_ret2
      unfold AbsPost
      rw [HE.out]
      exact ⟨rfl, HB2.out⟩
    · obtain ⟨t1, t2⟩ := ne0 c2
      have HE := hide (show foundS S p = (q, 0) by rw [HR.out, if_neg (by rintro ⟨_, h⟩; exact c2 h)])
      clear c2
      go_wp2
      go_ret2
      unfold AbsPost
      rw [HE.out]
      exact ⟨rfl, HB2.out⟩
  · obtain ⟨t1, t2⟩ := ne0 c1
    have HE := hide (show foundS S p = (q, e) by rw [HR.out, if_neg (by rintro ⟨h, _⟩; exact c1 h)])
    clear c1
    go_enter Tryd.func37, Tryd.ntmps37
    go_wp2_with fail
    refine HA.out.mono ?_
    rintro e w1 ⟨rfl, hb⟩
    have HB := hide hb
    clear hb
    go_wp2
    go_ret2
    unfold AbsPost
    rw [HE.out]
    exact ⟨rfl, HB.out⟩
set_option maxRecDepth 100000 in
set_option maxHeartbeats 1000000 in
theorem vkind_any (g : Nat) (S : St) (p : T) (w : World) (h : Hs (VS g S) w) (hm : MX w) (hp : p.length ≤ 50000) :
    Calls Tryd.prog 91 #[.pointer (some ⟨g, 0, none⟩), .string (bs p)] w fun e w' => e = .returned (.int .i64 (kindS S p)) ∧ Below w.heap.size w w' := by
  have HA := hide (vabs_any g S p w h hm hp)
  have hl := absS_len S p
  have HK := hide (fun W (hb : Below w.heap.size w W) => kind_any g S (absS S p).1 W (h.below (VS.fr g S) hb) (by omega))
  have hR : kindS S p = if (absS S p).2 ≠ 0 then 0 else kindM S.m (absS S p).1 := rfl
  unfold AbsPost at HA
  obtain ⟨q, hq⟩ : ∃ q, (absS S p).1 = q := ⟨_, rfl⟩
  obtain ⟨e, he⟩ : ∃ q, (absS S p).2 = q := ⟨_, rfl⟩
  rw [hq] at HA HK hR hl
  rw [he] at HA hR
  obtain ⟨y, hy⟩ : ∃ y, kindM S.m q = y := ⟨_, rfl⟩
  rw [hy] at HK hR
  have HR := hide hR
  clear hR hq he hy h hm
  by_cases c1 : e = 0
  · subst c1
    go_enter Tryd.func91, Tryd.ntmps91
    go_wp2_with fail
    refine HA.out.mono ?_
    rintro e w1 ⟨rfl, hb⟩
    have HB := hide hb
    clear hb
    go_wp2_with fail
    refine (HK.out w1 HB.out).mono ?_
    rintro e w2 ⟨rfl, hb⟩
    have HB2 := hide (below_up HB.out hb HB.out.size)
    clear hb
    go_wp2
    go_ret
    refine ⟨?_, HB2.out⟩
    rw [HR.out]
    rfl
  · obtain ⟨t1, t2⟩ := ne0 c1
    have HE := hide (show kindS S p = 0 by rw [HR.out, if_pos c1])
    clear c1
    go_enter Tryd.func91, Tryd.ntmps91
    go_wp2_with fail
    refine HA.out.mono ?_
    rintro e w1 ⟨rfl, hb⟩
    have HB := hide hb
    clear hb
    go_wp2
    go_ret
    refine ⟨?_, HB.out⟩
    rw [HE.out]
    rfl
set_option maxRecDepth 100000 in
set_option maxHeartbeats 1000000 in
theorem vtime_any (g : Nat) (S : St) (p : T) (w : World) (h : Hs (VS g S) w) (hm : MX w) (hp : p.length ≤ 50000) :
    Calls Tryd.prog 36 #[.pointer (some ⟨g, 0, none⟩), .string (bs p)] w fun e w' => e = .returned (.int .i64 (timeS S p)) ∧ Below w.heap.size w w' := by
  have HA := hide (vabs_any g S p w h hm hp)
  have hl := absS_len S p
  have hR : timeS S p = if (absS S p).2 ≠ 0 then 0 else timeM S.m (absS S p).1 := rfl
  unfold AbsPost at HA
  obtain ⟨q, hq⟩ : ∃ q, (absS S p).1 = q := ⟨_, rfl⟩
  obtain ⟨e, he⟩ : ∃ q, (absS S p).2 = q := ⟨_, rfl⟩
  rw [hq] at HA hR hl
  rw [he] at HA hR
  have HR := hide hR
  have H := hide h
  clear hR hq he h hm
  by_cases c1 : e = 0
  · subst c1
    go_enter Tryd.func36, Tryd.ntmps36
    go_wp2_with fail
    refine HA.out.mono ?_
    rintro e w1 ⟨rfl, hb⟩
    have HB := hide hb
    obtain ⟨b, P, hgb, hg, hm, hS, _⟩ := VS.opn (H.out.below (VS.fr g S) hb)
    have hlk := nlook1 hm (s := bs q) (by rw [bs_size]; omega)
    have hc0 := cellOf hg (j := 0) rfl
    have HE := hide (show timeS S p = match getG P (bs q) with
      | none => 0
      | some e => e.nd.time by
        rw [HR.out]
        simp only [ne_eq, not_true_eq_false, if_false]
        unfold timeM
        rw [hS, strip_get]
        cases getG P (bs q) <;> rfl)
    clear hb hg hm hS
    cases hgp : getG P (bs q) with
    | none =>
      rw [hgp] at hlk HE
      unfold valN zN at hlk
      clear hgp
      go_wp2
      go_ret
      refine ⟨?_, HB.out⟩
      rw [HE.out]
      rfl
    | some e =>
      rw [hgp] at hlk HE
      unfold valN encN at hlk
      clear hgp
      go_wp2
      go_ret
      refine ⟨?_, HB.out⟩
      rw [HE.out]
      rfl
  · obtain ⟨t1, t2⟩ := ne0 c1
    have HE := hide (show timeS S p = 0 by rw [HR.out, if_pos c1])
    clear c1
    go_enter Tryd.func36, Tryd.ntmps36
    go_wp2_with fail
    refine HA.out.mono ?_
    rintro e w1 ⟨rfl, hb⟩
    have HB := hide hb
    clear hb
    go_wp2
    go_ret
    refine ⟨?_, HB.out⟩
    rw [HE.out]
    rfl
set_option maxRecDepth 100000 in
set_option maxHeartbeats 1000000 in
theorem vnew_any (n b : Int) (w : World) (h1 : -9223372036854775808 ≤ n) (h2 : n ≤ 9223372036854775807) (h3 : -9223372036854775808 ≤ b) (h4 : b ≤ 9223372036854775807) :
    Calls Tryd.prog 9 #[.int .i64 n, .int .i64 b] w fun e w' => e = .returned (.pointer (some ⟨w.heap.size + 1, 0, none⟩)) ∧ Below w.heap.size w w' ∧ VS (w.heap.size + 1) (newS n b) (fun k => w.heap.size ≤ k ∧ k < w'.heap.size) (fun _ => False) w' ∧ w'.heap.size = w.heap.size + 2 := by
  have ho := World.ownsMap_made w Tryd.prog 9 hR
  have e1 : min (max (0 : Int) n) 10000 = ((newS n b).nodes : Nat) := by simp only [newS]; omega
  have e2 : min (max (0 : Int) b) 1048576 = ((newS n b).bytes : Nat) := by simp only [newS]; omega
  have E1 := hide e1
  have E2 := hide e2
  have HO := hide ho
  clear e1 e2 ho
  go_enter Tryd.func9, Tryd.ntmps9
  go_wp2
  go_ret
  have hb1 : Below w.heap.size w (w.alloc (.map #[] 0)) := (Below.refl _ _).alloc (Nat.le_refl _) _
  refine ⟨by simp, hb1.alloc (by simp) _, ?_, by simp⟩
  refine ⟨w.heap.size, [], ⟨by omega, by simp⟩, ⟨Nat.le_refl _, by simp; omega⟩, by omega, ?_, ?_, rfl, fun x hx => by cases hx⟩
  · have := heapNew (w.alloc (.map #[] 0)) (.cells #[.map (some w.heap.size), .int .i64 (min (max 0 n) 10000), .int .i64 (min (max 0 b) 1048576), .int .i64 0, .int .i64 0] 59)
    rw [← E1.out, ← E2.out, show ((newS n b).used : Int) = 0 from rfl, show ((newS n b).clock : Int) = 0 from rfl]
    simpa using this
  · exact MapN.of (w := w.alloc (.map #[] 0)) (own_tightN (P := []) HO.out) (Below.heap_alloc _ _ _ (by simp))
end Go.Proofs.YtmblmenafplccaaDoor
