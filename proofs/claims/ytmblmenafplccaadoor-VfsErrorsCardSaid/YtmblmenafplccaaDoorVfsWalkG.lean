/- Walk of the file system's List. -/
import Derived.Test.YtmblmenafplccaaDoorVfsWalkF
namespace Go.Proofs.YtmblmenafplccaaDoor
open Go.RowKit Go.Deep Go.Maps Ln Pth Vf
attribute [local go_sem] bt_eq fld0 fld1 fld2 mkMap

/-- what List tells -/
def ListPost (r : List T × Nat) (w : World) (e : Ending) (w' : World) : Prop := (∃ v, e = .returned (.tuple #[v, .int .i64 r.2]) ∧ OwnS w' w.heap.size v (r.1.map bs)) ∧ Below w.heap.size w w'
set_option maxRecDepth 100000 in
set_option maxHeartbeats 1000000 in
theorem list_any (g : Nat) (S : St) (hS : WfS S) (p : T) (w : World) (h : Hs (VS g S) w) (hm : MX w) (hp : p.length ≤ 50000) :
    Calls Tryd.prog 19 #[.pointer (some ⟨g, 0, none⟩), .string (bs p)] w (ListPost (listS S p) w) := by
  have HA := hide (vfound_any g S p w h hm hp)
  have hl : (foundS S p).1.length ≤ 200 := absS_len S p
  have HK := hide (fun W (hb : Below w.heap.size w W) => kind_any g S (foundS S p).1 W (h.below (VS.fr g S) hb) (by omega))
  have HNM := hide (fun W (hb : Below w.heap.size w W) => names_any g S hS (foundS S p).1 W (h.below (VS.fr g S) hb) (by omega))
  have hR : listS S p = if (foundS S p).2 ≠ 0 then ([], (foundS S p).2) else if kindM S.m (foundS S p).1 = 1 then ([], 11) else (namesM S.m (foundS S p).1, 0) := rfl
  unfold AbsPost at HA
  obtain ⟨q, hq⟩ : ∃ q, (foundS S p).1 = q := ⟨_, rfl⟩
  obtain ⟨e, he⟩ : ∃ q, (foundS S p).2 = q := ⟨_, rfl⟩
  rw [hq] at HA HK HNM hR hl
  rw [he] at HA hR
  obtain ⟨y, hy⟩ : ∃ y, kindM S.m q = y := ⟨_, rfl⟩
  rw [hy] at HK hR
  have HR := hide hR
  clear hR hq he hy h hm
  by_cases c1 : e = 0
  case neg =>
    obtain ⟨t1, t2⟩ := ne0 c1
    have HE := hide (HR.out.trans (if_pos c1))
    clear c1
    go_enter Tryd.func19, Tryd.ntmps19
    go_wp2_with fail
    refine HA.out.mono ?_
    rintro e w1 ⟨rfl, hb⟩
    have HB := hide hb
    clear hb
    go_wp2
    go_ret2
    unfold ListPost
    rw [HE.out]
    exact ⟨⟨_, rfl, OwnS.nil _ _⟩, HB.out⟩
  subst c1
  have hRQ := HR.out.trans (if_neg (by simp))
  by_cases c2 : y = 1
  · subst c2
    have HE := hide (hRQ.trans (if_pos rfl))
    clear hRQ
    go_enter Tryd.func19, Tryd.ntmps19
    go_wp2_with fail
    refine HA.out.mono ?_
    rintro e w1 ⟨rfl, hb⟩
    have HB := hide hb
    clear hb
    go_wp2_with fail
    refine (HK.out w1 HB.out).mono ?_
    rintro e w2 ⟨rfl, hb⟩
    have HB2 := hide (below_up HB.out hb HB.out.size)
    clear hb
    go_wp2
    go_ret2
    unfold ListPost
    rw [HE.out]
    exact ⟨⟨_, rfl, OwnS.nil _ _⟩, HB2.out⟩
  · have c2' : ((y : Int) == 1) = false := by simp; omega
    have HE := hide (hRQ.trans (if_neg c2))
    clear hRQ c2
    go_enter Tryd.func19, Tryd.ntmps19
    go_wp2_with fail
    refine HA.out.mono ?_
    rintro e w1 ⟨rfl, hb⟩
    have HB := hide hb
    clear hb
    go_wp2_with fail
    refine (HK.out w1 HB.out).mono ?_
    rintro e w2 ⟨rfl, hb⟩
    have HB2 := hide (below_up HB.out hb HB.out.size)
    clear hb
    go_wp2_with fail
    refine (HNM.out w2 HB2.out).mono ?_
    rintro e w3 ⟨⟨v, rfl, ho⟩, hb⟩
    have HB3 := hide (below_up HB2.out hb HB2.out.size)
    have HO := hide (ho.base HB2.out.size)
    clear hb ho
    go_wp2
    go_ret2
    unfold ListPost
    rw [HE.out]
    exact ⟨⟨_, rfl, HO.out⟩, HB3.out⟩
end Go.Proofs.YtmblmenafplccaaDoor
