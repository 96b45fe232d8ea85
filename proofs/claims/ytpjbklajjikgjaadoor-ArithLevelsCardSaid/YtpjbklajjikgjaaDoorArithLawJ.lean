/- The law ArithLevels: the ways out of range, the walk joined. -/
import Derived.Test.YtpjbklajjikgjaaDoorArithLawI
namespace Go.Proofs.YtpjbklajjikgjaaDoor
open Go.RowKit Go.Deep Qm.Base
set_option maxRecDepth 100000 in
set_option maxHeartbeats 8000000 in
theorem law_arithLevels (a b c p q : Int) (_w0 : (Lit.int .i64 a).wf = true) (_w1 : (Lit.int .i64 b).wf = true) (_w2 : (Lit.int .i64 c).wf = true) (_w3 : (Lit.int .i64 p).wf = true) (_w4 : (Lit.int .i64 q).wf = true) (w : World) :
    Calls Tryd.prog 5 #[.int .i64 a, .int .i64 b, .int .i64 c, .int .i64 p, .int .i64 q] w fun e w' => e = .returned (.bool true) ∧ Below w.heap.size w w' := by
  have ha63 := (i64_le _w0).2
  have hb63 := (i64_le _w1).2
  have hc63 := (i64_le _w2).2
  clear _w0 _w1 _w2 _w3 _w4
  by_cases c0 : p < 0
  · go_enter Tryd.func5, Tryd.ntmps5
    go_wp2_with fail
    refine (alive7_any w).mono ?_
    rintro e w1 ⟨rfl, hb1⟩
    have HB1 := hide hb1
    clear hb1
    go_wp2_with fail
    refine (ops_any w1).mono ?_
    rintro e w2 ⟨g, rfl, hg, hcs, hgl, hb2⟩
    have HB2 := hide (below_up HB1.out hb2 HB1.out.size)
    clear hb2 hcs
    go_wp2
    go_ret
    exact ⟨rfl, HB2.out.alloc HB2.out.size _⟩
  by_cases c1 : 18 ≤ p
  · go_enter Tryd.func5, Tryd.ntmps5
    go_wp2_with fail
    refine (alive7_any w).mono ?_
    rintro e w1 ⟨rfl, hb1⟩
    have HB1 := hide hb1
    clear hb1
    go_wp2_with fail
    refine (ops_any w1).mono ?_
    rintro e w2 ⟨g, rfl, hg, hcs, hgl, hb2⟩
    have HB2 := hide (below_up HB1.out hb2 HB1.out.size)
    clear hb2 hcs
    go_wp2
    go_ret
    exact ⟨rfl, HB2.out.alloc HB2.out.size _⟩
  by_cases c2 : q < 0
  · go_enter Tryd.func5, Tryd.ntmps5
    go_wp2_with fail
    refine (alive7_any w).mono ?_
    rintro e w1 ⟨rfl, hb1⟩
    have HB1 := hide hb1
    clear hb1
    go_wp2_with fail
    refine (ops_any w1).mono ?_
    rintro e w2 ⟨g, rfl, hg, hcs, hgl, hb2⟩
    have HB2 := hide (below_up HB1.out hb2 HB1.out.size)
    clear hb2 hcs
    go_wp2
    go_ret
    exact ⟨rfl, HB2.out.alloc HB2.out.size _⟩
  by_cases c3 : 18 ≤ q
  · go_enter Tryd.func5, Tryd.ntmps5
    go_wp2_with fail
    refine (alive7_any w).mono ?_
    rintro e w1 ⟨rfl, hb1⟩
    have HB1 := hide hb1
    clear hb1
    go_wp2_with fail
    refine (ops_any w1).mono ?_
    rintro e w2 ⟨g, rfl, hg, hcs, hgl, hb2⟩
    have HB2 := hide (below_up HB1.out hb2 HB1.out.size)
    clear hb2 hcs
    go_wp2
    go_ret
    exact ⟨rfl, HB2.out.alloc HB2.out.size _⟩
  by_cases c4 : a < 0
  · go_enter Tryd.func5, Tryd.ntmps5
    go_wp2_with fail
    refine (alive7_any w).mono ?_
    rintro e w1 ⟨rfl, hb1⟩
    have HB1 := hide hb1
    clear hb1
    go_wp2_with fail
    refine (ops_any w1).mono ?_
    rintro e w2 ⟨g, rfl, hg, hcs, hgl, hb2⟩
    have HB2 := hide (below_up HB1.out hb2 HB1.out.size)
    clear hb2 hcs
    go_wp2
    go_ret
    exact ⟨rfl, HB2.out.alloc HB2.out.size _⟩
  by_cases c5 : b < 0
  · go_enter Tryd.func5, Tryd.ntmps5
    go_wp2_with fail
    refine (alive7_any w).mono ?_
    rintro e w1 ⟨rfl, hb1⟩
    have HB1 := hide hb1
    clear hb1
    go_wp2_with fail
    refine (ops_any w1).mono ?_
    rintro e w2 ⟨g, rfl, hg, hcs, hgl, hb2⟩
    have HB2 := hide (below_up HB1.out hb2 HB1.out.size)
    clear hb2 hcs
    go_wp2
    go_ret
    exact ⟨rfl, HB2.out.alloc HB2.out.size _⟩
  by_cases c6 : c < 0
  · go_enter Tryd.func5, Tryd.ntmps5
    go_wp2_with fail
    refine (alive7_any w).mono ?_
    rintro e w1 ⟨rfl, hb1⟩
    have HB1 := hide hb1
    clear hb1
    go_wp2_with fail
    refine (ops_any w1).mono ?_
    rintro e w2 ⟨g, rfl, hg, hcs, hgl, hb2⟩
    have HB2 := hide (below_up HB1.out hb2 HB1.out.size)
    clear hb2 hcs
    go_wp2
    go_ret
    exact ⟨rfl, HB2.out.alloc HB2.out.size _⟩
  obtain ⟨p, rfl⟩ := Int.eq_ofNat_of_zero_le (show 0 ≤ p by omega)
  obtain ⟨q, rfl⟩ := Int.eq_ofNat_of_zero_le (show 0 ≤ q by omega)
  obtain ⟨a, rfl⟩ := Int.eq_ofNat_of_zero_le (show 0 ≤ a by omega)
  obtain ⟨b, rfl⟩ := Int.eq_ofNat_of_zero_le (show 0 ≤ b by omega)
  obtain ⟨c, rfl⟩ := Int.eq_ofNat_of_zero_le (show 0 ≤ c by omega)
  have ha : a ≤ 9223372036854775807 := by omega
  have hb : b ≤ 9223372036854775807 := by omega
  have hc : c ≤ 9223372036854775807 := by omega
  have hp : p < 18 := by omega
  have hq : q < 18 := by omega
  exact levels_main a b c p q ha hb hc hp hq w
end Go.Proofs.YtpjbklajjikgjaaDoor
