/- Walks of package arith: whole, and Eval. -/
import Derived.Test.YtpjbklajjikgjaaDoorArithWalkM
namespace Go.Proofs.YtpjbklajjikgjaaDoor
open Go.RowKit Go.Deep

/-- what the whole comes to: a number, and an error or 0 -/
def wholeF (r : Ar.R) : Int × Nat := match r with
  | .error c => (0, c)
  | .ok (v, u, z) => if Ar.sk u = [] then (if z = true then (0, 15) else (v, 0)) else (0, 2)
set_option maxRecDepth 100000 in
set_option maxHeartbeats 2000000 in
theorem whole_any (A : Option Addr) (P : List Pr) (c B g : Nat) (s : ByteArray) (hB : B ≤ g) (hs : s.size ≤ 100000) (hl : P.length ≤ maxLen) (hv : ∀ x ∈ P, x.2.size ≤ maxLen) (w : World) (h : RD w g s 0 (.slice A P.length c) 0 false) (hP : PB w A P B) :
    Calls Tryd.prog 20 #[.pointer (some ⟨g, 0, none⟩)] w fun e w' => e = .returned (.tuple #[.int .i64 (wholeF (Ar.exB (KP P) 41 s.data.toList false)).1, .int .i64 (wholeF (Ar.exB (KP P) 41 s.data.toList false)).2]) ∧ Below g w w' := by
  have hmf : ∀ (fn : Fn) (first cap : Array Value) (w : World), (Instr.makeFunc fn first cap).run Tryd.prog w = .ok (.func fn first cap) w := fun _ _ _ _ => rfl
  have hgl := h.lt
  have hbel : Below w.heap.size w ((w.alloc (.cells #[.int .i64 0] 3)).alloc (.cells #[.int .i64 0] 24)) := ((Below.refl _ _).alloc (Nat.le_refl _) _).alloc (by simp) _
  have HR := hide (h.below hbel)
  have HP := hide (hP.kept (gr_below (g := g) hbel) hB)
  have HG := hide (gr_below (g := g) hbel)
  have HBI := hide (binary_all A P c B g s hB hs hl hv 40 0 rfl)
  clear h hP hbel
  go_enter_defers Tryd.func20, Tryd.ntmps20
  go_wp2_with fail
  refine (HBI.out 0 false _ HR.out HP.out (Nat.zero_le _)).mono ?_
  rintro e w2 hend
  rw [show dr s 0 = s.data.toList from rfl] at hend
  obtain ⟨r, hr⟩ : ∃ r, Ar.exB (KP P) 41 s.data.toList false = r := ⟨_, rfl⟩
  rw [hr] at hend
  have HRR := hide hr
  clear hr
  have hp0 : ((w.alloc (.cells #[.int .i64 0] 3)).alloc (.cells #[.int .i64 0] 24)).cell? ⟨w.heap.size, 0, none⟩ = some (.int .i64 0) := by simp [go_sem]
  have hq0 : ((w.alloc (.cells #[.int .i64 0] 3)).alloc (.cells #[.int .i64 0] 24)).cell? ⟨w.heap.size + 1, 0, none⟩ = some (.int .i64 0) := by simp [go_sem]
  have zp0 : ((w.alloc (.cells #[.int .i64 0] 3)).alloc (.cells #[.int .i64 0] 24)).frozen? ⟨w.heap.size, 0, none⟩ = false := by simp [go_sem]
  have zq0 : ((w.alloc (.cells #[.int .i64 0] 3)).alloc (.cells #[.int .i64 0] 24)).frozen? ⟨w.heap.size + 1, 0, none⟩ = false := by simp [go_sem]
  have hkeep : ∀ {W2 : World} {k : Nat}, w.heap.size ≤ k → k ≤ w.heap.size + 1 → Gr ((w.alloc (.cells #[.int .i64 0] 3)).alloc (.cells #[.int .i64 0] 24)) W2 g → W2.heap[k]? = ((w.alloc (.cells #[.int .i64 0] 3)).alloc (.cells #[.int .i64 0] 24)).heap[k]? :=
    fun h1 h2 hg => hg.block _ (by simp; omega) (by intro e; injection e with e; omega)
  cases r with
  | error c2 =>
    obtain ⟨rfl, hg2⟩ := hend
    have hp1 : w2.cell? ⟨w.heap.size, 0, none⟩ = some (.int .i64 0) := (World.cell?_of_block (hkeep (Nat.le_refl _) (Nat.le_succ _) hg2)).trans hp0
    have hq1 : w2.cell? ⟨w.heap.size + 1, 0, none⟩ = some (.int .i64 0) := (World.cell?_of_block (hkeep (Nat.le_succ _) (Nat.le_refl _) hg2)).trans hq0
    have zp1 : w2.frozen? ⟨w.heap.size, 0, none⟩ = false := (World.frozen?_of_block (hkeep (Nat.le_refl _) (Nat.le_succ _) hg2)).trans zp0
    have zq1 : w2.frozen? ⟨w.heap.size + 1, 0, none⟩ = false := (World.frozen?_of_block (hkeep (Nat.le_succ _) (Nat.le_refl _) hg2)).trans zq0
    have HG2 := hide (gb_trans HG.out hg2)
    clear hg2 hkeep
    refine leaves_cons (f := 24) (args := #[.pointer (some ⟨w.heap.size, 0, none⟩), .pointer (some ⟨w.heap.size + 1, 0, none⟩)]) (by simp) (by simp [go_sem]) ?_
    refine (catch_panicking w.heap.size (w.heap.size + 1) 0 0 c2 w2 hp1 hq1 zp1 zq1 (by omega)).mono ?_
    rintro e u' w3 ⟨rfl, rfl, hp3, hq3, hb3⟩
    simp [Leaves, settle, results, Tryd.results20, go_sem, hp3, hq3]
    refine ⟨by rw [HRR.out]; exact ⟨rfl, rfl⟩, (below_of_gb HG2.out (by omega) (Nat.le_refl _)).trans (hb3.mono (by omega))⟩
  | ok x =>
    obtain ⟨v, u, z⟩ := x
    obtain ⟨j, rfl, hr2, hj, hu2, hg2⟩ := hend
    have hp1 : w2.cell? ⟨w.heap.size, 0, none⟩ = some (.int .i64 0) := (World.cell?_of_block (hkeep (Nat.le_refl _) (Nat.le_succ _) hg2)).trans hp0
    have hq1 : w2.cell? ⟨w.heap.size + 1, 0, none⟩ = some (.int .i64 0) := (World.cell?_of_block (hkeep (Nat.le_succ _) (Nat.le_refl _) hg2)).trans hq0
    have zp1 : w2.frozen? ⟨w.heap.size, 0, none⟩ = false := (World.frozen?_of_block (hkeep (Nat.le_refl _) (Nat.le_succ _) hg2)).trans zp0
    have zq1 : w2.frozen? ⟨w.heap.size + 1, 0, none⟩ = false := (World.frozen?_of_block (hkeep (Nat.le_succ _) (Nat.le_refl _) hg2)).trans zq0
    have hs2 := hg2.size
    have hs2' : w.heap.size + 2 ≤ w2.heap.size := by simpa using hs2
    have HR2 := hide (hr2.kept (w' := w2.setCell ⟨w.heap.size, 0, none⟩ (.int .i64 v)) (Below.heap_setCell w2 _ _ g (by show g ≠ w.heap.size; omega)))
    have HU := hide hu2
    have HB2 := hide (below_of_gb (gb_trans HG.out hg2) (by omega : g ≤ w.heap.size) (Nat.le_refl _))
    clear hr2 hu2 hg2 hkeep hp0 hq0 zp0 zq0 HR HP HG HBI hs2
    go_wp2_with fail
    refine (blank_any g s j _ 0 z _ HR2.out hj hs).mono ?_
    rintro e w3 ⟨rfl, k, hr3, hjk, hk, hsk, hg3⟩
    have hc0 := hr3.c0
    have hc1 := hr3.c1
    have hc4 := hr3.c4
    have hs3 := hg3.size
    rw [World.size_setCell] at hs3
    have hb0 := hg3.block w.heap.size (by rw [World.size_setCell]; omega) (by intro e; injection e with e; omega)
    have hb1 := hg3.block (w.heap.size + 1) (by rw [World.size_setCell]; omega) (by intro e; injection e with e; omega)
    have hp3 : w3.cell? ⟨w.heap.size, 0, none⟩ = some (.int .i64 v) := (World.cell?_of_block (a := ⟨w.heap.size, 0, none⟩) hb0).trans (World.cell?_setCell_same _ _ _ hp1)
    have hq3 : w3.cell? ⟨w.heap.size + 1, 0, none⟩ = some (.int .i64 0) := (World.cell?_of_block (a := ⟨w.heap.size + 1, 0, none⟩) hb1).trans ((World.cell?_setCell_other _ _ _ _ (by intro e; injection e with e; omega)).trans hq1)
    have zp3 : w3.frozen? ⟨w.heap.size, 0, none⟩ = false := (World.frozen?_of_block (a := ⟨w.heap.size, 0, none⟩) hb0).trans ((World.frozen?_setCell _ _ _ _).trans zp1)
    have zq3 : w3.frozen? ⟨w.heap.size + 1, 0, none⟩ = false := (World.frozen?_of_block (a := ⟨w.heap.size + 1, 0, none⟩) hb1).trans ((World.frozen?_setCell _ _ _ _).trans zq1)
    have HU2 := hide (show Ar.sk u = dr s k by rw [← HU.out]; exact hsk.symm)
    have HB3 := hide ((HB2.out.setCell (show g ≤ w.heap.size by omega) (.int .i64 v)).trans (below_of_gb hg3 (by rw [World.size_setCell]; omega) (Nat.le_refl _)))
    clear hr3 hsk hg3 hb0 hb1 hp1 hq1 zp1 zq1 HR2 HU HB2 hs2'
    by_cases hks : k < s.size
    · have hd : decide ((k : Int) < (s.size : Int)) = true := by simp only [decide_eq_true_eq]; omega
      have HF := hide (show wholeF (.ok (v, u, z)) = (0, 2) by rw [wholeF]; (try simp only); rw [if_neg]; rw [HU2.out, dr_cons hks]; simp)
      go_wp2
      go_quiet (fail)
      go_wp2
      refine leaves_cons (f := 24) (args := #[.pointer (some ⟨w.heap.size, 0, none⟩), .pointer (some ⟨w.heap.size + 1, 0, none⟩)]) (by simp) (by simp [go_sem]) ?_
      refine (catch_idle w.heap.size (w.heap.size + 1) _).mono ?_
      rintro e u' w4 ⟨rfl, rfl, rfl⟩
      simp [Leaves, settle, results, Tryd.results20, go_sem, hp3, hq3]
      exact ⟨by rw [HRR.out, HF.out]; exact ⟨rfl, rfl⟩, ((below_drewN HB3.out _).setCell (show g ≤ w.heap.size by omega) _).setCell (show g ≤ w.heap.size + 1 by omega) _⟩
    · have hd : decide ((k : Int) < (s.size : Int)) = false := by simp only [decide_eq_false_iff_not]; omega
      cases z with
      | true =>
        have HF := hide (show wholeF (.ok (v, u, true)) = (0, 15) by rw [wholeF]; (try simp only); rw [if_pos (by rw [HU2.out, dr_nil (by omega)])]; rfl)
        go_wp2
        go_quiet (fail)
        go_wp2
        refine leaves_cons (f := 24) (args := #[.pointer (some ⟨w.heap.size, 0, none⟩), .pointer (some ⟨w.heap.size + 1, 0, none⟩)]) (by simp) (by simp [go_sem]) ?_
        refine (catch_idle w.heap.size (w.heap.size + 1) _).mono ?_
        rintro e u' w4 ⟨rfl, rfl, rfl⟩
        simp [Leaves, settle, results, Tryd.results20, go_sem, hp3, hq3]
        exact ⟨by rw [HRR.out, HF.out]; exact ⟨rfl, rfl⟩, ((below_drewN HB3.out _).setCell (show g ≤ w.heap.size by omega) _).setCell (show g ≤ w.heap.size + 1 by omega) _⟩
      | false =>
        have HF := hide (show wholeF (.ok (v, u, false)) = (v, 0) by rw [wholeF]; (try simp only); rw [if_pos (by rw [HU2.out, dr_nil (by omega)])]; rfl)
        go_wp2
        go_quiet (fail)
        go_wp2
        refine leaves_cons (f := 24) (args := #[.pointer (some ⟨w.heap.size, 0, none⟩), .pointer (some ⟨w.heap.size + 1, 0, none⟩)]) (by simp) (by simp [go_sem]) ?_
        refine (catch_idle w.heap.size (w.heap.size + 1) _).mono ?_
        rintro e u' w4 ⟨rfl, rfl, rfl⟩
        simp [Leaves, settle, results, Tryd.results20, go_sem, hp3, hq3]
        exact ⟨by rw [HRR.out, HF.out]; exact ⟨rfl, rfl⟩, ((below_drewN HB3.out _).setCell (show g ≤ w.heap.size by omega) _).setCell (show g ≤ w.heap.size + 1 by omega) _⟩
/-- what Eval answers -/
def evalF (P : List Pr) (s : ByteArray) : Int × Nat := if 4096 < s.size then (0, 3) else wholeF (Ar.exB (KP P) 41 s.data.toList false)
theorem ret_ii {a b c d : Int} (h : a = b) (h' : c = d) : Ending.returned (.tuple #[.int .i64 a, .int .i64 c]) = .returned (.tuple #[.int .i64 b, .int .i64 d]) := by rw [h, h']
set_option maxRecDepth 100000 in
set_option maxHeartbeats 1000000 in
theorem eval_any (s : ByteArray) (A : Option Addr) (P : List Pr) (c : Nat) (w : World) (hA : PR w A P) (_hs : s.size ≤ maxLen) (hl : P.length ≤ maxLen) (hv : ∀ x ∈ P, x.2.size ≤ maxLen) :
    Calls Tryd.prog 13 #[.string s, .slice A P.length c] w fun e w' => e = .returned (.tuple #[.int .i64 (evalF P s).1, .int .i64 (evalF P s).2]) ∧ Below w.heap.size w w' := by
  by_cases h4 : 4096 < s.size
  · have HF := hide (show evalF P s = (0, 3) from if_pos h4)
    go_enter Tryd.func13, Tryd.ntmps13
    go_wp2
    go_ret2
    exact ⟨by rw [HF.out]; rfl, Below.refl _ _⟩
  · have HF := hide (show evalF P s = wholeF (Ar.exB (KP P) 41 s.data.toList false) from if_neg h4)
    have hb : Below w.heap.size w (w.alloc (.cells #[.string s, .int .i64 0, .slice A P.length c, .int .i64 0, .bool false] 47)) := (Below.refl _ _).alloc (Nat.le_refl _) _
    have hr : RD (w.alloc (.cells #[.string s, .int .i64 0, .slice A P.length c, .int .i64 0, .bool false] 47)) w.heap.size s 0 (.slice A P.length c) 0 false :=
      ⟨by rw [World.cell?_alloc_at _ _ _ _ rfl]; rfl, by rw [World.cell?_alloc_at _ _ _ _ rfl]; rfl, by rw [World.cell?_alloc_at _ _ _ _ rfl]; rfl, by rw [World.cell?_alloc_at _ _ _ _ rfl]; rfl, by rw [World.cell?_alloc_at _ _ _ _ rfl]; rfl, fun o => World.frozen?_alloc_at _ _ _ _ rfl⟩
    have hp : PB (w.alloc (.cells #[.string s, .int .i64 0, .slice A P.length c, .int .i64 0, .bool false] 47)) A P w.heap.size := ⟨hA.below hb, hA.pb.lo⟩
    have HW := hide (whole_any A P c w.heap.size w.heap.size s (Nat.le_refl _) (by omega) hl hv _ hr hp)
    have HB := hide hb
    clear hb hr hp hA hl hv
    generalize hn : P.length = n at *
    clear hn
    go_enter Tryd.func13, Tryd.ntmps13
    go_wp2_with fail
    refine HW.out.mono ?_
    rintro e w2 ⟨rfl, hb2⟩
    have HB2 := hide (HB.out.trans hb2)
    clear hb2
    go_wp2
    go_ret2
    exact ⟨by rw [HF.out]; rfl, HB2.out⟩
end Go.Proofs.YtpjbklajjikgjaaDoor
