/- Walk of the reference's arith: Eval. -/
import Derived.Test.YtpjbklajjikgjaaDoorArithRefH
import Derived.Test.YtpjbklajjikgjaaDoorArithWalkN
namespace Go.Proofs.YtpjbklajjikgjaaDoor
open Go.RowKit Go.Deep

theorem from_levels (A : Option Addr) (P : List Pr) (c B g : Nat) (s : ByteArray) (d : Nat) (E : Ar.Ex) (hE : Ar.SufE E) (hp : RPCon A P c B g s d E) (hB : B ≤ g) (hs : s.size ≤ 100000) :
    ∀ n L, 1 ≤ L → L ≤ 11 → 11 ≤ L + n → FCon A P c B g s d L (Ar.frm (KP P) E 10 L)
  | 0, L, h1, h2, h3 => from_step A P c B g s d E hE hp L h1 h2 (fun k hk1 hk2 => by omega) hB hs
  | n + 1, L, h1, h2, h3 => from_step A P c B g s d E hE hp L h1 h2 (fun k hk1 hk2 => from_levels A P c B g s d E hE hp hB hs n (k + 1) (by omega) (by omega) (by omega)) hB hs
theorem exR_suf (K : Ar.Kn) (r : Nat) : Ar.SufE (Ar.exR K r) := by rw [← Ar.ex_same]; exact Ar.exB_suf K r
theorem from_all (A : Option Addr) (P : List Pr) (c B g : Nat) (s : ByteArray) (hB : B ≤ g) (hs : s.size ≤ 100000) (hl : P.length ≤ maxLen) (hv : ∀ x ∈ P, x.2.size ≤ maxLen) :
    ∀ r d, d + r = 40 → FCon A P c B g s d 1 (Ar.exR (KP P) (r + 1))
  | 0, d, h => from_levels A P c B g s d (Ar.exR (KP P) 0) (exR_suf _ 0) (plain_any7 A P c B g s d _ (by omega) (fun _ => rfl) (fun hlt => by omega) hB hs hl hv) hB hs 10 1 (by omega) (by omega) (by omega)
  | r + 1, d, h => by
    have ih := from_all A P c B g s hB hs hl hv r (d + 1) (by omega)
    exact from_levels A P c B g s d (Ar.exR (KP P) (r + 1)) (exR_suf _ (r + 1)) (plain_any7 A P c B g s d _ (by omega) (fun hd => by omega) (fun _ => ih) hB hs hl hv) hB hs 10 1 (by omega) (by omega) (by omega)
set_option maxRecDepth 100000 in
set_option maxHeartbeats 2000000 in
theorem reval_any (s : ByteArray) (A : Option Addr) (P : List Pr) (c : Nat) (w : World) (hA : PR w A P) (_hs : s.size ≤ maxLen) (hl : P.length ≤ maxLen) (hv : ∀ x ∈ P, x.2.size ≤ maxLen) :
    Calls Tryd.prog 14 #[.string s, .slice A P.length c] w fun e w' => e = .returned (.tuple #[.int .i64 (evalF P s).1, .int .i64 (evalF P s).2]) ∧ Below w.heap.size w w' := by
  by_cases h4 : 4096 < s.size
  · have HF := hide (show evalF P s = (0, 3) from if_pos h4)
    go_enter Tryd.func14, Tryd.ntmps14
    go_wp2
    go_ret2
    exact ⟨by rw [HF.out]; rfl, Below.refl _ _⟩
  · have HF := hide (show evalF P s = wholeF (Ar.exR (KP P) 41 s.data.toList false) by rw [← Ar.ex_same]; exact if_neg h4)
    have hs5 : s.size ≤ 100000 := by omega
    have hb : Below w.heap.size w (w.alloc (.cells #[.string s, .slice A P.length c, .int .i64 0, .int .i64 0, .int .i64 0, .bool false] 51)) := (Below.refl _ _).alloc (Nat.le_refl _) _
    have hr : RR (w.alloc (.cells #[.string s, .slice A P.length c, .int .i64 0, .int .i64 0, .int .i64 0, .bool false] 51)) w.heap.size s (.slice A P.length c) 0 0 0 false :=
      ⟨by rw [World.cell?_alloc_at _ _ _ _ rfl]; rfl, by rw [World.cell?_alloc_at _ _ _ _ rfl]; rfl, by rw [World.cell?_alloc_at _ _ _ _ rfl]; rfl, by rw [World.cell?_alloc_at _ _ _ _ rfl]; rfl, by rw [World.cell?_alloc_at _ _ _ _ rfl]; rfl, by rw [World.cell?_alloc_at _ _ _ _ rfl]; rfl, fun o => World.frozen?_alloc_at _ _ _ _ rfl⟩
    have hp : PB (w.alloc (.cells #[.string s, .slice A P.length c, .int .i64 0, .int .i64 0, .int .i64 0, .bool false] 51)) A P w.heap.size := ⟨hA.below hb, hA.pb.lo⟩
    have HW := hide (from_all A P c w.heap.size w.heap.size s (Nat.le_refl _) hs5 hl hv 40 0 rfl 0 false _ hr hp (Nat.zero_le _))
    have HB := hide hb
    clear hb hr hp hA hl hv
    generalize hn : P.length = n at *
    clear hn
    go_enter Tryd.func14, Tryd.ntmps14
    go_wp2_with fail
    refine HW.out.mono ?_
    rintro e w2 hend
    rw [show dr s 0 = s.data.toList from rfl] at hend
    obtain ⟨r, hr⟩ : ∃ r, Ar.exR (KP P) 41 s.data.toList false = r := ⟨_, rfl⟩
    rw [hr] at hend
    have HFR := hide (HF.out.trans (by rw [hr]))
    clear hr
    cases r with
    | error c2 =>
      obtain ⟨h0, v, j, d', z', rfl, hr2, hj, hg2⟩ := hend
      have HR2 := hide hr2
      have HB2 := hide (HB.out.trans (below_of_gb hg2 (by simp) (Nat.le_refl _)))
      have H0 := hide h0
      clear hr2 hg2 h0
      go_wp2_with fail
      refine (sign_any _ s _ j d' c2 z' w2 HR2.out hj hs5).mono ?_
      rintro e w3 ⟨rfl, k, hr3, hjk, hk, hsk3, hg3⟩
      have hc4 := hr3.c4
      have hc2 := hr3.c2
      have hc0 := hr3.c0
      have hn0 := H0.out
      have hb4 : (((c2 : Nat) : Int) != 0) = true := by rw [bne_iff_ne]; omega
      have hb5 : (((c2 : Nat) : Int) == 0) = false := by simp only [beq_eq_false_iff_ne]; omega
      have HB3 := hide (HB2.out.trans (below_of_gb hg3 (by have := HR2.out.lt; omega) (Nat.le_refl _)))
      clear hr3 hg3 hsk3 hn0
      go_wp2
      go_quiet (fail)
      go_wp2
      go_ret2
      refine ⟨by rw [HFR.out]; rfl, below_drewN HB3.out _⟩
    | ok x =>
      obtain ⟨v, u, z⟩ := x
      obtain ⟨j, rfl, hr2, hj, hu, hg2⟩ := hend
      have HR2 := hide hr2
      have HU := hide hu
      have HB2 := hide (HB.out.trans (below_of_gb hg2 (by simp) (Nat.le_refl _)))
      clear hr2 hg2 hu
      go_wp2_with fail
      refine (sign_any _ s _ j 0 0 z w2 HR2.out hj hs5).mono ?_
      rintro e w3 ⟨rfl, k, hr3, hjk, hk, hsk3, hg3⟩
      have hc4 := hr3.c4
      have hc2 := hr3.c2
      have hc5 := hr3.c5
      have hc0 := hr3.c0
      have hf4 := hr3.fz 4
      have HR3 := hide hr3
      have HB3 := hide (HB2.out.trans (below_of_gb hg3 (by have := HR2.out.lt; omega) (Nat.le_refl _)))
      have HSK := hide (show Ar.sk u = dr s k by rw [← HU.out]; exact hsk3.symm)
      clear hr3 hg3 hsk3
      by_cases hks : k < s.size
      · have hnz : (((k : Nat) : Int) != ((s.size : Nat) : Int)) = true := by rw [bne_iff_ne]; omega
        have HE := hide (show wholeF (.ok (v, u, z)) = (0, 2) by rw [wholeF]; (try simp only); rw [if_neg]; rw [HSK.out, dr_cons hks]; simp)
        go_wp2
        go_quiet (fail)
        go_wp2
        go_ret2
        exact ⟨by rw [HFR.out, HE.out]; rfl, below_drewN (HB3.out.setCell (Nat.le_refl _) _) _⟩
      · have hnz : (((k : Nat) : Int) != ((s.size : Nat) : Int)) = false := by rw [bne_eq_false_iff_eq]; omega
        cases z with
        | true =>
          have HE := hide (show wholeF (.ok (v, u, true)) = (0, 15) by rw [wholeF]; (try simp only); rw [if_pos (by rw [HSK.out, dr_nil (by omega)])]; rfl)
          go_wp2
          go_ret2
          exact ⟨by rw [HFR.out, HE.out]; rfl, HB3.out⟩
        | false =>
          have HE := hide (show wholeF (.ok (v, u, false)) = (v, 0) by rw [wholeF]; (try simp only); rw [if_pos (by rw [HSK.out, dr_nil (by omega)])]; rfl)
          go_wp2
          go_ret2
          exact ⟨by rw [HFR.out, HE.out]; rfl, HB3.out⟩
end Go.Proofs.YtpjbklajjikgjaaDoor
