/- Walk of the reference's Vars.Set. -/
import Derived.Test.YtpmhkgjplghldaaVarsRefD
namespace Go.Proofs.Ytpmhkgjplghldaa
open Go.RowKit Go.Deep
attribute [local go_sem] bt_eq

/-- what the reference's Set answers -/
def rCode (P : List Pr) (name value : ByteArray) : Nat :=
  if !nmOk (bt name) name.size || decide (0 ≤ atV (atF (bt value) value.size 0 value.size 0)) then 1 else if decide (4096 < value.size) || ((getP P name).isNone && decide (500 ≤ P.length)) then 3 else 0
/-- what is set behind it -/
def rSet (P : List Pr) (name value : ByteArray) : List Pr := if rCode P name value = 0 then putP (name, value) P else P
theorem Kp.rfl' (w : World) (S : Nat → Prop) : Kp w w S := ⟨rfl, rfl, rfl, Nat.le_refl _, fun _ _ _ => rfl⟩
set_option maxRecDepth 100000 in
set_option maxHeartbeats 1000000 in
theorem rset_any (g : Nat) (P : List Pr) (name value : ByteArray) (w : World) {Z : Nat → Prop} (h : RSt Z w g P) (hZ : ∀ k, w.heap.size ≤ k → Z k) (hl : P.length ≤ 10000) (hs : name.size ≤ 100000) (hv : value.size ≤ 100000) :
    Calls Try.prog 10 #[.pointer (some ⟨g, 0, none⟩), .string name, .string value] w fun e w' => e = .returned (.int .i64 (rCode P name value : Nat)) ∧ RSt Z w' g (rSet P name value) ∧ Kp w w' (· = g) := by
  have HR := hide h
  obtain ⟨A, c, hc, hf, hcl, hP, hag⟩ := h
  have HCD := hide (show rCode P name value = if !nmOk (bt name) name.size || decide (0 ≤ atV (atF (bt value) value.size 0 value.size 0)) then 1 else if decide (4096 < value.size) || ((getP P name).isNone && decide (500 ≤ P.length)) then 3 else 0 from rfl)
  have HST := hide (show rSet P name value = if rCode P name value = 0 then putP (name, value) P else P from rfl)
  have hsame : rCode P name value ≠ 0 → RSt Z w g (rSet P name value) ∧ Kp w w (· = g) := fun e => by rw [HST.out, if_neg e]; exact ⟨HR.out, Kp.rfl' _ _⟩
  have HSM := hide hsame
  have HGET := hide (rget_any g A c P name w hc hP hl)
  have HP := hide hP
  have HF := hide hf
  have HAG := hide hag
  clear hP hag hsame
  cases hok : nmOk (bt name) name.size with
  | false =>
    have E1 := hide (show rCode P name value = 1 by rw [HCD.out, hok]; rfl)
    have HOK := hide hok
    clear hok
    go_enter Try.func10, Try.ntmps10
    go_wp2_with fail
    refine (rname_any name w hs).mono ?_
    rintro e w' ⟨rfl, rfl⟩
    rw [HOK.out]
    go_wp2
    go_ret
    refine ⟨?_, HSM.out (by rw [E1.out]; decide)⟩
    rw [E1.out] <;> rfl
  | true =>
    have HOK := hide hok
    clear hok
    by_cases hnul : 0 ≤ atV (atF (bt value) value.size 0 value.size 0)
    · have E1 := hide (show rCode P name value = 1 by rw [HCD.out, HOK.out]; simp [hnul])
      have hnd : decide (atV (atF (bt value) value.size 0 value.size 0) ≥ 0) = true := by simpa using hnul
      go_enter Try.func10, Try.ntmps10
      go_wp2_with fail
      refine (rname_any name w hs).mono ?_
      rintro e w' ⟨rfl, rfl⟩
      rw [HOK.out]
      go_wp2_with fail
      refine (rat_any value 0 w hv).mono ?_
      rintro e w' ⟨rfl, rfl⟩
      generalize atV (atF (bt value) value.size 0 value.size 0) = av at hnul hnd ⊢
      go_wp2
      go_ret
      refine ⟨?_, HSM.out (by rw [E1.out]; decide)⟩
      rw [E1.out] <;> rfl
    · have HNU := hide hnul
      generalize hav : atV (atF (bt value) value.size 0 value.size 0) = av at hnul
      have HAV := hide hav
      clear hav
      have hnd : decide (0 ≤ av) = false := by simpa using hnul
      cases hgp : getP P name with
      | some u =>
        have HGP := hide hgp
        clear hgp
        by_cases hlv : 4096 < value.size
        · have E1 := hide (show rCode P name value = 3 by rw [HCD.out, HOK.out, HGP.out, HAV.out]; simp [hlv, hnd])
          have hlv2 : (4096 : Int) < (value.size : Int) := by omega
          go_enter Try.func10, Try.ntmps10
          go_wp2_with fail
          refine (rname_any name w hs).mono ?_
          rintro e w' ⟨rfl, rfl⟩
          rw [HOK.out]
          go_wp2_with fail
          refine (rat_any value 0 w hv).mono ?_
          rintro e w' ⟨rfl, rfl⟩
          rw [HAV.out]
          go_wp2_with fail
          refine HGET.out.mono ?_
          rintro e w' ⟨rfl, rfl⟩
          rw [HGP.out, show getV (some u) = Value.tuple #[.string u, .bool true] from rfl]
          go_wp2
          go_ret
          refine ⟨?_, HSM.out (by rw [E1.out]; decide)⟩
          rw [E1.out] <;> rfl
        · have E1 := hide (show rCode P name value = 0 by rw [HCD.out, HOK.out, HGP.out, HAV.out]; simp [hlv, hnd])
          have hlv2 : ¬ (4096 : Int) < (value.size : Int) := by omega
          go_enter Try.func10, Try.ntmps10
          go_wp2_with fail
          refine (rname_any name w hs).mono ?_
          rintro e w' ⟨rfl, rfl⟩
          rw [HOK.out]
          go_wp2_with fail
          refine (rat_any value 0 w hv).mono ?_
          rintro e w' ⟨rfl, rfl⟩
          rw [HAV.out]
          go_wp2_with fail
          refine HGET.out.mono ?_
          rintro e w' ⟨rfl, rfl⟩
          rw [HGP.out, show getV (some u) = Value.tuple #[.string u, .bool true] from rfl]
          go_wp2_with fail
          refine (putp_any A c P name value w HP.out hl hcl).mono ?_
          rintro e w' ⟨⟨A', c', rfl, hP', hc', ha'⟩, hb'⟩
          have ST := hide (HR.out.store hZ hb' rfl hc' hP' ha')
          have hg' : w'.cell? ⟨g, 0, none⟩ = some (.slice A P.length c) := (hb'.cell (p := ⟨g, 0, none⟩) (World.block_lt_of_cell? w _ hc)).trans hc
          have hf' : w'.frozen? ⟨g, 0, none⟩ = false := (hb'.frozen (p := ⟨g, 0, none⟩) (World.block_lt_of_cell? w _ hc)).trans HF.out
          clear hP' hb' ha'
          go_wp2
          go_ret
          refine ⟨?_, ?_⟩
          · rw [E1.out] <;> rfl
          · rw [HST.out, if_pos E1.out]; exact ST.out
      | none =>
        have HGP := hide hgp
        clear hgp
        by_cases hlv : 4096 < value.size
        · have E1 := hide (show rCode P name value = 3 by rw [HCD.out, HOK.out, HGP.out, HAV.out]; simp [hlv, hnd])
          have hlv2 : (4096 : Int) < (value.size : Int) := by omega
          go_enter Try.func10, Try.ntmps10
          go_wp2_with fail
          refine (rname_any name w hs).mono ?_
          rintro e w' ⟨rfl, rfl⟩
          rw [HOK.out]
          go_wp2_with fail
          refine (rat_any value 0 w hv).mono ?_
          rintro e w' ⟨rfl, rfl⟩
          rw [HAV.out]
          go_wp2_with fail
          refine HGET.out.mono ?_
          rintro e w' ⟨rfl, rfl⟩
          rw [HGP.out, show getV none = Value.tuple #[.string ⟨#[]⟩, .bool false] from rfl]
          go_wp2
          go_ret
          refine ⟨?_, HSM.out (by rw [E1.out]; decide)⟩
          rw [E1.out] <;> rfl
        · have hlv2 : ¬ (4096 : Int) < (value.size : Int) := by omega
          by_cases h5 : 500 ≤ P.length
          · have E1 := hide (show rCode P name value = 3 by rw [HCD.out, HOK.out, HGP.out, HAV.out]; simp [hlv, hnd, h5])
            have h52 : (500 : Int) ≤ (P.length : Int) := by omega
            go_enter Try.func10, Try.ntmps10
            go_wp2_with fail
            refine (rname_any name w hs).mono ?_
            rintro e w' ⟨rfl, rfl⟩
            rw [HOK.out]
            go_wp2_with fail
            refine (rat_any value 0 w hv).mono ?_
            rintro e w' ⟨rfl, rfl⟩
            rw [HAV.out]
            go_wp2_with fail
            refine HGET.out.mono ?_
            rintro e w' ⟨rfl, rfl⟩
            rw [HGP.out, show getV none = Value.tuple #[.string ⟨#[]⟩, .bool false] from rfl]
            go_wp2
            go_ret
            refine ⟨?_, HSM.out (by rw [E1.out]; decide)⟩
            rw [E1.out] <;> rfl
          · have E1 := hide (show rCode P name value = 0 by rw [HCD.out, HOK.out, HGP.out, HAV.out]; simp [hlv, hnd, h5])
            have h52 : ¬ (500 : Int) ≤ (P.length : Int) := by omega
            go_enter Try.func10, Try.ntmps10
            go_wp2_with fail
            refine (rname_any name w hs).mono ?_
            rintro e w' ⟨rfl, rfl⟩
            rw [HOK.out]
            go_wp2_with fail
            refine (rat_any value 0 w hv).mono ?_
            rintro e w' ⟨rfl, rfl⟩
            rw [HAV.out]
            go_wp2_with fail
            refine HGET.out.mono ?_
            rintro e w' ⟨rfl, rfl⟩
            rw [HGP.out, show getV none = Value.tuple #[.string ⟨#[]⟩, .bool false] from rfl]
            go_wp2_with fail
            refine (putp_any A c P name value w HP.out hl hcl).mono ?_
            rintro e w' ⟨⟨A', c', rfl, hP', hc', ha'⟩, hb'⟩
            have ST := hide (HR.out.store hZ hb' rfl hc' hP' ha')
            have hg' : w'.cell? ⟨g, 0, none⟩ = some (.slice A P.length c) := (hb'.cell (p := ⟨g, 0, none⟩) (World.block_lt_of_cell? w _ hc)).trans hc
            have hf' : w'.frozen? ⟨g, 0, none⟩ = false := (hb'.frozen (p := ⟨g, 0, none⟩) (World.block_lt_of_cell? w _ hc)).trans HF.out
            clear hP' hb' ha'
            go_wp2
            go_ret
            refine ⟨?_, ?_⟩
            · rw [E1.out] <;> rfl
            · rw [HST.out, if_pos E1.out]; exact ST.out
end Go.Proofs.Ytpmhkgjplghldaa
