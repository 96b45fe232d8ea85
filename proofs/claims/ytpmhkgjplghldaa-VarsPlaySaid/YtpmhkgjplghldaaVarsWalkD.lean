/- The map's names, sorted; the walk of vars.All. -/
import Derived.Test.YtpmhkgjplghldaaVarsMathD
import Derived.Test.YtpmhkgjplghldaaVarsWalkC
import Derived.Test.YtpmhkgjplghldaaStrsWalk
import Derived.Test.YtpmhkgjplghldaaIterB
namespace Go.Proofs.Ytpmhkgjplghldaa
open Go.RowKit Go.Deep Go.Maps
attribute [local go_sem] bt_eq

/-- the datum of a list of pairs -/
def dP (P : List Pr) : VD := datG sDat P
theorem keysP (mb : Option Nat) (w : World) : Calls Try.prog 24 #[.map mb] w fun e w' => e = .returned (.func (.func 33) #[] #[.pointer (some ⟨w.heap.size, 0, none⟩)]) ∧ w' = w.alloc (.cells #[.map mb] 24) :=
  callsIn_wide.1 (Try.maps_Keys_24 mb w)
theorem encRow {P : List Pr} : (P.map fun x => x.1.data.toList).map encStr = strVals (P.map (·.1)) := by
  unfold strVals
  rw [List.map_map, List.map_map]
  apply List.map_congr_left
  intro x _
  rfl
theorem sortedP {w : World} {mb : Option Nat} {P : List Pr} (hm : MVal w (.map mb) (dP P)) (hr : RiseG P) (hl : P.length ≤ 100000) :
    Calls Try.prog 23 #[.func (.func 33) #[] #[.pointer (some ⟨w.heap.size, 0, none⟩)]] (w.alloc (.cells #[.map mb] 24)) fun e w' => ∃ v, e = .returned v ∧ OwnS w' (w.heap.size + 1) v (P.map (·.1)) ∧ Below (w.heap.size + 1) (w.alloc (.cells #[.map mb] 24)) w' := by
  have hlen : ∀ ss : List (List UInt8), ss.Perm (strKeys (dP P)) → ss.length = P.length := fun ss h => by
    rw [h.length_eq, dP, datG_keys, List.length_map]
  rcases hm with ⟨h1, h2⟩ | ⟨b, h1, h2⟩
  · obtain rfl : mb = none := by injection h1
    have hP : P = [] := by
      unfold dP datG at h2
      injection h2 with h2
      simpa using h2
    subst hP
    refine (callsIn_wide.1 (Try.slices_Sorted_keys_nil_23_24 w)).mono ?_
    rintro e w' ⟨v, ss, rfl, rfl, h3, h4, h5⟩
    refine ⟨v, rfl, ?_, by simpa using h5⟩
    unfold OwnS
    simpa [strVals] using h3
  · obtain rfl : mb = some b := by injection h1
    refine (callsIn_wide.1 (Try.slices_Sorted_keys_23_24 b _ _ _ w h2 (by rw [dP, datG_size]; unfold maxLen; omega) (by rw [dP, datG_size]; omega))).mono ?_
    rintro e w' ⟨v, ss, rfl, h6, h3, h4, h5⟩
    refine ⟨v, rfl, ?_, by simpa using h5⟩
    rw [sort_keys sDat hr h6, encRow, hlen ss h6] at h3
    unfold OwnS
    rw [List.length_map]
    simpa using h3
theorem mlook1 {w : World} {mv : Value} {P : List Pr} {s v : ByteArray} (h : MVal w mv (dP P)) (hg : getP P s = some v) (hs : s.size ≤ 100000) :
    (Instr.lookup 24 mv (.string s) false).run Try.prog w = .ok (.string v) w := by
  rcases h with ⟨rfl, h2⟩ | ⟨b, rfl, h⟩
  · have hP : P = [] := by
      unfold dP datG at h2
      injection h2 with h2
      simpa using h2
    subst hP
    cases hg
  · obtain ⟨v', ps, hrun, hv⟩ := h.lookup skeyed Try.underlying24 (szero w) (selem (s := ⟨#[]⟩) (by decide)) (skey (s := s) (by omega))
    obtain ⟨sv, rfl, e, hl⟩ := plainElem_string_inv Try.underlying9 hv
    injection e with e1 e2
    rw [dP, datG_at, show getG P s = some v from hg] at e1
    rw [hrun, sDat_inj e1]
set_option maxRecDepth 100000 in
set_option maxHeartbeats 1000000 in
theorem vall_any (g : Nat) (mb : Option Nat) (P : List Pr) (w : World) (hc : w.cell? ⟨g, 0, none⟩ = some (.map mb)) (hm : MVal w (.map mb) (dP P)) (hr : RiseG P) (hl : P.length ≤ 100000) (hs : ∀ x ∈ P, x.1.size ≤ 100000) :
    Calls Try.prog 16 #[.pointer (some ⟨g, 0, none⟩)] w fun e w' => ∃ A c, e = .returned (.slice A P.length c) ∧ P.length ≤ c ∧ PR w' A P ∧ (∀ a, A = some a → w.heap.size ≤ a.block ∧ a.block < w'.heap.size) ∧ Below w.heap.size w w' := by
  have HK := hide (keysP mb w)
  have HS := hide (sortedP hm hr hl)
  have HM := hide hm
  have HC := hide hc
  have HR := hide hr
  have HSZ := hide hs
  have hgl : g < w.heap.size := World.block_lt_of_cell? w _ hc
  obtain ⟨m, hml⟩ : ∃ m, P.length = m := ⟨_, rfl⟩
  rw [hml] at hl ⊢
  have HL := hide hml
  clear hm hr hs hml
  go_enter Try.func16, Try.ntmps16
  go_wp2_with fail
  refine HK.out.mono ?_
  rintro e w' ⟨rfl, rfl⟩
  go_wp2_with fail
  refine HS.out.mono ?_
  rintro e w2 ⟨v, rfl, ho, hb⟩
  obtain ⟨A, c, rfl, hlc, hsr, _⟩ := OwnS.slice ho
  rw [List.length_map, HL.out] at hlc ⊢
  have HSR := hide hsr
  have hB2 := ((Below.refl w.heap.size w).alloc (Nat.le_refl _) (.cells #[.map mb] 24)).trans (hb.mono (Nat.le_succ _))
  have HB2 := hide hB2
  clear ho hb hsr hB2
  have hlc1 : (m : Int) ≤ (c : Int) := by omega
  have hm1 : (m : Int) ≤ 100000 := by omega
  go_wp2
  go_loopw [3, 13] (fun v3 v13 wr => ∃ k : Nat, v13 = .int .i64 k ∧ k ≤ m ∧ OwnP wr w2.heap.size v3 (P.take k) ∧ Below w2.heap.size w2 wr) (fun _ v13 _ => m - (intOf v13).toNat)
  case atStart => exact ⟨0, rfl, by omega, OwnP.nil _ _, Below.refl _ _⟩
  case round =>
    obtain ⟨k, rfl, hk, ho, hbr⟩ := hrel
    have HBR := hide (below_up HB2.out hbr HB2.out.size)
    have HBL := hide hbr
    have HO := hide ho
    clear hc
    have hc := (HBR.out.cell (p := ⟨g, 0, none⟩) hgl).trans HC.out
    by_cases hlt : k < m
    · obtain ⟨x, hx⟩ : ∃ x, P[k]? = some x := ⟨P[k]'(by have := HL.out; omega), List.getElem?_eq_getElem _⟩
      obtain ⟨x1, x2⟩ := x
      obtain ⟨gs, os, rfl, hgs, hcs⟩ := (HSR.out.below hbr) k x1 (by rw [List.getElem?_map, hx]; rfl)
      have hmem := List.mem_of_getElem? hx
      have hk1 := mlook1 (HM.out.kept (Kp.of_below HBR.out (fun _ => False)) (fun _ _ h => h)) (mem_getG HR.out hmem) (HSZ.out _ hmem)
      have HT := hide (show P.take (k + 1) = P.take k ++ [(x1, x2)] by rw [List.take_add_one, hx]; rfl)
      have hkl : (P.take k).length ≤ 100000 := by rw [List.length_take]; omega
      have hb0 : w2.heap.size ≤ wr.heap.size := hbr.size
      clear hbr ho hx hmem
      obtain ⟨v4, w4, r4, o4, g4, b4⟩ := run_appP (c := 1) (OwnP.alloc HO.out (.cells #[.string x1, .string x2] 49)) (pr_new wr x1 x2) (by simp; omega) (by simp; omega)
      have HO4 := hide o4
      have HB4 := hide ((HBL.out.alloc hb0 (.cells #[.string x1, .string x2] 49)).trans ((Below.refl w2.heap.size _).grown g4 (by simp; omega) (fun q hq => (OwnP.lt HO.out q hq).1)))
      clear o4 g4 b4
      go_wp2_with (at_builtin; refine wpList_app_run ?_ (.tmp 17) (.tmp 26) ?_ ?_ ?_ ?_ r4 ?_; exact rfl; exact rfl; exact rfl; exact rfl; exact rfl)
      go_roundw
      case rel => exact ⟨k + 1, by go_num, by omega, by rw [HT.out]; exact HO4.out, HB4.out⟩
      case measure => simp [intOf]; omega
    · obtain rfl : k = m := by omega
      obtain ⟨A3, c3, rfl, h1, h2, h3⟩ := HO.out.slice
      have H3 := hide (show ∀ a, A3 = some a → w.heap.size ≤ a.block ∧ a.block < wr.heap.size from fun a e => ⟨by have := (HO.out.lt _ (h3 a e)).1; have := HB2.out.size; omega, (HO.out.lt _ (h3 a e)).2⟩)
      clear h3
      have hpk : P.take k = P := by rw [← HL.out, List.take_length]
      rw [hpk, HL.out] at h1
      rw [hpk] at h2
      have H2 := hide h2
      clear h2 ho hbr
      go_wp2
      go_ret
      refine ⟨A3, c3, ?_, h1, H2.out, H3.out, HBR.out⟩
      rw [hpk, HL.out]
      rfl
end Go.Proofs.Ytpmhkgjplghldaa
