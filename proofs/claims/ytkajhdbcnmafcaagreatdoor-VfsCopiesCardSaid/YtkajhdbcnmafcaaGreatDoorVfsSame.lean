/- Walk of law4's Same: both tell the same of a path, and of all. -/
import Derived.Test.YtkajhdbcnmafcaaGreatDoorVfsLawG
import Derived.Laws.BytesArg
namespace Go.Proofs.YtkajhdbcnmafcaaGreatDoor
open Go.RowKit Go.Deep Go.Maps Ln Pth Vf
set_option linter.unusedSimpArgs false
set_option linter.unusedVariables false
attribute [local go_sem] bt_eq

set_option maxRecDepth 100000 in
/-- a string of a row of bytes -/
theorem conv_RGn {w : World} {A : Option Addr} {c : Nat} {D : T} (h : RG encB 1 w A D) : (convert 23 9 (.slice A D.length c)).run Tryz.prog w = .ok (.string (bs D)) w := by
  cases A with
  | none =>
    have hD : D = [] := by
      cases D with
      | nil => rfl
      | cons b l =>
        obtain ⟨g, o, e, _⟩ := h 0 b rfl
        cases e
    subst hD
    exact conv_nilY w c
  | some a =>
    by_cases hD : D = []
    · subst hD
      rw [run_convert_bytes_string w 23 9 5 _ _ c Tryz.underlying23 Tryz.underlying5 Tryz.underlying9, run_bytesToString w a _ c [] (by
        have := run_loadCells_list (P := Tryz.prog) w a [] (fun j v hj => by simp at hj)
        simpa using this)]
      rfl
    · obtain ⟨y, hy⟩ : ∃ y, D[0]? = some y := ⟨_, List.getElem?_eq_getElem (List.length_pos_iff.2 hD)⟩
      obtain ⟨g, o, e, _, _⟩ := h 0 y hy
      obtain rfl := Option.some.inj e
      rw [run_convert_bytes_arg w 23 5 Tryz.underlying23 Tryz.underlying5 g o D.length c (D.map fun b => (b.toNat : Int)) (by simp) (fun i hi => by
        obtain ⟨g', o', e, _, h1⟩ := h i D[i] (List.getElem?_eq_getElem hi)
        have e0 := Option.some.inj e
        injection e0 with e1 e2
        subst e1 e2
        have := h1 0 _ rfl
        rw [show o + i * 1 + 0 = o + i from by omega] at this
        rw [this]
        simp [hi]) 9 Tryz.underlying9]
      rw [nums_bs]
theorem readS_len {S : St} (hS : WfS S) (p : T) : (readS S p).1.length ≤ 1048576 := by
  have h1 := hS.bytes
  have h2 := hS.b20
  have h3 := dataM_len hS (foundS S p).1
  unfold readS
  split
  · simp
  · split
    · simp
    · dsimp only; omega
theorem listS_len {S : St} (hS : WfS S) (p : T) : (listS S p).1.length ≤ 10000 := by
  have h1 := below_count hS (foundS S p).1
  unfold listS
  split
  · simp
  · split
    · simp
    · dsimp only
      unfold namesM
      refine Nat.le_trans (List.length_filter_le _ _) ?_
      rw [List.length_map]
      exact h1
set_option maxRecDepth 100000 in
set_option maxHeartbeats 16000000 in
theorem same_two (f r : Nat) (S : St) (p : T) (X : AsnN) (hX : FrN X) (w0 w : World) (h : InvN (Two f r S S X) w0.heap.size w0 w) (hS : WfS S) (hck : S.clock ≤ 1000000) (hm : MX w0) (hp : p.length ≤ 1000) :
    Calls Tryz.prog 40 #[.pointer (some ⟨f, 0, none⟩), .pointer (some ⟨r, 0, none⟩), .string (bs p)] w fun e w' => e = .returned (.bool true) ∧ InvN (Two f r S S X) w0.heap.size w0 w' := by
  have HI := hide h
  have HXF := hide hX
  have hmw := hm.below h.below
  obtain ⟨A, c, P, ho⟩ := RS.o h.fst.snd.hs
  have hpl := row_len hS ho.eq
  have HO := hide ho
  have HVS := hide (fun (Z : World) (hb : Below w.heap.size w Z) => (Two.vs h).below (VS.fr f S) hb)
  have HF1 := hide (read_any f S hS p w (Two.vs h) hmw (by omega))
  unfold ReadPost at HF1
  have HR1 := hide (fun (Z : World) (hb : Below w.heap.size w Z) => rRead_any r S A c P p Z (ho.below hb) (by omega) (by omega))
  have HF2 := hide (fun (Z : World) (hb : Below w.heap.size w Z) => list_any f S hS p Z ((Two.vs h).below (VS.fr f S) hb) (hmw.below hb) (by omega))
  unfold ListPost at HF2
  have HR2 := hide (fun (Z : World) (hb : Below w.heap.size w Z) => rList_any r S A c P p Z (ho.below hb) hS (by omega))
  have HK1 := hide (fun (Z : World) (hb : Below w.heap.size w Z) => vkind_any f S p Z ((Two.vs h).below (VS.fr f S) hb) (hmw.below hb) (by omega))
  have HK2 := hide (fun (Z : World) (hb : Below w.heap.size w Z) => rKind_any r S A c P p Z (ho.below hb) (by omega) (by omega))
  have HT1 := hide (fun (Z : World) (hb : Below w.heap.size w Z) => vtime_any f S p Z ((Two.vs h).below (VS.fr f S) hb) (hmw.below hb) (by omega))
  have HT2 := hide (fun (Z : World) (hb : Below w.heap.size w Z) => rTime_any r S A c P p Z (ho.below hb) (by omega) (by omega))
  have HCL := hide (fun (Z : World) (hb : Below w.heap.size w Z) => clock_any f S Z ((Two.vs h).below (VS.fr f S) hb))
  have HAL := hide (fun (Z : World) (hb : Below w.heap.size w Z) => all_any f S hS Z ((Two.vs h).below (VS.fr f S) hb))
  unfold AllPost at HAL
  have hrl := readS_len hS p
  have hll := listS_len hS p
  obtain ⟨D, er⟩ : ∃ D, (readS S p).1 = D := ⟨_, rfl⟩
  obtain ⟨ec, ee⟩ : ∃ D, (readS S p).2 = D := ⟨_, rfl⟩
  obtain ⟨LN, el⟩ : ∃ D, (listS S p).1 = D := ⟨_, rfl⟩
  obtain ⟨lc, ek⟩ : ∃ D, (listS S p).2 = D := ⟨_, rfl⟩
  rw [er, ee] at HF1
  rw [er, ee] at HR1
  rw [el, ek] at HF2
  rw [el, ek] at HR2
  rw [er] at hrl
  rw [el] at hll
  obtain ⟨dl, hdl⟩ : ∃ z, D.length = z := ⟨_, rfl⟩
  have HDL := hide hdl
  obtain ⟨t, ht⟩ : ∃ z, bs D = z := ⟨_, rfl⟩
  have HT := hide ht
  obtain ⟨ln, hln⟩ : ∃ z, LN.length = z := ⟨_, rfl⟩
  have HLN := hide hln
  obtain ⟨n, hn⟩ : ∃ n, P.length = n := ⟨_, rfl⟩
  have HN := hide hn
  rw [hdl] at HR1
  rw [hln] at HR2
  clear er ee el ek ho h hX hm hmw hdl ht hln hn hS
  go_enter Tryz.func40, Tryz.ntmps40
  go_wp2_with fail
  refine HF1.out.mono ?_
  rintro e w1 ⟨⟨v1, rfl, hv1⟩, hb1⟩
  obtain ⟨A1, c1, rfl, hc1, hr1, _, _⟩ := OwnG.slice encB_len hv1
  have HB1 := hide hb1
  rw [HDL.out] at hc1 ⊢
  clear hb1 hv1 HF1
  go_wp2_with fail
  refine (HR1.out w1 HB1.out).mono ?_
  rintro e w2 ⟨⟨A2, c2, rfl, hr2⟩, hb2⟩
  have HB2 := hide (below_up HB1.out hb2 HB1.out.size)
  have HRG1 := hide (hr1.below hb2)
  have HRG2 := hide hr2
  clear hb2 hr1 hr2 HR1
  go_wp2_with fail
  refine (HF2.out w2 HB2.out).mono ?_
  rintro e w3 ⟨⟨v3, rfl, hv3⟩, hb3⟩
  obtain ⟨A3, c3, rfl, hc3, hs3, _⟩ := hv3.slice
  have HB3 := hide (below_up HB2.out hb3 HB2.out.size)
  have HG1 := hide (HRG1.out.below hb3)
  have HG2 := hide (HRG2.out.below hb3)
  have HSR3 := hide hs3
  rw [List.length_map, HLN.out] at hc3 ⊢
  clear hb3 hv3 hs3 HF2 HRG1 HRG2
  go_wp2_with fail
  refine (HR2.out w3 HB3.out).mono ?_
  rintro e w4 ⟨⟨A4, c4, rfl, hs4, hc4⟩, hb4⟩
  have HB4 := hide (below_up HB3.out hb4 HB3.out.size)
  have HS3 := hide (HSR3.out.below hb4)
  have HS4 := hide hs4
  have hw4 : ∀ Z, Below w4.heap.size w4 Z → ((fun Z => Z.cell? ⟨r, 2, none⟩ = some (.slice A n c) ∧ Z.cell? ⟨r, 3, none⟩ = some (.int .i64 S.clock) ∧ (convert 23 9 (.slice A1 dl c1)).run Tryz.prog Z = .ok (.string t) Z ∧ (convert 23 9 (.slice A2 dl c2)).run Tryz.prog Z = .ok (.string t) Z)) Z := fun Z hb => by
    have hz := (HO.out.below (below_up HB4.out hb HB4.out.size)).heap
    rw [HN.out] at hz
    have q1 := (HG1.out.below hb4).below hb
    have q2 := (HG2.out.below hb4).below hb
    have k1 := conv_RGn (c := c1) q1
    have k2 := conv_RGn (c := c2) q2
    rw [HDL.out, HT.out] at k1 k2
    exact ⟨cellOf hz (j := 2) rfl, cellOf hz (j := 3) rfl, k1, k2⟩
  have HQ := hide hw4
  have HSA := hide (fun (Z : World) (hb : Below w4.heap.size w4 Z) => same_any A3 A4 c3 c4 (LN.map bs) (LN.map bs) Z (HS3.out.below hb) (HS4.out.below hb) (by rw [List.length_map]; omega))
  simp only [List.length_map] at HSA
  rw [HLN.out] at HSA
  have HBU := hide (fun (Z : World) (hb : Below w4.heap.size w4 Z) => below_up HB4.out hb HB4.out.size)
  clear hw4 hb4 hs4 hc3 hc4 HSR3 HG1 HG2 HR2
  go_wp2_with fail
  refine wp_region_held_drew (S := (fun Z => Z.cell? ⟨r, 2, none⟩ = some (.slice A n c) ∧ Z.cell? ⟨r, 3, none⟩ = some (.int .i64 S.clock) ∧ (convert 23 9 (.slice A1 dl c1)).run Tryz.prog Z = .ok (.string t) Z ∧ (convert 23 9 (.slice A2 dl c2)).run Tryz.prog Z = .ok (.string t) Z)) (by kernel_rfl) (HQ.out _ (Below.refl w4.heap.size w4).drew) (fun hHeld => ?_)
  refine wpAnyH_tk (i := 0) (oi := _) (v := ?vS0) rfl rfl (by kernel_rfl) (by kernel_rfl) (by kernel_rfl) (fun _ _ _ h => h) (Or.inl ⟨by kernel_rfl, ?yS0⟩) (by assumption) ?rS0
  case yS0 =>
    intro w hSw
    (try dsimp only at hSw)
    go_simp
    try with_reducible rfl
  try simp only [List.setIfInBounds_toArray, List.set_cons_zero, List.set_cons_succ]
  refine wpAnyH_tk (i := 2) (oi := _) (v := ?vS2) rfl rfl (by kernel_rfl) (by kernel_rfl) (by kernel_rfl) (fun _ _ _ h => h) (Or.inl ⟨by kernel_rfl, ?yS2⟩) (by assumption) ?rS2
  case yS2 =>
    intro w hSw
    (try dsimp only at hSw)
    go_simp
    try with_reducible rfl
  try simp only [List.setIfInBounds_toArray, List.set_cons_zero, List.set_cons_succ]
  refine wpAnyH_ready (rs := [1]) (by kernel_rfl) (by simp) ?_
  refine AllReadyH.cons (o := _) rfl (fun K hK => ?_) AllReadyH.nil
  rw [if_pos (by kernel_rfl)]
  go_simp
  have HB40 := hide (Below.refl w4.heap.size w4).drew
  refine (num4_any _ _).mono ?_
  rintro e w' ⟨rfl, rfl⟩
  refine hK.out _ _ (HQ.out _ HB40.out) (fun _ => ?_)
  clear hK K
  try simp only [Act.put, List.setIfInBounds_toArray, List.set_cons_zero, List.set_cons_succ]
  refine wpAnyH_tk (i := 3) (oi := _) (v := ?vS3) rfl rfl (by kernel_rfl) (by kernel_rfl) (by kernel_rfl) (fun _ _ _ h => h) (Or.inl ⟨by kernel_rfl, ?yS3⟩) (by assumption) ?rS3
  case yS3 =>
    intro w hSw
    (try dsimp only at hSw)
    go_simp
    try with_reducible rfl
  try simp only [List.setIfInBounds_toArray, List.set_cons_zero, List.set_cons_succ]
  refine wpAnyH_tk (i := 4) (oi := _) (v := ?vS4) rfl rfl (by kernel_rfl) (by kernel_rfl) (by kernel_rfl) (fun _ _ _ h => h) (Or.inl ⟨by kernel_rfl, ?yS4⟩) (by assumption) ?rS4
  case yS4 =>
    intro w hSw
    (try dsimp only at hSw)
    go_simp
    try with_reducible rfl
  try simp only [List.setIfInBounds_toArray, List.set_cons_zero, List.set_cons_succ]
  refine wpAnyH_tk (i := 5) (oi := _) (v := ?vS5) rfl rfl (by kernel_rfl) (by kernel_rfl) (by kernel_rfl) (fun _ _ _ h => h) (Or.inl ⟨by kernel_rfl, ?yS5⟩) (by assumption) ?rS5
  case yS5 =>
    intro w hSw
    (try dsimp only at hSw)
    go_simp
    try with_reducible rfl
  try simp only [List.setIfInBounds_toArray, List.set_cons_zero, List.set_cons_succ]
  refine wpAnyH_tk (i := 6) (oi := _) (v := ?vS6) rfl rfl (by kernel_rfl) (by kernel_rfl) (by kernel_rfl) (fun _ _ _ h => h) (Or.inl ⟨by kernel_rfl, ?yS6⟩) (by assumption) ?rS6
  case yS6 =>
    intro w hSw
    (try dsimp only at hSw)
    go_simp
    try with_reducible rfl
  try simp only [List.setIfInBounds_toArray, List.set_cons_zero, List.set_cons_succ]
  refine wpAnyH_tk (i := 7) (oi := _) (v := ?vS7) rfl rfl (by kernel_rfl) (by kernel_rfl) (by kernel_rfl) (fun _ _ _ h => h) (Or.inl ⟨by kernel_rfl, ?yS7⟩) (by assumption) ?rS7
  case yS7 =>
    intro w hSw
    (try dsimp only at hSw)
    go_simp
    try with_reducible rfl
  try simp only [List.setIfInBounds_toArray, List.set_cons_zero, List.set_cons_succ]
  refine wpAnyH_tk (i := 8) (oi := _) (v := ?vS8) rfl rfl (by kernel_rfl) (by kernel_rfl) (by kernel_rfl) (fun _ _ _ h => h) (Or.inl ⟨by kernel_rfl, ?yS8⟩) (by assumption) ?rS8
  case yS8 =>
    intro w hSw
    (try dsimp only at hSw)
    go_simp
    try with_reducible rfl
  try simp only [List.setIfInBounds_toArray, List.set_cons_zero, List.set_cons_succ]
  refine wpAnyH_tk (i := 9) (oi := _) (v := ?vS9) rfl rfl (by kernel_rfl) (by kernel_rfl) (by kernel_rfl) (fun _ _ _ h => h) (Or.inl ⟨by kernel_rfl, ?yS9⟩) (by assumption) ?rS9
  case yS9 =>
    intro w hSw
    (try dsimp only at hSw)
    go_simp
    try with_reducible rfl
  try simp only [List.setIfInBounds_toArray, List.set_cons_zero, List.set_cons_succ]
  refine wpAnyH_tk (i := 10) (oi := _) (v := ?vS10) rfl rfl (by kernel_rfl) (by kernel_rfl) (by kernel_rfl) (fun _ _ _ h => h) (Or.inl ⟨by kernel_rfl, ?yS10⟩) (by assumption) ?rS10
  case yS10 =>
    intro w hSw
    (try dsimp only at hSw)
    go_simp
    try with_reducible rfl
  try simp only [List.setIfInBounds_toArray, List.set_cons_zero, List.set_cons_succ]
  refine wpAnyH_tk (i := 11) (oi := _) (v := ?vS11) rfl rfl (by kernel_rfl) (by kernel_rfl) (by kernel_rfl) (fun _ _ _ h => h) (Or.inl ⟨by kernel_rfl, ?yS11⟩) (by assumption) ?rS11
  case yS11 =>
    intro w hSw
    (try dsimp only at hSw)
    go_simp
    try with_reducible rfl
  try simp only [List.setIfInBounds_toArray, List.set_cons_zero, List.set_cons_succ]
  refine wpAnyH_tk (i := 12) (oi := _) (v := ?vS12) rfl rfl (by kernel_rfl) (by kernel_rfl) (by kernel_rfl) (fun _ _ _ h => h) (Or.inl ⟨by kernel_rfl, ?yS12⟩) (by assumption) ?rS12
  case yS12 =>
    intro w hSw
    (try dsimp only at hSw)
    go_simp
    try with_reducible rfl
  try simp only [List.setIfInBounds_toArray, List.set_cons_zero, List.set_cons_succ]
  refine wpAnyH_tk (i := 14) (oi := _) (v := ?vS14) rfl rfl (by kernel_rfl) (by kernel_rfl) (by kernel_rfl) (fun _ _ _ h => h) (Or.inl ⟨by kernel_rfl, ?yS14⟩) (by assumption) ?rS14
  case yS14 =>
    intro w hSw
    (try dsimp only at hSw)
    go_simp
    try with_reducible rfl
  try simp only [List.setIfInBounds_toArray, List.set_cons_zero, List.set_cons_succ]
  refine wpAnyH_ready (rs := [13]) (by kernel_rfl) (by simp) ?_
  refine AllReadyH.cons (o := _) rfl (fun K hK => ?_) AllReadyH.nil
  rw [if_pos (by kernel_rfl)]
  go_simp
  refine (num4_any _ _).mono ?_
  rintro e w' ⟨rfl, rfl⟩
  refine hK.out _ _ (HQ.out _ HB40.out) (fun _ => ?_)
  clear hK K
  try simp only [Act.put, List.setIfInBounds_toArray, List.set_cons_zero, List.set_cons_succ]
  refine wpAnyH_tk (i := 15) (oi := _) (v := ?vS15) rfl rfl (by kernel_rfl) (by kernel_rfl) (by kernel_rfl) (fun _ _ _ h => h) (Or.inl ⟨by kernel_rfl, ?yS15⟩) (by assumption) ?rS15
  case yS15 =>
    intro w hSw
    (try dsimp only at hSw)
    go_simp
    try with_reducible rfl
  try simp only [List.setIfInBounds_toArray, List.set_cons_zero, List.set_cons_succ]
  refine wpAnyH_tk (i := 16) (oi := _) (v := ?vS16) rfl rfl (by kernel_rfl) (by kernel_rfl) (by kernel_rfl) (fun _ _ _ h => h) (Or.inl ⟨by kernel_rfl, ?yS16⟩) (by assumption) ?rS16
  case yS16 =>
    intro w hSw
    (try dsimp only at hSw)
    go_simp
    try with_reducible rfl
  try simp only [List.setIfInBounds_toArray, List.set_cons_zero, List.set_cons_succ]
  refine wpAnyH_tk (i := 17) (oi := _) (v := ?vS17) rfl rfl (by kernel_rfl) (by kernel_rfl) (by kernel_rfl) (fun _ _ _ h => h) (Or.inl ⟨by kernel_rfl, ?yS17⟩) (by assumption) ?rS17
  case yS17 =>
    intro w hSw
    (try dsimp only at hSw)
    go_simp
    try with_reducible rfl
  try simp only [List.setIfInBounds_toArray, List.set_cons_zero, List.set_cons_succ]
  refine wpAnyH_tk (i := 18) (oi := _) (v := ?vS18) rfl rfl (by kernel_rfl) (by kernel_rfl) (by kernel_rfl) (fun _ _ _ h => h) (Or.inl ⟨by kernel_rfl, ?yS18⟩) (by assumption) ?rS18
  case yS18 =>
    intro w hSw
    (try dsimp only at hSw)
    go_simp
    try with_reducible rfl
  try simp only [List.setIfInBounds_toArray, List.set_cons_zero, List.set_cons_succ]
  refine wpAnyH_tk (i := 19) (oi := _) (v := ?vS19) rfl rfl (by kernel_rfl) (by kernel_rfl) (by kernel_rfl) (fun _ _ _ h => h) (Or.inl ⟨by kernel_rfl, ?yS19⟩) (by assumption) ?rS19
  case yS19 =>
    intro w hSw
    (try dsimp only at hSw)
    go_simp
    try with_reducible rfl
  try simp only [List.setIfInBounds_toArray, List.set_cons_zero, List.set_cons_succ]
  refine wpAnyH_ready (rs := [20]) (by kernel_rfl) (by simp) ?_
  refine AllReadyH.cons (o := _) rfl (fun K hK => ?_) AllReadyH.nil
  rw [if_pos (by kernel_rfl)]
  go_simp
  refine (HSA.out _ HB40.out).mono ?_
  rintro e w5 ⟨rfl, hd5⟩
  have HB5 := hide (show Below w4.heap.size w4 w5 from by obtain ⟨nd, rfl⟩ := hd5; exact below_drewN HB40.out nd)
  clear hd5
  refine hK.out _ _ (HQ.out _ HB5.out) (fun _ => ?_)
  clear hK K
  try simp only [Act.put, List.setIfInBounds_toArray, List.set_cons_zero, List.set_cons_succ]
  refine wpAnyH_tk (i := 21) (oi := _) (v := ?vS21) rfl rfl (by kernel_rfl) (by kernel_rfl) (by kernel_rfl) (fun _ _ _ h => h) (Or.inl ⟨by kernel_rfl, ?yS21⟩) (by assumption) ?rS21
  case yS21 =>
    intro w hSw
    (try dsimp only at hSw)
    go_simp
    try with_reducible rfl
  try simp only [List.setIfInBounds_toArray, List.set_cons_zero, List.set_cons_succ]
  refine wpAnyH_tk (i := 22) (oi := _) (v := ?vS22) rfl rfl (by kernel_rfl) (by kernel_rfl) (by kernel_rfl) (fun _ _ _ h => h) (Or.inl ⟨by kernel_rfl, ?yS22⟩) (by assumption) ?rS22
  case yS22 =>
    intro w hSw
    (try dsimp only at hSw)
    go_simp
    try with_reducible rfl
  try simp only [List.setIfInBounds_toArray, List.set_cons_zero, List.set_cons_succ]
  refine wpAnyH_tk (i := 23) (oi := _) (v := ?vS23) rfl rfl (by kernel_rfl) (by kernel_rfl) (by kernel_rfl) (fun _ _ _ h => h) (Or.inl ⟨by kernel_rfl, ?yS23⟩) (by assumption) ?rS23
  case yS23 =>
    intro w hSw
    (try dsimp only at hSw)
    go_simp
    try with_reducible rfl
  try simp only [List.setIfInBounds_toArray, List.set_cons_zero, List.set_cons_succ]
  refine wpAnyH_tk (i := 24) (oi := _) (v := ?vS24) rfl rfl (by kernel_rfl) (by kernel_rfl) (by kernel_rfl) (fun _ _ _ h => h) (Or.inl ⟨by kernel_rfl, ?yS24⟩) (by assumption) ?rS24
  case yS24 =>
    intro w hSw
    (try dsimp only at hSw)
    go_simp
    try with_reducible rfl
  try simp only [List.setIfInBounds_toArray, List.set_cons_zero, List.set_cons_succ]
  refine wpAnyH_tk (i := 26) (oi := _) (v := ?vS26) rfl rfl (by kernel_rfl) (by kernel_rfl) (by kernel_rfl) (fun _ _ _ h => h) (Or.inl ⟨by kernel_rfl, ?yS26⟩) (by assumption) ?rS26
  case yS26 =>
    intro w hSw
    (try dsimp only at hSw)
    go_simp
    try with_reducible rfl
  try simp only [List.setIfInBounds_toArray, List.set_cons_zero, List.set_cons_succ]
  refine wpAnyH_tk (i := 27) (oi := _) (v := ?vS27) rfl rfl (by kernel_rfl) (by kernel_rfl) (by kernel_rfl) (fun _ _ _ h => h) (Or.inl ⟨by kernel_rfl, ?yS27⟩) (by assumption) ?rS27
  case yS27 =>
    intro w hSw
    (try dsimp only at hSw)
    go_simp
    try with_reducible rfl
  try simp only [List.setIfInBounds_toArray, List.set_cons_zero, List.set_cons_succ]
  refine wpAnyH_ready (rs := [25]) (by kernel_rfl) (by simp) ?_
  refine AllReadyH.cons (o := _) rfl (fun K hK => ?_) AllReadyH.nil
  rw [if_pos (by kernel_rfl)]
  go_simp
  refine (HK1.out _ (HBU.out _ HB5.out)).mono ?_
  rintro e w6 ⟨rfl, hb6⟩
  have HB6 := hide (below_up HB5.out hb6 HB5.out.size)
  clear hb6
  refine hK.out _ _ (HQ.out _ HB6.out) (fun _ => ?_)
  clear hK K
  try simp only [Act.put, List.setIfInBounds_toArray, List.set_cons_zero, List.set_cons_succ]
  refine wpAnyH_ready (rs := [28]) (by kernel_rfl) (by simp) ?_
  refine AllReadyH.cons (o := _) rfl (fun K hK => ?_) AllReadyH.nil
  rw [if_pos (by kernel_rfl)]
  go_simp
  refine (HK2.out _ (HBU.out _ HB6.out)).mono ?_
  rintro e w7 ⟨rfl, hb7⟩
  have HB7 := hide (below_up HB6.out hb7 HB6.out.size)
  clear hb7
  refine hK.out _ _ (HQ.out _ HB7.out) (fun _ => ?_)
  clear hK K
  try simp only [Act.put, List.setIfInBounds_toArray, List.set_cons_zero, List.set_cons_succ]
  refine wpAnyH_tk (i := 29) (oi := _) (v := ?vS29) rfl rfl (by kernel_rfl) (by kernel_rfl) (by kernel_rfl) (fun _ _ _ h => h) (Or.inl ⟨by kernel_rfl, ?yS29⟩) (by assumption) ?rS29
  case yS29 =>
    intro w hSw
    (try dsimp only at hSw)
    go_simp
    try with_reducible rfl
  try simp only [List.setIfInBounds_toArray, List.set_cons_zero, List.set_cons_succ]
  refine wpAnyH_tk (i := 30) (oi := _) (v := ?vS30) rfl rfl (by kernel_rfl) (by kernel_rfl) (by kernel_rfl) (fun _ _ _ h => h) (Or.inl ⟨by kernel_rfl, ?yS30⟩) (by assumption) ?rS30
  case yS30 =>
    intro w hSw
    (try dsimp only at hSw)
    go_simp
    try with_reducible rfl
  try simp only [List.setIfInBounds_toArray, List.set_cons_zero, List.set_cons_succ]
  refine wpAnyH_tk (i := 31) (oi := _) (v := ?vS31) rfl rfl (by kernel_rfl) (by kernel_rfl) (by kernel_rfl) (fun _ _ _ h => h) (Or.inl ⟨by kernel_rfl, ?yS31⟩) (by assumption) ?rS31
  case yS31 =>
    intro w hSw
    (try dsimp only at hSw)
    go_simp
    try with_reducible rfl
  try simp only [List.setIfInBounds_toArray, List.set_cons_zero, List.set_cons_succ]
  refine wpAnyH_tk (i := 32) (oi := _) (v := ?vS32) rfl rfl (by kernel_rfl) (by kernel_rfl) (by kernel_rfl) (fun _ _ _ h => h) (Or.inl ⟨by kernel_rfl, ?yS32⟩) (by assumption) ?rS32
  case yS32 =>
    intro w hSw
    (try dsimp only at hSw)
    go_simp
    try with_reducible rfl
  try simp only [List.setIfInBounds_toArray, List.set_cons_zero, List.set_cons_succ]
  refine wpAnyH_tk (i := 33) (oi := _) (v := ?vS33) rfl rfl (by kernel_rfl) (by kernel_rfl) (by kernel_rfl) (fun _ _ _ h => h) (Or.inl ⟨by kernel_rfl, ?yS33⟩) (by assumption) ?rS33
  case yS33 =>
    intro w hSw
    (try dsimp only at hSw)
    go_simp
    try with_reducible rfl
  try simp only [List.setIfInBounds_toArray, List.set_cons_zero, List.set_cons_succ]
  refine wpAnyH_tk (i := 35) (oi := _) (v := ?vS35) rfl rfl (by kernel_rfl) (by kernel_rfl) (by kernel_rfl) (fun _ _ _ h => h) (Or.inl ⟨by kernel_rfl, ?yS35⟩) (by assumption) ?rS35
  case yS35 =>
    intro w hSw
    (try dsimp only at hSw)
    go_simp
    try with_reducible rfl
  try simp only [List.setIfInBounds_toArray, List.set_cons_zero, List.set_cons_succ]
  refine wpAnyH_tk (i := 36) (oi := _) (v := ?vS36) rfl rfl (by kernel_rfl) (by kernel_rfl) (by kernel_rfl) (fun _ _ _ h => h) (Or.inl ⟨by kernel_rfl, ?yS36⟩) (by assumption) ?rS36
  case yS36 =>
    intro w hSw
    (try dsimp only at hSw)
    go_simp
    try with_reducible rfl
  try simp only [List.setIfInBounds_toArray, List.set_cons_zero, List.set_cons_succ]
  refine wpAnyH_ready (rs := [34]) (by kernel_rfl) (by simp) ?_
  refine AllReadyH.cons (o := _) rfl (fun K hK => ?_) AllReadyH.nil
  rw [if_pos (by kernel_rfl)]
  go_simp
  refine (HT1.out _ (HBU.out _ HB7.out)).mono ?_
  rintro e w8a ⟨rfl, hb8⟩
  have HB8a := hide (below_up HB7.out hb8 HB7.out.size)
  clear hb8
  refine hK.out _ _ (HQ.out _ HB8a.out) (fun _ => ?_)
  clear hK K
  try simp only [Act.put, List.setIfInBounds_toArray, List.set_cons_zero, List.set_cons_succ]
  refine wpAnyH_ready (rs := [37]) (by kernel_rfl) (by simp) ?_
  refine AllReadyH.cons (o := _) rfl (fun K hK => ?_) AllReadyH.nil
  rw [if_pos (by kernel_rfl)]
  go_simp
  refine (HT2.out _ (HBU.out _ HB8a.out)).mono ?_
  rintro e w8 ⟨rfl, hb8⟩
  have HB8 := hide (below_up HB8a.out hb8 HB8a.out.size)
  clear hb8
  refine hK.out _ _ (HQ.out _ HB8.out) (fun _ => ?_)
  clear hK K
  try simp only [Act.put, List.setIfInBounds_toArray, List.set_cons_zero, List.set_cons_succ]
  refine wpAnyH_tk (i := 38) (oi := _) (v := ?vS38) rfl rfl (by kernel_rfl) (by kernel_rfl) (by kernel_rfl) (fun _ _ _ h => h) (Or.inl ⟨by kernel_rfl, ?yS38⟩) (by assumption) ?rS38
  case yS38 =>
    intro w hSw
    (try dsimp only at hSw)
    go_simp
    try with_reducible rfl
  try simp only [List.setIfInBounds_toArray, List.set_cons_zero, List.set_cons_succ]
  refine wpAnyH_tk (i := 39) (oi := _) (v := ?vS39) rfl rfl (by kernel_rfl) (by kernel_rfl) (by kernel_rfl) (fun _ _ _ h => h) (Or.inl ⟨by kernel_rfl, ?yS39⟩) (by assumption) ?rS39
  case yS39 =>
    intro w hSw
    (try dsimp only at hSw)
    go_simp
    try with_reducible rfl
  try simp only [List.setIfInBounds_toArray, List.set_cons_zero, List.set_cons_succ]
  refine wpAnyH_tk (i := 40) (oi := _) (v := ?vS40) rfl rfl (by kernel_rfl) (by kernel_rfl) (by kernel_rfl) (fun _ _ _ h => h) (Or.inl ⟨by kernel_rfl, ?yS40⟩) (by assumption) ?rS40
  case yS40 =>
    intro w hSw
    (try dsimp only at hSw)
    go_simp
    try with_reducible rfl
  try simp only [List.setIfInBounds_toArray, List.set_cons_zero, List.set_cons_succ]
  refine wpAnyH_tk (i := 41) (oi := _) (v := ?vS41) rfl rfl (by kernel_rfl) (by kernel_rfl) (by kernel_rfl) (fun _ _ _ h => h) (Or.inl ⟨by kernel_rfl, ?yS41⟩) (by assumption) ?rS41
  case yS41 =>
    intro w hSw
    (try dsimp only at hSw)
    go_simp
    try with_reducible rfl
  try simp only [List.setIfInBounds_toArray, List.set_cons_zero, List.set_cons_succ]
  refine wpAnyH_tk (i := 43) (oi := _) (v := ?vS43) rfl rfl (by kernel_rfl) (by kernel_rfl) (by kernel_rfl) (fun _ _ _ h => h) (Or.inl ⟨by kernel_rfl, ?yS43⟩) (by assumption) ?rS43
  case yS43 =>
    intro w hSw
    (try dsimp only at hSw)
    go_simp
    try with_reducible rfl
  try simp only [List.setIfInBounds_toArray, List.set_cons_zero, List.set_cons_succ]
  refine wpAnyH_tk (i := 44) (oi := _) (v := ?vS44) rfl rfl (by kernel_rfl) (by kernel_rfl) (by kernel_rfl) (fun _ _ _ h => h) (Or.inl ⟨by kernel_rfl, ?yS44⟩) (by assumption) ?rS44
  case yS44 =>
    intro w hSw
    (try dsimp only at hSw)
    go_simp
    try with_reducible rfl
  try simp only [List.setIfInBounds_toArray, List.set_cons_zero, List.set_cons_succ]
  refine wpAnyH_tk (i := 45) (oi := _) (v := ?vS45) rfl rfl (by kernel_rfl) (by kernel_rfl) (by kernel_rfl) (fun _ _ _ h => h) (Or.inl ⟨by kernel_rfl, ?yS45⟩) (by assumption) ?rS45
  case yS45 =>
    intro w hSw
    (try dsimp only at hSw)
    go_simp
    try with_reducible rfl
  try simp only [List.setIfInBounds_toArray, List.set_cons_zero, List.set_cons_succ]
  refine wpAnyH_tk (i := 46) (oi := _) (v := ?vS46) rfl rfl (by kernel_rfl) (by kernel_rfl) (by kernel_rfl) (fun _ _ _ h => h) (Or.inl ⟨by kernel_rfl, ?yS46⟩) (by assumption) ?rS46
  case yS46 =>
    intro w hSw
    (try dsimp only at hSw)
    go_simp
    try with_reducible rfl
  try simp only [List.setIfInBounds_toArray, List.set_cons_zero, List.set_cons_succ]
  refine wpAnyH_ready (rs := [42]) (by kernel_rfl) (by simp) ?_
  refine AllReadyH.cons (o := _) rfl (fun K hK => ?_) AllReadyH.nil
  rw [if_pos (by kernel_rfl)]
  go_simp
  refine (HCL.out _ (HBU.out _ HB8.out)).mono ?_
  rintro e w' ⟨rfl, rfl⟩
  refine hK.out _ _ (HQ.out _ HB8.out) (fun _ => ?_)
  clear hK K
  try simp only [Act.put, List.setIfInBounds_toArray, List.set_cons_zero, List.set_cons_succ]
  refine wpAnyH_tk (i := 47) (oi := _) (v := ?vS47) rfl rfl (by kernel_rfl) (by kernel_rfl) (by kernel_rfl) (fun _ _ _ h => h) (Or.inl ⟨by kernel_rfl, ?yS47⟩) (by assumption) ?rS47
  case yS47 =>
    intro w hSw
    (try dsimp only at hSw)
    go_simp
    try with_reducible rfl
  try simp only [List.setIfInBounds_toArray, List.set_cons_zero, List.set_cons_succ]
  refine wpAnyH_tk (i := 48) (oi := _) (v := ?vS48) rfl rfl (by kernel_rfl) (by kernel_rfl) (by kernel_rfl) (fun _ _ _ h => h) (Or.inl ⟨by kernel_rfl, ?yS48⟩) (by assumption) ?rS48
  case yS48 =>
    intro w hSw
    (try dsimp only at hSw)
    go_simp
    try with_reducible rfl
  try simp only [List.setIfInBounds_toArray, List.set_cons_zero, List.set_cons_succ]
  refine wpAnyH_tk (i := 49) (oi := _) (v := ?vS49) rfl rfl (by kernel_rfl) (by kernel_rfl) (by kernel_rfl) (fun _ _ _ h => h) (Or.inl ⟨by kernel_rfl, ?yS49⟩) (by assumption) ?rS49
  case yS49 =>
    intro w hSw
    (try dsimp only at hSw)
    go_simp
    try with_reducible rfl
  try simp only [List.setIfInBounds_toArray, List.set_cons_zero, List.set_cons_succ]
  refine wpAnyH_tk (i := 50) (oi := _) (v := ?vS50) rfl rfl (by kernel_rfl) (by kernel_rfl) (by kernel_rfl) (fun _ _ _ h => h) (Or.inl ⟨by kernel_rfl, ?yS50⟩) (by assumption) ?rS50
  case yS50 =>
    intro w hSw
    (try dsimp only at hSw)
    go_simp
    try with_reducible rfl
  try simp only [List.setIfInBounds_toArray, List.set_cons_zero, List.set_cons_succ]
  refine wpAnyH_tk (i := 52) (oi := _) (v := ?vS52) rfl rfl (by kernel_rfl) (by kernel_rfl) (by kernel_rfl) (fun _ _ _ h => h) (Or.inl ⟨by kernel_rfl, ?yS52⟩) (by assumption) ?rS52
  case yS52 =>
    intro w hSw
    (try dsimp only at hSw)
    go_simp
    try with_reducible rfl
  try simp only [List.setIfInBounds_toArray, List.set_cons_zero, List.set_cons_succ]
  refine wpAnyH_tk (i := 53) (oi := _) (v := ?vS53) rfl rfl (by kernel_rfl) (by kernel_rfl) (by kernel_rfl) (fun _ _ _ h => h) (Or.inl ⟨by kernel_rfl, ?yS53⟩) (by assumption) ?rS53
  case yS53 =>
    intro w hSw
    (try dsimp only at hSw)
    go_simp
    try with_reducible rfl
  try simp only [List.setIfInBounds_toArray, List.set_cons_zero, List.set_cons_succ]
  refine wpAnyH_tk (i := 54) (oi := _) (v := ?vS54) rfl rfl (by kernel_rfl) (by kernel_rfl) (by kernel_rfl) (fun _ _ _ h => h) (Or.inl ⟨by kernel_rfl, ?yS54⟩) (by assumption) ?rS54
  case yS54 =>
    intro w hSw
    (try dsimp only at hSw)
    go_simp
    try with_reducible rfl
  try simp only [List.setIfInBounds_toArray, List.set_cons_zero, List.set_cons_succ]
  refine wpAnyH_tk (i := 55) (oi := _) (v := ?vS55) rfl rfl (by kernel_rfl) (by kernel_rfl) (by kernel_rfl) (fun _ _ _ h => h) (Or.inl ⟨by kernel_rfl, ?yS55⟩) (by assumption) ?rS55
  case yS55 =>
    intro w hSw
    (try dsimp only at hSw)
    go_simp
    try with_reducible rfl
  try simp only [List.setIfInBounds_toArray, List.set_cons_zero, List.set_cons_succ]
  refine wpAnyH_ready (rs := [51]) (by kernel_rfl) (by simp) ?_
  refine AllReadyH.cons (o := _) rfl (fun K hK => ?_) AllReadyH.nil
  rw [if_pos (by kernel_rfl)]
  go_simp
  refine (HAL.out _ (HBU.out _ HB8.out)).mono ?_
  rintro e w8c ⟨⟨A5, c5, P5, rfl, hc5, hn5, hs5⟩, hb8⟩
  have HB8c := hide (below_up HB8.out hb8 HB8.out.size)
  have ho5 := HO.out.below (HBU.out _ HB8c.out)
  have hl5 : P5.length = n := by rw [← stripN_len, hs5, HO.out.eq, stripN_len, HN.out]
  have hsm5 := same4_any A5 A c5 c P5 P w8c hn5.rg ho5.rg (fun z hz => ⟨(hn5.dat z hz).1, (hn5.dat z hz).2.1⟩) (fun z hz => ⟨ho5.dat z hz, ho5.lt z hz⟩) (by rw [hl5, ← HN.out]; omega) (hs5.trans HO.out.eq)
  rw [hl5, HN.out] at hsm5
  have HSM5 := hide hsm5
  rw [hl5]
  clear hc5 hn5 hs5 hb8 ho5 hl5 hsm5
  refine hK.out _ _ (HQ.out _ HB8c.out) (fun _ => ?_)
  clear hK K
  try simp only [Act.put, List.setIfInBounds_toArray, List.set_cons_zero, List.set_cons_succ]
  refine wpAnyH_ready (rs := [56]) (by kernel_rfl) (by simp) ?_
  refine AllReadyH.cons (o := _) rfl (fun K hK => ?_) AllReadyH.nil
  rw [if_pos (by kernel_rfl)]
  go_simp
  refine HSM5.out.mono ?_
  rintro e w9 ⟨rfl, hb9⟩
  have HB9 := hide (below_up HB8c.out hb9 HB8c.out.size)
  clear hb9
  refine hK.out _ _ (HQ.out _ HB9.out) (fun _ => ?_)
  clear hK K
  try simp only [Act.put, List.setIfInBounds_toArray, List.set_cons_zero, List.set_cons_succ]
  refine wpAnyH_tk (i := 57) (oi := _) (v := ?vS57) rfl rfl (by kernel_rfl) (by kernel_rfl) (by kernel_rfl) (fun _ _ _ h => h) (Or.inl ⟨by kernel_rfl, ?yS57⟩) (by assumption) ?rS57
  case yS57 =>
    intro w hSw
    (try dsimp only at hSw)
    go_simp
    try with_reducible rfl
  try simp only [List.setIfInBounds_toArray, List.set_cons_zero, List.set_cons_succ]
  refine wpAnyH_tk (i := 58) (oi := _) (v := ?vS58) rfl rfl (by kernel_rfl) (by kernel_rfl) (by kernel_rfl) (fun _ _ _ h => h) (Or.inl ⟨by kernel_rfl, ?yS58⟩) (by assumption) ?rS58
  case yS58 =>
    intro w hSw
    (try dsimp only at hSw)
    go_simp
    try with_reducible rfl
  try simp only [List.setIfInBounds_toArray, List.set_cons_zero, List.set_cons_succ]
  refine wpAnyH_done (by kernel_rfl) ?_ _
  have HFIN := hide (HI.out.step (Two.fr f r S S HXF.out) (HBU.out _ HB9.out) (Nat.le_refl _))
  go_wp2
  go_ret
  exact ⟨by simp, HFIN.out⟩
end Go.Proofs.YtkajhdbcnmafcaaGreatDoor
