/- Walks of law4's Big and of the reference's SameEntries. -/
import Derived.Test.YtkajhdbcnmafcaaGreatDoorVfsDoA
import Derived.Test.YtkajhdbcnmafcaaGreatDoorVfsWalkK
import Derived.Test.YtkajhdbcnmafcaaGreatDoorHeld
import Derived.Laws.BytesArg
namespace Go.Proofs.YtkajhdbcnmafcaaGreatDoor
open Go.RowKit Go.Deep Go.Maps Ln Pth Vf
set_option linter.unusedSimpArgs false
set_option linter.unusedVariables false
attribute [local go_sem] bt_eq

/-- a call that is not too great -/
def okA (x : Ac4) : Bool := decide (x.p.size ≤ 300) && decide (x.q.size ≤ 300) && decide (x.b.length ≤ 2000)
def bigF (L : List Ac4) : Bool := !(L.all okA && decide (L.length ≤ 60))
set_option maxRecDepth 100000 in
set_option maxHeartbeats 2000000 in
theorem big_any (A : Option Addr) (c : Nat) (L : List Ac4) (w : World) (h : RG encA4 5 w A L) (hl : L.length ≤ 9223372036854775807) (hs : ∀ x ∈ L, x.p.size ≤ 9223372036854775807 ∧ x.q.size ≤ 9223372036854775807 ∧ x.b.length ≤ 9223372036854775807) :
    Calls Tryz.prog 12 #[.slice A L.length c] w fun e w' => e = .returned (.bool (bigF L)) ∧ w = w' := by
  have HR := hide h
  have HS := hide hs
  obtain ⟨n, hn⟩ : ∃ n, L.length = n := ⟨_, rfl⟩
  have HN := hide hn
  rw [hn] at hl ⊢
  clear h hs hn
  go_enter Tryz.func12, Tryz.ntmps12
  go_wp2
  go_loopw [3] (fun v3 wr => ∃ k : Nat, v3 = .int .i64 k ∧ k ≤ n ∧ Hid ((L.take k).all okA = true) ∧ w = wr) (fun v3 _ => n - (intOf v3).toNat)
  case atStart => exact ⟨0, rfl, by omega, rfl, rfl⟩
  case round =>
    obtain ⟨k, rfl, hk, HOK, rfl⟩ := hrel
    by_cases hlt : k < n
    · obtain ⟨x, hx⟩ : ∃ x, L[k]? = some x := ⟨L[k]'(by have := HN.out; omega), List.getElem?_eq_getElem _⟩
      obtain ⟨gs, o, rfl, hgs, hc⟩ := HR.out k x hx
      obtain ⟨z1, z2, z3⟩ := HS.out x (List.mem_of_getElem? hx)
      have hc1 : w.cell? ⟨gs, o + k * 5 + 1, none⟩ = some (.string x.p) := hc 1 _ rfl
      have hc2 : w.cell? ⟨gs, o + k * 5 + 2, none⟩ = some (.string x.q) := hc 2 _ rfl
      have hc3 : w.cell? ⟨gs, o + k * 5 + 3, none⟩ = some (.slice x.A x.b.length x.c) := hc 3 _ rfl
      have b1 : (k : Int) < (n : Int) := by omega
      have HX := hide hx
      obtain ⟨ps, hps⟩ : ∃ s, x.p = s := ⟨_, rfl⟩
      obtain ⟨qs, hqs⟩ : ∃ s, x.q = s := ⟨_, rfl⟩
      obtain ⟨bl, hbl⟩ : ∃ s, x.b.length = s := ⟨_, rfl⟩
      rw [hps] at hc1 z1
      rw [hqs] at hc2 z2
      rw [hbl] at hc3 z3
      have HOX := hide (show okA x = (decide (ps.size ≤ 300) && decide (qs.size ≤ 300) && decide (bl ≤ 2000)) by unfold okA; rw [hps, hqs, hbl])
      have HBAD := hide (fun (h : okA x = false) => show bigF L = true from by
        unfold bigF
        have : L.all okA = false := by
          rw [List.all_eq_false]
          exact ⟨x, List.mem_of_getElem? HX.out, by rw [h]; simp⟩
        rw [this]
        rfl)
      clear hc hx hgs hps hqs hbl
      by_cases p3 : 300 < ps.size
      · have pi : (300 : Int) < (ps.size : Int) := by omega
        have HE := hide (HBAD.out (by rw [HOX.out]; simp; omega))
        go_wp2
        go_ret
        rw [HE.out]
        exact ⟨rfl, rfl⟩
      have pi : ¬ (300 : Int) < (ps.size : Int) := by omega
      by_cases q3 : 300 < qs.size
      · have qi : (300 : Int) < (qs.size : Int) := by omega
        have HE := hide (HBAD.out (by rw [HOX.out]; simp; omega))
        go_wp2
        go_ret
        rw [HE.out]
        exact ⟨rfl, rfl⟩
      have qi : ¬ (300 : Int) < (qs.size : Int) := by omega
      by_cases b3 : 2000 < bl
      · have bi : (2000 : Int) < (bl : Int) := by omega
        have HE := hide (HBAD.out (by rw [HOX.out]; simp; omega))
        go_wp2
        go_ret
        rw [HE.out]
        exact ⟨rfl, rfl⟩
      have bi : ¬ (2000 : Int) < (bl : Int) := by omega
      have HE := hide (show okA x = true by rw [HOX.out]; simp; omega)
      go_wp2
      go_roundw
      case rel =>
        refine ⟨k + 1, by go_num, by omega, ?_, trivial⟩
        show (L.take (k + 1)).all okA = true
        rw [List.take_add_one, HX.out, List.all_append, HOK.out]
        simp [HE.out]
      case measure => simp [intOf]; omega
    · obtain rfl : n = k := by omega
      have htk : L.take n = L := List.take_of_length_le (by have := HN.out; omega)
      rw [htk] at HOK
      by_cases n6 : 60 < n
      · have ni : (60 : Int) < (n : Int) := by omega
        have HE := hide (show bigF L = true by unfold bigF; rw [HN.out, decide_eq_false (by omega)]; simp)
        clear htk
        go_wp2
        go_ret
        rw [HE.out]
        exact ⟨by simp, rfl⟩
      · have ni : ¬ (60 : Int) < (n : Int) := by omega
        have HE := hide (show bigF L = false by unfold bigF; rw [HOK.out, HN.out, decide_eq_true (by omega)]; rfl)
        clear htk
        go_wp2
        go_ret
        rw [HE.out]
        exact ⟨by simp, rfl⟩
theorem nums_map : ∀ D : T, (D.map fun b => (b.toNat : Int)).map (fun n => UInt8.ofNat n.toNat) = D
  | [] => rfl
  | b :: D => by
    rw [List.map_cons, List.map_cons, nums_map D]
    congr 1
    simp
theorem nums_bs (D : T) : strOfNums (D.map fun b => (b.toNat : Int)) = bs D := by
  show (⟨((D.map fun b => (b.toNat : Int)).map fun n => UInt8.ofNat n.toNat).toArray⟩ : ByteArray) = ⟨D.toArray⟩
  rw [nums_map]
set_option maxRecDepth 100000 in
/-- a string of a row of bytes -/
theorem conv_RG {w : World} {A : Option Addr} {c : Nat} {D : T} (h : RG encB 1 w A D) (hc : D.length ≤ c) : (convert 23 9 (.slice A D.length c)).run Tryz.prog w = .ok (.string (bs D)) w := by
  cases A with
  | none =>
    have hD : D = [] := by
      cases D with
      | nil => rfl
      | cons b l =>
        obtain ⟨g, o, e, _⟩ := h 0 b rfl
        cases e
    subst hD
    exact conv_nilY w c
  | some a =>
    by_cases hD : D = []
    · subst hD
      rw [run_convert_bytes_string w 23 9 5 _ _ c Tryz.underlying23 Tryz.underlying5 Tryz.underlying9, run_bytesToString w a _ c [] (by
        have := run_loadCells_list (P := Tryz.prog) w a [] (fun j v hj => by simp at hj)
        simpa using this)]
      rfl
    · obtain ⟨y, hy⟩ : ∃ y, D[0]? = some y := ⟨_, List.getElem?_eq_getElem (List.length_pos_iff.2 hD)⟩
      obtain ⟨g, o, e, _, _⟩ := h 0 y hy
      obtain rfl := Option.some.inj e
      rw [run_convert_bytes_arg w 23 5 Tryz.underlying23 Tryz.underlying5 g o D.length c (D.map fun b => (b.toNat : Int)) (by simp) (fun i hi => by
        obtain ⟨g', o', e, _, h1⟩ := h i D[i] (List.getElem?_eq_getElem hi)
        have e0 := Option.some.inj e
        injection e0 with e1 e2
        subst e1 e2
        have := h1 0 _ rfl
        rw [show o + i * 1 + 0 = o + i from by omega] at this
        rw [this]
        simp [hi]) 9 Tryz.underlying9]
      rw [nums_bs]
set_option maxRecDepth 100000 in
set_option maxHeartbeats 4000000 in
theorem same4_any (A B : Option Addr) (c d : Nat) (P Q : List NV) (w : World) (hP : RG encE 4 w A P) (hQ : RG encE 4 w B Q) (dP : ∀ x ∈ P, RG encB 1 w x.2.A x.2.nd.data ∧ x.2.nd.data.length ≤ x.2.c) (dQ : ∀ x ∈ Q, RG encB 1 w x.2.A x.2.nd.data ∧ x.2.nd.data.length ≤ x.2.c) (hl : P.length ≤ 1000000) (h : stripN P = stripN Q) :
    Calls Tryz.prog 24 #[.slice A P.length c, .slice B Q.length d] w fun e w' => e = .returned (.bool true) ∧ Below w.heap.size w w' := by
  have hlen : Q.length = P.length := by rw [← stripN_len Q, ← h, stripN_len]
  have HP := hide hP
  have HQ := hide hQ
  have HDP := hide dP
  have HDQ := hide dQ
  have H := hide h
  obtain ⟨n, hn⟩ : ∃ n, P.length = n := ⟨_, rfl⟩
  have HN := hide hn
  have HL := hide hlen
  rw [hlen, hn]
  rw [hn] at hl
  clear hP hQ dP dQ h hlen hn
  go_enter Tryz.func24, Tryz.ntmps24
  go_wp2
  go_loopw [5] (fun v5 wr => ∃ (k q : Nat), v5 = .int .i64 k ∧ k ≤ n ∧ wr = w.drewN q) (fun v5 _ => n - (intOf v5).toNat)
  case atStart => exact ⟨0, 0, rfl, by omega, rfl⟩
  case round =>
    obtain ⟨k, q, rfl, hk, rfl⟩ := hrel
    by_cases hlt : k < n
    · obtain ⟨x, hx⟩ : ∃ x, P[k]? = some x := ⟨P[k]'(by have := HN.out; omega), List.getElem?_eq_getElem _⟩
      obtain ⟨y, hy⟩ : ∃ x, Q[k]? = some x := ⟨Q[k]'(by have := HN.out; have := HL.out; omega), List.getElem?_eq_getElem _⟩
      have hxy : (x.1, x.2.nd) = (y.1, y.2.nd) := by
        have h1 : (stripN P)[k]? = (stripN Q)[k]? := by rw [H.out]
        unfold stripN at h1
        rw [List.getElem?_map, List.getElem?_map, hx, hy] at h1
        injection h1
      have e1 : y.1 = x.1 := (congrArg Prod.fst hxy).symm
      have e2 : y.2.nd = x.2.nd := (congrArg Prod.snd hxy).symm
      obtain ⟨g1, o1, rfl, hg1, hc1⟩ := HP.out k x hx
      obtain ⟨g2, o2, rfl, hg2, hc2⟩ := HQ.out k y hy
      have p0 : w.cell? ⟨g1, o1 + k * 4, none⟩ = some (.string x.1) := by have := hc1 0 _ rfl; simpa using this
      have p1 : w.cell? ⟨g1, o1 + k * 4 + 1, none⟩ = some (.bool x.2.nd.dir) := hc1 1 _ rfl
      have p2 : w.cell? ⟨g1, o1 + k * 4 + 2, none⟩ = some (.slice x.2.A x.2.nd.data.length x.2.c) := hc1 2 _ rfl
      have p3 : w.cell? ⟨g1, o1 + k * 4 + 3, none⟩ = some (.int .i64 x.2.nd.time) := hc1 3 _ rfl
      have q0 : w.cell? ⟨g2, o2 + k * 4, none⟩ = some (.string y.1) := by have := hc2 0 _ rfl; simpa using this
      have q1 : w.cell? ⟨g2, o2 + k * 4 + 1, none⟩ = some (.bool y.2.nd.dir) := hc2 1 _ rfl
      have q2 : w.cell? ⟨g2, o2 + k * 4 + 2, none⟩ = some (.slice y.2.A y.2.nd.data.length y.2.c) := hc2 2 _ rfl
      have q3 : w.cell? ⟨g2, o2 + k * 4 + 3, none⟩ = some (.int .i64 y.2.nd.time) := hc2 3 _ rfl
      obtain ⟨d1, d2⟩ := HDP.out x (List.mem_of_getElem? hx)
      obtain ⟨d3, d4⟩ := HDQ.out y (List.mem_of_getElem? hy)
      rw [e1] at q0
      rw [e2] at q1 q2 q3 d3 d4
      have r1 := fun j => conv_RG (w := w.drewN j) (c := x.2.c) (d1.drew ⟨j, rfl⟩) d2
      have r2 := fun j => conv_RG (w := w.drewN j) (c := y.2.c) (d3.drew ⟨j, rfl⟩) d4
      obtain ⟨s, hs⟩ : ∃ z, x.1 = z := ⟨_, rfl⟩
      obtain ⟨dr, hdr⟩ : ∃ z, x.2.nd.dir = z := ⟨_, rfl⟩
      obtain ⟨tm, htm⟩ : ∃ z, x.2.nd.time = z := ⟨_, rfl⟩
      obtain ⟨D, hD⟩ : ∃ z, x.2.nd.data = z := ⟨_, rfl⟩
      obtain ⟨dl, hdl⟩ : ∃ z, D.length = z := ⟨_, rfl⟩
      obtain ⟨t, ht⟩ : ∃ z, bs D = z := ⟨_, rfl⟩
      obtain ⟨A1, hA1⟩ : ∃ z, x.2.A = z := ⟨_, rfl⟩
      obtain ⟨c1, hc1'⟩ : ∃ z, x.2.c = z := ⟨_, rfl⟩
      obtain ⟨A2, hA2⟩ : ∃ z, y.2.A = z := ⟨_, rfl⟩
      obtain ⟨c2, hc2'⟩ : ∃ z, y.2.c = z := ⟨_, rfl⟩
      rw [hs] at p0 q0
      rw [hdr] at p1 q1
      rw [htm] at p3 q3
      rw [hD, hdl] at p2 q2
      simp only [hD, hdl, ht, hA1, hc1'] at r1
      simp only [hD, hdl, ht, hA2, hc2'] at r2
      rw [hA1, hc1'] at p2
      rw [hA2, hc2'] at q2
      have HS := hide (fun (j : Nat) => show ((fun W => W.cell? ⟨g1, o1 + k * 4, none⟩ = some (.string s) ∧ W.cell? ⟨g1, o1 + k * 4 + 1, none⟩ = some (.bool dr) ∧ W.cell? ⟨g1, o1 + k * 4 + 2, none⟩ = some (.slice A1 dl c1) ∧ W.cell? ⟨g1, o1 + k * 4 + 3, none⟩ = some (.int .i64 tm) ∧ W.cell? ⟨g2, o2 + k * 4, none⟩ = some (.string s) ∧ W.cell? ⟨g2, o2 + k * 4 + 1, none⟩ = some (.bool dr) ∧ W.cell? ⟨g2, o2 + k * 4 + 2, none⟩ = some (.slice A2 dl c2) ∧ W.cell? ⟨g2, o2 + k * 4 + 3, none⟩ = some (.int .i64 tm) ∧ (convert 23 9 (.slice A1 dl c1)).run Tryz.prog W = .ok (.string t) W ∧ (convert 23 9 (.slice A2 dl c2)).run Tryz.prog W = .ok (.string t) W)) (w.drewN j) from ⟨p0, p1, p2, p3, q0, q1, q2, q3, r1 j, r2 j⟩)
      have b1 : (k : Int) < (n : Int) := by omega
      clear hx hy hxy e1 e2 hg1 hg2 hc1 hc2 p0 p1 p2 p3 q0 q1 q2 q3 d1 d2 d3 d4 r1 r2 hs hdr htm hD hdl ht hA1 hc1' hA2 hc2'
      go_wp2_with fail
      refine wp_region_held_drew (S := (fun W => W.cell? ⟨g1, o1 + k * 4, none⟩ = some (.string s) ∧ W.cell? ⟨g1, o1 + k * 4 + 1, none⟩ = some (.bool dr) ∧ W.cell? ⟨g1, o1 + k * 4 + 2, none⟩ = some (.slice A1 dl c1) ∧ W.cell? ⟨g1, o1 + k * 4 + 3, none⟩ = some (.int .i64 tm) ∧ W.cell? ⟨g2, o2 + k * 4, none⟩ = some (.string s) ∧ W.cell? ⟨g2, o2 + k * 4 + 1, none⟩ = some (.bool dr) ∧ W.cell? ⟨g2, o2 + k * 4 + 2, none⟩ = some (.slice A2 dl c2) ∧ W.cell? ⟨g2, o2 + k * 4 + 3, none⟩ = some (.int .i64 tm) ∧ (convert 23 9 (.slice A1 dl c1)).run Tryz.prog W = .ok (.string t) W ∧ (convert 23 9 (.slice A2 dl c2)).run Tryz.prog W = .ok (.string t) W)) (by kernel_rfl) (HS.out (q + 1)) (fun hHeld => ?_)
      refine wpAnyH_tk (i := 0) (oi := _) (v := ?vS0) rfl rfl (by kernel_rfl) (by kernel_rfl) (by kernel_rfl) (fun _ _ _ h => h) (Or.inl ⟨by kernel_rfl, ?yS0⟩) (by assumption) ?rS0
      case yS0 =>
        intro w hSw
        (try dsimp only at hSw)
        go_simp
        try with_reducible rfl
      try simp only [List.setIfInBounds_toArray, List.set_cons_zero, List.set_cons_succ]
      refine wpAnyH_tk (i := 1) (oi := _) (v := ?vS1) rfl rfl (by kernel_rfl) (by kernel_rfl) (by kernel_rfl) (fun _ _ _ h => h) (Or.inl ⟨by kernel_rfl, ?yS1⟩) (by assumption) ?rS1
      case yS1 =>
        intro w hSw
        (try dsimp only at hSw)
        go_simp
        try with_reducible rfl
      try simp only [List.setIfInBounds_toArray, List.set_cons_zero, List.set_cons_succ]
      refine wpAnyH_tk (i := 2) (oi := _) (v := ?vS2) rfl rfl (by kernel_rfl) (by kernel_rfl) (by kernel_rfl) (fun _ _ _ h => h) (Or.inl ⟨by kernel_rfl, ?yS2⟩) (by assumption) ?rS2
      case yS2 =>
        intro w hSw
        (try dsimp only at hSw)
        go_simp
        try with_reducible rfl
      try simp only [List.setIfInBounds_toArray, List.set_cons_zero, List.set_cons_succ]
      refine wpAnyH_tk (i := 3) (oi := _) (v := ?vS3) rfl rfl (by kernel_rfl) (by kernel_rfl) (by kernel_rfl) (fun _ _ _ h => h) (Or.inl ⟨by kernel_rfl, ?yS3⟩) (by assumption) ?rS3
      case yS3 =>
        intro w hSw
        (try dsimp only at hSw)
        go_simp
        try with_reducible rfl
      try simp only [List.setIfInBounds_toArray, List.set_cons_zero, List.set_cons_succ]
      refine wpAnyH_tk (i := 4) (oi := _) (v := ?vS4) rfl rfl (by kernel_rfl) (by kernel_rfl) (by kernel_rfl) (fun _ _ _ h => h) (Or.inl ⟨by kernel_rfl, ?yS4⟩) (by assumption) ?rS4
      case yS4 =>
        intro w hSw
        (try dsimp only at hSw)
        go_simp
        try with_reducible rfl
      try simp only [List.setIfInBounds_toArray, List.set_cons_zero, List.set_cons_succ]
      refine wpAnyH_tk (i := 5) (oi := _) (v := ?vS5) rfl rfl (by kernel_rfl) (by kernel_rfl) (by kernel_rfl) (fun _ _ _ h => h) (Or.inl ⟨by kernel_rfl, ?yS5⟩) (by assumption) ?rS5
      case yS5 =>
        intro w hSw
        (try dsimp only at hSw)
        go_simp
        try with_reducible rfl
      try simp only [List.setIfInBounds_toArray, List.set_cons_zero, List.set_cons_succ]
      refine wpAnyH_tk (i := 6) (oi := _) (v := ?vS6) rfl rfl (by kernel_rfl) (by kernel_rfl) (by kernel_rfl) (fun _ _ _ h => h) (Or.inl ⟨by kernel_rfl, ?yS6⟩) (by assumption) ?rS6
      case yS6 =>
        intro w hSw
        (try dsimp only at hSw)
        go_simp
        try with_reducible rfl
      try simp only [List.setIfInBounds_toArray, List.set_cons_zero, List.set_cons_succ]
      refine wpAnyH_tk (i := 7) (oi := _) (v := ?vS7) rfl rfl (by kernel_rfl) (by kernel_rfl) (by kernel_rfl) (fun _ _ _ h => h) (Or.inl ⟨by kernel_rfl, ?yS7⟩) (by assumption) ?rS7
      case yS7 =>
        intro w hSw
        (try dsimp only at hSw)
        go_simp
        try with_reducible rfl
      try simp only [List.setIfInBounds_toArray, List.set_cons_zero, List.set_cons_succ]
      refine wpAnyH_tk (i := 8) (oi := _) (v := ?vS8) rfl rfl (by kernel_rfl) (by kernel_rfl) (by kernel_rfl) (fun _ _ _ h => h) (Or.inl ⟨by kernel_rfl, ?yS8⟩) (by assumption) ?rS8
      case yS8 =>
        intro w hSw
        (try dsimp only at hSw)
        go_simp
        try with_reducible rfl
      try simp only [List.setIfInBounds_toArray, List.set_cons_zero, List.set_cons_succ]
      refine wpAnyH_tk (i := 9) (oi := _) (v := ?vS9) rfl rfl (by kernel_rfl) (by kernel_rfl) (by kernel_rfl) (fun _ _ _ h => h) (Or.inl ⟨by kernel_rfl, ?yS9⟩) (by assumption) ?rS9
      case yS9 =>
        intro w hSw
        (try dsimp only at hSw)
        go_simp
        try with_reducible rfl
      try simp only [List.setIfInBounds_toArray, List.set_cons_zero, List.set_cons_succ]
      refine wpAnyH_tk (i := 10) (oi := _) (v := ?vS10) rfl rfl (by kernel_rfl) (by kernel_rfl) (by kernel_rfl) (fun _ _ _ h => h) (Or.inl ⟨by kernel_rfl, ?yS10⟩) (by assumption) ?rS10
      case yS10 =>
        intro w hSw
        (try dsimp only at hSw)
        go_simp
        try with_reducible rfl
      try simp only [List.setIfInBounds_toArray, List.set_cons_zero, List.set_cons_succ]
      refine wpAnyH_tk (i := 11) (oi := _) (v := ?vS11) rfl rfl (by kernel_rfl) (by kernel_rfl) (by kernel_rfl) (fun _ _ _ h => h) (Or.inl ⟨by kernel_rfl, ?yS11⟩) (by assumption) ?rS11
      case yS11 =>
        intro w hSw
        (try dsimp only at hSw)
        go_simp
        try with_reducible rfl
      try simp only [List.setIfInBounds_toArray, List.set_cons_zero, List.set_cons_succ]
      refine wpAnyH_tk (i := 12) (oi := _) (v := ?vS12) rfl rfl (by kernel_rfl) (by kernel_rfl) (by kernel_rfl) (fun _ _ _ h => h) (Or.inl ⟨by kernel_rfl, ?yS12⟩) (by assumption) ?rS12
      case yS12 =>
        intro w hSw
        (try dsimp only at hSw)
        go_simp
        try with_reducible rfl
      try simp only [List.setIfInBounds_toArray, List.set_cons_zero, List.set_cons_succ]
      refine wpAnyH_tk (i := 13) (oi := _) (v := ?vS13) rfl rfl (by kernel_rfl) (by kernel_rfl) (by kernel_rfl) (fun _ _ _ h => h) (Or.inl ⟨by kernel_rfl, ?yS13⟩) (by assumption) ?rS13
      case yS13 =>
        intro w hSw
        (try dsimp only at hSw)
        go_simp
        try with_reducible rfl
      try simp only [List.setIfInBounds_toArray, List.set_cons_zero, List.set_cons_succ]
      refine wpAnyH_tk (i := 14) (oi := _) (v := ?vS14) rfl rfl (by kernel_rfl) (by kernel_rfl) (by kernel_rfl) (fun _ _ _ h => h) (Or.inl ⟨by kernel_rfl, ?yS14⟩) (by assumption) ?rS14
      case yS14 =>
        intro w hSw
        (try dsimp only at hSw)
        go_simp
        try with_reducible rfl
      try simp only [List.setIfInBounds_toArray, List.set_cons_zero, List.set_cons_succ]
      refine wpAnyH_tk (i := 15) (oi := _) (v := ?vS15) rfl rfl (by kernel_rfl) (by kernel_rfl) (by kernel_rfl) (fun _ _ _ h => h) (Or.inl ⟨by kernel_rfl, ?yS15⟩) (by assumption) ?rS15
      case yS15 =>
        intro w hSw
        (try dsimp only at hSw)
        go_simp
        try with_reducible rfl
      try simp only [List.setIfInBounds_toArray, List.set_cons_zero, List.set_cons_succ]
      refine wpAnyH_tk (i := 16) (oi := _) (v := ?vS16) rfl rfl (by kernel_rfl) (by kernel_rfl) (by kernel_rfl) (fun _ _ _ h => h) (Or.inl ⟨by kernel_rfl, ?yS16⟩) (by assumption) ?rS16
      case yS16 =>
        intro w hSw
        (try dsimp only at hSw)
        go_simp
        try with_reducible rfl
      try simp only [List.setIfInBounds_toArray, List.set_cons_zero, List.set_cons_succ]
      refine wpAnyH_tk (i := 17) (oi := _) (v := ?vS17) rfl rfl (by kernel_rfl) (by kernel_rfl) (by kernel_rfl) (fun _ _ _ h => h) (Or.inl ⟨by kernel_rfl, ?yS17⟩) (by assumption) ?rS17
      case yS17 =>
        intro w hSw
        (try dsimp only at hSw)
        go_simp
        try with_reducible rfl
      try simp only [List.setIfInBounds_toArray, List.set_cons_zero, List.set_cons_succ]
      refine wpAnyH_tk (i := 18) (oi := _) (v := ?vS18) rfl rfl (by kernel_rfl) (by kernel_rfl) (by kernel_rfl) (fun _ _ _ h => h) (Or.inl ⟨by kernel_rfl, ?yS18⟩) (by assumption) ?rS18
      case yS18 =>
        intro w hSw
        (try dsimp only at hSw)
        go_simp
        try with_reducible rfl
      try simp only [List.setIfInBounds_toArray, List.set_cons_zero, List.set_cons_succ]
      refine wpAnyH_tk (i := 19) (oi := _) (v := ?vS19) rfl rfl (by kernel_rfl) (by kernel_rfl) (by kernel_rfl) (fun _ _ _ h => h) (Or.inl ⟨by kernel_rfl, ?yS19⟩) (by assumption) ?rS19
      case yS19 =>
        intro w hSw
        (try dsimp only at hSw)
        go_simp
        try with_reducible rfl
      try simp only [List.setIfInBounds_toArray, List.set_cons_zero, List.set_cons_succ]
      refine wpAnyH_tk (i := 20) (oi := _) (v := ?vS20) rfl rfl (by kernel_rfl) (by kernel_rfl) (by kernel_rfl) (fun _ _ _ h => h) (Or.inl ⟨by kernel_rfl, ?yS20⟩) (by assumption) ?rS20
      case yS20 =>
        intro w hSw
        (try dsimp only at hSw)
        go_simp
        try with_reducible rfl
      try simp only [List.setIfInBounds_toArray, List.set_cons_zero, List.set_cons_succ]
      refine wpAnyH_tk (i := 21) (oi := _) (v := ?vS21) rfl rfl (by kernel_rfl) (by kernel_rfl) (by kernel_rfl) (fun _ _ _ h => h) (Or.inl ⟨by kernel_rfl, ?yS21⟩) (by assumption) ?rS21
      case yS21 =>
        intro w hSw
        (try dsimp only at hSw)
        go_simp
        try with_reducible rfl
      try simp only [List.setIfInBounds_toArray, List.set_cons_zero, List.set_cons_succ]
      refine wpAnyH_tk (i := 22) (oi := _) (v := ?vS22) rfl rfl (by kernel_rfl) (by kernel_rfl) (by kernel_rfl) (fun _ _ _ h => h) (Or.inl ⟨by kernel_rfl, ?yS22⟩) (by assumption) ?rS22
      case yS22 =>
        intro w hSw
        (try dsimp only at hSw)
        go_simp
        try with_reducible rfl
      try simp only [List.setIfInBounds_toArray, List.set_cons_zero, List.set_cons_succ]
      refine wpAnyH_tk (i := 23) (oi := _) (v := ?vS23) rfl rfl (by kernel_rfl) (by kernel_rfl) (by kernel_rfl) (fun _ _ _ h => h) (Or.inl ⟨by kernel_rfl, ?yS23⟩) (by assumption) ?rS23
      case yS23 =>
        intro w hSw
        (try dsimp only at hSw)
        go_simp
        try with_reducible rfl
      try simp only [List.setIfInBounds_toArray, List.set_cons_zero, List.set_cons_succ]
      refine wpAnyH_tk (i := 24) (oi := _) (v := ?vS24) rfl rfl (by kernel_rfl) (by kernel_rfl) (by kernel_rfl) (fun _ _ _ h => h) (Or.inl ⟨by kernel_rfl, ?yS24⟩) (by assumption) ?rS24
      case yS24 =>
        intro w hSw
        (try dsimp only at hSw)
        go_simp
        try with_reducible rfl
      try simp only [List.setIfInBounds_toArray, List.set_cons_zero, List.set_cons_succ]
      refine wpAnyH_tk (i := 25) (oi := _) (v := ?vS25) rfl rfl (by kernel_rfl) (by kernel_rfl) (by kernel_rfl) (fun _ _ _ h => h) (Or.inl ⟨by kernel_rfl, ?yS25⟩) (by assumption) ?rS25
      case yS25 =>
        intro w hSw
        (try dsimp only at hSw)
        go_simp
        try with_reducible rfl
      try simp only [List.setIfInBounds_toArray, List.set_cons_zero, List.set_cons_succ]
      refine wpAnyH_tk (i := 26) (oi := _) (v := ?vS26) rfl rfl (by kernel_rfl) (by kernel_rfl) (by kernel_rfl) (fun _ _ _ h => h) (Or.inl ⟨by kernel_rfl, ?yS26⟩) (by assumption) ?rS26
      case yS26 =>
        intro w hSw
        (try dsimp only at hSw)
        go_simp
        try with_reducible rfl
      try simp only [List.setIfInBounds_toArray, List.set_cons_zero, List.set_cons_succ]
      refine wpAnyH_tk (i := 27) (oi := _) (v := ?vS27) rfl rfl (by kernel_rfl) (by kernel_rfl) (by kernel_rfl) (fun _ _ _ h => h) (Or.inl ⟨by kernel_rfl, ?yS27⟩) (by assumption) ?rS27
      case yS27 =>
        intro w hSw
        (try dsimp only at hSw)
        go_simp
        try with_reducible rfl
      try simp only [List.setIfInBounds_toArray, List.set_cons_zero, List.set_cons_succ]
      refine wpAnyH_tk (i := 28) (oi := _) (v := ?vS28) rfl rfl (by kernel_rfl) (by kernel_rfl) (by kernel_rfl) (fun _ _ _ h => h) (Or.inl ⟨by kernel_rfl, ?yS28⟩) (by assumption) ?rS28
      case yS28 =>
        intro w hSw
        (try dsimp only at hSw)
        go_simp
        try with_reducible rfl
      try simp only [List.setIfInBounds_toArray, List.set_cons_zero, List.set_cons_succ]
      refine wpAnyH_tk (i := 29) (oi := _) (v := ?vS29) rfl rfl (by kernel_rfl) (by kernel_rfl) (by kernel_rfl) (fun _ _ _ h => h) (Or.inl ⟨by kernel_rfl, ?yS29⟩) (by assumption) ?rS29
      case yS29 =>
        intro w hSw
        (try dsimp only at hSw)
        go_simp
        try with_reducible rfl
      try simp only [List.setIfInBounds_toArray, List.set_cons_zero, List.set_cons_succ]
      refine wpAnyH_tk (i := 30) (oi := _) (v := ?vS30) rfl rfl (by kernel_rfl) (by kernel_rfl) (by kernel_rfl) (fun _ _ _ h => h) (Or.inl ⟨by kernel_rfl, ?yS30⟩) (by assumption) ?rS30
      case yS30 =>
        intro w hSw
        (try dsimp only at hSw)
        go_simp
        try with_reducible rfl
      try simp only [List.setIfInBounds_toArray, List.set_cons_zero, List.set_cons_succ]
      refine wpAnyH_tk (i := 31) (oi := _) (v := ?vS31) rfl rfl (by kernel_rfl) (by kernel_rfl) (by kernel_rfl) (fun _ _ _ h => h) (Or.inl ⟨by kernel_rfl, ?yS31⟩) (by assumption) ?rS31
      case yS31 =>
        intro w hSw
        (try dsimp only at hSw)
        go_simp
        try with_reducible rfl
      try simp only [List.setIfInBounds_toArray, List.set_cons_zero, List.set_cons_succ]
      refine wpAnyH_tk (i := 32) (oi := _) (v := ?vS32) rfl rfl (by kernel_rfl) (by kernel_rfl) (by kernel_rfl) (fun _ _ _ h => h) (Or.inl ⟨by kernel_rfl, ?yS32⟩) (by assumption) ?rS32
      case yS32 =>
        intro w hSw
        (try dsimp only at hSw)
        go_simp
        try with_reducible rfl
      try simp only [List.setIfInBounds_toArray, List.set_cons_zero, List.set_cons_succ]
      refine wpAnyH_tk (i := 33) (oi := _) (v := ?vS33) rfl rfl (by kernel_rfl) (by kernel_rfl) (by kernel_rfl) (fun _ _ _ h => h) (Or.inl ⟨by kernel_rfl, ?yS33⟩) (by assumption) ?rS33
      case yS33 =>
        intro w hSw
        (try dsimp only at hSw)
        go_simp
        try with_reducible rfl
      try simp only [List.setIfInBounds_toArray, List.set_cons_zero, List.set_cons_succ]
      refine wpAnyH_tk (i := 34) (oi := _) (v := ?vS34) rfl rfl (by kernel_rfl) (by kernel_rfl) (by kernel_rfl) (fun _ _ _ h => h) (Or.inl ⟨by kernel_rfl, ?yS34⟩) (by assumption) ?rS34
      case yS34 =>
        intro w hSw
        (try dsimp only at hSw)
        go_simp
        try with_reducible rfl
      try simp only [List.setIfInBounds_toArray, List.set_cons_zero, List.set_cons_succ]
      refine wpAnyH_tk (i := 35) (oi := _) (v := ?vS35) rfl rfl (by kernel_rfl) (by kernel_rfl) (by kernel_rfl) (fun _ _ _ h => h) (Or.inl ⟨by kernel_rfl, ?yS35⟩) (by assumption) ?rS35
      case yS35 =>
        intro w hSw
        (try dsimp only at hSw)
        go_simp
        try with_reducible rfl
      try simp only [List.setIfInBounds_toArray, List.set_cons_zero, List.set_cons_succ]
      refine wpAnyH_tk (i := 36) (oi := _) (v := ?vS36) rfl rfl (by kernel_rfl) (by kernel_rfl) (by kernel_rfl) (fun _ _ _ h => h) (Or.inl ⟨by kernel_rfl, ?yS36⟩) (by assumption) ?rS36
      case yS36 =>
        intro w hSw
        (try dsimp only at hSw)
        go_simp
        try with_reducible rfl
      try simp only [List.setIfInBounds_toArray, List.set_cons_zero, List.set_cons_succ]
      refine wpAnyH_tk (i := 37) (oi := _) (v := ?vS37) rfl rfl (by kernel_rfl) (by kernel_rfl) (by kernel_rfl) (fun _ _ _ h => h) (Or.inl ⟨by kernel_rfl, ?yS37⟩) (by assumption) ?rS37
      case yS37 =>
        intro w hSw
        (try dsimp only at hSw)
        go_simp
        try with_reducible rfl
      try simp only [List.setIfInBounds_toArray, List.set_cons_zero, List.set_cons_succ]
      refine wpAnyH_tk (i := 38) (oi := _) (v := ?vS38) rfl rfl (by kernel_rfl) (by kernel_rfl) (by kernel_rfl) (fun _ _ _ h => h) (Or.inl ⟨by kernel_rfl, ?yS38⟩) (by assumption) ?rS38
      case yS38 =>
        intro w hSw
        (try dsimp only at hSw)
        go_simp
        try with_reducible rfl
      try simp only [List.setIfInBounds_toArray, List.set_cons_zero, List.set_cons_succ]
      refine wpAnyH_tk (i := 39) (oi := _) (v := ?vS39) rfl rfl (by kernel_rfl) (by kernel_rfl) (by kernel_rfl) (fun _ _ _ h => h) (Or.inl ⟨by kernel_rfl, ?yS39⟩) (by assumption) ?rS39
      case yS39 =>
        intro w hSw
        (try dsimp only at hSw)
        go_simp
        try with_reducible rfl
      try simp only [List.setIfInBounds_toArray, List.set_cons_zero, List.set_cons_succ]
      refine wpAnyH_tk (i := 40) (oi := _) (v := ?vS40) rfl rfl (by kernel_rfl) (by kernel_rfl) (by kernel_rfl) (fun _ _ _ h => h) (Or.inl ⟨by kernel_rfl, ?yS40⟩) (by assumption) ?rS40
      case yS40 =>
        intro w hSw
        (try dsimp only at hSw)
        go_simp
        try with_reducible rfl
      try simp only [List.setIfInBounds_toArray, List.set_cons_zero, List.set_cons_succ]
      refine wpAnyH_tk (i := 41) (oi := _) (v := ?vS41) rfl rfl (by kernel_rfl) (by kernel_rfl) (by kernel_rfl) (fun _ _ _ h => h) (Or.inl ⟨by kernel_rfl, ?yS41⟩) (by assumption) ?rS41
      case yS41 =>
        intro w hSw
        (try dsimp only at hSw)
        go_simp
        try with_reducible rfl
      try simp only [List.setIfInBounds_toArray, List.set_cons_zero, List.set_cons_succ]
      refine wpAnyH_tk (i := 42) (oi := _) (v := ?vS42) rfl rfl (by kernel_rfl) (by kernel_rfl) (by kernel_rfl) (fun _ _ _ h => h) (Or.inl ⟨by kernel_rfl, ?yS42⟩) (by assumption) ?rS42
      case yS42 =>
        intro w hSw
        (try dsimp only at hSw)
        go_simp
        try with_reducible rfl
      try simp only [List.setIfInBounds_toArray, List.set_cons_zero, List.set_cons_succ]
      refine wpAnyH_tk (i := 43) (oi := _) (v := ?vS43) rfl rfl (by kernel_rfl) (by kernel_rfl) (by kernel_rfl) (fun _ _ _ h => h) (Or.inl ⟨by kernel_rfl, ?yS43⟩) (by assumption) ?rS43
      case yS43 =>
        intro w hSw
        (try dsimp only at hSw)
        go_simp
        try with_reducible rfl
      try simp only [List.setIfInBounds_toArray, List.set_cons_zero, List.set_cons_succ]
      refine wpAnyH_tk (i := 44) (oi := _) (v := ?vS44) rfl rfl (by kernel_rfl) (by kernel_rfl) (by kernel_rfl) (fun _ _ _ h => h) (Or.inl ⟨by kernel_rfl, ?yS44⟩) (by assumption) ?rS44
      case yS44 =>
        intro w hSw
        (try dsimp only at hSw)
        go_simp
        try with_reducible rfl
      try simp only [List.setIfInBounds_toArray, List.set_cons_zero, List.set_cons_succ]
      refine wpAnyH_tk (i := 45) (oi := _) (v := ?vS45) rfl rfl (by kernel_rfl) (by kernel_rfl) (by kernel_rfl) (fun _ _ _ h => h) (Or.inl ⟨by kernel_rfl, ?yS45⟩) (by assumption) ?rS45
      case yS45 =>
        intro w hSw
        (try dsimp only at hSw)
        go_simp
        try with_reducible rfl
      try simp only [List.setIfInBounds_toArray, List.set_cons_zero, List.set_cons_succ]
      refine wpAnyH_tk (i := 46) (oi := _) (v := ?vS46) rfl rfl (by kernel_rfl) (by kernel_rfl) (by kernel_rfl) (fun _ _ _ h => h) (Or.inl ⟨by kernel_rfl, ?yS46⟩) (by assumption) ?rS46
      case yS46 =>
        intro w hSw
        (try dsimp only at hSw)
        go_simp
        try with_reducible rfl
      try simp only [List.setIfInBounds_toArray, List.set_cons_zero, List.set_cons_succ]
      refine wpAnyH_tk (i := 47) (oi := _) (v := ?vS47) rfl rfl (by kernel_rfl) (by kernel_rfl) (by kernel_rfl) (fun _ _ _ h => h) (Or.inl ⟨by kernel_rfl, ?yS47⟩) (by assumption) ?rS47
      case yS47 =>
        intro w hSw
        (try dsimp only at hSw)
        go_simp
        try with_reducible rfl
      try simp only [List.setIfInBounds_toArray, List.set_cons_zero, List.set_cons_succ]
      refine wpAnyH_tk (i := 48) (oi := _) (v := ?vS48) rfl rfl (by kernel_rfl) (by kernel_rfl) (by kernel_rfl) (fun _ _ _ h => h) (Or.inl ⟨by kernel_rfl, ?yS48⟩) (by assumption) ?rS48
      case yS48 =>
        intro w hSw
        (try dsimp only at hSw)
        go_simp
        try with_reducible rfl
      try simp only [List.setIfInBounds_toArray, List.set_cons_zero, List.set_cons_succ]
      refine wpAnyH_tk (i := 49) (oi := _) (v := ?vS49) rfl rfl (by kernel_rfl) (by kernel_rfl) (by kernel_rfl) (fun _ _ _ h => h) (Or.inl ⟨by kernel_rfl, ?yS49⟩) (by assumption) ?rS49
      case yS49 =>
        intro w hSw
        (try dsimp only at hSw)
        go_simp
        try with_reducible rfl
      try simp only [List.setIfInBounds_toArray, List.set_cons_zero, List.set_cons_succ]
      refine wpAnyH_tk (i := 50) (oi := _) (v := ?vS50) rfl rfl (by kernel_rfl) (by kernel_rfl) (by kernel_rfl) (fun _ _ _ h => h) (Or.inl ⟨by kernel_rfl, ?yS50⟩) (by assumption) ?rS50
      case yS50 =>
        intro w hSw
        (try dsimp only at hSw)
        go_simp
        try with_reducible rfl
      try simp only [List.setIfInBounds_toArray, List.set_cons_zero, List.set_cons_succ]
      refine wpAnyH_tk (i := 51) (oi := _) (v := ?vS51) rfl rfl (by kernel_rfl) (by kernel_rfl) (by kernel_rfl) (fun _ _ _ h => h) (Or.inl ⟨by kernel_rfl, ?yS51⟩) (by assumption) ?rS51
      case yS51 =>
        intro w hSw
        (try dsimp only at hSw)
        go_simp
        try with_reducible rfl
      try simp only [List.setIfInBounds_toArray, List.set_cons_zero, List.set_cons_succ]
      refine wpAnyH_done (by kernel_rfl) ?_ _
      go_wp2
      go_roundw
      case rel => exact ⟨k + 1, q + 1, by go_num, by omega, rfl⟩
      case measure => simp [intOf]; omega
    · obtain rfl : n = k := by omega
      go_wp2
      go_ret
      exact ⟨rfl, below_drewN (Below.refl _ _) q⟩
end Go.Proofs.YtkajhdbcnmafcaaGreatDoor
