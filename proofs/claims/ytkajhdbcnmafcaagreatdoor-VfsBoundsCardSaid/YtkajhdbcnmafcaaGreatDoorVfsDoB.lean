/- Walk of law4's Do: a call, by both; both tell the same. -/
import Derived.Test.YtkajhdbcnmafcaaGreatDoorVfsDoA
import Derived.Test.YtkajhdbcnmafcaaGreatDoorHeld
namespace Go.Proofs.YtkajhdbcnmafcaaGreatDoor
open Go.RowKit Go.Deep Go.Maps Ln Pth Vf
set_option linter.unusedSimpArgs false
set_option linter.unusedVariables false
attribute [local go_sem] bt_eq

theorem sep_assoc {A B C : AsnN} {T N : Nat → Prop} {w : World} (h : sep (sep A B) C T N w) : sep A (sep B C) T N w := by
  obtain ⟨T1, T2, ⟨T3, T4, a, b, s3, s4, d3⟩, c, s1, s2, d⟩ := h
  exact ⟨T3, fun k => T4 k ∨ T2 k, a, ⟨T4, T2, b, c, fun k h => .inl h, fun k h => .inr h, fun k h1 h2 => d k (s4 k h1) h2⟩, fun k h => s1 k (s3 k h), fun k h => h.elim (fun h => s1 k (s4 k h)) (s2 k), fun k h1 h2 => h2.elim (d3 k h1) (d k (s3 k h1))⟩
theorem sep_unassoc {A B C : AsnN} {T N : Nat → Prop} {w : World} (h : sep A (sep B C) T N w) : sep (sep A B) C T N w := by
  obtain ⟨T1, T2, a, ⟨T3, T4, b, c, s3, s4, d3⟩, s1, s2, d⟩ := h
  exact ⟨fun k => T1 k ∨ T3 k, T4, ⟨T1, T3, a, b, fun k h => .inl h, fun k h => .inr h, fun k h1 h2 => d k h1 (s3 k h2)⟩, c, fun k h => h.elim (s1 k) (fun h => s2 k (s3 k h)), fun k h => s2 k (s4 k h), fun k h1 h2 => h1.elim (fun h1 => d k h1 (s4 k h2)) (fun h1 => d3 k h1 h2)⟩
/-- one more thing beside both -/
theorem Two.also {f r : Nat} {S S' : St} {X Y : AsnN} {B : Nat} {w0 w : World} (h : InvN (sep (Two f r S S' X) Y) B w0 w) : InvN (Two f r S S' (sep X Y)) B w0 w := h.mono (fun _ _ _ h => sep_assoc h)
theorem Two.less {f r : Nat} {S S' : St} {X Y : AsnN} {B : Nat} {w0 w : World} (h : InvN (Two f r S S' (sep X Y)) B w0 w) : InvN (Two f r S S' X) B w0 w := (h.mono (fun _ _ _ h => sep_unassoc h)).fst
/-- a byte of the row is written -/
theorem YI.set {P : AsnN} {gb n c k : Nat} {B : Nat} {w0 w : World} (h : InvN (sep P (YI (.slice (some ⟨gb, 0, none⟩) n c) n)) B w0 w) (hB : B ≤ w0.heap.size) (hP : FrN P) (hk : k < n) (z : Int) : InvN (sep P (YI (.slice (some ⟨gb, 0, none⟩) n c) n)) B w0 (w.setCell ⟨gb, k, none⟩ (.int .u8 z)) := by
  obtain ⟨T, N, ⟨T1, T2, p, y, s1, s2, d⟩, ok, ht, hb⟩ := h
  rcases y with ⟨h0, _⟩ | ⟨gb', c', L, e, hl, hc, htg, hr, cur, hcur⟩
  · omega
  · injection e with e1 e2 e3
    injection e1 with e1
    injection e1 with e1 _ _
    subst e1 e3
    have hkp : Kp w (w.setCell ⟨gb, k, none⟩ (.int .u8 z)) (fun k => k = gb) := Kp.set w gb k _
    have hgT := s2 gb htg
    obtain ⟨x, hx⟩ : ∃ x, L[k]? = some x := ⟨L[k]'(by omega), List.getElem?_eq_getElem _⟩
    refine ⟨T, N, ⟨T1, T2, hP T1 N N w _ p (fun j hj => hkp.block j (hj.elim (fun h => (ok.1 j (s1 j h)).1) (ok.2 j)) (fun e => ?_)) (fun _ h => h) hkp.size, .inr ⟨gb, c, L.set k z, rfl, by rw [List.length_set, hl], hc, htg, ?_, _, heapSet hcur _⟩, s1, s2, d⟩, (GrowN.refl ok hkp.size).2.2.2, ht, hkp.below hb hB (fun j e => e ▸ ht gb hgT)⟩
    · subst e
      rcases hj with h | h
      · exact d j h htg
      · exact (ok.1 j hgT).2 h
    · intro j u hj
      rw [List.getElem?_set] at hj
      by_cases e : k = j
      · subst e
        rw [if_pos rfl, if_pos (by omega)] at hj
        injection hj with hj
        subst hj
        obtain ⟨g2, o2, e2, hg2, hc2⟩ := hr k x hx
        injection e2 with e2
        injection e2 with e3 e4 _
        subst e3 e4
        refine ⟨gb, 0, rfl, by simpa using hg2, fun i v hi => ?_⟩
        have hi1 := (List.getElem?_eq_some_iff.1 hi).1
        have hi0 : i = 0 := by simp [encI8] at hi1; exact hi1
        subst hi0
        have hv : v = .int .u8 z := by simpa [encI8] using hi.symm
        subst hv
        have := hc2 0 _ rfl
        rw [Nat.zero_add, Nat.mul_one, Nat.add_zero] at this ⊢
        exact World.cell?_setCell_same' w ⟨gb, k, none⟩ _ (by rw [this]; rfl)
      · rw [if_neg e] at hj
        obtain ⟨g2, o2, e2, hg2, hc2⟩ := hr j u hj
        refine ⟨g2, o2, e2, by simpa using hg2, fun i v hi => ?_⟩
        have hi1 := (List.getElem?_eq_some_iff.1 hi).1
        have hi0 : i = 0 := by simp [encI8] at hi1; exact hi1
        subst hi0
        injection e2 with e2
        injection e2 with e3 e4 _
        subst e3 e4
        rw [World.cell?_setCell_other w _ _ _ (by intro e5; injection e5; omega)]
        exact hc2 0 v hi
theorem YI.cell {P : AsnN} {A : Option Addr} {n c k : Nat} {B : Nat} {w0 w : World} (h : InvN (sep P (YI (.slice A n c) n)) B w0 w) (hk : k < n) : ∃ gb z, A = some ⟨gb, 0, none⟩ ∧ n ≤ c ∧ w.cell? ⟨gb, k, none⟩ = some (.int .u8 z) ∧ w.frozen? ⟨gb, k, none⟩ = false := by
  obtain ⟨T, N, ⟨T1, T2, p, y, s1, s2, d⟩, ok, ht, hb⟩ := h
  rcases y with ⟨h0, _⟩ | ⟨gb, c', L, e, hl, hc, htg, hr, cur, hcur⟩
  · omega
  · injection e with e1 e2 e3
    subst e1 e3
    obtain ⟨x, hx⟩ : ∃ x, L[k]? = some x := ⟨L[k]'(by omega), List.getElem?_eq_getElem _⟩
    obtain ⟨g2, o2, e2, hg2, hc2⟩ := hr k x hx
    injection e2 with e2
    injection e2 with e3 e4 _
    subst e3 e4
    refine ⟨gb, x, rfl, hc, ?_, freeOf hcur k⟩
    have := hc2 0 _ rfl
    rw [Nat.zero_add, Nat.mul_one, Nat.add_zero] at this
    exact this
/-- bytes of the call's own as such a row -/
theorem YI.own {w : World} {base : Nat} {A : Option Addr} {n c : Nat} {L : T} (h : OwnY w base (.slice A n c) L) (hn : L.length = n) : YI (.slice A n c) n (fun k => (Value.slice A n c).ownBlock = some k) (fun _ => False) w := by
  obtain ⟨A', c', e, hc, hr, _, _⟩ := OwnG.slice encB_len h
  rcases h.2 with ⟨e0, h0⟩ | ⟨gb, cap, cur, e2, hg, hh, _⟩
  · exact .inl ⟨by omega, by injection e0 with e1 e2 e3; subst e1 e2 e3; exact ⟨_, _, rfl⟩⟩
  · injection e with e1 e3 e4
    subst e1
    injection e2 with e5 e6 e7
    subst e5
    refine .inr ⟨gb, c, L.map fun b => (b.toNat : Int), rfl, by rw [List.length_map, hn], by omega, rfl, fun k z hk => ?_, cur, hh⟩
    rw [List.getElem?_map] at hk
    cases hb : L[k]? with
    | none => rw [hb] at hk; cases hk
    | some b =>
      rw [hb] at hk
      injection hk with hk
      subst hk
      exact hr k b hb
set_option maxRecDepth 100000 in
set_option maxHeartbeats 8000000 in
theorem do_any (f r : Nat) (S : St) (x : Ac4) (X : AsnN) (hX : FrN X) (w0 w : World) (h : InvN (Two f r S S X) w0.heap.size w0 w) {nodes bytes n : Nat} (hG : GoodS S nodes bytes n) (hby : bytes ≤ 400000) (hn : n ≤ 1000000) (hm : MX w0) (hp : x.p.size ≤ 300) (hq : x.q.size ≤ 300) (hbl : x.b.length ≤ 2000) (hb0 : RG encB 1 w0 x.A x.b) :
    Calls Tryz.prog 15 #[.pointer (some ⟨f, 0, none⟩), .pointer (some ⟨r, 0, none⟩), .agg #[.int .i64 x.way, .string x.p, .string x.q, .slice x.A x.b.length x.c, .bool x.more]] w fun e w' => e = .returned (.bool true) ∧ InvN (Two f r (doS S x).1 (doS S x).1 X) w0.heap.size w0 w' := by
  have hR : doS S x = if x.way = 0 then writeS S (pT x) x.b x.more else if x.way = 1 then mkdirS S (pT x) else if x.way = 2 then removeS S (pT x) else if x.way = 3 then touchS S (pT x) else if x.way = 4 then moveS S (pT x) (qT x) else (S, 0) := rfl
  have hpl : (pT x).length ≤ 300 := by unfold pT; rw [data_len]; exact hp
  have hql : (qT x).length ≤ 300 := by unfold qT; rw [data_len]; exact hq
  have hS := hG.wf
  have hH := hG.hang
  have hby' : S.bytes ≤ 400000 := by rw [hG.bytes]; exact hby
  have hck : S.clock ≤ 1000000000 := by have := hG.clock; omega
  have HB0 := hide hb0
  have HBLK := hide (fun a (e : x.A = some a) (hn : x.b ≠ []) => hb0.block_lt e hn)
  have hpe : bs (pT x) = x.p := pT_bs x
  have hqe : bs (qT x) = x.q := qT_bs x
  obtain ⟨bx, hbx⟩ : ∃ b, w.heap.size = b := ⟨_, rfl⟩
  obtain ⟨way, hway⟩ : ∃ b, x.way = b := ⟨_, rfl⟩
  obtain ⟨ps, hps⟩ : ∃ b, x.p = b := ⟨_, rfl⟩
  obtain ⟨qs, hqs⟩ : ∃ b, x.q = b := ⟨_, rfl⟩
  obtain ⟨A, hA⟩ : ∃ b, x.A = b := ⟨_, rfl⟩
  obtain ⟨c, hc⟩ : ∃ b, x.c = b := ⟨_, rfl⟩
  obtain ⟨D, hD⟩ : ∃ b, x.b = b := ⟨_, rfl⟩
  obtain ⟨more, hmore⟩ : ∃ b, x.more = b := ⟨_, rfl⟩
  obtain ⟨p, hpT⟩ : ∃ b, pT x = b := ⟨_, rfl⟩
  obtain ⟨q, hqT⟩ : ∃ b, qT x = b := ⟨_, rfl⟩
  obtain ⟨R, hRe⟩ : ∃ b, doS S x = b := ⟨_, rfl⟩
  rw [hpT, hps] at hpe
  rw [hqT, hqs] at hqe
  rw [hpT] at hpl
  rw [hqT] at hql
  rw [hway, hpT, hqT, hD, hmore, hRe] at hR
  rw [hA, hD] at HB0 HBLK
  rw [hD] at hbl
  rw [hway, hps, hqs, hA, hc, hD, hmore, hRe]
  rw [← hpe, ← hqe]
  have HR := hide hR
  have hnew := (h.new (Two.fr f r S S hX) (.cells #[.int .i64 way, .string (bs p), .string (bs q), .slice A D.length c, .bool more] 25) (Nat.le_refl _)).mono (fun _ _ _ h => sep_assoc h)
  rw [hbx] at hnew
  obtain ⟨w1, hw1⟩ : ∃ W, w.alloc (.cells #[.int .i64 way, .string (bs p), .string (bs q), .slice A D.length c, .bool more] 25) = W := ⟨_, rfl⟩
  rw [hw1] at hnew
  obtain ⟨dl, hdl⟩ : ∃ n, D.length = n := ⟨_, rfl⟩
  have HDL := hide hdl
  have H1 := hide hnew
  have HXF := hide (hX.join (BlkN.fr bx (.cells #[.int .i64 way, .string (bs p), .string (bs q), .slice A D.length c, .bool more] 25)))
  rw [hdl] at hbl hw1 H1 HXF ⊢
  obtain ⟨O, hO⟩ : ∃ o : Obj, Obj.cells #[.int .i64 way, .string (bs p), .string (bs q), .slice A dl c, .bool more] 25 = o := ⟨_, rfl⟩
  have HCB := hide (fun (S1 S2 : St) (Y : AsnN) (W : World) (h : InvN (Two f r S1 S2 (sep (sep X (BlkN bx O)) Y)) w0.heap.size w0 W) (j : Nat) (v : Value) (hj : #[Value.int .i64 way, .string (bs p), .string (bs q), .slice A dl c, .bool more][j]? = some v) => show W.cell? ⟨bx, j, none⟩ = some v from by
    rw [← hO] at h
    exact BlkN.cell h.snd.fst.snd hj)
  have HCA := hide (fun (S1 S2 : St) (W : World) (h : InvN (Two f r S1 S2 (sep X (BlkN bx O))) w0.heap.size w0 W) (j : Nat) (v : Value) (hj : #[Value.int .i64 way, .string (bs p), .string (bs q), .slice A dl c, .bool more][j]? = some v) => show W.cell? ⟨bx, j, none⟩ = some v from by
    rw [← hO] at h
    exact BlkN.cell h.snd.snd hj)
  rw [hO] at hw1 H1 HXF
  have HM := hide hm
  have HGW := hide (And.intro hS (And.intro hH (And.intro hby' hck)))
  have HL := hide (And.intro hpl hql)
  have hc0 := HCA.out _ _ _ H1.out 0 _ rfl
  clear hR hS hH hby' hck hb0 hpe hqe hway hps hqs hA hc hD hmore hpT hqT hRe hnew h hX hG hby hn hm hp hq hdl
  by_cases hwy : way = 1
  · -- Mkdir
    subst hwy
    have HE := hide (show R = (mkdirS S p) from HR.out)
    have HF := hide (fun (W : World) (h : InvN (Two f r S S (sep X (BlkN bx O))) w0.heap.size w0 W) => Two.callF h (Nat.le_refl _) HXF.out (FsPost.specN (fun T N hv ok => mkdir_any f S p T N W hv ok HGW.out.1 (HM.out.below h.below) (by have := HL.out; omega) HGW.out.2.2.2)))
    have HRR := hide (fun (W : World) (h : InvN (Two f r (mkdirS S p).1 S (sep X (BlkN bx O))) w0.heap.size w0 W) => Two.callR h (Nat.le_refl _) HXF.out (RK.specAt (fun A c L ho => rmkdir4_any r S A c L p W ho HGW.out.1 (by have := HL.out; omega) HGW.out.2.2.2)))
    obtain ⟨R1, hR1⟩ : ∃ y, (mkdirS S p) = y := ⟨_, rfl⟩
    rw [hR1] at HF HRR HE
    clear hR1 HR
    go_enter Tryz.func15, Tryz.ntmps15
    go_wp2_with fail
    have hI1 := H1.out.drew (Two.fr f r S S HXF.out) (Nat.le_refl _)
    have HI1 := hide hI1
    clear hI1
    refine wp_region_held_drew (S := (fun W => W.cell? ⟨bx, 1, none⟩ = some (.string (bs p)) ∧ W.cell? ⟨bx, 2, none⟩ = some (.string (bs q)))) (by kernel_rfl) ⟨HCA.out _ _ _ HI1.out 1 _ rfl, HCA.out _ _ _ HI1.out 2 _ rfl⟩ (fun hHeld => ?_)
    refine wpAnyH_tk (i := 0) (oi := _) (v := ?vMkdir0) rfl rfl (by kernel_rfl) (by kernel_rfl) (by kernel_rfl) (fun _ _ _ h => h) (Or.inl ⟨by kernel_rfl, ?yMkdir0⟩) (by assumption) ?rMkdir0
    case yMkdir0 =>
      intro w hSw
      (try dsimp only at hSw)
      go_simp
      try with_reducible rfl
    try simp only [List.setIfInBounds_toArray, List.set_cons_zero, List.set_cons_succ]
    refine wpAnyH_tk (i := 1) (oi := _) (v := ?vMkdir1) rfl rfl (by kernel_rfl) (by kernel_rfl) (by kernel_rfl) (fun _ _ _ h => h) (Or.inl ⟨by kernel_rfl, ?yMkdir1⟩) (by assumption) ?rMkdir1
    case yMkdir1 =>
      intro w hSw
      (try dsimp only at hSw)
      go_simp
      try with_reducible rfl
    try simp only [List.setIfInBounds_toArray, List.set_cons_zero, List.set_cons_succ]
    refine wpAnyH_tk (i := 2) (oi := _) (v := ?vMkdir2) rfl rfl (by kernel_rfl) (by kernel_rfl) (by kernel_rfl) (fun _ _ _ h => h) (Or.inl ⟨by kernel_rfl, ?yMkdir2⟩) (by assumption) ?rMkdir2
    case yMkdir2 =>
      intro w hSw
      (try dsimp only at hSw)
      go_simp
      try with_reducible rfl
    try simp only [List.setIfInBounds_toArray, List.set_cons_zero, List.set_cons_succ]
    refine wpAnyH_tk (i := 5) (oi := _) (v := ?vMkdir5) rfl rfl (by kernel_rfl) (by kernel_rfl) (by kernel_rfl) (fun _ _ _ h => h) (Or.inl ⟨by kernel_rfl, ?yMkdir5⟩) (by assumption) ?rMkdir5
    case yMkdir5 =>
      intro w hSw
      (try dsimp only at hSw)
      go_simp
      try with_reducible rfl
    try simp only [List.setIfInBounds_toArray, List.set_cons_zero, List.set_cons_succ]
    refine wpAnyH_tk (i := 6) (oi := _) (v := ?vMkdir6) rfl rfl (by kernel_rfl) (by kernel_rfl) (by kernel_rfl) (fun _ _ _ h => h) (Or.inl ⟨by kernel_rfl, ?yMkdir6⟩) (by assumption) ?rMkdir6
    case yMkdir6 =>
      intro w hSw
      (try dsimp only at hSw)
      go_simp
      try with_reducible rfl
    try simp only [List.setIfInBounds_toArray, List.set_cons_zero, List.set_cons_succ]
    refine wpAnyH_tk (i := 7) (oi := _) (v := ?vMkdir7) rfl rfl (by kernel_rfl) (by kernel_rfl) (by kernel_rfl) (fun _ _ _ h => h) (Or.inl ⟨by kernel_rfl, ?yMkdir7⟩) (by assumption) ?rMkdir7
    case yMkdir7 =>
      intro w hSw
      (try dsimp only at hSw)
      go_simp
      try with_reducible rfl
    try simp only [List.setIfInBounds_toArray, List.set_cons_zero, List.set_cons_succ]
    refine wpAnyH_ready (rs := [3]) (by kernel_rfl) (by simp) ?_
    refine AllReadyH.cons (o := _) rfl (fun K hK => ?_) AllReadyH.nil
    rw [if_pos (by kernel_rfl)]
    go_simp
    refine (HF.out _ HI1.out).mono ?_
    rintro e w2 ⟨rfl, hi2⟩
    have HI2 := hide hi2
    clear hi2
    refine hK.out _ _ ⟨HCA.out _ _ _ HI2.out 1 _ rfl, HCA.out _ _ _ HI2.out 2 _ rfl⟩ (fun _ => ?_)
    clear hK K
    try simp only [Act.put, List.setIfInBounds_toArray, List.set_cons_zero, List.set_cons_succ]
    refine wpAnyH_ready (rs := [4]) (by kernel_rfl) (by simp) ?_
    refine AllReadyH.cons (o := _) rfl (fun K hK => ?_) AllReadyH.nil
    rw [if_pos (by kernel_rfl)]
    go_simp
    refine (num4_any _ _).mono ?_
    rintro e w' ⟨rfl, rfl⟩
    refine hK.out _ _ ⟨HCA.out _ _ _ HI2.out 1 _ rfl, HCA.out _ _ _ HI2.out 2 _ rfl⟩ (fun _ => ?_)
    clear hK K
    try simp only [Act.put, List.setIfInBounds_toArray, List.set_cons_zero, List.set_cons_succ]
    refine wpAnyH_ready (rs := [8]) (by kernel_rfl) (by simp) ?_
    refine AllReadyH.cons (o := _) rfl (fun K hK => ?_) AllReadyH.nil
    rw [if_pos (by kernel_rfl)]
    go_simp
    refine (HRR.out _ HI2.out).mono ?_
    rintro e w3 ⟨rfl, hi3⟩
    have HI3 := hide hi3
    clear hi3
    refine hK.out _ _ ⟨HCA.out _ _ _ HI3.out 1 _ rfl, HCA.out _ _ _ HI3.out 2 _ rfl⟩ (fun _ => ?_)
    clear hK K
    try simp only [Act.put, List.setIfInBounds_toArray, List.set_cons_zero, List.set_cons_succ]
    refine wpAnyH_tk (i := 9) (oi := _) (v := ?vMkdir9) rfl rfl (by kernel_rfl) (by kernel_rfl) (by kernel_rfl) (fun _ _ _ h => h) (Or.inl ⟨by kernel_rfl, ?yMkdir9⟩) (by assumption) ?rMkdir9
    case yMkdir9 =>
      intro w hSw
      (try dsimp only at hSw)
      go_simp
      try with_reducible rfl
    try simp only [List.setIfInBounds_toArray, List.set_cons_zero, List.set_cons_succ]
    refine wpAnyH_tk (i := 10) (oi := _) (v := ?vMkdir10) rfl rfl (by kernel_rfl) (by kernel_rfl) (by kernel_rfl) (fun _ _ _ h => h) (Or.inl ⟨by kernel_rfl, ?yMkdir10⟩) (by assumption) ?rMkdir10
    case yMkdir10 =>
      intro w hSw
      (try dsimp only at hSw)
      go_simp
      try with_reducible rfl
    try simp only [List.setIfInBounds_toArray, List.set_cons_zero, List.set_cons_succ]
    refine wpAnyH_done (by kernel_rfl) ?_ _
    go_wp2
    go_ret
    rw [HE.out]
    exact ⟨by simp, Two.less HI3.out⟩
  by_cases hwy : way = 2
  · -- Remove
    subst hwy
    have HE := hide (show R = (removeS S p) from HR.out)
    have HF := hide (fun (W : World) (h : InvN (Two f r S S (sep X (BlkN bx O))) w0.heap.size w0 W) => Two.callF h (Nat.le_refl _) HXF.out (FsPost.specN (fun T N hv ok => remove_any f S p T N W hv ok HGW.out.1 (HM.out.below h.below) (by have := HL.out; omega) HGW.out.2.2.2)))
    have HRR := hide (fun (W : World) (h : InvN (Two f r (removeS S p).1 S (sep X (BlkN bx O))) w0.heap.size w0 W) => Two.callR h (Nat.le_refl _) HXF.out (RK.specAt (fun A c L ho => rremove4_any r S A c L p W ho HGW.out.1 HGW.out.2.1 (by have := HL.out; omega) HGW.out.2.2.2)))
    obtain ⟨R1, hR1⟩ : ∃ y, (removeS S p) = y := ⟨_, rfl⟩
    rw [hR1] at HF HRR HE
    clear hR1 HR
    go_enter Tryz.func15, Tryz.ntmps15
    go_wp2_with fail
    have hI1 := H1.out.drew (Two.fr f r S S HXF.out) (Nat.le_refl _)
    have HI1 := hide hI1
    clear hI1
    refine wp_region_held_drew (S := (fun W => W.cell? ⟨bx, 1, none⟩ = some (.string (bs p)) ∧ W.cell? ⟨bx, 2, none⟩ = some (.string (bs q)))) (by kernel_rfl) ⟨HCA.out _ _ _ HI1.out 1 _ rfl, HCA.out _ _ _ HI1.out 2 _ rfl⟩ (fun hHeld => ?_)
    refine wpAnyH_tk (i := 0) (oi := _) (v := ?vRemove0) rfl rfl (by kernel_rfl) (by kernel_rfl) (by kernel_rfl) (fun _ _ _ h => h) (Or.inl ⟨by kernel_rfl, ?yRemove0⟩) (by assumption) ?rRemove0
    case yRemove0 =>
      intro w hSw
      (try dsimp only at hSw)
      go_simp
      try with_reducible rfl
    try simp only [List.setIfInBounds_toArray, List.set_cons_zero, List.set_cons_succ]
    refine wpAnyH_tk (i := 1) (oi := _) (v := ?vRemove1) rfl rfl (by kernel_rfl) (by kernel_rfl) (by kernel_rfl) (fun _ _ _ h => h) (Or.inl ⟨by kernel_rfl, ?yRemove1⟩) (by assumption) ?rRemove1
    case yRemove1 =>
      intro w hSw
      (try dsimp only at hSw)
      go_simp
      try with_reducible rfl
    try simp only [List.setIfInBounds_toArray, List.set_cons_zero, List.set_cons_succ]
    refine wpAnyH_tk (i := 2) (oi := _) (v := ?vRemove2) rfl rfl (by kernel_rfl) (by kernel_rfl) (by kernel_rfl) (fun _ _ _ h => h) (Or.inl ⟨by kernel_rfl, ?yRemove2⟩) (by assumption) ?rRemove2
    case yRemove2 =>
      intro w hSw
      (try dsimp only at hSw)
      go_simp
      try with_reducible rfl
    try simp only [List.setIfInBounds_toArray, List.set_cons_zero, List.set_cons_succ]
    refine wpAnyH_tk (i := 5) (oi := _) (v := ?vRemove5) rfl rfl (by kernel_rfl) (by kernel_rfl) (by kernel_rfl) (fun _ _ _ h => h) (Or.inl ⟨by kernel_rfl, ?yRemove5⟩) (by assumption) ?rRemove5
    case yRemove5 =>
      intro w hSw
      (try dsimp only at hSw)
      go_simp
      try with_reducible rfl
    try simp only [List.setIfInBounds_toArray, List.set_cons_zero, List.set_cons_succ]
    refine wpAnyH_tk (i := 6) (oi := _) (v := ?vRemove6) rfl rfl (by kernel_rfl) (by kernel_rfl) (by kernel_rfl) (fun _ _ _ h => h) (Or.inl ⟨by kernel_rfl, ?yRemove6⟩) (by assumption) ?rRemove6
    case yRemove6 =>
      intro w hSw
      (try dsimp only at hSw)
      go_simp
      try with_reducible rfl
    try simp only [List.setIfInBounds_toArray, List.set_cons_zero, List.set_cons_succ]
    refine wpAnyH_tk (i := 7) (oi := _) (v := ?vRemove7) rfl rfl (by kernel_rfl) (by kernel_rfl) (by kernel_rfl) (fun _ _ _ h => h) (Or.inl ⟨by kernel_rfl, ?yRemove7⟩) (by assumption) ?rRemove7
    case yRemove7 =>
      intro w hSw
      (try dsimp only at hSw)
      go_simp
      try with_reducible rfl
    try simp only [List.setIfInBounds_toArray, List.set_cons_zero, List.set_cons_succ]
    refine wpAnyH_ready (rs := [3]) (by kernel_rfl) (by simp) ?_
    refine AllReadyH.cons (o := _) rfl (fun K hK => ?_) AllReadyH.nil
    rw [if_pos (by kernel_rfl)]
    go_simp
    refine (HF.out _ HI1.out).mono ?_
    rintro e w2 ⟨rfl, hi2⟩
    have HI2 := hide hi2
    clear hi2
    refine hK.out _ _ ⟨HCA.out _ _ _ HI2.out 1 _ rfl, HCA.out _ _ _ HI2.out 2 _ rfl⟩ (fun _ => ?_)
    clear hK K
    try simp only [Act.put, List.setIfInBounds_toArray, List.set_cons_zero, List.set_cons_succ]
    refine wpAnyH_ready (rs := [4]) (by kernel_rfl) (by simp) ?_
    refine AllReadyH.cons (o := _) rfl (fun K hK => ?_) AllReadyH.nil
    rw [if_pos (by kernel_rfl)]
    go_simp
    refine (num4_any _ _).mono ?_
    rintro e w' ⟨rfl, rfl⟩
    refine hK.out _ _ ⟨HCA.out _ _ _ HI2.out 1 _ rfl, HCA.out _ _ _ HI2.out 2 _ rfl⟩ (fun _ => ?_)
    clear hK K
    try simp only [Act.put, List.setIfInBounds_toArray, List.set_cons_zero, List.set_cons_succ]
    refine wpAnyH_ready (rs := [8]) (by kernel_rfl) (by simp) ?_
    refine AllReadyH.cons (o := _) rfl (fun K hK => ?_) AllReadyH.nil
    rw [if_pos (by kernel_rfl)]
    go_simp
    refine (HRR.out _ HI2.out).mono ?_
    rintro e w3 ⟨rfl, hi3⟩
    have HI3 := hide hi3
    clear hi3
    refine hK.out _ _ ⟨HCA.out _ _ _ HI3.out 1 _ rfl, HCA.out _ _ _ HI3.out 2 _ rfl⟩ (fun _ => ?_)
    clear hK K
    try simp only [Act.put, List.setIfInBounds_toArray, List.set_cons_zero, List.set_cons_succ]
    refine wpAnyH_tk (i := 9) (oi := _) (v := ?vRemove9) rfl rfl (by kernel_rfl) (by kernel_rfl) (by kernel_rfl) (fun _ _ _ h => h) (Or.inl ⟨by kernel_rfl, ?yRemove9⟩) (by assumption) ?rRemove9
    case yRemove9 =>
      intro w hSw
      (try dsimp only at hSw)
      go_simp
      try with_reducible rfl
    try simp only [List.setIfInBounds_toArray, List.set_cons_zero, List.set_cons_succ]
    refine wpAnyH_tk (i := 10) (oi := _) (v := ?vRemove10) rfl rfl (by kernel_rfl) (by kernel_rfl) (by kernel_rfl) (fun _ _ _ h => h) (Or.inl ⟨by kernel_rfl, ?yRemove10⟩) (by assumption) ?rRemove10
    case yRemove10 =>
      intro w hSw
      (try dsimp only at hSw)
      go_simp
      try with_reducible rfl
    try simp only [List.setIfInBounds_toArray, List.set_cons_zero, List.set_cons_succ]
    refine wpAnyH_done (by kernel_rfl) ?_ _
    go_wp2
    go_ret
    rw [HE.out]
    exact ⟨by simp, Two.less HI3.out⟩
  by_cases hwy : way = 3
  · -- Touch
    subst hwy
    have HE := hide (show R = (touchS S p) from HR.out)
    have HF := hide (fun (W : World) (h : InvN (Two f r S S (sep X (BlkN bx O))) w0.heap.size w0 W) => Two.callF h (Nat.le_refl _) HXF.out (FsPost.specN (fun T N hv ok => touch_any f S p T N W hv ok HGW.out.1 (HM.out.below h.below) (by have := HL.out; omega) HGW.out.2.2.1 HGW.out.2.2.2)))
    have HRR := hide (fun (W : World) (h : InvN (Two f r (touchS S p).1 S (sep X (BlkN bx O))) w0.heap.size w0 W) => Two.callR h (Nat.le_refl _) HXF.out (RK.specAt (fun A c L ho => rtouch4_any r S A c L p W ho HGW.out.1 (by have := HL.out; omega) HGW.out.2.2.1 HGW.out.2.2.2)))
    obtain ⟨R1, hR1⟩ : ∃ y, (touchS S p) = y := ⟨_, rfl⟩
    rw [hR1] at HF HRR HE
    clear hR1 HR
    go_enter Tryz.func15, Tryz.ntmps15
    go_wp2_with fail
    have hI1 := H1.out.drew (Two.fr f r S S HXF.out) (Nat.le_refl _)
    have HI1 := hide hI1
    clear hI1
    refine wp_region_held_drew (S := (fun W => W.cell? ⟨bx, 1, none⟩ = some (.string (bs p)) ∧ W.cell? ⟨bx, 2, none⟩ = some (.string (bs q)))) (by kernel_rfl) ⟨HCA.out _ _ _ HI1.out 1 _ rfl, HCA.out _ _ _ HI1.out 2 _ rfl⟩ (fun hHeld => ?_)
    refine wpAnyH_tk (i := 0) (oi := _) (v := ?vTouch0) rfl rfl (by kernel_rfl) (by kernel_rfl) (by kernel_rfl) (fun _ _ _ h => h) (Or.inl ⟨by kernel_rfl, ?yTouch0⟩) (by assumption) ?rTouch0
    case yTouch0 =>
      intro w hSw
      (try dsimp only at hSw)
      go_simp
      try with_reducible rfl
    try simp only [List.setIfInBounds_toArray, List.set_cons_zero, List.set_cons_succ]
    refine wpAnyH_tk (i := 1) (oi := _) (v := ?vTouch1) rfl rfl (by kernel_rfl) (by kernel_rfl) (by kernel_rfl) (fun _ _ _ h => h) (Or.inl ⟨by kernel_rfl, ?yTouch1⟩) (by assumption) ?rTouch1
    case yTouch1 =>
      intro w hSw
      (try dsimp only at hSw)
      go_simp
      try with_reducible rfl
    try simp only [List.setIfInBounds_toArray, List.set_cons_zero, List.set_cons_succ]
    refine wpAnyH_tk (i := 2) (oi := _) (v := ?vTouch2) rfl rfl (by kernel_rfl) (by kernel_rfl) (by kernel_rfl) (fun _ _ _ h => h) (Or.inl ⟨by kernel_rfl, ?yTouch2⟩) (by assumption) ?rTouch2
    case yTouch2 =>
      intro w hSw
      (try dsimp only at hSw)
      go_simp
      try with_reducible rfl
    try simp only [List.setIfInBounds_toArray, List.set_cons_zero, List.set_cons_succ]
    refine wpAnyH_tk (i := 5) (oi := _) (v := ?vTouch5) rfl rfl (by kernel_rfl) (by kernel_rfl) (by kernel_rfl) (fun _ _ _ h => h) (Or.inl ⟨by kernel_rfl, ?yTouch5⟩) (by assumption) ?rTouch5
    case yTouch5 =>
      intro w hSw
      (try dsimp only at hSw)
      go_simp
      try with_reducible rfl
    try simp only [List.setIfInBounds_toArray, List.set_cons_zero, List.set_cons_succ]
    refine wpAnyH_tk (i := 6) (oi := _) (v := ?vTouch6) rfl rfl (by kernel_rfl) (by kernel_rfl) (by kernel_rfl) (fun _ _ _ h => h) (Or.inl ⟨by kernel_rfl, ?yTouch6⟩) (by assumption) ?rTouch6
    case yTouch6 =>
      intro w hSw
      (try dsimp only at hSw)
      go_simp
      try with_reducible rfl
    try simp only [List.setIfInBounds_toArray, List.set_cons_zero, List.set_cons_succ]
    refine wpAnyH_tk (i := 7) (oi := _) (v := ?vTouch7) rfl rfl (by kernel_rfl) (by kernel_rfl) (by kernel_rfl) (fun _ _ _ h => h) (Or.inl ⟨by kernel_rfl, ?yTouch7⟩) (by assumption) ?rTouch7
    case yTouch7 =>
      intro w hSw
      (try dsimp only at hSw)
      go_simp
      try with_reducible rfl
    try simp only [List.setIfInBounds_toArray, List.set_cons_zero, List.set_cons_succ]
    refine wpAnyH_ready (rs := [3]) (by kernel_rfl) (by simp) ?_
    refine AllReadyH.cons (o := _) rfl (fun K hK => ?_) AllReadyH.nil
    rw [if_pos (by kernel_rfl)]
    go_simp
    refine (HF.out _ HI1.out).mono ?_
    rintro e w2 ⟨rfl, hi2⟩
    have HI2 := hide hi2
    clear hi2
    refine hK.out _ _ ⟨HCA.out _ _ _ HI2.out 1 _ rfl, HCA.out _ _ _ HI2.out 2 _ rfl⟩ (fun _ => ?_)
    clear hK K
    try simp only [Act.put, List.setIfInBounds_toArray, List.set_cons_zero, List.set_cons_succ]
    refine wpAnyH_ready (rs := [4]) (by kernel_rfl) (by simp) ?_
    refine AllReadyH.cons (o := _) rfl (fun K hK => ?_) AllReadyH.nil
    rw [if_pos (by kernel_rfl)]
    go_simp
    refine (num4_any _ _).mono ?_
    rintro e w' ⟨rfl, rfl⟩
    refine hK.out _ _ ⟨HCA.out _ _ _ HI2.out 1 _ rfl, HCA.out _ _ _ HI2.out 2 _ rfl⟩ (fun _ => ?_)
    clear hK K
    try simp only [Act.put, List.setIfInBounds_toArray, List.set_cons_zero, List.set_cons_succ]
    refine wpAnyH_ready (rs := [8]) (by kernel_rfl) (by simp) ?_
    refine AllReadyH.cons (o := _) rfl (fun K hK => ?_) AllReadyH.nil
    rw [if_pos (by kernel_rfl)]
    go_simp
    refine (HRR.out _ HI2.out).mono ?_
    rintro e w3 ⟨rfl, hi3⟩
    have HI3 := hide hi3
    clear hi3
    refine hK.out _ _ ⟨HCA.out _ _ _ HI3.out 1 _ rfl, HCA.out _ _ _ HI3.out 2 _ rfl⟩ (fun _ => ?_)
    clear hK K
    try simp only [Act.put, List.setIfInBounds_toArray, List.set_cons_zero, List.set_cons_succ]
    refine wpAnyH_tk (i := 9) (oi := _) (v := ?vTouch9) rfl rfl (by kernel_rfl) (by kernel_rfl) (by kernel_rfl) (fun _ _ _ h => h) (Or.inl ⟨by kernel_rfl, ?yTouch9⟩) (by assumption) ?rTouch9
    case yTouch9 =>
      intro w hSw
      (try dsimp only at hSw)
      go_simp
      try with_reducible rfl
    try simp only [List.setIfInBounds_toArray, List.set_cons_zero, List.set_cons_succ]
    refine wpAnyH_tk (i := 10) (oi := _) (v := ?vTouch10) rfl rfl (by kernel_rfl) (by kernel_rfl) (by kernel_rfl) (fun _ _ _ h => h) (Or.inl ⟨by kernel_rfl, ?yTouch10⟩) (by assumption) ?rTouch10
    case yTouch10 =>
      intro w hSw
      (try dsimp only at hSw)
      go_simp
      try with_reducible rfl
    try simp only [List.setIfInBounds_toArray, List.set_cons_zero, List.set_cons_succ]
    refine wpAnyH_done (by kernel_rfl) ?_ _
    go_wp2
    go_ret
    rw [HE.out]
    exact ⟨by simp, Two.less HI3.out⟩
  by_cases hwy : way = 4
  · -- Move
    subst hwy
    have HE := hide (show R = (moveS S p q) from HR.out)
    have HF := hide (fun (W : World) (h : InvN (Two f r S S (sep X (BlkN bx O))) w0.heap.size w0 W) => Two.callF h (Nat.le_refl _) HXF.out (FsPost.specN (fun T N hv ok => move_any f S p q T N W hv ok HGW.out.1 (HM.out.below h.below) (by have := HL.out; omega) (by have := HL.out; omega) HGW.out.2.2.2)))
    have HRR := hide (fun (W : World) (h : InvN (Two f r (moveS S p q).1 S (sep X (BlkN bx O))) w0.heap.size w0 W) => Two.callR h (Nat.le_refl _) HXF.out (RK.specAt (fun A c L ho => rmove4_any r S A c L p q W ho HGW.out.1 HGW.out.2.1 (by have := HL.out; omega) (by have := HL.out; omega) HGW.out.2.2.2)))
    obtain ⟨R1, hR1⟩ : ∃ y, (moveS S p q) = y := ⟨_, rfl⟩
    rw [hR1] at HF HRR HE
    clear hR1 HR
    go_enter Tryz.func15, Tryz.ntmps15
    go_wp2_with fail
    have hI1 := H1.out.drew (Two.fr f r S S HXF.out) (Nat.le_refl _)
    have HI1 := hide hI1
    clear hI1
    refine wp_region_held_drew (S := (fun W => W.cell? ⟨bx, 1, none⟩ = some (.string (bs p)) ∧ W.cell? ⟨bx, 2, none⟩ = some (.string (bs q)))) (by kernel_rfl) ⟨HCA.out _ _ _ HI1.out 1 _ rfl, HCA.out _ _ _ HI1.out 2 _ rfl⟩ (fun hHeld => ?_)
    refine wpAnyH_tk (i := 0) (oi := _) (v := ?vMove0) rfl rfl (by kernel_rfl) (by kernel_rfl) (by kernel_rfl) (fun _ _ _ h => h) (Or.inl ⟨by kernel_rfl, ?yMove0⟩) (by assumption) ?rMove0
    case yMove0 =>
      intro w hSw
      (try dsimp only at hSw)
      go_simp
      try with_reducible rfl
    try simp only [List.setIfInBounds_toArray, List.set_cons_zero, List.set_cons_succ]
    refine wpAnyH_tk (i := 1) (oi := _) (v := ?vMove1) rfl rfl (by kernel_rfl) (by kernel_rfl) (by kernel_rfl) (fun _ _ _ h => h) (Or.inl ⟨by kernel_rfl, ?yMove1⟩) (by assumption) ?rMove1
    case yMove1 =>
      intro w hSw
      (try dsimp only at hSw)
      go_simp
      try with_reducible rfl
    try simp only [List.setIfInBounds_toArray, List.set_cons_zero, List.set_cons_succ]
    refine wpAnyH_tk (i := 2) (oi := _) (v := ?vMove2) rfl rfl (by kernel_rfl) (by kernel_rfl) (by kernel_rfl) (fun _ _ _ h => h) (Or.inl ⟨by kernel_rfl, ?yMove2⟩) (by assumption) ?rMove2
    case yMove2 =>
      intro w hSw
      (try dsimp only at hSw)
      go_simp
      try with_reducible rfl
    try simp only [List.setIfInBounds_toArray, List.set_cons_zero, List.set_cons_succ]
    refine wpAnyH_tk (i := 3) (oi := _) (v := ?vMove3) rfl rfl (by kernel_rfl) (by kernel_rfl) (by kernel_rfl) (fun _ _ _ h => h) (Or.inl ⟨by kernel_rfl, ?yMove3⟩) (by assumption) ?rMove3
    case yMove3 =>
      intro w hSw
      (try dsimp only at hSw)
      go_simp
      try with_reducible rfl
    try simp only [List.setIfInBounds_toArray, List.set_cons_zero, List.set_cons_succ]
    refine wpAnyH_tk (i := 4) (oi := _) (v := ?vMove4) rfl rfl (by kernel_rfl) (by kernel_rfl) (by kernel_rfl) (fun _ _ _ h => h) (Or.inl ⟨by kernel_rfl, ?yMove4⟩) (by assumption) ?rMove4
    case yMove4 =>
      intro w hSw
      (try dsimp only at hSw)
      go_simp
      try with_reducible rfl
    try simp only [List.setIfInBounds_toArray, List.set_cons_zero, List.set_cons_succ]
    refine wpAnyH_tk (i := 7) (oi := _) (v := ?vMove7) rfl rfl (by kernel_rfl) (by kernel_rfl) (by kernel_rfl) (fun _ _ _ h => h) (Or.inl ⟨by kernel_rfl, ?yMove7⟩) (by assumption) ?rMove7
    case yMove7 =>
      intro w hSw
      (try dsimp only at hSw)
      go_simp
      try with_reducible rfl
    try simp only [List.setIfInBounds_toArray, List.set_cons_zero, List.set_cons_succ]
    refine wpAnyH_tk (i := 8) (oi := _) (v := ?vMove8) rfl rfl (by kernel_rfl) (by kernel_rfl) (by kernel_rfl) (fun _ _ _ h => h) (Or.inl ⟨by kernel_rfl, ?yMove8⟩) (by assumption) ?rMove8
    case yMove8 =>
      intro w hSw
      (try dsimp only at hSw)
      go_simp
      try with_reducible rfl
    try simp only [List.setIfInBounds_toArray, List.set_cons_zero, List.set_cons_succ]
    refine wpAnyH_tk (i := 9) (oi := _) (v := ?vMove9) rfl rfl (by kernel_rfl) (by kernel_rfl) (by kernel_rfl) (fun _ _ _ h => h) (Or.inl ⟨by kernel_rfl, ?yMove9⟩) (by assumption) ?rMove9
    case yMove9 =>
      intro w hSw
      (try dsimp only at hSw)
      go_simp
      try with_reducible rfl
    try simp only [List.setIfInBounds_toArray, List.set_cons_zero, List.set_cons_succ]
    refine wpAnyH_tk (i := 10) (oi := _) (v := ?vMove10) rfl rfl (by kernel_rfl) (by kernel_rfl) (by kernel_rfl) (fun _ _ _ h => h) (Or.inl ⟨by kernel_rfl, ?yMove10⟩) (by assumption) ?rMove10
    case yMove10 =>
      intro w hSw
      (try dsimp only at hSw)
      go_simp
      try with_reducible rfl
    try simp only [List.setIfInBounds_toArray, List.set_cons_zero, List.set_cons_succ]
    refine wpAnyH_tk (i := 11) (oi := _) (v := ?vMove11) rfl rfl (by kernel_rfl) (by kernel_rfl) (by kernel_rfl) (fun _ _ _ h => h) (Or.inl ⟨by kernel_rfl, ?yMove11⟩) (by assumption) ?rMove11
    case yMove11 =>
      intro w hSw
      (try dsimp only at hSw)
      go_simp
      try with_reducible rfl
    try simp only [List.setIfInBounds_toArray, List.set_cons_zero, List.set_cons_succ]
    refine wpAnyH_ready (rs := [5]) (by kernel_rfl) (by simp) ?_
    refine AllReadyH.cons (o := _) rfl (fun K hK => ?_) AllReadyH.nil
    rw [if_pos (by kernel_rfl)]
    go_simp
    refine (HF.out _ HI1.out).mono ?_
    rintro e w2 ⟨rfl, hi2⟩
    have HI2 := hide hi2
    clear hi2
    refine hK.out _ _ ⟨HCA.out _ _ _ HI2.out 1 _ rfl, HCA.out _ _ _ HI2.out 2 _ rfl⟩ (fun _ => ?_)
    clear hK K
    try simp only [Act.put, List.setIfInBounds_toArray, List.set_cons_zero, List.set_cons_succ]
    refine wpAnyH_ready (rs := [6]) (by kernel_rfl) (by simp) ?_
    refine AllReadyH.cons (o := _) rfl (fun K hK => ?_) AllReadyH.nil
    rw [if_pos (by kernel_rfl)]
    go_simp
    refine (num4_any _ _).mono ?_
    rintro e w' ⟨rfl, rfl⟩
    refine hK.out _ _ ⟨HCA.out _ _ _ HI2.out 1 _ rfl, HCA.out _ _ _ HI2.out 2 _ rfl⟩ (fun _ => ?_)
    clear hK K
    try simp only [Act.put, List.setIfInBounds_toArray, List.set_cons_zero, List.set_cons_succ]
    refine wpAnyH_ready (rs := [12]) (by kernel_rfl) (by simp) ?_
    refine AllReadyH.cons (o := _) rfl (fun K hK => ?_) AllReadyH.nil
    rw [if_pos (by kernel_rfl)]
    go_simp
    refine (HRR.out _ HI2.out).mono ?_
    rintro e w3 ⟨rfl, hi3⟩
    have HI3 := hide hi3
    clear hi3
    refine hK.out _ _ ⟨HCA.out _ _ _ HI3.out 1 _ rfl, HCA.out _ _ _ HI3.out 2 _ rfl⟩ (fun _ => ?_)
    clear hK K
    try simp only [Act.put, List.setIfInBounds_toArray, List.set_cons_zero, List.set_cons_succ]
    refine wpAnyH_tk (i := 13) (oi := _) (v := ?vMove13) rfl rfl (by kernel_rfl) (by kernel_rfl) (by kernel_rfl) (fun _ _ _ h => h) (Or.inl ⟨by kernel_rfl, ?yMove13⟩) (by assumption) ?rMove13
    case yMove13 =>
      intro w hSw
      (try dsimp only at hSw)
      go_simp
      try with_reducible rfl
    try simp only [List.setIfInBounds_toArray, List.set_cons_zero, List.set_cons_succ]
    refine wpAnyH_tk (i := 14) (oi := _) (v := ?vMove14) rfl rfl (by kernel_rfl) (by kernel_rfl) (by kernel_rfl) (fun _ _ _ h => h) (Or.inl ⟨by kernel_rfl, ?yMove14⟩) (by assumption) ?rMove14
    case yMove14 =>
      intro w hSw
      (try dsimp only at hSw)
      go_simp
      try with_reducible rfl
    try simp only [List.setIfInBounds_toArray, List.set_cons_zero, List.set_cons_succ]
    refine wpAnyH_done (by kernel_rfl) ?_ _
    go_wp2
    go_ret
    rw [HE.out]
    exact ⟨by simp, Two.less HI3.out⟩
  by_cases hwy0 : way = 0
  case neg =>
    have HE := hide (show R = (S, 0) by rw [HR.out, if_neg hwy0, if_neg (by assumption), if_neg (by assumption), if_neg (by assumption), if_neg (by assumption)])
    go_enter Tryz.func15, Tryz.ntmps15
    go_wp2
    go_ret
    rw [HE.out]
    exact ⟨rfl, Two.less H1.out⟩
  subst hwy0
  have HE := hide (show R = writeS S p D more from HR.out)
  have HF := hide (fun (A2 : Option Addr) (c2 : Nat) (W : World) (hr : RG encB 1 W A2 D) (h : InvN (Two f r S S (sep (sep X (BlkN bx O)) (YI (.slice A2 dl c2) dl))) w0.heap.size w0 W) => Two.callF h (Nat.le_refl _) (HXF.out.join (YI.fr _ _)) (FsPost.specN (fun T N hv ok => write_any f S p D more A2 c2 T N W hv ok HGW.out.1 (HM.out.below h.below) (by have := HL.out; omega) HGW.out.2.2.1 (by rw [HDL.out]; omega) HGW.out.2.2.2 hr)))
  have HRR := hide (fun (Y : AsnN) (hY : FrN Y) (W : World) (h : InvN (Two f r (writeS S p D more).1 S (sep (sep X (BlkN bx O)) Y)) w0.heap.size w0 W) => Two.callR h (Nat.le_refl _) (HXF.out.join hY) (RK.specAt (fun A' c' L ho => rwrite4_any r S A' c' L p A c D more W ho HGW.out.1 (by have := HL.out; omega) HGW.out.2.2.1 HGW.out.2.2.2 (by rw [HDL.out]; omega) (HB0.out.below h.below) (fun a e hn => by have h1 := HBLK.out a e hn; have h2 := Two.ge h; omega))))
  obtain ⟨R1, hR1⟩ : ∃ y, writeS S p D more = y := ⟨_, rfl⟩
  rw [hR1] at HF HRR HE
  rw [HDL.out] at HF HRR
  obtain ⟨v2, w2, hrun, o2, g2, b2⟩ := run_appY (c := c) (OwnG.nil w1 w1.heap.size) (HB0.out.below H1.out.below) (Nat.le_refl _) (by have := HDL.out; simp; omega)
  have hb12 : Below w1.heap.size w1 w2 := Below.of_gb g2 (Nat.le_refl _) (fun k hk => by cases hk)
  rw [List.nil_append] at o2
  obtain ⟨A2, c2, rfl, hc2, hr2, _, _⟩ := OwnG.slice encB_len o2
  rw [HDL.out] at hrun o2 hc2
  have HI2 := hide (Two.also (H1.out.add (Two.fr f r S S HXF.out) hb12 (Nat.le_refl _) (YI.fr (.slice A2 dl c2) dl) (YI.own o2 HDL.out) ⟨fun k hk => ⟨(o2.lt k hk).2, fun h => h⟩, fun k h => h.elim⟩ (fun k hk => (o2.lt k hk).1) (fun k h => h.elim)))
  have HR2 := hide hr2
  have hdc : (dl : Int) ≤ (c2 : Int) := by omega
  have hdi : (dl : Int) ≤ 2000 := by omega
  have hc3 := HCA.out _ _ _ H1.out 3 _ rfl
  have hc1' := HCB.out _ _ _ _ HI2.out 1 _ rfl
  have hc4' := HCB.out _ _ _ _ HI2.out 4 _ rfl
  clear o2 g2 b2 hb12 hr2 hR1 HR
  go_enter Tryz.func15, Tryz.ntmps15
  go_wp2_with (first | (at_builtin; refine wpList_app_run ?_ (.const (.slice none 0 0)) (.tmp 15) ?_ ?_ ?_ ?_ hrun ?_; exact rfl; exact rfl; exact rfl; exact rfl; exact rfl))
  refine (HF.out _ _ w2 HR2.out HI2.out).mono ?_
  rintro e w3 ⟨rfl, hi3⟩
  have HI3 := hide hi3
  clear hi3 hc1' hc4' hrun
  go_wp2
  go_loopw [9] (fun v9 wr => ∃ k : Nat, v9 = .int .i64 k ∧ k ≤ dl ∧ Hid (InvN (Two f r R1.1 S (sep (sep X (BlkN bx O)) (YI (.slice A2 dl c2) dl))) w0.heap.size w0 wr)) (fun v9 _ => dl - (intOf v9).toNat)
  case atStart => exact ⟨0, rfl, Nat.zero_le _, HI3.out⟩
  case round =>
    obtain ⟨k, rfl, hk, HI⟩ := hrel
    by_cases hlt : k < dl
    · have hu := HI.out.mono (fun _ _ _ h => sep_unassoc h)
      obtain ⟨gb, z, rfl, _, hcz, hfz⟩ := YI.cell hu hlt
      have b1 : (k : Int) < (dl : Int) := by omega
      have HSET := hide (fun z' => Two.also (YI.set hu (Nat.le_refl _) (Two.fr f r R1.1 S HXF.out) hlt z'))
      clear hu
      go_wp2
      go_roundw
      case rel => exact ⟨k + 1, by go_num, by omega, HSET.out _⟩
      case measure => simp [intOf]; omega
    · obtain rfl : k = dl := by omega
      have HI1 := hide (HI.out.drew (Two.fr f r R1.1 S (HXF.out.join (YI.fr _ _))) (Nat.le_refl _))
      clear hlt
      go_wp2_with fail
      refine wp_region_held_drew (S := (fun W => W.cell? ⟨bx, 1, none⟩ = some (.string (bs p)) ∧ W.cell? ⟨bx, 3, none⟩ = some (.slice A k c) ∧ W.cell? ⟨bx, 4, none⟩ = some (.bool more))) (by kernel_rfl) ⟨HCB.out _ _ _ _ HI1.out 1 _ rfl, HCB.out _ _ _ _ HI1.out 3 _ rfl, HCB.out _ _ _ _ HI1.out 4 _ rfl⟩ (fun hHeld => ?_)
      refine wpAnyH_tk (i := 0) (oi := _) (v := ?vWr0) rfl rfl (by kernel_rfl) (by kernel_rfl) (by kernel_rfl) (fun _ _ _ h => h) (Or.inl ⟨by kernel_rfl, ?yWr0⟩) (by assumption) ?rWr0
      case yWr0 =>
        intro w hSw
        (try dsimp only at hSw)
        go_simp
        try with_reducible rfl
      try simp only [List.setIfInBounds_toArray, List.set_cons_zero, List.set_cons_succ]
      refine wpAnyH_tk (i := 2) (oi := _) (v := ?vWr2) rfl rfl (by kernel_rfl) (by kernel_rfl) (by kernel_rfl) (fun _ _ _ h => h) (Or.inl ⟨by kernel_rfl, ?yWr2⟩) (by assumption) ?rWr2
      case yWr2 =>
        intro w hSw
        (try dsimp only at hSw)
        go_simp
        try with_reducible rfl
      try simp only [List.setIfInBounds_toArray, List.set_cons_zero, List.set_cons_succ]
      refine wpAnyH_tk (i := 3) (oi := _) (v := ?vWr3) rfl rfl (by kernel_rfl) (by kernel_rfl) (by kernel_rfl) (fun _ _ _ h => h) (Or.inl ⟨by kernel_rfl, ?yWr3⟩) (by assumption) ?rWr3
      case yWr3 =>
        intro w hSw
        (try dsimp only at hSw)
        go_simp
        try with_reducible rfl
      try simp only [List.setIfInBounds_toArray, List.set_cons_zero, List.set_cons_succ]
      refine wpAnyH_tk (i := 4) (oi := _) (v := ?vWr4) rfl rfl (by kernel_rfl) (by kernel_rfl) (by kernel_rfl) (fun _ _ _ h => h) (Or.inl ⟨by kernel_rfl, ?yWr4⟩) (by assumption) ?rWr4
      case yWr4 =>
        intro w hSw
        (try dsimp only at hSw)
        go_simp
        try with_reducible rfl
      try simp only [List.setIfInBounds_toArray, List.set_cons_zero, List.set_cons_succ]
      refine wpAnyH_tk (i := 5) (oi := _) (v := ?vWr5) rfl rfl (by kernel_rfl) (by kernel_rfl) (by kernel_rfl) (fun _ _ _ h => h) (Or.inl ⟨by kernel_rfl, ?yWr5⟩) (by assumption) ?rWr5
      case yWr5 =>
        intro w hSw
        (try dsimp only at hSw)
        go_simp
        try with_reducible rfl
      try simp only [List.setIfInBounds_toArray, List.set_cons_zero, List.set_cons_succ]
      refine wpAnyH_tk (i := 6) (oi := _) (v := ?vWr6) rfl rfl (by kernel_rfl) (by kernel_rfl) (by kernel_rfl) (fun _ _ _ h => h) (Or.inl ⟨by kernel_rfl, ?yWr6⟩) (by assumption) ?rWr6
      case yWr6 =>
        intro w hSw
        (try dsimp only at hSw)
        go_simp
        try with_reducible rfl
      try simp only [List.setIfInBounds_toArray, List.set_cons_zero, List.set_cons_succ]
      refine wpAnyH_tk (i := 7) (oi := _) (v := ?vWr7) rfl rfl (by kernel_rfl) (by kernel_rfl) (by kernel_rfl) (fun _ _ _ h => h) (Or.inl ⟨by kernel_rfl, ?yWr7⟩) (by assumption) ?rWr7
      case yWr7 =>
        intro w hSw
        (try dsimp only at hSw)
        go_simp
        try with_reducible rfl
      try simp only [List.setIfInBounds_toArray, List.set_cons_zero, List.set_cons_succ]
      refine wpAnyH_tk (i := 8) (oi := _) (v := ?vWr8) rfl rfl (by kernel_rfl) (by kernel_rfl) (by kernel_rfl) (fun _ _ _ h => h) (Or.inl ⟨by kernel_rfl, ?yWr8⟩) (by assumption) ?rWr8
      case yWr8 =>
        intro w hSw
        (try dsimp only at hSw)
        go_simp
        try with_reducible rfl
      try simp only [List.setIfInBounds_toArray, List.set_cons_zero, List.set_cons_succ]
      refine wpAnyH_ready (rs := [1]) (by kernel_rfl) (by simp) ?_
      refine AllReadyH.cons (o := _) rfl (fun K hK => ?_) AllReadyH.nil
      rw [if_pos (by kernel_rfl)]
      go_simp
      refine (num4_any _ _).mono ?_
      rintro e w' ⟨rfl, rfl⟩
      refine hK.out _ _ ⟨HCB.out _ _ _ _ HI1.out 1 _ rfl, HCB.out _ _ _ _ HI1.out 3 _ rfl, HCB.out _ _ _ _ HI1.out 4 _ rfl⟩ (fun _ => ?_)
      clear hK K
      try simp only [Act.put, List.setIfInBounds_toArray, List.set_cons_zero, List.set_cons_succ]
      refine wpAnyH_ready (rs := [9]) (by kernel_rfl) (by simp) ?_
      refine AllReadyH.cons (o := _) rfl (fun K hK => ?_) AllReadyH.nil
      rw [if_pos (by kernel_rfl)]
      go_simp
      refine (HRR.out _ (YI.fr _ _) _ HI1.out).mono ?_
      rintro e w4 ⟨rfl, hi4⟩
      have HI4 := hide hi4
      clear hi4
      refine hK.out _ _ ⟨HCB.out _ _ _ _ HI4.out 1 _ rfl, HCB.out _ _ _ _ HI4.out 3 _ rfl, HCB.out _ _ _ _ HI4.out 4 _ rfl⟩ (fun _ => ?_)
      clear hK K
      try simp only [Act.put, List.setIfInBounds_toArray, List.set_cons_zero, List.set_cons_succ]
      refine wpAnyH_tk (i := 10) (oi := _) (v := ?vWr10) rfl rfl (by kernel_rfl) (by kernel_rfl) (by kernel_rfl) (fun _ _ _ h => h) (Or.inl ⟨by kernel_rfl, ?yWr10⟩) (by assumption) ?rWr10
      case yWr10 =>
        intro w hSw
        (try dsimp only at hSw)
        go_simp
        try with_reducible rfl
      try simp only [List.setIfInBounds_toArray, List.set_cons_zero, List.set_cons_succ]
      refine wpAnyH_tk (i := 11) (oi := _) (v := ?vWr11) rfl rfl (by kernel_rfl) (by kernel_rfl) (by kernel_rfl) (fun _ _ _ h => h) (Or.inl ⟨by kernel_rfl, ?yWr11⟩) (by assumption) ?rWr11
      case yWr11 =>
        intro w hSw
        (try dsimp only at hSw)
        go_simp
        try with_reducible rfl
      try simp only [List.setIfInBounds_toArray, List.set_cons_zero, List.set_cons_succ]
      refine wpAnyH_done (by kernel_rfl) ?_ _
      go_wp2
      go_ret
      rw [HE.out]
      exact ⟨by simp, Two.less (Two.less HI4.out)⟩
end Go.Proofs.YtkajhdbcnmafcaaGreatDoor
