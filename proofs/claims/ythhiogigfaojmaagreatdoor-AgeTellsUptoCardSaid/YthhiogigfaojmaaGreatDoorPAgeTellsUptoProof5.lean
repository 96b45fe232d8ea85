/- Texts of mine, joined (VfsDoB, VfsWalkK, VfsLawF, VfsLawG, TreesWalk, ContRule, FindWalkB, Ref18A, AgeWalkA, Ref18B, AgeWalkB, Ref18C, AgeLawA): walks and plain facts that the claim uses, each as its own comment says. -/
import Derived.Test.YthhiogigfaojmaaGreatDoorPAgeTellsUptoProof4
import Derived.Laws.BytesArg
import Derived.Deep.LoopGhost
/- Walk of law4's Do: a call, by both; both tell the same. -/
namespace Go.Proofs.YthhiogigfaojmaaGreatDoor
open Go.RowKit Go.Deep Go.Maps Ln Pth Vf
set_option linter.unusedSimpArgs false
set_option linter.unusedVariables false
attribute [local go_sem] bt_eq

theorem sep_assoc {A B C : AsnN} {T N : Nat → Prop} {w : World} (h : sep (sep A B) C T N w) : sep A (sep B C) T N w := by
  obtain ⟨T1, T2, ⟨T3, T4, a, b, s3, s4, d3⟩, c, s1, s2, d⟩ := h
  exact ⟨T3, fun k => T4 k ∨ T2 k, a, ⟨T4, T2, b, c, fun k h => .inl h, fun k h => .inr h, fun k h1 h2 => d k (s4 k h1) h2⟩, fun k h => s1 k (s3 k h), fun k h => h.elim (fun h => s1 k (s4 k h)) (s2 k), fun k h1 h2 => h2.elim (d3 k h1) (d k (s3 k h1))⟩
theorem sep_unassoc {A B C : AsnN} {T N : Nat → Prop} {w : World} (h : sep A (sep B C) T N w) : sep (sep A B) C T N w := by
  obtain ⟨T1, T2, a, ⟨T3, T4, b, c, s3, s4, d3⟩, s1, s2, d⟩ := h
  exact ⟨fun k => T1 k ∨ T3 k, T4, ⟨T1, T3, a, b, fun k h => .inl h, fun k h => .inr h, fun k h1 h2 => d k h1 (s3 k h2)⟩, c, fun k h => h.elim (s1 k) (fun h => s2 k (s3 k h)), fun k h => s2 k (s4 k h), fun k h1 h2 => h1.elim (fun h1 => d k h1 (s4 k h2)) (fun h1 => d3 k h1 h2)⟩
/-- one more thing beside both -/
theorem Two.also {f r : Nat} {S S' : St} {X Y : AsnN} {B : Nat} {w0 w : World} (h : InvN (sep (Two f r S S' X) Y) B w0 w) : InvN (Two f r S S' (sep X Y)) B w0 w := h.mono (fun _ _ _ h => sep_assoc h)
theorem Two.less {f r : Nat} {S S' : St} {X Y : AsnN} {B : Nat} {w0 w : World} (h : InvN (Two f r S S' (sep X Y)) B w0 w) : InvN (Two f r S S' X) B w0 w := (h.mono (fun _ _ _ h => sep_unassoc h)).fst
/-- a byte of the row is written -/
theorem YI.set {P : AsnN} {gb n c k : Nat} {B : Nat} {w0 w : World} (h : InvN (sep P (YI (.slice (some ⟨gb, 0, none⟩) n c) n)) B w0 w) (hB : B ≤ w0.heap.size) (hP : FrN P) (hk : k < n) (z : Int) : InvN (sep P (YI (.slice (some ⟨gb, 0, none⟩) n c) n)) B w0 (w.setCell ⟨gb, k, none⟩ (.int .u8 z)) := by
  obtain ⟨T, N, ⟨T1, T2, p, y, s1, s2, d⟩, ok, ht, hb⟩ := h
  rcases y with ⟨h0, _⟩ | ⟨gb', c', L, e, hl, hc, htg, hr, cur, hcur⟩
  · omega
  · injection e with e1 e2 e3
    injection e1 with e1
    injection e1 with e1 _ _
    subst e1 e3
    have hkp : Kp w (w.setCell ⟨gb, k, none⟩ (.int .u8 z)) (fun k => k = gb) := Kp.set w gb k _
    have hgT := s2 gb htg
    obtain ⟨x, hx⟩ : ∃ x, L[k]? = some x := ⟨L[k]'(by omega), List.getElem?_eq_getElem _⟩
    refine ⟨T, N, ⟨T1, T2, hP T1 N N w _ p (fun j hj => hkp.block j (hj.elim (fun h => (ok.1 j (s1 j h)).1) (ok.2 j)) (fun e => ?_)) (fun _ h => h) hkp.size, .inr ⟨gb, c, L.set k z, rfl, by rw [List.length_set, hl], hc, htg, ?_, _, heapSet hcur _⟩, s1, s2, d⟩, (GrowN.refl ok hkp.size).2.2.2, ht, hkp.below hb hB (fun j e => e ▸ ht gb hgT)⟩
    · subst e
      rcases hj with h | h
      · exact d j h htg
      · exact (ok.1 j hgT).2 h
    · intro j u hj
      rw [List.getElem?_set] at hj
      by_cases e : k = j
      · subst e
        rw [if_pos rfl, if_pos (by omega)] at hj
        injection hj with hj
        subst hj
        obtain ⟨g2, o2, e2, hg2, hc2⟩ := hr k x hx
        injection e2 with e2
        injection e2 with e3 e4 _
        subst e3 e4
        refine ⟨gb, 0, rfl, by simpa using hg2, fun i v hi => ?_⟩
        have hi1 := (List.getElem?_eq_some_iff.1 hi).1
        have hi0 : i = 0 := by simp [encI8] at hi1; exact hi1
        subst hi0
        have hv : v = .int .u8 z := by simpa [encI8] using hi.symm
        subst hv
        have := hc2 0 _ rfl
        rw [Nat.zero_add, Nat.mul_one, Nat.add_zero] at this ⊢
        exact World.cell?_setCell_same' w ⟨gb, k, none⟩ _ (by rw [this]; rfl)
      · rw [if_neg e] at hj
        obtain ⟨g2, o2, e2, hg2, hc2⟩ := hr j u hj
        refine ⟨g2, o2, e2, by simpa using hg2, fun i v hi => ?_⟩
        have hi1 := (List.getElem?_eq_some_iff.1 hi).1
        have hi0 : i = 0 := by simp [encI8] at hi1; exact hi1
        subst hi0
        injection e2 with e2
        injection e2 with e3 e4 _
        subst e3 e4
        rw [World.cell?_setCell_other w _ _ _ (by intro e5; injection e5; omega)]
        exact hc2 0 v hi
theorem YI.cell {P : AsnN} {A : Option Addr} {n c k : Nat} {B : Nat} {w0 w : World} (h : InvN (sep P (YI (.slice A n c) n)) B w0 w) (hk : k < n) : ∃ gb z, A = some ⟨gb, 0, none⟩ ∧ n ≤ c ∧ w.cell? ⟨gb, k, none⟩ = some (.int .u8 z) ∧ w.frozen? ⟨gb, k, none⟩ = false := by
  obtain ⟨T, N, ⟨T1, T2, p, y, s1, s2, d⟩, ok, ht, hb⟩ := h
  rcases y with ⟨h0, _⟩ | ⟨gb, c', L, e, hl, hc, htg, hr, cur, hcur⟩
  · omega
  · injection e with e1 e2 e3
    subst e1 e3
    obtain ⟨x, hx⟩ : ∃ x, L[k]? = some x := ⟨L[k]'(by omega), List.getElem?_eq_getElem _⟩
    obtain ⟨g2, o2, e2, hg2, hc2⟩ := hr k x hx
    injection e2 with e2
    injection e2 with e3 e4 _
    subst e3 e4
    refine ⟨gb, x, rfl, hc, ?_, freeOf hcur k⟩
    have := hc2 0 _ rfl
    rw [Nat.zero_add, Nat.mul_one, Nat.add_zero] at this
    exact this
/-- bytes of the call's own as such a row -/
theorem YI.own {w : World} {base : Nat} {A : Option Addr} {n c : Nat} {L : T} (h : OwnY w base (.slice A n c) L) (hn : L.length = n) : YI (.slice A n c) n (fun k => (Value.slice A n c).ownBlock = some k) (fun _ => False) w := by
  obtain ⟨A', c', e, hc, hr, _, _⟩ := OwnG.slice encB_len h
  rcases h.2 with ⟨e0, h0⟩ | ⟨gb, cap, cur, e2, hg, hh, _⟩
  · exact .inl ⟨by omega, by injection e0 with e1 e2 e3; subst e1 e2 e3; exact ⟨_, _, rfl⟩⟩
  · injection e with e1 e3 e4
    subst e1
    injection e2 with e5 e6 e7
    subst e5
    refine .inr ⟨gb, c, L.map fun b => (b.toNat : Int), rfl, by rw [List.length_map, hn], by omega, rfl, fun k z hk => ?_, cur, hh⟩
    rw [List.getElem?_map] at hk
    cases hb : L[k]? with
    | none => rw [hb] at hk; cases hk
    | some b =>
      rw [hb] at hk
      injection hk with hk
      subst hk
      exact hr k b hb
set_option maxRecDepth 100000 in
set_option maxHeartbeats 8000000 in
theorem do_any (f r : Nat) (S : St) (x : Ac4) (X : AsnN) (hX : FrN X) (w0 w : World) (h : InvN (Two f r S S X) w0.heap.size w0 w) {nodes bytes n : Nat} (hG : GoodS S nodes bytes n) (hby : bytes ≤ 400000) (hn : n ≤ 1000000) (hm : MX w0) (hp : x.p.size ≤ 300) (hq : x.q.size ≤ 300) (hbl : x.b.length ≤ 2000) (hb0 : RG encB 1 w0 x.A x.b) :
    Calls Tryz.prog 51 #[.pointer (some ⟨f, 0, none⟩), .pointer (some ⟨r, 0, none⟩), .agg #[.int .i64 x.way, .string x.p, .string x.q, .slice x.A x.b.length x.c, .bool x.more]] w fun e w' => e = .returned (.bool true) ∧ InvN (Two f r (doS S x).1 (doS S x).1 X) w0.heap.size w0 w' := by
  have hR : doS S x = if x.way = 0 then writeS S (pT x) x.b x.more else if x.way = 1 then mkdirS S (pT x) else if x.way = 2 then removeS S (pT x) else if x.way = 3 then touchS S (pT x) else if x.way = 4 then moveS S (pT x) (qT x) else (S, 0) := rfl
  have hpl : (pT x).length ≤ 300 := by unfold pT; rw [data_len]; exact hp
  have hql : (qT x).length ≤ 300 := by unfold qT; rw [data_len]; exact hq
  have hS := hG.wf
  have hH := hG.hang
  have hby' : S.bytes ≤ 400000 := by rw [hG.bytes]; exact hby
  have hck : S.clock ≤ 1000000000 := by have := hG.clock; omega
  have HB0 := hide hb0
  have HBLK := hide (fun a (e : x.A = some a) (hn : x.b ≠ []) => hb0.block_lt e hn)
  have hpe : bs (pT x) = x.p := pT_bs x
  have hqe : bs (qT x) = x.q := qT_bs x
  obtain ⟨bx, hbx⟩ : ∃ b, w.heap.size = b := ⟨_, rfl⟩
  obtain ⟨way, hway⟩ : ∃ b, x.way = b := ⟨_, rfl⟩
  obtain ⟨ps, hps⟩ : ∃ b, x.p = b := ⟨_, rfl⟩
  obtain ⟨qs, hqs⟩ : ∃ b, x.q = b := ⟨_, rfl⟩
  obtain ⟨A, hA⟩ : ∃ b, x.A = b := ⟨_, rfl⟩
  obtain ⟨c, hc⟩ : ∃ b, x.c = b := ⟨_, rfl⟩
  obtain ⟨D, hD⟩ : ∃ b, x.b = b := ⟨_, rfl⟩
  obtain ⟨more, hmore⟩ : ∃ b, x.more = b := ⟨_, rfl⟩
  obtain ⟨p, hpT⟩ : ∃ b, pT x = b := ⟨_, rfl⟩
  obtain ⟨q, hqT⟩ : ∃ b, qT x = b := ⟨_, rfl⟩
  obtain ⟨R, hRe⟩ : ∃ b, doS S x = b := ⟨_, rfl⟩
  rw [hpT, hps] at hpe
  rw [hqT, hqs] at hqe
  rw [hpT] at hpl
  rw [hqT] at hql
  rw [hway, hpT, hqT, hD, hmore, hRe] at hR
  rw [hA, hD] at HB0 HBLK
  rw [hD] at hbl
  rw [hway, hps, hqs, hA, hc, hD, hmore, hRe]
  rw [← hpe, ← hqe]
  have HR := hide hR
  have hnew := (h.new (Two.fr f r S S hX) (.cells #[.int .i64 way, .string (bs p), .string (bs q), .slice A D.length c, .bool more] 89) (Nat.le_refl _)).mono (fun _ _ _ h => sep_assoc h)
  rw [hbx] at hnew
  obtain ⟨w1, hw1⟩ : ∃ W, w.alloc (.cells #[.int .i64 way, .string (bs p), .string (bs q), .slice A D.length c, .bool more] 89) = W := ⟨_, rfl⟩
  rw [hw1] at hnew
  obtain ⟨dl, hdl⟩ : ∃ n, D.length = n := ⟨_, rfl⟩
  have HDL := hide hdl
  have H1 := hide hnew
  have HXF := hide (hX.join (BlkN.fr bx (.cells #[.int .i64 way, .string (bs p), .string (bs q), .slice A D.length c, .bool more] 89)))
  rw [hdl] at hbl hw1 H1 HXF ⊢
  obtain ⟨O, hO⟩ : ∃ o : Obj, Obj.cells #[.int .i64 way, .string (bs p), .string (bs q), .slice A dl c, .bool more] 89 = o := ⟨_, rfl⟩
  have HCB := hide (fun (S1 S2 : St) (Y : AsnN) (W : World) (h : InvN (Two f r S1 S2 (sep (sep X (BlkN bx O)) Y)) w0.heap.size w0 W) (j : Nat) (v : Value) (hj : #[Value.int .i64 way, .string (bs p), .string (bs q), .slice A dl c, .bool more][j]? = some v) => show W.cell? ⟨bx, j, none⟩ = some v from by
    rw [← hO] at h
    exact BlkN.cell h.snd.fst.snd hj)
  have HCA := hide (fun (S1 S2 : St) (W : World) (h : InvN (Two f r S1 S2 (sep X (BlkN bx O))) w0.heap.size w0 W) (j : Nat) (v : Value) (hj : #[Value.int .i64 way, .string (bs p), .string (bs q), .slice A dl c, .bool more][j]? = some v) => show W.cell? ⟨bx, j, none⟩ = some v from by
    rw [← hO] at h
    exact BlkN.cell h.snd.snd hj)
  rw [hO] at hw1 H1 HXF
  have HM := hide hm
  have HGW := hide (And.intro hS (And.intro hH (And.intro hby' hck)))
  have HL := hide (And.intro hpl hql)
  have hc0 := HCA.out _ _ _ H1.out 0 _ rfl
  clear hR hS hH hby' hck hb0 hpe hqe hway hps hqs hA hc hD hmore hpT hqT hRe hnew h hX hG hby hn hm hp hq hdl
  by_cases hwy : way = 1
  · -- Mkdir
    subst hwy
    have HE := hide (show R = (mkdirS S p) from HR.out)
    have HF := hide (fun (W : World) (h : InvN (Two f r S S (sep X (BlkN bx O))) w0.heap.size w0 W) => Two.callF h (Nat.le_refl _) HXF.out (FsPost.specN (fun T N hv ok => mkdir_any f S p T N W hv ok HGW.out.1 (HM.out.below h.below) (by have := HL.out; omega) HGW.out.2.2.2)))
    have HRR := hide (fun (W : World) (h : InvN (Two f r (mkdirS S p).1 S (sep X (BlkN bx O))) w0.heap.size w0 W) => Two.callR h (Nat.le_refl _) HXF.out (RK.specAt (fun A c L ho => rmkdir4_any r S A c L p W ho HGW.out.1 (by have := HL.out; omega) HGW.out.2.2.2)))
    obtain ⟨R1, hR1⟩ : ∃ y, (mkdirS S p) = y := ⟨_, rfl⟩
    rw [hR1] at HF HRR HE
    clear hR1 HR
    go_enter Tryz.func51, Tryz.ntmps51
    go_wp2_with fail
    have hI1 := H1.out.drew (Two.fr f r S S HXF.out) (Nat.le_refl _)
    have HI1 := hide hI1
    clear hI1
    refine wp_region_held_drew (S := (fun W => W.cell? ⟨bx, 1, none⟩ = some (.string (bs p)) ∧ W.cell? ⟨bx, 2, none⟩ = some (.string (bs q)))) (by kernel_rfl) ⟨HCA.out _ _ _ HI1.out 1 _ rfl, HCA.out _ _ _ HI1.out 2 _ rfl⟩ (fun hHeld => ?_)
    refine wpAnyH_tk (i := 0) (oi := _) (v := ?vMkdir0) rfl rfl (by kernel_rfl) (by kernel_rfl) (by kernel_rfl) (fun _ _ _ h => h) (Or.inl ⟨by kernel_rfl, ?yMkdir0⟩) (by assumption) ?rMkdir0
    case yMkdir0 =>
      intro w hSw
      (try dsimp only at hSw)
      go_simp
      try with_reducible rfl
    try simp only [List.setIfInBounds_toArray, List.set_cons_zero, List.set_cons_succ]
    refine wpAnyH_tk (i := 1) (oi := _) (v := ?vMkdir1) rfl rfl (by kernel_rfl) (by kernel_rfl) (by kernel_rfl) (fun _ _ _ h => h) (Or.inl ⟨by kernel_rfl, ?yMkdir1⟩) (by assumption) ?rMkdir1
    case yMkdir1 =>
      intro w hSw
      (try dsimp only at hSw)
      go_simp
      try with_reducible rfl
    try simp only [List.setIfInBounds_toArray, List.set_cons_zero, List.set_cons_succ]
    refine wpAnyH_tk (i := 2) (oi := _) (v := ?vMkdir2) rfl rfl (by kernel_rfl) (by kernel_rfl) (by kernel_rfl) (fun _ _ _ h => h) (Or.inl ⟨by kernel_rfl, ?yMkdir2⟩) (by assumption) ?rMkdir2
    case yMkdir2 =>
      intro w hSw
      (try dsimp only at hSw)
      go_simp
      try with_reducible rfl
    try simp only [List.setIfInBounds_toArray, List.set_cons_zero, List.set_cons_succ]
    refine wpAnyH_tk (i := 5) (oi := _) (v := ?vMkdir5) rfl rfl (by kernel_rfl) (by kernel_rfl) (by kernel_rfl) (fun _ _ _ h => h) (Or.inl ⟨by kernel_rfl, ?yMkdir5⟩) (by assumption) ?rMkdir5
    case yMkdir5 =>
      intro w hSw
      (try dsimp only at hSw)
      go_simp
      try with_reducible rfl
    try simp only [List.setIfInBounds_toArray, List.set_cons_zero, List.set_cons_succ]
    refine wpAnyH_tk (i := 6) (oi := _) (v := ?vMkdir6) rfl rfl (by kernel_rfl) (by kernel_rfl) (by kernel_rfl) (fun _ _ _ h => h) (Or.inl ⟨by kernel_rfl, ?yMkdir6⟩) (by assumption) ?rMkdir6
    case yMkdir6 =>
      intro w hSw
      (try dsimp only at hSw)
      go_simp
      try with_reducible rfl
    try simp only [List.setIfInBounds_toArray, List.set_cons_zero, List.set_cons_succ]
    refine wpAnyH_tk (i := 7) (oi := _) (v := ?vMkdir7) rfl rfl (by kernel_rfl) (by kernel_rfl) (by kernel_rfl) (fun _ _ _ h => h) (Or.inl ⟨by kernel_rfl, ?yMkdir7⟩) (by assumption) ?rMkdir7
    case yMkdir7 =>
      intro w hSw
      (try dsimp only at hSw)
      go_simp
      try with_reducible rfl
    try simp only [List.setIfInBounds_toArray, List.set_cons_zero, List.set_cons_succ]
    refine wpAnyH_ready (rs := [3]) (by kernel_rfl) (by simp) ?_
    refine AllReadyH.cons (o := _) rfl (fun K hK => ?_) AllReadyH.nil
    rw [if_pos (by kernel_rfl)]
    go_simp
    refine (HF.out _ HI1.out).mono ?_
    rintro e w2 ⟨rfl, hi2⟩
    have HI2 := hide hi2
    clear hi2
    refine hK.out _ _ ⟨HCA.out _ _ _ HI2.out 1 _ rfl, HCA.out _ _ _ HI2.out 2 _ rfl⟩ (fun _ => ?_)
    clear hK K
    try simp only [Act.put, List.setIfInBounds_toArray, List.set_cons_zero, List.set_cons_succ]
    refine wpAnyH_ready (rs := [4]) (by kernel_rfl) (by simp) ?_
    refine AllReadyH.cons (o := _) rfl (fun K hK => ?_) AllReadyH.nil
    rw [if_pos (by kernel_rfl)]
    go_simp
    refine (num4_any _ _).mono ?_
    rintro e w' ⟨rfl, rfl⟩
    refine hK.out _ _ ⟨HCA.out _ _ _ HI2.out 1 _ rfl, HCA.out _ _ _ HI2.out 2 _ rfl⟩ (fun _ => ?_)
    clear hK K
    try simp only [Act.put, List.setIfInBounds_toArray, List.set_cons_zero, List.set_cons_succ]
    refine wpAnyH_ready (rs := [8]) (by kernel_rfl) (by simp) ?_
    refine AllReadyH.cons (o := _) rfl (fun K hK => ?_) AllReadyH.nil
    rw [if_pos (by kernel_rfl)]
    go_simp
    refine (HRR.out _ HI2.out).mono ?_
    rintro e w3 ⟨rfl, hi3⟩
    have HI3 := hide hi3
    clear hi3
    refine hK.out _ _ ⟨HCA.out _ _ _ HI3.out 1 _ rfl, HCA.out _ _ _ HI3.out 2 _ rfl⟩ (fun _ => ?_)
    clear hK K
    try simp only [Act.put, List.setIfInBounds_toArray, List.set_cons_zero, List.set_cons_succ]
    refine wpAnyH_tk (i := 9) (oi := _) (v := ?vMkdir9) rfl rfl (by kernel_rfl) (by kernel_rfl) (by kernel_rfl) (fun _ _ _ h => h) (Or.inl ⟨by kernel_rfl, ?yMkdir9⟩) (by assumption) ?rMkdir9
    case yMkdir9 =>
      intro w hSw
      (try dsimp only at hSw)
      go_simp
      try with_reducible rfl
    try simp only [List.setIfInBounds_toArray, List.set_cons_zero, List.set_cons_succ]
    refine wpAnyH_tk (i := 10) (oi := _) (v := ?vMkdir10) rfl rfl (by kernel_rfl) (by kernel_rfl) (by kernel_rfl) (fun _ _ _ h => h) (Or.inl ⟨by kernel_rfl, ?yMkdir10⟩) (by assumption) ?rMkdir10
    case yMkdir10 =>
      intro w hSw
      (try dsimp only at hSw)
      go_simp
      try with_reducible rfl
    try simp only [List.setIfInBounds_toArray, List.set_cons_zero, List.set_cons_succ]
    refine wpAnyH_done (by kernel_rfl) ?_ _
    go_wp2
    go_ret
    rw [HE.out]
    exact ⟨by simp, Two.less HI3.out⟩
  by_cases hwy : way = 2
  · -- Remove
    subst hwy
    have HE := hide (show R = (removeS S p) from HR.out)
    have HF := hide (fun (W : World) (h : InvN (Two f r S S (sep X (BlkN bx O))) w0.heap.size w0 W) => Two.callF h (Nat.le_refl _) HXF.out (FsPost.specN (fun T N hv ok => remove_any f S p T N W hv ok HGW.out.1 (HM.out.below h.below) (by have := HL.out; omega) HGW.out.2.2.2)))
    have HRR := hide (fun (W : World) (h : InvN (Two f r (removeS S p).1 S (sep X (BlkN bx O))) w0.heap.size w0 W) => Two.callR h (Nat.le_refl _) HXF.out (RK.specAt (fun A c L ho => rremove4_any r S A c L p W ho HGW.out.1 HGW.out.2.1 (by have := HL.out; omega) HGW.out.2.2.2)))
    obtain ⟨R1, hR1⟩ : ∃ y, (removeS S p) = y := ⟨_, rfl⟩
    rw [hR1] at HF HRR HE
    clear hR1 HR
    go_enter Tryz.func51, Tryz.ntmps51
    go_wp2_with fail
    have hI1 := H1.out.drew (Two.fr f r S S HXF.out) (Nat.le_refl _)
    have HI1 := hide hI1
    clear hI1
    refine wp_region_held_drew (S := (fun W => W.cell? ⟨bx, 1, none⟩ = some (.string (bs p)) ∧ W.cell? ⟨bx, 2, none⟩ = some (.string (bs q)))) (by kernel_rfl) ⟨HCA.out _ _ _ HI1.out 1 _ rfl, HCA.out _ _ _ HI1.out 2 _ rfl⟩ (fun hHeld => ?_)
    refine wpAnyH_tk (i := 0) (oi := _) (v := ?vRemove0) rfl rfl (by kernel_rfl) (by kernel_rfl) (by kernel_rfl) (fun _ _ _ h => h) (Or.inl ⟨by kernel_rfl, ?yRemove0⟩) (by assumption) ?rRemove0
    case yRemove0 =>
      intro w hSw
      (try dsimp only at hSw)
      go_simp
      try with_reducible rfl
    try simp only [List.setIfInBounds_toArray, List.set_cons_zero, List.set_cons_succ]
    refine wpAnyH_tk (i := 1) (oi := _) (v := ?vRemove1) rfl rfl (by kernel_rfl) (by kernel_rfl) (by kernel_rfl) (fun _ _ _ h => h) (Or.inl ⟨by kernel_rfl, ?yRemove1⟩) (by assumption) ?rRemove1
    case yRemove1 =>
      intro w hSw
      (try dsimp only at hSw)
      go_simp
      try with_reducible rfl
    try simp only [List.setIfInBounds_toArray, List.set_cons_zero, List.set_cons_succ]
    refine wpAnyH_tk (i := 2) (oi := _) (v := ?vRemove2) rfl rfl (by kernel_rfl) (by kernel_rfl) (by kernel_rfl) (fun _ _ _ h => h) (Or.inl ⟨by kernel_rfl, ?yRemove2⟩) (by assumption) ?rRemove2
    case yRemove2 =>
      intro w hSw
      (try dsimp only at hSw)
      go_simp
      try with_reducible rfl
    try simp only [List.setIfInBounds_toArray, List.set_cons_zero, List.set_cons_succ]
    refine wpAnyH_tk (i := 5) (oi := _) (v := ?vRemove5) rfl rfl (by kernel_rfl) (by kernel_rfl) (by kernel_rfl) (fun _ _ _ h => h) (Or.inl ⟨by kernel_rfl, ?yRemove5⟩) (by assumption) ?rRemove5
    case yRemove5 =>
      intro w hSw
      (try dsimp only at hSw)
      go_simp
      try with_reducible rfl
    try simp only [List.setIfInBounds_toArray, List.set_cons_zero, List.set_cons_succ]
    refine wpAnyH_tk (i := 6) (oi := _) (v := ?vRemove6) rfl rfl (by kernel_rfl) (by kernel_rfl) (by kernel_rfl) (fun _ _ _ h => h) (Or.inl ⟨by kernel_rfl, ?yRemove6⟩) (by assumption) ?rRemove6
    case yRemove6 =>
      intro w hSw
      (try dsimp only at hSw)
      go_simp
      try with_reducible rfl
    try simp only [List.setIfInBounds_toArray, List.set_cons_zero, List.set_cons_succ]
    refine wpAnyH_tk (i := 7) (oi := _) (v := ?vRemove7) rfl rfl (by kernel_rfl) (by kernel_rfl) (by kernel_rfl) (fun _ _ _ h => h) (Or.inl ⟨by kernel_rfl, ?yRemove7⟩) (by assumption) ?rRemove7
    case yRemove7 =>
      intro w hSw
      (try dsimp only at hSw)
      go_simp
      try with_reducible rfl
    try simp only [List.setIfInBounds_toArray, List.set_cons_zero, List.set_cons_succ]
    refine wpAnyH_ready (rs := [3]) (by kernel_rfl) (by simp) ?_
    refine AllReadyH.cons (o := _) rfl (fun K hK => ?_) AllReadyH.nil
    rw [if_pos (by kernel_rfl)]
    go_simp
    refine (HF.out _ HI1.out).mono ?_
    rintro e w2 ⟨rfl, hi2⟩
    have HI2 := hide hi2
    clear hi2
    refine hK.out _ _ ⟨HCA.out _ _ _ HI2.out 1 _ rfl, HCA.out _ _ _ HI2.out 2 _ rfl⟩ (fun _ => ?_)
    clear hK K
    try simp only [Act.put, List.setIfInBounds_toArray, List.set_cons_zero, List.set_cons_succ]
    refine wpAnyH_ready (rs := [4]) (by kernel_rfl) (by simp) ?_
    refine AllReadyH.cons (o := _) rfl (fun K hK => ?_) AllReadyH.nil
    rw [if_pos (by kernel_rfl)]
    go_simp
    refine (num4_any _ _).mono ?_
    rintro e w' ⟨rfl, rfl⟩
    refine hK.out _ _ ⟨HCA.out _ _ _ HI2.out 1 _ rfl, HCA.out _ _ _ HI2.out 2 _ rfl⟩ (fun _ => ?_)
    clear hK K
    try simp only [Act.put, List.setIfInBounds_toArray, List.set_cons_zero, List.set_cons_succ]
    refine wpAnyH_ready (rs := [8]) (by kernel_rfl) (by simp) ?_
    refine AllReadyH.cons (o := _) rfl (fun K hK => ?_) AllReadyH.nil
    rw [if_pos (by kernel_rfl)]
    go_simp
    refine (HRR.out _ HI2.out).mono ?_
    rintro e w3 ⟨rfl, hi3⟩
    have HI3 := hide hi3
    clear hi3
    refine hK.out _ _ ⟨HCA.out _ _ _ HI3.out 1 _ rfl, HCA.out _ _ _ HI3.out 2 _ rfl⟩ (fun _ => ?_)
    clear hK K
    try simp only [Act.put, List.setIfInBounds_toArray, List.set_cons_zero, List.set_cons_succ]
    refine wpAnyH_tk (i := 9) (oi := _) (v := ?vRemove9) rfl rfl (by kernel_rfl) (by kernel_rfl) (by kernel_rfl) (fun _ _ _ h => h) (Or.inl ⟨by kernel_rfl, ?yRemove9⟩) (by assumption) ?rRemove9
    case yRemove9 =>
      intro w hSw
      (try dsimp only at hSw)
      go_simp
      try with_reducible rfl
    try simp only [List.setIfInBounds_toArray, List.set_cons_zero, List.set_cons_succ]
    refine wpAnyH_tk (i := 10) (oi := _) (v := ?vRemove10) rfl rfl (by kernel_rfl) (by kernel_rfl) (by kernel_rfl) (fun _ _ _ h => h) (Or.inl ⟨by kernel_rfl, ?yRemove10⟩) (by assumption) ?rRemove10
    case yRemove10 =>
      intro w hSw
      (try dsimp only at hSw)
      go_simp
      try with_reducible rfl
    try simp only [List.setIfInBounds_toArray, List.set_cons_zero, List.set_cons_succ]
    refine wpAnyH_done (by kernel_rfl) ?_ _
    go_wp2
    go_ret
    rw [HE.out]
    exact ⟨by simp, Two.less HI3.out⟩
  by_cases hwy : way = 3
  · -- Touch
    subst hwy
    have HE := hide (show R = (touchS S p) from HR.out)
    have HF := hide (fun (W : World) (h : InvN (Two f r S S (sep X (BlkN bx O))) w0.heap.size w0 W) => Two.callF h (Nat.le_refl _) HXF.out (FsPost.specN (fun T N hv ok => touch_any f S p T N W hv ok HGW.out.1 (HM.out.below h.below) (by have := HL.out; omega) HGW.out.2.2.1 HGW.out.2.2.2)))
    have HRR := hide (fun (W : World) (h : InvN (Two f r (touchS S p).1 S (sep X (BlkN bx O))) w0.heap.size w0 W) => Two.callR h (Nat.le_refl _) HXF.out (RK.specAt (fun A c L ho => rtouch4_any r S A c L p W ho HGW.out.1 (by have := HL.out; omega) HGW.out.2.2.1 HGW.out.2.2.2)))
    obtain ⟨R1, hR1⟩ : ∃ y, (touchS S p) = y := ⟨_, rfl⟩
    rw [hR1] at HF HRR HE
    clear hR1 HR
    go_enter Tryz.func51, Tryz.ntmps51
    go_wp2_with fail
    have hI1 := H1.out.drew (Two.fr f r S S HXF.out) (Nat.le_refl _)
    have HI1 := hide hI1
    clear hI1
    refine wp_region_held_drew (S := (fun W => W.cell? ⟨bx, 1, none⟩ = some (.string (bs p)) ∧ W.cell? ⟨bx, 2, none⟩ = some (.string (bs q)))) (by kernel_rfl) ⟨HCA.out _ _ _ HI1.out 1 _ rfl, HCA.out _ _ _ HI1.out 2 _ rfl⟩ (fun hHeld => ?_)
    refine wpAnyH_tk (i := 0) (oi := _) (v := ?vTouch0) rfl rfl (by kernel_rfl) (by kernel_rfl) (by kernel_rfl) (fun _ _ _ h => h) (Or.inl ⟨by kernel_rfl, ?yTouch0⟩) (by assumption) ?rTouch0
    case yTouch0 =>
      intro w hSw
      (try dsimp only at hSw)
      go_simp
      try with_reducible rfl
    try simp only [List.setIfInBounds_toArray, List.set_cons_zero, List.set_cons_succ]
    refine wpAnyH_tk (i := 1) (oi := _) (v := ?vTouch1) rfl rfl (by kernel_rfl) (by kernel_rfl) (by kernel_rfl) (fun _ _ _ h => h) (Or.inl ⟨by kernel_rfl, ?yTouch1⟩) (by assumption) ?rTouch1
    case yTouch1 =>
      intro w hSw
      (try dsimp only at hSw)
      go_simp
      try with_reducible rfl
    try simp only [List.setIfInBounds_toArray, List.set_cons_zero, List.set_cons_succ]
    refine wpAnyH_tk (i := 2) (oi := _) (v := ?vTouch2) rfl rfl (by kernel_rfl) (by kernel_rfl) (by kernel_rfl) (fun _ _ _ h => h) (Or.inl ⟨by kernel_rfl, ?yTouch2⟩) (by assumption) ?rTouch2
    case yTouch2 =>
      intro w hSw
      (try dsimp only at hSw)
      go_simp
      try with_reducible rfl
    try simp only [List.setIfInBounds_toArray, List.set_cons_zero, List.set_cons_succ]
    refine wpAnyH_tk (i := 5) (oi := _) (v := ?vTouch5) rfl rfl (by kernel_rfl) (by kernel_rfl) (by kernel_rfl) (fun _ _ _ h => h) (Or.inl ⟨by kernel_rfl, ?yTouch5⟩) (by assumption) ?rTouch5
    case yTouch5 =>
      intro w hSw
      (try dsimp only at hSw)
      go_simp
      try with_reducible rfl
    try simp only [List.setIfInBounds_toArray, List.set_cons_zero, List.set_cons_succ]
    refine wpAnyH_tk (i := 6) (oi := _) (v := ?vTouch6) rfl rfl (by kernel_rfl) (by kernel_rfl) (by kernel_rfl) (fun _ _ _ h => h) (Or.inl ⟨by kernel_rfl, ?yTouch6⟩) (by assumption) ?rTouch6
    case yTouch6 =>
      intro w hSw
      (try dsimp only at hSw)
      go_simp
      try with_reducible rfl
    try simp only [List.setIfInBounds_toArray, List.set_cons_zero, List.set_cons_succ]
    refine wpAnyH_tk (i := 7) (oi := _) (v := ?vTouch7) rfl rfl (by kernel_rfl) (by kernel_rfl) (by kernel_rfl) (fun _ _ _ h => h) (Or.inl ⟨by kernel_rfl, ?yTouch7⟩) (by assumption) ?rTouch7
    case yTouch7 =>
      intro w hSw
      (try dsimp only at hSw)
      go_simp
      try with_reducible rfl
    try simp only [List.setIfInBounds_toArray, List.set_cons_zero, List.set_cons_succ]
    refine wpAnyH_ready (rs := [3]) (by kernel_rfl) (by simp) ?_
    refine AllReadyH.cons (o := _) rfl (fun K hK => ?_) AllReadyH.nil
    rw [if_pos (by kernel_rfl)]
    go_simp
    refine (HF.out _ HI1.out).mono ?_
    rintro e w2 ⟨rfl, hi2⟩
    have HI2 := hide hi2
    clear hi2
    refine hK.out _ _ ⟨HCA.out _ _ _ HI2.out 1 _ rfl, HCA.out _ _ _ HI2.out 2 _ rfl⟩ (fun _ => ?_)
    clear hK K
    try simp only [Act.put, List.setIfInBounds_toArray, List.set_cons_zero, List.set_cons_succ]
    refine wpAnyH_ready (rs := [4]) (by kernel_rfl) (by simp) ?_
    refine AllReadyH.cons (o := _) rfl (fun K hK => ?_) AllReadyH.nil
    rw [if_pos (by kernel_rfl)]
    go_simp
    refine (num4_any _ _).mono ?_
    rintro e w' ⟨rfl, rfl⟩
    refine hK.out _ _ ⟨HCA.out _ _ _ HI2.out 1 _ rfl, HCA.out _ _ _ HI2.out 2 _ rfl⟩ (fun _ => ?_)
    clear hK K
    try simp only [Act.put, List.setIfInBounds_toArray, List.set_cons_zero, List.set_cons_succ]
    refine wpAnyH_ready (rs := [8]) (by kernel_rfl) (by simp) ?_
    refine AllReadyH.cons (o := _) rfl (fun K hK => ?_) AllReadyH.nil
    rw [if_pos (by kernel_rfl)]
    go_simp
    refine (HRR.out _ HI2.out).mono ?_
    rintro e w3 ⟨rfl, hi3⟩
    have HI3 := hide hi3
    clear hi3
    refine hK.out _ _ ⟨HCA.out _ _ _ HI3.out 1 _ rfl, HCA.out _ _ _ HI3.out 2 _ rfl⟩ (fun _ => ?_)
    clear hK K
    try simp only [Act.put, List.setIfInBounds_toArray, List.set_cons_zero, List.set_cons_succ]
    refine wpAnyH_tk (i := 9) (oi := _) (v := ?vTouch9) rfl rfl (by kernel_rfl) (by kernel_rfl) (by kernel_rfl) (fun _ _ _ h => h) (Or.inl ⟨by kernel_rfl, ?yTouch9⟩) (by assumption) ?rTouch9
    case yTouch9 =>
      intro w hSw
      (try dsimp only at hSw)
      go_simp
      try with_reducible rfl
    try simp only [List.setIfInBounds_toArray, List.set_cons_zero, List.set_cons_succ]
    refine wpAnyH_tk (i := 10) (oi := _) (v := ?vTouch10) rfl rfl (by kernel_rfl) (by kernel_rfl) (by kernel_rfl) (fun _ _ _ h => h) (Or.inl ⟨by kernel_rfl, ?yTouch10⟩) (by assumption) ?rTouch10
    case yTouch10 =>
      intro w hSw
      (try dsimp only at hSw)
      go_simp
      try with_reducible rfl
    try simp only [List.setIfInBounds_toArray, List.set_cons_zero, List.set_cons_succ]
    refine wpAnyH_done (by kernel_rfl) ?_ _
    go_wp2
    go_ret
    rw [HE.out]
    exact ⟨by simp, Two.less HI3.out⟩
  by_cases hwy : way = 4
  · -- Move
    subst hwy
    have HE := hide (show R = (moveS S p q) from HR.out)
    have HF := hide (fun (W : World) (h : InvN (Two f r S S (sep X (BlkN bx O))) w0.heap.size w0 W) => Two.callF h (Nat.le_refl _) HXF.out (FsPost.specN (fun T N hv ok => move_any f S p q T N W hv ok HGW.out.1 (HM.out.below h.below) (by have := HL.out; omega) (by have := HL.out; omega) HGW.out.2.2.2)))
    have HRR := hide (fun (W : World) (h : InvN (Two f r (moveS S p q).1 S (sep X (BlkN bx O))) w0.heap.size w0 W) => Two.callR h (Nat.le_refl _) HXF.out (RK.specAt (fun A c L ho => rmove4_any r S A c L p q W ho HGW.out.1 HGW.out.2.1 (by have := HL.out; omega) (by have := HL.out; omega) HGW.out.2.2.2)))
    obtain ⟨R1, hR1⟩ : ∃ y, (moveS S p q) = y := ⟨_, rfl⟩
    rw [hR1] at HF HRR HE
    clear hR1 HR
    go_enter Tryz.func51, Tryz.ntmps51
    go_wp2_with fail
    have hI1 := H1.out.drew (Two.fr f r S S HXF.out) (Nat.le_refl _)
    have HI1 := hide hI1
    clear hI1
    refine wp_region_held_drew (S := (fun W => W.cell? ⟨bx, 1, none⟩ = some (.string (bs p)) ∧ W.cell? ⟨bx, 2, none⟩ = some (.string (bs q)))) (by kernel_rfl) ⟨HCA.out _ _ _ HI1.out 1 _ rfl, HCA.out _ _ _ HI1.out 2 _ rfl⟩ (fun hHeld => ?_)
    refine wpAnyH_tk (i := 0) (oi := _) (v := ?vMove0) rfl rfl (by kernel_rfl) (by kernel_rfl) (by kernel_rfl) (fun _ _ _ h => h) (Or.inl ⟨by kernel_rfl, ?yMove0⟩) (by assumption) ?rMove0
    case yMove0 =>
      intro w hSw
      (try dsimp only at hSw)
      go_simp
      try with_reducible rfl
    try simp only [List.setIfInBounds_toArray, List.set_cons_zero, List.set_cons_succ]
    refine wpAnyH_tk (i := 1) (oi := _) (v := ?vMove1) rfl rfl (by kernel_rfl) (by kernel_rfl) (by kernel_rfl) (fun _ _ _ h => h) (Or.inl ⟨by kernel_rfl, ?yMove1⟩) (by assumption) ?rMove1
    case yMove1 =>
      intro w hSw
      (try dsimp only at hSw)
      go_simp
      try with_reducible rfl
    try simp only [List.setIfInBounds_toArray, List.set_cons_zero, List.set_cons_succ]
    refine wpAnyH_tk (i := 2) (oi := _) (v := ?vMove2) rfl rfl (by kernel_rfl) (by kernel_rfl) (by kernel_rfl) (fun _ _ _ h => h) (Or.inl ⟨by kernel_rfl, ?yMove2⟩) (by assumption) ?rMove2
    case yMove2 =>
      intro w hSw
      (try dsimp only at hSw)
      go_simp
      try with_reducible rfl
    try simp only [List.setIfInBounds_toArray, List.set_cons_zero, List.set_cons_succ]
    refine wpAnyH_tk (i := 3) (oi := _) (v := ?vMove3) rfl rfl (by kernel_rfl) (by kernel_rfl) (by kernel_rfl) (fun _ _ _ h => h) (Or.inl ⟨by kernel_rfl, ?yMove3⟩) (by assumption) ?rMove3
    case yMove3 =>
      intro w hSw
      (try dsimp only at hSw)
      go_simp
      try with_reducible rfl
    try simp only [List.setIfInBounds_toArray, List.set_cons_zero, List.set_cons_succ]
    refine wpAnyH_tk (i := 4) (oi := _) (v := ?vMove4) rfl rfl (by kernel_rfl) (by kernel_rfl) (by kernel_rfl) (fun _ _ _ h => h) (Or.inl ⟨by kernel_rfl, ?yMove4⟩) (by assumption) ?rMove4
    case yMove4 =>
      intro w hSw
      (try dsimp only at hSw)
      go_simp
      try with_reducible rfl
    try simp only [List.setIfInBounds_toArray, List.set_cons_zero, List.set_cons_succ]
    refine wpAnyH_tk (i := 7) (oi := _) (v := ?vMove7) rfl rfl (by kernel_rfl) (by kernel_rfl) (by kernel_rfl) (fun _ _ _ h => h) (Or.inl ⟨by kernel_rfl, ?yMove7⟩) (by assumption) ?rMove7
    case yMove7 =>
      intro w hSw
      (try dsimp only at hSw)
      go_simp
      try with_reducible rfl
    try simp only [List.setIfInBounds_toArray, List.set_cons_zero, List.set_cons_succ]
    refine wpAnyH_tk (i := 8) (oi := _) (v := ?vMove8) rfl rfl (by kernel_rfl) (by kernel_rfl) (by kernel_rfl) (fun _ _ _ h => h) (Or.inl ⟨by kernel_rfl, ?yMove8⟩) (by assumption) ?rMove8
    case yMove8 =>
      intro w hSw
      (try dsimp only at hSw)
      go_simp
      try with_reducible rfl
    try simp only [List.setIfInBounds_toArray, List.set_cons_zero, List.set_cons_succ]
    refine wpAnyH_tk (i := 9) (oi := _) (v := ?vMove9) rfl rfl (by kernel_rfl) (by kernel_rfl) (by kernel_rfl) (fun _ _ _ h => h) (Or.inl ⟨by kernel_rfl, ?yMove9⟩) (by assumption) ?rMove9
    case yMove9 =>
      intro w hSw
      (try dsimp only at hSw)
      go_simp
      try with_reducible rfl
    try simp only [List.setIfInBounds_toArray, List.set_cons_zero, List.set_cons_succ]
    refine wpAnyH_tk (i := 10) (oi := _) (v := ?vMove10) rfl rfl (by kernel_rfl) (by kernel_rfl) (by kernel_rfl) (fun _ _ _ h => h) (Or.inl ⟨by kernel_rfl, ?yMove10⟩) (by assumption) ?rMove10
    case yMove10 =>
      intro w hSw
      (try dsimp only at hSw)
      go_simp
      try with_reducible rfl
    try simp only [List.setIfInBounds_toArray, List.set_cons_zero, List.set_cons_succ]
    refine wpAnyH_tk (i := 11) (oi := _) (v := ?vMove11) rfl rfl (by kernel_rfl) (by kernel_rfl) (by kernel_rfl) (fun _ _ _ h => h) (Or.inl ⟨by kernel_rfl, ?yMove11⟩) (by assumption) ?rMove11
    case yMove11 =>
      intro w hSw
      (try dsimp only at hSw)
      go_simp
      try with_reducible rfl
    try simp only [List.setIfInBounds_toArray, List.set_cons_zero, List.set_cons_succ]
    refine wpAnyH_ready (rs := [5]) (by kernel_rfl) (by simp) ?_
    refine AllReadyH.cons (o := _) rfl (fun K hK => ?_) AllReadyH.nil
    rw [if_pos (by kernel_rfl)]
    go_simp
    refine (HF.out _ HI1.out).mono ?_
    rintro e w2 ⟨rfl, hi2⟩
    have HI2 := hide hi2
    clear hi2
    refine hK.out _ _ ⟨HCA.out _ _ _ HI2.out 1 _ rfl, HCA.out _ _ _ HI2.out 2 _ rfl⟩ (fun _ => ?_)
    clear hK K
    try simp only [Act.put, List.setIfInBounds_toArray, List.set_cons_zero, List.set_cons_succ]
    refine wpAnyH_ready (rs := [6]) (by kernel_rfl) (by simp) ?_
    refine AllReadyH.cons (o := _) rfl (fun K hK => ?_) AllReadyH.nil
    rw [if_pos (by kernel_rfl)]
    go_simp
    refine (num4_any _ _).mono ?_
    rintro e w' ⟨rfl, rfl⟩
    refine hK.out _ _ ⟨HCA.out _ _ _ HI2.out 1 _ rfl, HCA.out _ _ _ HI2.out 2 _ rfl⟩ (fun _ => ?_)
    clear hK K
    try simp only [Act.put, List.setIfInBounds_toArray, List.set_cons_zero, List.set_cons_succ]
    refine wpAnyH_ready (rs := [12]) (by kernel_rfl) (by simp) ?_
    refine AllReadyH.cons (o := _) rfl (fun K hK => ?_) AllReadyH.nil
    rw [if_pos (by kernel_rfl)]
    go_simp
    refine (HRR.out _ HI2.out).mono ?_
    rintro e w3 ⟨rfl, hi3⟩
    have HI3 := hide hi3
    clear hi3
    refine hK.out _ _ ⟨HCA.out _ _ _ HI3.out 1 _ rfl, HCA.out _ _ _ HI3.out 2 _ rfl⟩ (fun _ => ?_)
    clear hK K
    try simp only [Act.put, List.setIfInBounds_toArray, List.set_cons_zero, List.set_cons_succ]
    refine wpAnyH_tk (i := 13) (oi := _) (v := ?vMove13) rfl rfl (by kernel_rfl) (by kernel_rfl) (by kernel_rfl) (fun _ _ _ h => h) (Or.inl ⟨by kernel_rfl, ?yMove13⟩) (by assumption) ?rMove13
    case yMove13 =>
      intro w hSw
      (try dsimp only at hSw)
      go_simp
      try with_reducible rfl
    try simp only [List.setIfInBounds_toArray, List.set_cons_zero, List.set_cons_succ]
    refine wpAnyH_tk (i := 14) (oi := _) (v := ?vMove14) rfl rfl (by kernel_rfl) (by kernel_rfl) (by kernel_rfl) (fun _ _ _ h => h) (Or.inl ⟨by kernel_rfl, ?yMove14⟩) (by assumption) ?rMove14
    case yMove14 =>
      intro w hSw
      (try dsimp only at hSw)
      go_simp
      try with_reducible rfl
    try simp only [List.setIfInBounds_toArray, List.set_cons_zero, List.set_cons_succ]
    refine wpAnyH_done (by kernel_rfl) ?_ _
    go_wp2
    go_ret
    rw [HE.out]
    exact ⟨by simp, Two.less HI3.out⟩
  by_cases hwy0 : way = 0
  case neg =>
    have HE := hide (show R = (S, 0) by rw [HR.out, if_neg hwy0, if_neg (by assumption), if_neg (by assumption), if_neg (by assumption), if_neg (by assumption)])
    go_enter Tryz.func51, Tryz.ntmps51
    go_wp2
    go_ret
    rw [HE.out]
    exact ⟨rfl, Two.less H1.out⟩
  subst hwy0
  have HE := hide (show R = writeS S p D more from HR.out)
  have HF := hide (fun (A2 : Option Addr) (c2 : Nat) (W : World) (hr : RG encB 1 W A2 D) (h : InvN (Two f r S S (sep (sep X (BlkN bx O)) (YI (.slice A2 dl c2) dl))) w0.heap.size w0 W) => Two.callF h (Nat.le_refl _) (HXF.out.join (YI.fr _ _)) (FsPost.specN (fun T N hv ok => write_any f S p D more A2 c2 T N W hv ok HGW.out.1 (HM.out.below h.below) (by have := HL.out; omega) HGW.out.2.2.1 (by rw [HDL.out]; omega) HGW.out.2.2.2 hr)))
  have HRR := hide (fun (Y : AsnN) (hY : FrN Y) (W : World) (h : InvN (Two f r (writeS S p D more).1 S (sep (sep X (BlkN bx O)) Y)) w0.heap.size w0 W) => Two.callR h (Nat.le_refl _) (HXF.out.join hY) (RK.specAt (fun A' c' L ho => rwrite4_any r S A' c' L p A c D more W ho HGW.out.1 (by have := HL.out; omega) HGW.out.2.2.1 HGW.out.2.2.2 (by rw [HDL.out]; omega) (HB0.out.below h.below) (fun a e hn => by have h1 := HBLK.out a e hn; have h2 := Two.ge h; omega))))
  obtain ⟨R1, hR1⟩ : ∃ y, writeS S p D more = y := ⟨_, rfl⟩
  rw [hR1] at HF HRR HE
  rw [HDL.out] at HF HRR
  obtain ⟨v2, w2, hrun, o2, g2, b2⟩ := run_appY (c := c) (OwnG.nil w1 w1.heap.size) (HB0.out.below H1.out.below) (Nat.le_refl _) (by have := HDL.out; simp; omega)
  have hb12 : Below w1.heap.size w1 w2 := Below.of_gb g2 (Nat.le_refl _) (fun k hk => by cases hk)
  rw [List.nil_append] at o2
  obtain ⟨A2, c2, rfl, hc2, hr2, _, _⟩ := OwnG.slice encB_len o2
  rw [HDL.out] at hrun o2 hc2
  have HI2 := hide (Two.also (H1.out.add (Two.fr f r S S HXF.out) hb12 (Nat.le_refl _) (YI.fr (.slice A2 dl c2) dl) (YI.own o2 HDL.out) ⟨fun k hk => ⟨(o2.lt k hk).2, fun h => h⟩, fun k h => h.elim⟩ (fun k hk => (o2.lt k hk).1) (fun k h => h.elim)))
  have HR2 := hide hr2
  have hdc : (dl : Int) ≤ (c2 : Int) := by omega
  have hdi : (dl : Int) ≤ 2000 := by omega
  have hc3 := HCA.out _ _ _ H1.out 3 _ rfl
  have hc1' := HCB.out _ _ _ _ HI2.out 1 _ rfl
  have hc4' := HCB.out _ _ _ _ HI2.out 4 _ rfl
  clear o2 g2 b2 hb12 hr2 hR1 HR
  go_enter Tryz.func51, Tryz.ntmps51
  go_wp2_with (first | (at_builtin; refine wpList_app_run ?_ (.const (.slice none 0 0)) (.tmp 15) ?_ ?_ ?_ ?_ hrun ?_; exact rfl; exact rfl; exact rfl; exact rfl; exact rfl))
  refine (HF.out _ _ w2 HR2.out HI2.out).mono ?_
  rintro e w3 ⟨rfl, hi3⟩
  have HI3 := hide hi3
  clear hi3 hc1' hc4' hrun
  go_wp2
  go_loopw [9] (fun v9 wr => ∃ k : Nat, v9 = .int .i64 k ∧ k ≤ dl ∧ Hid (InvN (Two f r R1.1 S (sep (sep X (BlkN bx O)) (YI (.slice A2 dl c2) dl))) w0.heap.size w0 wr)) (fun v9 _ => dl - (intOf v9).toNat)
  case atStart => exact ⟨0, rfl, Nat.zero_le _, HI3.out⟩
  case round =>
    obtain ⟨k, rfl, hk, HI⟩ := hrel
    by_cases hlt : k < dl
    · have hu := HI.out.mono (fun _ _ _ h => sep_unassoc h)
      obtain ⟨gb, z, rfl, _, hcz, hfz⟩ := YI.cell hu hlt
      have b1 : (k : Int) < (dl : Int) := by omega
      have HSET := hide (fun z' => Two.also (YI.set hu (Nat.le_refl _) (Two.fr f r R1.1 S HXF.out) hlt z'))
      clear hu
      go_wp2
      go_roundw
      case rel => exact ⟨k + 1, by go_num, by omega, HSET.out _⟩
      case measure => simp [intOf]; omega
    · obtain rfl : k = dl := by omega
      have HI1 := hide (HI.out.drew (Two.fr f r R1.1 S (HXF.out.join (YI.fr _ _))) (Nat.le_refl _))
      clear hlt
      go_wp2_with fail
      refine wp_region_held_drew (S := (fun W => W.cell? ⟨bx, 1, none⟩ = some (.string (bs p)) ∧ W.cell? ⟨bx, 3, none⟩ = some (.slice A k c) ∧ W.cell? ⟨bx, 4, none⟩ = some (.bool more))) (by kernel_rfl) ⟨HCB.out _ _ _ _ HI1.out 1 _ rfl, HCB.out _ _ _ _ HI1.out 3 _ rfl, HCB.out _ _ _ _ HI1.out 4 _ rfl⟩ (fun hHeld => ?_)
      refine wpAnyH_tk (i := 0) (oi := _) (v := ?vWr0) rfl rfl (by kernel_rfl) (by kernel_rfl) (by kernel_rfl) (fun _ _ _ h => h) (Or.inl ⟨by kernel_rfl, ?yWr0⟩) (by assumption) ?rWr0
      case yWr0 =>
        intro w hSw
        (try dsimp only at hSw)
        go_simp
        try with_reducible rfl
      try simp only [List.setIfInBounds_toArray, List.set_cons_zero, List.set_cons_succ]
      refine wpAnyH_tk (i := 2) (oi := _) (v := ?vWr2) rfl rfl (by kernel_rfl) (by kernel_rfl) (by kernel_rfl) (fun _ _ _ h => h) (Or.inl ⟨by kernel_rfl, ?yWr2⟩) (by assumption) ?rWr2
      case yWr2 =>
        intro w hSw
        (try dsimp only at hSw)
        go_simp
        try with_reducible rfl
      try simp only [List.setIfInBounds_toArray, List.set_cons_zero, List.set_cons_succ]
      refine wpAnyH_tk (i := 3) (oi := _) (v := ?vWr3) rfl rfl (by kernel_rfl) (by kernel_rfl) (by kernel_rfl) (fun _ _ _ h => h) (Or.inl ⟨by kernel_rfl, ?yWr3⟩) (by assumption) ?rWr3
      case yWr3 =>
        intro w hSw
        (try dsimp only at hSw)
        go_simp
        try with_reducible rfl
      try simp only [List.setIfInBounds_toArray, List.set_cons_zero, List.set_cons_succ]
      refine wpAnyH_tk (i := 4) (oi := _) (v := ?vWr4) rfl rfl (by kernel_rfl) (by kernel_rfl) (by kernel_rfl) (fun _ _ _ h => h) (Or.inl ⟨by kernel_rfl, ?yWr4⟩) (by assumption) ?rWr4
      case yWr4 =>
        intro w hSw
        (try dsimp only at hSw)
        go_simp
        try with_reducible rfl
      try simp only [List.setIfInBounds_toArray, List.set_cons_zero, List.set_cons_succ]
      refine wpAnyH_tk (i := 5) (oi := _) (v := ?vWr5) rfl rfl (by kernel_rfl) (by kernel_rfl) (by kernel_rfl) (fun _ _ _ h => h) (Or.inl ⟨by kernel_rfl, ?yWr5⟩) (by assumption) ?rWr5
      case yWr5 =>
        intro w hSw
        (try dsimp only at hSw)
        go_simp
        try with_reducible rfl
      try simp only [List.setIfInBounds_toArray, List.set_cons_zero, List.set_cons_succ]
      refine wpAnyH_tk (i := 6) (oi := _) (v := ?vWr6) rfl rfl (by kernel_rfl) (by kernel_rfl) (by kernel_rfl) (fun _ _ _ h => h) (Or.inl ⟨by kernel_rfl, ?yWr6⟩) (by assumption) ?rWr6
      case yWr6 =>
        intro w hSw
        (try dsimp only at hSw)
        go_simp
        try with_reducible rfl
      try simp only [List.setIfInBounds_toArray, List.set_cons_zero, List.set_cons_succ]
      refine wpAnyH_tk (i := 7) (oi := _) (v := ?vWr7) rfl rfl (by kernel_rfl) (by kernel_rfl) (by kernel_rfl) (fun _ _ _ h => h) (Or.inl ⟨by kernel_rfl, ?yWr7⟩) (by assumption) ?rWr7
      case yWr7 =>
        intro w hSw
        (try dsimp only at hSw)
        go_simp
        try with_reducible rfl
      try simp only [List.setIfInBounds_toArray, List.set_cons_zero, List.set_cons_succ]
      refine wpAnyH_tk (i := 8) (oi := _) (v := ?vWr8) rfl rfl (by kernel_rfl) (by kernel_rfl) (by kernel_rfl) (fun _ _ _ h => h) (Or.inl ⟨by kernel_rfl, ?yWr8⟩) (by assumption) ?rWr8
      case yWr8 =>
        intro w hSw
        (try dsimp only at hSw)
        go_simp
        try with_reducible rfl
      try simp only [List.setIfInBounds_toArray, List.set_cons_zero, List.set_cons_succ]
      refine wpAnyH_ready (rs := [1]) (by kernel_rfl) (by simp) ?_
      refine AllReadyH.cons (o := _) rfl (fun K hK => ?_) AllReadyH.nil
      rw [if_pos (by kernel_rfl)]
      go_simp
      refine (num4_any _ _).mono ?_
      rintro e w' ⟨rfl, rfl⟩
      refine hK.out _ _ ⟨HCB.out _ _ _ _ HI1.out 1 _ rfl, HCB.out _ _ _ _ HI1.out 3 _ rfl, HCB.out _ _ _ _ HI1.out 4 _ rfl⟩ (fun _ => ?_)
      clear hK K
      try simp only [Act.put, List.setIfInBounds_toArray, List.set_cons_zero, List.set_cons_succ]
      refine wpAnyH_ready (rs := [9]) (by kernel_rfl) (by simp) ?_
      refine AllReadyH.cons (o := _) rfl (fun K hK => ?_) AllReadyH.nil
      rw [if_pos (by kernel_rfl)]
      go_simp
      refine (HRR.out _ (YI.fr _ _) _ HI1.out).mono ?_
      rintro e w4 ⟨rfl, hi4⟩
      have HI4 := hide hi4
      clear hi4
      refine hK.out _ _ ⟨HCB.out _ _ _ _ HI4.out 1 _ rfl, HCB.out _ _ _ _ HI4.out 3 _ rfl, HCB.out _ _ _ _ HI4.out 4 _ rfl⟩ (fun _ => ?_)
      clear hK K
      try simp only [Act.put, List.setIfInBounds_toArray, List.set_cons_zero, List.set_cons_succ]
      refine wpAnyH_tk (i := 10) (oi := _) (v := ?vWr10) rfl rfl (by kernel_rfl) (by kernel_rfl) (by kernel_rfl) (fun _ _ _ h => h) (Or.inl ⟨by kernel_rfl, ?yWr10⟩) (by assumption) ?rWr10
      case yWr10 =>
        intro w hSw
        (try dsimp only at hSw)
        go_simp
        try with_reducible rfl
      try simp only [List.setIfInBounds_toArray, List.set_cons_zero, List.set_cons_succ]
      refine wpAnyH_tk (i := 11) (oi := _) (v := ?vWr11) rfl rfl (by kernel_rfl) (by kernel_rfl) (by kernel_rfl) (fun _ _ _ h => h) (Or.inl ⟨by kernel_rfl, ?yWr11⟩) (by assumption) ?rWr11
      case yWr11 =>
        intro w hSw
        (try dsimp only at hSw)
        go_simp
        try with_reducible rfl
      try simp only [List.setIfInBounds_toArray, List.set_cons_zero, List.set_cons_succ]
      refine wpAnyH_done (by kernel_rfl) ?_ _
      go_wp2
      go_ret
      rw [HE.out]
      exact ⟨by simp, Two.less (Two.less HI4.out)⟩
end Go.Proofs.YthhiogigfaojmaaGreatDoor
/- Walk of the file system's All: every node, in order, in a row of its own. -/
namespace Go.Proofs.YthhiogigfaojmaaGreatDoor
open Go.RowKit Go.Deep Go.Maps Ln Pth Vf
set_option linter.unusedSimpArgs false
set_option linter.unusedVariables false
attribute [local go_sem] bt_eq fld0 fld1 fld2 mkMap

/-- a row of nodes, in blocks from a number on -/
structure NewRow (w : World) (b0 : Nat) (A : Option Addr) (P : List NV) : Prop where
  rg : RG encE 4 w A P
  ge : ∀ a, A = some a → b0 ≤ a.block
  dat : ∀ x ∈ P, RG encB 1 w x.2.A x.2.nd.data ∧ x.2.nd.data.length ≤ x.2.c ∧ ∀ a, x.2.A = some a → b0 ≤ a.block
/-- what All tells -/
def AllPost (S : St) (w : World) (e : Ending) (w' : World) : Prop := (∃ A c P, e = .returned (.slice A P.length c) ∧ P.length ≤ c ∧ NewRow w' w.heap.size A P ∧ stripN P = S.m) ∧ Below w.heap.size w w'
end Go.Proofs.YthhiogigfaojmaaGreatDoor
/- Walks of law4's Big and of the reference's SameEntries. -/
namespace Go.Proofs.YthhiogigfaojmaaGreatDoor
open Go.RowKit Go.Deep Go.Maps Ln Pth Vf
set_option linter.unusedSimpArgs false
set_option linter.unusedVariables false
attribute [local go_sem] bt_eq

/-- a call that is not too great -/
def okA (x : Ac4) : Bool := decide (x.p.size ≤ 300) && decide (x.q.size ≤ 300) && decide (x.b.length ≤ 2000)
def bigF (L : List Ac4) : Bool := !(L.all okA && decide (L.length ≤ 60))
set_option maxRecDepth 100000 in
set_option maxHeartbeats 2000000 in
theorem big_any (A : Option Addr) (c : Nat) (L : List Ac4) (w : World) (h : RG encA4 5 w A L) (hl : L.length ≤ 9223372036854775807) (hs : ∀ x ∈ L, x.p.size ≤ 9223372036854775807 ∧ x.q.size ≤ 9223372036854775807 ∧ x.b.length ≤ 9223372036854775807) :
    Calls Tryz.prog 15 #[.slice A L.length c] w fun e w' => e = .returned (.bool (bigF L)) ∧ w = w' := by
  have HR := hide h
  have HS := hide hs
  obtain ⟨n, hn⟩ : ∃ n, L.length = n := ⟨_, rfl⟩
  have HN := hide hn
  rw [hn] at hl ⊢
  clear h hs hn
  go_enter Tryz.func15, Tryz.ntmps15
  go_wp2
  go_loopw [3] (fun v3 wr => ∃ k : Nat, v3 = .int .i64 k ∧ k ≤ n ∧ Hid ((L.take k).all okA = true) ∧ w = wr) (fun v3 _ => n - (intOf v3).toNat)
  case atStart => exact ⟨0, rfl, by omega, rfl, rfl⟩
  case round =>
    obtain ⟨k, rfl, hk, HOK, rfl⟩ := hrel
    by_cases hlt : k < n
    · obtain ⟨x, hx⟩ : ∃ x, L[k]? = some x := ⟨L[k]'(by have := HN.out; omega), List.getElem?_eq_getElem _⟩
      obtain ⟨gs, o, rfl, hgs, hc⟩ := HR.out k x hx
      obtain ⟨z1, z2, z3⟩ := HS.out x (List.mem_of_getElem? hx)
      have hc1 : w.cell? ⟨gs, o + k * 5 + 1, none⟩ = some (.string x.p) := hc 1 _ rfl
      have hc2 : w.cell? ⟨gs, o + k * 5 + 2, none⟩ = some (.string x.q) := hc 2 _ rfl
      have hc3 : w.cell? ⟨gs, o + k * 5 + 3, none⟩ = some (.slice x.A x.b.length x.c) := hc 3 _ rfl
      have b1 : (k : Int) < (n : Int) := by omega
      have HX := hide hx
      obtain ⟨ps, hps⟩ : ∃ s, x.p = s := ⟨_, rfl⟩
      obtain ⟨qs, hqs⟩ : ∃ s, x.q = s := ⟨_, rfl⟩
      obtain ⟨bl, hbl⟩ : ∃ s, x.b.length = s := ⟨_, rfl⟩
      rw [hps] at hc1 z1
      rw [hqs] at hc2 z2
      rw [hbl] at hc3 z3
      have HOX := hide (show okA x = (decide (ps.size ≤ 300) && decide (qs.size ≤ 300) && decide (bl ≤ 2000)) by unfold okA; rw [hps, hqs, hbl])
      have HBAD := hide (fun (h : okA x = false) => show bigF L = true from by
        unfold bigF
        have : L.all okA = false := by
          rw [List.all_eq_false]
          exact ⟨x, List.mem_of_getElem? HX.out, by rw [h]; simp⟩
        rw [this]
        rfl)
      clear hc hx hgs hps hqs hbl
      by_cases p3 : 300 < ps.size
      · have pi : (300 : Int) < (ps.size : Int) := by omega
        have HE := hide (HBAD.out (by rw [HOX.out]; simp; omega))
        go_wp2
        go_ret
        rw [HE.out]
        exact ⟨rfl, rfl⟩
      have pi : ¬ (300 : Int) < (ps.size : Int) := by omega
      by_cases q3 : 300 < qs.size
      · have qi : (300 : Int) < (qs.size : Int) := by omega
        have HE := hide (HBAD.out (by rw [HOX.out]; simp; omega))
        go_wp2
        go_ret
        rw [HE.out]
        exact ⟨rfl, rfl⟩
      have qi : ¬ (300 : Int) < (qs.size : Int) := by omega
      by_cases b3 : 2000 < bl
      · have bi : (2000 : Int) < (bl : Int) := by omega
        have HE := hide (HBAD.out (by rw [HOX.out]; simp; omega))
        go_wp2
        go_ret
        rw [HE.out]
        exact ⟨rfl, rfl⟩
      have bi : ¬ (2000 : Int) < (bl : Int) := by omega
      have HE := hide (show okA x = true by rw [HOX.out]; simp; omega)
      go_wp2
      go_roundw
      case rel =>
        refine ⟨k + 1, by go_num, by omega, ?_, trivial⟩
        show (L.take (k + 1)).all okA = true
        rw [List.take_add_one, HX.out, List.all_append, HOK.out]
        simp [HE.out]
      case measure => simp [intOf]; omega
    · obtain rfl : n = k := by omega
      have htk : L.take n = L := List.take_of_length_le (by have := HN.out; omega)
      rw [htk] at HOK
      by_cases n6 : 60 < n
      · have ni : (60 : Int) < (n : Int) := by omega
        have HE := hide (show bigF L = true by unfold bigF; rw [HN.out, decide_eq_false (by omega)]; simp)
        clear htk
        go_wp2
        go_ret
        rw [HE.out]
        exact ⟨by simp, rfl⟩
      · have ni : ¬ (60 : Int) < (n : Int) := by omega
        have HE := hide (show bigF L = false by unfold bigF; rw [HOK.out, HN.out, decide_eq_true (by omega)]; rfl)
        clear htk
        go_wp2
        go_ret
        rw [HE.out]
        exact ⟨by simp, rfl⟩
end Go.Proofs.YthhiogigfaojmaaGreatDoor
/- What chapter 4's laws need: both file systems made anew; rows of calls joined; a row of nodes kept beside; that a refused call changes nothing. -/
namespace Go.Proofs.YthhiogigfaojmaaGreatDoor
open Go.RowKit Go.Deep Go.Maps Ln Pth Vf
set_option linter.unusedSimpArgs false
set_option linter.unusedVariables false

/-- no more blocks -/
def noneN : AsnN := fun _ _ _ => True
theorem noneN.fr : FrN noneN := fun _ _ _ _ _ h _ _ _ => h
/-- both file systems, made anew one behind the other -/
theorem Two.start {w0 w1 w2 w3 : World} (n b : Int) (h0 : Below w0.heap.size w0 w1) (hb1 : Below w1.heap.size w1 w2) (hv : VS (w1.heap.size + 1) (newS n b) (fun k => w1.heap.size ≤ k ∧ k < w2.heap.size) (fun _ => False) w2) (hs : w2.heap.size = w1.heap.size + 2)
    (hb2 : Below w2.heap.size w2 w3) (hr : RSO w2.heap.size (newS n b) none 0 [] w3) (hs3 : w3.heap.size = w2.heap.size + 1) : InvN (Two (w1.heap.size + 1) w2.heap.size (newS n b) (newS n b) noneN) w0.heap.size w0 w3 := by
  have hz0 := h0.size
  have hok : OkTN (fun k => w1.heap.size ≤ k ∧ k < w2.heap.size) (fun _ => False) w2 := ⟨fun k hk => ⟨hk.2, fun h => h⟩, fun k h => h.elim⟩
  obtain ⟨hv3, ok3⟩ := hv.stay hok hb2
  refine ⟨fun k => w1.heap.size ≤ k ∧ k < w3.heap.size, fun _ => False, ⟨fun k => w1.heap.size ≤ k ∧ k < w3.heap.size, fun _ => False, ⟨fun k => w1.heap.size ≤ k ∧ k < w2.heap.size, fun k => k = w2.heap.size, hv3, ⟨rfl, none, 0, [], hr.heap, hr.cap, ⟨hr.rg, fun a e => (by cases e), fun x hx => (by cases hx), fun x hx => (by cases hx), fun a e => (by cases e)⟩, hr.eq⟩, fun k hk => ⟨hk.1, by omega⟩, fun k hk => ⟨by omega, by omega⟩, fun k h1 h2 => by omega⟩, trivial, fun k h => h, fun k h => h.elim, fun k h1 h2 => h2⟩, ⟨fun k hk => ⟨hk.2, fun h => h⟩, fun k h => h.elim⟩, fun k hk => by omega, ?_⟩
  exact below_up (below_up h0 hb1 hz0) hb2 (below_up h0 hb1 hz0).size
/-- a row of nodes that is kept beside -/
def RowX (A : Option Addr) (P : List NV) : AsnN := fun _ N w => RG encE 4 w A P ∧ (∀ a, A = some a → P ≠ [] → N a.block) ∧ ∀ x ∈ P, RG encB 1 w x.2.A x.2.nd.data ∧ x.2.nd.data.length ≤ x.2.c ∧ ∀ a, x.2.A = some a → x.2.nd.data ≠ [] → N a.block
theorem RowX.fr (A : Option Addr) (P : List NV) : FrN (RowX A P) := by
  rintro T N N' w w' ⟨h1, h2, h3⟩ hb hn hs
  exact ⟨h1.ofB hs (fun a e hne => hb a.block (.inr (h2 a e hne))), fun a e hne => hn _ (h2 a e hne), fun x hx => ⟨(h3 x hx).1.ofB hs (fun a e hne => hb a.block (.inr ((h3 x hx).2.2 a e hne))), (h3 x hx).2.1, fun a e hne => hn _ ((h3 x hx).2.2 a e hne)⟩⟩
/-- what All told is kept beside -/
theorem Two.row {f r : Nat} {S S' : St} {X : AsnN} {B : Nat} {w0 w w' : World} {A : Option Addr} {P : List NV} (h : InvN (Two f r S S' X) B w0 w) (hX : FrN X) (hB : B ≤ w0.heap.size) (hb : Below w.heap.size w w') (hn : NewRow w' w.heap.size A P) : InvN (Two f r S S' (sep X (RowX A P))) B w0 w' :=
  Two.also (h.add (Two.fr f r S S' hX) hb hB (T2 := fun _ => False) (N2 := fun k => w.heap.size ≤ k ∧ k < w'.heap.size) (RowX.fr A P)
    ⟨hn.rg, fun a e hne => ⟨hn.ge a e, hn.rg.block_lt e hne⟩, fun x hx => ⟨(hn.dat x hx).1, (hn.dat x hx).2.1, fun a e hne => ⟨(hn.dat x hx).2.2 a e, (hn.dat x hx).1.block_lt e hne⟩⟩⟩
    ⟨fun k h => h.elim, fun k h => h.2⟩ (fun k h => h.elim) (fun k h => h.1))
theorem RowX.get {A : Option Addr} {P : List NV} {B : Nat} {w0 w : World} (h : InvN (RowX A P) B w0 w) : RG encE 4 w A P ∧ ∀ x ∈ P, RG encB 1 w x.2.A x.2.nd.data ∧ x.2.nd.data.length ≤ x.2.c := by
  obtain ⟨T, N, ⟨h1, _, h3⟩, _⟩ := h
  exact ⟨h1, fun x hx => ⟨(h3 x hx).1, (h3 x hx).2.1⟩⟩
/-! rows of calls -/
def rowA4 : RowT Tryz.prog 26 89 5 := { z := .agg #[.int .i64 0, .string ⟨#[]⟩, .string ⟨#[]⟩, .slice none 0 0, .bool false], bytes := 72, und := Tryz.underlying26, info := by kernel_rfl, zlen := rfl, pos := by omega, sb := by omega }
end Go.Proofs.YthhiogigfaojmaaGreatDoor
/- Walk of chapter 21's Trees: both file systems of a row of calls hold the same. -/
namespace Go.Proofs.YthhiogigfaojmaaGreatDoor
open Go.RowKit Go.Deep Go.Maps Ln Pth Vf
set_option linter.unusedSimpArgs false
set_option linter.unusedVariables false
attribute [local go_sem] bt_eq

theorem okA_iffT {x : Ac4} (h : okA x = true) : x.p.size ≤ 300 ∧ x.q.size ≤ 300 ∧ x.b.length ≤ 2000 := by
  unfold okA at h
  simp only [Bool.and_eq_true, decide_eq_true_eq] at h
  exact ⟨h.1.1, h.1.2, h.2⟩
theorem bigF_noT {L : List Ac4} (h : bigF L = false) : (∀ x ∈ L, okA x = true) ∧ L.length ≤ 60 := by
  unfold bigF at h
  simp only [Bool.not_eq_false', Bool.and_eq_true, decide_eq_true_eq, List.all_eq_true] at h
  exact h
/-- what a row of calls leaves -/
def treeS (L : List Ac4) : St := actsS (newS 40 4000) L
theorem treeS_good (L : List Ac4) : GoodS (treeS L) 40 4000 L.length := by
  have := GoodS.acts L (GoodS.new 40 4000)
  rw [Nat.zero_add] at this
  exact this
set_option maxRecDepth 100000 in
set_option maxHeartbeats 4000000 in
theorem trees_any (A : Option Addr) (c : Nat) (L : List Ac4) (W : World) (hm : MX W) (h : AR4 W A L) (hb : bigF L = false) :
    Calls Tryz.prog 16 #[.slice A L.length c] W fun e w' => ∃ f r, e = .returned (.tuple #[.pointer (some ⟨f, 0, none⟩), .pointer (some ⟨r, 0, none⟩)]) ∧ InvN (Two f r (treeS L) (treeS L) noneN) W.heap.size W w' := by
  obtain ⟨hok, hl60⟩ := bigF_noT hb
  have HOK := hide hok
  have HM := hide hm
  have HAR := hide h
  obtain ⟨nl, hn⟩ : ∃ n, L.length = n := ⟨_, rfl⟩
  have HN := hide hn
  rw [hn] at hl60 ⊢
  clear hb hok hm h hn
  have HNW := hide (vnew_any 40 4000 W (by omega) (by omega) (by omega) (by omega))
  go_enter Tryz.func16, Tryz.ntmps16
  go_wp2_with fail
  refine HNW.out.mono ?_
  rintro e w4 ⟨rfl, hb4, hv4, hs4⟩
  have HNR := hide (rnew_any 40 4000 w4)
  go_wp2_with fail
  refine HNR.out.mono ?_
  rintro e w5 ⟨rfl, hb5, hr5, hs5⟩
  have HI0 := hide (Two.start 40 4000 (Below.refl W.heap.size W) hb4 hv4 hs4 hb5 hr5 hs5)
  have HG0 := hide (GoodS.new 40 4000)
  have HT0 := hide (show treeS L = actsS (newS 40 4000) (L.take nl) by rw [List.take_of_length_le (by have := HN.out; omega)]; rfl)
  obtain ⟨f, hf⟩ : ∃ f, W.heap.size + 1 = f := ⟨_, rfl⟩
  obtain ⟨r, hr⟩ : ∃ f, w4.heap.size = f := ⟨_, rfl⟩
  have hby0 : (newS 40 4000).bytes ≤ 400000 := by decide
  obtain ⟨S0, hS0⟩ : ∃ S, newS 40 4000 = S := ⟨_, rfl⟩
  rw [hf, hr, hS0] at HI0
  rw [hS0] at HG0 HT0 hby0
  rw [hf, hr]
  clear hb4 hv4 hs4 hb5 hr5 hs5 HNW HNR hf hr hS0
  go_wp2
  go_loopw [6] (fun v6 wr => ∃ i : Nat, v6 = .int .i64 i ∧ i ≤ nl ∧ Hid (InvN (Two f r (actsS S0 (L.take i)) (actsS S0 (L.take i)) noneN) W.heap.size W wr)) (fun v6 _ => nl - (intOf v6).toNat)
  case atStart => exact ⟨0, rfl, Nat.zero_le _, HI0.out⟩
  case round =>
    obtain ⟨wo, hwo⟩ : ∃ Z, Z = wr := ⟨_, rfl⟩
    subst hwo
    obtain ⟨i, rfl, hi, HI⟩ := hrel
    by_cases hlt : i < nl
    case neg =>
      obtain rfl : i = nl := by omega
      go_wp2
      go_ret2
      exact ⟨f, r, rfl, by rw [HT0.out]; exact HI.out⟩
    have har := HAR.out.below HI.out.below
    obtain ⟨y, hy⟩ : ∃ y, L[i]? = some y := ⟨L[i]'(by have := HN.out; omega), List.getElem?_eq_getElem _⟩
    obtain ⟨gs, og, rfl, hgs, hc⟩ := har.1 i y hy
    have c0 : wo.cell? ⟨gs, og + i * 5, none⟩ = some (.int .i64 y.way) := by have := hc 0 _ rfl; simpa using this
    have c1 : wo.cell? ⟨gs, og + i * 5 + 1, none⟩ = some (.string y.p) := hc 1 _ rfl
    have c2 : wo.cell? ⟨gs, og + i * 5 + 2, none⟩ = some (.string y.q) := hc 2 _ rfl
    have c3 : wo.cell? ⟨gs, og + i * 5 + 3, none⟩ = some (.slice y.A y.b.length y.c) := hc 3 _ rfl
    have c4 : wo.cell? ⟨gs, og + i * 5 + 4, none⟩ = some (.bool y.more) := hc 4 _ rfl
    obtain ⟨z1, z2, z3⟩ := okA_iffT (HOK.out y (List.mem_of_getElem? hy))
    have hgd := GoodS.acts (L.take i) HG0.out
    have HDO := hide (do_any f r _ y noneN noneN.fr W wo HI.out hgd hby0 (by rw [List.length_take]; omega) HM.out z1 z2 z3 (HAR.out.2 y (List.mem_of_getElem? hy)))
    rw [← actsS_take hy] at HDO
    have b1 : (i : Int) < (nl : Int) := by omega
    clear hy hc hgs z1 z2 z3 hgd har
    go_wp2_with fail
    refine HDO.out.mono ?_
    rintro e w6 ⟨rfl, hi6⟩
    have HI6 := hide hi6
    clear hi6 HDO
    go_wp2
    go_roundw
    case rel => exact ⟨i + 1, by go_num, by omega, HI6.out⟩
    case measure => simp [intOf]; omega
end Go.Proofs.YthhiogigfaojmaaGreatDoor
/- Walks of slices.IndexFunc and slices.ContainsFunc at rules, for a function that may make memory. -/
namespace Go.Proofs.YthhiogigfaojmaaGreatDoor
open Go.RowKit Go.Deep
/-- where the first is, and whether there is one -/
def IdxPostR (p : Rl → Bool) (L : List Rl) (w : World) (e : Ending) (w' : World) : Prop := ∃ i : Int, e = .returned (.int .i64 i) ∧ decide (0 ≤ i) = L.any p ∧ Below w.heap.size w w'
set_option maxRecDepth 100000 in
set_option maxHeartbeats 1000000 in
theorem idxr_any (p : Rl → Bool) (g : Nat) (lb : Array Value) (eg : ∀ args w, (callFunc g args).run Tryz.prog w = .ok (.enter g args) w) (A : Option Addr) (c : Nat) (L : List Rl) (w : World) (hl : L.length ≤ 1000000) (hA : RLS w A L)
    (hf : ∀ (W : World) (x : Rl), x ∈ L → Below w.heap.size w W → Calls Tryz.prog g (#[.agg #[sv x.tg, sv x.nd, sv x.rc]] ++ lb) W fun e w' => e = .returned (.bool (p x)) ∧ Below w.heap.size w w') :
    Calls Tryz.prog 216 #[.slice A L.length c, .func (.func g) #[] lb] w (IdxPostR p L w) := by
  have HA := hide hA
  have HF := hide hf
  clear hA hf
  obtain ⟨n, hn⟩ : ∃ n, L.length = n := ⟨_, rfl⟩
  have HN := hide hn
  rw [hn] at hl ⊢
  clear hn
  have hn1 : (n : Int) ≤ 1000000 := by omega
  go_enter Tryz.func216, Tryz.ntmps216
  go_wp2
  go_loopw [5, 8] (fun _v5 v8 wr => ∃ k : Nat, v8 = .int .i64 k ∧ k ≤ n ∧ Hid ((L.take k).any p = false) ∧ Below w.heap.size w wr) (fun _ v8 _ => n - (intOf v8).toNat)
  case atStart => exact ⟨0, rfl, by omega, rfl, Below.refl _ _⟩
  case round =>
    obtain ⟨k, rfl, hk, HP, hb⟩ := hrel
    have HB := hide hb
    have HAR := hide (HA.out.below hb)
    clear hb
    by_cases hlt : k < n
    · obtain ⟨x, hx⟩ : ∃ x, L[k]? = some x := ⟨L[k]'(by have := HN.out; omega), List.getElem?_eq_getElem _⟩
      obtain ⟨gs, o, rfl, hg, hc⟩ := HAR.out.1 k x hx
      have hc1 : wr.cell? ⟨gs, o + k * 3, none⟩ = some (sv x.tg) := by have := hc 0 _ rfl; simpa using this
      have hc2 : wr.cell? ⟨gs, o + k * 3 + 1, none⟩ = some (sv x.nd) := hc 1 _ rfl
      have hc3 : wr.cell? ⟨gs, o + k * 3 + 2, none⟩ = some (sv x.rc) := hc 2 _ rfl
      clear hc
      have hcall := HF.out wr x (List.mem_of_getElem? hx) HB.out
      have b1 : (k : Int) < (n : Int) := by omega
      have HX := hide hx
      clear hx
      obtain ⟨pb, hpb⟩ : ∃ b, p x = b := ⟨_, rfl⟩
      rw [hpb] at hcall
      have HPB := hide hpb
      clear hpb
      have HC := hide hcall
      clear hcall
      go_wp2_with fail
      refine HC.out.mono ?_
      rintro e w' ⟨rfl, hb'⟩
      have HB' := hide hb'
      clear hb'
      cases pb with
      | true =>
        go_wp2
        go_ret
        refine ⟨_, rfl, ?_, HB'.out⟩
        have : L.any p = true := List.any_eq_true.2 ⟨x, List.mem_of_getElem? HX.out, HPB.out⟩
        rw [this]
        simp
      | false =>
        go_wp2
        go_roundw
        case rel =>
          refine ⟨k + 1, by go_num, by omega, ?_, HB'.out⟩
          show (L.take (k + 1)).any p = false
          rw [List.take_add_one, List.any_append, HP.out, HX.out]
          simpa using HPB.out
        case measure => simp [intOf]; omega
    · obtain rfl : k = n := by omega
      have HE := hide (show L.any p = false by
        have := HP.out
        rwa [List.take_of_length_le (by have := HN.out; omega)] at this)
      go_wp2
      go_ret
      exact ⟨_, rfl, by rw [HE.out]; rfl, HB.out⟩
set_option maxRecDepth 100000 in
theorem contr_any (p : Rl → Bool) (g : Nat) (lb : Array Value) (eg : ∀ args w, (callFunc g args).run Tryz.prog w = .ok (.enter g args) w) (A : Option Addr) (c : Nat) (L : List Rl) (w : World) (hl : L.length ≤ 1000000) (hA : RLS w A L)
    (hf : ∀ (W : World) (x : Rl), x ∈ L → Below w.heap.size w W → Calls Tryz.prog g (#[.agg #[sv x.tg, sv x.nd, sv x.rc]] ++ lb) W fun e w' => e = .returned (.bool (p x)) ∧ Below w.heap.size w w') :
    Calls Tryz.prog 161 #[.slice A L.length c, .func (.func g) #[] lb] w fun e w' => e = .returned (.bool (L.any p)) ∧ Below w.heap.size w w' := by
  have HI := hide (idxr_any p g lb eg A c L w hl hA hf)
  clear hA hf
  obtain ⟨n, hn⟩ : ∃ n, L.length = n := ⟨_, rfl⟩
  rw [hn] at HI ⊢
  clear hn hl
  obtain ⟨b, hb⟩ : ∃ b, L.any p = b := ⟨_, rfl⟩
  unfold IdxPostR at HI
  rw [hb] at HI ⊢
  clear hb
  go_enter Tryz.func161, Tryz.ntmps161
  go_wp2_with fail
  refine HI.out.mono ?_
  rintro e w' ⟨i, rfl, hi, hb'⟩
  have HI2 := hide hi
  have HB := hide hb'
  clear hi hb'
  go_wp2
  go_ret
  refine ⟨?_, HB.out⟩
  rw [← HI2.out]
  rfl
end Go.Proofs.YthhiogigfaojmaaGreatDoor
/- Walks of find.Known and find.Has. -/
namespace Go.Proofs.YthhiogigfaojmaaGreatDoor
open Go.RowKit Go.Deep
attribute [local go_sem] bt_eq

set_option maxRecDepth 100000 in
set_option maxHeartbeats 1000000 in
theorem known1_any (g : Nat) (name : ByteArray) (r : Rl) (w : World) (hc : w.cell? ⟨g, 0, none⟩ = some (.string name)) (hr : RlOk w r) :
    Calls Tryz.prog 162 #[.agg #[sv r.tg, sv r.nd, sv r.rc], .pointer (some ⟨g, 0, none⟩)] w fun e w' => e = .returned (.bool (ofR name r)) ∧ Below w.heap.size w w' := by
  have HRK := hide hr
  have hgl := World.block_lt_of_cell? _ _ hc
  have HPL := hide (fun W (hb : Below w.heap.size w W) => plain_any r W (HRK.out.below hb))
  have HCT := hide (fun W (hb : Below w.heap.size w W) => cont_any r.tg.1 r.tg.2.1 r.tg.2.2 name W (HRK.out.tg.below hb) (by have := HRK.out.t1; omega))
  have hof : ofR name r = (plainR r.tg.2.2 && Lib.containsS r.tg.2.2 name) := rfl
  obtain ⟨p1, hp1⟩ : ∃ b, plainR r.tg.2.2 = b := ⟨_, rfl⟩
  obtain ⟨p2, hp2⟩ : ∃ b, Lib.containsS r.tg.2.2 name = b := ⟨_, rfl⟩
  rw [hp1] at HPL hof
  rw [hp2] at HCT hof
  rw [hof]
  clear hof hp1 hp2 hr
  have HC := hide hc
  unfold sv at HPL ⊢
  have HNB := hide (heapNew w (.cells #[.slice r.tg.1 r.tg.2.2.length r.tg.2.1, .slice r.nd.1 r.nd.2.2.length r.nd.2.1, .slice r.rc.1 r.rc.2.2.length r.rc.2.1] 73))
  have HBA := hide ((Below.refl w.heap.size w).alloc (Nat.le_refl _) (.cells #[.slice r.tg.1 r.tg.2.2.length r.tg.2.1, .slice r.nd.1 r.nd.2.2.length r.nd.2.1, .slice r.rc.1 r.rc.2.2.length r.rc.2.1] 73))
  go_enter Tryz.func162, Tryz.ntmps162
  go_wp2_with fail
  refine (HPL.out _ HBA.out).mono ?_
  rintro e w1 ⟨rfl, hb1⟩
  have hk1 := hb1.block w.heap.size (Array.getElem?_eq_some_iff.1 HNB.out).1
  have hd0 := cellOf' (hk1.trans HNB.out) (j := 0) rfl
  have HB1 := hide (below_up HBA.out hb1 HBA.out.size)
  clear hb1 hk1 hc
  have hc := (HB1.out.cell (p := ⟨g, 0, none⟩) hgl).trans HC.out
  cases p1 with
  | false =>
    go_wp2
    go_ret
    exact ⟨rfl, HB1.out⟩
  | true =>
    go_wp2_with fail
    refine (HCT.out _ HB1.out).mono ?_
    rintro e w' ⟨rfl, rfl⟩
    go_wp2
    go_ret
    exact ⟨rfl, HB1.out⟩
set_option maxRecDepth 100000 in
set_option maxHeartbeats 1000000 in
theorem known_any (mac : Value) (A : Option Addr) (c : Nat) (L : List Rl) (name : ByteArray) (w : World) (hA : RLS w A L) (hl : L.length ≤ 1000) :
    Calls Tryz.prog 107 #[.agg #[mac, .slice A L.length c], .string name] w fun e w' => e = .returned (.bool (knownR L name)) ∧ Below w.heap.size w w' := by
  have HA := hide hA
  have h1 := (Below.refl w.heap.size w).alloc (Nat.le_refl _) (.cells #[mac, .slice A L.length c] 25)
  have h2 := h1.alloc (by simp) (.cells #[.string name] 9)
  have hnb := heapNew (w.alloc (.cells #[mac, .slice A L.length c] 25)) (.cells #[.string name] 9)
  have HB2 := hide h2
  have HCR := hide (contr_any (ofR name) 162 #[.pointer (some ⟨w.heap.size + 1, 0, none⟩)] (fun _ _ => by kernel_rfl) A c L ((w.alloc (.cells #[mac, .slice A L.length c] 25)).alloc (.cells #[.string name] 9)) (by omega) (HA.out.below h2) (fun W x hx hb => by
    have hnb' : ((w.alloc (.cells #[mac, .slice A L.length c] 25)).alloc (.cells #[.string name] 9)).heap[w.heap.size + 1]? = some (.cells #[.string name] 9) := by simpa using hnb
    have hcw := cellOf' ((hb.block (w.heap.size + 1) (by simp)).trans hnb') (j := 0) rfl
    exact (known1_any (w.heap.size + 1) name x W hcw ((HA.out.2 x hx).below (h2.trans (hb.mono (by simp; omega))))).mono (fun e w' ⟨h3, h4⟩ => ⟨h3, hb.trans (h4.mono hb.size)⟩)))
  have hkn : L.any (ofR name) = knownR L name := rfl
  rw [hkn] at HCR
  generalize knownR L name = b at *
  obtain ⟨n, hn⟩ : ∃ n, L.length = n := ⟨_, rfl⟩
  rw [hn] at HCR HB2 hl ⊢
  clear hA h1 h2 hnb hkn hn HA
  go_enter Tryz.func107, Tryz.ntmps107
  go_wp2_with fail
  refine HCR.out.mono ?_
  rintro e w' ⟨rfl, hb⟩
  have HB := hide (below_up HB2.out hb HB2.out.size)
  clear hb
  go_wp2
  go_ret
  exact ⟨rfl, HB.out⟩
set_option maxRecDepth 100000 in
set_option maxHeartbeats 1000000 in
theorem has_any (mac : Value) (A : Option Addr) (c : Nat) (L : List Rl) (name target : ByteArray) (w : World) (hA : RLS w A L) (hl : L.length ≤ 1000) (hs : (specialR L name).length ≤ 900000) :
    Calls Tryz.prog 53 #[.agg #[mac, .slice A L.length c], .string name, .string target] w fun e w' => e = .returned (.bool (hasR L name target)) ∧ Below w.heap.size w w' := by
  have HA := hide hA
  have HSP := hide (fun W (hb : Below w.heap.size w W) => special_any mac A c L name W (HA.out.below hb) hl (fun k => by have := special_len_take L name k; omega))
  have HKN := hide (fun W (hb : Below w.heap.size w W) => known_any mac A c L name W (HA.out.below hb) hl)
  have hR : hasR L name target = (Lib.containsS (specialR L name) target || (decide ((specialR L name).length = 0) && knownR L name)) := rfl
  generalize specialR L name = SP at *
  generalize knownR L name = kn at *
  obtain ⟨ct, hct⟩ : ∃ b, Lib.containsS SP target = b := ⟨_, rfl⟩
  obtain ⟨n, hn⟩ : ∃ n, L.length = n := ⟨_, rfl⟩
  rw [hct] at hR
  rw [hn] at HSP HKN ⊢
  have HR := hide hR
  have HCT := hide hct
  have h1 := (Below.refl w.heap.size w).alloc (Nat.le_refl _) (.cells #[mac, .slice A n c] 25)
  have HNB := hide (heapNew w (.cells #[mac, .slice A n c] 25))
  have HB1 := hide h1
  clear hA hR hct hn hl h1
  go_enter Tryz.func53, Tryz.ntmps53
  go_wp2_with fail
  refine (HSP.out _ HB1.out).mono ?_
  rintro e w1 ⟨⟨v, rfl, ho⟩, hb⟩
  obtain ⟨A5, c5, rfl, hc5, hsr, _⟩ := ho.slice
  have hk1 := hb.block w.heap.size (by simp)
  have hd0 := cellOf' (hk1.trans HNB.out) (j := 0) rfl
  have hd1 := cellOf' (hk1.trans HNB.out) (j := 1) rfl
  have HCN := hide (cont_any A5 c5 SP target w1 hsr (by omega))
  rw [HCT.out] at HCN
  have HB2 := hide (below_up HB1.out hb HB1.out.size)
  clear ho hb hsr hk1
  obtain ⟨m, hm⟩ : ∃ m, SP.length = m := ⟨_, rfl⟩
  rw [hm] at HCN hc5 hs ⊢
  have HM := hide hm
  clear hm
  have hm1 : (m : Int) ≤ 900000 := by omega
  go_wp2_with fail
  refine HCN.out.mono ?_
  rintro e w' ⟨rfl, rfl⟩
  cases ct with
  | true =>
    have HE := hide (show hasR L name target = true by rw [HR.out]; rfl)
    go_wp2
    go_ret
    rw [HE.out]
    exact ⟨rfl, HB2.out⟩
  | false =>
    by_cases m0 : m = 0
    · subst m0
      have HE := hide (show hasR L name target = kn by rw [HR.out, HM.out]; simp)
      go_wp2_with fail
      refine (HKN.out _ HB2.out).mono ?_
      rintro e w3 ⟨rfl, hb3⟩
      have HB3 := hide (below_up HB2.out hb3 HB2.out.size)
      clear hb3
      go_wp2
      go_ret
      rw [HE.out]
      exact ⟨rfl, HB3.out⟩
    · have m0' : ((m : Int) == 0) = false := by simpa using m0
      have HE := hide (show hasR L name target = false by rw [HR.out, HM.out, decide_eq_false m0]; rfl)
      clear m0
      go_wp2
      go_ret
      rw [HE.out]
      exact ⟨rfl, HB2.out⟩
end Go.Proofs.YthhiogigfaojmaaGreatDoor
/- Walks of the reference's has, plain, Special, Known and Has: what they ask of rules. -/
namespace Go.Proofs.YthhiogigfaojmaaGreatDoor
open Go.RowKit Go.Deep Ln
set_option linter.unusedSimpArgs false
set_option linter.unusedVariables false
attribute [local go_sem] bt_eq

theorem cont_nil (s : ByteArray) : Lib.containsS [] s = false := Bool.eq_false_iff.2 fun h => by simpa using (Lib.containsS_iff _ _).1 h
theorem toL_ne {x s : ByteArray} (h : ¬ x = s) : (x.toList == s.toList) = false := by
  rw [ByteArray.toList_eq, ByteArray.toList_eq, beq_eq_false_iff_ne]
  intro e
  exact h (ByteArray.ext (Array.toList_inj.1 e))
theorem cont_take {L : List ByteArray} {k : Nat} {x : ByteArray} (h : L[k]? = some x) (s : ByteArray) : Lib.containsS (L.take (k + 1)) s = (Lib.containsS (L.take k) s || decide (x = s)) := by
  rw [List.take_add_one, h, Bool.eq_iff_iff, Bool.or_eq_true, Lib.containsS_iff, Lib.containsS_iff, decide_eq_true_eq]
  simp [eq_comm]
set_option maxRecDepth 100000 in
set_option maxHeartbeats 1000000 in
theorem rhas_any (A : Option Addr) (c : Nat) (L : List ByteArray) (s : ByteArray) (w : World) (hA : SR w A L) (hl : L.length ≤ 50000000) :
    Calls Tryz.prog 59 #[.slice A L.length c, .string s] w fun e w' => e = .returned (.bool (Lib.containsS L s)) ∧ w = w' := by
  have HA := hide hA
  obtain ⟨n, hn⟩ : ∃ n, L.length = n := ⟨_, rfl⟩
  have HN := hide hn
  have HT := hide (fun k x (h : L[k]? = some x) => cont_take h s)
  have HF := hide (show Lib.containsS (L.take n) s = Lib.containsS L s by rw [List.take_of_length_le (by omega)])
  have hn1 : (n : Int) ≤ 100000000 := by omega
  rw [hn]
  clear hn hA
  go_enter Tryz.func59, Tryz.ntmps59
  go_wp2
  go_loop [5] (fun v5 => ∃ k : Nat, v5 = .int .i64 k ∧ k ≤ n ∧ Hid (Lib.containsS (L.take k) s = false)) (fun v5 => n - (intOf v5).toNat)
  case atStart => exact ⟨0, rfl, by omega, hide (cont_nil s)⟩
  case round =>
    obtain ⟨k, rfl, hk, HR⟩ := hrel
    by_cases hlt : k < n
    · obtain ⟨x, hx⟩ : ∃ x, L[k]? = some x := ⟨L[k]'(by have := HN.out; omega), List.getElem?_eq_getElem _⟩
      obtain ⟨g, o, rfl, hg, hc⟩ := HA.out k x hx
      have b1 : (k : Int) < (n : Int) := by omega
      have ht := HT.out k x hx
      by_cases he : x = s
      · subst he
        have HE := hide (show Lib.containsS L x = true from (Lib.containsS_iff _ _).2 (List.mem_of_getElem? hx))
        clear hx ht
        go_wp2
        go_ret
        rw [HE.out]
        exact ⟨rfl, rfl⟩
      · have hne := toL_ne he
        have HE := hide (show Lib.containsS (L.take (k + 1)) s = false by rw [ht, HR.out, decide_eq_false he]; rfl)
        clear hx ht he
        go_wp2
        go_round
        case rel => exact ⟨k + 1, by go_num, by omega, HE⟩
        case measure => simp [intOf]; omega
    · obtain rfl : k = n := by omega
      have HE := hide (show Lib.containsS L s = false by rw [← HF.out]; exact HR.out)
      go_wp2
      go_ret
      rw [HE.out]
      exact ⟨rfl, rfl⟩
theorem isP_ix (x : ByteArray) : isP x = decide (0 ≤ Lib.indexByte x.data.toList 37) := by
  unfold isP
  rw [Bool.eq_iff_iff, decide_eq_true_eq, decide_eq_true_eq, ixb_mem]
set_option maxRecDepth 100000 in
set_option maxHeartbeats 1000000 in
theorem rplain_any (r : Rl) (w : World) (hr : RlOk w r) (hz : ∀ s ∈ r.tg.2.2, s.size ≤ 800000) :
    Calls Tryz.prog 64 #[.agg #[sv r.tg, sv r.nd, sv r.rc]] w fun e w' => e = .returned (.bool (plainR r.tg.2.2)) ∧ Below w.heap.size w w' := by
  obtain ⟨⟨A, c, L⟩, nd, rc⟩ := r
  have HA := hide hr.tg
  have hl : L.length ≤ 100000 := hr.t1
  have HZ := hide (show ∀ s ∈ L, s.size ≤ 800000 from hz)
  obtain ⟨n, hn⟩ : ∃ n, L.length = n := ⟨_, rfl⟩
  have HN := hide hn
  have HT := hide (fun k x (h : L[k]? = some x) => show (L.take (k + 1)).any isP = ((L.take k).any isP || isP x) by rw [List.take_add_one, h]; simp)
  have HF := hide (show (L.take n).any isP = L.any isP by rw [List.take_of_length_le (by omega)])
  have hn1 : (n : Int) ≤ 100000 := by omega
  unfold sv
  unfold plainR
  simp only [hn]
  clear hn hr hz
  have HB0 := hide ((Below.refl w.heap.size w).alloc (Nat.le_refl _) (.cells #[.slice A n c, .slice nd.1 nd.2.2.length nd.2.1, .slice rc.1 rc.2.2.length rc.2.1] 73))
  have HNB := hide (heapNew w (.cells #[.slice A n c, .slice nd.1 nd.2.2.length nd.2.1, .slice rc.1 rc.2.2.length rc.2.1] 73))
  go_enter Tryz.func64, Tryz.ntmps64
  go_wp2
  generalize w.alloc (.cells #[.slice A n c, .slice nd.1 nd.2.2.length nd.2.1, .slice rc.1 rc.2.2.length rc.2.1] 73) = W at HB0 HNB ⊢
  have c0 := cellOf' HNB.out (j := 0) rfl
  go_loop [3] (fun v3 => ∃ k : Nat, v3 = .int .i64 k ∧ k ≤ n ∧ Hid ((L.take k).any isP = false)) (fun v3 => n - (intOf v3).toNat)
  case atStart => exact ⟨0, rfl, by omega, hide (by simp)⟩
  case round =>
    obtain ⟨k, rfl, hk, HR⟩ := hrel
    by_cases hlt : k < n
    · obtain ⟨x, hx⟩ : ∃ x, L[k]? = some x := ⟨L[k]'(by have := HN.out; omega), List.getElem?_eq_getElem _⟩
      obtain ⟨g, o, rfl, hg, hc⟩ := HA.out.below HB0.out k x hx
      have b1 : (k : Int) < (n : Int) := by omega
      have ht := HT.out k x hx
      have hxz := HZ.out x (List.mem_of_getElem? hx)
      have HAT := hide (rat0_any x.data.toList 37 W (by rw [data_len]; omega))
      rw [bs_of] at HAT
      have hge := ixb_ge 37 x.data.toList
      have hip := isP_ix x
      obtain ⟨q, hq⟩ : ∃ q, Lib.indexByte x.data.toList 37 = q := ⟨_, rfl⟩
      rw [hq] at HAT hge hip
      by_cases he : 0 ≤ q
      · have HE := hide (show L.any isP = true by
          rw [List.any_eq_true]
          exact ⟨x, List.mem_of_getElem? hx, by rw [hip]; exact decide_eq_true he⟩)
        clear hx ht hq hip
        go_wp2_with fail
        refine HAT.out.mono ?_
        rintro e w' ⟨rfl, rfl⟩
        go_wp2
        go_ret
        rw [HE.out]
        exact ⟨rfl, HB0.out⟩
      · have HE := hide (show (L.take (k + 1)).any isP = false by rw [ht, HR.out, hip, decide_eq_false he]; rfl)
        clear hx ht hq hip
        go_wp2_with fail
        refine HAT.out.mono ?_
        rintro e w' ⟨rfl, rfl⟩
        go_wp2
        go_round
        case rel => exact ⟨k + 1, by go_num, by omega, HE⟩
        case measure => simp [intOf]; omega
    · obtain rfl : k = n := by omega
      have HE := hide (show L.any isP = false by rw [← HF.out]; exact HR.out)
      go_wp2
      go_ret
      rw [HE.out]
      exact ⟨rfl, HB0.out⟩
theorem ownS_base {w : World} {base base' : Nat} {v : Value} {L : List ByteArray} (h : OwnS w base v L) (hb : base' ≤ base) : OwnS w base' v L :=
  ⟨h.1, h.2.imp id fun ⟨g, cap, cur, e, hg, r⟩ => ⟨g, cap, cur, e, by omega, r⟩⟩
/-- sizes of targets that the reference can look through -/
def TgZ (L : List Rl) : Prop := ∀ r ∈ L, ∀ s ∈ r.tg.2.2, s.size ≤ 800000
theorem any_take {α : Type} {L : List α} {k : Nat} {x : α} (p : α → Bool) (h : L[k]? = some x) : (L.take (k + 1)).any p = ((L.take k).any p || p x) := by rw [List.take_add_one, h]; simp
set_option maxRecDepth 100000 in
set_option maxHeartbeats 2000000 in
theorem rknown_any (mac : Value) (A : Option Addr) (c : Nat) (L : List Rl) (name : ByteArray) (w : World) (hA : RLS w A L) (hl : L.length ≤ 1000) (hz : TgZ L) :
    Calls Tryz.prog 110 #[.agg #[mac, .slice A L.length c], .string name] w fun e w' => e = .returned (.bool (knownR L name)) ∧ Below w.heap.size w w' := by
  have HA := hide hA
  have HZ := hide hz
  obtain ⟨n, hn⟩ : ∃ n, L.length = n := ⟨_, rfl⟩
  have HN := hide hn
  have HT := hide (fun k x (h : L[k]? = some x) => any_take (ofR name) h)
  have HF := hide (show (L.take n).any (ofR name) = L.any (ofR name) by rw [List.take_of_length_le (by omega)])
  have hn1 : (n : Int) ≤ 1000 := by omega
  unfold knownR
  rw [hn]
  clear hn hA hz
  have HB0 := hide ((Below.refl w.heap.size w).alloc (Nat.le_refl _) (.cells #[mac, .slice A n c] 25))
  have HNB := hide (heapNew w (.cells #[mac, .slice A n c] 25))
  go_enter Tryz.func110, Tryz.ntmps110
  go_wp2
  generalize w.alloc (.cells #[mac, .slice A n c] 25) = W at HB0 HNB ⊢
  go_loopw [5] (fun v5 wr => ∃ k : Nat, v5 = .int .i64 k ∧ k ≤ n ∧ Hid ((L.take k).any (ofR name) = false) ∧ Below w.heap.size w wr ∧ wr.heap[w.heap.size]? = some (.cells #[mac, .slice A n c] 25)) (fun v5 _ => n - (intOf v5).toNat)
  case atStart => exact ⟨0, rfl, by omega, hide (by simp), HB0.out, HNB.out⟩
  case round =>
    obtain ⟨k, rfl, hk, HR, hb, hnb⟩ := hrel
    have HB := hide hb
    have HH := hide hnb
    have m0 := cellOf' hnb (j := 0) rfl
    have m1 := cellOf' hnb (j := 1) rfl
    have hlw := (Array.getElem?_eq_some_iff.1 hnb).1
    clear hb hnb
    by_cases hlt : k < n
    · obtain ⟨r, hr⟩ : ∃ r, L[k]? = some r := ⟨L[k]'(by have := HN.out; omega), List.getElem?_eq_getElem _⟩
      obtain ⟨⟨ta, tc, tl⟩, ⟨na, nc, nl⟩, ⟨ra, rc, rl⟩⟩ := r
      have har := HA.out.below HB.out
      obtain ⟨g, o, rfl, hg, hc⟩ := har.1 k _ hr
      have HRK := hide (har.2 _ (List.mem_of_getElem? hr))
      have hzr := HZ.out _ (List.mem_of_getElem? hr)
      have c0 : wr.cell? ⟨g, o + k * 3, none⟩ = some (.slice ta tl.length tc) := by have := hc 0 _ rfl; simpa [sv] using this
      have c1 : wr.cell? ⟨g, o + k * 3 + 1, none⟩ = some (.slice na nl.length nc) := hc 1 _ rfl
      have c2 : wr.cell? ⟨g, o + k * 3 + 2, none⟩ = some (.slice ra rl.length rc) := hc 2 _ rfl
      have ht := HT.out k _ hr
      have b1 : (k : Int) < (n : Int) := by omega
      have HPL := hide (rplain_any ⟨(ta, tc, tl), (na, nc, nl), (ra, rc, rl)⟩ wr HRK.out hzr)
      have HCT := hide (fun Z (hb : Below wr.heap.size wr Z) => rhas_any ta tc tl name Z (HRK.out.tg.below hb) (by have := HRK.out.t1; simp at this; omega))
      have hof : ofR name ⟨(ta, tc, tl), (na, nc, nl), (ra, rc, rl)⟩ = (plainR tl && Lib.containsS tl name) := rfl
      have hex := fun (h : ofR name ⟨(ta, tc, tl), (na, nc, nl), (ra, rc, rl)⟩ = true) => show L.any (ofR name) = true from List.any_eq_true.2 ⟨_, List.mem_of_getElem? hr, h⟩
      obtain ⟨p1, hp1⟩ : ∃ b, plainR tl = b := ⟨_, rfl⟩
      obtain ⟨p2, hp2⟩ : ∃ b, Lib.containsS tl name = b := ⟨_, rfl⟩
      unfold sv at HPL
      simp only at HPL
      rw [hp1] at HPL hof
      rw [hp2] at HCT hof
      rw [hof] at ht hex
      have HTK := hide ht
      have HEX := hide hex
      obtain ⟨tn, htn⟩ : ∃ n, tl.length = n := ⟨_, rfl⟩
      rw [htn] at c0 HPL HCT
      have HGL := hide hg
      have hgl : g < wr.heap.size := hg
      have hce := HB.out.size
      clear hc hr hzr har ht hof hex hp1 hp2 htn
      go_wp2_with fail
      refine HPL.out.mono ?_
      rintro e w1 ⟨rfl, hb1⟩
      have m1 := (hb1.cell (p := ⟨w.heap.size, 1, none⟩) hlw).trans m1
      have c0 := (hb1.cell (p := ⟨g, o + k * 3, none⟩) hgl).trans c0
      have HH1 := hide ((hb1.block _ hlw).trans HH.out)
      have HB1 := hide (below_up HB.out hb1 hce)
      have HCT1 := hide (HCT.out w1 hb1)
      clear hb1
      cases p1 with
      | false =>
        go_wp2
        go_roundw
        case rel => exact ⟨k + 1, by go_num, by omega, hide (by rw [HTK.out, HR.out]; rfl), HB1.out, HH1.out⟩
        case measure => simp [intOf]; omega
      | true =>
        go_wp2_with fail
        refine HCT1.out.mono ?_
        rintro e w' ⟨rfl, rfl⟩
        cases p2 with
        | false =>
          go_wp2
          go_roundw
          case rel => exact ⟨k + 1, by go_num, by omega, hide (by rw [HTK.out, HR.out]; rfl), HB1.out, HH1.out⟩
          case measure => simp [intOf]; omega
        | true =>
          go_wp2
          go_ret
          rw [HEX.out rfl]
          exact ⟨rfl, HB1.out⟩
    · obtain rfl : k = n := by omega
      have HE := hide (show L.any (ofR name) = false by rw [← HF.out]; exact HR.out)
      go_wp2
      go_ret
      rw [HE.out]
      exact ⟨rfl, HB.out⟩
set_option maxRecDepth 100000 in
set_option maxHeartbeats 2000000 in
theorem rspecial_any (mac : Value) (A : Option Addr) (c : Nat) (L : List Rl) (name : ByteArray) (w : World) (hA : RLS w A L) (hl : L.length ≤ 1000) (hz : TgZ L) (hs : ∀ k, (specialR (L.take k) name).length ≤ 900000) :
    Calls Tryz.prog 68 #[.agg #[mac, .slice A L.length c], .string name] w fun e w' => (∃ v, e = .returned v ∧ OwnS w' w.heap.size v (specialR L name)) ∧ Below w.heap.size w w' := by
  have HA := hide hA
  have HZ := hide hz
  have HS := hide hs
  obtain ⟨n, hn⟩ : ∃ n, L.length = n := ⟨_, rfl⟩
  have HN := hide hn
  have HT := hide (fun k x (h : L[k]? = some x) => special_take h name)
  have HF := hide (show specialR (L.take n) name = specialR L name by rw [List.take_of_length_le (by omega)])
  have hn1 : (n : Int) ≤ 1000 := by omega
  rw [hn]
  clear hn hA hz hs
  have HB0 := hide ((Below.refl w.heap.size w).alloc (Nat.le_refl _) (.cells #[mac, .slice A n c] 25))
  have HNB := hide (heapNew w (.cells #[mac, .slice A n c] 25))
  go_enter Tryz.func68, Tryz.ntmps68
  go_wp2
  generalize hWW : w.alloc (.cells #[mac, .slice A n c] 25) = W at HB0 HNB ⊢
  have hwsz : W.heap.size = w.heap.size + 1 := by rw [← hWW]; simp
  clear hWW
  go_loopw [5, 6] (fun v5 v6 wr => ∃ k : Nat, v6 = .int .i64 k ∧ k ≤ n ∧ OwnS wr (w.heap.size + 1) v5 (specialR (L.take k) name) ∧ Below w.heap.size w wr ∧ wr.heap[w.heap.size]? = some (.cells #[mac, .slice A n c] 25)) (fun _ v6 _ => n - (intOf v6).toNat)
  case atStart => exact ⟨0, rfl, by omega, OwnS.nil _ _, HB0.out, HNB.out⟩
  case round =>
    obtain ⟨k, rfl, hk, ho, hb, hnb⟩ := hrel
    have HO := hide ho
    have HB := hide hb
    have HH := hide hnb
    have m0 := cellOf' hnb (j := 0) rfl
    have m1 := cellOf' hnb (j := 1) rfl
    have hlw := (Array.getElem?_eq_some_iff.1 hnb).1
    clear hb hnb ho
    by_cases hlt : k < n
    · obtain ⟨r, hr⟩ : ∃ r, L[k]? = some r := ⟨L[k]'(by have := HN.out; omega), List.getElem?_eq_getElem _⟩
      obtain ⟨⟨ta, tc, tl⟩, ⟨na, nc, nl⟩, ⟨ra, rc, rl⟩⟩ := r
      have har := HA.out.below HB.out
      obtain ⟨g, o, rfl, hg, hc⟩ := har.1 k _ hr
      have HRK := hide (har.2 _ (List.mem_of_getElem? hr))
      have hzr := HZ.out _ (List.mem_of_getElem? hr)
      have c0 : wr.cell? ⟨g, o + k * 3, none⟩ = some (.slice ta tl.length tc) := by have := hc 0 _ rfl; simpa [sv] using this
      have c1 : wr.cell? ⟨g, o + k * 3 + 1, none⟩ = some (.slice na nl.length nc) := hc 1 _ rfl
      have c2 : wr.cell? ⟨g, o + k * 3 + 2, none⟩ = some (.slice ra rl.length rc) := hc 2 _ rfl
      have ht := HT.out k _ hr
      have hlen := HS.out (k + 1)
      rw [ht, List.length_append] at hlen
      have b1 : (k : Int) < (n : Int) := by omega
      have HPL := hide (rplain_any ⟨(ta, tc, tl), (na, nc, nl), (ra, rc, rl)⟩ wr HRK.out hzr)
      have HCT := hide (fun Z (hb : Below wr.heap.size wr Z) => rhas_any ta tc tl name Z (HRK.out.tg.below hb) (by have := HRK.out.t1; simp at this; omega))
      have hof : ofR name ⟨(ta, tc, tl), (na, nc, nl), (ra, rc, rl)⟩ = (plainR tl && Lib.containsS tl name) := rfl
      obtain ⟨p1, hp1⟩ : ∃ b, plainR tl = b := ⟨_, rfl⟩
      obtain ⟨p2, hp2⟩ : ∃ b, Lib.containsS tl name = b := ⟨_, rfl⟩
      unfold sv at HPL
      simp only at HPL
      rw [hp1] at HPL hof
      rw [hp2] at HCT hof
      rw [hof] at ht hlen
      have HTK := hide ht
      have HLN := hide hlen
      obtain ⟨tn, htn⟩ : ∃ n, tl.length = n := ⟨_, rfl⟩
      rw [htn] at c0 HPL HCT
      have HNL := hide (show SR wr na nl from HRK.out.nd)
      have hgl : g < wr.heap.size := hg
      have hce := HB.out.size
      clear hc hr hzr har ht hof hp1 hp2 htn hlen
      go_wp2_with fail
      refine HPL.out.mono ?_
      rintro e w1 ⟨rfl, hb1⟩
      have m1 := (hb1.cell (p := ⟨w.heap.size, 1, none⟩) hlw).trans m1
      have c0 := (hb1.cell (p := ⟨g, o + k * 3, none⟩) hgl).trans c0
      have c1 := (hb1.cell (p := ⟨g, o + k * 3 + 1, none⟩) hgl).trans c1
      have HH1 := hide ((hb1.block _ hlw).trans HH.out)
      have HB1 := hide (below_up HB.out hb1 hce)
      have HCT1 := hide (HCT.out w1 hb1)
      have HO1 := hide (HO.out.below' hb1)
      have HN1 := hide (HNL.out.below hb1)
      have hsz1 := hb1.size
      clear hb1
      cases p1 with
      | false =>
        have HE := hide (show specialR (L.take (k + 1)) name = specialR (L.take k) name by rw [HTK.out, if_neg (by simp), List.append_nil])
        go_wp2
        go_roundw
        case rel => exact ⟨k + 1, by go_num, by omega, by rw [HE.out]; exact HO1.out, HB1.out, HH1.out⟩
        case measure => simp [intOf]; omega
      | true =>
        go_wp2_with fail
        refine HCT1.out.mono ?_
        rintro e w' ⟨rfl, rfl⟩
        cases p2 with
        | false =>
          have HE := hide (show specialR (L.take (k + 1)) name = specialR (L.take k) name by rw [HTK.out, if_neg (by simp), List.append_nil])
          go_wp2
          go_roundw
          case rel => exact ⟨k + 1, by go_num, by omega, by rw [HE.out]; exact HO1.out, HB1.out, HH1.out⟩
          case measure => simp [intOf]; omega
        | true =>
          have HE := hide (show specialR (L.take (k + 1)) name = specialR (L.take k) name ++ nl by rw [HTK.out, if_pos (show (true && true) = true from rfl)])
          have hl2 : (specialR (L.take k) name).length + nl.length ≤ 900000 := by
            have := HLN.out
            rw [if_pos (show (true && true) = true from rfl)] at this
            exact this
          obtain ⟨v', w4, r4, o4, g4, b4⟩ := run_appS (c := nc) HO1.out HN1.out (by omega) (by omega)
          have HO4 := hide o4
          have HB4 := hide (HB1.out.grown g4 (by omega) (fun q hq => by have := (World.ownsRow.lt HO1.out q hq).1; omega))
          have HH4 := hide ((g4.block w.heap.size (by omega) (fun e => by have := (World.ownsRow.lt HO1.out _ e.symm).1; omega)).trans HH1.out)
          clear o4 g4 b4
          go_wp2_with (at_builtin; refine wpList_app_run ?_ (.tmp 30) (.tmp 36) ?_ ?_ ?_ ?_ r4 ?_; exact rfl; exact rfl; exact rfl; exact rfl; exact rfl)
          go_roundw
          case rel => exact ⟨k + 1, by go_num, by omega, by rw [HE.out]; exact HO4.out, HB4.out, HH4.out⟩
          case measure => simp [intOf]; omega
    · obtain rfl : k = n := by omega
      have HO2 := hide (ownS_base HO.out (Nat.le_succ w.heap.size))
      rw [HF.out] at HO2
      go_wp2
      go_ret
      exact ⟨⟨_, rfl, HO2.out⟩, HB.out⟩
set_option maxRecDepth 100000 in
set_option maxHeartbeats 1000000 in
theorem rhasR_any (mac : Value) (A : Option Addr) (c : Nat) (L : List Rl) (name target : ByteArray) (w : World) (hA : RLS w A L) (hl : L.length ≤ 1000) (hz : TgZ L) (hs : (specialR L name).length ≤ 900000) :
    Calls Tryz.prog 57 #[.agg #[mac, .slice A L.length c], .string name, .string target] w fun e w' => e = .returned (.bool (hasR L name target)) ∧ Below w.heap.size w w' := by
  have HA := hide hA
  have HSP := hide (fun W (hb : Below w.heap.size w W) => rspecial_any mac A c L name W (HA.out.below hb) hl hz (fun k => by have := special_len_take L name k; omega))
  have HKN := hide (fun W (hb : Below w.heap.size w W) => rknown_any mac A c L name W (HA.out.below hb) hl hz)
  have hR : hasR L name target = (Lib.containsS (specialR L name) target || (decide ((specialR L name).length = 0) && knownR L name)) := rfl
  generalize specialR L name = SP at *
  generalize knownR L name = kn at *
  obtain ⟨ct, hct⟩ : ∃ b, Lib.containsS SP target = b := ⟨_, rfl⟩
  obtain ⟨n, hn⟩ : ∃ n, L.length = n := ⟨_, rfl⟩
  rw [hct] at hR
  rw [hn] at HSP HKN ⊢
  have HR := hide hR
  have HCT := hide hct
  have h1 := (Below.refl w.heap.size w).alloc (Nat.le_refl _) (.cells #[mac, .slice A n c] 25)
  have HNB := hide (heapNew w (.cells #[mac, .slice A n c] 25))
  have HB1 := hide h1
  clear hA hR hct hn hl h1 hz
  go_enter Tryz.func57, Tryz.ntmps57
  go_wp2_with fail
  refine (HSP.out _ HB1.out).mono ?_
  rintro e w1 ⟨⟨v, rfl, ho⟩, hb⟩
  obtain ⟨A5, c5, rfl, hc5, hsr, _⟩ := ho.slice
  have hk1 := hb.block w.heap.size (by simp)
  have hd0 := cellOf' (hk1.trans HNB.out) (j := 0) rfl
  have hd1 := cellOf' (hk1.trans HNB.out) (j := 1) rfl
  have HCN := hide (rhas_any A5 c5 SP target w1 hsr (by omega))
  rw [HCT.out] at HCN
  have HB2 := hide (below_up HB1.out hb HB1.out.size)
  clear ho hb hsr hk1
  obtain ⟨m, hm⟩ : ∃ m, SP.length = m := ⟨_, rfl⟩
  rw [hm] at HCN hc5 hs ⊢
  have HM := hide hm
  clear hm
  have hm1 : (m : Int) ≤ 900000 := by omega
  go_wp2_with fail
  refine HCN.out.mono ?_
  rintro e w' ⟨rfl, rfl⟩
  cases ct with
  | true =>
    have HE := hide (show hasR L name target = true by rw [HR.out]; rfl)
    go_wp2
    go_ret
    rw [HE.out]
    exact ⟨rfl, HB2.out⟩
  | false =>
    by_cases m0 : m = 0
    · subst m0
      have HE := hide (show hasR L name target = kn by rw [HR.out, HM.out]; simp)
      go_wp2_with fail
      refine (HKN.out _ HB2.out).mono ?_
      rintro e w3 ⟨rfl, hb3⟩
      have HB3 := hide (below_up HB2.out hb3 HB2.out.size)
      clear hb3
      go_wp2
      go_ret
      rw [HE.out]
      exact ⟨rfl, HB3.out⟩
    · have m0' : ((m : Int) == 0) = false := by simpa using m0
      have HE := hide (show hasR L name target = false by rw [HR.out, HM.out, decide_eq_false m0]; rfl)
      clear m0
      go_wp2
      go_ret
      rw [HE.out]
      exact ⟨rfl, HB2.out⟩
end Go.Proofs.YthhiogigfaojmaaGreatDoor
/- Walks of age.node, age.Newer and age.Old. -/
namespace Go.Proofs.YthhiogigfaojmaaGreatDoor
open Go.RowKit Go.Deep Go.Maps Ln Pth Vf
attribute [local go_sem] bt_eq

/-- whether something is at a path, and its time -/
def nodeS (S : St) (cwd : T) (s : ByteArray) : Bool × Nat := if (absF cwd s.data.toList).2 ≠ 0 ∨ kindS S (absF cwd s.data.toList).1 = 0 then (false, 0) else (true, timeS S (absF cwd s.data.toList).1)
def newerS (S : St) (cwd : T) (target : ByteArray) (L : List ByteArray) : List ByteArray := L.filter fun s => !(nodeS S cwd target).1 || decide ((nodeS S cwd target).2 < (nodeS S cwd s).2)
def phony : ByteArray := ⟨#[46, 80, 72, 79, 78, 89]⟩
def madeS (S : St) (cwd : T) (m : List Rl) (made : List ByteArray) (s : ByteArray) : Bool := Lib.containsS made s && (!(nodeS S cwd s).1 || hasR m phony s)
def oldS (S : St) (cwd : T) (m : List Rl) (target : ByteArray) (needs made : List ByteArray) : Bool := !(nodeS S cwd target).1 || hasR m phony target || decide (0 < (newerS S cwd target needs).length) || needs.any (madeS S cwd m made)
theorem absF_len' (cwd p : T) : (absF cwd p).1.length ≤ 200 := by
  rcases absF_cases cwd p with ⟨l, g, e, _⟩ | ⟨e, _⟩
  · rw [e]; exact g.len
  · rw [e]; simp
set_option maxRecDepth 100000 in
set_option maxHeartbeats 1000000 in
theorem node_any (g : Nat) (S : St) (cwd : T) (s : ByteArray) (w : World) (h : Hs (VS g S) w) (hm : MX w) (h1 : cwd.length ≤ 6600000) (h2 : s.size ≤ 6600000) :
    Calls Tryz.prog 52 #[.pointer (some ⟨g, 0, none⟩), .string (bs cwd), .string s] w fun e w' => e = .returned (.tuple #[.bool (nodeS S cwd s).1, .int .i64 (nodeS S cwd s).2]) ∧ Below w.heap.size w w' := by
  have HA := hide (abs_any cwd s.data.toList w hm h1 (by rw [data_len]; exact h2))
  rw [bs_of] at HA
  have hl := absF_len' cwd s.data.toList
  have hR : nodeS S cwd s = if (absF cwd s.data.toList).2 ≠ 0 ∨ kindS S (absF cwd s.data.toList).1 = 0 then (false, 0) else (true, timeS S (absF cwd s.data.toList).1) := rfl
  have HK := hide (fun W (hb : Below w.heap.size w W) => vkind_any g S (absF cwd s.data.toList).1 W (h.below (VS.fr g S) hb) (hm.below hb) (by omega))
  have HT := hide (fun W (hb : Below w.heap.size w W) => vtime_any g S (absF cwd s.data.toList).1 W (h.below (VS.fr g S) hb) (hm.below hb) (by omega))
  unfold AbsPost at HA
  obtain ⟨q, hq⟩ : ∃ q, (absF cwd s.data.toList).1 = q := ⟨_, rfl⟩
  obtain ⟨e, he⟩ : ∃ q, (absF cwd s.data.toList).2 = q := ⟨_, rfl⟩
  obtain ⟨kk, hkk⟩ : ∃ k, kindS S q = k := ⟨_, rfl⟩
  rw [hq] at HA HK HT hR
  rw [he] at HA hR
  rw [hkk] at HK hR
  have HR := hide hR
  clear hR hq he hkk hl h hm
  by_cases c1 : e = 0
  case neg =>
    obtain ⟨t1, t2⟩ := ne0 c1
    have HE := hide (HR.out.trans (if_pos (.inl c1)))
    clear c1
    go_enter Tryz.func52, Tryz.ntmps52
    go_wp2_with fail
    refine HA.out.mono ?_
    rintro e w1 ⟨rfl, hb⟩
    have HB := hide hb
    clear hb
    go_wp2
    go_ret2
    rw [HE.out]
    exact ⟨rfl, HB.out⟩
  subst c1
  by_cases k0 : kk = 0
  · subst k0
    have HE := hide (HR.out.trans (if_pos (.inr rfl)))
    go_enter Tryz.func52, Tryz.ntmps52
    go_wp2_with fail
    refine HA.out.mono ?_
    rintro e w1 ⟨rfl, hb⟩
    have HB := hide hb
    clear hb
    go_wp2_with fail
    refine (HK.out w1 HB.out).mono ?_
    rintro e w2 ⟨rfl, hb⟩
    have HB2 := hide (below_up HB.out hb HB.out.size)
    clear hb
    go_wp2
    go_ret2
    rw [HE.out]
    exact ⟨rfl, HB2.out⟩
  · obtain ⟨t1, t2⟩ := ne0 k0
    have HE := hide (HR.out.trans (if_neg (by rintro (h | h); exact h rfl; exact k0 h)))
    clear k0
    go_enter Tryz.func52, Tryz.ntmps52
    go_wp2_with fail
    refine HA.out.mono ?_
    rintro e w1 ⟨rfl, hb⟩
    have HB := hide hb
    clear hb
    go_wp2_with fail
    refine (HK.out w1 HB.out).mono ?_
    rintro e w2 ⟨rfl, hb⟩
    have HB2 := hide (below_up HB.out hb HB.out.size)
    clear hb
    go_wp2_with fail
    refine (HT.out w2 HB2.out).mono ?_
    rintro e w3 ⟨rfl, hb⟩
    have HB3 := hide (below_up HB2.out hb HB2.out.size)
    clear hb
    go_wp2
    go_ret2
    rw [HE.out]
    exact ⟨rfl, HB3.out⟩
theorem newer_take {S : St} {cwd : T} {target : ByteArray} {L : List ByteArray} {k : Nat} {x : ByteArray} (h : L[k]? = some x) : newerS S cwd target (L.take (k + 1)) = newerS S cwd target (L.take k) ++ if (!(nodeS S cwd target).1 || decide ((nodeS S cwd target).2 < (nodeS S cwd x).2)) = true then [x] else [] := by
  unfold newerS
  rw [List.take_add_one, h, List.filter_append]
  congr 1
  by_cases hc : (!(nodeS S cwd target).1 || decide ((nodeS S cwd target).2 < (nodeS S cwd x).2)) = true
  · rw [if_pos hc]; simp only [Option.toList_some, List.filter_cons, hc, if_true, List.filter_nil]
  · rw [if_neg hc]; simp only [Option.toList_some, List.filter_cons, hc, List.filter_nil]; rfl
set_option maxRecDepth 100000 in
set_option maxHeartbeats 2000000 in
theorem newer_any (g : Nat) (S : St) (cwd : T) (target : ByteArray) (A : Option Addr) (c : Nat) (L : List ByteArray) (w : World) (h : Hs (VS g S) w) (hm : MX w) (h1 : cwd.length ≤ 6600000) (h2 : target.size ≤ 6600000) (hA : SR w A L) (hl : L.length ≤ 100000) (hs : ∀ x ∈ L, x.size ≤ 6600000) :
    Calls Tryz.prog 20 #[.pointer (some ⟨g, 0, none⟩), .string (bs cwd), .string target, .slice A L.length c] w fun e w' => (∃ v, e = .returned v ∧ OwnS w' w.heap.size v (newerS S cwd target L)) ∧ Below w.heap.size w w' := by
  have HN0 := hide (fun W (hb : Below w.heap.size w W) x (hx : x.size ≤ 6600000) => node_any g S cwd x W (h.below (VS.fr g S) hb) (hm.below hb) h1 hx)
  have HA := hide hA
  have HSZ := hide hs
  obtain ⟨n, hn⟩ : ∃ n, L.length = n := ⟨_, rfl⟩
  have HN := hide hn
  rw [hn] at hl ⊢
  have HT := hide (fun k x (hx : L[k]? = some x) => newer_take (S := S) (cwd := cwd) (target := target) hx)
  obtain ⟨tb, htb⟩ : ∃ b, (nodeS S cwd target).1 = b := ⟨_, rfl⟩
  obtain ⟨tt, htt⟩ : ∃ b, (nodeS S cwd target).2 = b := ⟨_, rfl⟩
  rw [htb, htt] at HT
  have HNT := hide (HN0.out w (Below.refl _ _) target h2)
  rw [htb, htt] at HNT
  have hn1 : (n : Int) ≤ 100000 := by omega
  clear h hm hA hs hn htb htt
  go_enter Tryz.func20, Tryz.ntmps20
  go_wp2_with fail
  refine HNT.out.mono ?_
  rintro e w1 ⟨rfl, hb⟩
  have HB1 := hide hb
  clear hb
  go_wp2
  go_loopw [11, 13, 14, 15, 25] (fun v11 _ _ _ v25 wr => ∃ k : Nat, v25 = .int .i64 k ∧ k ≤ n ∧ OwnS wr w.heap.size v11 (newerS S cwd target (L.take k)) ∧ Below w.heap.size w wr) (fun _ _ _ _ v25 _ => n - (intOf v25).toNat)
  case atStart => exact ⟨0, rfl, by omega, OwnS.nil _ _, HB1.out⟩
  case round =>
    obtain ⟨k, rfl, hk, ho, hb⟩ := hrel
    have HO := hide ho
    have HB := hide hb
    have HAR := hide (HA.out.below hb)
    clear ho hb
    by_cases hlt : k < n
    · obtain ⟨x, hx⟩ : ∃ x, L[k]? = some x := ⟨L[k]'(by have := HN.out; omega), List.getElem?_eq_getElem _⟩
      obtain ⟨gs, o, rfl, hg, hc⟩ := HAR.out k x hx
      have hxs := HSZ.out x (List.mem_of_getElem? hx)
      have ht := HT.out k x hx
      have HNX := hide (fun W hb => HN0.out W hb x hxs)
      obtain ⟨xb, hxb⟩ : ∃ b, (nodeS S cwd x).1 = b := ⟨_, rfl⟩
      obtain ⟨xt, hxt⟩ : ∃ b, (nodeS S cwd x).2 = b := ⟨_, rfl⟩
      rw [hxb, hxt] at HNX
      rw [hxt] at ht
      have HTK := hide ht
      have hql : (newerS S cwd target (L.take k)).length ≤ 100000 := by
        unfold newerS
        refine Nat.le_trans (List.length_filter_le _ _) ?_
        rw [List.length_take]
        omega
      have b1 : (k : Int) < (n : Int) := by omega
      clear hx ht hxb hxt hxs
      go_wp2_with fail
      refine (HNX.out wr HB.out).mono ?_
      rintro e w2 ⟨rfl, hb2⟩
      have hbw : w.heap.size ≤ wr.heap.size := HB.out.size
      have HB2 := hide hb2
      have HBW := hide (below_up HB.out hb2 hbw)
      clear hb2
      obtain ⟨cond, hcond⟩ : ∃ b, (!tb || decide (tt < xt)) = b := ⟨_, rfl⟩
      have HCO := hide hcond
      cases cond with
      | false =>
        have HE := hide (show newerS S cwd target (L.take (k + 1)) = newerS S cwd target (L.take k) by rw [HTK.out, HCO.out, if_neg (by simp), List.append_nil])
        simp only [Bool.or_eq_false_iff, Bool.not_eq_false', decide_eq_false_iff_not] at hcond
        obtain ⟨rfl, hle⟩ := hcond
        have d1 : decide ((tt : Int) < (xt : Int)) = false := by simp; omega
        have d2 : decide (tt < xt) = false := by simp; omega
        clear hle
        go_wp2
        go_roundw
        case rel => exact ⟨k + 1, by go_num, by omega, by rw [HE.out]; exact HO.out.below' HB2.out, HBW.out⟩
        case measure => simp [intOf]; omega
      | true =>
        have HE := hide (show newerS S cwd target (L.take (k + 1)) = newerS S cwd target (L.take k) ++ [x] by rw [HTK.out, HCO.out, if_pos rfl])
        obtain ⟨v4, w4, r4, o4, g4, b4⟩ := run_appS (c := 1) (OwnS.alloc (HO.out.below' HB2.out) (.cells #[.string x] 9)) (sr_new w2 x) (by have := HBW.out.size; simp; omega) (by simp; omega)
        have HO4 := hide o4
        have HB4 := hide ((HBW.out.alloc HBW.out.size (.cells #[.string x] 9)).trans ((Below.refl w.heap.size _).grown g4 (by have := HBW.out.size; simp; omega) (fun q hq => (World.ownsRow.lt HO.out q hq).1)))
        clear o4 g4 b4
        cases tb with
        | false =>
          clear hcond
          go_wp2_with (at_builtin; refine wpList_app_run ?_ (.tmp 43) (.tmp 45) ?_ ?_ ?_ ?_ r4 ?_; exact rfl; exact rfl; exact rfl; exact rfl; exact rfl)
          go_roundw
          case rel => exact ⟨k + 1, by go_num, by omega, by rw [HE.out]; exact HO4.out, HB4.out⟩
          case measure => simp [intOf]; omega
        | true =>
          have hle : tt < xt := by simpa using hcond
          have d1 : (tt : Int) < (xt : Int) := by omega
          clear hcond
          go_wp2_with (at_builtin; refine wpList_app_run ?_ (.tmp 43) (.tmp 45) ?_ ?_ ?_ ?_ r4 ?_; exact rfl; exact rfl; exact rfl; exact rfl; exact rfl)
          go_roundw
          case rel => exact ⟨k + 1, by go_num, by omega, by rw [HE.out]; exact HO4.out, HB4.out⟩
          case measure => simp [intOf]; omega
    · obtain rfl : k = n := by omega
      have HF := hide (show newerS S cwd target (L.take k) = newerS S cwd target L by rw [List.take_of_length_le (by have := HN.out; omega)])
      rw [HF.out] at HO
      go_wp2
      go_ret
      exact ⟨⟨_, rfl, HO.out⟩, HB.out⟩
end Go.Proofs.YthhiogigfaojmaaGreatDoor
/- Walks of the reference's kind, time and Newer (chapters 21 and 23). -/
namespace Go.Proofs.YthhiogigfaojmaaGreatDoor
open Go.RowKit Go.Deep Go.Maps Ln Pth Vf
set_option linter.unusedSimpArgs false
set_option linter.unusedVariables false
attribute [local go_sem] bt_eq

/-- what is at a path from a directory on; when -/
def nodeK (S : St) (cwd : T) (s : ByteArray) : Nat := if (absF cwd s.data.toList).2 ≠ 0 then 0 else kindS S (absF cwd s.data.toList).1
def nodeT (S : St) (cwd : T) (s : ByteArray) : Nat := if (absF cwd s.data.toList).2 ≠ 0 then 0 else timeS S (absF cwd s.data.toList).1
theorem time_none {S : St} {q : T} (h : kindS S q = 0) : timeS S q = 0 := by
  unfold kindS at h
  unfold timeS
  split
  · rfl
  · rename_i h0
    rw [if_neg h0] at h
    unfold kindM at h
    unfold timeM
    split at h
    · cases h
    · split at h
      · rfl
      · split at h <;> cases h
theorem nodeS_k (S : St) (cwd : T) (s : ByteArray) : (nodeS S cwd s).1 = !decide (nodeK S cwd s = 0) := by
  unfold nodeS nodeK
  by_cases h : (absF cwd s.data.toList).2 = 0
  · rw [if_neg (show ¬ (absF cwd s.data.toList).2 ≠ 0 by simpa using h)]
    by_cases h2 : kindS S (absF cwd s.data.toList).1 = 0
    · rw [if_pos (.inr h2)]; simp [h2]
    · rw [if_neg (by rintro (q | q); exact q h; exact h2 q)]; simp [h2]
  · rw [if_pos h, if_pos (.inl h)]; simp
theorem nodeS_t (S : St) (cwd : T) (s : ByteArray) : (nodeS S cwd s).2 = nodeT S cwd s := by
  unfold nodeS nodeT
  by_cases h : (absF cwd s.data.toList).2 = 0
  · rw [if_neg (show ¬ (absF cwd s.data.toList).2 ≠ 0 by simpa using h)]
    by_cases h2 : kindS S (absF cwd s.data.toList).1 = 0
    · rw [if_pos (.inr h2), time_none h2]
    · rw [if_neg (by rintro (q | q); exact q h; exact h2 q)]
  · rw [if_pos h, if_pos (.inl h)]
theorem RS.kind {g : Nat} {S : St} {w : World} (h : Hs (RS g S) w) (hl : S.m.length ≤ 1000000) {W : World} (hb : Below w.heap.size w W) (p : T) (hp : p.length ≤ 200) :
    Calls Tryz.prog 112 #[.pointer (some ⟨g, 0, none⟩), .string (bs p)] W fun e w' => e = .returned (.int .i64 (kindS S p)) ∧ Below W.heap.size W w' := by
  obtain ⟨A, c, P, o⟩ := RS.o h
  exact rKind_any g S A c P p W (o.below hb) (by rw [← stripN_len, ← o.eq]; exact hl) (by omega)
theorem RS.time {g : Nat} {S : St} {w : World} (h : Hs (RS g S) w) (hl : S.m.length ≤ 1000000) {W : World} (hb : Below w.heap.size w W) (p : T) (hp : p.length ≤ 200) :
    Calls Tryz.prog 113 #[.pointer (some ⟨g, 0, none⟩), .string (bs p)] W fun e w' => e = .returned (.int .i64 (timeS S p)) ∧ Below W.heap.size W w' := by
  obtain ⟨A, c, P, o⟩ := RS.o h
  exact rTime_any g S A c P p W (o.below hb) (by rw [← stripN_len, ← o.eq]; exact hl) (by omega)
set_option maxRecDepth 100000 in
set_option maxHeartbeats 1000000 in
theorem rkind18_any (g : Nat) (S : St) (cwd : T) (s : ByteArray) (w : World) (h : Hs (RS g S) w) (hl : S.m.length ≤ 1000000) (h1 : cwd.length ≤ 6600000) (h2 : s.size ≤ 6600000) :
    Calls Tryz.prog 58 #[.pointer (some ⟨g, 0, none⟩), .string (bs cwd), .string s] w fun e w' => e = .returned (.int .i64 (nodeK S cwd s)) ∧ Below w.heap.size w w' := by
  have HA := hide (rabs_any cwd s.data.toList w h1 (by rw [data_len]; exact h2))
  rw [bs_of] at HA
  have hll := absF_len' cwd s.data.toList
  have hR : nodeK S cwd s = if (absF cwd s.data.toList).2 ≠ 0 then 0 else kindS S (absF cwd s.data.toList).1 := rfl
  have HK := hide (fun W (hb : Below w.heap.size w W) => RS.kind h hl hb (absF cwd s.data.toList).1 hll)
  unfold AbsPost at HA
  obtain ⟨q, hq⟩ : ∃ q, (absF cwd s.data.toList).1 = q := ⟨_, rfl⟩
  obtain ⟨e, he⟩ : ∃ q, (absF cwd s.data.toList).2 = q := ⟨_, rfl⟩
  obtain ⟨kk, hkk⟩ : ∃ k, kindS S q = k := ⟨_, rfl⟩
  rw [hq] at HA HK hR
  rw [he] at HA hR
  rw [hkk] at HK hR
  have HR := hide hR
  clear hR hq he hkk hll h
  by_cases c1 : e = 0
  case neg =>
    obtain ⟨t1, t2⟩ := ne0 c1
    have HE := hide (HR.out.trans (if_pos c1))
    clear c1
    go_enter Tryz.func58, Tryz.ntmps58
    go_wp2_with fail
    refine HA.out.mono ?_
    rintro e w1 ⟨rfl, hb⟩
    have HB := hide hb
    clear hb
    go_wp2
    go_ret
    rw [HE.out]
    exact ⟨rfl, HB.out⟩
  subst c1
  have HE := hide (HR.out.trans (if_neg (by simp)))
  go_enter Tryz.func58, Tryz.ntmps58
  go_wp2_with fail
  refine HA.out.mono ?_
  rintro e w1 ⟨rfl, hb⟩
  have HB := hide hb
  clear hb
  go_wp2_with fail
  refine (HK.out w1 HB.out).mono ?_
  rintro e w2 ⟨rfl, hb⟩
  have HB2 := hide (below_up HB.out hb HB.out.size)
  clear hb
  go_wp2
  go_ret
  rw [HE.out]
  exact ⟨rfl, HB2.out⟩
set_option maxRecDepth 100000 in
set_option maxHeartbeats 1000000 in
theorem rtime18_any (g : Nat) (S : St) (cwd : T) (s : ByteArray) (w : World) (h : Hs (RS g S) w) (hl : S.m.length ≤ 1000000) (h1 : cwd.length ≤ 6600000) (h2 : s.size ≤ 6600000) :
    Calls Tryz.prog 60 #[.pointer (some ⟨g, 0, none⟩), .string (bs cwd), .string s] w fun e w' => e = .returned (.int .i64 (nodeT S cwd s)) ∧ Below w.heap.size w w' := by
  have HA := hide (rabs_any cwd s.data.toList w h1 (by rw [data_len]; exact h2))
  rw [bs_of] at HA
  have hll := absF_len' cwd s.data.toList
  have hR : nodeT S cwd s = if (absF cwd s.data.toList).2 ≠ 0 then 0 else timeS S (absF cwd s.data.toList).1 := rfl
  have HK := hide (fun W (hb : Below w.heap.size w W) => RS.time h hl hb (absF cwd s.data.toList).1 hll)
  unfold AbsPost at HA
  obtain ⟨q, hq⟩ : ∃ q, (absF cwd s.data.toList).1 = q := ⟨_, rfl⟩
  obtain ⟨e, he⟩ : ∃ q, (absF cwd s.data.toList).2 = q := ⟨_, rfl⟩
  obtain ⟨kk, hkk⟩ : ∃ k, timeS S q = k := ⟨_, rfl⟩
  rw [hq] at HA HK hR
  rw [he] at HA hR
  rw [hkk] at HK hR
  have HR := hide hR
  clear hR hq he hkk hll h
  by_cases c1 : e = 0
  case neg =>
    obtain ⟨t1, t2⟩ := ne0 c1
    have HE := hide (HR.out.trans (if_pos c1))
    clear c1
    go_enter Tryz.func60, Tryz.ntmps60
    go_wp2_with fail
    refine HA.out.mono ?_
    rintro e w1 ⟨rfl, hb⟩
    have HB := hide hb
    clear hb
    go_wp2
    go_ret
    rw [HE.out]
    exact ⟨rfl, HB.out⟩
  subst c1
  have HE := hide (HR.out.trans (if_neg (by simp)))
  go_enter Tryz.func60, Tryz.ntmps60
  go_wp2_with fail
  refine HA.out.mono ?_
  rintro e w1 ⟨rfl, hb⟩
  have HB := hide hb
  clear hb
  go_wp2_with fail
  refine (HK.out w1 HB.out).mono ?_
  rintro e w2 ⟨rfl, hb⟩
  have HB2 := hide (below_up HB.out hb HB.out.size)
  clear hb
  go_wp2
  go_ret
  rw [HE.out]
  exact ⟨rfl, HB2.out⟩
set_option maxRecDepth 100000 in
set_option maxHeartbeats 2000000 in
theorem rnewer18_any (g : Nat) (S : St) (cwd : T) (target : ByteArray) (A : Option Addr) (c : Nat) (L : List ByteArray) (w : World) (h : Hs (RS g S) w) (hm : S.m.length ≤ 1000000) (h1 : cwd.length ≤ 6600000) (h2 : target.size ≤ 6600000) (hA : SR w A L) (hl : L.length ≤ 100000) (hs : ∀ x ∈ L, x.size ≤ 6600000) :
    Calls Tryz.prog 21 #[.pointer (some ⟨g, 0, none⟩), .string (bs cwd), .string target, .slice A L.length c] w fun e w' => (∃ v, e = .returned v ∧ OwnS w' w.heap.size v (newerS S cwd target L)) ∧ Below w.heap.size w w' := by
  have HK0 := hide (rkind18_any g S cwd target w h hm h1 h2)
  have HT0 := hide (fun W (hb : Below w.heap.size w W) x (hx : x.size ≤ 6600000) => rtime18_any g S cwd x W (h.below (RS.fr g S) hb) hm h1 hx)
  have HA := hide hA
  have HSZ := hide hs
  obtain ⟨n, hn⟩ : ∃ n, L.length = n := ⟨_, rfl⟩
  have HN := hide hn
  rw [hn] at hl ⊢
  have HT := hide (fun k x (hx : L[k]? = some x) => newer_take (S := S) (cwd := cwd) (target := target) hx)
  simp only [nodeS_k, nodeS_t] at HT
  have HTT := hide (fun W hb => HT0.out W hb target h2)
  obtain ⟨tb, htb⟩ : ∃ b, nodeK S cwd target = b := ⟨_, rfl⟩
  obtain ⟨tt, htt⟩ : ∃ b, nodeT S cwd target = b := ⟨_, rfl⟩
  rw [htb, htt] at HT
  rw [htb] at HK0
  rw [htt] at HTT
  have hn1 : (n : Int) ≤ 100000 := by omega
  clear h hm hA hs hn htb htt
  go_enter Tryz.func21, Tryz.ntmps21
  go_wp2_with fail
  refine HK0.out.mono ?_
  rintro e w1 ⟨rfl, hb⟩
  have HB1 := hide hb
  clear hb
  go_wp2_with fail
  refine (HTT.out w1 HB1.out).mono ?_
  rintro e w2 ⟨rfl, hb⟩
  have HB2 := hide (below_up HB1.out hb HB1.out.size)
  clear hb
  go_wp2
  go_loopw [9, 12] (fun v9 v12 wr => ∃ k : Nat, v12 = .int .i64 k ∧ k ≤ n ∧ OwnS wr w.heap.size v9 (newerS S cwd target (L.take k)) ∧ Below w.heap.size w wr) (fun _ v12 _ => n - (intOf v12).toNat)
  case atStart => exact ⟨0, rfl, by omega, OwnS.nil _ _, HB2.out⟩
  case round =>
    obtain ⟨k, rfl, hk, ho, hb⟩ := hrel
    have HO := hide ho
    have HB := hide hb
    have HAR := hide (HA.out.below hb)
    clear ho hb
    by_cases hlt : k < n
    · obtain ⟨x, hx⟩ : ∃ x, L[k]? = some x := ⟨L[k]'(by have := HN.out; omega), List.getElem?_eq_getElem _⟩
      obtain ⟨gs, o, rfl, hg, hc⟩ := HAR.out k x hx
      have hxs := HSZ.out x (List.mem_of_getElem? hx)
      have ht := HT.out k x hx
      have HNX := hide (HT0.out wr HB.out x hxs)
      obtain ⟨xt, hxt⟩ : ∃ b, nodeT S cwd x = b := ⟨_, rfl⟩
      rw [hxt] at HNX ht
      have HTK := hide ht
      have hql : (newerS S cwd target (L.take k)).length ≤ 100000 := by
        unfold newerS
        refine Nat.le_trans (List.length_filter_le _ _) ?_
        rw [List.length_take]
        omega
      have b1 : (k : Int) < (n : Int) := by omega
      have hbw : w.heap.size ≤ wr.heap.size := HB.out.size
      have hgl : gs < wr.heap.size := hg
      clear hx ht hxt hxs
      have HRUN := hide (fun (w2 : World) (hb2 : Below wr.heap.size wr w2) => run_appS (c := 1) (OwnS.alloc (HO.out.below' hb2) (.cells #[.string x] 9)) (sr_new w2 x) (by have := HB.out.size; have := hb2.size; simp; omega) (by simp; omega))
      by_cases tb0 : tb = 0
      · subst tb0
        have HE := hide (show newerS S cwd target (L.take (k + 1)) = newerS S cwd target (L.take k) ++ [x] by rw [HTK.out, if_pos (by simp)])
        obtain ⟨v4, w4, r4, o4, g4, b4⟩ := HRUN.out wr (Below.refl _ _)
        have HO4 := hide o4
        have HB4 := hide ((HB.out.alloc hbw (.cells #[.string x] 9)).trans ((Below.refl w.heap.size _).grown g4 (by simp; omega) (fun q hq => (World.ownsRow.lt HO.out q hq).1)))
        clear o4 g4 b4
        go_wp2_with (at_builtin; refine wpList_app_run ?_ (.tmp 40) (.tmp 45) ?_ ?_ ?_ ?_ r4 ?_; exact rfl; exact rfl; exact rfl; exact rfl; exact rfl)
        go_roundw
        case rel => exact ⟨k + 1, by go_num, by omega, by rw [HE.out]; exact HO4.out, HB4.out⟩
        case measure => simp [intOf]; omega
      · have tb1 : ((tb : Int) == 0) = false := by simpa using tb0
        by_cases hle : tt < xt
        · have HE := hide (show newerS S cwd target (L.take (k + 1)) = newerS S cwd target (L.take k) ++ [x] by rw [HTK.out, if_pos (by simp [hle])])
          have d1 : (tt : Int) < (xt : Int) := by omega
          clear tb0 hle
          go_wp2_with fail
          refine HNX.out.mono ?_
          rintro e w2 ⟨rfl, hb2⟩
          have hc := (hb2.cell (p := ⟨gs, o + k, none⟩) hgl).trans hc
          have hz2 := hb2.size
          obtain ⟨v4, w4, r4, o4, g4, b4⟩ := HRUN.out w2 hb2
          have HO4 := hide o4
          have HB4 := hide (((below_up HB.out hb2 hbw).alloc (by omega) (.cells #[.string x] 9)).trans ((Below.refl w.heap.size _).grown g4 (by simp; omega) (fun q hq => (World.ownsRow.lt HO.out q hq).1)))
          clear o4 g4 b4 hb2
          go_wp2_with (at_builtin; refine wpList_app_run ?_ (.tmp 40) (.tmp 45) ?_ ?_ ?_ ?_ r4 ?_; exact rfl; exact rfl; exact rfl; exact rfl; exact rfl)
          go_roundw
          case rel => exact ⟨k + 1, by go_num, by omega, by rw [HE.out]; exact HO4.out, HB4.out⟩
          case measure => simp [intOf]; omega
        · have HE := hide (show newerS S cwd target (L.take (k + 1)) = newerS S cwd target (L.take k) by rw [HTK.out, if_neg (by simp [tb0]; omega), List.append_nil])
          have d1 : ¬ (tt : Int) < (xt : Int) := by omega
          clear tb0 hle
          go_wp2_with fail
          refine HNX.out.mono ?_
          rintro e w2 ⟨rfl, hb2⟩
          have HB3 := hide (below_up HB.out hb2 hbw)
          have HO3 := hide (HO.out.below' hb2)
          clear hb2
          go_wp2
          go_roundw
          case rel => exact ⟨k + 1, by go_num, by omega, by rw [HE.out]; exact HO3.out, HB3.out⟩
          case measure => simp [intOf]; omega
    · obtain rfl : k = n := by omega
      have HF := hide (show newerS S cwd target (L.take k) = newerS S cwd target L by rw [List.take_of_length_le (by have := HN.out; omega)])
      rw [HF.out] at HO
      go_wp2
      go_ret
      exact ⟨⟨_, rfl, HO.out⟩, HB.out⟩
end Go.Proofs.YthhiogigfaojmaaGreatDoor
/- Walk of age.Old. -/
namespace Go.Proofs.YthhiogigfaojmaaGreatDoor
open Go.RowKit Go.Deep Go.Maps Ln Pth Vf
attribute [local go_sem] bt_eq

set_option maxRecDepth 100000 in
set_option maxHeartbeats 2000000 in
theorem old1_any (g gf gc gm gk : Nat) (S : St) (cwd : T) (mac : Value) (R : Option Addr) (rc : Nat) (M : List Rl) (B : Option Addr) (bc : Nat) (made : List ByteArray) (s : ByteArray) (w : World) (h : Hs (VS g S) w) (hm : MX w) (h1 : cwd.length ≤ 6600000) (h2 : s.size ≤ 6600000)
    (hf : w.cell? ⟨gf, 0, none⟩ = some (.pointer (some ⟨g, 0, none⟩))) (hc : w.cell? ⟨gc, 0, none⟩ = some (.string (bs cwd))) (hmd : w.cell? ⟨gm, 0, none⟩ = some (.slice B made.length bc)) (hk0 : w.cell? ⟨gk, 0, none⟩ = some mac) (hk1 : w.cell? ⟨gk, 1, none⟩ = some (.slice R M.length rc))
    (hM : RLS w R M) (hml : M.length ≤ 1000) (hsp : (specialR M phony).length ≤ 900000) (hB : SR w B made) (hbl : made.length ≤ 100000) :
    Calls Tryz.prog 55 #[.string s, .pointer (some ⟨gf, 0, none⟩), .pointer (some ⟨gc, 0, none⟩), .pointer (some ⟨gm, 0, none⟩), .pointer (some ⟨gk, 0, none⟩)] w fun e w' => e = .returned (.bool (madeS S cwd M made s)) ∧ Below w.heap.size w w' := by
  have HN := hide (node_any g S cwd s w h hm h1 h2)
  have HCT := hide (fun W (hb : Below w.heap.size w W) => cont_any B bc made s W (hB.below hb) (by omega))
  have HHS := hide (fun W (hb : Below w.heap.size w W) => has_any mac R rc M phony s W (hM.below hb) hml hsp)
  have hR : madeS S cwd M made s = (Lib.containsS made s && (!(nodeS S cwd s).1 || hasR M phony s)) := rfl
  obtain ⟨ct, hct⟩ : ∃ b, Lib.containsS made s = b := ⟨_, rfl⟩
  obtain ⟨nb, hnb⟩ : ∃ b, (nodeS S cwd s).1 = b := ⟨_, rfl⟩
  obtain ⟨nt, hnt⟩ : ∃ b, (nodeS S cwd s).2 = b := ⟨_, rfl⟩
  obtain ⟨hh, hhh⟩ : ∃ b, hasR M phony s = b := ⟨_, rfl⟩
  rw [hct, hnb, hhh] at hR
  rw [hct] at HCT
  rw [hnb, hnt] at HN
  rw [hhh] at HHS
  have HR := hide hR
  have lf := World.block_lt_of_cell? _ _ hf
  have lc := World.block_lt_of_cell? _ _ hc
  have lm := World.block_lt_of_cell? _ _ hmd
  have lk := World.block_lt_of_cell? _ _ hk0
  have HMD := hide hmd
  have HK0 := hide hk0
  have HK1 := hide hk1
  unfold phony at HHS
  obtain ⟨n, hn⟩ : ∃ n, made.length = n := ⟨_, rfl⟩
  obtain ⟨k, hk⟩ : ∃ n, M.length = n := ⟨_, rfl⟩
  rw [hn] at HCT HMD
  rw [hk] at HHS HK1
  clear hR hct hnb hnt hhh h hm hmd hk0 hk1 hM hml hsp hB hbl hn hk
  go_enter Tryz.func55, Tryz.ntmps55
  go_wp2_with fail
  refine HN.out.mono ?_
  rintro e w1 ⟨rfl, hb⟩
  have hmd := (hb.cell (p := ⟨gm, 0, none⟩) lm).trans HMD.out
  have hk0 := (hb.cell (p := ⟨gk, 0, none⟩) lk).trans HK0.out
  have hk1 := (hb.cell (p := ⟨gk, 1, none⟩) lk).trans HK1.out
  have HB := hide hb
  clear hb hf hc
  go_wp2_with fail
  refine (HCT.out w1 HB.out).mono ?_
  rintro e w' ⟨rfl, rfl⟩
  cases ct with
  | false =>
    have HE := hide (show madeS S cwd M made s = false by rw [HR.out]; rfl)
    go_wp2
    go_ret
    rw [HE.out]
    exact ⟨rfl, HB.out⟩
  | true =>
    cases nb with
    | false =>
      have HE := hide (show madeS S cwd M made s = true by rw [HR.out]; rfl)
      go_wp2
      go_ret
      rw [HE.out]
      exact ⟨rfl, HB.out⟩
    | true =>
      have HE := hide (show madeS S cwd M made s = hh by rw [HR.out]; rfl)
      go_wp2_with fail
      refine (HHS.out w1 HB.out).mono ?_
      rintro e w3 ⟨rfl, hb3⟩
      have HB3 := hide (below_up HB.out hb3 HB.out.size)
      clear hb3
      go_wp2
      go_ret
      rw [HE.out]
      exact ⟨rfl, HB3.out⟩
set_option maxRecDepth 100000 in
set_option maxHeartbeats 4000000 in
theorem old_any (g : Nat) (S : St) (cwd : T) (mac : Value) (R : Option Addr) (rc : Nat) (M : List Rl) (target : ByteArray) (A : Option Addr) (c : Nat) (L : List ByteArray) (B : Option Addr) (bc : Nat) (made : List ByteArray) (w : World) (h : Hs (VS g S) w) (hm : MX w) (h1 : cwd.length ≤ 6600000) (h2 : target.size ≤ 6600000)
    (hA : SR w A L) (hl : L.length ≤ 100000) (hs : ∀ x ∈ L, x.size ≤ 6600000) (hM : RLS w R M) (hml : M.length ≤ 1000) (hsp : (specialR M phony).length ≤ 900000) (hB : SR w B made) (hbl : made.length ≤ 100000) :
    Calls Tryz.prog 17 #[.agg #[mac, .slice R M.length rc], .pointer (some ⟨g, 0, none⟩), .string (bs cwd), .string target, .slice A L.length c, .slice B made.length bc] w fun e w' => e = .returned (.bool (oldS S cwd M target L made)) ∧ Below w.heap.size w w' := by
  have hb4 := ((((Below.refl w.heap.size w).alloc (Nat.le_refl _) (.cells #[mac, .slice R M.length rc] 25)).alloc (by simp) (.cells #[.pointer (some ⟨g, 0, none⟩)] 31)).alloc (by simp; omega) (.cells #[.string (bs cwd)] 9)).alloc (by simp; omega) (.cells #[.slice B made.length bc] 27)
  obtain ⟨W, hW⟩ : ∃ W, (((w.alloc (.cells #[mac, .slice R M.length rc] 25)).alloc (.cells #[.pointer (some ⟨g, 0, none⟩)] 31)).alloc (.cells #[.string (bs cwd)] 9)).alloc (.cells #[.slice B made.length bc] 27) = W := ⟨_, rfl⟩
  have hsz : W.heap.size = w.heap.size + 4 := by rw [← hW]; simp
  have hk : W.heap[w.heap.size]? = some (.cells #[mac, .slice R M.length rc] 25) := by
    rw [← hW, Below.heap_alloc _ _ _ (by simp; omega), Below.heap_alloc _ _ _ (by simp; omega), Below.heap_alloc _ _ _ (by simp)]
    exact heapNew _ _
  have hf : W.heap[w.heap.size + 1]? = some (.cells #[.pointer (some ⟨g, 0, none⟩)] 31) := by
    rw [← hW, Below.heap_alloc _ _ _ (by simp), Below.heap_alloc _ _ _ (by simp)]
    have := heapNew (w.alloc (.cells #[mac, .slice R M.length rc] 25)) (.cells #[.pointer (some ⟨g, 0, none⟩)] 31)
    simpa using this
  have hc : W.heap[w.heap.size + 2]? = some (.cells #[.string (bs cwd)] 9) := by
    rw [← hW, Below.heap_alloc _ _ _ (by simp)]
    have := heapNew ((w.alloc (.cells #[mac, .slice R M.length rc] 25)).alloc (.cells #[.pointer (some ⟨g, 0, none⟩)] 31)) (.cells #[.string (bs cwd)] 9)
    simpa using this
  have hd : W.heap[w.heap.size + 3]? = some (.cells #[.slice B made.length bc] 27) := by
    rw [← hW]
    have := heapNew (((w.alloc (.cells #[mac, .slice R M.length rc] 25)).alloc (.cells #[.pointer (some ⟨g, 0, none⟩)] 31)).alloc (.cells #[.string (bs cwd)] 9)) (.cells #[.slice B made.length bc] 27)
    simpa using this
  rw [hW] at hb4
  have HB4 := hide hb4
  have HNT := hide (node_any g S cwd target W (h.below (VS.fr g S) hb4) (hm.below hb4) h1 h2)
  have HHS := hide (fun X (hb : Below w.heap.size w X) => has_any mac R rc M phony target X (hM.below hb) hml hsp)
  have HNW := hide (fun X (hb : Below w.heap.size w X) => newer_any g S cwd target A c L X (h.below (VS.fr g S) hb) (hm.below hb) h1 h2 (hA.below hb) hl hs)
  have HCF := hide (fun X (hb : Below W.heap.size W X) => contf_any (madeS S cwd M made) 55 #[.pointer (some ⟨w.heap.size + 1, 0, none⟩), .pointer (some ⟨w.heap.size + 2, 0, none⟩), .pointer (some ⟨w.heap.size + 3, 0, none⟩), .pointer (some ⟨w.heap.size, 0, none⟩)] (fun _ _ => by kernel_rfl) A c L X (by omega) (hA.below (below_up hb4 hb hb4.size)) (fun Y x hx hy => by
    have hby := below_up hb4 (below_up hb hy hb.size) hb4.size
    have hyw := below_up hb hy hb.size
    have cf := cellOf ((hyw.block (w.heap.size + 1) (by omega)).trans hf) (j := 0) rfl
    have cc := cellOf ((hyw.block (w.heap.size + 2) (by omega)).trans hc) (j := 0) rfl
    have cd := cellOf ((hyw.block (w.heap.size + 3) (by omega)).trans hd) (j := 0) rfl
    have c0 := cellOf ((hyw.block (w.heap.size) (by omega)).trans hk) (j := 0) rfl
    have c1 := cellOf ((hyw.block (w.heap.size) (by omega)).trans hk) (j := 1) rfl
    exact (old1_any g _ _ _ _ S cwd mac R rc M B bc made x Y (h.below (VS.fr g S) hby) (hm.below hby) h1 (hs x hx) cf cc cd c0 c1 (hM.below hby) hml hsp (hB.below hby) hbl).mono (fun e w' ⟨q1, q2⟩ => ⟨q1, below_up hy q2 hy.size⟩)))
  have hR : oldS S cwd M target L made = (!(nodeS S cwd target).1 || hasR M phony target || decide (0 < (newerS S cwd target L).length) || L.any (madeS S cwd M made)) := rfl
  obtain ⟨nb, hnb⟩ : ∃ b, (nodeS S cwd target).1 = b := ⟨_, rfl⟩
  obtain ⟨nt, hnt⟩ : ∃ b, (nodeS S cwd target).2 = b := ⟨_, rfl⟩
  obtain ⟨hh, hhh⟩ : ∃ b, hasR M phony target = b := ⟨_, rfl⟩
  obtain ⟨NW, hnw⟩ : ∃ b, newerS S cwd target L = b := ⟨_, rfl⟩
  obtain ⟨an, han⟩ : ∃ b, L.any (madeS S cwd M made) = b := ⟨_, rfl⟩
  have hnl : NW.length ≤ 100000 := by rw [← hnw]; unfold newerS; exact Nat.le_trans (List.length_filter_le _ _) hl
  rw [hnb, hhh, hnw, han] at hR
  rw [hnb, hnt] at HNT
  rw [hhh] at HHS
  rw [hnw] at HNW
  rw [han] at HCF
  have HR := hide hR
  have HWW := hide hW
  have hf0 := cellOf hf (j := 0) rfl
  have hc0 := cellOf hc (j := 0) rfl
  have HK := hide hk
  have HF := hide hf
  have HC := hide hc
  unfold phony at HHS
  obtain ⟨n, hn⟩ : ∃ n, L.length = n := ⟨_, rfl⟩
  obtain ⟨k, hk'⟩ : ∃ n, M.length = n := ⟨_, rfl⟩
  obtain ⟨j, hj'⟩ : ∃ n, made.length = n := ⟨_, rfl⟩
  rw [hn] at HNW HCF ⊢
  rw [hk'] at HHS HK HWW ⊢
  rw [hj'] at HWW ⊢
  have HSZ := hide hsz
  clear hR hnb hnt hhh hnw han hk hf hc hd hb4 hW hsz h hm hA hl hs hM hml hsp hB hbl hn hk' hj'
  go_enter Tryz.func17, Tryz.ntmps17
  go_wp2_with fail
  rw [HWW.out]
  refine HNT.out.mono ?_
  rintro e w1 ⟨rfl, hb1⟩
  have hk1 := hb1.block w.heap.size (by have := HSZ.out; omega)
  have hf1 := hb1.block (w.heap.size + 1) (by have := HSZ.out; omega)
  have hc1 := hb1.block (w.heap.size + 2) (by have := HSZ.out; omega)
  clear hf0 hc0
  have hk10 := cellOf (hk1.trans HK.out) (j := 0) rfl
  have hk11 := cellOf (hk1.trans HK.out) (j := 1) rfl
  have HBW1 := hide hb1
  have HB1 := hide (below_up HB4.out hb1 HB4.out.size)
  clear hk1 hf1 hc1 hb1
  cases nb with
  | false =>
    have HE := hide (show oldS S cwd M target L made = true by rw [HR.out]; rfl)
    go_wp2
    go_ret
    rw [HE.out]
    exact ⟨rfl, HB1.out⟩
  | true =>
    go_wp2_with fail
    refine (HHS.out w1 HB1.out).mono ?_
    rintro e w2 ⟨rfl, hb2⟩
    have hbw2 := below_up HBW1.out hb2 HBW1.out.size
    have hf2 := cellOf ((hbw2.block (w.heap.size + 1) (by have := HSZ.out; omega)).trans HF.out) (j := 0) rfl
    have hc2 := cellOf ((hbw2.block (w.heap.size + 2) (by have := HSZ.out; omega)).trans HC.out) (j := 0) rfl
    have HBW2 := hide hbw2
    have HB2 := hide (below_up HB1.out hb2 HB1.out.size)
    clear hb2 hbw2 hk10 hk11
    cases hh with
    | true =>
      have HE := hide (show oldS S cwd M target L made = true by rw [HR.out]; rfl)
      go_wp2
      go_ret
      rw [HE.out]
      exact ⟨rfl, HB2.out⟩
    | false =>
      go_wp2_with fail
      refine (HNW.out w2 HB2.out).mono ?_
      rintro e w3 ⟨⟨v, rfl, ho⟩, hb3⟩
      obtain ⟨A5, c5, rfl, hc5, _, _⟩ := ho.slice
      have HBW3 := hide (below_up HBW2.out hb3 HBW2.out.size)
      have HB3 := hide (below_up HB2.out hb3 HB2.out.size)
      clear hb3 ho hf2 hc2
      obtain ⟨m, hm'⟩ : ∃ m, NW.length = m := ⟨_, rfl⟩
      rw [hm'] at hnl hc5 ⊢
      have HM := hide hm'
      clear hm'
      by_cases m0 : 0 < m
      · have d1 : (0 : Int) < (m : Int) := by omega
        have HE := hide (show oldS S cwd M target L made = true by rw [HR.out, HM.out, decide_eq_true m0]; rfl)
        clear m0
        go_wp2
        go_ret
        rw [HE.out]
        exact ⟨rfl, HB3.out⟩
      · obtain rfl : m = 0 := by omega
        have HE := hide (show oldS S cwd M target L made = an by rw [HR.out, HM.out]; rfl)
        clear m0
        go_wp2_with fail
        refine (HCF.out w3 HBW3.out).mono ?_
        rintro e w4 ⟨rfl, hb4⟩
        have HB5 := hide (below_up HB3.out hb4 HB3.out.size)
        clear hb4
        go_wp2
        go_ret
        rw [HE.out]
        exact ⟨rfl, HB5.out⟩
end Go.Proofs.YthhiogigfaojmaaGreatDoor
/- Walk of the reference's Old (chapter 23). -/
namespace Go.Proofs.YthhiogigfaojmaaGreatDoor
open Go.RowKit Go.Deep Go.Maps Ln Pth Vf
set_option linter.unusedSimpArgs false
set_option linter.unusedVariables false
attribute [local go_sem] bt_eq

set_option maxRecDepth 100000 in
set_option maxHeartbeats 8000000 in
theorem rold18_any (g : Nat) (S : St) (cwd : T) (mac : Value) (R : Option Addr) (rc : Nat) (M : List Rl) (target : ByteArray) (A : Option Addr) (c : Nat) (L : List ByteArray) (B : Option Addr) (bc : Nat) (made : List ByteArray) (w : World) (h : Hs (RS g S) w) (hm : S.m.length ≤ 1000000) (h1 : cwd.length ≤ 6600000) (h2 : target.size ≤ 6600000)
    (hA : SR w A L) (hl : L.length ≤ 100000) (hs : ∀ x ∈ L, x.size ≤ 6600000) (hM : RLS w R M) (hml : M.length ≤ 1000) (hz : TgZ M) (hsp : (specialR M phony).length ≤ 900000) (hB : SR w B made) (hbl : made.length ≤ 100000) :
    Calls Tryz.prog 18 #[.agg #[mac, .slice R M.length rc], .pointer (some ⟨g, 0, none⟩), .string (bs cwd), .string target, .slice A L.length c, .slice B made.length bc] w fun e w' => e = .returned (.bool (oldS S cwd M target L made)) ∧ Below w.heap.size w w' := by
  have HHS := hide (fun (x : ByteArray) W (hb : Below w.heap.size w W) => rhasR_any mac R rc M phony x W (hM.below hb) hml hz hsp)
  have HKD := hide (fun (x : ByteArray) (hx : x.size ≤ 6600000) W (hb : Below w.heap.size w W) => rkind18_any g S cwd x W (h.below (RS.fr g S) hb) hm h1 hx)
  have HNW := hide (fun W (hb : Below w.heap.size w W) => rnewer18_any g S cwd target A c L W (h.below (RS.fr g S) hb) hm h1 h2 (hA.below hb) hl hs)
  have HCT := hide (fun (x : ByteArray) W (hb : Below w.heap.size w W) => rhas_any B bc made x W (hB.below hb) (by omega))
  have HSZ := hide hs
  have HA := hide hA
  have hR : oldS S cwd M target L made = (!(nodeS S cwd target).1 || hasR M phony target || decide (0 < (newerS S cwd target L).length) || L.any (madeS S cwd M made)) := rfl
  rw [nodeS_k] at hR
  have HMD := hide (fun x => show madeS S cwd M made x = (Lib.containsS made x && (decide (nodeK S cwd x = 0) || hasR M phony x)) by unfold madeS; rw [nodeS_k, Bool.not_not])
  have HKT := hide (HKD.out target h2)
  have HHT := hide (HHS.out target)
  obtain ⟨nb, hnb⟩ : ∃ b, nodeK S cwd target = b := ⟨_, rfl⟩
  obtain ⟨hh, hhh⟩ : ∃ b, hasR M phony target = b := ⟨_, rfl⟩
  obtain ⟨NW, hnw⟩ : ∃ b, newerS S cwd target L = b := ⟨_, rfl⟩
  have hnl : NW.length ≤ 100000 := by rw [← hnw]; unfold newerS; exact Nat.le_trans (List.length_filter_le _ _) hl
  rw [hnb, hhh, hnw, Bool.not_not] at hR
  rw [hnb] at HKT
  rw [hhh] at HHT
  rw [hnw] at HNW
  have HR := hide hR
  unfold phony at HHS HHT
  obtain ⟨n, hn⟩ : ∃ n, L.length = n := ⟨_, rfl⟩
  obtain ⟨mn, hk'⟩ : ∃ n, M.length = n := ⟨_, rfl⟩
  obtain ⟨jn, hj'⟩ : ∃ n, made.length = n := ⟨_, rfl⟩
  have HN := hide hn
  rw [hn] at HNW ⊢
  rw [hk'] at HHS HHT ⊢
  rw [hj'] at HCT ⊢
  have hn1 : (n : Int) ≤ 100000 := by omega
  clear hR hnb hhh hnw h hm hA hs hM hml hz hsp hB hbl hn hk' hj'
  have HB0 := hide ((Below.refl w.heap.size w).alloc (Nat.le_refl _) (.cells #[mac, .slice R mn rc] 25))
  have HNB := hide (heapNew w (.cells #[mac, .slice R mn rc] 25))
  go_enter Tryz.func18, Tryz.ntmps18
  go_wp2_with fail
  refine (HHT.out _ HB0.out).mono ?_
  rintro e w1 ⟨rfl, hb1⟩
  have hlw : w.heap.size < (w.alloc (.cells #[mac, .slice R mn rc] 25)).heap.size := by simp
  have HH1 := hide ((hb1.block _ hlw).trans HNB.out)
  have HB1 := hide (below_up HB0.out hb1 HB0.out.size)
  clear hb1 hlw
  cases hh with
  | true =>
    have HE := hide (show oldS S cwd M target L made = true by rw [HR.out]; simp)
    go_wp2
    go_ret
    rw [HE.out]
    exact ⟨rfl, HB1.out⟩
  | false =>
    go_wp2_with fail
    refine (HKT.out _ HB1.out).mono ?_
    rintro e w2 ⟨rfl, hb2⟩
    have hlw := (Array.getElem?_eq_some_iff.1 HH1.out).1
    have HH2 := hide ((hb2.block _ hlw).trans HH1.out)
    have HB2 := hide (below_up HB1.out hb2 HB1.out.size)
    clear hb2 hlw
    by_cases nb0 : nb = 0
    · subst nb0
      have HE := hide (show oldS S cwd M target L made = true by rw [HR.out]; rfl)
      go_wp2
      go_ret
      rw [HE.out]
      exact ⟨rfl, HB2.out⟩
    · have nb1 : ((nb : Int) == 0) = false := by simpa using nb0
      have HR2 := hide (show oldS S cwd M target L made = (decide (0 < NW.length) || L.any (madeS S cwd M made)) by rw [HR.out, decide_eq_false nb0]; rfl)
      clear nb0
      go_wp2_with fail
      refine (HNW.out w2 HB2.out).mono ?_
      rintro e w3 ⟨⟨v, rfl, ho⟩, hb3⟩
      obtain ⟨A5, c5, rfl, hc5, _, _⟩ := ho.slice
      have hlw := (Array.getElem?_eq_some_iff.1 HH2.out).1
      have HH3 := hide ((hb3.block _ hlw).trans HH2.out)
      have HB3 := hide (below_up HB2.out hb3 HB2.out.size)
      clear hb3 ho hlw
      obtain ⟨m, hm'⟩ : ∃ m, NW.length = m := ⟨_, rfl⟩
      rw [hm'] at hnl hc5 HR2 ⊢
      clear hm'
      by_cases m0 : 0 < m
      · have d1 : (0 : Int) < (m : Int) := by omega
        have HE := hide (show oldS S cwd M target L made = true by rw [HR2.out, decide_eq_true m0]; rfl)
        clear m0
        go_wp2
        go_ret
        rw [HE.out]
        exact ⟨rfl, HB3.out⟩
      obtain rfl : m = 0 := by omega
      have HE := hide (show oldS S cwd M target L made = L.any (madeS S cwd M made) by rw [HR2.out]; rfl)
      clear m0
      go_wp2
      go_loopw [13] (fun v13 wr => ∃ k : Nat, v13 = .int .i64 k ∧ k ≤ n ∧ Hid ((L.take k).any (madeS S cwd M made) = false) ∧ Below w.heap.size w wr ∧ wr.heap[w.heap.size]? = some (.cells #[mac, .slice R mn rc] 25)) (fun v13 _ => n - (intOf v13).toNat)
      case atStart => exact ⟨0, rfl, by omega, hide (by simp), HB3.out, HH3.out⟩
      case round =>
        obtain ⟨wo, hwo⟩ : ∃ Z, Z = wr := ⟨_, rfl⟩
        subst hwo
        obtain ⟨k, rfl, hk, HAN, hb, hhb⟩ := hrel
        have HB := hide hb
        have HH := hide hhb
        by_cases hkn : k < n
        case neg =>
          obtain rfl : k = n := by omega
          have HF := hide (show oldS S cwd M target L made = false by rw [HE.out, ← HAN.out, List.take_of_length_le (by have := HN.out; omega)])
          go_wp2
          go_ret
          rw [HF.out]
          exact ⟨rfl, HB.out⟩
        obtain ⟨x, hx⟩ : ∃ x, L[k]? = some x := ⟨L[k]'(by have := HN.out; omega), List.getElem?_eq_getElem _⟩
        obtain ⟨gs, o, rfl, hg, hc⟩ := HA.out.below HB.out k x hx
        have hxs := HSZ.out x (List.mem_of_getElem? hx)
        have hlw := (Array.getElem?_eq_some_iff.1 hhb).1
        have m0 := cellOf' hhb (j := 0) rfl
        have m1 := cellOf' hhb (j := 1) rfl
        have ht := any_take (madeS S cwd M made) hx
        rw [HAN.out, HMD.out x] at ht
        have hal : (Lib.containsS made x && (decide (nodeK S cwd x = 0) || hasR M phony x)) = true → L.any (madeS S cwd M made) = true := fun hq => List.any_eq_true.2 ⟨x, List.mem_of_getElem? hx, by rw [HMD.out x]; exact hq⟩
        have hce := HB.out.size
        have HCX := hide (fun Z (hb : Below wo.heap.size wo Z) => HCT.out x Z (below_up HB.out hb hce))
        have HKX := hide (fun Z (hb : Below wo.heap.size wo Z) => HKD.out x hxs Z (below_up HB.out hb hce))
        have HHX := hide (fun Z (hb : Below wo.heap.size wo Z) => HHS.out x Z (below_up HB.out hb hce))
        obtain ⟨ct, hct⟩ : ∃ b, Lib.containsS made x = b := ⟨_, rfl⟩
        obtain ⟨kk, hkk⟩ : ∃ b, nodeK S cwd x = b := ⟨_, rfl⟩
        obtain ⟨hq, hqq⟩ : ∃ b, hasR M phony x = b := ⟨_, rfl⟩
        rw [hct] at HCX ht hal
        rw [hkk] at HKX ht hal
        rw [show hasR M ⟨#[46, 80, 72, 79, 78, 89]⟩ x = hq from hqq] at HHX
        rw [hqq] at ht hal
        have HTK := hide ht
        have HAL := hide hal
        have HGL := hide hg
        have HLW := hide hlw
        have b1 : (k : Int) < (n : Int) := by omega
        clear hx hxs ht hal hct hkk hqq hb hhb
        cases ct with
        | false =>
          have hq := fun (Z : World) (hb : Below wo.heap.size wo Z) => show ((fun Z => Z.cell? ⟨gs, o + k, none⟩ = some (.string x) ∧ Z.cell? ⟨w.heap.size, 0, none⟩ = some mac ∧ Z.cell? ⟨w.heap.size, 1, none⟩ = some (.slice R mn rc))) Z from ⟨(hb.cell (p := ⟨gs, o + k, none⟩) HGL.out).trans hc, (hb.cell (p := ⟨w.heap.size, 0, none⟩) HLW.out).trans m0, (hb.cell (p := ⟨w.heap.size, 1, none⟩) HLW.out).trans m1⟩
          have HQ := hide hq
          clear hq
          go_wp2_with fail
          refine wp_region_held_drew (S := (fun Z => Z.cell? ⟨gs, o + k, none⟩ = some (.string x) ∧ Z.cell? ⟨w.heap.size, 0, none⟩ = some mac ∧ Z.cell? ⟨w.heap.size, 1, none⟩ = some (.slice R mn rc))) (by kernel_rfl) (HQ.out _ (Below.refl _ _).drew) (fun hHeld => ?_)
          refine wpAnyH_tk (i := 0) (oi := _) (v := ?vOF0) rfl rfl (by kernel_rfl) (by kernel_rfl) (by kernel_rfl) (fun _ _ _ h => h) (Or.inl ⟨by kernel_rfl, ?yOF0⟩) (by assumption) ?rOF0
          case yOF0 =>
            intro w hSw
            (try dsimp only at hSw)
            go_simp
            try with_reducible rfl
          try simp only [List.setIfInBounds_toArray, List.set_cons_zero, List.set_cons_succ]
          refine wpAnyH_tk (i := 1) (oi := _) (v := ?vOF1) rfl rfl (by kernel_rfl) (by kernel_rfl) (by kernel_rfl) (fun _ _ _ h => h) (Or.inl ⟨by kernel_rfl, ?yOF1⟩) (by assumption) ?rOF1
          case yOF1 =>
            intro w hSw
            (try dsimp only at hSw)
            go_simp
            try with_reducible rfl
          try simp only [List.setIfInBounds_toArray, List.set_cons_zero, List.set_cons_succ]
          refine wpAnyH_tk (i := 2) (oi := _) (v := ?vOF2) rfl rfl (by kernel_rfl) (by kernel_rfl) (by kernel_rfl) (fun _ _ _ h => h) (Or.inl ⟨by kernel_rfl, ?yOF2⟩) (by assumption) ?rOF2
          case yOF2 =>
            intro w hSw
            (try dsimp only at hSw)
            go_simp
            try with_reducible rfl
          try simp only [List.setIfInBounds_toArray, List.set_cons_zero, List.set_cons_succ]
          refine wpAnyH_tk (i := 3) (oi := _) (v := ?vOF3) rfl rfl (by kernel_rfl) (by kernel_rfl) (by kernel_rfl) (fun _ _ _ h => h) (Or.inl ⟨by kernel_rfl, ?yOF3⟩) (by assumption) ?rOF3
          case yOF3 =>
            intro w hSw
            (try dsimp only at hSw)
            go_simp
            try with_reducible rfl
          try simp only [List.setIfInBounds_toArray, List.set_cons_zero, List.set_cons_succ]
          refine wpAnyH_tk (i := 4) (oi := _) (v := ?vOF4) rfl rfl (by kernel_rfl) (by kernel_rfl) (by kernel_rfl) (fun _ _ _ h => h) (Or.inl ⟨by kernel_rfl, ?yOF4⟩) (by assumption) ?rOF4
          case yOF4 =>
            intro w hSw
            (try dsimp only at hSw)
            go_simp
            try with_reducible rfl
          try simp only [List.setIfInBounds_toArray, List.set_cons_zero, List.set_cons_succ]
          refine wpAnyH_ready (rs := [5]) (by kernel_rfl) (by simp) ?_
          refine AllReadyH.cons (o := _) rfl (fun K hK => ?_) AllReadyH.nil
          rw [if_pos (by kernel_rfl)]
          go_simp
          refine (HCX.out _ (Below.refl _ _).drew).mono ?_
          rintro e w' ⟨rfl, rfl⟩
          refine hK.out _ _ (HQ.out _ (Below.refl _ _).drew) (fun _ => ?_)
          clear hK K
          try simp only [Act.put, List.setIfInBounds_toArray, List.set_cons_zero, List.set_cons_succ]
          refine wpAnyH_tk (i := 6) (oi := _) (v := ?vOF6) rfl rfl (by kernel_rfl) (by kernel_rfl) (by kernel_rfl) (fun _ _ _ h => h) (Or.inl ⟨by kernel_rfl, ?yOF6⟩) (by assumption) ?rOF6
          case yOF6 =>
            intro w hSw
            (try dsimp only at hSw)
            go_simp
            try with_reducible rfl
          try simp only [List.setIfInBounds_toArray, List.set_cons_zero, List.set_cons_succ]
          refine wpAnyH_off (i := 7) (oi := _) rfl rfl (by kernel_rfl) (by kernel_rfl) (by kernel_rfl) (fun _ _ _ h => h) (by kernel_rfl) (by assumption) ?_
          try simp only [List.setIfInBounds_toArray, List.set_cons_zero, List.set_cons_succ]
          refine wpAnyH_off (i := 8) (oi := _) rfl rfl (by kernel_rfl) (by kernel_rfl) (by kernel_rfl) (fun _ _ _ h => h) (by kernel_rfl) (by assumption) ?_
          try simp only [List.setIfInBounds_toArray, List.set_cons_zero, List.set_cons_succ]
          refine wpAnyH_off (i := 9) (oi := _) rfl rfl (by kernel_rfl) (by kernel_rfl) (by kernel_rfl) (fun _ _ _ h => h) (by kernel_rfl) (by assumption) ?_
          try simp only [List.setIfInBounds_toArray, List.set_cons_zero, List.set_cons_succ]
          refine wpAnyH_off (i := 10) (oi := _) rfl rfl (by kernel_rfl) (by kernel_rfl) (by kernel_rfl) (fun _ _ _ h => h) (by kernel_rfl) (by assumption) ?_
          try simp only [List.setIfInBounds_toArray, List.set_cons_zero, List.set_cons_succ]
          refine wpAnyH_off (i := 11) (oi := _) rfl rfl (by kernel_rfl) (by kernel_rfl) (by kernel_rfl) (fun _ _ _ h => h) (by kernel_rfl) (by assumption) ?_
          try simp only [List.setIfInBounds_toArray, List.set_cons_zero, List.set_cons_succ]
          refine wpAnyH_off (i := 12) (oi := _) rfl rfl (by kernel_rfl) (by kernel_rfl) (by kernel_rfl) (fun _ _ _ h => h) (by kernel_rfl) (by assumption) ?_
          try simp only [List.setIfInBounds_toArray, List.set_cons_zero, List.set_cons_succ]
          refine wpAnyH_off (i := 13) (oi := _) rfl rfl (by kernel_rfl) (by kernel_rfl) (by kernel_rfl) (fun _ _ _ h => h) (by kernel_rfl) (by assumption) ?_
          try simp only [List.setIfInBounds_toArray, List.set_cons_zero, List.set_cons_succ]
          refine wpAnyH_off (i := 14) (oi := _) rfl rfl (by kernel_rfl) (by kernel_rfl) (by kernel_rfl) (fun _ _ _ h => h) (by kernel_rfl) (by assumption) ?_
          try simp only [List.setIfInBounds_toArray, List.set_cons_zero, List.set_cons_succ]
          refine wpAnyH_off (i := 15) (oi := _) rfl rfl (by kernel_rfl) (by kernel_rfl) (by kernel_rfl) (fun _ _ _ h => h) (by kernel_rfl) (by assumption) ?_
          try simp only [List.setIfInBounds_toArray, List.set_cons_zero, List.set_cons_succ]
          refine wpAnyH_off (i := 16) (oi := _) rfl rfl (by kernel_rfl) (by kernel_rfl) (by kernel_rfl) (fun _ _ _ h => h) (by kernel_rfl) (by assumption) ?_
          try simp only [List.setIfInBounds_toArray, List.set_cons_zero, List.set_cons_succ]
          refine wpAnyH_off (i := 17) (oi := _) rfl rfl (by kernel_rfl) (by kernel_rfl) (by kernel_rfl) (fun _ _ _ h => h) (by kernel_rfl) (by assumption) ?_
          try simp only [List.setIfInBounds_toArray, List.set_cons_zero, List.set_cons_succ]
          refine wpAnyH_off (i := 18) (oi := _) rfl rfl (by kernel_rfl) (by kernel_rfl) (by kernel_rfl) (fun _ _ _ h => h) (by kernel_rfl) (by assumption) ?_
          try simp only [List.setIfInBounds_toArray, List.set_cons_zero, List.set_cons_succ]
          refine wpAnyH_off (i := 19) (oi := _) rfl rfl (by kernel_rfl) (by kernel_rfl) (by kernel_rfl) (fun _ _ _ h => h) (by kernel_rfl) (by assumption) ?_
          try simp only [List.setIfInBounds_toArray, List.set_cons_zero, List.set_cons_succ]
          refine wpAnyH_off (i := 20) (oi := _) rfl rfl (by kernel_rfl) (by kernel_rfl) (by kernel_rfl) (fun _ _ _ h => h) (by kernel_rfl) (by assumption) ?_
          try simp only [List.setIfInBounds_toArray, List.set_cons_zero, List.set_cons_succ]
          refine wpAnyH_off (i := 21) (oi := _) rfl rfl (by kernel_rfl) (by kernel_rfl) (by kernel_rfl) (fun _ _ _ h => h) (by kernel_rfl) (by assumption) ?_
          try simp only [List.setIfInBounds_toArray, List.set_cons_zero, List.set_cons_succ]
          refine wpAnyH_off (i := 22) (oi := _) rfl rfl (by kernel_rfl) (by kernel_rfl) (by kernel_rfl) (fun _ _ _ h => h) (by kernel_rfl) (by assumption) ?_
          try simp only [List.setIfInBounds_toArray, List.set_cons_zero, List.set_cons_succ]
          refine wpAnyH_tk (i := 23) (oi := _) (v := ?vOF23) rfl rfl (by kernel_rfl) (by kernel_rfl) (by kernel_rfl) (fun _ _ _ h => h) (Or.inl ⟨by kernel_rfl, ?yOF23⟩) (by assumption) ?rOF23
          case yOF23 =>
            intro w hSw
            (try dsimp only at hSw)
            go_simp
            try with_reducible rfl
          try simp only [List.setIfInBounds_toArray, List.set_cons_zero, List.set_cons_succ]
          refine wpAnyH_done (by kernel_rfl) ?_ _
          go_wp2
          go_roundw
          case rel => exact ⟨k + 1, by go_num, by omega, hide (HTK.out.trans (by first | rfl | simp [kk1'])), below_up HB.out (Below.refl wo.heap.size wo).drew hce, ((Below.refl wo.heap.size wo).drew.block _ HLW.out).trans HH.out⟩
          case measure => simp [intOf]; omega
        | true =>
          by_cases kk0 : kk = 0
          · subst kk0
            have hq := fun (Z : World) (hb : Below wo.heap.size wo Z) => show ((fun Z => Z.cell? ⟨gs, o + k, none⟩ = some (.string x) ∧ Z.cell? ⟨w.heap.size, 0, none⟩ = some mac ∧ Z.cell? ⟨w.heap.size, 1, none⟩ = some (.slice R mn rc) ∧ ((0 : Int) == 0) = true)) Z from ⟨(hb.cell (p := ⟨gs, o + k, none⟩) HGL.out).trans hc, (hb.cell (p := ⟨w.heap.size, 0, none⟩) HLW.out).trans m0, (hb.cell (p := ⟨w.heap.size, 1, none⟩) HLW.out).trans m1, by simp⟩
            have HQ := hide hq
            clear hq
            go_wp2_with fail
            refine wp_region_held_drew (S := (fun Z => Z.cell? ⟨gs, o + k, none⟩ = some (.string x) ∧ Z.cell? ⟨w.heap.size, 0, none⟩ = some mac ∧ Z.cell? ⟨w.heap.size, 1, none⟩ = some (.slice R mn rc) ∧ ((0 : Int) == 0) = true)) (by kernel_rfl) (HQ.out _ (Below.refl _ _).drew) (fun hHeld => ?_)
            refine wpAnyH_tk (i := 0) (oi := _) (v := ?vOZ0) rfl rfl (by kernel_rfl) (by kernel_rfl) (by kernel_rfl) (fun _ _ _ h => h) (Or.inl ⟨by kernel_rfl, ?yOZ0⟩) (by assumption) ?rOZ0
            case yOZ0 =>
              intro w hSw
              (try dsimp only at hSw)
              go_simp
              try with_reducible rfl
            try simp only [List.setIfInBounds_toArray, List.set_cons_zero, List.set_cons_succ]
            refine wpAnyH_tk (i := 1) (oi := _) (v := ?vOZ1) rfl rfl (by kernel_rfl) (by kernel_rfl) (by kernel_rfl) (fun _ _ _ h => h) (Or.inl ⟨by kernel_rfl, ?yOZ1⟩) (by assumption) ?rOZ1
            case yOZ1 =>
              intro w hSw
              (try dsimp only at hSw)
              go_simp
              try with_reducible rfl
            try simp only [List.setIfInBounds_toArray, List.set_cons_zero, List.set_cons_succ]
            refine wpAnyH_tk (i := 2) (oi := _) (v := ?vOZ2) rfl rfl (by kernel_rfl) (by kernel_rfl) (by kernel_rfl) (fun _ _ _ h => h) (Or.inl ⟨by kernel_rfl, ?yOZ2⟩) (by assumption) ?rOZ2
            case yOZ2 =>
              intro w hSw
              (try dsimp only at hSw)
              go_simp
              try with_reducible rfl
            try simp only [List.setIfInBounds_toArray, List.set_cons_zero, List.set_cons_succ]
            refine wpAnyH_tk (i := 3) (oi := _) (v := ?vOZ3) rfl rfl (by kernel_rfl) (by kernel_rfl) (by kernel_rfl) (fun _ _ _ h => h) (Or.inl ⟨by kernel_rfl, ?yOZ3⟩) (by assumption) ?rOZ3
            case yOZ3 =>
              intro w hSw
              (try dsimp only at hSw)
              go_simp
              try with_reducible rfl
            try simp only [List.setIfInBounds_toArray, List.set_cons_zero, List.set_cons_succ]
            refine wpAnyH_tk (i := 4) (oi := _) (v := ?vOZ4) rfl rfl (by kernel_rfl) (by kernel_rfl) (by kernel_rfl) (fun _ _ _ h => h) (Or.inl ⟨by kernel_rfl, ?yOZ4⟩) (by assumption) ?rOZ4
            case yOZ4 =>
              intro w hSw
              (try dsimp only at hSw)
              go_simp
              try with_reducible rfl
            try simp only [List.setIfInBounds_toArray, List.set_cons_zero, List.set_cons_succ]
            refine wpAnyH_ready (rs := [5]) (by kernel_rfl) (by simp) ?_
            refine AllReadyH.cons (o := _) rfl (fun K hK => ?_) AllReadyH.nil
            rw [if_pos (by kernel_rfl)]
            go_simp
            refine (HCX.out _ (Below.refl _ _).drew).mono ?_
            rintro e w' ⟨rfl, rfl⟩
            refine hK.out _ _ (HQ.out _ (Below.refl _ _).drew) (fun _ => ?_)
            clear hK K
            try simp only [Act.put, List.setIfInBounds_toArray, List.set_cons_zero, List.set_cons_succ]
            refine wpAnyH_tk (i := 6) (oi := _) (v := ?vOZ6) rfl rfl (by kernel_rfl) (by kernel_rfl) (by kernel_rfl) (fun _ _ _ h => h) (Or.inl ⟨by kernel_rfl, ?yOZ6⟩) (by assumption) ?rOZ6
            case yOZ6 =>
              intro w hSw
              (try dsimp only at hSw)
              go_simp
              try with_reducible rfl
            try simp only [List.setIfInBounds_toArray, List.set_cons_zero, List.set_cons_succ]
            refine wpAnyH_tk (i := 7) (oi := _) (v := ?vOZ7) rfl rfl (by kernel_rfl) (by kernel_rfl) (by kernel_rfl) (fun _ _ _ h => h) (Or.inl ⟨by kernel_rfl, ?yOZ7⟩) (by assumption) ?rOZ7
            case yOZ7 =>
              intro w hSw
              (try dsimp only at hSw)
              go_simp
              try with_reducible rfl
            try simp only [List.setIfInBounds_toArray, List.set_cons_zero, List.set_cons_succ]
            refine wpAnyH_tk (i := 8) (oi := _) (v := ?vOZ8) rfl rfl (by kernel_rfl) (by kernel_rfl) (by kernel_rfl) (fun _ _ _ h => h) (Or.inl ⟨by kernel_rfl, ?yOZ8⟩) (by assumption) ?rOZ8
            case yOZ8 =>
              intro w hSw
              (try dsimp only at hSw)
              go_simp
              try with_reducible rfl
            try simp only [List.setIfInBounds_toArray, List.set_cons_zero, List.set_cons_succ]
            refine wpAnyH_tk (i := 9) (oi := _) (v := ?vOZ9) rfl rfl (by kernel_rfl) (by kernel_rfl) (by kernel_rfl) (fun _ _ _ h => h) (Or.inl ⟨by kernel_rfl, ?yOZ9⟩) (by assumption) ?rOZ9
            case yOZ9 =>
              intro w hSw
              (try dsimp only at hSw)
              go_simp
              try with_reducible rfl
            try simp only [List.setIfInBounds_toArray, List.set_cons_zero, List.set_cons_succ]
            refine wpAnyH_tk (i := 10) (oi := _) (v := ?vOZ10) rfl rfl (by kernel_rfl) (by kernel_rfl) (by kernel_rfl) (fun _ _ _ h => h) (Or.inl ⟨by kernel_rfl, ?yOZ10⟩) (by assumption) ?rOZ10
            case yOZ10 =>
              intro w hSw
              (try dsimp only at hSw)
              go_simp
              try with_reducible rfl
            try simp only [List.setIfInBounds_toArray, List.set_cons_zero, List.set_cons_succ]
            refine wpAnyH_tk (i := 11) (oi := _) (v := ?vOZ11) rfl rfl (by kernel_rfl) (by kernel_rfl) (by kernel_rfl) (fun _ _ _ h => h) (Or.inl ⟨by kernel_rfl, ?yOZ11⟩) (by assumption) ?rOZ11
            case yOZ11 =>
              intro w hSw
              (try dsimp only at hSw)
              go_simp
              try with_reducible rfl
            try simp only [List.setIfInBounds_toArray, List.set_cons_zero, List.set_cons_succ]
            refine wpAnyH_tk (i := 12) (oi := _) (v := ?vOZ12) rfl rfl (by kernel_rfl) (by kernel_rfl) (by kernel_rfl) (fun _ _ _ h => h) (Or.inl ⟨by kernel_rfl, ?yOZ12⟩) (by assumption) ?rOZ12
            case yOZ12 =>
              intro w hSw
              (try dsimp only at hSw)
              go_simp
              try with_reducible rfl
            try simp only [List.setIfInBounds_toArray, List.set_cons_zero, List.set_cons_succ]
            refine wpAnyH_ready (rs := [13]) (by kernel_rfl) (by simp) ?_
            refine AllReadyH.cons (o := _) rfl (fun K hK => ?_) AllReadyH.nil
            rw [if_pos (by kernel_rfl)]
            go_simp
            refine (HKX.out _ (Below.refl _ _).drew).mono ?_
            rintro e w8 ⟨rfl, hb8⟩
            have HB8 := hide (below_up (Below.refl wo.heap.size wo).drew hb8 (Nat.le_refl _))
            clear hb8
            refine hK.out _ _ (HQ.out _ HB8.out) (fun _ => ?_)
            clear hK K
            try simp only [Act.put, List.setIfInBounds_toArray, List.set_cons_zero, List.set_cons_succ]
            refine wpAnyH_tk (i := 14) (oi := _) (v := ?vOZ14) rfl rfl (by kernel_rfl) (by kernel_rfl) (by kernel_rfl) (fun _ _ _ h => h) (Or.inl ⟨by kernel_rfl, ?yOZ14⟩) (by assumption) ?rOZ14
            case yOZ14 =>
              intro w hSw
              (try dsimp only at hSw)
              go_simp
              try with_reducible rfl
            try simp only [List.setIfInBounds_toArray, List.set_cons_zero, List.set_cons_succ]
            refine wpAnyH_tk (i := 15) (oi := _) (v := ?vOZ15) rfl rfl (by kernel_rfl) (by kernel_rfl) (by kernel_rfl) (fun _ _ _ h => h) (Or.inl ⟨by kernel_rfl, ?yOZ15⟩) (by assumption) ?rOZ15
            case yOZ15 =>
              intro w hSw
              (try dsimp only at hSw)
              go_simp
              try with_reducible rfl
            try simp only [List.setIfInBounds_toArray, List.set_cons_zero, List.set_cons_succ]
            refine wpAnyH_off (i := 16) (oi := _) rfl rfl (by kernel_rfl) (by kernel_rfl) (by kernel_rfl) (fun _ _ _ h => h) (by kernel_rfl) (by assumption) ?_
            try simp only [List.setIfInBounds_toArray, List.set_cons_zero, List.set_cons_succ]
            refine wpAnyH_off (i := 17) (oi := _) rfl rfl (by kernel_rfl) (by kernel_rfl) (by kernel_rfl) (fun _ _ _ h => h) (by kernel_rfl) (by assumption) ?_
            try simp only [List.setIfInBounds_toArray, List.set_cons_zero, List.set_cons_succ]
            refine wpAnyH_off (i := 18) (oi := _) rfl rfl (by kernel_rfl) (by kernel_rfl) (by kernel_rfl) (fun _ _ _ h => h) (by kernel_rfl) (by assumption) ?_
            try simp only [List.setIfInBounds_toArray, List.set_cons_zero, List.set_cons_succ]
            refine wpAnyH_off (i := 19) (oi := _) rfl rfl (by kernel_rfl) (by kernel_rfl) (by kernel_rfl) (fun _ _ _ h => h) (by kernel_rfl) (by assumption) ?_
            try simp only [List.setIfInBounds_toArray, List.set_cons_zero, List.set_cons_succ]
            refine wpAnyH_off (i := 20) (oi := _) rfl rfl (by kernel_rfl) (by kernel_rfl) (by kernel_rfl) (fun _ _ _ h => h) (by kernel_rfl) (by assumption) ?_
            try simp only [List.setIfInBounds_toArray, List.set_cons_zero, List.set_cons_succ]
            refine wpAnyH_off (i := 21) (oi := _) rfl rfl (by kernel_rfl) (by kernel_rfl) (by kernel_rfl) (fun _ _ _ h => h) (by kernel_rfl) (by assumption) ?_
            try simp only [List.setIfInBounds_toArray, List.set_cons_zero, List.set_cons_succ]
            refine wpAnyH_tk (i := 22) (oi := _) (v := ?vOZ22) rfl rfl (by kernel_rfl) (by kernel_rfl) (by kernel_rfl) (fun _ _ _ h => h) (Or.inl ⟨by kernel_rfl, ?yOZ22⟩) (by assumption) ?rOZ22
            case yOZ22 =>
              intro w hSw
              (try dsimp only at hSw)
              go_simp
              try with_reducible rfl
            try simp only [List.setIfInBounds_toArray, List.set_cons_zero, List.set_cons_succ]
            refine wpAnyH_tk (i := 23) (oi := _) (v := ?vOZ23) rfl rfl (by kernel_rfl) (by kernel_rfl) (by kernel_rfl) (fun _ _ _ h => h) (Or.inl ⟨by kernel_rfl, ?yOZ23⟩) (by assumption) ?rOZ23
            case yOZ23 =>
              intro w hSw
              (try dsimp only at hSw)
              go_simp
              try with_reducible rfl
            try simp only [List.setIfInBounds_toArray, List.set_cons_zero, List.set_cons_succ]
            refine wpAnyH_done (by kernel_rfl) ?_ _
            have HX := hide (show oldS S cwd M target L made = true from HE.out.trans (HAL.out (by first | rfl | simp)))
            go_wp2
            go_ret
            rw [HX.out]
            exact ⟨rfl, below_up HB.out HB8.out hce⟩
          · have kk1 : ((kk : Int) == 0) = false := by simpa using kk0
            have kk1' : decide (kk = 0) = false := decide_eq_false kk0
            clear kk0
            cases hq with
            | false =>
              have hq := fun (Z : World) (hb : Below wo.heap.size wo Z) => show ((fun Z => Z.cell? ⟨gs, o + k, none⟩ = some (.string x) ∧ Z.cell? ⟨w.heap.size, 0, none⟩ = some mac ∧ Z.cell? ⟨w.heap.size, 1, none⟩ = some (.slice R mn rc) ∧ ((kk : Int) == 0) = false)) Z from ⟨(hb.cell (p := ⟨gs, o + k, none⟩) HGL.out).trans hc, (hb.cell (p := ⟨w.heap.size, 0, none⟩) HLW.out).trans m0, (hb.cell (p := ⟨w.heap.size, 1, none⟩) HLW.out).trans m1, kk1⟩
              have HQ := hide hq
              clear hq
              go_wp2_with fail
              refine wp_region_held_drew (S := (fun Z => Z.cell? ⟨gs, o + k, none⟩ = some (.string x) ∧ Z.cell? ⟨w.heap.size, 0, none⟩ = some mac ∧ Z.cell? ⟨w.heap.size, 1, none⟩ = some (.slice R mn rc) ∧ ((kk : Int) == 0) = false)) (by kernel_rfl) (HQ.out _ (Below.refl _ _).drew) (fun hHeld => ?_)
              refine wpAnyH_tk (i := 0) (oi := _) (v := ?vOH00) rfl rfl (by kernel_rfl) (by kernel_rfl) (by kernel_rfl) (fun _ _ _ h => h) (Or.inl ⟨by kernel_rfl, ?yOH00⟩) (by assumption) ?rOH00
              case yOH00 =>
                intro w hSw
                (try dsimp only at hSw)
                go_simp
                try with_reducible rfl
              try simp only [List.setIfInBounds_toArray, List.set_cons_zero, List.set_cons_succ]
              refine wpAnyH_tk (i := 1) (oi := _) (v := ?vOH01) rfl rfl (by kernel_rfl) (by kernel_rfl) (by kernel_rfl) (fun _ _ _ h => h) (Or.inl ⟨by kernel_rfl, ?yOH01⟩) (by assumption) ?rOH01
              case yOH01 =>
                intro w hSw
                (try dsimp only at hSw)
                go_simp
                try with_reducible rfl
              try simp only [List.setIfInBounds_toArray, List.set_cons_zero, List.set_cons_succ]
              refine wpAnyH_tk (i := 2) (oi := _) (v := ?vOH02) rfl rfl (by kernel_rfl) (by kernel_rfl) (by kernel_rfl) (fun _ _ _ h => h) (Or.inl ⟨by kernel_rfl, ?yOH02⟩) (by assumption) ?rOH02
              case yOH02 =>
                intro w hSw
                (try dsimp only at hSw)
                go_simp
                try with_reducible rfl
              try simp only [List.setIfInBounds_toArray, List.set_cons_zero, List.set_cons_succ]
              refine wpAnyH_tk (i := 3) (oi := _) (v := ?vOH03) rfl rfl (by kernel_rfl) (by kernel_rfl) (by kernel_rfl) (fun _ _ _ h => h) (Or.inl ⟨by kernel_rfl, ?yOH03⟩) (by assumption) ?rOH03
              case yOH03 =>
                intro w hSw
                (try dsimp only at hSw)
                go_simp
                try with_reducible rfl
              try simp only [List.setIfInBounds_toArray, List.set_cons_zero, List.set_cons_succ]
              refine wpAnyH_tk (i := 4) (oi := _) (v := ?vOH04) rfl rfl (by kernel_rfl) (by kernel_rfl) (by kernel_rfl) (fun _ _ _ h => h) (Or.inl ⟨by kernel_rfl, ?yOH04⟩) (by assumption) ?rOH04
              case yOH04 =>
                intro w hSw
                (try dsimp only at hSw)
                go_simp
                try with_reducible rfl
              try simp only [List.setIfInBounds_toArray, List.set_cons_zero, List.set_cons_succ]
              refine wpAnyH_ready (rs := [5]) (by kernel_rfl) (by simp) ?_
              refine AllReadyH.cons (o := _) rfl (fun K hK => ?_) AllReadyH.nil
              rw [if_pos (by kernel_rfl)]
              go_simp
              refine (HCX.out _ (Below.refl _ _).drew).mono ?_
              rintro e w' ⟨rfl, rfl⟩
              refine hK.out _ _ (HQ.out _ (Below.refl _ _).drew) (fun _ => ?_)
              clear hK K
              try simp only [Act.put, List.setIfInBounds_toArray, List.set_cons_zero, List.set_cons_succ]
              refine wpAnyH_tk (i := 6) (oi := _) (v := ?vOH06) rfl rfl (by kernel_rfl) (by kernel_rfl) (by kernel_rfl) (fun _ _ _ h => h) (Or.inl ⟨by kernel_rfl, ?yOH06⟩) (by assumption) ?rOH06
              case yOH06 =>
                intro w hSw
                (try dsimp only at hSw)
                go_simp
                try with_reducible rfl
              try simp only [List.setIfInBounds_toArray, List.set_cons_zero, List.set_cons_succ]
              refine wpAnyH_tk (i := 7) (oi := _) (v := ?vOH07) rfl rfl (by kernel_rfl) (by kernel_rfl) (by kernel_rfl) (fun _ _ _ h => h) (Or.inl ⟨by kernel_rfl, ?yOH07⟩) (by assumption) ?rOH07
              case yOH07 =>
                intro w hSw
                (try dsimp only at hSw)
                go_simp
                try with_reducible rfl
              try simp only [List.setIfInBounds_toArray, List.set_cons_zero, List.set_cons_succ]
              refine wpAnyH_tk (i := 8) (oi := _) (v := ?vOH08) rfl rfl (by kernel_rfl) (by kernel_rfl) (by kernel_rfl) (fun _ _ _ h => h) (Or.inl ⟨by kernel_rfl, ?yOH08⟩) (by assumption) ?rOH08
              case yOH08 =>
                intro w hSw
                (try dsimp only at hSw)
                go_simp
                try with_reducible rfl
              try simp only [List.setIfInBounds_toArray, List.set_cons_zero, List.set_cons_succ]
              refine wpAnyH_tk (i := 9) (oi := _) (v := ?vOH09) rfl rfl (by kernel_rfl) (by kernel_rfl) (by kernel_rfl) (fun _ _ _ h => h) (Or.inl ⟨by kernel_rfl, ?yOH09⟩) (by assumption) ?rOH09
              case yOH09 =>
                intro w hSw
                (try dsimp only at hSw)
                go_simp
                try with_reducible rfl
              try simp only [List.setIfInBounds_toArray, List.set_cons_zero, List.set_cons_succ]
              refine wpAnyH_tk (i := 10) (oi := _) (v := ?vOH010) rfl rfl (by kernel_rfl) (by kernel_rfl) (by kernel_rfl) (fun _ _ _ h => h) (Or.inl ⟨by kernel_rfl, ?yOH010⟩) (by assumption) ?rOH010
              case yOH010 =>
                intro w hSw
                (try dsimp only at hSw)
                go_simp
                try with_reducible rfl
              try simp only [List.setIfInBounds_toArray, List.set_cons_zero, List.set_cons_succ]
              refine wpAnyH_tk (i := 11) (oi := _) (v := ?vOH011) rfl rfl (by kernel_rfl) (by kernel_rfl) (by kernel_rfl) (fun _ _ _ h => h) (Or.inl ⟨by kernel_rfl, ?yOH011⟩) (by assumption) ?rOH011
              case yOH011 =>
                intro w hSw
                (try dsimp only at hSw)
                go_simp
                try with_reducible rfl
              try simp only [List.setIfInBounds_toArray, List.set_cons_zero, List.set_cons_succ]
              refine wpAnyH_tk (i := 12) (oi := _) (v := ?vOH012) rfl rfl (by kernel_rfl) (by kernel_rfl) (by kernel_rfl) (fun _ _ _ h => h) (Or.inl ⟨by kernel_rfl, ?yOH012⟩) (by assumption) ?rOH012
              case yOH012 =>
                intro w hSw
                (try dsimp only at hSw)
                go_simp
                try with_reducible rfl
              try simp only [List.setIfInBounds_toArray, List.set_cons_zero, List.set_cons_succ]
              refine wpAnyH_ready (rs := [13]) (by kernel_rfl) (by simp) ?_
              refine AllReadyH.cons (o := _) rfl (fun K hK => ?_) AllReadyH.nil
              rw [if_pos (by kernel_rfl)]
              go_simp
              refine (HKX.out _ (Below.refl _ _).drew).mono ?_
              rintro e w8 ⟨rfl, hb8⟩
              have HB8 := hide (below_up (Below.refl wo.heap.size wo).drew hb8 (Nat.le_refl _))
              clear hb8
              refine hK.out _ _ (HQ.out _ HB8.out) (fun _ => ?_)
              clear hK K
              try simp only [Act.put, List.setIfInBounds_toArray, List.set_cons_zero, List.set_cons_succ]
              refine wpAnyH_tk (i := 14) (oi := _) (v := ?vOH014) rfl rfl (by kernel_rfl) (by kernel_rfl) (by kernel_rfl) (fun _ _ _ h => h) (Or.inl ⟨by kernel_rfl, ?yOH014⟩) (by assumption) ?rOH014
              case yOH014 =>
                intro w hSw
                (try dsimp only at hSw)
                go_simp
                try with_reducible rfl
              try simp only [List.setIfInBounds_toArray, List.set_cons_zero, List.set_cons_succ]
              refine wpAnyH_tk (i := 15) (oi := _) (v := ?vOH015) rfl rfl (by kernel_rfl) (by kernel_rfl) (by kernel_rfl) (fun _ _ _ h => h) (Or.inl ⟨by kernel_rfl, ?yOH015⟩) (by assumption) ?rOH015
              case yOH015 =>
                intro w hSw
                (try dsimp only at hSw)
                go_simp
                try with_reducible rfl
              try simp only [List.setIfInBounds_toArray, List.set_cons_zero, List.set_cons_succ]
              refine wpAnyH_tk (i := 16) (oi := _) (v := ?vOH016) rfl rfl (by kernel_rfl) (by kernel_rfl) (by kernel_rfl) (fun _ _ _ h => h) (Or.inl ⟨by kernel_rfl, ?yOH016⟩) (by assumption) ?rOH016
              case yOH016 =>
                intro w hSw
                (try dsimp only at hSw)
                go_simp
                try with_reducible rfl
              try simp only [List.setIfInBounds_toArray, List.set_cons_zero, List.set_cons_succ]
              refine wpAnyH_tk (i := 17) (oi := _) (v := ?vOH017) rfl rfl (by kernel_rfl) (by kernel_rfl) (by kernel_rfl) (fun _ _ _ h => h) (Or.inl ⟨by kernel_rfl, ?yOH017⟩) (by assumption) ?rOH017
              case yOH017 =>
                intro w hSw
                (try dsimp only at hSw)
                go_simp
                try with_reducible rfl
              try simp only [List.setIfInBounds_toArray, List.set_cons_zero, List.set_cons_succ]
              refine wpAnyH_tk (i := 18) (oi := _) (v := ?vOH018) rfl rfl (by kernel_rfl) (by kernel_rfl) (by kernel_rfl) (fun _ _ _ h => h) (Or.inl ⟨by kernel_rfl, ?yOH018⟩) (by assumption) ?rOH018
              case yOH018 =>
                intro w hSw
                (try dsimp only at hSw)
                go_simp
                try with_reducible rfl
              try simp only [List.setIfInBounds_toArray, List.set_cons_zero, List.set_cons_succ]
              refine wpAnyH_tk (i := 19) (oi := _) (v := ?vOH019) rfl rfl (by kernel_rfl) (by kernel_rfl) (by kernel_rfl) (fun _ _ _ h => h) (Or.inl ⟨by kernel_rfl, ?yOH019⟩) (by assumption) ?rOH019
              case yOH019 =>
                intro w hSw
                (try dsimp only at hSw)
                go_simp
                try with_reducible rfl
              try simp only [List.setIfInBounds_toArray, List.set_cons_zero, List.set_cons_succ]
              refine wpAnyH_tk (i := 20) (oi := _) (v := ?vOH020) rfl rfl (by kernel_rfl) (by kernel_rfl) (by kernel_rfl) (fun _ _ _ h => h) (Or.inl ⟨by kernel_rfl, ?yOH020⟩) (by assumption) ?rOH020
              case yOH020 =>
                intro w hSw
                (try dsimp only at hSw)
                go_simp
                try with_reducible rfl
              try simp only [List.setIfInBounds_toArray, List.set_cons_zero, List.set_cons_succ]
              refine wpAnyH_ready (rs := [21]) (by kernel_rfl) (by simp) ?_
              refine AllReadyH.cons (o := _) rfl (fun K hK => ?_) AllReadyH.nil
              rw [if_pos (by kernel_rfl)]
              go_simp
              refine (HHX.out w8 HB8.out).mono ?_
              rintro e w9 ⟨rfl, hb9⟩
              have HB9 := hide (below_up HB8.out hb9 HB8.out.size)
              clear hb9
              refine hK.out _ _ (HQ.out _ HB9.out) (fun _ => ?_)
              clear hK K
              try simp only [Act.put, List.setIfInBounds_toArray, List.set_cons_zero, List.set_cons_succ]
              refine wpAnyH_tk (i := 22) (oi := _) (v := ?vOH022) rfl rfl (by kernel_rfl) (by kernel_rfl) (by kernel_rfl) (fun _ _ _ h => h) (Or.inl ⟨by kernel_rfl, ?yOH022⟩) (by assumption) ?rOH022
              case yOH022 =>
                intro w hSw
                (try dsimp only at hSw)
                go_simp
                try with_reducible rfl
              try simp only [List.setIfInBounds_toArray, List.set_cons_zero, List.set_cons_succ]
              refine wpAnyH_tk (i := 23) (oi := _) (v := ?vOH023) rfl rfl (by kernel_rfl) (by kernel_rfl) (by kernel_rfl) (fun _ _ _ h => h) (Or.inl ⟨by kernel_rfl, ?yOH023⟩) (by assumption) ?rOH023
              case yOH023 =>
                intro w hSw
                (try dsimp only at hSw)
                go_simp
                try with_reducible rfl
              try simp only [List.setIfInBounds_toArray, List.set_cons_zero, List.set_cons_succ]
              refine wpAnyH_done (by kernel_rfl) ?_ _
              go_wp2
              go_roundw
              case rel => exact ⟨k + 1, by go_num, by omega, hide (HTK.out.trans (by first | rfl | simp [kk1'])), below_up HB.out HB9.out hce, (HB9.out.block _ HLW.out).trans HH.out⟩
              case measure => simp [intOf]; omega
            | true =>
              have hq := fun (Z : World) (hb : Below wo.heap.size wo Z) => show ((fun Z => Z.cell? ⟨gs, o + k, none⟩ = some (.string x) ∧ Z.cell? ⟨w.heap.size, 0, none⟩ = some mac ∧ Z.cell? ⟨w.heap.size, 1, none⟩ = some (.slice R mn rc) ∧ ((kk : Int) == 0) = false)) Z from ⟨(hb.cell (p := ⟨gs, o + k, none⟩) HGL.out).trans hc, (hb.cell (p := ⟨w.heap.size, 0, none⟩) HLW.out).trans m0, (hb.cell (p := ⟨w.heap.size, 1, none⟩) HLW.out).trans m1, kk1⟩
              have HQ := hide hq
              clear hq
              go_wp2_with fail
              refine wp_region_held_drew (S := (fun Z => Z.cell? ⟨gs, o + k, none⟩ = some (.string x) ∧ Z.cell? ⟨w.heap.size, 0, none⟩ = some mac ∧ Z.cell? ⟨w.heap.size, 1, none⟩ = some (.slice R mn rc) ∧ ((kk : Int) == 0) = false)) (by kernel_rfl) (HQ.out _ (Below.refl _ _).drew) (fun hHeld => ?_)
              refine wpAnyH_tk (i := 0) (oi := _) (v := ?vOH10) rfl rfl (by kernel_rfl) (by kernel_rfl) (by kernel_rfl) (fun _ _ _ h => h) (Or.inl ⟨by kernel_rfl, ?yOH10⟩) (by assumption) ?rOH10
              case yOH10 =>
                intro w hSw
                (try dsimp only at hSw)
                go_simp
                try with_reducible rfl
              try simp only [List.setIfInBounds_toArray, List.set_cons_zero, List.set_cons_succ]
              refine wpAnyH_tk (i := 1) (oi := _) (v := ?vOH11) rfl rfl (by kernel_rfl) (by kernel_rfl) (by kernel_rfl) (fun _ _ _ h => h) (Or.inl ⟨by kernel_rfl, ?yOH11⟩) (by assumption) ?rOH11
              case yOH11 =>
                intro w hSw
                (try dsimp only at hSw)
                go_simp
                try with_reducible rfl
              try simp only [List.setIfInBounds_toArray, List.set_cons_zero, List.set_cons_succ]
              refine wpAnyH_tk (i := 2) (oi := _) (v := ?vOH12) rfl rfl (by kernel_rfl) (by kernel_rfl) (by kernel_rfl) (fun _ _ _ h => h) (Or.inl ⟨by kernel_rfl, ?yOH12⟩) (by assumption) ?rOH12
              case yOH12 =>
                intro w hSw
                (try dsimp only at hSw)
                go_simp
                try with_reducible rfl
              try simp only [List.setIfInBounds_toArray, List.set_cons_zero, List.set_cons_succ]
              refine wpAnyH_tk (i := 3) (oi := _) (v := ?vOH13) rfl rfl (by kernel_rfl) (by kernel_rfl) (by kernel_rfl) (fun _ _ _ h => h) (Or.inl ⟨by kernel_rfl, ?yOH13⟩) (by assumption) ?rOH13
              case yOH13 =>
                intro w hSw
                (try dsimp only at hSw)
                go_simp
                try with_reducible rfl
              try simp only [List.setIfInBounds_toArray, List.set_cons_zero, List.set_cons_succ]
              refine wpAnyH_tk (i := 4) (oi := _) (v := ?vOH14) rfl rfl (by kernel_rfl) (by kernel_rfl) (by kernel_rfl) (fun _ _ _ h => h) (Or.inl ⟨by kernel_rfl, ?yOH14⟩) (by assumption) ?rOH14
              case yOH14 =>
                intro w hSw
                (try dsimp only at hSw)
                go_simp
                try with_reducible rfl
              try simp only [List.setIfInBounds_toArray, List.set_cons_zero, List.set_cons_succ]
              refine wpAnyH_ready (rs := [5]) (by kernel_rfl) (by simp) ?_
              refine AllReadyH.cons (o := _) rfl (fun K hK => ?_) AllReadyH.nil
              rw [if_pos (by kernel_rfl)]
              go_simp
              refine (HCX.out _ (Below.refl _ _).drew).mono ?_
              rintro e w' ⟨rfl, rfl⟩
              refine hK.out _ _ (HQ.out _ (Below.refl _ _).drew) (fun _ => ?_)
              clear hK K
              try simp only [Act.put, List.setIfInBounds_toArray, List.set_cons_zero, List.set_cons_succ]
              refine wpAnyH_tk (i := 6) (oi := _) (v := ?vOH16) rfl rfl (by kernel_rfl) (by kernel_rfl) (by kernel_rfl) (fun _ _ _ h => h) (Or.inl ⟨by kernel_rfl, ?yOH16⟩) (by assumption) ?rOH16
              case yOH16 =>
                intro w hSw
                (try dsimp only at hSw)
                go_simp
                try with_reducible rfl
              try simp only [List.setIfInBounds_toArray, List.set_cons_zero, List.set_cons_succ]
              refine wpAnyH_tk (i := 7) (oi := _) (v := ?vOH17) rfl rfl (by kernel_rfl) (by kernel_rfl) (by kernel_rfl) (fun _ _ _ h => h) (Or.inl ⟨by kernel_rfl, ?yOH17⟩) (by assumption) ?rOH17
              case yOH17 =>
                intro w hSw
                (try dsimp only at hSw)
                go_simp
                try with_reducible rfl
              try simp only [List.setIfInBounds_toArray, List.set_cons_zero, List.set_cons_succ]
              refine wpAnyH_tk (i := 8) (oi := _) (v := ?vOH18) rfl rfl (by kernel_rfl) (by kernel_rfl) (by kernel_rfl) (fun _ _ _ h => h) (Or.inl ⟨by kernel_rfl, ?yOH18⟩) (by assumption) ?rOH18
              case yOH18 =>
                intro w hSw
                (try dsimp only at hSw)
                go_simp
                try with_reducible rfl
              try simp only [List.setIfInBounds_toArray, List.set_cons_zero, List.set_cons_succ]
              refine wpAnyH_tk (i := 9) (oi := _) (v := ?vOH19) rfl rfl (by kernel_rfl) (by kernel_rfl) (by kernel_rfl) (fun _ _ _ h => h) (Or.inl ⟨by kernel_rfl, ?yOH19⟩) (by assumption) ?rOH19
              case yOH19 =>
                intro w hSw
                (try dsimp only at hSw)
                go_simp
                try with_reducible rfl
              try simp only [List.setIfInBounds_toArray, List.set_cons_zero, List.set_cons_succ]
              refine wpAnyH_tk (i := 10) (oi := _) (v := ?vOH110) rfl rfl (by kernel_rfl) (by kernel_rfl) (by kernel_rfl) (fun _ _ _ h => h) (Or.inl ⟨by kernel_rfl, ?yOH110⟩) (by assumption) ?rOH110
              case yOH110 =>
                intro w hSw
                (try dsimp only at hSw)
                go_simp
                try with_reducible rfl
              try simp only [List.setIfInBounds_toArray, List.set_cons_zero, List.set_cons_succ]
              refine wpAnyH_tk (i := 11) (oi := _) (v := ?vOH111) rfl rfl (by kernel_rfl) (by kernel_rfl) (by kernel_rfl) (fun _ _ _ h => h) (Or.inl ⟨by kernel_rfl, ?yOH111⟩) (by assumption) ?rOH111
              case yOH111 =>
                intro w hSw
                (try dsimp only at hSw)
                go_simp
                try with_reducible rfl
              try simp only [List.setIfInBounds_toArray, List.set_cons_zero, List.set_cons_succ]
              refine wpAnyH_tk (i := 12) (oi := _) (v := ?vOH112) rfl rfl (by kernel_rfl) (by kernel_rfl) (by kernel_rfl) (fun _ _ _ h => h) (Or.inl ⟨by kernel_rfl, ?yOH112⟩) (by assumption) ?rOH112
              case yOH112 =>
                intro w hSw
                (try dsimp only at hSw)
                go_simp
                try with_reducible rfl
              try simp only [List.setIfInBounds_toArray, List.set_cons_zero, List.set_cons_succ]
              refine wpAnyH_ready (rs := [13]) (by kernel_rfl) (by simp) ?_
              refine AllReadyH.cons (o := _) rfl (fun K hK => ?_) AllReadyH.nil
              rw [if_pos (by kernel_rfl)]
              go_simp
              refine (HKX.out _ (Below.refl _ _).drew).mono ?_
              rintro e w8 ⟨rfl, hb8⟩
              have HB8 := hide (below_up (Below.refl wo.heap.size wo).drew hb8 (Nat.le_refl _))
              clear hb8
              refine hK.out _ _ (HQ.out _ HB8.out) (fun _ => ?_)
              clear hK K
              try simp only [Act.put, List.setIfInBounds_toArray, List.set_cons_zero, List.set_cons_succ]
              refine wpAnyH_tk (i := 14) (oi := _) (v := ?vOH114) rfl rfl (by kernel_rfl) (by kernel_rfl) (by kernel_rfl) (fun _ _ _ h => h) (Or.inl ⟨by kernel_rfl, ?yOH114⟩) (by assumption) ?rOH114
              case yOH114 =>
                intro w hSw
                (try dsimp only at hSw)
                go_simp
                try with_reducible rfl
              try simp only [List.setIfInBounds_toArray, List.set_cons_zero, List.set_cons_succ]
              refine wpAnyH_tk (i := 15) (oi := _) (v := ?vOH115) rfl rfl (by kernel_rfl) (by kernel_rfl) (by kernel_rfl) (fun _ _ _ h => h) (Or.inl ⟨by kernel_rfl, ?yOH115⟩) (by assumption) ?rOH115
              case yOH115 =>
                intro w hSw
                (try dsimp only at hSw)
                go_simp
                try with_reducible rfl
              try simp only [List.setIfInBounds_toArray, List.set_cons_zero, List.set_cons_succ]
              refine wpAnyH_tk (i := 16) (oi := _) (v := ?vOH116) rfl rfl (by kernel_rfl) (by kernel_rfl) (by kernel_rfl) (fun _ _ _ h => h) (Or.inl ⟨by kernel_rfl, ?yOH116⟩) (by assumption) ?rOH116
              case yOH116 =>
                intro w hSw
                (try dsimp only at hSw)
                go_simp
                try with_reducible rfl
              try simp only [List.setIfInBounds_toArray, List.set_cons_zero, List.set_cons_succ]
              refine wpAnyH_tk (i := 17) (oi := _) (v := ?vOH117) rfl rfl (by kernel_rfl) (by kernel_rfl) (by kernel_rfl) (fun _ _ _ h => h) (Or.inl ⟨by kernel_rfl, ?yOH117⟩) (by assumption) ?rOH117
              case yOH117 =>
                intro w hSw
                (try dsimp only at hSw)
                go_simp
                try with_reducible rfl
              try simp only [List.setIfInBounds_toArray, List.set_cons_zero, List.set_cons_succ]
              refine wpAnyH_tk (i := 18) (oi := _) (v := ?vOH118) rfl rfl (by kernel_rfl) (by kernel_rfl) (by kernel_rfl) (fun _ _ _ h => h) (Or.inl ⟨by kernel_rfl, ?yOH118⟩) (by assumption) ?rOH118
              case yOH118 =>
                intro w hSw
                (try dsimp only at hSw)
                go_simp
                try with_reducible rfl
              try simp only [List.setIfInBounds_toArray, List.set_cons_zero, List.set_cons_succ]
              refine wpAnyH_tk (i := 19) (oi := _) (v := ?vOH119) rfl rfl (by kernel_rfl) (by kernel_rfl) (by kernel_rfl) (fun _ _ _ h => h) (Or.inl ⟨by kernel_rfl, ?yOH119⟩) (by assumption) ?rOH119
              case yOH119 =>
                intro w hSw
                (try dsimp only at hSw)
                go_simp
                try with_reducible rfl
              try simp only [List.setIfInBounds_toArray, List.set_cons_zero, List.set_cons_succ]
              refine wpAnyH_tk (i := 20) (oi := _) (v := ?vOH120) rfl rfl (by kernel_rfl) (by kernel_rfl) (by kernel_rfl) (fun _ _ _ h => h) (Or.inl ⟨by kernel_rfl, ?yOH120⟩) (by assumption) ?rOH120
              case yOH120 =>
                intro w hSw
                (try dsimp only at hSw)
                go_simp
                try with_reducible rfl
              try simp only [List.setIfInBounds_toArray, List.set_cons_zero, List.set_cons_succ]
              refine wpAnyH_ready (rs := [21]) (by kernel_rfl) (by simp) ?_
              refine AllReadyH.cons (o := _) rfl (fun K hK => ?_) AllReadyH.nil
              rw [if_pos (by kernel_rfl)]
              go_simp
              refine (HHX.out w8 HB8.out).mono ?_
              rintro e w9 ⟨rfl, hb9⟩
              have HB9 := hide (below_up HB8.out hb9 HB8.out.size)
              clear hb9
              refine hK.out _ _ (HQ.out _ HB9.out) (fun _ => ?_)
              clear hK K
              try simp only [Act.put, List.setIfInBounds_toArray, List.set_cons_zero, List.set_cons_succ]
              refine wpAnyH_tk (i := 22) (oi := _) (v := ?vOH122) rfl rfl (by kernel_rfl) (by kernel_rfl) (by kernel_rfl) (fun _ _ _ h => h) (Or.inl ⟨by kernel_rfl, ?yOH122⟩) (by assumption) ?rOH122
              case yOH122 =>
                intro w hSw
                (try dsimp only at hSw)
                go_simp
                try with_reducible rfl
              try simp only [List.setIfInBounds_toArray, List.set_cons_zero, List.set_cons_succ]
              refine wpAnyH_tk (i := 23) (oi := _) (v := ?vOH123) rfl rfl (by kernel_rfl) (by kernel_rfl) (by kernel_rfl) (fun _ _ _ h => h) (Or.inl ⟨by kernel_rfl, ?yOH123⟩) (by assumption) ?rOH123
              case yOH123 =>
                intro w hSw
                (try dsimp only at hSw)
                go_simp
                try with_reducible rfl
              try simp only [List.setIfInBounds_toArray, List.set_cons_zero, List.set_cons_succ]
              refine wpAnyH_done (by kernel_rfl) ?_ _
              have HX := hide (show oldS S cwd M target L made = true from HE.out.trans (HAL.out (by first | rfl | simp)))
              go_wp2
              go_ret
              rw [HX.out]
              exact ⟨rfl, below_up HB.out HB9.out hce⟩
end Go.Proofs.YthhiogigfaojmaaGreatDoor
/- Walk of the law's alive; what touches leave. -/
namespace Go.Proofs.YthhiogigfaojmaaGreatDoor
open Go.RowKit Go.Deep Go.Maps Ln Pth Vf
attribute [local go_sem] bt_eq

theorem ev1 : oldS (newS 3 10) [47] [] ⟨#[97]⟩ [] [] = true := by kernel_rfl
theorem ev2 : (writeS (newS 3 10) [47, 97] [] false).2 = 0 := by kernel_rfl
theorem ev3 : oldS (writeS (newS 3 10) [47, 97] [] false).1 [47] [] ⟨#[97]⟩ [] [] = false := by kernel_rfl
theorem rls_nil (w : World) (A : Option Addr) : RLS w A [] := ⟨RG.nil _ _, fun r h => by cases h⟩
set_option maxRecDepth 100000 in
set_option maxHeartbeats 2000000 in
theorem alive23_any (w : World) (hm : MX w) : Calls Tryz.prog 13 #[] w fun e w' => e = .returned (.bool true) ∧ Below w.heap.size w w' := by
  have HN := hide (vnew_any 3 10 w (by omega) (by omega) (by omega) (by omega))
  have HM := hide hm
  clear hm
  go_enter Tryz.func13, Tryz.ntmps13
  go_wp2_with fail
  refine HN.out.mono ?_
  rintro e w1 ⟨rfl, hb1, hv1, hs1⟩
  have ok1 : OkTN (fun k => w.heap.size ≤ k ∧ k < w1.heap.size) (fun _ => False) w1 := ⟨fun k hk => ⟨hk.2, fun h => h⟩, fun k h => h.elim⟩
  have HO1 := hide (old_any (w.heap.size + 1) (newS 3 10) [47] (.slice none 0 0) none 0 [] ⟨#[97]⟩ none 0 [] none 0 [] w1 (hs_of hv1 ok1) (HM.out.below hb1) (by decide) (by decide) (SR.nil _ _) (by simp) (by simp) (rls_nil _ _) (by simp) (by decide) (SR.nil _ _) (by simp))
  rw [ev1] at HO1
  have HV1 := hide hv1
  have OK1 := hide ok1
  have HB1 := hide hb1
  clear hv1 ok1 hb1 hs1
  go_wp2_with fail
  refine HO1.out.mono ?_
  rintro e w2 ⟨rfl, hb2⟩
  obtain ⟨hv2, ok2⟩ := HV1.out.stay OK1.out hb2
  have hbb2 := below_up HB1.out hb2 HB1.out.size
  have HW := hide (write_any (w.heap.size + 1) (newS 3 10) [47, 97] [] false none 0 _ _ w2 hv2 ok2 (newS_wf 3 10) (HM.out.below hbb2) (by decide) (by decide) (by simp) (by decide) (RG.nil _ _))
  unfold FsPost at HW
  rw [ev2] at HW
  have HB2 := hide hbb2
  clear hbb2 hb2 hv2 ok2
  go_wp2_with fail
  refine HW.out.mono ?_
  rintro e w3 ⟨rfl, N3, hv3, hg3, hk3⟩
  have hb3 := hk3.below HB2.out (Nat.le_refl _) (fun k h => h.1)
  have HO3 := hide (old_any (w.heap.size + 1) (writeS (newS 3 10) [47, 97] [] false).1 [47] (.slice none 0 0) none 0 [] ⟨#[97]⟩ none 0 [] none 0 [] w3 (hs_of hv3 hg3.2.2.2) (HM.out.below hb3) (by decide) (by decide) (SR.nil _ _) (by simp) (by simp) (rls_nil _ _) (by simp) (by decide) (SR.nil _ _) (by simp))
  rw [ev3] at HO3
  have HB3 := hide hb3
  clear hv3 hg3 hk3 hb3
  go_wp2_with fail
  refine HO3.out.mono ?_
  rintro e w4 ⟨rfl, hb4⟩
  have HB4 := hide (below_up HB3.out hb4 HB3.out.size)
  clear hb4
  go_wp2
  go_ret
  exact ⟨rfl, HB4.out⟩
end Go.Proofs.YthhiogigfaojmaaGreatDoor
