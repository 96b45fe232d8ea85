/- Texts of mine, joined (VfsDoB, VfsWalkK, VfsLawF, VfsLawG, TreesWalk, FindMath, TraceMath, OpenSteps, FindWalkC, MapSet, FindWalkF, TraceWalkA, FindRep, FindWalkD, FindWalkE, FindWalkG): walks and plain facts that the claim uses, each as its own comment says. -/
import Derived.Test.YtaajofojbhdgaaaGreatDoorPTraceTellsProof4
import Derived.Laws.BytesArg
import Derived.Lib.IndexMore
import Derived.Lib.SlTrimSet
import Derived.Lib.Strings
import Derived.Maps.OwnSet
import Derived.Maps.StringElems
import Derived.Maps.Views
import Derived.StringKeys
import Derived.Lib.SlicesS
import Derived.Deep.RegionHeld3
/- Walk of law4's Do: a call, by both; both tell the same. -/
namespace Go.Proofs.YtaajofojbhdgaaaGreatDoor
open Go.RowKit Go.Deep Go.Maps Ln Pth Vf
set_option linter.unusedSimpArgs false
set_option linter.unusedVariables false
attribute [local go_sem] bt_eq

theorem sep_assoc {A B C : AsnN} {T N : Nat → Prop} {w : World} (h : sep (sep A B) C T N w) : sep A (sep B C) T N w := by
  obtain ⟨T1, T2, ⟨T3, T4, a, b, s3, s4, d3⟩, c, s1, s2, d⟩ := h
  exact ⟨T3, fun k => T4 k ∨ T2 k, a, ⟨T4, T2, b, c, fun k h => .inl h, fun k h => .inr h, fun k h1 h2 => d k (s4 k h1) h2⟩, fun k h => s1 k (s3 k h), fun k h => h.elim (fun h => s1 k (s4 k h)) (s2 k), fun k h1 h2 => h2.elim (d3 k h1) (d k (s3 k h1))⟩
theorem sep_unassoc {A B C : AsnN} {T N : Nat → Prop} {w : World} (h : sep A (sep B C) T N w) : sep (sep A B) C T N w := by
  obtain ⟨T1, T2, a, ⟨T3, T4, b, c, s3, s4, d3⟩, s1, s2, d⟩ := h
  exact ⟨fun k => T1 k ∨ T3 k, T4, ⟨T1, T3, a, b, fun k h => .inl h, fun k h => .inr h, fun k h1 h2 => d k h1 (s3 k h2)⟩, c, fun k h => h.elim (s1 k) (fun h => s2 k (s3 k h)), fun k h => s2 k (s4 k h), fun k h1 h2 => h1.elim (fun h1 => d k h1 (s4 k h2)) (fun h1 => d3 k h1 h2)⟩
/-- one more thing beside both -/
theorem Two.also {f r : Nat} {S S' : St} {X Y : AsnN} {B : Nat} {w0 w : World} (h : InvN (sep (Two f r S S' X) Y) B w0 w) : InvN (Two f r S S' (sep X Y)) B w0 w := h.mono (fun _ _ _ h => sep_assoc h)
theorem Two.less {f r : Nat} {S S' : St} {X Y : AsnN} {B : Nat} {w0 w : World} (h : InvN (Two f r S S' (sep X Y)) B w0 w) : InvN (Two f r S S' X) B w0 w := (h.mono (fun _ _ _ h => sep_unassoc h)).fst
/-- a byte of the row is written -/
theorem YI.set {P : AsnN} {gb n c k : Nat} {B : Nat} {w0 w : World} (h : InvN (sep P (YI (.slice (some ⟨gb, 0, none⟩) n c) n)) B w0 w) (hB : B ≤ w0.heap.size) (hP : FrN P) (hk : k < n) (z : Int) : InvN (sep P (YI (.slice (some ⟨gb, 0, none⟩) n c) n)) B w0 (w.setCell ⟨gb, k, none⟩ (.int .u8 z)) := by
  obtain ⟨T, N, ⟨T1, T2, p, y, s1, s2, d⟩, ok, ht, hb⟩ := h
  rcases y with ⟨h0, _⟩ | ⟨gb', c', L, e, hl, hc, htg, hr, cur, hcur⟩
  · omega
  · injection e with e1 e2 e3
    injection e1 with e1
    injection e1 with e1 _ _
    subst e1 e3
    have hkp : Kp w (w.setCell ⟨gb, k, none⟩ (.int .u8 z)) (fun k => k = gb) := Kp.set w gb k _
    have hgT := s2 gb htg
    obtain ⟨x, hx⟩ : ∃ x, L[k]? = some x := ⟨L[k]'(by omega), List.getElem?_eq_getElem _⟩
    refine ⟨T, N, ⟨T1, T2, hP T1 N N w _ p (fun j hj => hkp.block j (hj.elim (fun h => (ok.1 j (s1 j h)).1) (ok.2 j)) (fun e => ?_)) (fun _ h => h) hkp.size, .inr ⟨gb, c, L.set k z, rfl, by rw [List.length_set, hl], hc, htg, ?_, _, heapSet hcur _⟩, s1, s2, d⟩, (GrowN.refl ok hkp.size).2.2.2, ht, hkp.below hb hB (fun j e => e ▸ ht gb hgT)⟩
    · subst e
      rcases hj with h | h
      · exact d j h htg
      · exact (ok.1 j hgT).2 h
    · intro j u hj
      rw [List.getElem?_set] at hj
      by_cases e : k = j
      · subst e
        rw [if_pos rfl, if_pos (by omega)] at hj
        injection hj with hj
        subst hj
        obtain ⟨g2, o2, e2, hg2, hc2⟩ := hr k x hx
        injection e2 with e2
        injection e2 with e3 e4 _
        subst e3 e4
        refine ⟨gb, 0, rfl, by simpa using hg2, fun i v hi => ?_⟩
        have hi1 := (List.getElem?_eq_some_iff.1 hi).1
        have hi0 : i = 0 := by simp [encI8] at hi1; exact hi1
        subst hi0
        have hv : v = .int .u8 z := by simpa [encI8] using hi.symm
        subst hv
        have := hc2 0 _ rfl
        rw [Nat.zero_add, Nat.mul_one, Nat.add_zero] at this ⊢
        exact World.cell?_setCell_same' w ⟨gb, k, none⟩ _ (by rw [this]; rfl)
      · rw [if_neg e] at hj
        obtain ⟨g2, o2, e2, hg2, hc2⟩ := hr j u hj
        refine ⟨g2, o2, e2, by simpa using hg2, fun i v hi => ?_⟩
        have hi1 := (List.getElem?_eq_some_iff.1 hi).1
        have hi0 : i = 0 := by simp [encI8] at hi1; exact hi1
        subst hi0
        injection e2 with e2
        injection e2 with e3 e4 _
        subst e3 e4
        rw [World.cell?_setCell_other w _ _ _ (by intro e5; injection e5; omega)]
        exact hc2 0 v hi
theorem YI.cell {P : AsnN} {A : Option Addr} {n c k : Nat} {B : Nat} {w0 w : World} (h : InvN (sep P (YI (.slice A n c) n)) B w0 w) (hk : k < n) : ∃ gb z, A = some ⟨gb, 0, none⟩ ∧ n ≤ c ∧ w.cell? ⟨gb, k, none⟩ = some (.int .u8 z) ∧ w.frozen? ⟨gb, k, none⟩ = false := by
  obtain ⟨T, N, ⟨T1, T2, p, y, s1, s2, d⟩, ok, ht, hb⟩ := h
  rcases y with ⟨h0, _⟩ | ⟨gb, c', L, e, hl, hc, htg, hr, cur, hcur⟩
  · omega
  · injection e with e1 e2 e3
    subst e1 e3
    obtain ⟨x, hx⟩ : ∃ x, L[k]? = some x := ⟨L[k]'(by omega), List.getElem?_eq_getElem _⟩
    obtain ⟨g2, o2, e2, hg2, hc2⟩ := hr k x hx
    injection e2 with e2
    injection e2 with e3 e4 _
    subst e3 e4
    refine ⟨gb, x, rfl, hc, ?_, freeOf hcur k⟩
    have := hc2 0 _ rfl
    rw [Nat.zero_add, Nat.mul_one, Nat.add_zero] at this
    exact this
/-- bytes of the call's own as such a row -/
theorem YI.own {w : World} {base : Nat} {A : Option Addr} {n c : Nat} {L : T} (h : OwnY w base (.slice A n c) L) (hn : L.length = n) : YI (.slice A n c) n (fun k => (Value.slice A n c).ownBlock = some k) (fun _ => False) w := by
  obtain ⟨A', c', e, hc, hr, _, _⟩ := OwnG.slice encB_len h
  rcases h.2 with ⟨e0, h0⟩ | ⟨gb, cap, cur, e2, hg, hh, _⟩
  · exact .inl ⟨by omega, by injection e0 with e1 e2 e3; subst e1 e2 e3; exact ⟨_, _, rfl⟩⟩
  · injection e with e1 e3 e4
    subst e1
    injection e2 with e5 e6 e7
    subst e5
    refine .inr ⟨gb, c, L.map fun b => (b.toNat : Int), rfl, by rw [List.length_map, hn], by omega, rfl, fun k z hk => ?_, cur, hh⟩
    rw [List.getElem?_map] at hk
    cases hb : L[k]? with
    | none => rw [hb] at hk; cases hk
    | some b =>
      rw [hb] at hk
      injection hk with hk
      subst hk
      exact hr k b hb
set_option maxRecDepth 100000 in
set_option maxHeartbeats 8000000 in
theorem do_any (f r : Nat) (S : St) (x : Ac4) (X : AsnN) (hX : FrN X) (w0 w : World) (h : InvN (Two f r S S X) w0.heap.size w0 w) {nodes bytes n : Nat} (hG : GoodS S nodes bytes n) (hby : bytes ≤ 400000) (hn : n ≤ 1000000) (hm : MX w0) (hp : x.p.size ≤ 300) (hq : x.q.size ≤ 300) (hbl : x.b.length ≤ 2000) (hb0 : RG encB 1 w0 x.A x.b) :
    Calls Tryz.prog 30 #[.pointer (some ⟨f, 0, none⟩), .pointer (some ⟨r, 0, none⟩), .agg #[.int .i64 x.way, .string x.p, .string x.q, .slice x.A x.b.length x.c, .bool x.more]] w fun e w' => e = .returned (.bool true) ∧ InvN (Two f r (doS S x).1 (doS S x).1 X) w0.heap.size w0 w' := by
  have hR : doS S x = if x.way = 0 then writeS S (pT x) x.b x.more else if x.way = 1 then mkdirS S (pT x) else if x.way = 2 then removeS S (pT x) else if x.way = 3 then touchS S (pT x) else if x.way = 4 then moveS S (pT x) (qT x) else (S, 0) := rfl
  have hpl : (pT x).length ≤ 300 := by unfold pT; rw [data_len]; exact hp
  have hql : (qT x).length ≤ 300 := by unfold qT; rw [data_len]; exact hq
  have hS := hG.wf
  have hH := hG.hang
  have hby' : S.bytes ≤ 400000 := by rw [hG.bytes]; exact hby
  have hck : S.clock ≤ 1000000000 := by have := hG.clock; omega
  have HB0 := hide hb0
  have HBLK := hide (fun a (e : x.A = some a) (hn : x.b ≠ []) => hb0.block_lt e hn)
  have hpe : bs (pT x) = x.p := pT_bs x
  have hqe : bs (qT x) = x.q := qT_bs x
  obtain ⟨bx, hbx⟩ : ∃ b, w.heap.size = b := ⟨_, rfl⟩
  obtain ⟨way, hway⟩ : ∃ b, x.way = b := ⟨_, rfl⟩
  obtain ⟨ps, hps⟩ : ∃ b, x.p = b := ⟨_, rfl⟩
  obtain ⟨qs, hqs⟩ : ∃ b, x.q = b := ⟨_, rfl⟩
  obtain ⟨A, hA⟩ : ∃ b, x.A = b := ⟨_, rfl⟩
  obtain ⟨c, hc⟩ : ∃ b, x.c = b := ⟨_, rfl⟩
  obtain ⟨D, hD⟩ : ∃ b, x.b = b := ⟨_, rfl⟩
  obtain ⟨more, hmore⟩ : ∃ b, x.more = b := ⟨_, rfl⟩
  obtain ⟨p, hpT⟩ : ∃ b, pT x = b := ⟨_, rfl⟩
  obtain ⟨q, hqT⟩ : ∃ b, qT x = b := ⟨_, rfl⟩
  obtain ⟨R, hRe⟩ : ∃ b, doS S x = b := ⟨_, rfl⟩
  rw [hpT, hps] at hpe
  rw [hqT, hqs] at hqe
  rw [hpT] at hpl
  rw [hqT] at hql
  rw [hway, hpT, hqT, hD, hmore, hRe] at hR
  rw [hA, hD] at HB0 HBLK
  rw [hD] at hbl
  rw [hway, hps, hqs, hA, hc, hD, hmore, hRe]
  rw [← hpe, ← hqe]
  have HR := hide hR
  have hnew := (h.new (Two.fr f r S S hX) (.cells #[.int .i64 way, .string (bs p), .string (bs q), .slice A D.length c, .bool more] 68) (Nat.le_refl _)).mono (fun _ _ _ h => sep_assoc h)
  rw [hbx] at hnew
  obtain ⟨w1, hw1⟩ : ∃ W, w.alloc (.cells #[.int .i64 way, .string (bs p), .string (bs q), .slice A D.length c, .bool more] 68) = W := ⟨_, rfl⟩
  rw [hw1] at hnew
  obtain ⟨dl, hdl⟩ : ∃ n, D.length = n := ⟨_, rfl⟩
  have HDL := hide hdl
  have H1 := hide hnew
  have HXF := hide (hX.join (BlkN.fr bx (.cells #[.int .i64 way, .string (bs p), .string (bs q), .slice A D.length c, .bool more] 68)))
  rw [hdl] at hbl hw1 H1 HXF ⊢
  obtain ⟨O, hO⟩ : ∃ o : Obj, Obj.cells #[.int .i64 way, .string (bs p), .string (bs q), .slice A dl c, .bool more] 68 = o := ⟨_, rfl⟩
  have HCB := hide (fun (S1 S2 : St) (Y : AsnN) (W : World) (h : InvN (Two f r S1 S2 (sep (sep X (BlkN bx O)) Y)) w0.heap.size w0 W) (j : Nat) (v : Value) (hj : #[Value.int .i64 way, .string (bs p), .string (bs q), .slice A dl c, .bool more][j]? = some v) => show W.cell? ⟨bx, j, none⟩ = some v from by
    rw [← hO] at h
    exact BlkN.cell h.snd.fst.snd hj)
  have HCA := hide (fun (S1 S2 : St) (W : World) (h : InvN (Two f r S1 S2 (sep X (BlkN bx O))) w0.heap.size w0 W) (j : Nat) (v : Value) (hj : #[Value.int .i64 way, .string (bs p), .string (bs q), .slice A dl c, .bool more][j]? = some v) => show W.cell? ⟨bx, j, none⟩ = some v from by
    rw [← hO] at h
    exact BlkN.cell h.snd.snd hj)
  rw [hO] at hw1 H1 HXF
  have HM := hide hm
  have HGW := hide (And.intro hS (And.intro hH (And.intro hby' hck)))
  have HL := hide (And.intro hpl hql)
  have hc0 := HCA.out _ _ _ H1.out 0 _ rfl
  clear hR hS hH hby' hck hb0 hpe hqe hway hps hqs hA hc hD hmore hpT hqT hRe hnew h hX hG hby hn hm hp hq hdl
  by_cases hwy : way = 1
  · -- Mkdir
    subst hwy
    have HE := hide (show R = (mkdirS S p) from HR.out)
    have HF := hide (fun (W : World) (h : InvN (Two f r S S (sep X (BlkN bx O))) w0.heap.size w0 W) => Two.callF h (Nat.le_refl _) HXF.out (FsPost.specN (fun T N hv ok => mkdir_any f S p T N W hv ok HGW.out.1 (HM.out.below h.below) (by have := HL.out; omega) HGW.out.2.2.2)))
    have HRR := hide (fun (W : World) (h : InvN (Two f r (mkdirS S p).1 S (sep X (BlkN bx O))) w0.heap.size w0 W) => Two.callR h (Nat.le_refl _) HXF.out (RK.specAt (fun A c L ho => rmkdir4_any r S A c L p W ho HGW.out.1 (by have := HL.out; omega) HGW.out.2.2.2)))
    obtain ⟨R1, hR1⟩ : ∃ y, (mkdirS S p) = y := ⟨_, rfl⟩
    rw [hR1] at HF HRR HE
    clear hR1 HR
    go_enter Tryz.func30, Tryz.ntmps30
    go_wp2_with fail
    have hI1 := H1.out.drew (Two.fr f r S S HXF.out) (Nat.le_refl _)
    have HI1 := hide hI1
    clear hI1
    refine wp_region_held_drew (S := (fun W => W.cell? ⟨bx, 1, none⟩ = some (.string (bs p)) ∧ W.cell? ⟨bx, 2, none⟩ = some (.string (bs q)))) (by kernel_rfl) ⟨HCA.out _ _ _ HI1.out 1 _ rfl, HCA.out _ _ _ HI1.out 2 _ rfl⟩ (fun hHeld => ?_)
    refine wpAnyH_tk (i := 0) (oi := _) (v := ?vMkdir0) rfl rfl (by kernel_rfl) (by kernel_rfl) (by kernel_rfl) (fun _ _ _ h => h) (Or.inl ⟨by kernel_rfl, ?yMkdir0⟩) (by assumption) ?rMkdir0
    case yMkdir0 =>
      intro w hSw
      (try dsimp only at hSw)
      go_simp
      try with_reducible rfl
    try simp only [List.setIfInBounds_toArray, List.set_cons_zero, List.set_cons_succ]
    refine wpAnyH_tk (i := 1) (oi := _) (v := ?vMkdir1) rfl rfl (by kernel_rfl) (by kernel_rfl) (by kernel_rfl) (fun _ _ _ h => h) (Or.inl ⟨by kernel_rfl, ?yMkdir1⟩) (by assumption) ?rMkdir1
    case yMkdir1 =>
      intro w hSw
      (try dsimp only at hSw)
      go_simp
      try with_reducible rfl
    try simp only [List.setIfInBounds_toArray, List.set_cons_zero, List.set_cons_succ]
    refine wpAnyH_tk (i := 2) (oi := _) (v := ?vMkdir2) rfl rfl (by kernel_rfl) (by kernel_rfl) (by kernel_rfl) (fun _ _ _ h => h) (Or.inl ⟨by kernel_rfl, ?yMkdir2⟩) (by assumption) ?rMkdir2
    case yMkdir2 =>
      intro w hSw
      (try dsimp only at hSw)
      go_simp
      try with_reducible rfl
    try simp only [List.setIfInBounds_toArray, List.set_cons_zero, List.set_cons_succ]
    refine wpAnyH_tk (i := 5) (oi := _) (v := ?vMkdir5) rfl rfl (by kernel_rfl) (by kernel_rfl) (by kernel_rfl) (fun _ _ _ h => h) (Or.inl ⟨by kernel_rfl, ?yMkdir5⟩) (by assumption) ?rMkdir5
    case yMkdir5 =>
      intro w hSw
      (try dsimp only at hSw)
      go_simp
      try with_reducible rfl
    try simp only [List.setIfInBounds_toArray, List.set_cons_zero, List.set_cons_succ]
    refine wpAnyH_tk (i := 6) (oi := _) (v := ?vMkdir6) rfl rfl (by kernel_rfl) (by kernel_rfl) (by kernel_rfl) (fun _ _ _ h => h) (Or.inl ⟨by kernel_rfl, ?yMkdir6⟩) (by assumption) ?rMkdir6
    case yMkdir6 =>
      intro w hSw
      (try dsimp only at hSw)
      go_simp
      try with_reducible rfl
    try simp only [List.setIfInBounds_toArray, List.set_cons_zero, List.set_cons_succ]
    refine wpAnyH_tk (i := 7) (oi := _) (v := ?vMkdir7) rfl rfl (by kernel_rfl) (by kernel_rfl) (by kernel_rfl) (fun _ _ _ h => h) (Or.inl ⟨by kernel_rfl, ?yMkdir7⟩) (by assumption) ?rMkdir7
    case yMkdir7 =>
      intro w hSw
      (try dsimp only at hSw)
      go_simp
      try with_reducible rfl
    try simp only [List.setIfInBounds_toArray, List.set_cons_zero, List.set_cons_succ]
    refine wpAnyH_ready (rs := [3]) (by kernel_rfl) (by simp) ?_
    refine AllReadyH.cons (o := _) rfl (fun K hK => ?_) AllReadyH.nil
    rw [if_pos (by kernel_rfl)]
    go_simp
    refine (HF.out _ HI1.out).mono ?_
    rintro e w2 ⟨rfl, hi2⟩
    have HI2 := hide hi2
    clear hi2
    refine hK.out _ _ ⟨HCA.out _ _ _ HI2.out 1 _ rfl, HCA.out _ _ _ HI2.out 2 _ rfl⟩ (fun _ => ?_)
    clear hK K
    try simp only [Act.put, List.setIfInBounds_toArray, List.set_cons_zero, List.set_cons_succ]
    refine wpAnyH_ready (rs := [4]) (by kernel_rfl) (by simp) ?_
    refine AllReadyH.cons (o := _) rfl (fun K hK => ?_) AllReadyH.nil
    rw [if_pos (by kernel_rfl)]
    go_simp
    refine (num4_any _ _).mono ?_
    rintro e w' ⟨rfl, rfl⟩
    refine hK.out _ _ ⟨HCA.out _ _ _ HI2.out 1 _ rfl, HCA.out _ _ _ HI2.out 2 _ rfl⟩ (fun _ => ?_)
    clear hK K
    try simp only [Act.put, List.setIfInBounds_toArray, List.set_cons_zero, List.set_cons_succ]
    refine wpAnyH_ready (rs := [8]) (by kernel_rfl) (by simp) ?_
    refine AllReadyH.cons (o := _) rfl (fun K hK => ?_) AllReadyH.nil
    rw [if_pos (by kernel_rfl)]
    go_simp
    refine (HRR.out _ HI2.out).mono ?_
    rintro e w3 ⟨rfl, hi3⟩
    have HI3 := hide hi3
    clear hi3
    refine hK.out _ _ ⟨HCA.out _ _ _ HI3.out 1 _ rfl, HCA.out _ _ _ HI3.out 2 _ rfl⟩ (fun _ => ?_)
    clear hK K
    try simp only [Act.put, List.setIfInBounds_toArray, List.set_cons_zero, List.set_cons_succ]
    refine wpAnyH_tk (i := 9) (oi := _) (v := ?vMkdir9) rfl rfl (by kernel_rfl) (by kernel_rfl) (by kernel_rfl) (fun _ _ _ h => h) (Or.inl ⟨by kernel_rfl, ?yMkdir9⟩) (by assumption) ?rMkdir9
    case yMkdir9 =>
      intro w hSw
      (try dsimp only at hSw)
      go_simp
      try with_reducible rfl
    try simp only [List.setIfInBounds_toArray, List.set_cons_zero, List.set_cons_succ]
    refine wpAnyH_tk (i := 10) (oi := _) (v := ?vMkdir10) rfl rfl (by kernel_rfl) (by kernel_rfl) (by kernel_rfl) (fun _ _ _ h => h) (Or.inl ⟨by kernel_rfl, ?yMkdir10⟩) (by assumption) ?rMkdir10
    case yMkdir10 =>
      intro w hSw
      (try dsimp only at hSw)
      go_simp
      try with_reducible rfl
    try simp only [List.setIfInBounds_toArray, List.set_cons_zero, List.set_cons_succ]
    refine wpAnyH_done (by kernel_rfl) ?_ _
    go_wp2
    go_ret
    rw [HE.out]
    exact ⟨by simp, Two.less HI3.out⟩
  by_cases hwy : way = 2
  · -- Remove
    subst hwy
    have HE := hide (show R = (removeS S p) from HR.out)
    have HF := hide (fun (W : World) (h : InvN (Two f r S S (sep X (BlkN bx O))) w0.heap.size w0 W) => Two.callF h (Nat.le_refl _) HXF.out (FsPost.specN (fun T N hv ok => remove_any f S p T N W hv ok HGW.out.1 (HM.out.below h.below) (by have := HL.out; omega) HGW.out.2.2.2)))
    have HRR := hide (fun (W : World) (h : InvN (Two f r (removeS S p).1 S (sep X (BlkN bx O))) w0.heap.size w0 W) => Two.callR h (Nat.le_refl _) HXF.out (RK.specAt (fun A c L ho => rremove4_any r S A c L p W ho HGW.out.1 HGW.out.2.1 (by have := HL.out; omega) HGW.out.2.2.2)))
    obtain ⟨R1, hR1⟩ : ∃ y, (removeS S p) = y := ⟨_, rfl⟩
    rw [hR1] at HF HRR HE
    clear hR1 HR
    go_enter Tryz.func30, Tryz.ntmps30
    go_wp2_with fail
    have hI1 := H1.out.drew (Two.fr f r S S HXF.out) (Nat.le_refl _)
    have HI1 := hide hI1
    clear hI1
    refine wp_region_held_drew (S := (fun W => W.cell? ⟨bx, 1, none⟩ = some (.string (bs p)) ∧ W.cell? ⟨bx, 2, none⟩ = some (.string (bs q)))) (by kernel_rfl) ⟨HCA.out _ _ _ HI1.out 1 _ rfl, HCA.out _ _ _ HI1.out 2 _ rfl⟩ (fun hHeld => ?_)
    refine wpAnyH_tk (i := 0) (oi := _) (v := ?vRemove0) rfl rfl (by kernel_rfl) (by kernel_rfl) (by kernel_rfl) (fun _ _ _ h => h) (Or.inl ⟨by kernel_rfl, ?yRemove0⟩) (by assumption) ?rRemove0
    case yRemove0 =>
      intro w hSw
      (try dsimp only at hSw)
      go_simp
      try with_reducible rfl
    try simp only [List.setIfInBounds_toArray, List.set_cons_zero, List.set_cons_succ]
    refine wpAnyH_tk (i := 1) (oi := _) (v := ?vRemove1) rfl rfl (by kernel_rfl) (by kernel_rfl) (by kernel_rfl) (fun _ _ _ h => h) (Or.inl ⟨by kernel_rfl, ?yRemove1⟩) (by assumption) ?rRemove1
    case yRemove1 =>
      intro w hSw
      (try dsimp only at hSw)
      go_simp
      try with_reducible rfl
    try simp only [List.setIfInBounds_toArray, List.set_cons_zero, List.set_cons_succ]
    refine wpAnyH_tk (i := 2) (oi := _) (v := ?vRemove2) rfl rfl (by kernel_rfl) (by kernel_rfl) (by kernel_rfl) (fun _ _ _ h => h) (Or.inl ⟨by kernel_rfl, ?yRemove2⟩) (by assumption) ?rRemove2
    case yRemove2 =>
      intro w hSw
      (try dsimp only at hSw)
      go_simp
      try with_reducible rfl
    try simp only [List.setIfInBounds_toArray, List.set_cons_zero, List.set_cons_succ]
    refine wpAnyH_tk (i := 5) (oi := _) (v := ?vRemove5) rfl rfl (by kernel_rfl) (by kernel_rfl) (by kernel_rfl) (fun _ _ _ h => h) (Or.inl ⟨by kernel_rfl, ?yRemove5⟩) (by assumption) ?rRemove5
    case yRemove5 =>
      intro w hSw
      (try dsimp only at hSw)
      go_simp
      try with_reducible rfl
    try simp only [List.setIfInBounds_toArray, List.set_cons_zero, List.set_cons_succ]
    refine wpAnyH_tk (i := 6) (oi := _) (v := ?vRemove6) rfl rfl (by kernel_rfl) (by kernel_rfl) (by kernel_rfl) (fun _ _ _ h => h) (Or.inl ⟨by kernel_rfl, ?yRemove6⟩) (by assumption) ?rRemove6
    case yRemove6 =>
      intro w hSw
      (try dsimp only at hSw)
      go_simp
      try with_reducible rfl
    try simp only [List.setIfInBounds_toArray, List.set_cons_zero, List.set_cons_succ]
    refine wpAnyH_tk (i := 7) (oi := _) (v := ?vRemove7) rfl rfl (by kernel_rfl) (by kernel_rfl) (by kernel_rfl) (fun _ _ _ h => h) (Or.inl ⟨by kernel_rfl, ?yRemove7⟩) (by assumption) ?rRemove7
    case yRemove7 =>
      intro w hSw
      (try dsimp only at hSw)
      go_simp
      try with_reducible rfl
    try simp only [List.setIfInBounds_toArray, List.set_cons_zero, List.set_cons_succ]
    refine wpAnyH_ready (rs := [3]) (by kernel_rfl) (by simp) ?_
    refine AllReadyH.cons (o := _) rfl (fun K hK => ?_) AllReadyH.nil
    rw [if_pos (by kernel_rfl)]
    go_simp
    refine (HF.out _ HI1.out).mono ?_
    rintro e w2 ⟨rfl, hi2⟩
    have HI2 := hide hi2
    clear hi2
    refine hK.out _ _ ⟨HCA.out _ _ _ HI2.out 1 _ rfl, HCA.out _ _ _ HI2.out 2 _ rfl⟩ (fun _ => ?_)
    clear hK K
    try simp only [Act.put, List.setIfInBounds_toArray, List.set_cons_zero, List.set_cons_succ]
    refine wpAnyH_ready (rs := [4]) (by kernel_rfl) (by simp) ?_
    refine AllReadyH.cons (o := _) rfl (fun K hK => ?_) AllReadyH.nil
    rw [if_pos (by kernel_rfl)]
    go_simp
    refine (num4_any _ _).mono ?_
    rintro e w' ⟨rfl, rfl⟩
    refine hK.out _ _ ⟨HCA.out _ _ _ HI2.out 1 _ rfl, HCA.out _ _ _ HI2.out 2 _ rfl⟩ (fun _ => ?_)
    clear hK K
    try simp only [Act.put, List.setIfInBounds_toArray, List.set_cons_zero, List.set_cons_succ]
    refine wpAnyH_ready (rs := [8]) (by kernel_rfl) (by simp) ?_
    refine AllReadyH.cons (o := _) rfl (fun K hK => ?_) AllReadyH.nil
    rw [if_pos (by kernel_rfl)]
    go_simp
    refine (HRR.out _ HI2.out).mono ?_
    rintro e w3 ⟨rfl, hi3⟩
    have HI3 := hide hi3
    clear hi3
    refine hK.out _ _ ⟨HCA.out _ _ _ HI3.out 1 _ rfl, HCA.out _ _ _ HI3.out 2 _ rfl⟩ (fun _ => ?_)
    clear hK K
    try simp only [Act.put, List.setIfInBounds_toArray, List.set_cons_zero, List.set_cons_succ]
    refine wpAnyH_tk (i := 9) (oi := _) (v := ?vRemove9) rfl rfl (by kernel_rfl) (by kernel_rfl) (by kernel_rfl) (fun _ _ _ h => h) (Or.inl ⟨by kernel_rfl, ?yRemove9⟩) (by assumption) ?rRemove9
    case yRemove9 =>
      intro w hSw
      (try dsimp only at hSw)
      go_simp
      try with_reducible rfl
    try simp only [List.setIfInBounds_toArray, List.set_cons_zero, List.set_cons_succ]
    refine wpAnyH_tk (i := 10) (oi := _) (v := ?vRemove10) rfl rfl (by kernel_rfl) (by kernel_rfl) (by kernel_rfl) (fun _ _ _ h => h) (Or.inl ⟨by kernel_rfl, ?yRemove10⟩) (by assumption) ?rRemove10
    case yRemove10 =>
      intro w hSw
      (try dsimp only at hSw)
      go_simp
      try with_reducible rfl
    try simp only [List.setIfInBounds_toArray, List.set_cons_zero, List.set_cons_succ]
    refine wpAnyH_done (by kernel_rfl) ?_ _
    go_wp2
    go_ret
    rw [HE.out]
    exact ⟨by simp, Two.less HI3.out⟩
  by_cases hwy : way = 3
  · -- Touch
    subst hwy
    have HE := hide (show R = (touchS S p) from HR.out)
    have HF := hide (fun (W : World) (h : InvN (Two f r S S (sep X (BlkN bx O))) w0.heap.size w0 W) => Two.callF h (Nat.le_refl _) HXF.out (FsPost.specN (fun T N hv ok => touch_any f S p T N W hv ok HGW.out.1 (HM.out.below h.below) (by have := HL.out; omega) HGW.out.2.2.1 HGW.out.2.2.2)))
    have HRR := hide (fun (W : World) (h : InvN (Two f r (touchS S p).1 S (sep X (BlkN bx O))) w0.heap.size w0 W) => Two.callR h (Nat.le_refl _) HXF.out (RK.specAt (fun A c L ho => rtouch4_any r S A c L p W ho HGW.out.1 (by have := HL.out; omega) HGW.out.2.2.1 HGW.out.2.2.2)))
    obtain ⟨R1, hR1⟩ : ∃ y, (touchS S p) = y := ⟨_, rfl⟩
    rw [hR1] at HF HRR HE
    clear hR1 HR
    go_enter Tryz.func30, Tryz.ntmps30
    go_wp2_with fail
    have hI1 := H1.out.drew (Two.fr f r S S HXF.out) (Nat.le_refl _)
    have HI1 := hide hI1
    clear hI1
    refine wp_region_held_drew (S := (fun W => W.cell? ⟨bx, 1, none⟩ = some (.string (bs p)) ∧ W.cell? ⟨bx, 2, none⟩ = some (.string (bs q)))) (by kernel_rfl) ⟨HCA.out _ _ _ HI1.out 1 _ rfl, HCA.out _ _ _ HI1.out 2 _ rfl⟩ (fun hHeld => ?_)
    refine wpAnyH_tk (i := 0) (oi := _) (v := ?vTouch0) rfl rfl (by kernel_rfl) (by kernel_rfl) (by kernel_rfl) (fun _ _ _ h => h) (Or.inl ⟨by kernel_rfl, ?yTouch0⟩) (by assumption) ?rTouch0
    case yTouch0 =>
      intro w hSw
      (try dsimp only at hSw)
      go_simp
      try with_reducible rfl
    try simp only [List.setIfInBounds_toArray, List.set_cons_zero, List.set_cons_succ]
    refine wpAnyH_tk (i := 1) (oi := _) (v := ?vTouch1) rfl rfl (by kernel_rfl) (by kernel_rfl) (by kernel_rfl) (fun _ _ _ h => h) (Or.inl ⟨by kernel_rfl, ?yTouch1⟩) (by assumption) ?rTouch1
    case yTouch1 =>
      intro w hSw
      (try dsimp only at hSw)
      go_simp
      try with_reducible rfl
    try simp only [List.setIfInBounds_toArray, List.set_cons_zero, List.set_cons_succ]
    refine wpAnyH_tk (i := 2) (oi := _) (v := ?vTouch2) rfl rfl (by kernel_rfl) (by kernel_rfl) (by kernel_rfl) (fun _ _ _ h => h) (Or.inl ⟨by kernel_rfl, ?yTouch2⟩) (by assumption) ?rTouch2
    case yTouch2 =>
      intro w hSw
      (try dsimp only at hSw)
      go_simp
      try with_reducible rfl
    try simp only [List.setIfInBounds_toArray, List.set_cons_zero, List.set_cons_succ]
    refine wpAnyH_tk (i := 5) (oi := _) (v := ?vTouch5) rfl rfl (by kernel_rfl) (by kernel_rfl) (by kernel_rfl) (fun _ _ _ h => h) (Or.inl ⟨by kernel_rfl, ?yTouch5⟩) (by assumption) ?rTouch5
    case yTouch5 =>
      intro w hSw
      (try dsimp only at hSw)
      go_simp
      try with_reducible rfl
    try simp only [List.setIfInBounds_toArray, List.set_cons_zero, List.set_cons_succ]
    refine wpAnyH_tk (i := 6) (oi := _) (v := ?vTouch6) rfl rfl (by kernel_rfl) (by kernel_rfl) (by kernel_rfl) (fun _ _ _ h => h) (Or.inl ⟨by kernel_rfl, ?yTouch6⟩) (by assumption) ?rTouch6
    case yTouch6 =>
      intro w hSw
      (try dsimp only at hSw)
      go_simp
      try with_reducible rfl
    try simp only [List.setIfInBounds_toArray, List.set_cons_zero, List.set_cons_succ]
    refine wpAnyH_tk (i := 7) (oi := _) (v := ?vTouch7) rfl rfl (by kernel_rfl) (by kernel_rfl) (by kernel_rfl) (fun _ _ _ h => h) (Or.inl ⟨by kernel_rfl, ?yTouch7⟩) (by assumption) ?rTouch7
    case yTouch7 =>
      intro w hSw
      (try dsimp only at hSw)
      go_simp
      try with_reducible rfl
    try simp only [List.setIfInBounds_toArray, List.set_cons_zero, List.set_cons_succ]
    refine wpAnyH_ready (rs := [3]) (by kernel_rfl) (by simp) ?_
    refine AllReadyH.cons (o := _) rfl (fun K hK => ?_) AllReadyH.nil
    rw [if_pos (by kernel_rfl)]
    go_simp
    refine (HF.out _ HI1.out).mono ?_
    rintro e w2 ⟨rfl, hi2⟩
    have HI2 := hide hi2
    clear hi2
    refine hK.out _ _ ⟨HCA.out _ _ _ HI2.out 1 _ rfl, HCA.out _ _ _ HI2.out 2 _ rfl⟩ (fun _ => ?_)
    clear hK K
    try simp only [Act.put, List.setIfInBounds_toArray, List.set_cons_zero, List.set_cons_succ]
    refine wpAnyH_ready (rs := [4]) (by kernel_rfl) (by simp) ?_
    refine AllReadyH.cons (o := _) rfl (fun K hK => ?_) AllReadyH.nil
    rw [if_pos (by kernel_rfl)]
    go_simp
    refine (num4_any _ _).mono ?_
    rintro e w' ⟨rfl, rfl⟩
    refine hK.out _ _ ⟨HCA.out _ _ _ HI2.out 1 _ rfl, HCA.out _ _ _ HI2.out 2 _ rfl⟩ (fun _ => ?_)
    clear hK K
    try simp only [Act.put, List.setIfInBounds_toArray, List.set_cons_zero, List.set_cons_succ]
    refine wpAnyH_ready (rs := [8]) (by kernel_rfl) (by simp) ?_
    refine AllReadyH.cons (o := _) rfl (fun K hK => ?_) AllReadyH.nil
    rw [if_pos (by kernel_rfl)]
    go_simp
    refine (HRR.out _ HI2.out).mono ?_
    rintro e w3 ⟨rfl, hi3⟩
    have HI3 := hide hi3
    clear hi3
    refine hK.out _ _ ⟨HCA.out _ _ _ HI3.out 1 _ rfl, HCA.out _ _ _ HI3.out 2 _ rfl⟩ (fun _ => ?_)
    clear hK K
    try simp only [Act.put, List.setIfInBounds_toArray, List.set_cons_zero, List.set_cons_succ]
    refine wpAnyH_tk (i := 9) (oi := _) (v := ?vTouch9) rfl rfl (by kernel_rfl) (by kernel_rfl) (by kernel_rfl) (fun _ _ _ h => h) (Or.inl ⟨by kernel_rfl, ?yTouch9⟩) (by assumption) ?rTouch9
    case yTouch9 =>
      intro w hSw
      (try dsimp only at hSw)
      go_simp
      try with_reducible rfl
    try simp only [List.setIfInBounds_toArray, List.set_cons_zero, List.set_cons_succ]
    refine wpAnyH_tk (i := 10) (oi := _) (v := ?vTouch10) rfl rfl (by kernel_rfl) (by kernel_rfl) (by kernel_rfl) (fun _ _ _ h => h) (Or.inl ⟨by kernel_rfl, ?yTouch10⟩) (by assumption) ?rTouch10
    case yTouch10 =>
      intro w hSw
      (try dsimp only at hSw)
      go_simp
      try with_reducible rfl
    try simp only [List.setIfInBounds_toArray, List.set_cons_zero, List.set_cons_succ]
    refine wpAnyH_done (by kernel_rfl) ?_ _
    go_wp2
    go_ret
    rw [HE.out]
    exact ⟨by simp, Two.less HI3.out⟩
  by_cases hwy : way = 4
  · -- Move
    subst hwy
    have HE := hide (show R = (moveS S p q) from HR.out)
    have HF := hide (fun (W : World) (h : InvN (Two f r S S (sep X (BlkN bx O))) w0.heap.size w0 W) => Two.callF h (Nat.le_refl _) HXF.out (FsPost.specN (fun T N hv ok => move_any f S p q T N W hv ok HGW.out.1 (HM.out.below h.below) (by have := HL.out; omega) (by have := HL.out; omega) HGW.out.2.2.2)))
    have HRR := hide (fun (W : World) (h : InvN (Two f r (moveS S p q).1 S (sep X (BlkN bx O))) w0.heap.size w0 W) => Two.callR h (Nat.le_refl _) HXF.out (RK.specAt (fun A c L ho => rmove4_any r S A c L p q W ho HGW.out.1 HGW.out.2.1 (by have := HL.out; omega) (by have := HL.out; omega) HGW.out.2.2.2)))
    obtain ⟨R1, hR1⟩ : ∃ y, (moveS S p q) = y := ⟨_, rfl⟩
    rw [hR1] at HF HRR HE
    clear hR1 HR
    go_enter Tryz.func30, Tryz.ntmps30
    go_wp2_with fail
    have hI1 := H1.out.drew (Two.fr f r S S HXF.out) (Nat.le_refl _)
    have HI1 := hide hI1
    clear hI1
    refine wp_region_held_drew (S := (fun W => W.cell? ⟨bx, 1, none⟩ = some (.string (bs p)) ∧ W.cell? ⟨bx, 2, none⟩ = some (.string (bs q)))) (by kernel_rfl) ⟨HCA.out _ _ _ HI1.out 1 _ rfl, HCA.out _ _ _ HI1.out 2 _ rfl⟩ (fun hHeld => ?_)
    refine wpAnyH_tk (i := 0) (oi := _) (v := ?vMove0) rfl rfl (by kernel_rfl) (by kernel_rfl) (by kernel_rfl) (fun _ _ _ h => h) (Or.inl ⟨by kernel_rfl, ?yMove0⟩) (by assumption) ?rMove0
    case yMove0 =>
      intro w hSw
      (try dsimp only at hSw)
      go_simp
      try with_reducible rfl
    try simp only [List.setIfInBounds_toArray, List.set_cons_zero, List.set_cons_succ]
    refine wpAnyH_tk (i := 1) (oi := _) (v := ?vMove1) rfl rfl (by kernel_rfl) (by kernel_rfl) (by kernel_rfl) (fun _ _ _ h => h) (Or.inl ⟨by kernel_rfl, ?yMove1⟩) (by assumption) ?rMove1
    case yMove1 =>
      intro w hSw
      (try dsimp only at hSw)
      go_simp
      try with_reducible rfl
    try simp only [List.setIfInBounds_toArray, List.set_cons_zero, List.set_cons_succ]
    refine wpAnyH_tk (i := 2) (oi := _) (v := ?vMove2) rfl rfl (by kernel_rfl) (by kernel_rfl) (by kernel_rfl) (fun _ _ _ h => h) (Or.inl ⟨by kernel_rfl, ?yMove2⟩) (by assumption) ?rMove2
    case yMove2 =>
      intro w hSw
      (try dsimp only at hSw)
      go_simp
      try with_reducible rfl
    try simp only [List.setIfInBounds_toArray, List.set_cons_zero, List.set_cons_succ]
    refine wpAnyH_tk (i := 3) (oi := _) (v := ?vMove3) rfl rfl (by kernel_rfl) (by kernel_rfl) (by kernel_rfl) (fun _ _ _ h => h) (Or.inl ⟨by kernel_rfl, ?yMove3⟩) (by assumption) ?rMove3
    case yMove3 =>
      intro w hSw
      (try dsimp only at hSw)
      go_simp
      try with_reducible rfl
    try simp only [List.setIfInBounds_toArray, List.set_cons_zero, List.set_cons_succ]
    refine wpAnyH_tk (i := 4) (oi := _) (v := ?vMove4) rfl rfl (by kernel_rfl) (by kernel_rfl) (by kernel_rfl) (fun _ _ _ h => h) (Or.inl ⟨by kernel_rfl, ?yMove4⟩) (by assumption) ?rMove4
    case yMove4 =>
      intro w hSw
      (try dsimp only at hSw)
      go_simp
      try with_reducible rfl
    try simp only [List.setIfInBounds_toArray, List.set_cons_zero, List.set_cons_succ]
    refine wpAnyH_tk (i := 7) (oi := _) (v := ?vMove7) rfl rfl (by kernel_rfl) (by kernel_rfl) (by kernel_rfl) (fun _ _ _ h => h) (Or.inl ⟨by kernel_rfl, ?yMove7⟩) (by assumption) ?rMove7
    case yMove7 =>
      intro w hSw
      (try dsimp only at hSw)
      go_simp
      try with_reducible rfl
    try simp only [List.setIfInBounds_toArray, List.set_cons_zero, List.set_cons_succ]
    refine wpAnyH_tk (i := 8) (oi := _) (v := ?vMove8) rfl rfl (by kernel_rfl) (by kernel_rfl) (by kernel_rfl) (fun _ _ _ h => h) (Or.inl ⟨by kernel_rfl, ?yMove8⟩) (by assumption) ?rMove8
    case yMove8 =>
      intro w hSw
      (try dsimp only at hSw)
      go_simp
      try with_reducible rfl
    try simp only [List.setIfInBounds_toArray, List.set_cons_zero, List.set_cons_succ]
    refine wpAnyH_tk (i := 9) (oi := _) (v := ?vMove9) rfl rfl (by kernel_rfl) (by kernel_rfl) (by kernel_rfl) (fun _ _ _ h => h) (Or.inl ⟨by kernel_rfl, ?yMove9⟩) (by assumption) ?rMove9
    case yMove9 =>
      intro w hSw
      (try dsimp only at hSw)
      go_simp
      try with_reducible rfl
    try simp only [List.setIfInBounds_toArray, List.set_cons_zero, List.set_cons_succ]
    refine wpAnyH_tk (i := 10) (oi := _) (v := ?vMove10) rfl rfl (by kernel_rfl) (by kernel_rfl) (by kernel_rfl) (fun _ _ _ h => h) (Or.inl ⟨by kernel_rfl, ?yMove10⟩) (by assumption) ?rMove10
    case yMove10 =>
      intro w hSw
      (try dsimp only at hSw)
      go_simp
      try with_reducible rfl
    try simp only [List.setIfInBounds_toArray, List.set_cons_zero, List.set_cons_succ]
    refine wpAnyH_tk (i := 11) (oi := _) (v := ?vMove11) rfl rfl (by kernel_rfl) (by kernel_rfl) (by kernel_rfl) (fun _ _ _ h => h) (Or.inl ⟨by kernel_rfl, ?yMove11⟩) (by assumption) ?rMove11
    case yMove11 =>
      intro w hSw
      (try dsimp only at hSw)
      go_simp
      try with_reducible rfl
    try simp only [List.setIfInBounds_toArray, List.set_cons_zero, List.set_cons_succ]
    refine wpAnyH_ready (rs := [5]) (by kernel_rfl) (by simp) ?_
    refine AllReadyH.cons (o := _) rfl (fun K hK => ?_) AllReadyH.nil
    rw [if_pos (by kernel_rfl)]
    go_simp
    refine (HF.out _ HI1.out).mono ?_
    rintro e w2 ⟨rfl, hi2⟩
    have HI2 := hide hi2
    clear hi2
    refine hK.out _ _ ⟨HCA.out _ _ _ HI2.out 1 _ rfl, HCA.out _ _ _ HI2.out 2 _ rfl⟩ (fun _ => ?_)
    clear hK K
    try simp only [Act.put, List.setIfInBounds_toArray, List.set_cons_zero, List.set_cons_succ]
    refine wpAnyH_ready (rs := [6]) (by kernel_rfl) (by simp) ?_
    refine AllReadyH.cons (o := _) rfl (fun K hK => ?_) AllReadyH.nil
    rw [if_pos (by kernel_rfl)]
    go_simp
    refine (num4_any _ _).mono ?_
    rintro e w' ⟨rfl, rfl⟩
    refine hK.out _ _ ⟨HCA.out _ _ _ HI2.out 1 _ rfl, HCA.out _ _ _ HI2.out 2 _ rfl⟩ (fun _ => ?_)
    clear hK K
    try simp only [Act.put, List.setIfInBounds_toArray, List.set_cons_zero, List.set_cons_succ]
    refine wpAnyH_ready (rs := [12]) (by kernel_rfl) (by simp) ?_
    refine AllReadyH.cons (o := _) rfl (fun K hK => ?_) AllReadyH.nil
    rw [if_pos (by kernel_rfl)]
    go_simp
    refine (HRR.out _ HI2.out).mono ?_
    rintro e w3 ⟨rfl, hi3⟩
    have HI3 := hide hi3
    clear hi3
    refine hK.out _ _ ⟨HCA.out _ _ _ HI3.out 1 _ rfl, HCA.out _ _ _ HI3.out 2 _ rfl⟩ (fun _ => ?_)
    clear hK K
    try simp only [Act.put, List.setIfInBounds_toArray, List.set_cons_zero, List.set_cons_succ]
    refine wpAnyH_tk (i := 13) (oi := _) (v := ?vMove13) rfl rfl (by kernel_rfl) (by kernel_rfl) (by kernel_rfl) (fun _ _ _ h => h) (Or.inl ⟨by kernel_rfl, ?yMove13⟩) (by assumption) ?rMove13
    case yMove13 =>
      intro w hSw
      (try dsimp only at hSw)
      go_simp
      try with_reducible rfl
    try simp only [List.setIfInBounds_toArray, List.set_cons_zero, List.set_cons_succ]
    refine wpAnyH_tk (i := 14) (oi := _) (v := ?vMove14) rfl rfl (by kernel_rfl) (by kernel_rfl) (by kernel_rfl) (fun _ _ _ h => h) (Or.inl ⟨by kernel_rfl, ?yMove14⟩) (by assumption) ?rMove14
    case yMove14 =>
      intro w hSw
      (try dsimp only at hSw)
      go_simp
      try with_reducible rfl
    try simp only [List.setIfInBounds_toArray, List.set_cons_zero, List.set_cons_succ]
    refine wpAnyH_done (by kernel_rfl) ?_ _
    go_wp2
    go_ret
    rw [HE.out]
    exact ⟨by simp, Two.less HI3.out⟩
  by_cases hwy0 : way = 0
  case neg =>
    have HE := hide (show R = (S, 0) by rw [HR.out, if_neg hwy0, if_neg (by assumption), if_neg (by assumption), if_neg (by assumption), if_neg (by assumption)])
    go_enter Tryz.func30, Tryz.ntmps30
    go_wp2
    go_ret
    rw [HE.out]
    exact ⟨rfl, Two.less H1.out⟩
  subst hwy0
  have HE := hide (show R = writeS S p D more from HR.out)
  have HF := hide (fun (A2 : Option Addr) (c2 : Nat) (W : World) (hr : RG encB 1 W A2 D) (h : InvN (Two f r S S (sep (sep X (BlkN bx O)) (YI (.slice A2 dl c2) dl))) w0.heap.size w0 W) => Two.callF h (Nat.le_refl _) (HXF.out.join (YI.fr _ _)) (FsPost.specN (fun T N hv ok => write_any f S p D more A2 c2 T N W hv ok HGW.out.1 (HM.out.below h.below) (by have := HL.out; omega) HGW.out.2.2.1 (by rw [HDL.out]; omega) HGW.out.2.2.2 hr)))
  have HRR := hide (fun (Y : AsnN) (hY : FrN Y) (W : World) (h : InvN (Two f r (writeS S p D more).1 S (sep (sep X (BlkN bx O)) Y)) w0.heap.size w0 W) => Two.callR h (Nat.le_refl _) (HXF.out.join hY) (RK.specAt (fun A' c' L ho => rwrite4_any r S A' c' L p A c D more W ho HGW.out.1 (by have := HL.out; omega) HGW.out.2.2.1 HGW.out.2.2.2 (by rw [HDL.out]; omega) (HB0.out.below h.below) (fun a e hn => by have h1 := HBLK.out a e hn; have h2 := Two.ge h; omega))))
  obtain ⟨R1, hR1⟩ : ∃ y, writeS S p D more = y := ⟨_, rfl⟩
  rw [hR1] at HF HRR HE
  rw [HDL.out] at HF HRR
  obtain ⟨v2, w2, hrun, o2, g2, b2⟩ := run_appY (c := c) (OwnG.nil w1 w1.heap.size) (HB0.out.below H1.out.below) (Nat.le_refl _) (by have := HDL.out; simp; omega)
  have hb12 : Below w1.heap.size w1 w2 := Below.of_gb g2 (Nat.le_refl _) (fun k hk => by cases hk)
  rw [List.nil_append] at o2
  obtain ⟨A2, c2, rfl, hc2, hr2, _, _⟩ := OwnG.slice encB_len o2
  rw [HDL.out] at hrun o2 hc2
  have HI2 := hide (Two.also (H1.out.add (Two.fr f r S S HXF.out) hb12 (Nat.le_refl _) (YI.fr (.slice A2 dl c2) dl) (YI.own o2 HDL.out) ⟨fun k hk => ⟨(o2.lt k hk).2, fun h => h⟩, fun k h => h.elim⟩ (fun k hk => (o2.lt k hk).1) (fun k h => h.elim)))
  have HR2 := hide hr2
  have hdc : (dl : Int) ≤ (c2 : Int) := by omega
  have hdi : (dl : Int) ≤ 2000 := by omega
  have hc3 := HCA.out _ _ _ H1.out 3 _ rfl
  have hc1' := HCB.out _ _ _ _ HI2.out 1 _ rfl
  have hc4' := HCB.out _ _ _ _ HI2.out 4 _ rfl
  clear o2 g2 b2 hb12 hr2 hR1 HR
  go_enter Tryz.func30, Tryz.ntmps30
  go_wp2_with (first | (at_builtin; refine wpList_app_run ?_ (.const (.slice none 0 0)) (.tmp 15) ?_ ?_ ?_ ?_ hrun ?_; exact rfl; exact rfl; exact rfl; exact rfl; exact rfl))
  refine (HF.out _ _ w2 HR2.out HI2.out).mono ?_
  rintro e w3 ⟨rfl, hi3⟩
  have HI3 := hide hi3
  clear hi3 hc1' hc4' hrun
  go_wp2
  go_loopw [9] (fun v9 wr => ∃ k : Nat, v9 = .int .i64 k ∧ k ≤ dl ∧ Hid (InvN (Two f r R1.1 S (sep (sep X (BlkN bx O)) (YI (.slice A2 dl c2) dl))) w0.heap.size w0 wr)) (fun v9 _ => dl - (intOf v9).toNat)
  case atStart => exact ⟨0, rfl, Nat.zero_le _, HI3.out⟩
  case round =>
    obtain ⟨k, rfl, hk, HI⟩ := hrel
    by_cases hlt : k < dl
    · have hu := HI.out.mono (fun _ _ _ h => sep_unassoc h)
      obtain ⟨gb, z, rfl, _, hcz, hfz⟩ := YI.cell hu hlt
      have b1 : (k : Int) < (dl : Int) := by omega
      have HSET := hide (fun z' => Two.also (YI.set hu (Nat.le_refl _) (Two.fr f r R1.1 S HXF.out) hlt z'))
      clear hu
      go_wp2
      go_roundw
      case rel => exact ⟨k + 1, by go_num, by omega, HSET.out _⟩
      case measure => simp [intOf]; omega
    · obtain rfl : k = dl := by omega
      have HI1 := hide (HI.out.drew (Two.fr f r R1.1 S (HXF.out.join (YI.fr _ _))) (Nat.le_refl _))
      clear hlt
      go_wp2_with fail
      refine wp_region_held_drew (S := (fun W => W.cell? ⟨bx, 1, none⟩ = some (.string (bs p)) ∧ W.cell? ⟨bx, 3, none⟩ = some (.slice A k c) ∧ W.cell? ⟨bx, 4, none⟩ = some (.bool more))) (by kernel_rfl) ⟨HCB.out _ _ _ _ HI1.out 1 _ rfl, HCB.out _ _ _ _ HI1.out 3 _ rfl, HCB.out _ _ _ _ HI1.out 4 _ rfl⟩ (fun hHeld => ?_)
      refine wpAnyH_tk (i := 0) (oi := _) (v := ?vWr0) rfl rfl (by kernel_rfl) (by kernel_rfl) (by kernel_rfl) (fun _ _ _ h => h) (Or.inl ⟨by kernel_rfl, ?yWr0⟩) (by assumption) ?rWr0
      case yWr0 =>
        intro w hSw
        (try dsimp only at hSw)
        go_simp
        try with_reducible rfl
      try simp only [List.setIfInBounds_toArray, List.set_cons_zero, List.set_cons_succ]
      refine wpAnyH_tk (i := 2) (oi := _) (v := ?vWr2) rfl rfl (by kernel_rfl) (by kernel_rfl) (by kernel_rfl) (fun _ _ _ h => h) (Or.inl ⟨by kernel_rfl, ?yWr2⟩) (by assumption) ?rWr2
      case yWr2 =>
        intro w hSw
        (try dsimp only at hSw)
        go_simp
        try with_reducible rfl
      try simp only [List.setIfInBounds_toArray, List.set_cons_zero, List.set_cons_succ]
      refine wpAnyH_tk (i := 3) (oi := _) (v := ?vWr3) rfl rfl (by kernel_rfl) (by kernel_rfl) (by kernel_rfl) (fun _ _ _ h => h) (Or.inl ⟨by kernel_rfl, ?yWr3⟩) (by assumption) ?rWr3
      case yWr3 =>
        intro w hSw
        (try dsimp only at hSw)
        go_simp
        try with_reducible rfl
      try simp only [List.setIfInBounds_toArray, List.set_cons_zero, List.set_cons_succ]
      refine wpAnyH_tk (i := 4) (oi := _) (v := ?vWr4) rfl rfl (by kernel_rfl) (by kernel_rfl) (by kernel_rfl) (fun _ _ _ h => h) (Or.inl ⟨by kernel_rfl, ?yWr4⟩) (by assumption) ?rWr4
      case yWr4 =>
        intro w hSw
        (try dsimp only at hSw)
        go_simp
        try with_reducible rfl
      try simp only [List.setIfInBounds_toArray, List.set_cons_zero, List.set_cons_succ]
      refine wpAnyH_tk (i := 5) (oi := _) (v := ?vWr5) rfl rfl (by kernel_rfl) (by kernel_rfl) (by kernel_rfl) (fun _ _ _ h => h) (Or.inl ⟨by kernel_rfl, ?yWr5⟩) (by assumption) ?rWr5
      case yWr5 =>
        intro w hSw
        (try dsimp only at hSw)
        go_simp
        try with_reducible rfl
      try simp only [List.setIfInBounds_toArray, List.set_cons_zero, List.set_cons_succ]
      refine wpAnyH_tk (i := 6) (oi := _) (v := ?vWr6) rfl rfl (by kernel_rfl) (by kernel_rfl) (by kernel_rfl) (fun _ _ _ h => h) (Or.inl ⟨by kernel_rfl, ?yWr6⟩) (by assumption) ?rWr6
      case yWr6 =>
        intro w hSw
        (try dsimp only at hSw)
        go_simp
        try with_reducible rfl
      try simp only [List.setIfInBounds_toArray, List.set_cons_zero, List.set_cons_succ]
      refine wpAnyH_tk (i := 7) (oi := _) (v := ?vWr7) rfl rfl (by kernel_rfl) (by kernel_rfl) (by kernel_rfl) (fun _ _ _ h => h) (Or.inl ⟨by kernel_rfl, ?yWr7⟩) (by assumption) ?rWr7
      case yWr7 =>
        intro w hSw
        (try dsimp only at hSw)
        go_simp
        try with_reducible rfl
      try simp only [List.setIfInBounds_toArray, List.set_cons_zero, List.set_cons_succ]
      refine wpAnyH_tk (i := 8) (oi := _) (v := ?vWr8) rfl rfl (by kernel_rfl) (by kernel_rfl) (by kernel_rfl) (fun _ _ _ h => h) (Or.inl ⟨by kernel_rfl, ?yWr8⟩) (by assumption) ?rWr8
      case yWr8 =>
        intro w hSw
        (try dsimp only at hSw)
        go_simp
        try with_reducible rfl
      try simp only [List.setIfInBounds_toArray, List.set_cons_zero, List.set_cons_succ]
      refine wpAnyH_ready (rs := [1]) (by kernel_rfl) (by simp) ?_
      refine AllReadyH.cons (o := _) rfl (fun K hK => ?_) AllReadyH.nil
      rw [if_pos (by kernel_rfl)]
      go_simp
      refine (num4_any _ _).mono ?_
      rintro e w' ⟨rfl, rfl⟩
      refine hK.out _ _ ⟨HCB.out _ _ _ _ HI1.out 1 _ rfl, HCB.out _ _ _ _ HI1.out 3 _ rfl, HCB.out _ _ _ _ HI1.out 4 _ rfl⟩ (fun _ => ?_)
      clear hK K
      try simp only [Act.put, List.setIfInBounds_toArray, List.set_cons_zero, List.set_cons_succ]
      refine wpAnyH_ready (rs := [9]) (by kernel_rfl) (by simp) ?_
      refine AllReadyH.cons (o := _) rfl (fun K hK => ?_) AllReadyH.nil
      rw [if_pos (by kernel_rfl)]
      go_simp
      refine (HRR.out _ (YI.fr _ _) _ HI1.out).mono ?_
      rintro e w4 ⟨rfl, hi4⟩
      have HI4 := hide hi4
      clear hi4
      refine hK.out _ _ ⟨HCB.out _ _ _ _ HI4.out 1 _ rfl, HCB.out _ _ _ _ HI4.out 3 _ rfl, HCB.out _ _ _ _ HI4.out 4 _ rfl⟩ (fun _ => ?_)
      clear hK K
      try simp only [Act.put, List.setIfInBounds_toArray, List.set_cons_zero, List.set_cons_succ]
      refine wpAnyH_tk (i := 10) (oi := _) (v := ?vWr10) rfl rfl (by kernel_rfl) (by kernel_rfl) (by kernel_rfl) (fun _ _ _ h => h) (Or.inl ⟨by kernel_rfl, ?yWr10⟩) (by assumption) ?rWr10
      case yWr10 =>
        intro w hSw
        (try dsimp only at hSw)
        go_simp
        try with_reducible rfl
      try simp only [List.setIfInBounds_toArray, List.set_cons_zero, List.set_cons_succ]
      refine wpAnyH_tk (i := 11) (oi := _) (v := ?vWr11) rfl rfl (by kernel_rfl) (by kernel_rfl) (by kernel_rfl) (fun _ _ _ h => h) (Or.inl ⟨by kernel_rfl, ?yWr11⟩) (by assumption) ?rWr11
      case yWr11 =>
        intro w hSw
        (try dsimp only at hSw)
        go_simp
        try with_reducible rfl
      try simp only [List.setIfInBounds_toArray, List.set_cons_zero, List.set_cons_succ]
      refine wpAnyH_done (by kernel_rfl) ?_ _
      go_wp2
      go_ret
      rw [HE.out]
      exact ⟨by simp, Two.less (Two.less HI4.out)⟩
end Go.Proofs.YtaajofojbhdgaaaGreatDoor
/- Walk of the file system's All: every node, in order, in a row of its own. -/
namespace Go.Proofs.YtaajofojbhdgaaaGreatDoor
open Go.RowKit Go.Deep Go.Maps Ln Pth Vf
set_option linter.unusedSimpArgs false
set_option linter.unusedVariables false
attribute [local go_sem] bt_eq fld0 fld1 fld2 mkMap

/-- a row of nodes, in blocks from a number on -/
structure NewRow (w : World) (b0 : Nat) (A : Option Addr) (P : List NV) : Prop where
  rg : RG encE 4 w A P
  ge : ∀ a, A = some a → b0 ≤ a.block
  dat : ∀ x ∈ P, RG encB 1 w x.2.A x.2.nd.data ∧ x.2.nd.data.length ≤ x.2.c ∧ ∀ a, x.2.A = some a → b0 ≤ a.block
/-- what All tells -/
def AllPost (S : St) (w : World) (e : Ending) (w' : World) : Prop := (∃ A c P, e = .returned (.slice A P.length c) ∧ P.length ≤ c ∧ NewRow w' w.heap.size A P ∧ stripN P = S.m) ∧ Below w.heap.size w w'
end Go.Proofs.YtaajofojbhdgaaaGreatDoor
/- Walks of law4's Big and of the reference's SameEntries. -/
namespace Go.Proofs.YtaajofojbhdgaaaGreatDoor
open Go.RowKit Go.Deep Go.Maps Ln Pth Vf
set_option linter.unusedSimpArgs false
set_option linter.unusedVariables false
attribute [local go_sem] bt_eq

/-- a call that is not too great -/
def okA (x : Ac4) : Bool := decide (x.p.size ≤ 300) && decide (x.q.size ≤ 300) && decide (x.b.length ≤ 2000)
def bigF (L : List Ac4) : Bool := !(L.all okA && decide (L.length ≤ 60))
set_option maxRecDepth 100000 in
set_option maxHeartbeats 2000000 in
theorem big_any (A : Option Addr) (c : Nat) (L : List Ac4) (w : World) (h : RG encA4 5 w A L) (hl : L.length ≤ 9223372036854775807) (hs : ∀ x ∈ L, x.p.size ≤ 9223372036854775807 ∧ x.q.size ≤ 9223372036854775807 ∧ x.b.length ≤ 9223372036854775807) :
    Calls Tryz.prog 9 #[.slice A L.length c] w fun e w' => e = .returned (.bool (bigF L)) ∧ w = w' := by
  have HR := hide h
  have HS := hide hs
  obtain ⟨n, hn⟩ : ∃ n, L.length = n := ⟨_, rfl⟩
  have HN := hide hn
  rw [hn] at hl ⊢
  clear h hs hn
  go_enter Tryz.func9, Tryz.ntmps9
  go_wp2
  go_loopw [3] (fun v3 wr => ∃ k : Nat, v3 = .int .i64 k ∧ k ≤ n ∧ Hid ((L.take k).all okA = true) ∧ w = wr) (fun v3 _ => n - (intOf v3).toNat)
  case atStart => exact ⟨0, rfl, by omega, rfl, rfl⟩
  case round =>
    obtain ⟨k, rfl, hk, HOK, rfl⟩ := hrel
    by_cases hlt : k < n
    · obtain ⟨x, hx⟩ : ∃ x, L[k]? = some x := ⟨L[k]'(by have := HN.out; omega), List.getElem?_eq_getElem _⟩
      obtain ⟨gs, o, rfl, hgs, hc⟩ := HR.out k x hx
      obtain ⟨z1, z2, z3⟩ := HS.out x (List.mem_of_getElem? hx)
      have hc1 : w.cell? ⟨gs, o + k * 5 + 1, none⟩ = some (.string x.p) := hc 1 _ rfl
      have hc2 : w.cell? ⟨gs, o + k * 5 + 2, none⟩ = some (.string x.q) := hc 2 _ rfl
      have hc3 : w.cell? ⟨gs, o + k * 5 + 3, none⟩ = some (.slice x.A x.b.length x.c) := hc 3 _ rfl
      have b1 : (k : Int) < (n : Int) := by omega
      have HX := hide hx
      obtain ⟨ps, hps⟩ : ∃ s, x.p = s := ⟨_, rfl⟩
      obtain ⟨qs, hqs⟩ : ∃ s, x.q = s := ⟨_, rfl⟩
      obtain ⟨bl, hbl⟩ : ∃ s, x.b.length = s := ⟨_, rfl⟩
      rw [hps] at hc1 z1
      rw [hqs] at hc2 z2
      rw [hbl] at hc3 z3
      have HOX := hide (show okA x = (decide (ps.size ≤ 300) && decide (qs.size ≤ 300) && decide (bl ≤ 2000)) by unfold okA; rw [hps, hqs, hbl])
      have HBAD := hide (fun (h : okA x = false) => show bigF L = true from by
        unfold bigF
        have : L.all okA = false := by
          rw [List.all_eq_false]
          exact ⟨x, List.mem_of_getElem? HX.out, by rw [h]; simp⟩
        rw [this]
        rfl)
      clear hc hx hgs hps hqs hbl
      by_cases p3 : 300 < ps.size
      · have pi : (300 : Int) < (ps.size : Int) := by omega
        have HE := hide (HBAD.out (by rw [HOX.out]; simp; omega))
        go_wp2
        go_ret
        rw [HE.out]
        exact ⟨rfl, rfl⟩
      have pi : ¬ (300 : Int) < (ps.size : Int) := by omega
      by_cases q3 : 300 < qs.size
      · have qi : (300 : Int) < (qs.size : Int) := by omega
        have HE := hide (HBAD.out (by rw [HOX.out]; simp; omega))
        go_wp2
        go_ret
        rw [HE.out]
        exact ⟨rfl, rfl⟩
      have qi : ¬ (300 : Int) < (qs.size : Int) := by omega
      by_cases b3 : 2000 < bl
      · have bi : (2000 : Int) < (bl : Int) := by omega
        have HE := hide (HBAD.out (by rw [HOX.out]; simp; omega))
        go_wp2
        go_ret
        rw [HE.out]
        exact ⟨rfl, rfl⟩
      have bi : ¬ (2000 : Int) < (bl : Int) := by omega
      have HE := hide (show okA x = true by rw [HOX.out]; simp; omega)
      go_wp2
      go_roundw
      case rel =>
        refine ⟨k + 1, by go_num, by omega, ?_, trivial⟩
        show (L.take (k + 1)).all okA = true
        rw [List.take_add_one, HX.out, List.all_append, HOK.out]
        simp [HE.out]
      case measure => simp [intOf]; omega
    · obtain rfl : n = k := by omega
      have htk : L.take n = L := List.take_of_length_le (by have := HN.out; omega)
      rw [htk] at HOK
      by_cases n6 : 60 < n
      · have ni : (60 : Int) < (n : Int) := by omega
        have HE := hide (show bigF L = true by unfold bigF; rw [HN.out, decide_eq_false (by omega)]; simp)
        clear htk
        go_wp2
        go_ret
        rw [HE.out]
        exact ⟨by simp, rfl⟩
      · have ni : ¬ (60 : Int) < (n : Int) := by omega
        have HE := hide (show bigF L = false by unfold bigF; rw [HOK.out, HN.out, decide_eq_true (by omega)]; rfl)
        clear htk
        go_wp2
        go_ret
        rw [HE.out]
        exact ⟨by simp, rfl⟩
end Go.Proofs.YtaajofojbhdgaaaGreatDoor
/- What chapter 4's laws need: both file systems made anew; rows of calls joined; a row of nodes kept beside; that a refused call changes nothing. -/
namespace Go.Proofs.YtaajofojbhdgaaaGreatDoor
open Go.RowKit Go.Deep Go.Maps Ln Pth Vf
set_option linter.unusedSimpArgs false
set_option linter.unusedVariables false

/-- no more blocks -/
def noneN : AsnN := fun _ _ _ => True
theorem noneN.fr : FrN noneN := fun _ _ _ _ _ h _ _ _ => h
/-- both file systems, made anew one behind the other -/
theorem Two.start {w0 w1 w2 w3 : World} (n b : Int) (h0 : Below w0.heap.size w0 w1) (hb1 : Below w1.heap.size w1 w2) (hv : VS (w1.heap.size + 1) (newS n b) (fun k => w1.heap.size ≤ k ∧ k < w2.heap.size) (fun _ => False) w2) (hs : w2.heap.size = w1.heap.size + 2)
    (hb2 : Below w2.heap.size w2 w3) (hr : RSO w2.heap.size (newS n b) none 0 [] w3) (hs3 : w3.heap.size = w2.heap.size + 1) : InvN (Two (w1.heap.size + 1) w2.heap.size (newS n b) (newS n b) noneN) w0.heap.size w0 w3 := by
  have hz0 := h0.size
  have hok : OkTN (fun k => w1.heap.size ≤ k ∧ k < w2.heap.size) (fun _ => False) w2 := ⟨fun k hk => ⟨hk.2, fun h => h⟩, fun k h => h.elim⟩
  obtain ⟨hv3, ok3⟩ := hv.stay hok hb2
  refine ⟨fun k => w1.heap.size ≤ k ∧ k < w3.heap.size, fun _ => False, ⟨fun k => w1.heap.size ≤ k ∧ k < w3.heap.size, fun _ => False, ⟨fun k => w1.heap.size ≤ k ∧ k < w2.heap.size, fun k => k = w2.heap.size, hv3, ⟨rfl, none, 0, [], hr.heap, hr.cap, ⟨hr.rg, fun a e => (by cases e), fun x hx => (by cases hx), fun x hx => (by cases hx), fun a e => (by cases e)⟩, hr.eq⟩, fun k hk => ⟨hk.1, by omega⟩, fun k hk => ⟨by omega, by omega⟩, fun k h1 h2 => by omega⟩, trivial, fun k h => h, fun k h => h.elim, fun k h1 h2 => h2⟩, ⟨fun k hk => ⟨hk.2, fun h => h⟩, fun k h => h.elim⟩, fun k hk => by omega, ?_⟩
  exact below_up (below_up h0 hb1 hz0) hb2 (below_up h0 hb1 hz0).size
/-- a row of nodes that is kept beside -/
def RowX (A : Option Addr) (P : List NV) : AsnN := fun _ N w => RG encE 4 w A P ∧ (∀ a, A = some a → P ≠ [] → N a.block) ∧ ∀ x ∈ P, RG encB 1 w x.2.A x.2.nd.data ∧ x.2.nd.data.length ≤ x.2.c ∧ ∀ a, x.2.A = some a → x.2.nd.data ≠ [] → N a.block
theorem RowX.fr (A : Option Addr) (P : List NV) : FrN (RowX A P) := by
  rintro T N N' w w' ⟨h1, h2, h3⟩ hb hn hs
  exact ⟨h1.ofB hs (fun a e hne => hb a.block (.inr (h2 a e hne))), fun a e hne => hn _ (h2 a e hne), fun x hx => ⟨(h3 x hx).1.ofB hs (fun a e hne => hb a.block (.inr ((h3 x hx).2.2 a e hne))), (h3 x hx).2.1, fun a e hne => hn _ ((h3 x hx).2.2 a e hne)⟩⟩
/-- what All told is kept beside -/
theorem Two.row {f r : Nat} {S S' : St} {X : AsnN} {B : Nat} {w0 w w' : World} {A : Option Addr} {P : List NV} (h : InvN (Two f r S S' X) B w0 w) (hX : FrN X) (hB : B ≤ w0.heap.size) (hb : Below w.heap.size w w') (hn : NewRow w' w.heap.size A P) : InvN (Two f r S S' (sep X (RowX A P))) B w0 w' :=
  Two.also (h.add (Two.fr f r S S' hX) hb hB (T2 := fun _ => False) (N2 := fun k => w.heap.size ≤ k ∧ k < w'.heap.size) (RowX.fr A P)
    ⟨hn.rg, fun a e hne => ⟨hn.ge a e, hn.rg.block_lt e hne⟩, fun x hx => ⟨(hn.dat x hx).1, (hn.dat x hx).2.1, fun a e hne => ⟨(hn.dat x hx).2.2 a e, (hn.dat x hx).1.block_lt e hne⟩⟩⟩
    ⟨fun k h => h.elim, fun k h => h.2⟩ (fun k h => h.elim) (fun k h => h.1))
theorem RowX.get {A : Option Addr} {P : List NV} {B : Nat} {w0 w : World} (h : InvN (RowX A P) B w0 w) : RG encE 4 w A P ∧ ∀ x ∈ P, RG encB 1 w x.2.A x.2.nd.data ∧ x.2.nd.data.length ≤ x.2.c := by
  obtain ⟨T, N, ⟨h1, _, h3⟩, _⟩ := h
  exact ⟨h1, fun x hx => ⟨(h3 x hx).1, (h3 x hx).2.1⟩⟩
/-! rows of calls -/
def rowA4 : RowT Tryz.prog 26 68 5 := { z := .agg #[.int .i64 0, .string ⟨#[]⟩, .string ⟨#[]⟩, .slice none 0 0, .bool false], bytes := 72, und := Tryz.underlying26, info := by kernel_rfl, zlen := rfl, pos := by omega, sb := by omega }
end Go.Proofs.YtaajofojbhdgaaaGreatDoor
/- Walk of chapter 21's Trees: both file systems of a row of calls hold the same. -/
namespace Go.Proofs.YtaajofojbhdgaaaGreatDoor
open Go.RowKit Go.Deep Go.Maps Ln Pth Vf
set_option linter.unusedSimpArgs false
set_option linter.unusedVariables false
attribute [local go_sem] bt_eq

theorem okA_iffT {x : Ac4} (h : okA x = true) : x.p.size ≤ 300 ∧ x.q.size ≤ 300 ∧ x.b.length ≤ 2000 := by
  unfold okA at h
  simp only [Bool.and_eq_true, decide_eq_true_eq] at h
  exact ⟨h.1.1, h.1.2, h.2⟩
theorem bigF_noT {L : List Ac4} (h : bigF L = false) : (∀ x ∈ L, okA x = true) ∧ L.length ≤ 60 := by
  unfold bigF at h
  simp only [Bool.not_eq_false', Bool.and_eq_true, decide_eq_true_eq, List.all_eq_true] at h
  exact h
/-- what a row of calls leaves -/
def treeS (L : List Ac4) : St := actsS (newS 40 4000) L
theorem treeS_good (L : List Ac4) : GoodS (treeS L) 40 4000 L.length := by
  have := GoodS.acts L (GoodS.new 40 4000)
  rw [Nat.zero_add] at this
  exact this
set_option maxRecDepth 100000 in
set_option maxHeartbeats 4000000 in
theorem trees_any (A : Option Addr) (c : Nat) (L : List Ac4) (W : World) (hm : MX W) (h : AR4 W A L) (hb : bigF L = false) :
    Calls Tryz.prog 10 #[.slice A L.length c] W fun e w' => ∃ f r, e = .returned (.tuple #[.pointer (some ⟨f, 0, none⟩), .pointer (some ⟨r, 0, none⟩)]) ∧ InvN (Two f r (treeS L) (treeS L) noneN) W.heap.size W w' := by
  obtain ⟨hok, hl60⟩ := bigF_noT hb
  have HOK := hide hok
  have HM := hide hm
  have HAR := hide h
  obtain ⟨nl, hn⟩ : ∃ n, L.length = n := ⟨_, rfl⟩
  have HN := hide hn
  rw [hn] at hl60 ⊢
  clear hb hok hm h hn
  have HNW := hide (vnew_any 40 4000 W (by omega) (by omega) (by omega) (by omega))
  go_enter Tryz.func10, Tryz.ntmps10
  go_wp2_with fail
  refine HNW.out.mono ?_
  rintro e w4 ⟨rfl, hb4, hv4, hs4⟩
  have HNR := hide (rnew_any 40 4000 w4)
  go_wp2_with fail
  refine HNR.out.mono ?_
  rintro e w5 ⟨rfl, hb5, hr5, hs5⟩
  have HI0 := hide (Two.start 40 4000 (Below.refl W.heap.size W) hb4 hv4 hs4 hb5 hr5 hs5)
  have HG0 := hide (GoodS.new 40 4000)
  have HT0 := hide (show treeS L = actsS (newS 40 4000) (L.take nl) by rw [List.take_of_length_le (by have := HN.out; omega)]; rfl)
  obtain ⟨f, hf⟩ : ∃ f, W.heap.size + 1 = f := ⟨_, rfl⟩
  obtain ⟨r, hr⟩ : ∃ f, w4.heap.size = f := ⟨_, rfl⟩
  have hby0 : (newS 40 4000).bytes ≤ 400000 := by decide
  obtain ⟨S0, hS0⟩ : ∃ S, newS 40 4000 = S := ⟨_, rfl⟩
  rw [hf, hr, hS0] at HI0
  rw [hS0] at HG0 HT0 hby0
  rw [hf, hr]
  clear hb4 hv4 hs4 hb5 hr5 hs5 HNW HNR hf hr hS0
  go_wp2
  go_loopw [6] (fun v6 wr => ∃ i : Nat, v6 = .int .i64 i ∧ i ≤ nl ∧ Hid (InvN (Two f r (actsS S0 (L.take i)) (actsS S0 (L.take i)) noneN) W.heap.size W wr)) (fun v6 _ => nl - (intOf v6).toNat)
  case atStart => exact ⟨0, rfl, Nat.zero_le _, HI0.out⟩
  case round =>
    obtain ⟨wo, hwo⟩ : ∃ Z, Z = wr := ⟨_, rfl⟩
    subst hwo
    obtain ⟨i, rfl, hi, HI⟩ := hrel
    by_cases hlt : i < nl
    case neg =>
      obtain rfl : i = nl := by omega
      go_wp2
      go_ret2
      exact ⟨f, r, rfl, by rw [HT0.out]; exact HI.out⟩
    have har := HAR.out.below HI.out.below
    obtain ⟨y, hy⟩ : ∃ y, L[i]? = some y := ⟨L[i]'(by have := HN.out; omega), List.getElem?_eq_getElem _⟩
    obtain ⟨gs, og, rfl, hgs, hc⟩ := har.1 i y hy
    have c0 : wo.cell? ⟨gs, og + i * 5, none⟩ = some (.int .i64 y.way) := by have := hc 0 _ rfl; simpa using this
    have c1 : wo.cell? ⟨gs, og + i * 5 + 1, none⟩ = some (.string y.p) := hc 1 _ rfl
    have c2 : wo.cell? ⟨gs, og + i * 5 + 2, none⟩ = some (.string y.q) := hc 2 _ rfl
    have c3 : wo.cell? ⟨gs, og + i * 5 + 3, none⟩ = some (.slice y.A y.b.length y.c) := hc 3 _ rfl
    have c4 : wo.cell? ⟨gs, og + i * 5 + 4, none⟩ = some (.bool y.more) := hc 4 _ rfl
    obtain ⟨z1, z2, z3⟩ := okA_iffT (HOK.out y (List.mem_of_getElem? hy))
    have hgd := GoodS.acts (L.take i) HG0.out
    have HDO := hide (do_any f r _ y noneN noneN.fr W wo HI.out hgd hby0 (by rw [List.length_take]; omega) HM.out z1 z2 z3 (HAR.out.2 y (List.mem_of_getElem? hy)))
    rw [← actsS_take hy] at HDO
    have b1 : (i : Int) < (nl : Int) := by omega
    clear hy hc hgs z1 z2 z3 hgd har
    go_wp2_with fail
    refine HDO.out.mono ?_
    rintro e w6 ⟨rfl, hi6⟩
    have HI6 := hide hi6
    clear hi6 HDO
    go_wp2
    go_roundw
    case rel => exact ⟨i + 1, by go_num, by omega, HI6.out⟩
    case measure => simp [intOf]; omega
end Go.Proofs.YtaajofojbhdgaaaGreatDoor
/- find.Plan and its kin, as plain functions. -/
namespace Go.Proofs.YtaajofojbhdgaaaGreatDoor
open Ln Pth Vf

/-- what Plan tells -/
structure Pn where
  needs : List ByteArray
  recipe : List ByteArray
  stem : T
  rule : Bool
def noPn : Pn := ⟨[], [], [], false⟩
def needF (l : List ByteArray) (s : ByteArray) : List ByteArray := if Lib.containsS l s = true then l else l ++ [s]
def needsF (l n : List ByteArray) : List ByteArray := n.foldl needF l
def addN (p : Pn) (n : List ByteArray) : Pn := { p with needs := needsF p.needs n }
theorem needF_len (l : List ByteArray) (s : ByteArray) : (needF l s).length ≤ l.length + 1 := by
  unfold needF
  split <;> simp
theorem needsF_len : ∀ (n l : List ByteArray), (needsF l n).length ≤ l.length + n.length
  | [], l => by simp [needsF]
  | s :: n, l => by
    have := needsF_len n (needF l s)
    have h2 := needF_len l s
    have : (needsF l (s :: n)) = needsF (needF l s) n := rfl
    rw [this, List.length_cons]
    omega
theorem needsF_take {l n : List ByteArray} {k : Nat} {x : ByteArray} (h : n[k]? = some x) : needsF l (n.take (k + 1)) = needF (needsF l (n.take k)) x := by
  unfold needsF
  rw [List.take_add_one, h, List.foldl_append]
  rfl
def frontT (p : T) : T := (Lib.cut p [37]).1
def backT (p : T) : T := (Lib.cut p [37]).2.1
def cutsT (p : T) : Bool := (Lib.cut p [37]).2.2
theorem front_len (p : T) : (frontT p).length ≤ p.length := by
  unfold frontT Lib.cut
  split
  · rw [List.length_take]; omega
  · exact Nat.le_refl _
theorem back_len (p : T) : (backT p).length ≤ p.length := by
  unfold backT Lib.cut
  split
  · rw [List.length_drop]; omega
  · simp
def matchT (p s : T) : T × Bool :=
  if cutsT p = false then ([], decide (s = p))
  else if s.length ≤ (frontT p).length + (backT p).length then ([], false)
  else if Lib.hasPrefix s (frontT p) = false then ([], false)
  else if Lib.hasSuffix s (backT p) = false then ([], false)
  else ((s.drop (frontT p).length).take (s.length - (backT p).length - (frontT p).length), true)
theorem matchT_len (p s : T) : (matchT p s).1.length ≤ s.length := by
  unfold matchT
  split
  · simp
  · split
    · simp
    · split
      · simp
      · split
        · simp
        · simp only [List.length_take, List.length_drop]; omega
def fillT (p st : T) : T := if cutsT p = false then p else frontT p ++ st ++ backT p
theorem fillT_len (p st : T) : (fillT p st).length ≤ 2 * p.length + st.length := by
  have h1 := front_len p
  have h2 := back_len p
  unfold fillT
  split
  · omega
  · simp only [List.length_append]; omega
/-- the capital letters, and _ -/
def azT : T := [65, 66, 67, 68, 69, 70, 71, 72, 73, 74, 75, 76, 77, 78, 79, 80, 81, 82, 83, 84, 85, 86, 87, 88, 89, 90, 95]
def specT (s : T) : Bool := decide (1 < s.length) && (decide (s.getD 0 0 = 46) && decide (Lib.trimS (s.drop 1) azT = []))
def kindT (S : St) (cwd s : T) : Nat := if (absF cwd s).2 ≠ 0 then 0 else kindS S (absF cwd s).1
/-- whether a need is neither there nor known -/
def lackF (S : St) (cwd : T) (kl : List ByteArray) (s : ByteArray) : Bool := decide (kindT S cwd s.data.toList = 0) && !Lib.containsS kl s
def thereF (S : St) (cwd : T) (kl l : List ByteArray) : Bool := !l.any (lackF S cwd kl)
def takesF (p : Pn) (needs recipe : List ByteArray) (st : T) : Pn := ⟨needsF p.needs needs, recipe, st, true⟩
def fillsF (r : Rl) (st : T) : List ByteArray := r.nd.2.2.map fun s => bs (fillT s.data.toList st)
/-- the first of a rule's targets that fits, and its stem -/
def firstF (target : T) : List ByteArray → Option T
  | [] => none
  | t :: l => if (matchT t.data.toList target).2 = true then some (matchT t.data.toList target).1 else firstF target l
def patO (S : St) (cwd : T) (kl : List ByteArray) (target : T) (r : Rl) (p : Pn) : Option Pn :=
  match firstF target r.tg.2.2 with
  | none => none
  | some st => if thereF S cwd kl (fillsF r st) = true then some (takesF p (fillsF r st) r.rc.2.2 st) else none
/-- Two: the suffixes -/
def twoGo (all : List ByteArray) (t : T) : List ByteArray → T × T × Bool
  | [] => (t, [], Lib.containsS all (bs t))
  | a :: l => if (Lib.hasPrefix t a.data.toList && Lib.containsS all (bs (t.drop a.size))) = true then (a.data.toList, t.drop a.size, true) else twoGo all t l
def twoF (t : T) (l : List ByteArray) : T × T × Bool := twoGo l t l
def sufO (S : St) (cwd : T) (kl : List ByteArray) (target : T) (l : List ByteArray) (r : Rl) (p : Pn) : Option Pn :=
  if plainR r.tg.2.2 = false then none else
  if 0 < r.nd.2.2.length then none else
  match r.tg.2.2 with
  | [t] =>
    if specT t.data.toList = true then none else
    if Lib.hasPrefix t.data.toList [46] = false then none else
    if (twoF t.data.toList l).2.2 = false then none else
    if Lib.hasSuffix target (twoF t.data.toList l).2.1 = false then none else
    if target.length ≤ (twoF t.data.toList l).2.1.length then none else
    let st := Lib.trimSuffix target (twoF t.data.toList l).2.1
    let from_ := st ++ (twoF t.data.toList l).1
    if from_ = target then none else
    if kindT S cwd from_ ≠ 1 ∧ Lib.containsS kl (bs from_) = false then none else
    some (takesF p [bs from_] r.rc.2.2 st)
  | _ => none
def knownsF (L : List Rl) : List ByteArray := L.flatMap fun r => if plainR r.tg.2.2 = true then r.tg.2.2 else []
def suffixes : ByteArray := ⟨#[46, 83, 85, 70, 70, 73, 88, 69, 83]⟩
def pat1 (S : St) (cwd : T) (kl : List ByteArray) (target : T) (p : Pn) (r : Rl) : Option Pn :=
  if plainR r.tg.2.2 = true then none else if r.rc.2.2.length = 0 then none else patO S cwd kl target r p
def suf1 (S : St) (cwd : T) (kl : List ByteArray) (target : T) (l : List ByteArray) (p : Pn) (r : Rl) : Option Pn :=
  if r.rc.2.2.length = 0 then none else sufO S cwd kl target l r p
def firstO {α β : Type} (f : α → Option β) : List α → Option β
  | [] => none
  | a :: l => match f a with
    | some b => some b
    | none => firstO f l
theorem firstO_take {α β : Type} (f : α → Option β) : ∀ (l : List α) (k : Nat), firstO f (l.take k) = none → firstO f l = firstO f (l.drop k)
  | [], k, _ => by simp
  | a :: l, 0, _ => rfl
  | a :: l, k + 1, h => by
    rw [List.take_succ_cons, firstO] at h
    rw [List.drop_succ_cons, firstO]
    cases hf : f a with
    | some b => rw [hf] at h; cases h
    | none => rw [hf] at h; exact firstO_take f l k h
theorem firstO_at {α β : Type} (f : α → Option β) (l : List α) (k : Nat) (x : α) (h : firstO f (l.take k) = none) (hx : l[k]? = some x) : firstO f l = match f x with
    | some b => some b
    | none => firstO f (l.drop (k + 1)) := by
  rw [firstO_take f l k h]
  have : l.drop k = x :: l.drop (k + 1) := by
    have hk := (List.getElem?_eq_some_iff.1 hx)
    obtain ⟨h1, h2⟩ := hk
    rw [List.drop_eq_getElem_cons h1, h2]
  rw [this, firstO]
theorem firstO_step {α β : Type} (f : α → Option β) : ∀ (l : List α) (k : Nat) (x : α), firstO f (l.take k) = none → l[k]? = some x → f x = none → firstO f (l.take (k + 1)) = none
  | a :: l, 0, x, _, hx, hf => by
    simp only [List.getElem?_cons_zero] at hx
    injection hx with hx
    subst hx
    simp [firstO, hf]
  | a :: l, k + 1, x, h, hx, hf => by
    rw [List.take_succ_cons, firstO] at h ⊢
    cases ha : f a with
    | some b => rw [ha] at h; cases h
    | none => rw [ha] at h; exact firstO_step f l k x h (by simpa using hx) hf
def fitsF (S : St) (cwd : T) (L : List Rl) (target : T) (p : Pn) : Pn :=
  match firstO (pat1 S cwd (knownsF L) target p) L with
  | some q => q
  | none => match firstO (suf1 S cwd (knownsF L) target (specialR L suffixes) p) L with
    | some q => q
    | none => p
def gatherF (target : ByteArray) (p : Pn) (r : Rl) : Pn := if ofR target r = true then ⟨needsF p.needs r.nd.2.2, if 0 < r.rc.2.2.length then r.rc.2.2 else p.recipe, p.stem, true⟩ else p
def gathersF (target : ByteArray) (L : List Rl) : Pn := L.foldl (gatherF target) noPn
theorem gathers_take {target : ByteArray} {L : List Rl} {k : Nat} {r : Rl} (h : L[k]? = some r) : gathersF target (L.take (k + 1)) = gatherF target (gathersF target (L.take k)) r := by
  unfold gathersF
  rw [List.take_add_one, h, List.foldl_append]
  rfl
def planF (S : St) (cwd : T) (L : List Rl) (target : T) : Pn :=
  if specT target = true then noPn else
  if (gathersF (bs target) L).recipe = [] then fitsF S cwd L target (gathersF (bs target) L) else gathersF (bs target) L
theorem knowns_take {L : List Rl} {k : Nat} {r : Rl} (h : L[k]? = some r) : knownsF (L.take (k + 1)) = knownsF (L.take k) ++ if plainR r.tg.2.2 = true then r.tg.2.2 else [] := by
  unfold knownsF
  rw [List.take_add_one, h]
  simp
end Go.Proofs.YtaajofojbhdgaaaGreatDoor
/- Steps of a build, as plain data; what is told of them. No program in sight. -/
namespace Go.Proofs.YtaajofojbhdgaaaGreatDoor
open Ln Pth Vf
set_option linter.unusedSimpArgs false
set_option linter.unusedVariables false

/-- a step: the target, and what became of it -/
structure Stp where
  t : ByteArray
  what : Int
def encStp (s : Stp) : List Value := [.string s.t, .int .i64 s.what]
/-- whether none of these stands twice, nor among those that were seen -/
def ncF : List ByteArray → List ByteArray → Bool
  | _, [] => true
  | seen, x :: r => if Lib.containsS seen x = true then false else ncF (seen ++ [x]) r
def onceF (L : List Stp) : Bool := ncF [] (L.map Stp.t)
theorem nc_at {ts : List ByteArray} {k : Nat} {x : ByteArray} (h : ts[k]? = some x) : ncF (ts.take k) (ts.drop k) = if Lib.containsS (ts.take k) x = true then false else ncF (ts.take (k + 1)) (ts.drop (k + 1)) := by
  obtain ⟨h1, h2⟩ := List.getElem?_eq_some_iff.1 h
  rw [List.drop_eq_getElem_cons h1, h2, ncF, List.take_add_one, h]
  rfl
theorem nc_end {ts : List ByteArray} {k : Nat} (h : ts.length ≤ k) : ncF (ts.take k) (ts.drop k) = true := by
  rw [List.drop_of_length_le h, ncF]
def madeF (L : List Stp) : List ByteArray := (L.filter fun s => decide (s.what = 2)).map Stp.t
theorem made_take {L : List Stp} {k : Nat} {s : Stp} (h : L[k]? = some s) : madeF (L.take (k + 1)) = madeF (L.take k) ++ if s.what = 2 then [s.t] else [] := by
  unfold madeF
  rw [List.take_add_one, h, List.filter_append, List.map_append]
  congr 1
  by_cases e : s.what = 2
  · simp [e]
  · simp [e]
theorem made_len (L : List Stp) : (madeF L).length ≤ L.length := by
  unfold madeF
  rw [List.length_map]
  exact List.length_filter_le _ _
/-- whether a step may stand there, behind one of the needs or ahead -/
def okAt (needs : List ByteArray) (i : Nat) (s : Stp) (k : Nat) (x : Stp) : Bool :=
  !Lib.containsS needs x.t || !(decide (i ≤ k) || ((decide (x.what = 3) || decide (x.what = 4)) && (decide (s.what = 1) || decide (s.what = 2))))
def bIn (needs : List ByteArray) (i : Nat) (s : Stp) : Nat → List Stp → Bool
  | _, [] => true
  | k, x :: r => okAt needs i s k x && bIn needs i s (k + 1) r
def bOut (N : ByteArray → List ByteArray) (L : List Stp) : Nat → List Stp → Bool
  | _, [] => true
  | i, s :: r => bIn (N s.t) i s 0 L && bOut N L (i + 1) r
def behindF (N : ByteArray → List ByteArray) (L : List Stp) : Bool := bOut N L 0 L
theorem bIn_at {needs : List ByteArray} {i : Nat} {s : Stp} {L : List Stp} {k : Nat} {x : Stp} (h : L[k]? = some x) : bIn needs i s k (L.drop k) = (okAt needs i s k x && bIn needs i s (k + 1) (L.drop (k + 1))) := by
  obtain ⟨h1, h2⟩ := List.getElem?_eq_some_iff.1 h
  rw [List.drop_eq_getElem_cons h1, h2, bIn]
theorem bOut_at {N : ByteArray → List ByteArray} {L : List Stp} {i : Nat} {s : Stp} (h : L[i]? = some s) : bOut N L i (L.drop i) = (bIn (N s.t) i s 0 L && bOut N L (i + 1) (L.drop (i + 1))) := by
  obtain ⟨h1, h2⟩ := List.getElem?_eq_some_iff.1 h
  rw [List.drop_eq_getElem_cons h1, h2, bOut]
theorem bIn_end {needs : List ByteArray} {i k : Nat} {s : Stp} {L : List Stp} (h : L.length ≤ k) : bIn needs i s k (L.drop k) = true := by rw [List.drop_of_length_le h, bIn]
theorem bOut_end {N : ByteArray → List ByteArray} {L : List Stp} {i : Nat} (h : L.length ≤ i) : bOut N L i (L.drop i) = true := by rw [List.drop_of_length_le h, bOut]
end Go.Proofs.YtaajofojbhdgaaaGreatDoor
/- Steps of a build among a law's arguments, opened as one list. -/
namespace Go.Proofs.YtaajofojbhdgaaaGreatDoor
open Go.RowKit Go.Deep Go.ChangeShapes Go.WideShapes
set_option maxRecDepth 100000 in
/-- one step, cell by cell -/
theorem open_Stp1 {H : Type} {enc : TypeId × Value → H} {W : World} {fuel : Nat} {cs : List Value} {y : DataW H × List MemPlace} (hlen : cs.length = 2) (hy : DataW.trod enc Tryz.prog W 0 (fun _ => true) true fuel 32 cs = some y) :
    ∃ x : Stp, cs = encStp x ∧ (x.t.size ≤ maxLen ∧ -9223372036854775808 ≤ x.what ∧ x.what ≤ 9223372036854775807) := by
  obtain ⟨xs, k, hk, hxy, _, hxl, hf⟩ := DataW.trod_struct Tryz.underlying32 hy
  match xs, hxl, cs, hlen with
  | [y0, y1], _, [v0, v1], _ =>
    obtain ⟨s, q0, _, l0⟩ := DataW.trod_string Tryz.underlying9 (hf 0 _ rfl)
    obtain ⟨a, q1, _, hw⟩ := DataW.trod_int Tryz.underlying3 (hf 1 _ rfl)
    have e0 : [v0] = [.string s] := q0
    have e1 : [v1] = [.int .i64 a] := q1
    clear q0 q1
    obtain rfl : v0 = .string s := List.cons.inj e0 |>.1
    obtain rfl : v1 = .int .i64 a := List.cons.inj e1 |>.1
    have hw2 : IntKind.i64.min ≤ a ∧ a ≤ 9223372036854775807 := by simpa [Lit.wf] using hw
    rw [show IntKind.i64.min = -9223372036854775808 by decide] at hw2
    exact ⟨⟨s, a⟩, rfl, l0, hw2⟩
theorem open_STP {H : Type} {enc : TypeId × Value → H} {W : World} {a0 : Option Addr} {len cap : Nat} {d : DataW H} {ps : List MemPlace} (h : DataW.Trod enc Tryz.prog W 0 (fun _ => true) true 27 (.slice a0 len cap) d ps) :
    ∃ L : List Stp, L.length = len ∧ L.length ≤ maxLen ∧ (∀ x ∈ L, x.t.size ≤ maxLen ∧ -9223372036854775808 ≤ x.what ∧ x.what ≤ 9223372036854775807) ∧ RG encStp 2 W a0 L := by
  obtain ⟨L, h1, h2, h3, h4⟩ := open_rows (n := 2) (good := fun w (x : Stp) cs => cs = encStp x ∧ (x.t.size ≤ maxLen ∧ -9223372036854775808 ≤ x.what ∧ x.what ≤ 9223372036854775807)) Tryz.underlying27 (by kernel_rfl) (by omega) (fun fuel cs y hlen hy => open_Stp1 hlen hy) h
  refine ⟨L, h1, h2, fun x hx => by obtain ⟨cs, hg⟩ := h3 x hx; exact hg.2, fun k x hk => ?_⟩
  obtain ⟨g, o, cs, e, hg, _, hc, ⟨rfl, _⟩⟩ := h4 k x hk
  exact ⟨g, o, e, hg, fun j v hj => hc j v hj⟩
end Go.Proofs.YtaajofojbhdgaaaGreatDoor
/- Walks of stem.Match, stem.Fill, find.IsSpecial and find.kind. -/
namespace Go.Proofs.YtaajofojbhdgaaaGreatDoor
open Go.RowKit Go.Deep Go.Maps Ln Pth Vf
attribute [local go_sem] bt_eq

theorem cut_any (p : T) (w : World) (hm : MX w) (hp : p.length ≤ 6600000) : Calls Tryz.prog 171 #[.string (bs p), .string ⟨#[37]⟩] w fun e w' => e = .returned (.tuple #[.string (bs (frontT p)), .string (bs (backT p)), .bool (cutsT p)]) ∧ Below w.heap.size w w' := by
  obtain ⟨m, hm⟩ := hm
  refine (Tryz.strings_Cut (bs p) ⟨#[37]⟩ m w (by rw [bs_size]; omega) hm).mono ?_
  rintro e w' ⟨h, n, rfl⟩
  refine ⟨?_, below_drewN (Below.refl _ _) n⟩
  rw [h, bs_list]
  rfl
theorem hpre_any (s p : T) (w : World) : Calls Tryz.prog 49 #[.string (bs s), .string (bs p)] w fun e w' => e = .returned (.bool (Lib.hasPrefix s p)) ∧ w = w' := by
  refine (Tryz.strings_HasPrefix (bs s) (bs p) w).mono ?_
  rintro e w' ⟨h1, h2⟩
  rw [bs_list, bs_list] at h1
  exact ⟨h1, h2.symm⟩
theorem hsuf_any (s p : T) (w : World) (hs : s.length ≤ 6600000) : Calls Tryz.prog 149 #[.string (bs s), .string (bs p)] w fun e w' => e = .returned (.bool (Lib.hasSuffix s p)) ∧ w = w' := by
  refine (Tryz.strings_HasSuffix (bs s) (bs p) w (by rw [bs_size]; omega)).mono ?_
  rintro e w' ⟨h1, h2⟩
  rw [bs_list, bs_list] at h1
  exact ⟨h1, h2.symm⟩
theorem bs_eqv (a b : T) : ((bs a).toList == (bs b).toList) = decide (a = b) := by
  rw [bs_toList, bs_toList]
  by_cases h : a = b
  · subst h; simp
  · simp [h]
set_option maxRecDepth 100000 in
set_option maxHeartbeats 1000000 in
theorem match_any (p s : T) (w : World) (hm : MX w) (hp : p.length ≤ 6600000) (hs : s.length ≤ 6600000) :
    Calls Tryz.prog 144 #[.string (bs p), .string (bs s)] w fun e w' => e = .returned (.tuple #[.string (bs (matchT p s).1), .bool (matchT p s).2]) ∧ Below w.heap.size w w' := by
  have HC := hide (cut_any p w hm hp)
  have h1 := front_len p
  have h2 := back_len p
  have hR : matchT p s = if cutsT p = false then ([], decide (s = p)) else if s.length ≤ (frontT p).length + (backT p).length then ([], false) else if Lib.hasPrefix s (frontT p) = false then ([], false) else if Lib.hasSuffix s (backT p) = false then ([], false) else ((s.drop (frontT p).length).take (s.length - (backT p).length - (frontT p).length), true) := rfl
  generalize frontT p = fr at *
  generalize backT p = bk at *
  generalize cutsT p = cb at *
  have HPR := hide (fun W => hpre_any s fr W)
  have HSU := hide (fun W => hsuf_any s bk W hs)
  have zs : (bs s).size = s.length := bs_size s
  have zf : (bs fr).size = fr.length := bs_size fr
  have zb : (bs bk).size = bk.length := bs_size bk
  have HEQ := hide (bs_eqv s p)
  have HR := hide hR
  clear hR hm
  have HEX := hide (fun i j => ext_bs s i j)
  obtain ⟨sl, hsl⟩ : ∃ k, s.length = k := ⟨_, rfl⟩
  obtain ⟨fl, hfl⟩ : ∃ k, fr.length = k := ⟨_, rfl⟩
  obtain ⟨bl, hbl⟩ : ∃ k, bk.length = k := ⟨_, rfl⟩
  rw [hsl] at zs hs HR
  rw [hfl] at zf h1 HR
  rw [hbl] at zb h2 HR
  clear hsl hfl hbl
  cases cb with
  | false =>
    have HE := hide (HR.out.trans (if_pos rfl))
    obtain ⟨q, hq⟩ : ∃ q, decide (s = p) = q := ⟨_, rfl⟩
    rw [hq] at HEQ HE
    clear hq
    have heq := HEQ.out
    go_enter Tryz.func144, Tryz.ntmps144
    go_wp2_with fail
    refine HC.out.mono ?_
    rintro e w1 ⟨rfl, hb⟩
    have HB := hide hb
    clear hb
    go_wp2
    go_ret2
    rw [HE.out]
    exact ⟨rfl, HB.out⟩
  | true =>
    have hr1 := HR.out.trans (if_neg (by simp))
    by_cases c1 : sl ≤ fl + bl
    · have HE := hide (hr1.trans (if_pos c1))
      have d1 : decide ((sl : Int) ≤ (fl : Int) + (bl : Int)) = true := by simp; omega
      clear hr1
      go_enter Tryz.func144, Tryz.ntmps144
      go_wp2_with fail
      refine HC.out.mono ?_
      rintro e w1 ⟨rfl, hb⟩
      have HB := hide hb
      clear hb
      go_wp2
      go_ret2
      rw [HE.out]
      exact ⟨rfl, HB.out⟩
    have d1 : decide ((sl : Int) ≤ (fl : Int) + (bl : Int)) = false := by simp; omega
    have hr2 := hr1.trans (if_neg c1)
    obtain ⟨b2, hb2⟩ : ∃ b, Lib.hasPrefix s fr = b := ⟨_, rfl⟩
    obtain ⟨b3, hb3⟩ : ∃ b, Lib.hasSuffix s bk = b := ⟨_, rfl⟩
    rw [hb2] at HPR hr2
    rw [hb3] at HSU hr2
    clear hr1 hb2 hb3
    cases b2 with
    | false =>
      have HE := hide (hr2.trans (if_pos rfl))
      clear hr2
      go_enter Tryz.func144, Tryz.ntmps144
      go_wp2_with fail
      refine HC.out.mono ?_
      rintro e w1 ⟨rfl, hb⟩
      have HB := hide hb
      clear hb
      go_wp2_with fail
      refine (HPR.out w1).mono ?_
      rintro e w' ⟨rfl, rfl⟩
      go_wp2
      go_ret2
      rw [HE.out]
      exact ⟨rfl, HB.out⟩
    | true =>
      have hr3 := hr2.trans (if_neg (by simp))
      clear hr2
      cases b3 with
      | false =>
        have HE := hide (hr3.trans (if_pos rfl))
        clear hr3
        go_enter Tryz.func144, Tryz.ntmps144
        go_wp2_with fail
        refine HC.out.mono ?_
        rintro e w1 ⟨rfl, hb⟩
        have HB := hide hb
        clear hb
        go_wp2_with fail
        refine (HPR.out w1).mono ?_
        rintro e w' ⟨rfl, rfl⟩
        go_wp2_with fail
        refine (HSU.out w1).mono ?_
        rintro e w' ⟨rfl, rfl⟩
        go_wp2
        go_ret2
        rw [HE.out]
        exact ⟨rfl, HB.out⟩
      | true =>
        have HE := hide (hr3.trans (if_neg (by simp)))
        have HX := hide (HEX.out fl (sl - bl))
        have b4 : fl ≤ sl - bl := by omega
        have b5 : ((sl - bl : Nat) : Int) = (sl : Int) - (bl : Int) := by omega
        clear hr3
        go_enter Tryz.func144, Tryz.ntmps144
        go_wp2_with fail
        refine HC.out.mono ?_
        rintro e w1 ⟨rfl, hb⟩
        have HB := hide hb
        clear hb
        go_wp2_with fail
        refine (HPR.out w1).mono ?_
        rintro e w' ⟨rfl, rfl⟩
        go_wp2_with fail
        refine (HSU.out w1).mono ?_
        rintro e w' ⟨rfl, rfl⟩
        go_wp2
        go_ret2
        rw [HE.out]
        refine ⟨?_, HB.out⟩
        show Ending.returned (.tuple #[.string ((bs s).extract fl (sl - bl)), .bool true]) = _
        rw [HX.out]
set_option maxRecDepth 100000 in
set_option maxHeartbeats 1000000 in
theorem fill_any (p st : T) (w : World) (hm : MX w) (hp : p.length ≤ 6600000) (hs : st.length ≤ 6600000) :
    Calls Tryz.prog 145 #[.string (bs p), .string (bs st)] w fun e w' => e = .returned (.string (bs (fillT p st))) ∧ Below w.heap.size w w' := by
  have HC := hide (cut_any p w hm hp)
  have h1 := front_len p
  have h2 := back_len p
  have hR : fillT p st = if cutsT p = false then p else frontT p ++ st ++ backT p := rfl
  generalize frontT p = fr at *
  generalize backT p = bk at *
  generalize cutsT p = cb at *
  have HAP := hide (show bs fr ++ bs st ++ bs bk = bs (fr ++ st ++ bk) by rw [bs_app, bs_app])
  have zf : (bs fr).size = fr.length := bs_size fr
  have zb : (bs bk).size = bk.length := bs_size bk
  have zs : (bs st).size = st.length := bs_size st
  have HR := hide hR
  clear hR hm
  cases cb with
  | false =>
    have HE := hide (HR.out.trans (if_pos rfl))
    go_enter Tryz.func145, Tryz.ntmps145
    go_wp2_with fail
    refine HC.out.mono ?_
    rintro e w1 ⟨rfl, hb⟩
    have HB := hide hb
    clear hb
    go_wp2
    go_ret
    rw [HE.out]
    exact ⟨rfl, HB.out⟩
  | true =>
    have HE := hide (HR.out.trans (if_neg (by simp)))
    go_enter Tryz.func145, Tryz.ntmps145
    go_wp2_with fail
    refine HC.out.mono ?_
    rintro e w1 ⟨rfl, hb⟩
    have HB := hide hb
    clear hb
    go_wp2
    go_ret
    rw [HE.out, ← HAP.out]
    exact ⟨rfl, HB.out⟩
theorem trim_az (s : T) (w : World) (hs : s.length ≤ 6600000) : Calls Tryz.prog 103 #[.string (bs s), .string (bs azT)] w fun e w' => e = .returned (.string (bs (Lib.trimS s azT))) ∧ Below w.heap.size w w' := by
  refine (Tryz.strings_Trim_laid (bs s) (bs azT) w (by rw [bs_size]; omega) (by rw [bs_size]; decide) (by rw [bs_list]; exact ascii_of_all (by decide))).mono ?_
  rintro e w' ⟨h1, h2⟩
  rw [bs_list, bs_list] at h1
  exact ⟨h1, h2⟩
set_option maxRecDepth 100000 in
set_option maxHeartbeats 1000000 in
theorem isSpecial_any (s : T) (w : World) (hs : s.length ≤ 6600000) : Calls Tryz.prog 63 #[.string (bs s)] w fun e w' => e = .returned (.bool (specT s)) ∧ Below w.heap.size w w' := by
  have HT := hide (fun W => trim_az (s.drop 1) W (by rw [List.length_drop]; omega))
  have HEX := hide (ext_bs s 1 s.length)
  have hR : specT s = (decide (1 < s.length) && (decide (s.getD 0 0 = 46) && decide (Lib.trimS (s.drop 1) azT = []))) := rfl
  have zs : (bs s).size = s.length := bs_size s
  have HAZ := hide (show bs azT = ⟨#[65, 66, 67, 68, 69, 70, 71, 72, 73, 74, 75, 76, 77, 78, 79, 80, 81, 82, 83, 84, 85, 86, 87, 88, 89, 90, 95]⟩ by rfl)
  rw [HAZ.out] at HT
  obtain ⟨tr, htr⟩ : ∃ t, Lib.trimS (s.drop 1) azT = t := ⟨_, rfl⟩
  rw [htr] at HT hR
  clear htr
  have HR := hide hR
  clear hR
  by_cases c1 : 1 < s.length
  case neg =>
    have HE := hide (show specT s = false by rw [HR.out, decide_eq_false c1]; rfl)
    have d1 : decide ((1 : Int) < (s.length : Int)) = false := by simp; omega
    go_enter Tryz.func63, Tryz.ntmps63
    go_wp2
    go_ret
    rw [HE.out]
    exact ⟨rfl, Below.refl _ _⟩
  have d1 : decide ((1 : Int) < (s.length : Int)) = true := by simp; omega
  obtain ⟨x, hx⟩ : ∃ x, s.getD 0 0 = x := ⟨_, rfl⟩
  have hbt : bt (bs s) 0 = x.toNat := by
    rw [← hx]
    unfold bt bs
    simp
  rw [hx] at HR
  clear hx
  by_cases c2 : x = 46
  case neg =>
    have HE := hide (show specT s = false by rw [HR.out, decide_eq_false c2, Bool.false_and, Bool.and_false])
    have d2 : ((x.toNat : Int) == 46) = false := by
      simp only [beq_eq_false_iff_ne]
      intro h
      exact c2 (UInt8.toNat_inj.1 (by have : (46 : UInt8).toNat = 46 := rfl; omega))
    clear c2
    go_enter Tryz.func63, Tryz.ntmps63
    go_wp2
    go_ret
    rw [HE.out]
    exact ⟨rfl, Below.refl _ _⟩
  subst c2
  have d2 : (((46 : UInt8).toNat : Int) == 46) = true := rfl
  have he : (bs tr).toList.isEmpty = decide (tr = []) := by
    rw [bs_toList]
    cases tr <;> simp
  obtain ⟨q, hq⟩ : ∃ q, decide (tr = []) = q := ⟨_, rfl⟩
  have HE := hide (show specT s = q by rw [HR.out, decide_eq_true c1, hq]; rfl)
  rw [hq] at he
  have hex := HEX.out
  rw [List.take_of_length_le (by rw [List.length_drop]; omega)] at hex
  have HX2 := hide hex
  rw [← hex] at HT
  clear hq hex HEX
  go_enter Tryz.func63, Tryz.ntmps63
  go_wp2_with fail
  refine (HT.out w).mono ?_
  rintro e w1 ⟨rfl, hb⟩
  have HB := hide hb
  clear hb
  go_wp2
  go_ret
  rw [HE.out]
  exact ⟨rfl, HB.out⟩
set_option maxRecDepth 100000 in
set_option maxHeartbeats 1000000 in
theorem kindp_any (g : Nat) (S : St) (cwd s : T) (w : World) (h : Hs (VS g S) w) (hm : MX w) (h1 : cwd.length ≤ 100000) (h2 : s.length ≤ 6600000) :
    Calls Tryz.prog 150 #[.pointer (some ⟨g, 0, none⟩), .string (bs cwd), .string (bs s)] w fun e w' => e = .returned (.int .i64 (kindT S cwd s)) ∧ Below w.heap.size w w' := by
  have HA := hide (abs_any cwd s w hm (by omega) (by omega))
  have hl : (absF cwd s).1.length ≤ 200 := by
    rcases absF_cases cwd s with ⟨l, g, e, _⟩ | ⟨e, _⟩
    · rw [e]; exact g.len
    · rw [e]; simp
  have hR : kindT S cwd s = if (absF cwd s).2 ≠ 0 then 0 else kindS S (absF cwd s).1 := rfl
  have HK := hide (fun W (hb : Below w.heap.size w W) => vkind_any g S (absF cwd s).1 W (h.below (VS.fr g S) hb) (hm.below hb) (by omega))
  unfold AbsPost at HA
  obtain ⟨q, hq⟩ : ∃ q, (absF cwd s).1 = q := ⟨_, rfl⟩
  obtain ⟨e, he⟩ : ∃ q, (absF cwd s).2 = q := ⟨_, rfl⟩
  rw [hq] at HA HK hR
  rw [he] at HA hR
  have HR := hide hR
  clear hR hq he hl h hm
  by_cases c1 : e = 0
  case neg =>
    obtain ⟨t1, t2⟩ := ne0 c1
    have HE := hide (HR.out.trans (if_pos c1))
    clear c1
    go_enter Tryz.func150, Tryz.ntmps150
    go_wp2_with fail
    refine HA.out.mono ?_
    rintro e w1 ⟨rfl, hb⟩
    have HB := hide hb
    clear hb
    go_wp2
    go_ret
    rw [HE.out]
    exact ⟨rfl, HB.out⟩
  subst c1
  have HE := hide (HR.out.trans (if_neg (by simp)))
  go_enter Tryz.func150, Tryz.ntmps150
  go_wp2_with fail
  refine HA.out.mono ?_
  rintro e w1 ⟨rfl, hb⟩
  have HB := hide hb
  clear hb
  go_wp2_with fail
  refine (HK.out w1 HB.out).mono ?_
  rintro e w2 ⟨rfl, hb⟩
  have HB2 := hide (below_up HB.out hb HB.out.size)
  clear hb
  go_wp2
  go_ret
  rw [HE.out]
  exact ⟨rfl, HB2.out⟩
end Go.Proofs.YtaajofojbhdgaaaGreatDoor
/- Maps from texts to true: sets of texts. -/
namespace Go.Proofs.YtaajofojbhdgaaaGreatDoor
open Go.RowKit Go.Deep Go.Maps

def hB (v : Value) : Option (DataW Value × List MemPlace) := some (.held v, [])
def fB (b : Bool) : DataW Value := .held (.bool b)
def valB : Option Bool → Value
  | none => .bool false
  | some b => .bool b
def MapB (w : World) (b : Nat) (P : KV Bool) : Prop := w.ownsMap Tryz.prog 9 hB b P.length (datG fB P)
theorem bkeyed : Keyed Tryz.prog 9 := string_keyed Tryz.underlying9
theorem bzero (w : World) : (zeroValue 4).run Tryz.prog w = .ok (.bool false) w := by kernel_rfl
theorem bkey {s : ByteArray} (h : s.size ≤ 9223372036854775807) : keyOf Tryz.prog 9 (.string s) = some (kLit s) := Go.WideMaps.keyOf_string_mk Tryz.underlying9 (by unfold maxLen; omega)
theorem own_tightB {w : World} {b n : Nat} {P : KV Bool} (h : w.ownsMap Tryz.prog 9 hB b n (datG fB P)) : MapB w b P := by
  obtain ⟨es, clock, h1, h2, h3, h4⟩ := h
  refine ⟨es, clock, h1, h2, ?_, h4⟩
  have := congrArg Maps.size h4
  rw [datG_size] at this
  rw [this]
  simp [Maps.size, length_sorted]
theorem MapB.of {w w' : World} {b : Nat} {P : KV Bool} (h : MapB w b P) (hb : w'.heap[b]? = w.heap[b]?) : MapB w' b P := by
  obtain ⟨es, clock, h1, h2⟩ := h
  exact ⟨es, clock, hb.trans h1, h2⟩
theorem MapB.lt {w : World} {b : Nat} {P : KV Bool} (h : MapB w b P) : b < w.heap.size := by
  obtain ⟨es, clock, h1, h2⟩ := h
  exact (Array.getElem?_eq_some_iff.1 h1).1
theorem bat_val {P : KV Bool} {s : ByteArray} {v : Value} {ps : List MemPlace} (h : hB v = some ((datG fB P).atKey (kLit s) (.held (.bool false)), ps)) : v = valB (getG P s) := by
  unfold hB at h
  rw [datG_at] at h
  cases hg : getG P s with
  | none => rw [hg] at h; injection h with h; injection h with h1 h2; injection h1
  | some e => rw [hg] at h; injection h with h; injection h with h1 h2; unfold fB at h1; injection h1
theorem blook1 {w : World} {b : Nat} {P : KV Bool} (h : MapB w b P) {s : ByteArray} (hs : s.size ≤ 9223372036854775807) :
    (Instr.lookup 71 (.map (some b)) (.string s) false).run Tryz.prog w = .ok (valB (getG P s)) w := by
  obtain ⟨v, ps, hrun, hv⟩ := h.lookup bkeyed Tryz.underlying71 (bzero w) (zd := .held (.bool false)) (zp := []) rfl (bkey hs)
  rw [hrun, bat_val hv]
theorem blen {w : World} {b : Nat} {P : KV Bool} (h : MapB w b P) (ty : TypeId) : (Builtin.len_ #[71] ty #[.map (some b)]).run Tryz.prog w = .ok (.int .i64 P.length) w := by
  rw [h.len Tryz.underlying71 ty, datG_size]
theorem turnedB {w w' : World} {b : Nat} (h : w.mapTurned w' b) : Kp w w' (fun k => k = b) :=
  ⟨h.grown.os, h.grown.tape, h.grown.output, h.grown.size, fun k hk hne => h.grown.block k hk (by intro e; injection e with e; exact hne e)⟩
theorem bstore {w : World} {b : Nat} {P : KV Bool} (h : MapB w b P) (hr : RiseG P) (hl : P.length ≤ 1000000) {s : ByteArray} (hs : s.size ≤ 9223372036854775807) (e : Bool) :
    ∃ w', (Instr.mapUpdate 71 (.map (some b)) (.string s) (.bool e)).run Tryz.prog w = .ok () w' ∧ MapB w' b (putG (s, e) P) ∧ Kp w w' (fun k => k = b) ∧ w'.heap.size = w.heap.size := by
  obtain ⟨w', h1, h2, h3⟩ := h.store bkeyed Tryz.underlying71 (by unfold maxLen; omega) (bkey hs) (val := .bool e) (d := fB e) (ps := []) rfl
  rw [datG_put fB hr] at h2
  refine ⟨w', h1, own_tightB h2, turnedB h3, ?_⟩
  obtain ⟨es, clock, es', clock', hb, rfl⟩ := h3
  simp [ChangeMaps.setBlock]
/-- the map of block b says true of the texts l, and of no others -/
def MSet (w : World) (b : Nat) (l : List ByteArray) : Prop := ∃ P : KV Bool, MapB w b P ∧ RiseG P ∧ P.length ≤ l.length ∧ ∀ s, getG P s = if Lib.containsS l s = true then some true else none
theorem MSet.of {w w' : World} {b : Nat} {l : List ByteArray} (h : MSet w b l) (hb : w'.heap[b]? = w.heap[b]?) : MSet w' b l := by
  obtain ⟨P, h1, h2⟩ := h
  exact ⟨P, h1.of hb, h2⟩
theorem MSet.lt {w : World} {b : Nat} {l : List ByteArray} (h : MSet w b l) : b < w.heap.size := by
  obtain ⟨P, h1, h2⟩ := h
  exact h1.lt
theorem MSet.look {w : World} {b : Nat} {l : List ByteArray} (h : MSet w b l) {s : ByteArray} (hs : s.size ≤ 9223372036854775807) :
    (Instr.lookup 71 (.map (some b)) (.string s) false).run Tryz.prog w = .ok (.bool (Lib.containsS l s)) w := by
  obtain ⟨P, h1, h2, h3, h4⟩ := h
  rw [blook1 h1 hs, h4]
  cases Lib.containsS l s <;> rfl
theorem MSet.made (w : World) : MSet (w.alloc (.map #[] 0)) w.heap.size [] :=
  ⟨[], own_tightB (P := []) (World.ownsMap_made w Tryz.prog 9 hB), RiseG.nil, Nat.le_refl _, fun s => by rw [show Lib.containsS [] s = false by rw [← Bool.not_eq_true, Lib.containsS_iff]; simp]; rfl⟩
theorem MSet.add {w : World} {b : Nat} {l : List ByteArray} (h : MSet w b l) (hl : l.length ≤ 1000000) {s : ByteArray} (hs : s.size ≤ 9223372036854775807) :
    ∃ w', (Instr.mapUpdate 71 (.map (some b)) (.string s) (.bool true)).run Tryz.prog w = .ok () w' ∧ MSet w' b (l ++ [s]) ∧ Kp w w' (fun k => k = b) ∧ w'.heap.size = w.heap.size := by
  obtain ⟨P, h1, h2, h3, h4⟩ := h
  obtain ⟨w', r1, r2, r3, r4⟩ := bstore h1 h2 (by omega) hs true
  refine ⟨w', r1, ⟨_, r2, RiseG.put _ h2, ?_, fun x => ?_⟩, r3, r4⟩
  · rw [putG_len _ h2, List.length_append, List.length_singleton]
    split <;> omega
  · rw [getG_put, h4]
    by_cases e : s = x
    · subst e
      rw [if_pos rfl, if_pos ((Lib.containsS_iff _ _).2 (by simp))]
    · rw [if_neg e]
      have : Lib.containsS (l ++ [s]) x = Lib.containsS l x := by
        rw [Bool.eq_iff_iff, Lib.containsS_iff, Lib.containsS_iff, List.mem_append, List.mem_singleton]
        constructor
        · rintro (h | h)
          · exact h
          · exact absurd h.symm e
        · exact .inl
      rw [this]
theorem nodup_len {α : Type} : ∀ {l m : List α}, l.Nodup → (∀ x ∈ l, x ∈ m) → l.length ≤ m.length
  | [], _, _, _ => Nat.zero_le _
  | x :: l, m, hn, h => by
    classical
    have h1 := List.nodup_cons.1 hn
    have hx := h x (by simp)
    have ih := nodup_len (m := m.erase x) h1.2 (fun y hy => (List.mem_erase_of_ne (fun (e : y = x) => h1.1 (e ▸ hy))).2 (h y (by simp [hy])))
    rw [List.length_erase_of_mem hx] at ih
    have := List.length_pos_of_mem hx
    simp only [List.length_cons]
    omega
/-- how many it has -/
theorem MSet.len {w : World} {b : Nat} {l : List ByteArray} (h : MSet w b l) (hn : l.Nodup) (ty : TypeId) : (Builtin.len_ #[71] ty #[.map (some b)]).run Tryz.prog w = .ok (.int .i64 l.length) w := by
  obtain ⟨P, h1, h2, h3, h4⟩ := h
  rw [blen h1]
  have : l.length ≤ P.length := by
    have hsub : ∀ x ∈ l, x ∈ P.map (·.1) := fun x hx => by
      have := h4 x
      rw [if_pos ((Lib.containsS_iff _ _).2 hx)] at this
      exact List.mem_map.2 ⟨_, getG_mem this, rfl⟩
    have := nodup_len hn hsub
    simpa using this
  rw [show P.length = l.length by omega]
end Go.Proofs.YtaajofojbhdgaaaGreatDoor
/- Walks of find's set and Two. -/
namespace Go.Proofs.YtaajofojbhdgaaaGreatDoor
open Go.RowKit Go.Deep Go.Maps Ln Pth Vf
theorem mkMapB (w : World) : (Instr.makeMap 71 none).run Tryz.prog w = .ok (.map (some w.heap.size)) (w.alloc (.map #[] 0)) := by kernel_rfl
attribute [local go_sem] bt_eq mkMapB

set_option maxRecDepth 100000 in
set_option maxHeartbeats 1000000 in
theorem set_any (A : Option Addr) (c : Nat) (L : List ByteArray) (w : World) (hA : SR w A L) (hl : L.length ≤ 100000) (hs : ∀ s ∈ L, s.size ≤ 100000) :
    Calls Tryz.prog 106 #[.slice A L.length c] w fun e w' => ∃ b, e = .returned (.map (some b)) ∧ w.heap.size ≤ b ∧ MSet w' b L ∧ Below w.heap.size w w' := by
  have HA := hide hA
  have HS := hide hs
  obtain ⟨n, hn⟩ : ∃ n, L.length = n := ⟨_, rfl⟩
  have HN := hide hn
  rw [hn] at hl ⊢
  clear hA hs hn
  have hn1 : (n : Int) ≤ 100000 := by omega
  go_enter Tryz.func106, Tryz.ntmps106
  go_wp2
  have hbm := (Below.refl w.heap.size w).alloc (Nat.le_refl _) (.map #[] 0)
  have HM0 := hide (MSet.made w)
  have HB0 := hide hbm
  have hsz0 : (w.alloc (.map #[] 0)).heap.size = w.heap.size + 1 := by simp
  obtain ⟨b, hb⟩ : ∃ b, w.heap.size = b := ⟨_, rfl⟩
  have HBB := hide hb
  rw [hb] at HM0 hsz0 ⊢
  generalize w.alloc (.map #[] 0) = W at HM0 HB0 hsz0 ⊢
  clear hbm hb
  go_loopw [5, 9] (fun _ v9 wr => ∃ k : Nat, v9 = .int .i64 k ∧ k ≤ n ∧ MSet wr b (L.take k) ∧ Kp W wr (fun k => k = b) ∧ wr.heap.size = b + 1) (fun _ v9 _ => n - (intOf v9).toNat)
  case atStart => exact ⟨0, rfl, by omega, HM0.out, Kp.refl _ _, hsz0⟩
  case round =>
    obtain ⟨k, rfl, hk, hm, hkp, hsz⟩ := hrel
    have HMS := hide hm
    have HKP := hide hkp
    have HBW := hide (hkp.below HB0.out (Nat.le_refl _) (fun k e => by have := HBB.out; omega))
    have HAR := hide (HA.out.below HBW.out)
    clear hm hkp
    by_cases hlt : k < n
    · obtain ⟨x, hx⟩ : ∃ x, L[k]? = some x := ⟨L[k]'(by have := HN.out; omega), List.getElem?_eq_getElem _⟩
      obtain ⟨gs, o, rfl, hg, hc⟩ := HAR.out k x hx
      have hxs := HS.out x (List.mem_of_getElem? hx)
      obtain ⟨w2, hrun, hm2, hk2, hs2⟩ := HMS.out.add (s := x) (by rw [List.length_take]; omega) (by omega)
      have HM2 := hide (show MSet w2 b (L.take (k + 1)) by rw [List.take_add_one, hx]; exact hm2)
      have HK2 := hide (HKP.out.trans (hk2.mono fun k e => .inl e))
      have b1 : (k : Int) < (n : Int) := by omega
      clear hx hm2 hk2 hxs
      go_wp2
      go_roundw
      case rel => exact ⟨k + 1, by go_num, by omega, HM2.out, HK2.out, by omega⟩
      case measure => simp [intOf]; omega
    · obtain rfl : k = n := by omega
      have HE := hide (show L.take k = L from List.take_of_length_le (by have := HN.out; omega))
      rw [HE.out] at HMS
      go_wp2
      go_ret
      exact ⟨b, rfl, by have := HBB.out; omega, HMS.out, HBW.out⟩
theorem two_step {all : List ByteArray} {t : T} : ∀ (L : List ByteArray) (k : Nat) (a : ByteArray), L[k]? = some a → twoGo all t (L.drop k) = if (Lib.hasPrefix t a.data.toList && Lib.containsS all (bs (t.drop a.size))) = true then (a.data.toList, t.drop a.size, true) else twoGo all t (L.drop (k + 1)) := by
  intro L k a h
  have hk := List.getElem?_eq_some_iff.1 h
  obtain ⟨h1, h2⟩ := hk
  rw [List.drop_eq_getElem_cons h1, h2, twoGo]
theorem cutp_any (t : T) (a : ByteArray) (w : World) : Calls Tryz.prog 173 #[.string (bs t), .string a] w fun e w' => e = .returned (.tuple #[.string (bs (Lib.trimPrefix t a.data.toList)), .bool (Lib.hasPrefix t a.data.toList)]) ∧ w = w' := by
  refine (Tryz.strings_CutPrefix (bs t) a w).mono ?_
  rintro e w' ⟨h1, h2⟩
  rw [bs_list] at h1
  exact ⟨h1, h2.symm⟩
/-- what Two tells -/
def TwoPost (r : T × T × Bool) (w : World) (e : Ending) (w' : World) : Prop := e = .returned (.tuple #[.string (bs r.1), .string (bs r.2.1), .bool r.2.2]) ∧ Below w.heap.size w w'
set_option maxRecDepth 100000 in
set_option maxHeartbeats 1000000 in
theorem two_any (t : T) (A : Option Addr) (c : Nat) (L : List ByteArray) (w : World) (hA : SR w A L) (hl : L.length ≤ 100000) (hs : ∀ s ∈ L, s.size ≤ 100000) (ht : t.length ≤ 100000) :
    Calls Tryz.prog 148 #[.string (bs t), .slice A L.length c] w (TwoPost (twoF t L) w) := by
  have HSE := hide (set_any A c L w hA hl hs)
  have HA := hide hA
  have HS := hide hs
  have hz : (bs t).size ≤ 9223372036854775807 := by rw [bs_size]; omega
  obtain ⟨n, hn⟩ : ∃ n, L.length = n := ⟨_, rfl⟩
  have HN := hide hn
  rw [hn] at hl HSE ⊢
  obtain ⟨R, hR⟩ : ∃ R, twoF t L = R := ⟨_, rfl⟩
  have HR := hide hR
  rw [hR]
  clear hA hs hn hR
  have hn1 : (n : Int) ≤ 100000 := by omega
  go_enter Tryz.func148, Tryz.ntmps148
  go_wp2_with fail
  refine HSE.out.mono ?_
  rintro e w1 ⟨b, rfl, hb, hm, hb1⟩
  have HM := hide hm
  have HB1 := hide hb1
  have HA1 := hide (HA.out.below hb1)
  clear hm hb1
  go_wp2
  go_loopw [9, 16] (fun _ v16 wr => ∃ k : Nat, v16 = .int .i64 k ∧ k ≤ n ∧ w1 = wr ∧ Hid (twoGo L t (L.drop k) = R)) (fun _ v16 _ => n - (intOf v16).toNat)
  case atStart => exact ⟨0, rfl, by omega, rfl, HR.out⟩
  case round =>
    obtain ⟨k, rfl, hk, rfl, HG⟩ := hrel
    by_cases hlt : k < n
    · obtain ⟨x, hx⟩ : ∃ x, L[k]? = some x := ⟨L[k]'(by have := HN.out; omega), List.getElem?_eq_getElem _⟩
      obtain ⟨gs, o, rfl, hg, hc⟩ := HA1.out k x hx
      have hst := two_step (all := L) (t := t) L k x hx
      rw [HG.out] at hst
      have HC := hide (fun W => cutp_any t x W)
      have b1 : (k : Int) < (n : Int) := by omega
      obtain ⟨hp, hhp⟩ : ∃ b, Lib.hasPrefix t x.data.toList = b := ⟨_, rfl⟩
      rw [hhp] at hst HC
      cases hp with
      | false =>
        have HST := hide (show twoGo L t (L.drop (k + 1)) = R from (hst.trans (if_neg (by simp))).symm)
        clear hx hst hhp
        go_wp2_with fail
        refine (HC.out _).mono ?_
        rintro e w' ⟨rfl, rfl⟩
        go_wp2
        go_roundw
        case rel => exact ⟨k + 1, by go_num, by omega, trivial, HST.out⟩
        case measure => simp [intOf]; omega
      | true =>
        have htp : Lib.trimPrefix t x.data.toList = t.drop x.size := by
          unfold Lib.trimPrefix
          rw [if_pos hhp, data_len]
        rw [htp] at HC
        have hlk := HM.out.look (s := bs (t.drop x.size)) (by rw [bs_size, List.length_drop]; omega)
        obtain ⟨cb, hcb⟩ : ∃ b, Lib.containsS L (bs (t.drop x.size)) = b := ⟨_, rfl⟩
        rw [hcb] at hlk hst
        obtain ⟨y, hy⟩ : ∃ y, t.drop x.size = y := ⟨_, rfl⟩
        rw [hy] at HC hlk hst
        have HXX := hide (bs_of x)
        clear hx hhp htp hcb hy
        cases cb with
        | false =>
          have HST := hide (show twoGo L t (L.drop (k + 1)) = R from (hst.trans (if_neg (by simp))).symm)
          clear hst
          go_wp2_with fail
          refine (HC.out _).mono ?_
          rintro e w' ⟨rfl, rfl⟩
          go_wp2
          go_roundw
          case rel => exact ⟨k + 1, by go_num, by omega, trivial, HST.out⟩
          case measure => simp [intOf]; omega
        | true =>
          have HST := hide (show R = (x.data.toList, y, true) from hst.trans (if_pos rfl))
          clear hst
          go_wp2_with fail
          refine (HC.out _).mono ?_
          rintro e w' ⟨rfl, rfl⟩
          go_wp2
          go_ret3
          unfold TwoPost
          rw [HST.out, HXX.out]
          exact ⟨rfl, HB1.out⟩
    · obtain rfl : k = n := by omega
      have HST := hide (show R = (t, [], Lib.containsS L (bs t)) by
        have := HG.out
        rw [List.drop_of_length_le (by have := HN.out; omega), twoGo] at this
        exact this.symm)
      have hlk := HM.out.look (s := bs t) hz
      have hlk2 := (show MSet w1.drew b L from HM.out.of rfl).look (s := bs t) hz
      obtain ⟨cb, hcb⟩ : ∃ b, Lib.containsS L (bs t) = b := ⟨_, rfl⟩
      rw [hcb] at hlk hlk2 HST
      clear hcb
      go_wp2
      go_region
      go_wp2
      go_ret3
      unfold TwoPost
      rw [HST.out]
      exact ⟨rfl, HB1.out.drew⟩
end Go.Proofs.YtaajofojbhdgaaaGreatDoor
/- Walks of trace.Once and Made, and of the reference's Once and Made. -/
namespace Go.Proofs.YtaajofojbhdgaaaGreatDoor
open Go.RowKit Go.Deep Go.Maps Ln Pth Vf
set_option linter.unusedSimpArgs false
set_option linter.unusedVariables false
attribute [local go_sem] bt_eq mkMapB

/-- steps in memory -/
def STP (w : World) (A : Option Addr) (L : List Stp) : Prop := RG encStp 2 w A L
theorem STP.below {w w' : World} {A : Option Addr} {L : List Stp} (h : STP w A L) (hb : Below w.heap.size w w') : STP w' A L := RG.below h hb
theorem STP.at {w : World} {A : Option Addr} {L : List Stp} (h : STP w A L) {k : Nat} {x : Stp} (hx : L[k]? = some x) : ∃ g o, A = some ⟨g, o, none⟩ ∧ g < w.heap.size ∧ w.cell? ⟨g, o + k * 2, none⟩ = some (.string x.t) ∧ w.cell? ⟨g, o + k * 2 + 1, none⟩ = some (.int .i64 x.what) := by
  obtain ⟨g, o, e, hg, hc⟩ := h k x hx
  exact ⟨g, o, e, hg, by have := hc 0 _ rfl; simpa using this, hc 1 _ rfl⟩
theorem tk_t {L : List Stp} {k : Nat} {x : Stp} (h : L[k]? = some x) : (L.map Stp.t)[k]? = some x.t := by rw [List.getElem?_map, h]; rfl
set_option maxRecDepth 100000 in
set_option maxHeartbeats 2000000 in
theorem once_any (A : Option Addr) (c : Nat) (L : List Stp) (w : World) (hA : STP w A L) (hl : L.length ≤ 100000) (hs : ∀ s ∈ L, s.t.size ≤ 1000000) :
    Calls Tryz.prog 11 #[.slice A L.length c] w fun e w' => e = .returned (.bool (onceF L)) ∧ Below w.heap.size w w' := by
  have HA := hide hA
  have HS := hide hs
  obtain ⟨n, hn⟩ : ∃ n, L.length = n := ⟨_, rfl⟩
  have HN := hide hn
  obtain ⟨R, hR⟩ : ∃ R, onceF L = R := ⟨_, rfl⟩
  have HR := hide (show ncF ((L.map Stp.t).take 0) ((L.map Stp.t).drop 0) = R by rw [← hR]; rfl)
  rw [hn] at hl ⊢
  rw [hR]
  clear hA hs hn hR
  have hn1 : (n : Int) ≤ 100000 := by omega
  go_enter Tryz.func11, Tryz.ntmps11
  go_wp2
  have hbm := (Below.refl w.heap.size w).alloc (Nat.le_refl _) (.map #[] 0)
  have HM0 := hide (MSet.made w)
  have HB0 := hide hbm
  obtain ⟨b, hb⟩ : ∃ b, w.heap.size = b := ⟨_, rfl⟩
  have HBB := hide hb
  rw [hb] at HM0 ⊢
  generalize w.alloc (.map #[] 0) = W at HM0 HB0 ⊢
  clear hbm hb
  go_loopw [5, 9] (fun _ v9 wr => ∃ k : Nat, v9 = .int .i64 k ∧ k ≤ n ∧ Hid (ncF ((L.map Stp.t).take k) ((L.map Stp.t).drop k) = R) ∧ MSet wr b ((L.map Stp.t).take k) ∧ Below w.heap.size w wr) (fun _ v9 _ => n - (intOf v9).toNat)
  case atStart => exact ⟨0, rfl, by omega, HR, HM0.out, HB0.out⟩
  case round =>
    obtain ⟨k, rfl, hk, HNC, hm, hbw⟩ := hrel
    have HMS := hide hm
    have HBW := hide hbw
    have HAR := hide (HA.out.below hbw)
    clear hm hbw
    by_cases hlt : k < n
    · obtain ⟨x, hx⟩ : ∃ x, L[k]? = some x := ⟨L[k]'(by have := HN.out; omega), List.getElem?_eq_getElem _⟩
      obtain ⟨g, o, rfl, hg, c0, c1⟩ := HAR.out.at hx
      have hxs := HS.out x (List.mem_of_getElem? hx)
      have hnc := nc_at (tk_t hx)
      rw [HNC.out] at hnc
      have htk : (L.map Stp.t).take (k + 1) = (L.map Stp.t).take k ++ [x.t] := by rw [List.take_add_one, tk_t hx]; rfl
      have hba := (Below.refl wr.heap.size wr).alloc (Nat.le_refl _) (.cells #[.string x.t, .int .i64 x.what] 32)
      have HMA := hide (HMS.out.of (hba.block b HMS.out.lt))
      have HBA := hide (HBW.out.alloc HBW.out.size (.cells #[.string x.t, .int .i64 x.what] 32))
      have hlk := HMA.out.look (s := x.t) (by omega)
      obtain ⟨w2, hrun, hm2, hk2, hs2⟩ := HMA.out.add (s := x.t) (by rw [List.length_take]; omega) (by omega)
      have b1 : (k : Int) < (n : Int) := by omega
      have hcf := cellOf (heapNew wr (.cells #[.string x.t, .int .i64 x.what] 32)) (j := 0) rfl
      obtain ⟨q, hq⟩ : ∃ q, Lib.containsS ((L.map Stp.t).take k) x.t = q := ⟨_, rfl⟩
      rw [hq] at hlk hnc
      have HNC2 := hide hnc
      have HM2 := hide (show MSet w2 b ((L.map Stp.t).take (k + 1)) by rw [htk]; exact hm2)
      have HB2 := hide (hk2.below HBA.out (Nat.le_refl _) (fun k e => by have := HBB.out; omega))
      clear hx hm2 hk2 hnc hba htk hq hxs
      cases q with
      | true =>
        have HE := hide (show R = false by rw [HNC2.out]; rfl)
        go_wp2
        go_ret
        rw [HE.out]
        exact ⟨rfl, HBA.out⟩
      | false =>
        have HE := hide (show ncF ((L.map Stp.t).take (k + 1)) ((L.map Stp.t).drop (k + 1)) = R by rw [HNC2.out]; rfl)
        go_wp2
        go_roundw
        case rel => exact ⟨k + 1, by go_num, by omega, HE, HM2.out, HB2.out⟩
        case measure => simp [intOf]; omega
    · obtain rfl : k = n := by omega
      have HE := hide (show R = true by rw [← HNC.out, nc_end (by rw [List.length_map]; have := HN.out; omega)])
      go_wp2
      go_ret
      rw [HE.out]
      exact ⟨rfl, HBW.out⟩
set_option maxRecDepth 100000 in
set_option maxHeartbeats 2000000 in
theorem made_any (A : Option Addr) (c : Nat) (L : List Stp) (w : World) (hA : STP w A L) (hl : L.length ≤ 100000) :
    Calls Tryz.prog 14 #[.slice A L.length c] w fun e w' => (∃ v, e = .returned v ∧ OwnS w' w.heap.size v (madeF L)) ∧ Below w.heap.size w w' := by
  have HA := hide hA
  obtain ⟨n, hn⟩ : ∃ n, L.length = n := ⟨_, rfl⟩
  have HN := hide hn
  rw [hn] at hl ⊢
  clear hA hn
  have hn1 : (n : Int) ≤ 100000 := by omega
  go_enter Tryz.func14, Tryz.ntmps14
  go_wp2
  go_loopw [3, 5, 8] (fun v3 _ v8 wr => ∃ k : Nat, v8 = .int .i64 k ∧ k ≤ n ∧ OwnS wr w.heap.size v3 (madeF (L.take k)) ∧ Below w.heap.size w wr) (fun _ _ v8 _ => n - (intOf v8).toNat)
  case atStart => exact ⟨0, rfl, by omega, OwnS.nil _ _, Below.refl _ _⟩
  case round =>
    obtain ⟨k, rfl, hk, ho, hbw⟩ := hrel
    have HO := hide ho
    have HBW := hide hbw
    have HAR := hide (HA.out.below hbw)
    clear ho hbw
    by_cases hlt : k < n
    · obtain ⟨x, hx⟩ : ∃ x, L[k]? = some x := ⟨L[k]'(by have := HN.out; omega), List.getElem?_eq_getElem _⟩
      obtain ⟨g, o, rfl, hg, c0, c1⟩ := HAR.out.at hx
      have HTK := hide (made_take hx)
      have hml := made_len (L.take k)
      rw [List.length_take] at hml
      have b1 : (k : Int) < (n : Int) := by omega
      obtain ⟨xt, hxt⟩ : ∃ z, x.t = z := ⟨_, rfl⟩
      obtain ⟨xw, hxw⟩ : ∃ z, x.what = z := ⟨_, rfl⟩
      rw [hxt] at c0 HTK
      rw [hxw] at c1 HTK
      have hnw := heapNew wr (.cells #[.string xt, .int .i64 xw] 32)
      have HB1 := hide (HBW.out.alloc HBW.out.size (.cells #[.string xt, .int .i64 xw] 32))
      have HO1 := hide (OwnS.alloc HO.out (.cells #[.string xt, .int .i64 xw] 32))
      have hbs := HBW.out.size
      clear hx hxt hxw
      by_cases h2 : xw = 2
      · have t1 : (xw == 2) = true := by simpa using h2
        have HE := hide (show madeF (L.take (k + 1)) = madeF (L.take k) ++ [xt] by rw [HTK.out, if_pos h2])
        obtain ⟨v4, w5, r4, o4, g4, b4⟩ := run_appS (c := 1) (OwnS.alloc HO1.out (.cells #[.string xt] 9)) (sr_new (wr.alloc (.cells #[.string xt, .int .i64 xw] 32)) xt) (by simp; omega) (by simp; omega)
        simp only [World.size_alloc] at r4
        have HO4 := hide o4
        have HB4 := hide ((HB1.out.alloc (by simp; omega) (.cells #[.string xt] 9)).trans ((Below.refl w.heap.size _).grown g4 (by simp; omega) (fun q hq => (World.ownsRow.lt HO.out q hq).1)))
        clear o4 g4 b4 h2 hnw
        go_wp2_with (at_builtin; refine wpList_app_run ?_ (.tmp 15) (.tmp 18) ?_ ?_ ?_ ?_ r4 ?_; exact rfl; exact rfl; exact rfl; exact rfl; exact rfl)
        go_roundw
        case rel => exact ⟨k + 1, by go_num, by omega, by rw [HE.out]; exact HO4.out, HB4.out⟩
        case measure => simp [intOf]; omega
      · have t1 : (xw == 2) = false := by simpa using h2
        have HE := hide (show madeF (L.take (k + 1)) = madeF (L.take k) by rw [HTK.out, if_neg h2, List.append_nil])
        clear h2 hnw
        go_wp2
        go_roundw
        case rel => exact ⟨k + 1, by go_num, by omega, by rw [HE.out]; exact HO1.out, HB1.out⟩
        case measure => simp [intOf]; omega
    · obtain rfl : k = n := by omega
      have HE := hide (show L.take k = L from List.take_of_length_le (by have := HN.out; omega))
      rw [HE.out] at HO
      go_wp2
      go_ret
      exact ⟨⟨_, rfl, HO.out⟩, HBW.out⟩
set_option maxRecDepth 100000 in
set_option maxHeartbeats 2000000 in
theorem ronce18_any (A : Option Addr) (c : Nat) (L : List Stp) (w : World) (hA : STP w A L) (hl : L.length ≤ 100000) :
    Calls Tryz.prog 12 #[.slice A L.length c] w fun e w' => e = .returned (.bool (onceF L)) ∧ Below w.heap.size w w' := by
  have HA := hide hA
  obtain ⟨n, hn⟩ : ∃ n, L.length = n := ⟨_, rfl⟩
  have HN := hide hn
  obtain ⟨R, hR⟩ : ∃ R, onceF L = R := ⟨_, rfl⟩
  have HR := hide (show ncF ((L.map Stp.t).take 0) ((L.map Stp.t).drop 0) = R by rw [← hR]; rfl)
  rw [hn] at hl ⊢
  rw [hR]
  clear hA hn hR
  have hn1 : (n : Int) ≤ 100000 := by omega
  go_enter Tryz.func12, Tryz.ntmps12
  go_wp2
  go_loopw [3, 4] (fun v3 _ wr => ∃ i : Nat, v3 = .int .i64 i ∧ i ≤ n ∧ Hid (ncF ((L.map Stp.t).take i) ((L.map Stp.t).drop i) = R) ∧ Drew w wr) (fun v3 _ _ => n - (intOf v3).toNat)
  case atStart => exact ⟨0, rfl, by omega, HR, Drew.refl _⟩
  case round =>
    obtain ⟨wo, hwo⟩ : ∃ Z, Z = wr := ⟨_, rfl⟩
    subst hwo
    obtain ⟨i, rfl, hi, HNC, hdr⟩ := hrel
    have HD := hide hdr
    clear hdr
    by_cases hli : i < n
    case neg =>
      obtain rfl : i = n := by omega
      have HE := hide (show R = true by rw [← HNC.out, nc_end (by rw [List.length_map]; have := HN.out; omega)])
      go_wp2
      go_ret
      rw [HE.out]
      exact ⟨rfl, HD.out.below⟩
    obtain ⟨x, hx⟩ : ∃ x, L[i]? = some x := ⟨L[i]'(by have := HN.out; omega), List.getElem?_eq_getElem _⟩
    have hnc := nc_at (tk_t hx)
    rw [HNC.out] at hnc
    have HNC2 := hide hnc
    have HX := hide hx
    have bi : (i : Int) < (n : Int) := by omega
    clear hx hnc
    go_wp2
    go_loopw [4] (fun v4 wr => ∃ k : Nat, v4 = .int .i64 k ∧ k ≤ i ∧ Hid (∀ j y, j < k → L[j]? = some y → y.t ≠ x.t) ∧ Drew w wr) (fun v4 _ => i - (intOf v4).toNat)
    case atStart => exact ⟨0, rfl, by omega, fun j b hj => by omega, HD.out⟩
    case round =>
      obtain ⟨k, rfl, hk, HNO, hdr⟩ := hrel
      have HD2 := hide hdr
      clear hdr
      by_cases hlk : k < i
      · obtain ⟨y, hy⟩ : ∃ y, L[k]? = some y := ⟨L[k]'(by have := HN.out; omega), List.getElem?_eq_getElem _⟩
        obtain ⟨g, o, ea, hg, c0, _⟩ := (HA.out.below HD2.out.below).at HX.out
        obtain ⟨g', o', ea', hg', c0', _⟩ := (HA.out.below HD2.out.below).at hy
        subst ea
        obtain ⟨rfl, rfl, _⟩ : g = g' ∧ o = o' ∧ True := by injection ea' with ea'; injection ea' with e1 e2; exact ⟨e1, e2, trivial⟩
        have bk : (k : Int) < (i : Int) := by omega
        have bkn : (k : Int) < (n : Int) := by omega
        have hkn : k < n := by omega
        have HY := hide hy
        clear hy ea'
        by_cases he : x.t = y.t
        · have heq : (x.t.toList == y.t.toList) = true := by simp [he]
          have HE := hide (show R = false by
            rw [HNC2.out, if_pos]
            rw [Lib.containsS_iff]
            exact List.mem_of_getElem? (i := k) (by rw [List.getElem?_take_of_lt hlk, tk_t HY.out, he]))
          clear he
          go_wp2
          go_quiet (fail)
          go_wp2
          go_ret
          rw [HE.out]
          exact ⟨rfl, (HD2.out.more _).below⟩
        · have heq : (x.t.toList == y.t.toList) = false := txt_ne he
          have HNO2 := hide (show ∀ j z, j < k + 1 → L[j]? = some z → z.t ≠ x.t from fun j z hj hz => by
            by_cases e : j = k
            · subst e
              have h1 := HY.out
              rw [h1] at hz
              injection hz with hz
              rw [← hz]
              exact fun e => he e.symm
            · exact HNO.out j z (by omega) hz)
          clear he
          go_wp2
          go_quiet (fail)
          go_wp2
          go_roundw
          case rel => exact ⟨k + 1, by go_num, by omega, HNO2, HD2.out.more _⟩
          case measure => simp [intOf]; omega
      · obtain rfl : k = i := by omega
        have HE := hide (show ncF ((L.map Stp.t).take (k + 1)) ((L.map Stp.t).drop (k + 1)) = R by
          rw [HNC2.out, if_neg]
          rw [Lib.containsS_iff]
          intro hm
          obtain ⟨j, hj⟩ := List.getElem?_of_mem hm
          have hjk : j < k := by
            have := (List.getElem?_eq_some_iff.1 hj).1
            rw [List.length_take] at this
            omega
          rw [List.getElem?_take_of_lt hjk, List.getElem?_map] at hj
          obtain ⟨z, hz, e⟩ := Option.map_eq_some_iff.1 hj
          exact HNO.out j z hjk hz e)
        go_wp2
        go_roundw
        case rel => exact ⟨k + 1, by go_num, by omega, HE, HD2.out⟩
        case measure => simp [intOf]; omega
set_option maxRecDepth 100000 in
set_option maxHeartbeats 2000000 in
theorem rmade18_any (A : Option Addr) (c : Nat) (L : List Stp) (w : World) (hA : STP w A L) (hl : L.length ≤ 100000) :
    Calls Tryz.prog 15 #[.slice A L.length c] w fun e w' => (∃ v, e = .returned v ∧ OwnS w' w.heap.size v (madeF L)) ∧ Below w.heap.size w w' := by
  have HA := hide hA
  obtain ⟨n, hn⟩ : ∃ n, L.length = n := ⟨_, rfl⟩
  have HN := hide hn
  rw [hn] at hl ⊢
  clear hA hn
  have hn1 : (n : Int) ≤ 100000 := by omega
  go_enter Tryz.func15, Tryz.ntmps15
  go_wp2
  go_loopw [3, 4] (fun v3 v4 wr => ∃ k : Nat, v4 = .int .i64 k ∧ k ≤ n ∧ OwnS wr w.heap.size v3 (madeF (L.take k)) ∧ Below w.heap.size w wr) (fun _ v4 _ => n - (intOf v4).toNat)
  case atStart => exact ⟨0, rfl, by omega, OwnS.nil _ _, Below.refl _ _⟩
  case round =>
    obtain ⟨k, rfl, hk, ho, hbw⟩ := hrel
    have HO := hide ho
    have HBW := hide hbw
    have HAR := hide (HA.out.below hbw)
    clear ho hbw
    by_cases hlt : k < n
    · obtain ⟨x, hx⟩ : ∃ x, L[k]? = some x := ⟨L[k]'(by have := HN.out; omega), List.getElem?_eq_getElem _⟩
      obtain ⟨g, o, rfl, hg, c0, c1⟩ := HAR.out.at hx
      have HTK := hide (made_take hx)
      have hml := made_len (L.take k)
      rw [List.length_take] at hml
      have b1 : (k : Int) < (n : Int) := by omega
      obtain ⟨xt, hxt⟩ : ∃ z, x.t = z := ⟨_, rfl⟩
      obtain ⟨xw, hxw⟩ : ∃ z, x.what = z := ⟨_, rfl⟩
      rw [hxt] at c0 HTK
      rw [hxw] at c1 HTK
      have hbs := HBW.out.size
      clear hx hxt hxw
      by_cases h2 : xw = 2
      · have t1 : (xw == 2) = true := by simpa using h2
        have HE := hide (show madeF (L.take (k + 1)) = madeF (L.take k) ++ [xt] by rw [HTK.out, if_pos h2])
        obtain ⟨v4, w5, r4, o4, g4, b4⟩ := run_appS (c := 1) (OwnS.alloc HO.out (.cells #[.string xt] 9)) (sr_new wr xt) (by simp; omega) (by simp; omega)
        have HO4 := hide o4
        have HB4 := hide ((HBW.out.alloc (by omega) (.cells #[.string xt] 9)).trans ((Below.refl w.heap.size _).grown g4 (by simp; omega) (fun q hq => (World.ownsRow.lt HO.out q hq).1)))
        clear o4 g4 b4 h2
        go_wp2_with (at_builtin; refine wpList_app_run ?_ (.tmp 17) (.tmp 23) ?_ ?_ ?_ ?_ r4 ?_; exact rfl; exact rfl; exact rfl; exact rfl; exact rfl)
        go_roundw
        case rel => exact ⟨k + 1, by go_num, by omega, by rw [HE.out]; exact HO4.out, HB4.out⟩
        case measure => simp [intOf]; omega
      · have t1 : (xw == 2) = false := by simpa using h2
        have HE := hide (show madeF (L.take (k + 1)) = madeF (L.take k) by rw [HTK.out, if_neg h2, List.append_nil])
        clear h2
        go_wp2
        go_roundw
        case rel => exact ⟨k + 1, by go_num, by omega, by rw [HE.out]; exact HO.out, HBW.out⟩
        case measure => simp [intOf]; omega
    · obtain rfl : k = n := by omega
      have HE := hide (show L.take k = L from List.take_of_length_le (by have := HN.out; omega))
      rw [HE.out] at HO
      go_wp2
      go_ret
      exact ⟨⟨_, rfl, HO.out⟩, HBW.out⟩
end Go.Proofs.YtaajofojbhdgaaaGreatDoor
/- How find's finder lies in memory. -/
namespace Go.Proofs.YtaajofojbhdgaaaGreatDoor
open Go.RowKit Go.Deep Go.Maps Ln Pth Vf

/-- what a finder never changes -/
structure Cf where
  mac : Value
  A : Option Addr
  c : Nat
  L : List Rl
  gf : Nat
  S : St
  cwd : T
  target : T
/-- what holds of it ahead -/
structure CfOk (C : Cf) (w : World) : Prop where
  rl : RLS w C.A C.L
  vs : Hs (VS C.gf C.S) w
  mx : MX w
  c1 : C.cwd.length ≤ 90000
  t1 : C.target.length ≤ 6000000
  ln : C.L.length ≤ 1000
theorem CfOk.below {C : Cf} {w w' : World} (h : CfOk C w) (hb : Below w.heap.size w w') : CfOk C w' := ⟨h.rl.below hb, h.vs.below (VS.fr _ _) hb, h.mx.below hb, h.c1, h.t1, h.ln⟩
def fcells (C : Cf) (kb : Option Nat) (vn vr : Value) (st : T) (ru : Bool) : Array Value := #[C.mac, .slice C.A C.L.length C.c, .pointer (some ⟨C.gf, 0, none⟩), .string (bs C.cwd), .string (bs C.target), .map kb, vn, vr, .string (bs st), .bool ru]
/-- a finder -/
structure FI (w0 : World) (C : Cf) (g : Nat) (kb : Option Nat) (kl : List ByteArray) (p : Pn) (T : Nat → Prop) (w : World) : Prop where
  below : Below w0.heap.size w0 w
  tg : T g
  tw : ∀ k, T k → w0.heap.size ≤ k ∧ k < w.heap.size
  known : ∀ b, kb = some b → MSet w b kl ∧ ¬ T b
  body : ∃ vn vr, w.heap[g]? = some (.cells (fcells C kb vn vr p.stem p.rule) 110) ∧ OwnS w w0.heap.size vn p.needs ∧ vn.ownBlock ≠ some g ∧ (∀ k, vn.ownBlock = some k → T k) ∧ OwnS w w0.heap.size vr p.recipe ∧ ∀ k, vr.ownBlock = some k → ¬ T k
/-- what a call on it leaves -/
def FIP (w0 : World) (C : Cf) (g : Nat) (kb : Option Nat) (kl : List ByteArray) (p : Pn) (T : Nat → Prop) (w w' : World) : Prop := ∃ T', FI w0 C g kb kl p T' w' ∧ Kp w w' T ∧ ∀ k, T' k → T k ∨ w.heap.size ≤ k
theorem OwnS.of {w w' : World} {base : Nat} {v : Value} {L : List ByteArray} (h : OwnS w base v L) (hb : ∀ k, v.ownBlock = some k → w'.heap[k]? = w.heap[k]?) : OwnS w' base v L := by
  obtain ⟨h1, h2⟩ := h
  refine ⟨h1, ?_⟩
  rcases h2 with h | ⟨g, cap, cur, rfl, hg, hh, r⟩
  · exact .inl h
  · exact .inr ⟨g, cap, cur, rfl, hg, (hb g rfl).trans hh, r⟩
theorem FI.step {w0 w w' : World} {C : Cf} {g : Nat} {kb : Option Nat} {kl : List ByteArray} {p : Pn} {T : Nat → Prop} (h : FI w0 C g kb kl p T w) (hb : Below w.heap.size w w') : FI w0 C g kb kl p T w' := by
  obtain ⟨vn, vr, h1, h2, h3, h4, h5, h6⟩ := h.body
  refine ⟨below_up h.below hb h.below.size, h.tg, fun k hk => ⟨(h.tw k hk).1, Nat.lt_of_lt_of_le (h.tw k hk).2 hb.size⟩, fun b e => ⟨(h.known b e).1.of (hb.block b (h.known b e).1.lt), (h.known b e).2⟩, vn, vr, (hb.block g (h.tw g h.tg).2).trans h1, h2.below' hb, h3, h4, h5.below' hb, h6⟩
theorem FI.toP {w0 w w' : World} {C : Cf} {g : Nat} {kb : Option Nat} {kl : List ByteArray} {p : Pn} {T : Nat → Prop} (h : FI w0 C g kb kl p T w) (hb : Below w.heap.size w w') : FIP w0 C g kb kl p T w w' :=
  ⟨T, h.step hb, Kp.of_below hb T, fun _ hk => .inl hk⟩
theorem FIP.trans {w0 w w' w'' : World} {C : Cf} {g : Nat} {kb kb' : Option Nat} {kl kl' : List ByteArray} {p p' : Pn} {T : Nat → Prop} (h : FIP w0 C g kb kl p T w w') (h2 : ∀ T', FI w0 C g kb kl p T' w' → FIP w0 C g kb' kl' p' T' w' w'') : FIP w0 C g kb' kl' p' T w w'' := by
  obtain ⟨T', f, k, gr⟩ := h
  obtain ⟨T2, f2, k2, gr2⟩ := h2 T' f
  refine ⟨T2, f2, k.trans (k2.mono gr), fun q hq => ?_⟩
  rcases gr2 q hq with h | h
  · exact gr q h
  · exact .inr (Nat.le_trans k.size h)
theorem FIP.from_ {w0 w w1 w' : World} {C : Cf} {g : Nat} {kb : Option Nat} {kl : List ByteArray} {p : Pn} {T T' : Nat → Prop} (hk : Kp w w1 T) (hg : ∀ k, T' k → T k ∨ w.heap.size ≤ k) (h : FIP w0 C g kb kl p T' w1 w') : FIP w0 C g kb kl p T w w' := by
  obtain ⟨T2, f2, k2, g2⟩ := h
  refine ⟨T2, f2, hk.trans (k2.mono hg), fun q hq => ?_⟩
  rcases g2 q hq with h | h
  · exact hg q h
  · exact .inr (Nat.le_trans hk.size h)
theorem FIP.after {w0 w w1 w' : World} {C : Cf} {g : Nat} {kb : Option Nat} {kl : List ByteArray} {p : Pn} {T : Nat → Prop} (hb : Below w.heap.size w w1) (h : FIP w0 C g kb kl p T w1 w') : FIP w0 C g kb kl p T w w' := by
  obtain ⟨T', f, k, gr⟩ := h
  refine ⟨T', f, (Kp.of_below hb T).trans (k.mono fun q hq => .inl hq), fun q hq => (gr q hq).imp_right (Nat.le_trans hb.size)⟩
theorem FIP.below {w0 w w' : World} {C : Cf} {g : Nat} {kb : Option Nat} {kl : List ByteArray} {p : Pn} {T : Nat → Prop} (h : FIP w0 C g kb kl p T w w') : Below w0.heap.size w0 w' := by
  obtain ⟨T', f, _, _⟩ := h; exact f.below
/-- what its cells hold -/
theorem FI.opn {w0 w : World} {C : Cf} {g : Nat} {kb : Option Nat} {kl : List ByteArray} {p : Pn} {T : Nat → Prop} (h : FI w0 C g kb kl p T w) : ∃ (A6 : Option Addr) (c6 : Nat) (A7 : Option Addr) (c7 : Nat),
    w.heap[g]? = some (.cells (fcells C kb (.slice A6 p.needs.length c6) (.slice A7 p.recipe.length c7) p.stem p.rule) 110) ∧ OwnS w w0.heap.size (.slice A6 p.needs.length c6) p.needs ∧ (Value.slice A6 p.needs.length c6).ownBlock ≠ some g ∧ (∀ k, (Value.slice A6 p.needs.length c6).ownBlock = some k → T k) ∧ OwnS w w0.heap.size (.slice A7 p.recipe.length c7) p.recipe ∧ (∀ k, (Value.slice A7 p.recipe.length c7).ownBlock = some k → ¬ T k) ∧ SR w A6 p.needs ∧ SR w A7 p.recipe := by
  obtain ⟨vn, vr, h1, h2, h3, h4, h5, h6⟩ := h.body
  obtain ⟨A6, c6, rfl, _, s6, _⟩ := h2.slice
  obtain ⟨A7, c7, rfl, _, s7, _⟩ := h5.slice
  exact ⟨A6, c6, A7, c7, h1, h2, h3, h4, h5, h6, s6, s7⟩
theorem Kp.own {w w' : World} {T : Nat → Prop} (h : Kp w w' T) {base : Nat} {v : Value} {L : List ByteArray} (ho : OwnS w base v L) (hv : ∀ k, v.ownBlock = some k → ¬ T k) : OwnS w' base v L :=
  ho.of fun k hk => h.block k (World.ownsRow.lt ho k hk).2 (hv k hk)
theorem Kp.sr {w w' : World} {T : Nat → Prop} (h : Kp w w' T) {A : Option Addr} {L : List ByteArray} (hs : SR w A L) (hA : ∀ a, A = some a → L ≠ [] → ¬ T a.block) : SR w' A L := fun k s hk => by
  obtain ⟨g, o, e, hg, hc⟩ := hs k s hk
  exact ⟨g, o, e, Nat.lt_of_lt_of_le hg h.size, h.cell hc (hA _ e (by rintro rfl; simp at hk))⟩
theorem SR.lt {w : World} {A : Option Addr} {L : List ByteArray} (h : SR w A L) {a : Addr} (e : A = some a) (hL : L ≠ []) : a.block < w.heap.size := by
  cases L with
  | nil => exact absurd rfl hL
  | cons x L =>
    obtain ⟨g, o, e', hg, _⟩ := h 0 x rfl
    rw [e] at e'
    injection e' with e'
    subst e'
    exact hg
theorem kp_set {w : World} {g j : Nat} {v : Value} : Kp w (w.setCell ⟨g, j, none⟩ v) (fun k => k = g) :=
  ⟨rfl, rfl, rfl, by simp, fun k _ hne => Below.heap_setCell _ _ _ _ (by simpa using hne)⟩
/-- behind an append to its needs -/
theorem FI.app {w0 w w4 : World} {C : Cf} {g : Nat} {kb : Option Nat} {kl : List ByteArray} {p : Pn} {T : Nat → Prop} (h : FI w0 C g kb kl p T w) {A6 : Option Addr} {c6 : Nat} {A7 : Option Addr} {c7 : Nat} {v4 : Value} {N : List ByteArray}
    (hg : w.heap[g]? = some (.cells (fcells C kb (.slice A6 p.needs.length c6) (.slice A7 p.recipe.length c7) p.stem p.rule) 110)) (hne : (Value.slice A6 p.needs.length c6).ownBlock ≠ some g) (hT : ∀ k, (Value.slice A6 p.needs.length c6).ownBlock = some k → T k)
    (hr : OwnS w w0.heap.size (.slice A7 p.recipe.length c7) p.recipe) (hrT : ∀ k, (Value.slice A7 p.recipe.length c7).ownBlock = some k → ¬ T k)
    (o4 : OwnS w4 w0.heap.size v4 (p.needs ++ N)) (g4 : w.grownBy w4 (Value.slice A6 p.needs.length c6).ownBlock) (b4 : v4.ownBlock = (Value.slice A6 p.needs.length c6).ownBlock ∨ v4.ownBlock = some w.heap.size) :
    FIP w0 C g kb kl { p with needs := p.needs ++ N } T w (w4.setCell ⟨g, 6, none⟩ v4) := by
  have hgl := (h.tw g h.tg).2
  have hk4 : Kp w w4 T := ⟨g4.os, g4.tape, g4.output, g4.size, fun k hk hn => g4.block k hk (fun e => hn (hT k e.symm))⟩
  have hks := kp_set (w := w4) (g := g) (j := 6) (v := v4)
  have hk : Kp w (w4.setCell ⟨g, 6, none⟩ v4) T := hk4.trans (hks.mono fun k e => .inl (e ▸ h.tg))
  have hg4 := (g4.block g hgl (fun e => hne e.symm)).trans hg
  have hv4g : v4.ownBlock ≠ some g := by
    rcases b4 with e | e
    · rw [e]; exact hne
    · rw [e]; intro h2; injection h2 with h2; omega
  have hbel : Below w0.heap.size w0 (w4.setCell ⟨g, 6, none⟩ v4) := hk.below h.below (Nat.le_refl _) (fun k hk => (h.tw k hk).1)
  refine ⟨fun k => T k ∨ v4.ownBlock = some k, ⟨hbel, .inl h.tg, ?_, ?_, v4, .slice A7 p.recipe.length c7, ?_, ?_, hv4g, fun k e => .inr e, hk.own hr hrT, ?_⟩, hk, ?_⟩
  · rintro k (hk1 | hk1)
    · exact ⟨(h.tw k hk1).1, Nat.lt_of_lt_of_le (h.tw k hk1).2 hk.size⟩
    · have := World.ownsRow.lt o4 k hk1
      exact ⟨this.1, by simpa using this.2⟩
  · intro b e
    have hb := h.known b e
    refine ⟨hb.1.of (hk.block b hb.1.lt hb.2), ?_⟩
    rintro (h1 | h1)
    · exact hb.2 h1
    · rcases b4 with e2 | e2
      · exact hb.2 (hT b (e2 ▸ h1))
      · have := hb.1.lt
        rw [e2] at h1
        injection h1 with h1
        omega
  · rw [heapSet hg4]
    rfl
  · exact o4.of fun k e => hks.block k (World.ownsRow.lt o4 k e).2 (fun e2 => hv4g (by rw [e, e2]))
  · rintro k e (h1 | h1)
    · exact hrT k e h1
    · rcases b4 with e2 | e2
      · exact hrT k e (hT k (e2 ▸ h1))
      · have := (World.ownsRow.lt hr k e).2
        rw [e2] at h1
        injection h1 with h1
        omega
  · rintro k (h1 | h1)
    · exact .inl h1
    · rcases b4 with e | e
      · exact .inl (hT k (e ▸ h1))
      · rw [e] at h1; injection h1 with h1; exact .inr (by omega)
/-- behind a new recipe -/
theorem FI.rec_ {w0 w : World} {C : Cf} {g : Nat} {kb : Option Nat} {kl : List ByteArray} {p : Pn} {T : Nat → Prop} (h : FI w0 C g kb kl p T w) {v : Value} {R : List ByteArray} (ho : OwnS w w0.heap.size v R) (hv : ∀ k, v.ownBlock = some k → ¬ T k) : FIP w0 C g kb kl { p with recipe := R } T w (w.setCell ⟨g, 7, none⟩ v) := by
  obtain ⟨vn, vr, h1, h2, h3, h4, h5, h6⟩ := h.body
  have hks := kp_set (w := w) (g := g) (j := 7) (v := v)
  have hk : Kp w (w.setCell ⟨g, 7, none⟩ v) T := hks.mono fun k e => e ▸ h.tg
  have hng : v.ownBlock ≠ some g := fun e => hv g e h.tg
  refine ⟨T, ⟨hk.below h.below (Nat.le_refl _) (fun k hk => (h.tw k hk).1), h.tg, fun k hk1 => ⟨(h.tw k hk1).1, Nat.lt_of_lt_of_le (h.tw k hk1).2 hk.size⟩, fun b e => ⟨(h.known b e).1.of (hk.block b (h.known b e).1.lt (h.known b e).2), (h.known b e).2⟩, vn, v, ?_, ?_, h3, h4, hk.own ho hv, hv⟩, hk, fun k hk => .inl hk⟩
  · rw [heapSet h1]
    rfl
  · exact h2.of fun k e => hks.block k (World.ownsRow.lt h2 k e).2 (fun e2 => h3 (by rw [e, e2]))
theorem FI.stem_ {w0 w : World} {C : Cf} {g : Nat} {kb : Option Nat} {kl : List ByteArray} {p : Pn} {T : Nat → Prop} (h : FI w0 C g kb kl p T w) (s : Ln.T) : FIP w0 C g kb kl { p with stem := s } T w (w.setCell ⟨g, 8, none⟩ (.string (bs s))) := by
  obtain ⟨vn, vr, h1, h2, h3, h4, h5, h6⟩ := h.body
  have hks := kp_set (w := w) (g := g) (j := 8) (v := .string (bs s))
  have hk : Kp w (w.setCell ⟨g, 8, none⟩ (.string (bs s))) T := hks.mono fun k e => e ▸ h.tg
  refine ⟨T, ⟨hk.below h.below (Nat.le_refl _) (fun k hk => (h.tw k hk).1), h.tg, fun k hk1 => ⟨(h.tw k hk1).1, Nat.lt_of_lt_of_le (h.tw k hk1).2 hk.size⟩, fun b e => ⟨(h.known b e).1.of (hk.block b (h.known b e).1.lt (h.known b e).2), (h.known b e).2⟩, vn, vr, ?_, ?_, h3, h4, hk.own h5 h6, h6⟩, hk, fun k hk => .inl hk⟩
  · rw [heapSet h1]
    rfl
  · exact h2.of fun k e => hks.block k (World.ownsRow.lt h2 k e).2 (fun e2 => h3 (by rw [e, e2]))
theorem FI.rule_ {w0 w : World} {C : Cf} {g : Nat} {kb : Option Nat} {kl : List ByteArray} {p : Pn} {T : Nat → Prop} (h : FI w0 C g kb kl p T w) (b0 : Bool) : FIP w0 C g kb kl { p with rule := b0 } T w (w.setCell ⟨g, 9, none⟩ (.bool b0)) := by
  obtain ⟨vn, vr, h1, h2, h3, h4, h5, h6⟩ := h.body
  have hks := kp_set (w := w) (g := g) (j := 9) (v := .bool b0)
  have hk : Kp w (w.setCell ⟨g, 9, none⟩ (.bool b0)) T := hks.mono fun k e => e ▸ h.tg
  refine ⟨T, ⟨hk.below h.below (Nat.le_refl _) (fun k hk => (h.tw k hk).1), h.tg, fun k hk1 => ⟨(h.tw k hk1).1, Nat.lt_of_lt_of_le (h.tw k hk1).2 hk.size⟩, fun b e => ⟨(h.known b e).1.of (hk.block b (h.known b e).1.lt (h.known b e).2), (h.known b e).2⟩, vn, vr, ?_, ?_, h3, h4, hk.own h5 h6, h6⟩, hk, fun k hk => .inl hk⟩
  · rw [heapSet h1]
    rfl
  · exact h2.of fun k e => hks.block k (World.ownsRow.lt h2 k e).2 (fun e2 => h3 (by rw [e, e2]))
/-- behind the making of its map of what is known -/
theorem FI.known_ {w0 w : World} {C : Cf} {g : Nat} {kb : Option Nat} {kl : List ByteArray} {p : Pn} {T : Nat → Prop} (h : FI w0 C g kb kl p T w) {b : Nat} {kl' : List ByteArray} (hm : MSet w b kl') (hb : ¬ T b) : FIP w0 C g (some b) kl' p T w (w.setCell ⟨g, 5, none⟩ (.map (some b))) := by
  obtain ⟨vn, vr, h1, h2, h3, h4, h5, h6⟩ := h.body
  have hks := kp_set (w := w) (g := g) (j := 5) (v := .map (some b))
  have hk : Kp w (w.setCell ⟨g, 5, none⟩ (.map (some b))) T := hks.mono fun k e => e ▸ h.tg
  refine ⟨T, ⟨hk.below h.below (Nat.le_refl _) (fun k hk => (h.tw k hk).1), h.tg, fun k hk1 => ⟨(h.tw k hk1).1, Nat.lt_of_lt_of_le (h.tw k hk1).2 hk.size⟩, ?_, vn, vr, ?_, ?_, h3, h4, hk.own h5 h6, h6⟩, hk, fun k hk => .inl hk⟩
  · intro b' e
    injection e with e
    subst e
    exact ⟨hm.of (hk.block b hm.lt hb), hb⟩
  · rw [heapSet h1]
    rfl
  · exact h2.of fun k e => hks.block k (World.ownsRow.lt h2 k e).2 (fun e2 => h3 (by rw [e, e2]))
end Go.Proofs.YtaajofojbhdgaaaGreatDoor
/- Walks of the finder's need and takes. -/
namespace Go.Proofs.YtaajofojbhdgaaaGreatDoor
open Go.RowKit Go.Deep Go.Maps Ln Pth Vf
attribute [local go_sem] bt_eq

/-- slices.Clone: a row of the call's own -/
theorem sclone_any (A : Option Addr) (c : Nat) (L : List ByteArray) (w : World) (hA : SR w A L) (hl : L.length ≤ 1000000) :
    Calls Tryz.prog 42 #[.slice A L.length c] w fun e w' => (∃ v, e = .returned v ∧ OwnS w' w.heap.size v L) ∧ Below w.heap.size w w' := by
  cases A with
  | none =>
    have hL : L = [] := by
      cases L with
      | nil => rfl
      | cons b l =>
        obtain ⟨g, o, e, _⟩ := hA 0 b rfl
        cases e
    subst hL
    refine (Tryz.slices_Clone_string_nil 0 c w).mono ?_
    rintro e w' ⟨rfl, rfl⟩
    exact ⟨⟨_, rfl, OwnS.nil _ _⟩, Below.refl _ _⟩
  | some a =>
    cases L with
    | nil =>
      refine (Tryz.slices_Clone_string_zero a c w).mono ?_
      rintro e w' ⟨v, rfl, ho, _, hb⟩
      exact ⟨⟨v, rfl, ho⟩, hb⟩
    | cons x L =>
      obtain ⟨g, o, e, _, _⟩ := hA 0 x rfl
      injection e with e
      subst e
      refine (Tryz.slices_Clone_string g o (x :: L).length c (x :: L) w (Nat.le_refl _) (by omega) (fun j hj => ?_)).mono ?_
      · obtain ⟨g', o', e, _, hc⟩ := hA j ((x :: L)[j]) (List.getElem?_eq_getElem hj)
        injection e with e
        injection e with e1 e2
        subst e1 e2
        rw [hc]
        congr 2
        rw [List.getD_eq_getElem?_getD, List.getElem?_eq_getElem hj]
        rfl
      · rintro e w' ⟨v, rfl, ho, _, hb⟩
        rw [List.take_length] at ho
        exact ⟨⟨v, rfl, ho⟩, hb⟩
set_option maxRecDepth 100000 in
set_option maxHeartbeats 1000000 in
theorem need_any (w0 : World) (C : Cf) (g : Nat) (kb : Option Nat) (kl : List ByteArray) (p : Pn) (T : Nat → Prop) (s : ByteArray) (w : World) (h : FI w0 C g kb kl p T w) (hl : p.needs.length ≤ 900000) :
    Calls Tryz.prog 66 #[.pointer (some ⟨g, 0, none⟩), .string s] w fun e w' => e = .returned (.tuple #[]) ∧ FIP w0 C g kb kl { p with needs := needF p.needs s } T w w' := by
  obtain ⟨A6, c6, A7, c7, hg, o6, hne, hT, o7, hrT, s6, s7⟩ := h.opn
  have hc6 := cellOf hg (j := 6) rfl
  have HC := hide (cont_any A6 c6 p.needs s w s6 (by omega))
  have hR : needF p.needs s = if Lib.containsS p.needs s = true then p.needs else p.needs ++ [s] := rfl
  obtain ⟨b, hb⟩ : ∃ b, Lib.containsS p.needs s = b := ⟨_, rfl⟩
  rw [hb] at HC hR
  have HG := hide hg
  have HH := hide h
  have hbase : w0.heap.size ≤ w.heap.size := h.below.size
  have hgl := (h.tw g h.tg).2
  cases b with
  | true =>
    have HE := hide (show ({ p with needs := needF p.needs s } : Pn) = p by rw [hR, if_pos rfl])
    clear hR hb hg h o6 hT o7 hrT s6 s7
    obtain ⟨n, hn⟩ : ∃ n, p.needs.length = n := ⟨_, rfl⟩
    rw [hn] at HC hc6
    clear hn
    go_enter Tryz.func66, Tryz.ntmps66
    go_wp2_with fail
    refine HC.out.mono ?_
    rintro e w' ⟨rfl, rfl⟩
    go_wp2
    go_end0
    rw [HE.out]
    exact ⟨rfl, HH.out.toP (Below.refl _ _)⟩
  | false =>
    have HE := hide (show ({ p with needs := needF p.needs s } : Pn) = { p with needs := p.needs ++ [s] } by rw [hR, if_neg (by simp)])
    obtain ⟨v4, w4, r4, o4, g4, b4⟩ := run_appS (c := 1) (OwnS.alloc o6 (.cells #[.string s] 9)) (sr_new w s) (by simp; omega) (by simp; omega)
    obtain ⟨A4, c4, e4, _, _, _⟩ := o4.slice
    generalize (p.needs ++ [s]).length = l4 at e4
    subst e4
    have hga : (w.alloc (.cells #[.string s] 9)).heap[g]? = some (.cells (fcells C kb (.slice A6 p.needs.length c6) (.slice A7 p.recipe.length c7) p.stem p.rule) 110) := by rw [Below.heap_alloc _ _ _ hgl]; exact hg
    have hg4 := (g4.block g (by simp; omega) (fun e => hne e.symm)).trans hga
    have hf4 := freeOf hg4 6
    have hc46 := cellOf hg4 (j := 6) rfl
    have HF := hide ((FI.app (HH.out.step ((Below.refl _ _).alloc (Nat.le_refl _) (.cells #[.string s] 9))) hga hne hT (o7.alloc _) hrT o4 g4 b4).after ((Below.refl _ _).alloc (Nat.le_refl _) _))
    clear hR hb hg h o6 hT o7 hrT s6 s7 o4 g4 b4 hga hg4
    obtain ⟨n, hn⟩ : ∃ n, p.needs.length = n := ⟨_, rfl⟩
    rw [hn] at HC hc6 r4
    clear hn
    go_enter Tryz.func66, Tryz.ntmps66
    go_wp2_with fail
    refine HC.out.mono ?_
    rintro e w' ⟨rfl, rfl⟩
    go_wp2_with (at_builtin; refine wpList_app_run ?_ (.tmp 17) (.tmp 19) ?_ ?_ ?_ ?_ r4 ?_; exact rfl; exact rfl; exact rfl; exact rfl; exact rfl)
    go_end0
    rw [HE.out]
    exact ⟨rfl, HF.out⟩
set_option maxRecDepth 100000 in
set_option maxHeartbeats 2000000 in
theorem takes_any (w0 : World) (C : Cf) (g : Nat) (kb : Option Nat) (kl : List ByteArray) (p : Pn) (T : Nat → Prop) (nA : Option Addr) (nc : Nat) (ns : List ByteArray) (rA : Option Addr) (rc : Nat) (rs : List ByteArray) (st : Ln.T) (w : World) (h : FI w0 C g kb kl p T w)
    (hn : SR w nA ns) (hnT : ∀ a, nA = some a → ns ≠ [] → ¬ T a.block) (hr : SR w rA rs) (hrT : ∀ a, rA = some a → rs ≠ [] → ¬ T a.block) (l1 : ns.length ≤ 100000) (l2 : rs.length ≤ 100000) (l3 : p.needs.length ≤ 800000) :
    Calls Tryz.prog 147 #[.pointer (some ⟨g, 0, none⟩), .slice nA ns.length nc, .slice rA rs.length rc, .string (bs st)] w fun e w' => e = .returned (.tuple #[]) ∧ FIP w0 C g kb kl (takesF p ns rs st) T w w' := by
  have HND := hide (fun (q : Pn) (T' : Nat → Prop) (s : ByteArray) (W : World) (h : FI w0 C g kb kl q T' W) (hl : q.needs.length ≤ 900000) => need_any w0 C g kb kl q T' s W h hl)
  have HN := hide hn
  have HNT := hide hnT
  have HR := hide hr
  have HRT := hide hrT
  have H := hide h
  obtain ⟨n, hnn⟩ : ∃ n, ns.length = n := ⟨_, rfl⟩
  have HNN := hide hnn
  rw [hnn] at l1 ⊢
  obtain ⟨m, hmm⟩ : ∃ n, rs.length = n := ⟨_, rfl⟩
  have HMM := hide hmm
  rw [hmm] at l2 ⊢
  have hn1 : (n : Int) ≤ 100000 := by omega
  clear h hn hnT hr hrT hnn hmm
  go_enter Tryz.func147, Tryz.ntmps147
  go_wp2
  go_loopw [9, 12] (fun _ v12 wr => ∃ k : Nat, v12 = .int .i64 k ∧ k ≤ n ∧ FIP w0 C g kb kl (addN p (ns.take k)) T w wr) (fun _ v12 _ => n - (intOf v12).toNat)
  case atStart => exact ⟨0, rfl, by omega, H.out.toP (Below.refl _ _)⟩
  case round =>
    obtain ⟨k, rfl, hk, hf⟩ := hrel
    have HF := hide hf
    have HNR := hide (let ⟨_, _, kp, _⟩ := hf; kp.sr HN.out HNT.out)
    clear hf
    by_cases hlt : k < n
    · obtain ⟨x, hx⟩ : ∃ x, ns[k]? = some x := ⟨ns[k]'(by have := HNN.out; omega), List.getElem?_eq_getElem _⟩
      obtain ⟨gs, o, rfl, hg, hc⟩ := HNR.out k x hx
      obtain ⟨T', hfi, hkp, hgr⟩ := HF.out
      have hql : (addN p (ns.take k)).needs.length ≤ 900000 := by
        have := needsF_len (ns.take k) p.needs
        rw [List.length_take] at this
        show (needsF p.needs (ns.take k)).length ≤ _
        omega
      have HC := hide (HND.out _ T' x wr hfi hql)
      have HE := hide (show ({ addN p (ns.take k) with needs := needF (addN p (ns.take k)).needs x } : Pn) = addN p (ns.take (k + 1)) by
        unfold addN
        rw [needsF_take hx])
      rw [HE.out] at HC
      have HKP := hide (And.intro hkp hgr)
      have b1 : (k : Int) < (n : Int) := by omega
      clear hx hfi hkp hgr hql
      go_wp2_with fail
      refine HC.out.mono ?_
      rintro e w2 ⟨rfl, h2⟩
      have HF2 := hide (h2.from_ HKP.out.1 HKP.out.2)
      clear h2
      go_wp2
      go_roundw
      case rel => exact ⟨k + 1, by go_num, by omega, HF2.out⟩
      case measure => simp [intOf]; omega
    · obtain rfl : k = n := by omega
      have HE := hide (show addN p (ns.take k) = addN p ns by rw [List.take_of_length_le (by have := HNN.out; omega)])
      rw [HE.out] at HF
      obtain ⟨T', hfi, hkp, hgr⟩ := HF.out
      have HFI := hide hfi
      have HKP := hide (And.intro hkp hgr)
      have HCL := hide (sclone_any rA rc rs wr (hkp.sr HR.out HRT.out) (by have := HMM.out; omega))
      rw [HMM.out] at HCL
      clear hfi hkp hgr
      go_wp2_with fail
      refine HCL.out.mono ?_
      rintro e w2 ⟨⟨v, rfl, ho⟩, hb2⟩
      obtain ⟨A4, c4, e4, _, _, _⟩ := ho.slice
      generalize rs.length = l4 at e4
      subst e4
      have hf2 := HFI.out.step hb2
      have hbs := HFI.out.below.size
      have hr1 := hf2.rec_ (ho.base hbs) (fun q hq ht => by have := (World.ownsRow.lt ho q hq).1; have := (HFI.out.tw q ht).2; omega)
      have hr2 := hr1.trans (fun T1 f1 => f1.stem_ st)
      have hr3 := hr2.trans (fun T1 f1 => f1.rule_ true)
      obtain ⟨vn, vr, hg2, _⟩ := hf2.body
      have hz7 := freeOf hg2 7
      have hz8 := freeOf hg2 8
      have hz9 := freeOf hg2 9
      have hy7 := cellOf hg2 (j := 7) rfl
      have hy8 := cellOf hg2 (j := 8) rfl
      have hy9 := cellOf hg2 (j := 9) rfl
      have HF3 := hide (show FIP w0 C g kb kl (takesF p ns rs st) T w _ from (hr3.after hb2).from_ HKP.out.1 HKP.out.2)
      clear hr1 hr2 hr3 hf2 ho hb2 hg2
      go_wp2
      go_end0
      exact ⟨rfl, HF3.out⟩
end Go.Proofs.YtaajofojbhdgaaaGreatDoor
/- Walks of the finder's there and pattern. -/
namespace Go.Proofs.YtaajofojbhdgaaaGreatDoor
open Go.RowKit Go.Deep Go.Maps Ln Pth Vf
attribute [local go_sem] bt_eq

theorem kindT_le (S : St) (cwd s : T) : kindT S cwd s ≤ 2 := by
  unfold kindT
  split
  · omega
  · unfold kindS
    split
    · omega
    · unfold kindM
      split
      · omega
      · split <;> (try split) <;> omega
set_option linter.unusedSimpArgs false in
set_option maxRecDepth 100000 in
set_option maxHeartbeats 2000000 in
theorem there1_any (w0 : World) (C : Cf) (g b : Nat) (kl : List ByteArray) (p : Pn) (T : Nat → Prop) (s : ByteArray) (px : Nat) (w : World) (hok : CfOk C w) (h : FI w0 C g (some b) kl p T w) (hp : w.cell? ⟨px, 0, none⟩ = some (.pointer (some ⟨g, 0, none⟩))) (hs : s.size ≤ 6500000) :
    Calls Tryz.prog 172 #[.string s, .pointer (some ⟨px, 0, none⟩)] w fun e w' => e = .returned (.bool (lackF C.S C.cwd kl s)) ∧ Below w.heap.size w w' := by
  have HK := hide (fun W (hb : Below w.heap.size w W) => kindp_any C.gf C.S C.cwd s.data.toList W (hok.below hb).vs (hok.below hb).mx (by have := hok.c1; omega) (by rw [data_len]; omega))
  rw [bs_of] at HK
  obtain ⟨A6, c6, A7, c7, hg, _⟩ := h.opn
  have hc2 : w.cell? ⟨g, 2, none⟩ = some (.pointer (some ⟨C.gf, 0, none⟩)) := cellOf hg (j := 2) rfl
  have hc3 : w.cell? ⟨g, 3, none⟩ = some (.string (bs C.cwd)) := cellOf hg (j := 3) rfl
  have hc5 : w.cell? ⟨g, 5, none⟩ = some (.map (some b)) := cellOf hg (j := 5) rfl
  have hgl := (h.tw g h.tg).2
  have HMS := hide (h.known b rfl).1
  have hR : lackF C.S C.cwd kl s = (decide (kindT C.S C.cwd s.data.toList = 0) && !Lib.containsS kl s) := rfl
  obtain ⟨kk, hkk⟩ : ∃ k, kindT C.S C.cwd s.data.toList = k := ⟨_, rfl⟩
  rw [hkk] at HK hR
  have HR := hide hR
  have hpl := World.block_lt_of_cell? _ _ hp
  have hb0 : Below w.heap.size w w.drew := (Below.refl _ _).drew
  obtain ⟨ki, hki⟩ : ∃ i : Int, (kk : Int) = i := ⟨_, rfl⟩
  rw [hki] at HK
  have hkl : kk ≤ 2 := by rw [← hkk]; exact kindT_le _ _ _
  clear hR hkk hok h hg
  by_cases k0 : kk = 0
  case neg =>
    have HE := hide (show lackF C.S C.cwd kl s = false by rw [HR.out, decide_eq_false k0]; rfl)
    have t1 : (ki == 0) = false := by simp only [beq_eq_false_iff_ne]; omega
    clear k0
    go_enter Tryz.func172, Tryz.ntmps172
    go_wp2_with fail
    refine wp_region_held_drew (S := (fun w' => w'.cell? ⟨px, 0, none⟩ = some (.pointer (some ⟨g, 0, none⟩)) ∧ w'.cell? ⟨g, 2, none⟩ = some (.pointer (some ⟨C.gf, 0, none⟩)) ∧ w'.cell? ⟨g, 3, none⟩ = some (.string (bs C.cwd)))) (by kernel_rfl) ⟨hp, hc2, hc3⟩ (fun hHeld => ?_)
    refine wpAnyH_take (i := 0) (oi := _) (v := ?v0) rfl (by kernel_rfl) (by kernel_rfl) (by kernel_rfl) (fun _ _ _ h => h) (Or.inl ⟨by kernel_rfl, ?y0⟩) (by assumption) ?r0
    case y0 =>
      intro w hSw
      (try dsimp only at hSw)
      go_simp
      try with_reducible rfl
    try simp only [Act.put, List.setIfInBounds_toArray, List.set_cons_zero, List.set_cons_succ]
    refine wpAnyH_take (i := 1) (oi := _) (v := ?v1) rfl (by kernel_rfl) (by kernel_rfl) (by kernel_rfl) (fun _ _ _ h => h) (Or.inl ⟨by kernel_rfl, ?y1⟩) (by assumption) ?r1
    case y1 =>
      intro w hSw
      (try dsimp only at hSw)
      go_simp
      try with_reducible rfl
    try simp only [Act.put, List.setIfInBounds_toArray, List.set_cons_zero, List.set_cons_succ]
    refine wpAnyH_take (i := 2) (oi := _) (v := ?v2) rfl (by kernel_rfl) (by kernel_rfl) (by kernel_rfl) (fun _ _ _ h => h) (Or.inl ⟨by kernel_rfl, ?y2⟩) (by assumption) ?r2
    case y2 =>
      intro w hSw
      (try dsimp only at hSw)
      go_simp
      try with_reducible rfl
    try simp only [Act.put, List.setIfInBounds_toArray, List.set_cons_zero, List.set_cons_succ]
    refine wpAnyH_take (i := 3) (oi := _) (v := ?v3) rfl (by kernel_rfl) (by kernel_rfl) (by kernel_rfl) (fun _ _ _ h => h) (Or.inl ⟨by kernel_rfl, ?y3⟩) (by assumption) ?r3
    case y3 =>
      intro w hSw
      (try dsimp only at hSw)
      go_simp
      try with_reducible rfl
    try simp only [Act.put, List.setIfInBounds_toArray, List.set_cons_zero, List.set_cons_succ]
    refine wpAnyH_take (i := 4) (oi := _) (v := ?v4) rfl (by kernel_rfl) (by kernel_rfl) (by kernel_rfl) (fun _ _ _ h => h) (Or.inl ⟨by kernel_rfl, ?y4⟩) (by assumption) ?r4
    case y4 =>
      intro w hSw
      (try dsimp only at hSw)
      go_simp
      try with_reducible rfl
    try simp only [Act.put, List.setIfInBounds_toArray, List.set_cons_zero, List.set_cons_succ]
    refine wpAnyH_take (i := 5) (oi := _) (v := ?v5) rfl (by kernel_rfl) (by kernel_rfl) (by kernel_rfl) (fun _ _ _ h => h) (Or.inl ⟨by kernel_rfl, ?y5⟩) (by assumption) ?r5
    case y5 =>
      intro w hSw
      (try dsimp only at hSw)
      go_simp
      try with_reducible rfl
    try simp only [Act.put, List.setIfInBounds_toArray, List.set_cons_zero, List.set_cons_succ]
    refine wpAnyH_take (i := 6) (oi := _) (v := ?v6) rfl (by kernel_rfl) (by kernel_rfl) (by kernel_rfl) (fun _ _ _ h => h) (Or.inl ⟨by kernel_rfl, ?y6⟩) (by assumption) ?r6
    case y6 =>
      intro w hSw
      (try dsimp only at hSw)
      go_simp
      try with_reducible rfl
    try simp only [Act.put, List.setIfInBounds_toArray, List.set_cons_zero, List.set_cons_succ]
    refine wpAnyH_take (i := 7) (oi := _) (v := ?v7) rfl (by kernel_rfl) (by kernel_rfl) (by kernel_rfl) (fun _ _ _ h => h) (Or.inl ⟨by kernel_rfl, ?y7⟩) (by assumption) ?r7
    case y7 =>
      intro w hSw
      (try dsimp only at hSw)
      go_simp
      try with_reducible rfl
    try simp only [Act.put, List.setIfInBounds_toArray, List.set_cons_zero, List.set_cons_succ]
    refine wpAnyH_take (i := 8) (oi := _) (v := ?v8) rfl (by kernel_rfl) (by kernel_rfl) (by kernel_rfl) (fun _ _ _ h => h) (Or.inl ⟨by kernel_rfl, ?y8⟩) (by assumption) ?r8
    case y8 =>
      intro w hSw
      (try dsimp only at hSw)
      go_simp
      try with_reducible rfl
    try simp only [Act.put, List.setIfInBounds_toArray, List.set_cons_zero, List.set_cons_succ]
    refine wpAnyH_ready (rs := [9]) (by kernel_rfl) (by simp) ?_
    refine AllReadyH.cons (o := _) rfl (fun K hK => ?_) AllReadyH.nil
    rw [if_pos (by rfl)]
    go_simp
    go_at_call 150
    refine (HK.out _ hb0).mono ?_
    rintro e w1 ⟨rfl, hb⟩
    have u0 := (hb.cell (p := ⟨px, 0, none⟩) hpl).trans hp
    have u2 := (hb.cell (p := ⟨g, 2, none⟩) hgl).trans hc2
    have u3 := (hb.cell (p := ⟨g, 3, none⟩) hgl).trans hc3
    have HB := hide (hb0.trans hb)
    clear hb
    refine hK.out _ _ ⟨u0, u2, u3⟩ (fun hHeld2 => ?_)
    clear hK K hHeld
    try simp only [Act.put, List.setIfInBounds_toArray, List.set_cons_zero, List.set_cons_succ]
    refine wpAnyH_take (i := 10) (oi := _) (v := ?v10) rfl (by kernel_rfl) (by kernel_rfl) (by kernel_rfl) (fun _ _ _ h => h) (Or.inl ⟨by kernel_rfl, ?y10⟩) (by assumption) ?r10
    case y10 =>
      intro w hSw
      (try dsimp only at hSw)
      go_simp
      try with_reducible rfl
    try simp only [Act.put, List.setIfInBounds_toArray, List.set_cons_zero, List.set_cons_succ]
    refine wpAnyH_take (i := 11) (oi := _) (v := ?v11) rfl (by kernel_rfl) (by kernel_rfl) (by kernel_rfl) (fun _ _ _ h => h) (Or.inl ⟨by kernel_rfl, ?y11⟩) (by assumption) ?r11
    case y11 =>
      intro w hSw
      (try dsimp only at hSw)
      go_simp
      try with_reducible rfl
    try simp only [Act.put, List.setIfInBounds_toArray, List.set_cons_zero, List.set_cons_succ]
    refine wpAnyH_take (i := 12) (oi := _) (v := undef) rfl (by kernel_rfl) (by kernel_rfl) (by kernel_rfl) (fun _ _ _ h => h) (Or.inr ⟨by kernel_rfl, rfl⟩) (by assumption) ?_
    try simp only [Act.put, List.setIfInBounds_toArray, List.set_cons_zero, List.set_cons_succ]
    refine wpAnyH_take (i := 13) (oi := _) (v := undef) rfl (by kernel_rfl) (by kernel_rfl) (by kernel_rfl) (fun _ _ _ h => h) (Or.inr ⟨by kernel_rfl, rfl⟩) (by assumption) ?_
    try simp only [Act.put, List.setIfInBounds_toArray, List.set_cons_zero, List.set_cons_succ]
    refine wpAnyH_take (i := 14) (oi := _) (v := undef) rfl (by kernel_rfl) (by kernel_rfl) (by kernel_rfl) (fun _ _ _ h => h) (Or.inr ⟨by kernel_rfl, rfl⟩) (by assumption) ?_
    try simp only [Act.put, List.setIfInBounds_toArray, List.set_cons_zero, List.set_cons_succ]
    refine wpAnyH_take (i := 15) (oi := _) (v := undef) rfl (by kernel_rfl) (by kernel_rfl) (by kernel_rfl) (fun _ _ _ h => h) (Or.inr ⟨by kernel_rfl, rfl⟩) (by assumption) ?_
    try simp only [Act.put, List.setIfInBounds_toArray, List.set_cons_zero, List.set_cons_succ]
    refine wpAnyH_take (i := 16) (oi := _) (v := undef) rfl (by kernel_rfl) (by kernel_rfl) (by kernel_rfl) (fun _ _ _ h => h) (Or.inr ⟨by kernel_rfl, rfl⟩) (by assumption) ?_
    try simp only [Act.put, List.setIfInBounds_toArray, List.set_cons_zero, List.set_cons_succ]
    refine wpAnyH_take (i := 17) (oi := _) (v := undef) rfl (by kernel_rfl) (by kernel_rfl) (by kernel_rfl) (fun _ _ _ h => h) (Or.inr ⟨by kernel_rfl, rfl⟩) (by assumption) ?_
    try simp only [Act.put, List.setIfInBounds_toArray, List.set_cons_zero, List.set_cons_succ]
    refine wpAnyH_take (i := 18) (oi := _) (v := undef) rfl (by kernel_rfl) (by kernel_rfl) (by kernel_rfl) (fun _ _ _ h => h) (Or.inr ⟨by kernel_rfl, rfl⟩) (by assumption) ?_
    try simp only [Act.put, List.setIfInBounds_toArray, List.set_cons_zero, List.set_cons_succ]
    refine wpAnyH_ready (rs := [19]) (by kernel_rfl) (by simp) ?_
    refine AllReadyH.cons (o := _) rfl (fun K hK => ?_) AllReadyH.nil
    rw [if_pos (by kernel_rfl)]
    go_simp
    refine hK.out _ _ ⟨u0, u2, u3⟩ (fun _ => ?_)
    clear hK K
    try simp only [Act.put, List.setIfInBounds_toArray, List.set_cons_zero, List.set_cons_succ]
    refine wpAnyH_ready (rs := [20]) (by kernel_rfl) (by simp) ?_
    refine AllReadyH.cons (o := _) rfl (fun K hK => ?_) AllReadyH.nil
    rw [if_pos (by kernel_rfl)]
    go_simp
    refine hK.out _ _ ⟨u0, u2, u3⟩ (fun _ => ?_)
    clear hK K
    try simp only [Act.put, List.setIfInBounds_toArray, List.set_cons_zero, List.set_cons_succ]
    refine wpAnyH_done (by kernel_rfl) ?_ _
    go_wp2
    go_ret
    rw [HE.out]
    exact ⟨rfl, HB.out⟩
  subst k0
  obtain rfl : ki = 0 := hki.symm
  obtain ⟨cb, hcb⟩ : ∃ c, Lib.containsS kl s = c := ⟨_, rfl⟩
  have HE := hide (show lackF C.S C.cwd kl s = !cb by rw [HR.out, hcb]; rfl)
  have HLK := hide (fun W (hb : Below w.heap.size w W) => (show MSet W b kl from HMS.out.of (hb.block b HMS.out.lt)).look (s := s) (by omega))
  rw [hcb] at HLK
  clear HR hcb
  cases cb with
  | true =>
    go_enter Tryz.func172, Tryz.ntmps172
    go_wp2_with fail
    go_region_held3 (fun w' => w'.cell? ⟨px, 0, none⟩ = some (.pointer (some ⟨g, 0, none⟩)) ∧ w'.cell? ⟨g, 2, none⟩ = some (.pointer (some ⟨C.gf, 0, none⟩)) ∧ w'.cell? ⟨g, 3, none⟩ = some (.string (bs C.cwd)) ∧ w'.cell? ⟨g, 5, none⟩ = some (.map (some b)))
      (first | exact ⟨hp, hc2, hc3, hc5⟩ | exact ⟨u0, u2, u3, u5⟩)
      ((go_at_call 150; refine (HK.out _ hb0).mono ?_; rintro e w1 ⟨rfl, hb⟩; have u0 := (hb.cell (p := ⟨px, 0, none⟩) hpl).trans hp; have u2 := (hb.cell (p := ⟨g, 2, none⟩) hgl).trans hc2; have u3 := (hb.cell (p := ⟨g, 3, none⟩) hgl).trans hc3; have u5 := (hb.cell (p := ⟨g, 5, none⟩) hgl).trans hc5; have hlk := HLK.out w1 (hb0.trans hb); have HB := hide (hb0.trans hb); clear hb))
    go_wp2
    go_ret
    rw [HE.out]
    exact ⟨rfl, HB.out⟩
  | false =>
    go_enter Tryz.func172, Tryz.ntmps172
    go_wp2_with fail
    go_region_held3 (fun w' => w'.cell? ⟨px, 0, none⟩ = some (.pointer (some ⟨g, 0, none⟩)) ∧ w'.cell? ⟨g, 2, none⟩ = some (.pointer (some ⟨C.gf, 0, none⟩)) ∧ w'.cell? ⟨g, 3, none⟩ = some (.string (bs C.cwd)) ∧ w'.cell? ⟨g, 5, none⟩ = some (.map (some b)))
      (first | exact ⟨hp, hc2, hc3, hc5⟩ | exact ⟨u0, u2, u3, u5⟩)
      ((go_at_call 150; refine (HK.out _ hb0).mono ?_; rintro e w1 ⟨rfl, hb⟩; have u0 := (hb.cell (p := ⟨px, 0, none⟩) hpl).trans hp; have u2 := (hb.cell (p := ⟨g, 2, none⟩) hgl).trans hc2; have u3 := (hb.cell (p := ⟨g, 3, none⟩) hgl).trans hc3; have u5 := (hb.cell (p := ⟨g, 5, none⟩) hgl).trans hc5; have hlk := HLK.out w1 (hb0.trans hb); have HB := hide (hb0.trans hb); clear hb))
    go_wp2
    go_ret
    rw [HE.out]
    exact ⟨rfl, HB.out⟩
set_option maxRecDepth 100000 in
set_option maxHeartbeats 1000000 in
theorem there_any (w0 : World) (C : Cf) (g b : Nat) (kl : List ByteArray) (p : Pn) (T : Nat → Prop) (A : Option Addr) (c : Nat) (L : List ByteArray) (w : World) (hok : CfOk C w) (h : FI w0 C g (some b) kl p T w) (hA : SR w A L) (hl : L.length ≤ 100000) (hs : ∀ s ∈ L, s.size ≤ 6500000) :
    Calls Tryz.prog 146 #[.pointer (some ⟨g, 0, none⟩), .slice A L.length c] w fun e w' => e = .returned (.bool (thereF C.S C.cwd kl L)) ∧ Below w.heap.size w w' := by
  have hba := (Below.refl w.heap.size w).alloc (Nat.le_refl _) (.cells #[.pointer (some ⟨g, 0, none⟩)] 108)
  have hnb := heapNew w (.cells #[.pointer (some ⟨g, 0, none⟩)] 108)
  have HCF := hide (contf_any (lackF C.S C.cwd kl) 172 #[.pointer (some ⟨w.heap.size, 0, none⟩)] (fun _ _ => by kernel_rfl) A c L (w.alloc (.cells #[.pointer (some ⟨g, 0, none⟩)] 108)) (by omega) (hA.below hba) (fun W x hx hb => by
    have hb' := hba.trans (hb.mono (by simp))
    exact there1_any w0 C g b kl p T x w.heap.size W (hok.below hb') (h.step hb') (cellOf' ((hb.block w.heap.size (by simp)).trans hnb) (j := 0) rfl) (hs x hx) |>.mono fun e w' ⟨h3, h4⟩ => ⟨h3, hb.trans (h4.mono hb.size)⟩))
  have hR : thereF C.S C.cwd kl L = !L.any (lackF C.S C.cwd kl) := rfl
  obtain ⟨q, hq⟩ : ∃ q, L.any (lackF C.S C.cwd kl) = q := ⟨_, rfl⟩
  rw [hq] at HCF hR
  obtain ⟨n, hn⟩ : ∃ n, L.length = n := ⟨_, rfl⟩
  rw [hn] at HCF hl ⊢
  have HE := hide hR
  have HBA := hide hba
  clear hR hq hn hba hnb hok h hA hs
  go_enter Tryz.func146, Tryz.ntmps146
  go_wp2_with fail
  refine HCF.out.mono ?_
  rintro e w' ⟨rfl, hb⟩
  have HB := hide (below_up HBA.out hb HBA.out.size)
  clear hb
  go_wp2
  go_ret
  rw [HE.out]
  exact ⟨rfl, HB.out⟩
end Go.Proofs.YtaajofojbhdgaaaGreatDoor
/- Walk of the finder's pattern. -/
namespace Go.Proofs.YtaajofojbhdgaaaGreatDoor
open Go.RowKit Go.Deep Go.Maps Ln Pth Vf
attribute [local go_sem] bt_eq

theorem first_take {target : Ln.T} : ∀ (L : List ByteArray) (k : Nat) (t : ByteArray), firstF target (L.take k) = none → L[k]? = some t → (matchT t.data.toList target).2 = false → firstF target (L.take (k + 1)) = none
  | a :: L, 0, t, _, ht, hm => by
    simp only [List.getElem?_cons_zero] at ht
    injection ht with ht
    subst ht
    simp [firstF, hm]
  | a :: L, k + 1, t, h, ht, hm => by
    rw [List.take_succ_cons, firstF] at h ⊢
    split at h
    · cases h
    · rename_i hc
      rw [if_neg hc]
      exact first_take L k t h (by simpa using ht) hm
theorem first_found {target : Ln.T} : ∀ (L : List ByteArray) (k : Nat) (t : ByteArray), firstF target (L.take k) = none → L[k]? = some t → (matchT t.data.toList target).2 = true → firstF target L = some (matchT t.data.toList target).1
  | a :: L, 0, t, _, ht, hm => by
    simp only [List.getElem?_cons_zero] at ht
    injection ht with ht
    subst ht
    rw [firstF, if_pos hm]
  | a :: L, k + 1, t, h, ht, hm => by
    rw [List.take_succ_cons, firstF] at h
    split at h
    · cases h
    · rename_i hc
      rw [firstF, if_neg hc]
      exact first_found L k t h (by simpa using ht) hm
def fillsL (L : List ByteArray) (st : Ln.T) : List ByteArray := L.map fun s => bs (fillT s.data.toList st)
theorem fills_take {L : List ByteArray} {st : Ln.T} {k : Nat} {x : ByteArray} (h : L[k]? = some x) : (fillsL L st).take (k + 1) = (fillsL L st).take k ++ [bs (fillT x.data.toList st)] := by
  unfold fillsL
  rw [List.take_add_one, List.getElem?_map, h]
  rfl
theorem fills_len (L : List ByteArray) (st : Ln.T) : (fillsL L st).length = L.length := by unfold fillsL; simp
/-- what a rule's try leaves -/
def TryP (w0 : World) (C : Cf) (g b : Nat) (kl : List ByteArray) (p : Pn) (T : Nat → Prop) (r : Option Pn) (w : World) (e : Ending) (w' : World) : Prop := e = .returned (.bool r.isSome) ∧ FIP w0 C g (some b) kl (r.getD p) T w w'
/-- the sizes that a pattern's try needs -/
structure RlSz (r : Rl) : Prop where
  t : ∀ x ∈ r.tg.2.2, x.size ≤ 10000
  n : ∀ x ∈ r.nd.2.2, x.size ≤ 10000
set_option maxRecDepth 100000 in
set_option maxHeartbeats 4000000 in
theorem pattern_any (w0 : World) (C : Cf) (g b : Nat) (kl : List ByteArray) (p : Pn) (T : Nat → Prop) (r : Rl) (w : World) (hok : CfOk C w) (h : FI w0 C g (some b) kl p T w) (hr : RlOk w0 r) (hz : RlSz r) (hl : p.needs.length ≤ 700000) :
    Calls Tryz.prog 108 #[.pointer (some ⟨g, 0, none⟩), .agg #[sv r.tg, sv r.nd, sv r.rc]] w (TryP w0 C g b kl p T (patO C.S C.cwd kl C.target r p) w) := by
  obtain ⟨⟨tA, tc, tL⟩, ⟨nA, nc, nL⟩, ⟨rA, rc, rL⟩⟩ := r
  have hb0 := h.below
  have hbs : w0.heap.size ≤ w.heap.size := hb0.size
  have HT := hide (fun W (hb : Below w.heap.size w W) => (hr.tg.below hb0).below hb)
  have HN := hide (fun W (hb : Below w.heap.size w W) => (hr.nd.below hb0).below hb)
  have HC := hide (fun W (hb : Below w.heap.size w W) => (hr.rc.below hb0).below hb)
  have ht1 := hr.t1
  have hn1 := hr.n1
  have hr1 := hr.r1
  have HSZ := hide hz
  have HH := hide h
  have HOK := hide hok
  have hR : patO C.S C.cwd kl C.target ⟨(tA, tc, tL), (nA, nc, nL), (rA, rc, rL)⟩ p = match firstF C.target tL with
    | none => none
    | some st => if thereF C.S C.cwd kl (fillsL nL st) = true then some (takesF p (fillsL nL st) rL st) else none := rfl
  obtain ⟨R, hRR⟩ : ∃ R, patO C.S C.cwd kl C.target ⟨(tA, tc, tL), (nA, nc, nL), (rA, rc, rL)⟩ p = R := ⟨_, rfl⟩
  rw [hRR] at hR ⊢
  have HR := hide hR
  obtain ⟨A6, c6, A7, c7, hg, _⟩ := h.opn
  have HG := hide hg
  have hgl := (h.tw g h.tg).2
  have htl := hr.t1
  obtain ⟨n, hn⟩ : ∃ n, tL.length = n := ⟨_, rfl⟩
  obtain ⟨m, hm⟩ : ∃ n, nL.length = n := ⟨_, rfl⟩
  obtain ⟨q, hq⟩ : ∃ n, rL.length = n := ⟨_, rfl⟩
  have HNN := hide hn
  have HMM := hide hm
  have HQQ := hide hq
  have HBX := hide ((Below.refl w.heap.size w).alloc (Nat.le_refl _) (.cells #[.slice tA n tc, .slice nA m nc, .slice rA q rc] 63))
  have HNB := hide (heapNew w (.cells #[.slice tA n tc, .slice nA m nc, .slice rA q rc] 63))
  have HLOW := hide (And.intro hr hbs)
  clear h hok hr hz hR hRR hg hb0
  simp only [sv]
  rw [hn] at ht1
  rw [hm] at hn1
  rw [hq] at hr1
  simp only [hn, hm, hq]
  clear hn hm hq htl
  have hni : (n : Int) ≤ 100000 := by omega
  have hmi : (m : Int) ≤ 100000 := by omega
  go_enter Tryz.func108, Tryz.ntmps108
  go_wp2
  obtain ⟨W, hW⟩ : ∃ W, w.alloc (.cells #[.slice tA n tc, .slice nA m nc, .slice rA q rc] 63) = W := ⟨_, rfl⟩
  rw [hW] at HBX HNB ⊢
  clear hW
  go_loopw [6, 7, 8, 9, 11, 15, 33] (fun _ _ _ _ _ v15 _ wr => ∃ k : Nat, v15 = .int .i64 k ∧ k ≤ n ∧ Hid (firstF C.target (tL.take k) = none) ∧ Below W.heap.size W wr) (fun _ _ _ _ _ v15 _ _ => n - (intOf v15).toNat)
  case atStart => exact ⟨0, rfl, by omega, rfl, Below.refl _ _⟩
  case round =>
    obtain ⟨k, rfl, hk, HFN, hb⟩ := hrel
    generalize wr = W1 at *
    have HBL := hide hb
    have HBW := hide (below_up HBX.out hb HBX.out.size)
    have HTR := hide (HT.out W1 HBW.out)
    have hgr := (HBW.out.block g hgl).trans HG.out
    have hc4 : W1.cell? ⟨g, 4, none⟩ = some (.string (bs C.target)) := cellOf hgr (j := 4) rfl
    have hnb := (hb.block w.heap.size (Array.getElem?_eq_some_iff.1 HNB.out).1).trans HNB.out
    have hd1 := cellOf' hnb (j := 1) rfl
    have hd2 := cellOf' hnb (j := 2) rfl
    clear hb hgr hnb
    by_cases hlt : k < n
    · obtain ⟨x, hx⟩ : ∃ x, tL[k]? = some x := ⟨tL[k]'(by have := HNN.out; omega), List.getElem?_eq_getElem _⟩
      obtain ⟨gs, o, rfl, hgs, hc⟩ := HTR.out k x hx
      have hxs := HSZ.out.t x (List.mem_of_getElem? hx)
      have HMA := hide (match_any x.data.toList C.target W1 (HOK.out.mx.below HBW.out) (by rw [data_len]; omega) (by have := HOK.out.t1; omega))
      rw [bs_of] at HMA
      have HX := hide hx
      have b1 : (k : Int) < (n : Int) := by omega
      obtain ⟨st, hst⟩ : ∃ s, (matchT x.data.toList C.target).1 = s := ⟨_, rfl⟩
      obtain ⟨ok, hok⟩ : ∃ s, (matchT x.data.toList C.target).2 = s := ⟨_, rfl⟩
      have hsl := matchT_len x.data.toList C.target
      have htl := HOK.out.t1
      rw [hst] at hsl HMA
      rw [hok] at HMA
      have HOO := hide hok
      have HSS := hide hst
      clear hx hok hst hxs
      cases ok with
      | false =>
        have HST := hide (first_take _ k x HFN.out HX.out HOO.out)
        go_wp2_with fail
        refine HMA.out.mono ?_
        rintro e w2 ⟨rfl, hb2⟩
        have HB2 := hide (below_up HBL.out hb2 HBL.out.size)
        clear hb2
        go_wp2
        go_roundw
        case rel => exact ⟨k + 1, by go_num, by omega, HST.out, HB2.out⟩
        case measure => simp [intOf]; omega
      | true =>
        have HFO := hide (first_found _ k x HFN.out HX.out HOO.out)
        rw [HSS.out] at HFO
        go_wp2_with fail
        refine HMA.out.mono ?_
        rintro e w2 ⟨rfl, hb2⟩
        have HB2 := hide (below_up HBW.out hb2 HBW.out.size)
        have hd12 := (hb2.cell (p := ⟨w.heap.size, 1, none⟩) (World.block_lt_of_cell? _ _ hd1)).trans hd1
        have hd22 := (hb2.cell (p := ⟨w.heap.size, 2, none⟩) (World.block_lt_of_cell? _ _ hd2)).trans hd2
        clear hb2 hd1 hd2 hc4
        go_wp2
        go_loopw [9, 11, 33] (fun v9 _ v33 wr => ∃ j : Nat, v33 = .int .i64 j ∧ j ≤ m ∧ OwnS wr w2.heap.size v9 ((fillsL nL st).take j) ∧ Below w2.heap.size w2 wr) (fun _ _ v33 _ => m - (intOf v33).toNat)
        case atStart => exact ⟨0, rfl, by omega, OwnS.nil _ _, Below.refl _ _⟩
        case round =>
          obtain ⟨j, rfl, hj, ho, hb3⟩ := hrel
          have HO := hide ho
          have HB3 := hide hb3
          have HB3W := hide (below_up HB2.out hb3 HB2.out.size)
          have HNR := hide (HN.out wr HB3W.out)
          clear ho hb3
          by_cases hlt2 : j < m
          · obtain ⟨y, hy⟩ : ∃ y, nL[j]? = some y := ⟨nL[j]'(by have := HMM.out; omega), List.getElem?_eq_getElem _⟩
            obtain ⟨gs2, o2, rfl, hgs2, hcy⟩ := HNR.out j y hy
            have hys := HSZ.out.n y (List.mem_of_getElem? hy)
            have HFI := hide (fill_any y.data.toList st wr (HOK.out.mx.below HB3W.out) (by rw [data_len]; omega) (by omega))
            rw [bs_of] at HFI
            have HTK := hide (fills_take (st := st) hy)
            obtain ⟨z, hz⟩ : ∃ z, bs (fillT y.data.toList st) = z := ⟨_, rfl⟩
            rw [hz] at HFI HTK
            have b2 : (j : Int) < (m : Int) := by omega
            have hql : ((fillsL nL st).take j).length ≤ 100000 := by rw [List.length_take]; omega
            clear hy hz hys
            go_wp2_with fail
            refine HFI.out.mono ?_
            rintro e w3 ⟨rfl, hb4⟩
            obtain ⟨v4, w4, r4, o4, g4, b4⟩ := run_appS (c := 1) (OwnS.alloc (HO.out.below' hb4) (.cells #[.string z] 9)) (sr_new w3 z) (by have := HB3.out.size; have := hb4.size; simp; omega) (by simp; omega)
            have HO4 := hide o4
            have HB4 := hide (((below_up HB3.out hb4 HB3.out.size).alloc (by have := HB3.out.size; have := hb4.size; omega) (.cells #[.string z] 9)).trans ((Below.refl w2.heap.size _).grown g4 (by have := HB3.out.size; have := hb4.size; simp; omega) (fun q hq => (World.ownsRow.lt HO.out q hq).1)))
            clear o4 g4 b4 hb4
            go_wp2_with (at_builtin; refine wpList_app_run ?_ (.tmp 37) (.tmp 41) ?_ ?_ ?_ ?_ r4 ?_; exact rfl; exact rfl; exact rfl; exact rfl; exact rfl)
            go_roundw
            case rel => exact ⟨j + 1, by go_num, by omega, by rw [HTK.out]; exact HO4.out, HB4.out⟩
            case measure => simp [intOf]; omega
          · obtain rfl : j = m := by omega
            have HTF := hide (show (fillsL nL st).take j = fillsL nL st from List.take_of_length_le (by rw [fills_len]; have := HMM.out; omega))
            rw [HTF.out] at HO
            have hfl := fills_len nL st
            rw [HMM.out] at hfl
            have hfz : ∀ s ∈ fillsL nL st, s.size ≤ 6500000 := by
              intro s hs
              obtain ⟨y, hy, rfl⟩ := List.mem_map.1 hs
              have := fillT_len y.data.toList st
              have h3 := HSZ.out.n y hy
              rw [data_len] at this
              rw [bs_size]
              omega
            have HFF := hide (HFO.out)
            have hR2 : R = if thereF C.S C.cwd kl (fillsL nL st) = true then some (takesF p (fillsL nL st) rL st) else none := by
              rw [HR.out, HFO.out]
            have HWS := hide HB2.out.size
            obtain ⟨FL, hFL⟩ : ∃ l, fillsL nL st = l := ⟨_, rfl⟩
            rw [hFL] at HO hfl hfz hR2
            obtain ⟨A9, c9, rfl, _, hs9, hb9⟩ := HO.out.slice
            have HHW := hide (HH.out.step HB3W.out)
            have hok3 := HOK.out.below HB3W.out
            have HTH := hide (there_any w0 C g b kl p T A9 c9 FL wr hok3 HHW.out hs9 (by omega) hfz)
            have HS9 := hide hs9
            have HB9 := hide (fun a (e : A9 = some a) => (World.ownsRow.lt HO.out a.block (hb9 a e)).1)
            rw [hfl] at HTH ⊢
            have HFL := hide hfl
            obtain ⟨tb, htb⟩ : ∃ q, thereF C.S C.cwd kl FL = q := ⟨_, rfl⟩
            rw [htb] at HTH hR2
            have hnbr := (HB3W.out.block w.heap.size)
            clear hfz hFL hs9 hb9 hok3 hfl htb hnbr
            cases tb with
            | false =>
              have HE := hide (hR2.trans (if_neg (by simp)))
              clear hR2
              go_wp2_with fail
              refine HTH.out.mono ?_
              rintro e w4 ⟨rfl, hb4⟩
              have HB4 := hide (below_up HB3W.out hb4 HB3W.out.size)
              clear hb4
              go_wp2
              go_ret
              unfold TryP
              rw [HE.out]
              exact ⟨rfl, HH.out.toP HB4.out⟩
            | true =>
              have HE := hide (hR2.trans (if_pos rfl))
              clear hR2
              have hd2w := (HB3.out.cell (p := ⟨w.heap.size, 2, none⟩) (World.block_lt_of_cell? _ _ hd22)).trans hd22
              go_wp2_with fail
              refine HTH.out.mono ?_
              rintro e w4 ⟨rfl, hb4⟩
              have HB4 := hide (below_up HB3W.out hb4 HB3W.out.size)
              have hd24 := (hb4.cell (p := ⟨w.heap.size, 2, none⟩) (World.block_lt_of_cell? _ _ hd2w)).trans hd2w
              have HTA := hide (takes_any w0 C g (some b) kl p T A9 c9 FL rA rc rL st w4 (HH.out.step HB4.out) (HS9.out.below hb4) (fun a e _ ht => by
                have h1 := HB9.out a e
                have h2 := (HH.out.tw _ ht).2
                have h3 := HWS.out
                omega) (HC.out w4 HB4.out) (fun a e hne ht => by
                have h1 := HLOW.out.1.rc.lt e hne
                have h2 := (HH.out.tw _ ht).1
                omega) (by have := HFL.out; omega) (by have := HQQ.out; omega) (by omega))
              rw [HFL.out, HQQ.out] at HTA
              clear hb4
              go_wp2_with fail
              refine HTA.out.mono ?_
              rintro e w5 ⟨rfl, hf5⟩
              have HF5 := hide (hf5.after HB4.out)
              clear hf5
              go_wp2
              go_ret
              unfold TryP
              rw [HE.out]
              exact ⟨rfl, HF5.out⟩
    · obtain rfl : k = n := by omega
      have HE := hide (show R = none by
        have := HFN.out
        rw [List.take_of_length_le (by have := HNN.out; omega)] at this
        rw [HR.out, this])
      go_wp2
      go_ret
      unfold TryP
      rw [HE.out]
      exact ⟨rfl, HH.out.toP HBW.out⟩
end Go.Proofs.YtaajofojbhdgaaaGreatDoor
