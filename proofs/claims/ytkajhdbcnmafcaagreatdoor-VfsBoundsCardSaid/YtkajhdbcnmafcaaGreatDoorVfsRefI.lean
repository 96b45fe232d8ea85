/- Walk of the reference's Write. -/
import Derived.Test.YtkajhdbcnmafcaaGreatDoorVfsRefH
namespace Go.Proofs.YtkajhdbcnmafcaaGreatDoor
open Go.RowKit Go.Deep Go.Maps Ln Pth Vf
set_option linter.unusedSimpArgs false
set_option linter.unusedVariables false
attribute [local go_sem] bt_eq

/-- two appends, and the node put -/
theorem write_put (g : Nat) (S : St) (A : Option Addr) (c : Nat) (P : List NV) (w1 : World) (h : RSO g S A c P w1) (hl : P.length ≤ 10000) (q : T) (B : Option Addr) (d : Nat) (was : T) (hB : RG encB 1 w1 B was) (hBg : ∀ a, B = some a → was ≠ [] → a.block ≠ g)
    (Bb : Option Addr) (cb : Nat) (b : T) (hb : RG encB 1 w1 Bb b) (hbg : ∀ a, Bb = some a → b ≠ [] → a.block ≠ g) (hsz : was.length + b.length ≤ 1000000) (S' : St) (hm : S'.m = putG (bs q, ⟨false, was ++ b, S.clock + 1⟩) S.m) (h1 : S'.nodes = S.nodes) (h2 : S'.bytes = S.bytes) (h3 : S'.clock = S.clock + 1) :
    ∃ v2 w2 A3 c3 w3, (Builtin.append_ #[23, 23] 23 #[.slice none 0 0, .slice B was.length d]).run Tryz.prog (w1.setCell ⟨g, 3, none⟩ (.int .i64 ((S.clock : Int) + 1))).drew = .ok v2 w2 ∧
      (Builtin.append_ #[23, 23] 23 #[v2, .slice Bb b.length cb]).run Tryz.prog w2 = .ok (.slice A3 (was ++ b).length c3) w3 ∧
      w2.cell? ⟨g, 3, none⟩ = some (.int .i64 ((S.clock : Int) + 1)) ∧ w3.cell? ⟨g, 3, none⟩ = some (.int .i64 ((S.clock : Int) + 1)) ∧
      Calls Tryz.prog 107 #[.pointer (some ⟨g, 0, none⟩), .agg #[.string (bs q), .bool false, .slice A3 (was ++ b).length c3, .int .i64 ((S.clock : Int) + 1)]] w3 fun e w' => e = .returned (.tuple #[]) ∧ RK g S' w1 A P w' ∧ w'.cell? ⟨g, 3, none⟩ = some (.int .i64 ((S.clock : Int) + 1)) := by
  have ht := h.tick (S.clock + 1)
  rw [show ((S.clock + 1 : Nat) : Int) = (S.clock : Int) + 1 from rfl] at ht
  have ht := ht.drew
  have hk : Kp w1 (w1.setCell ⟨g, 3, none⟩ (.int .i64 ((S.clock : Int) + 1))).drew (fun k => k = g) := (Kp.set w1 g 3 (.int .i64 ((S.clock : Int) + 1))).then (Kp.of_below (Below.refl _ _).drew _)
  have hBt := hB.kp hk hBg
  have hbt := hb.kp hk hbg
  obtain ⟨wt, hwt⟩ : ∃ W, (w1.setCell ⟨g, 3, none⟩ (.int .i64 ((S.clock : Int) + 1))).drew = W := ⟨_, rfl⟩
  rw [hwt] at ht hk hBt hbt ⊢
  obtain ⟨v2, w2, r2, o2, g2, b2⟩ := run_appY (c := d) (OwnG.nil wt wt.heap.size) hBt (Nat.le_refl _) (by simp; omega)
  have hb2 : Below wt.heap.size wt w2 := Below.of_gb g2 (Nat.le_refl _) (fun k hk => by cases hk)
  rw [List.nil_append] at o2
  have n2 : ∀ k, v2.ownBlock = some k → wt.heap.size ≤ k := fun k hk => (o2.lt k hk).1
  obtain ⟨v3, w3, r3, o3, g3, b3⟩ := run_appY (c := cb) o2 (hbt.below hb2) hb2.size (by omega)
  have hb3 : Below wt.heap.size wt w3 := hb2.trans (Below.of_gb g3 hb2.size n2)
  obtain ⟨A3, c3, rfl, hc3L, hr3, hob3, _⟩ := OwnG.slice encB_len o3
  have hA3 : ∀ a, A3 = some a → wt.heap.size ≤ a.block := fun a e => (o3.lt _ (hob3 a e)).1
  have hgl : g < wt.heap.size := (Array.getElem?_eq_some_iff.1 ht.heap).1
  have ho3 := ht.below hb3
  refine ⟨v2, w2, A3, c3, w3, r2, r3, cellOf (ht.below hb2).heap (j := 3) rfl, cellOf ho3.heap (j := 3) rfl, ?_⟩
  refine (rput_any g { S with clock := S.clock + 1 } A c P (bs q, ⟨A3, c3, ⟨false, was ++ b, S.clock + 1⟩⟩) w3 ho3 hl).mono ?_
  rintro e w' ⟨rfl, A', c', hg', hc', hr', hA', hgb⟩
  have hk3 : Kp w1 w3 (fun k => k = g) := hk.then (Kp.of_below hb3 _)
  have hk' := Kp.ofGb hgb
  have hc3 := cellOf hg' (j := 3) rfl
  refine ⟨rfl, ⟨A', c', _, RSO.putted (x := (bs q, ⟨A3, c3, ⟨false, was ++ b, S.clock + 1⟩⟩)) ho3 hm (by rw [hg', h1, h2, h3]) hc' hr' hA' hk' hr3 (fun a e _ => by have := hA3 a e; omega) hc3L, hk3.then hk', fun a e _ => .inl (by have := hA' a e; have := hk3.size; omega), fun x hx a e hn => ?_⟩, hc3⟩
  rcases mem_putG hx with rfl | hx
  · exact .inl (by have := hA3 a e; have := hk.size; omega)
  · exact .inr ⟨x, hx, e, hn⟩
/-- what Write makes, case by case -/
theorem writeS_bad {S : St} {p b : T} {more : Bool} (h : (absS S p).2 ≠ 0) : writeS S p b more = (S, (absS S p).2) := by
  unfold writeS
  rw [if_pos h]
theorem writeS_dir {S : St} {p b : T} {more : Bool} (h : (absS S p).2 = 0) (hk : kindM S.m (absS S p).1 = 2) : writeS S p b more = (S, 10) := by
  unfold writeS writeQ
  rw [if_neg (by simp [h]), if_pos hk]
theorem writeS_new {S : St} {p b : T} {more : Bool} (h : (absS S p).2 = 0) (hk : kindM S.m (absS S p).1 = 0) : writeS S p b more = if S.m.length + 1 ≤ S.nodes ∧ S.used + b.length ≤ S.bytes then ({ Vf.putS S (absS S p).1 false b with used := S.used + b.length }, 0) else (S, 13) := by
  have hd : dataM S.m (absS S p).1 = [] := by unfold dataM; rw [getG_kind hk]
  unfold writeS writeQ
  rw [if_neg (by simp [h]), if_neg (by omega), if_pos hk, hd]
  cases more <;> simp
theorem writeS_old {S : St} {p b : T} {more : Bool} (hS : WfS S) (h : (absS S p).2 = 0) (hk : kindM S.m (absS S p).1 = 1) : writeS S p b more = if S.used + ((if more = true then dataM S.m (absS S p).1 else []).length + b.length) ≤ S.bytes + (dataM S.m (absS S p).1).length then ({ Vf.putS S (absS S p).1 false ((if more = true then dataM S.m (absS S p).1 else []) ++ b) with used := S.used + ((if more = true then dataM S.m (absS S p).1 else []).length + b.length) - (dataM S.m (absS S p).1).length }, 0) else (S, 13) := by
  unfold writeS writeQ
  have hn := hS.nodes
  rw [if_neg (by simp [h]), if_neg (by omega), if_neg (show ¬ kindM S.m (absS S p).1 = 0 by omega)]
  dsimp only
  generalize (if more = true then dataM S.m (absS S p).1 else []) = was
  by_cases hc : S.used + (was.length + b.length) ≤ S.bytes + (dataM S.m (absS S p).1).length
  · rw [if_pos ⟨by omega, hc⟩, if_pos hc]
  · rw [if_neg (fun h => hc h.2), if_neg hc]
set_option maxRecDepth 100000 in
set_option maxHeartbeats 4000000 in
theorem rwrite4_any (g : Nat) (S : St) (A : Option Addr) (c : Nat) (P : List NV) (p : T) (Bb : Option Addr) (cb : Nat) (b : T) (more : Bool) (w : World) (h : RSO g S A c P w) (hS : WfS S) (hp : p.length ≤ 100000) (hby : S.bytes ≤ 400000) (hck : S.clock ≤ 1000000000) (hbl : b.length ≤ 400000) (hbb : RG encB 1 w Bb b) (hbg : ∀ a, Bb = some a → b ≠ [] → a.block ≠ g) :
    Calls Tryz.prog 52 #[.pointer (some ⟨g, 0, none⟩), .string (bs p), .slice Bb b.length cb, .bool more] w fun e w' => e = .returned (.int .i64 (writeS S p b more).2) ∧ RK g (writeS S p b more).1 w A P w' := by
  have hl := row_len hS h.eq
  have HF := hide (rfind_abs g S A c P p w h (by omega) hp)
  have H := hide h
  have HKD0 := hide (fun (q : T) (W : World) (hb : Below w.heap.size w W) => rkind_any g S A c P q W (h.below hb) (by omega))
  have hml : S.m.length = P.length := by rw [h.eq, stripN_len]
  have hnl := hS.nodes
  have hn10 := hS.n10
  have hus := hS.bytes
  have hsz := sizeR_eq h.eq hS
  have HSZ := hide (fun (W : World) (hb : Below w.heap.size w W) => rsize_any g S A c P W (h.below hb) (by omega) (by omega))
  have HAT1 := hide (fun (q : T) (W : World) (hb : Below w.heap.size w W) => rat4_any g S A c P (bs q) W (h.below hb) (by omega))
  have HFN := hide (fun (q : T) (hk : kindM S.m q = 1) => file_node h.eq hk)
  have HR1 := hide (writeS_bad (S := S) (p := p) (b := b) (more := more))
  have HR2 := hide (writeS_dir (S := S) (p := p) (b := b) (more := more))
  have HR3 := hide (writeS_new (S := S) (p := p) (b := b) (more := more))
  have HR4 := hide (writeS_old (S := S) (p := p) (b := b) (more := more) hS)
  have HWP := hide (fun (q : T) (B : Option Addr) (d : Nat) (was : T) (W : World) (hb : Below w.heap.size w W) => write_put g S A c P W (h.below hb) (by omega) q B d was)
  have HBB := hide (fun (W : World) (hb : Below w.heap.size w W) => hbb.below hb)
  have HBG := hide hbg
  have hdl0 := fun q => dataM_len hS q
  have HDL := hide hdl0
  rw [hsz] at HSZ
  obtain ⟨r, hr⟩ : ∃ r, absS S p = r := ⟨_, rfl⟩
  obtain ⟨q0, e⟩ := r
  rw [hr] at HF HR1 HR2 HR3 HR4
  dsimp only at HF HR1 HR2 HR3 HR4
  obtain ⟨R, hR⟩ : ∃ R, writeS S p b more = R := ⟨_, rfl⟩
  rw [hR] at HR1 HR2 HR3 HR4 ⊢
  obtain ⟨n, hn⟩ : ∃ n, P.length = n := ⟨_, rfl⟩
  rw [hml, hn] at HR3
  rw [hn] at hl hml
  have HN := hide hn
  obtain ⟨bl, hbln⟩ : ∃ n, b.length = n := ⟨_, rfl⟩
  rw [hbln] at HR3 HR4 hbl ⊢
  have HBL := hide hbln
  obtain ⟨us, husn⟩ : ∃ n, S.used = n := ⟨_, rfl⟩
  obtain ⟨by_, hbyn⟩ : ∃ n, S.bytes = n := ⟨_, rfl⟩
  rw [husn] at HR3 HR4 HSZ hus
  have HUS := hide husn
  have HBY := hide hbyn
  rw [hbyn] at HR3 HR4 hus hby
  have hci : (S.clock : Int) ≤ 1000000000 := by omega
  have hni : (n : Int) ≤ 10000 := by omega
  have hnd : (S.nodes : Int) ≤ 10000 := by omega
  have hbli : (bl : Int) ≤ 400000 := by omega
  have hbyi : (by_ : Int) ≤ 400000 := by omega
  have husi : (us : Int) ≤ 400000 := by omega
  clear hr hR h hp hS hbb hbg hsz hn hbln husn hbyn hdl0
  go_enter Tryz.func52, Tryz.ntmps52
  go_wp2_with fail
  refine HF.out.mono ?_
  rintro e1 w1 ⟨q, rfl, hq, hql, hb⟩
  have HB := hide hb
  clear hb hql
  by_cases c1 : e = 0
  case neg =>
    obtain ⟨t1, t2⟩ := ne0 c1
    have HE := hide (HR1.out c1)
    clear c1 hq
    go_wp2
    go_ret
    rw [HE.out]
    exact ⟨rfl, RK.stay H.out HB.out⟩
  subst c1
  have hq1 := hq rfl
  subst hq1
  have hkl := kind_le S.m q
  have HKD := hide (HKD0.out q)
  have HAT0 := hide (HAT1.out q)
  have HDQ := hide (HDL.out q)
  clear hq HF
  by_cases k2 : kindM S.m q = 2
  · have HE := hide (HR2.out rfl k2)
    rw [k2] at HKD
    clear hkl k2
    go_wp2_with fail
    refine (HKD.out w1 HB.out).mono ?_
    rintro e w' ⟨rfl, rfl⟩
    go_wp2
    go_ret
    rw [HE.out]
    exact ⟨rfl, RK.stay H.out HB.out⟩
  by_cases k0 : kindM S.m q = 0
  · have HE := hide (HR3.out rfl k0)
    rw [k0] at HKD
    clear hkl k2 k0
    by_cases c3 : S.nodes ≤ n
    · have hni2 : (S.nodes : Int) ≤ (n : Int) := by omega
      have HE := hide (HE.out.trans (if_neg (by omega)))
      go_wp2_with fail
      refine (HKD.out w1 HB.out).mono ?_
      rintro e w' ⟨rfl, rfl⟩
      have ho := H.out.below HB.out
      have hg := ho.heap
      rw [HN.out] at hg
      have hc2 := cellOf hg (j := 2) (v := .slice A n c) rfl
      have hc0 := cellOf hg (j := 0) (v := .int .i64 S.nodes) rfl
      clear ho hg
      go_wp2_with fail
      go_quiet (fail)
      go_wp2
      go_ret
      rw [HE.out]
      exact ⟨rfl, RK.stay H.out (below_drewN HB.out _)⟩
    have hni2 : ¬ (S.nodes : Int) ≤ (n : Int) := by omega
    have HFULL := hide (fun (h : by_ < bl ∨ by_ < us + bl) => HE.out.trans (if_neg (by omega)))
    have HOK := hide (fun (h1 : bl ≤ by_) (h : us + bl ≤ by_) => HE.out.trans (if_pos ⟨by omega, by omega⟩))
    have HPUT := hide (fun (h1 : bl ≤ by_) (h : us + bl ≤ by_) (W : World) (hb : Below w.heap.size w W) => HWP.out q none 0 [] W hb (fun k x hk => by simp at hk) (fun a e => by cases e) Bb cb b (HBB.out W hb) HBG.out (by simp; have := HBL.out; omega) { Vf.putS S q false b with used := us + bl } rfl rfl rfl rfl)
    rw [List.nil_append, HBL.out, List.length_nil] at HPUT
    clear HE
    cases more with
    | true =>
      go_wp2_with fail
      refine (HKD.out w1 HB.out).mono ?_
      rintro e w' ⟨rfl, rfl⟩
      have ho := H.out.below HB.out
      have hg := ho.heap
      rw [HN.out] at hg
      have hc2 := cellOf hg (j := 2) (v := .slice A n c) rfl
      have hc0 := cellOf hg (j := 0) (v := .int .i64 S.nodes) rfl
      clear ho hg
      go_wp2_with fail
      go_quiet (fail)
      have HBW := hide (below_drewN HB.out nq)
      clear hc2 hc0
      obtain ⟨W, hW⟩ : ∃ W, w1.drewN nq = W := ⟨_, rfl⟩
      rw [hW] at HBW ⊢
      clear hW
      go_wp2_with fail
      refine (HSZ.out W HBW.out).mono ?_
      rintro e w' ⟨rfl, rfl⟩
      have hgW := (H.out.below HBW.out).heap
      rw [HN.out] at hgW
      have hc1 := cellOf hgW (j := 1) (v := .int .i64 S.bytes) rfl
      rw [HBY.out] at hc1
      have hc3 := cellOf hgW (j := 3) (v := .int .i64 S.clock) rfl
      have hf3 := freeOf hgW 3
      clear hgW
      by_cases t1 : by_ < bl
      · have HE := hide (HFULL.out (.inl t1))
        have t1i : (by_ : Int) < (bl : Int) := by omega
        go_wp2
        go_ret
        rw [HE.out]
        exact ⟨rfl, RK.stay H.out HBW.out⟩
      have t1i : ¬ (by_ : Int) < (bl : Int) := by omega
      by_cases t2 : by_ < us + bl
      · have HE := hide (HFULL.out (.inr t2))
        have t2i : (by_ : Int) < (us : Int) + (bl : Int) := by omega
        go_wp2
        go_ret
        rw [HE.out]
        exact ⟨rfl, RK.stay H.out HBW.out⟩
      have t2i : ¬ (by_ : Int) < (us : Int) + (bl : Int) := by omega
      have HE := hide (HOK.out (by omega) (by omega))
      obtain ⟨v2, w2, A3, c3, w3, r2, r3, hs2, hs3, hput⟩ := HPUT.out (by omega) (by omega) W HBW.out
      have HPT := hide hput
      have hs1 : (W.setCell ⟨g, 3, none⟩ (.int .i64 ((S.clock : Int) + 1))).drew.cell? ⟨g, 3, none⟩ = some (.int .i64 ((S.clock : Int) + 1)) := World.cell?_setCell_same' W _ _ (by rw [hc3]; rfl)
      clear hput t1 t2
      go_wp2_with fail
      refine wp_region_held_drew (S := (fun W => W.cell? ⟨g, 3, none⟩ = some (.int .i64 ((S.clock : Int) + 1)))) (by kernel_rfl) hs1 (fun hHeld => ?_)
      refine wpAnyH_tk (i := 0) (oi := _) (v := ?vKt0) rfl rfl (by kernel_rfl) (by kernel_rfl) (by kernel_rfl) (fun _ _ _ h => h) (Or.inl ⟨by kernel_rfl, ?yKt0⟩) (by assumption) ?rKt0
      case yKt0 =>
        intro w hSw
        (try dsimp only at hSw)
        go_simp
        try with_reducible rfl
      try simp only [List.setIfInBounds_toArray, List.set_cons_zero, List.set_cons_succ]
      refine wpAnyH_tk (i := 1) (oi := _) (v := ?vKt1) rfl rfl (by kernel_rfl) (by kernel_rfl) (by kernel_rfl) (fun _ _ _ h => h) (Or.inl ⟨by kernel_rfl, ?yKt1⟩) (by assumption) ?rKt1
      case yKt1 =>
        intro w hSw
        (try dsimp only at hSw)
        go_simp
        try with_reducible rfl
      try simp only [List.setIfInBounds_toArray, List.set_cons_zero, List.set_cons_succ]
      refine wpAnyH_tk (i := 2) (oi := _) (v := ?vKt2) rfl rfl (by kernel_rfl) (by kernel_rfl) (by kernel_rfl) (fun _ _ _ h => h) (Or.inl ⟨by kernel_rfl, ?yKt2⟩) (by assumption) ?rKt2
      case yKt2 =>
        intro w hSw
        (try dsimp only at hSw)
        go_simp
        try with_reducible rfl
      try simp only [List.setIfInBounds_toArray, List.set_cons_zero, List.set_cons_succ]
      refine wpAnyH_tk (i := 4) (oi := _) (v := ?vKt4) rfl rfl (by kernel_rfl) (by kernel_rfl) (by kernel_rfl) (fun _ _ _ h => h) (Or.inl ⟨by kernel_rfl, ?yKt4⟩) (by assumption) ?rKt4
      case yKt4 =>
        intro w hSw
        (try dsimp only at hSw)
        go_simp
        try with_reducible rfl
      try simp only [List.setIfInBounds_toArray, List.set_cons_zero, List.set_cons_succ]
      refine wpAnyH_tk (i := 6) (oi := _) (v := ?vKt6) rfl rfl (by kernel_rfl) (by kernel_rfl) (by kernel_rfl) (fun _ _ _ h => h) (Or.inl ⟨by kernel_rfl, ?yKt6⟩) (by assumption) ?rKt6
      case yKt6 =>
        intro w hSw
        (try dsimp only at hSw)
        go_simp
        try with_reducible rfl
      try simp only [List.setIfInBounds_toArray, List.set_cons_zero, List.set_cons_succ]
      refine wpAnyH_tk (i := 7) (oi := _) (v := ?vKt7) rfl rfl (by kernel_rfl) (by kernel_rfl) (by kernel_rfl) (fun _ _ _ h => h) (Or.inl ⟨by kernel_rfl, ?yKt7⟩) (by assumption) ?rKt7
      case yKt7 =>
        intro w hSw
        (try dsimp only at hSw)
        go_simp
        try with_reducible rfl
      try simp only [List.setIfInBounds_toArray, List.set_cons_zero, List.set_cons_succ]
      refine wpAnyH_tk (i := 8) (oi := _) (v := ?vKt8) rfl rfl (by kernel_rfl) (by kernel_rfl) (by kernel_rfl) (fun _ _ _ h => h) (Or.inl ⟨by kernel_rfl, ?yKt8⟩) (by assumption) ?rKt8
      case yKt8 =>
        intro w hSw
        (try dsimp only at hSw)
        go_simp
        try with_reducible rfl
      try simp only [List.setIfInBounds_toArray, List.set_cons_zero, List.set_cons_succ]
      refine wpAnyH_tk (i := 9) (oi := _) (v := ?vKt9) rfl rfl (by kernel_rfl) (by kernel_rfl) (by kernel_rfl) (fun _ _ _ h => h) (Or.inl ⟨by kernel_rfl, ?yKt9⟩) (by assumption) ?rKt9
      case yKt9 =>
        intro w hSw
        (try dsimp only at hSw)
        go_simp
        try with_reducible rfl
      try simp only [List.setIfInBounds_toArray, List.set_cons_zero, List.set_cons_succ]
      refine wpAnyH_ready (rs := [3]) (by kernel_rfl) (by simp) ?_
      refine AllReadyH.cons (o := _) rfl (fun K hK => ?_) AllReadyH.nil
      refine step_app_run rfl _ _ rfl rfl rfl rfl r2 ?_
      refine hK.out _ _ hs2 (fun _ => ?_)
      clear hK K
      try simp only [Act.put, List.setIfInBounds_toArray, List.set_cons_zero, List.set_cons_succ]
      refine wpAnyH_ready (rs := [5]) (by kernel_rfl) (by simp) ?_
      refine AllReadyH.cons (o := _) rfl (fun K hK => ?_) AllReadyH.nil
      refine step_app_run rfl _ _ rfl rfl rfl rfl r3 ?_
      refine hK.out _ _ hs3 (fun _ => ?_)
      clear hK K
      try simp only [Act.put, List.setIfInBounds_toArray, List.set_cons_zero, List.set_cons_succ]
      refine wpAnyH_tk (i := 10) (oi := _) (v := ?vKt10) rfl rfl (by kernel_rfl) (by kernel_rfl) (by kernel_rfl) (fun _ _ _ h => h) (Or.inl ⟨by kernel_rfl, ?yKt10⟩) (by assumption) ?rKt10
      case yKt10 =>
        intro w hSw
        (try dsimp only at hSw)
        go_simp
        try with_reducible rfl
      try simp only [List.setIfInBounds_toArray, List.set_cons_zero, List.set_cons_succ]
      refine wpAnyH_ready (rs := [11]) (by kernel_rfl) (by simp) ?_
      refine AllReadyH.cons (o := _) rfl (fun K hK => ?_) AllReadyH.nil
      rw [if_pos (by kernel_rfl)]
      go_simp
      refine HPT.out.mono ?_
      rintro e w' ⟨rfl, hrk, hlast⟩
      have HRK := hide hrk
      clear hrk
      refine hK.out _ _ hlast (fun _ => ?_)
      clear hK K
      try simp only [Act.put, List.setIfInBounds_toArray, List.set_cons_zero, List.set_cons_succ]
      refine wpAnyH_done (by kernel_rfl) ?_ _
      go_wp2
      go_ret
      rw [HE.out]
      exact ⟨rfl, RK.pre HBW.out HRK.out⟩
    | false =>
      go_wp2_with fail
      refine (HKD.out w1 HB.out).mono ?_
      rintro e w' ⟨rfl, rfl⟩
      have ho := H.out.below HB.out
      have hg := ho.heap
      rw [HN.out] at hg
      have hc2 := cellOf hg (j := 2) (v := .slice A n c) rfl
      have hc0 := cellOf hg (j := 0) (v := .int .i64 S.nodes) rfl
      clear ho hg
      go_wp2_with fail
      go_quiet (fail)
      have HBW := hide (below_drewN HB.out nq)
      clear hc2 hc0
      obtain ⟨W, hW⟩ : ∃ W, w1.drewN nq = W := ⟨_, rfl⟩
      rw [hW] at HBW ⊢
      clear hW
      go_wp2_with fail
      refine (HSZ.out W HBW.out).mono ?_
      rintro e w' ⟨rfl, rfl⟩
      have hgW := (H.out.below HBW.out).heap
      rw [HN.out] at hgW
      have hc1 := cellOf hgW (j := 1) (v := .int .i64 S.bytes) rfl
      rw [HBY.out] at hc1
      have hc3 := cellOf hgW (j := 3) (v := .int .i64 S.clock) rfl
      have hf3 := freeOf hgW 3
      clear hgW
      by_cases t1 : by_ < bl
      · have HE := hide (HFULL.out (.inl t1))
        have t1i : (by_ : Int) < (bl : Int) := by omega
        go_wp2
        go_ret
        rw [HE.out]
        exact ⟨rfl, RK.stay H.out HBW.out⟩
      have t1i : ¬ (by_ : Int) < (bl : Int) := by omega
      by_cases t2 : by_ < us + bl
      · have HE := hide (HFULL.out (.inr t2))
        have t2i : (by_ : Int) < (us : Int) + (bl : Int) := by omega
        go_wp2
        go_ret
        rw [HE.out]
        exact ⟨rfl, RK.stay H.out HBW.out⟩
      have t2i : ¬ (by_ : Int) < (us : Int) + (bl : Int) := by omega
      have HE := hide (HOK.out (by omega) (by omega))
      obtain ⟨v2, w2, A3, c3, w3, r2, r3, hs2, hs3, hput⟩ := HPUT.out (by omega) (by omega) W HBW.out
      have HPT := hide hput
      have hs1 : (W.setCell ⟨g, 3, none⟩ (.int .i64 ((S.clock : Int) + 1))).drew.cell? ⟨g, 3, none⟩ = some (.int .i64 ((S.clock : Int) + 1)) := World.cell?_setCell_same' W _ _ (by rw [hc3]; rfl)
      clear hput t1 t2
      go_wp2_with fail
      refine wp_region_held_drew (S := (fun W => W.cell? ⟨g, 3, none⟩ = some (.int .i64 ((S.clock : Int) + 1)))) (by kernel_rfl) hs1 (fun hHeld => ?_)
      refine wpAnyH_tk (i := 0) (oi := _) (v := ?vKf0) rfl rfl (by kernel_rfl) (by kernel_rfl) (by kernel_rfl) (fun _ _ _ h => h) (Or.inl ⟨by kernel_rfl, ?yKf0⟩) (by assumption) ?rKf0
      case yKf0 =>
        intro w hSw
        (try dsimp only at hSw)
        go_simp
        try with_reducible rfl
      try simp only [List.setIfInBounds_toArray, List.set_cons_zero, List.set_cons_succ]
      refine wpAnyH_tk (i := 1) (oi := _) (v := ?vKf1) rfl rfl (by kernel_rfl) (by kernel_rfl) (by kernel_rfl) (fun _ _ _ h => h) (Or.inl ⟨by kernel_rfl, ?yKf1⟩) (by assumption) ?rKf1
      case yKf1 =>
        intro w hSw
        (try dsimp only at hSw)
        go_simp
        try with_reducible rfl
      try simp only [List.setIfInBounds_toArray, List.set_cons_zero, List.set_cons_succ]
      refine wpAnyH_tk (i := 2) (oi := _) (v := ?vKf2) rfl rfl (by kernel_rfl) (by kernel_rfl) (by kernel_rfl) (fun _ _ _ h => h) (Or.inl ⟨by kernel_rfl, ?yKf2⟩) (by assumption) ?rKf2
      case yKf2 =>
        intro w hSw
        (try dsimp only at hSw)
        go_simp
        try with_reducible rfl
      try simp only [List.setIfInBounds_toArray, List.set_cons_zero, List.set_cons_succ]
      refine wpAnyH_tk (i := 4) (oi := _) (v := ?vKf4) rfl rfl (by kernel_rfl) (by kernel_rfl) (by kernel_rfl) (fun _ _ _ h => h) (Or.inl ⟨by kernel_rfl, ?yKf4⟩) (by assumption) ?rKf4
      case yKf4 =>
        intro w hSw
        (try dsimp only at hSw)
        go_simp
        try with_reducible rfl
      try simp only [List.setIfInBounds_toArray, List.set_cons_zero, List.set_cons_succ]
      refine wpAnyH_tk (i := 6) (oi := _) (v := ?vKf6) rfl rfl (by kernel_rfl) (by kernel_rfl) (by kernel_rfl) (fun _ _ _ h => h) (Or.inl ⟨by kernel_rfl, ?yKf6⟩) (by assumption) ?rKf6
      case yKf6 =>
        intro w hSw
        (try dsimp only at hSw)
        go_simp
        try with_reducible rfl
      try simp only [List.setIfInBounds_toArray, List.set_cons_zero, List.set_cons_succ]
      refine wpAnyH_tk (i := 7) (oi := _) (v := ?vKf7) rfl rfl (by kernel_rfl) (by kernel_rfl) (by kernel_rfl) (fun _ _ _ h => h) (Or.inl ⟨by kernel_rfl, ?yKf7⟩) (by assumption) ?rKf7
      case yKf7 =>
        intro w hSw
        (try dsimp only at hSw)
        go_simp
        try with_reducible rfl
      try simp only [List.setIfInBounds_toArray, List.set_cons_zero, List.set_cons_succ]
      refine wpAnyH_tk (i := 8) (oi := _) (v := ?vKf8) rfl rfl (by kernel_rfl) (by kernel_rfl) (by kernel_rfl) (fun _ _ _ h => h) (Or.inl ⟨by kernel_rfl, ?yKf8⟩) (by assumption) ?rKf8
      case yKf8 =>
        intro w hSw
        (try dsimp only at hSw)
        go_simp
        try with_reducible rfl
      try simp only [List.setIfInBounds_toArray, List.set_cons_zero, List.set_cons_succ]
      refine wpAnyH_tk (i := 9) (oi := _) (v := ?vKf9) rfl rfl (by kernel_rfl) (by kernel_rfl) (by kernel_rfl) (fun _ _ _ h => h) (Or.inl ⟨by kernel_rfl, ?yKf9⟩) (by assumption) ?rKf9
      case yKf9 =>
        intro w hSw
        (try dsimp only at hSw)
        go_simp
        try with_reducible rfl
      try simp only [List.setIfInBounds_toArray, List.set_cons_zero, List.set_cons_succ]
      refine wpAnyH_ready (rs := [3]) (by kernel_rfl) (by simp) ?_
      refine AllReadyH.cons (o := _) rfl (fun K hK => ?_) AllReadyH.nil
      refine step_app_run rfl _ _ rfl rfl rfl rfl r2 ?_
      refine hK.out _ _ hs2 (fun _ => ?_)
      clear hK K
      try simp only [Act.put, List.setIfInBounds_toArray, List.set_cons_zero, List.set_cons_succ]
      refine wpAnyH_ready (rs := [5]) (by kernel_rfl) (by simp) ?_
      refine AllReadyH.cons (o := _) rfl (fun K hK => ?_) AllReadyH.nil
      refine step_app_run rfl _ _ rfl rfl rfl rfl r3 ?_
      refine hK.out _ _ hs3 (fun _ => ?_)
      clear hK K
      try simp only [Act.put, List.setIfInBounds_toArray, List.set_cons_zero, List.set_cons_succ]
      refine wpAnyH_tk (i := 10) (oi := _) (v := ?vKf10) rfl rfl (by kernel_rfl) (by kernel_rfl) (by kernel_rfl) (fun _ _ _ h => h) (Or.inl ⟨by kernel_rfl, ?yKf10⟩) (by assumption) ?rKf10
      case yKf10 =>
        intro w hSw
        (try dsimp only at hSw)
        go_simp
        try with_reducible rfl
      try simp only [List.setIfInBounds_toArray, List.set_cons_zero, List.set_cons_succ]
      refine wpAnyH_ready (rs := [11]) (by kernel_rfl) (by simp) ?_
      refine AllReadyH.cons (o := _) rfl (fun K hK => ?_) AllReadyH.nil
      rw [if_pos (by kernel_rfl)]
      go_simp
      refine HPT.out.mono ?_
      rintro e w' ⟨rfl, hrk, hlast⟩
      have HRK := hide hrk
      clear hrk
      refine hK.out _ _ hlast (fun _ => ?_)
      clear hK K
      try simp only [Act.put, List.setIfInBounds_toArray, List.set_cons_zero, List.set_cons_succ]
      refine wpAnyH_done (by kernel_rfl) ?_ _
      go_wp2
      go_ret
      rw [HE.out]
      exact ⟨rfl, RK.pre HBW.out HRK.out⟩
  obtain ⟨k, x, hat, hx, hdt⟩ := HFN.out q (by omega)
  have HE := hide (HR4.out rfl (by omega))
  rw [hat] at HAT0
  rw [show kindM S.m q = 1 by omega] at HKD
  rw [hdt] at HDQ HE
  have HX := hide hx
  obtain ⟨D, hD⟩ : ∃ b, x.2.nd.data = b := ⟨_, rfl⟩
  rw [hD] at HDQ HE
  obtain ⟨m, hm⟩ : ∃ m, D.length = m := ⟨_, rfl⟩
  rw [hm, HUS.out] at HDQ
  rw [hm] at HE
  obtain ⟨B, hB⟩ : ∃ b, x.2.A = b := ⟨_, rfl⟩
  obtain ⟨d, hd⟩ : ∃ b, x.2.c = b := ⟨_, rfl⟩
  have HXD := hide hD
  have HM := hide hm
  have HXA := hide hB
  have HXC := hide hd
  have hmu := HDQ.out
  have hmi : (m : Int) ≤ (us : Int) := by omega
  have hkn : k < n := by rw [← HN.out]; exact (List.getElem?_eq_some_iff.1 hx).1
  have hki : (k : Int) < (n : Int) := by omega
  have hk0 : (0 : Int) ≤ (k : Int) := by omega
  have HDA := hide (fun (W : World) (hb : Below w.heap.size w W) => show RG encB 1 W B D by
    rw [← hD, ← hB]
    exact (H.out.below hb).dat x (List.mem_of_getElem? hx))
  have HDG := hide (show ∀ a, B = some a → D ≠ [] → a.block ≠ g by
    rw [← hD, ← hB]
    exact H.out.neD x (List.mem_of_getElem? hx))
  clear hkl k2 k0 hat hx hdt hD hm hB hd
  cases more with
  | true =>
    have hE := HE.out
    simp only [if_true, Bool.false_eq_true, if_false, HM.out, List.length_nil, List.nil_append, Nat.zero_add] at hE
    have HFULL := hide (fun (h : by_ < bl ∨ by_ < us + bl) => hE.trans (if_neg (by omega)))
    have HOK := hide (fun (h1 : bl ≤ by_) (h : us + bl ≤ by_) => hE.trans (if_pos (by omega)))
    clear hE HE
    have HPUT := hide (fun (h1 : bl ≤ by_) (h : us + bl ≤ by_) (W : World) (hb : Below w.heap.size w W) => HWP.out q B d D W hb (HDA.out W hb) HDG.out Bb cb b (HBB.out W hb) HBG.out (by have := HBL.out; have := HM.out; omega) { Vf.putS S q false (D ++ b) with used := us + (m + bl) - m } rfl rfl rfl rfl)
    rw [HBL.out, HM.out] at HPUT
    have HLL := hide (show (D ++ b).length = m + bl by rw [List.length_append, HBL.out, HM.out])
    rw [HLL.out] at HPUT
    go_wp2_with fail
    refine (HKD.out w1 HB.out).mono ?_
    rintro e w' ⟨rfl, rfl⟩
    have ho := H.out.below HB.out
    have hg := ho.heap
    rw [HN.out] at hg
    have hc2 := cellOf hg (j := 2) (v := .slice A n c) rfl
    obtain ⟨gs, o, rfl, hgs, hc⟩ := ho.rg k x HX.out
    have hc3 : w1.cell? ⟨gs, o + k * 4 + 2, none⟩ = some (.slice x.2.A x.2.nd.data.length x.2.c) := hc 2 _ rfl
    rw [HXD.out, HM.out, HXA.out, HXC.out] at hc3
    have HAT := hide (HAT0.out w1.drew (HB.out.drew))
    clear hc hg ho hgs
    go_wp2_with fail
    go_region_held3 (fun w' => w'.cell? ⟨g, 2, none⟩ = some (.slice (some ⟨gs, o, none⟩) n c) ∧ w'.cell? ⟨gs, o + k * 4 + 2, none⟩ = some (.slice B m d))
      (exact ⟨hc2, hc3⟩)
      ((go_at_call 105; refine HAT.out.mono ?_; rintro e w' ⟨rfl, rfl⟩))
    have HBW := hide HB.out.drew
    clear hc2 hc3
    obtain ⟨W, hW⟩ : ∃ W, w1.drew = W := ⟨_, rfl⟩
    rw [hW] at HBW ⊢
    clear hW
    go_wp2_with fail
    refine (HSZ.out W HBW.out).mono ?_
    rintro e w' ⟨rfl, rfl⟩
    have hgW := (H.out.below HBW.out).heap
    rw [HN.out] at hgW
    have hc1 := cellOf hgW (j := 1) (v := .int .i64 S.bytes) rfl
    rw [HBY.out] at hc1
    have hc3 := cellOf hgW (j := 3) (v := .int .i64 S.clock) rfl
    have hf3 := freeOf hgW 3
    clear hgW
    by_cases t1 : by_ < bl
    · have HE := hide (HFULL.out (.inl t1))
      have t1i : (by_ : Int) < (bl : Int) := by omega
      go_wp2
      go_ret
      rw [HE.out]
      exact ⟨rfl, RK.stay H.out HBW.out⟩
    have t1i : ¬ (by_ : Int) < (bl : Int) := by omega
    by_cases t2 : by_ < us + bl
    · have HE := hide (HFULL.out (.inr t2))
      have t2i : (by_ : Int) < (us : Int) + (bl : Int) := by omega
      have t2j : (by_ : Int) < (us : Int) - (m : Int) + (m : Int) + (bl : Int) := by omega
      go_wp2
      go_ret
      rw [HE.out]
      exact ⟨rfl, RK.stay H.out HBW.out⟩
    have t2i : ¬ (by_ : Int) < (us : Int) + (bl : Int) := by omega
    have t2j : ¬ (by_ : Int) < (us : Int) - (m : Int) + (m : Int) + (bl : Int) := by omega
    have HE := hide (HOK.out (by omega) (by omega))
    obtain ⟨v2, w2, A3, c3, w3, r2, r3, hs2, hs3, hput⟩ := HPUT.out (by omega) (by omega) W HBW.out
    have HPT := hide hput
    have hs1 : (W.setCell ⟨g, 3, none⟩ (.int .i64 ((S.clock : Int) + 1))).drew.cell? ⟨g, 3, none⟩ = some (.int .i64 ((S.clock : Int) + 1)) := World.cell?_setCell_same' W _ _ (by rw [hc3]; rfl)
    clear hput t1 t2
    go_wp2_with fail
    refine wp_region_held_drew (S := (fun W => W.cell? ⟨g, 3, none⟩ = some (.int .i64 ((S.clock : Int) + 1)))) (by kernel_rfl) hs1 (fun hHeld => ?_)
    refine wpAnyH_tk (i := 0) (oi := _) (v := ?vOt0) rfl rfl (by kernel_rfl) (by kernel_rfl) (by kernel_rfl) (fun _ _ _ h => h) (Or.inl ⟨by kernel_rfl, ?yOt0⟩) (by assumption) ?rOt0
    case yOt0 =>
      intro w hSw
      (try dsimp only at hSw)
      go_simp
      try with_reducible rfl
    try simp only [List.setIfInBounds_toArray, List.set_cons_zero, List.set_cons_succ]
    refine wpAnyH_tk (i := 1) (oi := _) (v := ?vOt1) rfl rfl (by kernel_rfl) (by kernel_rfl) (by kernel_rfl) (fun _ _ _ h => h) (Or.inl ⟨by kernel_rfl, ?yOt1⟩) (by assumption) ?rOt1
    case yOt1 =>
      intro w hSw
      (try dsimp only at hSw)
      go_simp
      try with_reducible rfl
    try simp only [List.setIfInBounds_toArray, List.set_cons_zero, List.set_cons_succ]
    refine wpAnyH_tk (i := 2) (oi := _) (v := ?vOt2) rfl rfl (by kernel_rfl) (by kernel_rfl) (by kernel_rfl) (fun _ _ _ h => h) (Or.inl ⟨by kernel_rfl, ?yOt2⟩) (by assumption) ?rOt2
    case yOt2 =>
      intro w hSw
      (try dsimp only at hSw)
      go_simp
      try with_reducible rfl
    try simp only [List.setIfInBounds_toArray, List.set_cons_zero, List.set_cons_succ]
    refine wpAnyH_tk (i := 4) (oi := _) (v := ?vOt4) rfl rfl (by kernel_rfl) (by kernel_rfl) (by kernel_rfl) (fun _ _ _ h => h) (Or.inl ⟨by kernel_rfl, ?yOt4⟩) (by assumption) ?rOt4
    case yOt4 =>
      intro w hSw
      (try dsimp only at hSw)
      go_simp
      try with_reducible rfl
    try simp only [List.setIfInBounds_toArray, List.set_cons_zero, List.set_cons_succ]
    refine wpAnyH_tk (i := 6) (oi := _) (v := ?vOt6) rfl rfl (by kernel_rfl) (by kernel_rfl) (by kernel_rfl) (fun _ _ _ h => h) (Or.inl ⟨by kernel_rfl, ?yOt6⟩) (by assumption) ?rOt6
    case yOt6 =>
      intro w hSw
      (try dsimp only at hSw)
      go_simp
      try with_reducible rfl
    try simp only [List.setIfInBounds_toArray, List.set_cons_zero, List.set_cons_succ]
    refine wpAnyH_tk (i := 7) (oi := _) (v := ?vOt7) rfl rfl (by kernel_rfl) (by kernel_rfl) (by kernel_rfl) (fun _ _ _ h => h) (Or.inl ⟨by kernel_rfl, ?yOt7⟩) (by assumption) ?rOt7
    case yOt7 =>
      intro w hSw
      (try dsimp only at hSw)
      go_simp
      try with_reducible rfl
    try simp only [List.setIfInBounds_toArray, List.set_cons_zero, List.set_cons_succ]
    refine wpAnyH_tk (i := 8) (oi := _) (v := ?vOt8) rfl rfl (by kernel_rfl) (by kernel_rfl) (by kernel_rfl) (fun _ _ _ h => h) (Or.inl ⟨by kernel_rfl, ?yOt8⟩) (by assumption) ?rOt8
    case yOt8 =>
      intro w hSw
      (try dsimp only at hSw)
      go_simp
      try with_reducible rfl
    try simp only [List.setIfInBounds_toArray, List.set_cons_zero, List.set_cons_succ]
    refine wpAnyH_tk (i := 9) (oi := _) (v := ?vOt9) rfl rfl (by kernel_rfl) (by kernel_rfl) (by kernel_rfl) (fun _ _ _ h => h) (Or.inl ⟨by kernel_rfl, ?yOt9⟩) (by assumption) ?rOt9
    case yOt9 =>
      intro w hSw
      (try dsimp only at hSw)
      go_simp
      try with_reducible rfl
    try simp only [List.setIfInBounds_toArray, List.set_cons_zero, List.set_cons_succ]
    refine wpAnyH_ready (rs := [3]) (by kernel_rfl) (by simp) ?_
    refine AllReadyH.cons (o := _) rfl (fun K hK => ?_) AllReadyH.nil
    refine step_app_run rfl _ _ rfl rfl rfl rfl r2 ?_
    refine hK.out _ _ hs2 (fun _ => ?_)
    clear hK K
    try simp only [Act.put, List.setIfInBounds_toArray, List.set_cons_zero, List.set_cons_succ]
    refine wpAnyH_ready (rs := [5]) (by kernel_rfl) (by simp) ?_
    refine AllReadyH.cons (o := _) rfl (fun K hK => ?_) AllReadyH.nil
    refine step_app_run rfl _ _ rfl rfl rfl rfl r3 ?_
    refine hK.out _ _ hs3 (fun _ => ?_)
    clear hK K
    try simp only [Act.put, List.setIfInBounds_toArray, List.set_cons_zero, List.set_cons_succ]
    refine wpAnyH_tk (i := 10) (oi := _) (v := ?vOt10) rfl rfl (by kernel_rfl) (by kernel_rfl) (by kernel_rfl) (fun _ _ _ h => h) (Or.inl ⟨by kernel_rfl, ?yOt10⟩) (by assumption) ?rOt10
    case yOt10 =>
      intro w hSw
      (try dsimp only at hSw)
      go_simp
      try with_reducible rfl
    try simp only [List.setIfInBounds_toArray, List.set_cons_zero, List.set_cons_succ]
    refine wpAnyH_ready (rs := [11]) (by kernel_rfl) (by simp) ?_
    refine AllReadyH.cons (o := _) rfl (fun K hK => ?_) AllReadyH.nil
    rw [if_pos (by kernel_rfl)]
    go_simp
    refine HPT.out.mono ?_
    rintro e w' ⟨rfl, hrk, hlast⟩
    have HRK := hide hrk
    clear hrk
    refine hK.out _ _ hlast (fun _ => ?_)
    clear hK K
    try simp only [Act.put, List.setIfInBounds_toArray, List.set_cons_zero, List.set_cons_succ]
    refine wpAnyH_done (by kernel_rfl) ?_ _
    go_wp2
    go_ret
    rw [HE.out]
    exact ⟨rfl, RK.pre HBW.out HRK.out⟩
  | false =>
    have hE := HE.out
    simp only [if_true, Bool.false_eq_true, if_false, HM.out, List.length_nil, List.nil_append, Nat.zero_add] at hE
    have HFULL := hide (fun (h : by_ < bl ∨ by_ < us - m + bl) => hE.trans (if_neg (by omega)))
    have HOK := hide (fun (h1 : bl ≤ by_) (h : us - m + bl ≤ by_) => hE.trans (if_pos (by omega)))
    clear hE HE
    have HPUT := hide (fun (h1 : bl ≤ by_) (h : us - m + bl ≤ by_) (W : World) (hb : Below w.heap.size w W) => HWP.out q none 0 [] W hb (fun k x hk => by simp at hk) (fun a e => by cases e) Bb cb b (HBB.out W hb) HBG.out (by simp; have := HBL.out; omega) { Vf.putS S q false b with used := us + bl - m } rfl rfl rfl rfl)
    rw [List.nil_append, HBL.out, List.length_nil] at HPUT
    go_wp2_with fail
    refine (HKD.out w1 HB.out).mono ?_
    rintro e w' ⟨rfl, rfl⟩
    have ho := H.out.below HB.out
    have hg := ho.heap
    rw [HN.out] at hg
    have hc2 := cellOf hg (j := 2) (v := .slice A n c) rfl
    obtain ⟨gs, o, rfl, hgs, hc⟩ := ho.rg k x HX.out
    have hc3 : w1.cell? ⟨gs, o + k * 4 + 2, none⟩ = some (.slice x.2.A x.2.nd.data.length x.2.c) := hc 2 _ rfl
    rw [HXD.out, HM.out, HXA.out, HXC.out] at hc3
    have HAT := hide (HAT0.out w1.drew (HB.out.drew))
    clear hc hg ho hgs
    go_wp2_with fail
    go_region_held3 (fun w' => w'.cell? ⟨g, 2, none⟩ = some (.slice (some ⟨gs, o, none⟩) n c) ∧ w'.cell? ⟨gs, o + k * 4 + 2, none⟩ = some (.slice B m d))
      (exact ⟨hc2, hc3⟩)
      ((go_at_call 105; refine HAT.out.mono ?_; rintro e w' ⟨rfl, rfl⟩))
    have HBW := hide HB.out.drew
    clear hc2 hc3
    obtain ⟨W, hW⟩ : ∃ W, w1.drew = W := ⟨_, rfl⟩
    rw [hW] at HBW ⊢
    clear hW
    go_wp2_with fail
    refine (HSZ.out W HBW.out).mono ?_
    rintro e w' ⟨rfl, rfl⟩
    have hgW := (H.out.below HBW.out).heap
    rw [HN.out] at hgW
    have hc1 := cellOf hgW (j := 1) (v := .int .i64 S.bytes) rfl
    rw [HBY.out] at hc1
    have hc3 := cellOf hgW (j := 3) (v := .int .i64 S.clock) rfl
    have hf3 := freeOf hgW 3
    clear hgW
    by_cases t1 : by_ < bl
    · have HE := hide (HFULL.out (.inl t1))
      have t1i : (by_ : Int) < (bl : Int) := by omega
      go_wp2
      go_ret
      rw [HE.out]
      exact ⟨rfl, RK.stay H.out HBW.out⟩
    have t1i : ¬ (by_ : Int) < (bl : Int) := by omega
    by_cases t2 : by_ < us - m + bl
    · have HE := hide (HFULL.out (.inr t2))
      have t2i : (by_ : Int) < (us : Int) - (m : Int) + (bl : Int) := by omega
      go_wp2
      go_ret
      rw [HE.out]
      exact ⟨rfl, RK.stay H.out HBW.out⟩
    have t2i : ¬ (by_ : Int) < (us : Int) - (m : Int) + (bl : Int) := by omega
    have HE := hide (HOK.out (by omega) (by omega))
    obtain ⟨v2, w2, A3, c3, w3, r2, r3, hs2, hs3, hput⟩ := HPUT.out (by omega) (by omega) W HBW.out
    have HPT := hide hput
    have hs1 : (W.setCell ⟨g, 3, none⟩ (.int .i64 ((S.clock : Int) + 1))).drew.cell? ⟨g, 3, none⟩ = some (.int .i64 ((S.clock : Int) + 1)) := World.cell?_setCell_same' W _ _ (by rw [hc3]; rfl)
    clear hput t1 t2
    go_wp2_with fail
    refine wp_region_held_drew (S := (fun W => W.cell? ⟨g, 3, none⟩ = some (.int .i64 ((S.clock : Int) + 1)))) (by kernel_rfl) hs1 (fun hHeld => ?_)
    refine wpAnyH_tk (i := 0) (oi := _) (v := ?vOf0) rfl rfl (by kernel_rfl) (by kernel_rfl) (by kernel_rfl) (fun _ _ _ h => h) (Or.inl ⟨by kernel_rfl, ?yOf0⟩) (by assumption) ?rOf0
    case yOf0 =>
      intro w hSw
      (try dsimp only at hSw)
      go_simp
      try with_reducible rfl
    try simp only [List.setIfInBounds_toArray, List.set_cons_zero, List.set_cons_succ]
    refine wpAnyH_tk (i := 1) (oi := _) (v := ?vOf1) rfl rfl (by kernel_rfl) (by kernel_rfl) (by kernel_rfl) (fun _ _ _ h => h) (Or.inl ⟨by kernel_rfl, ?yOf1⟩) (by assumption) ?rOf1
    case yOf1 =>
      intro w hSw
      (try dsimp only at hSw)
      go_simp
      try with_reducible rfl
    try simp only [List.setIfInBounds_toArray, List.set_cons_zero, List.set_cons_succ]
    refine wpAnyH_tk (i := 2) (oi := _) (v := ?vOf2) rfl rfl (by kernel_rfl) (by kernel_rfl) (by kernel_rfl) (fun _ _ _ h => h) (Or.inl ⟨by kernel_rfl, ?yOf2⟩) (by assumption) ?rOf2
    case yOf2 =>
      intro w hSw
      (try dsimp only at hSw)
      go_simp
      try with_reducible rfl
    try simp only [List.setIfInBounds_toArray, List.set_cons_zero, List.set_cons_succ]
    refine wpAnyH_tk (i := 4) (oi := _) (v := ?vOf4) rfl rfl (by kernel_rfl) (by kernel_rfl) (by kernel_rfl) (fun _ _ _ h => h) (Or.inl ⟨by kernel_rfl, ?yOf4⟩) (by assumption) ?rOf4
    case yOf4 =>
      intro w hSw
      (try dsimp only at hSw)
      go_simp
      try with_reducible rfl
    try simp only [List.setIfInBounds_toArray, List.set_cons_zero, List.set_cons_succ]
    refine wpAnyH_tk (i := 6) (oi := _) (v := ?vOf6) rfl rfl (by kernel_rfl) (by kernel_rfl) (by kernel_rfl) (fun _ _ _ h => h) (Or.inl ⟨by kernel_rfl, ?yOf6⟩) (by assumption) ?rOf6
    case yOf6 =>
      intro w hSw
      (try dsimp only at hSw)
      go_simp
      try with_reducible rfl
    try simp only [List.setIfInBounds_toArray, List.set_cons_zero, List.set_cons_succ]
    refine wpAnyH_tk (i := 7) (oi := _) (v := ?vOf7) rfl rfl (by kernel_rfl) (by kernel_rfl) (by kernel_rfl) (fun _ _ _ h => h) (Or.inl ⟨by kernel_rfl, ?yOf7⟩) (by assumption) ?rOf7
    case yOf7 =>
      intro w hSw
      (try dsimp only at hSw)
      go_simp
      try with_reducible rfl
    try simp only [List.setIfInBounds_toArray, List.set_cons_zero, List.set_cons_succ]
    refine wpAnyH_tk (i := 8) (oi := _) (v := ?vOf8) rfl rfl (by kernel_rfl) (by kernel_rfl) (by kernel_rfl) (fun _ _ _ h => h) (Or.inl ⟨by kernel_rfl, ?yOf8⟩) (by assumption) ?rOf8
    case yOf8 =>
      intro w hSw
      (try dsimp only at hSw)
      go_simp
      try with_reducible rfl
    try simp only [List.setIfInBounds_toArray, List.set_cons_zero, List.set_cons_succ]
    refine wpAnyH_tk (i := 9) (oi := _) (v := ?vOf9) rfl rfl (by kernel_rfl) (by kernel_rfl) (by kernel_rfl) (fun _ _ _ h => h) (Or.inl ⟨by kernel_rfl, ?yOf9⟩) (by assumption) ?rOf9
    case yOf9 =>
      intro w hSw
      (try dsimp only at hSw)
      go_simp
      try with_reducible rfl
    try simp only [List.setIfInBounds_toArray, List.set_cons_zero, List.set_cons_succ]
    refine wpAnyH_ready (rs := [3]) (by kernel_rfl) (by simp) ?_
    refine AllReadyH.cons (o := _) rfl (fun K hK => ?_) AllReadyH.nil
    refine step_app_run rfl _ _ rfl rfl rfl rfl r2 ?_
    refine hK.out _ _ hs2 (fun _ => ?_)
    clear hK K
    try simp only [Act.put, List.setIfInBounds_toArray, List.set_cons_zero, List.set_cons_succ]
    refine wpAnyH_ready (rs := [5]) (by kernel_rfl) (by simp) ?_
    refine AllReadyH.cons (o := _) rfl (fun K hK => ?_) AllReadyH.nil
    refine step_app_run rfl _ _ rfl rfl rfl rfl r3 ?_
    refine hK.out _ _ hs3 (fun _ => ?_)
    clear hK K
    try simp only [Act.put, List.setIfInBounds_toArray, List.set_cons_zero, List.set_cons_succ]
    refine wpAnyH_tk (i := 10) (oi := _) (v := ?vOf10) rfl rfl (by kernel_rfl) (by kernel_rfl) (by kernel_rfl) (fun _ _ _ h => h) (Or.inl ⟨by kernel_rfl, ?yOf10⟩) (by assumption) ?rOf10
    case yOf10 =>
      intro w hSw
      (try dsimp only at hSw)
      go_simp
      try with_reducible rfl
    try simp only [List.setIfInBounds_toArray, List.set_cons_zero, List.set_cons_succ]
    refine wpAnyH_ready (rs := [11]) (by kernel_rfl) (by simp) ?_
    refine AllReadyH.cons (o := _) rfl (fun K hK => ?_) AllReadyH.nil
    rw [if_pos (by kernel_rfl)]
    go_simp
    refine HPT.out.mono ?_
    rintro e w' ⟨rfl, hrk, hlast⟩
    have HRK := hide hrk
    clear hrk
    refine hK.out _ _ hlast (fun _ => ?_)
    clear hK K
    try simp only [Act.put, List.setIfInBounds_toArray, List.set_cons_zero, List.set_cons_succ]
    refine wpAnyH_done (by kernel_rfl) ?_ _
    go_wp2
    go_ret
    rw [HE.out]
    exact ⟨rfl, RK.pre HBW.out HRK.out⟩
end Go.Proofs.YtkajhdbcnmafcaaGreatDoor
