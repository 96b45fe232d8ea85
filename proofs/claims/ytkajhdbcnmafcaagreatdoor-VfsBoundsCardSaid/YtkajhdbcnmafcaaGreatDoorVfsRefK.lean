/- Walks of the reference's Mkdir and Touch. Walks of the reference's drop and Remove. -/
import Derived.Test.YtkajhdbcnmafcaaGreatDoorVfsRefI
import Derived.Test.YtkajhdbcnmafcaaGreatDoorVfsMathM
namespace Go.Proofs.YtkajhdbcnmafcaaGreatDoor
open Go.RowKit Go.Deep Go.Maps Ln Pth Vf
set_option linter.unusedSimpArgs false
set_option linter.unusedVariables false
attribute [local go_sem] bt_eq

/-- a node put: the reference's block alone is changed -/
theorem put_rk (g : Nat) (S1 : St) (A : Option Addr) (c : Nat) (P : List NV) (x : NV) (w3 : World) (h : RSO g S1 A c P w3) (hl : P.length ≤ 10000) (S' : St) (hm : S'.m = putG (x.1, x.2.nd) S1.m) (h1 : S'.nodes = S1.nodes) (h2 : S'.bytes = S1.bytes) (h3 : S'.clock = S1.clock)
    (hx : RG encB 1 w3 x.2.A x.2.nd.data) (hxg : ∀ a, x.2.A = some a → x.2.nd.data ≠ [] → a.block ≠ g) (hxl : x.2.nd.data.length ≤ x.2.c) :
    Calls Tryz.prog 107 #[.pointer (some ⟨g, 0, none⟩), .agg (encE x).toArray] w3 fun e w' => e = .returned (.tuple #[]) ∧ ∃ A' c', RSO g S' A' c' (putG x P) w' ∧ Kp w3 w' (fun k => k = g) ∧ ∀ a, A' = some a → w3.heap.size ≤ a.block := by
  refine (rput_any g S1 A c P x w3 h hl).mono ?_
  rintro e w' ⟨rfl, A', c', hg', hc', hr', hA', hgb⟩
  have hk' := Kp.ofGb hgb
  exact ⟨rfl, A', c', RSO.putted h hm (by rw [hg', h1, h2, h3]) hc' hr' hA' hk' hx hxg hxl, hk', hA'⟩
theorem mkdirS_bad {S : St} {p : T} (h : (absS S p).2 ≠ 0) : mkdirS S p = (S, (absS S p).2) := by
  unfold mkdirS
  rw [if_pos h]
theorem mkdirS_there {S : St} {p : T} (h : (absS S p).2 = 0) (hk : kindM S.m (absS S p).1 ≠ 0) : mkdirS S p = (S, 12) := by
  unfold mkdirS
  rw [if_neg (by simp [h]), if_pos hk]
theorem mkdirS_new {S : St} {p : T} (hS : WfS S) (h : (absS S p).2 = 0) (hk : kindM S.m (absS S p).1 = 0) : mkdirS S p = if S.m.length + 1 ≤ S.nodes then (Vf.putS S (absS S p).1 true [], 0) else (S, 13) := by
  unfold mkdirS
  have hb := hS.bytes
  rw [if_neg (by simp [h]), if_neg (by simp [hk])]
  by_cases hc : S.m.length + 1 ≤ S.nodes
  · rw [if_pos ⟨hc, hb⟩, if_pos hc]
  · rw [if_neg (fun h => hc h.1), if_neg hc]
set_option maxRecDepth 100000 in
set_option maxHeartbeats 4000000 in
theorem rmkdir4_any (g : Nat) (S : St) (A : Option Addr) (c : Nat) (P : List NV) (p : T) (w : World) (h : RSO g S A c P w) (hS : WfS S) (hp : p.length ≤ 100000) (hck : S.clock ≤ 1000000000) :
    Calls Tryz.prog 53 #[.pointer (some ⟨g, 0, none⟩), .string (bs p)] w fun e w' => e = .returned (.int .i64 (mkdirS S p).2) ∧ RK g (mkdirS S p).1 w A P w' := by
  have hl := row_len hS h.eq
  have HF := hide (rfind_abs g S A c P p w h (by omega) hp)
  have H := hide h
  have HKD0 := hide (fun (q : T) (W : World) (hb : Below w.heap.size w W) => rkind_any g S A c P q W (h.below hb) (by omega))
  have hml : S.m.length = P.length := by rw [h.eq, stripN_len]
  have hn10 := hS.n10
  have HR1 := hide (mkdirS_bad (S := S) (p := p))
  have HR2 := hide (mkdirS_there (S := S) (p := p))
  have HR3 := hide (mkdirS_new (S := S) (p := p) hS)
  have HPUT := hide (fun (q : T) (W : World) (hb : Below w.heap.size w W) => put_rk g { S with clock := S.clock + 1 } A c P (bs q, ⟨none, 0, ⟨true, [], S.clock + 1⟩⟩) (W.setCell ⟨g, 3, none⟩ (.int .i64 ((S.clock : Int) + 1))) ((h.below hb).tick (S.clock + 1)) hl (Vf.putS S q true []) rfl rfl rfl rfl (RG.nil _ _) (fun a e _ => by cases e) (Nat.le_refl _))
  obtain ⟨r, hr⟩ : ∃ r, absS S p = r := ⟨_, rfl⟩
  obtain ⟨q0, e⟩ := r
  rw [hr] at HF HR1 HR2 HR3
  dsimp only at HF HR1 HR2 HR3
  obtain ⟨R, hR⟩ : ∃ R, mkdirS S p = R := ⟨_, rfl⟩
  rw [hR] at HR1 HR2 HR3 ⊢
  obtain ⟨n, hn⟩ : ∃ n, P.length = n := ⟨_, rfl⟩
  rw [hml, hn] at HR3
  rw [hn] at hl
  have HN := hide hn
  have hci : (S.clock : Int) ≤ 1000000000 := by omega
  have hni : (n : Int) ≤ 10000 := by omega
  have hnd : (S.nodes : Int) ≤ 10000 := by omega
  clear hr hR h hp hS hn hml
  go_enter Tryz.func53, Tryz.ntmps53
  go_wp2_with fail
  refine HF.out.mono ?_
  rintro e1 w1 ⟨q, rfl, hq, hql, hb⟩
  have HB := hide hb
  clear hb hql
  by_cases c1 : e = 0
  case neg =>
    obtain ⟨t1, t2⟩ := ne0 c1
    have HE := hide (HR1.out c1)
    clear c1 hq
    go_wp2
    go_ret
    rw [HE.out]
    exact ⟨rfl, RK.stay H.out HB.out⟩
  subst c1
  have hq1 := hq rfl
  subst hq1
  have HKD := hide (HKD0.out q)
  clear hq HF
  obtain ⟨y, hy⟩ : ∃ y, kindM S.m q = y := ⟨_, rfl⟩
  rw [hy] at HKD HR2 HR3
  clear hy
  by_cases k0 : y = 0
  case neg =>
    have HE := hide (HR2.out rfl k0)
    have hyi : (0 : Int) < (y : Int) := by omega
    obtain ⟨t1, t2⟩ := ne0 k0
    clear k0
    go_wp2_with fail
    refine (HKD.out w1 HB.out).mono ?_
    rintro e w' ⟨rfl, rfl⟩
    go_wp2
    go_ret
    rw [HE.out]
    exact ⟨rfl, RK.stay H.out HB.out⟩
  subst k0
  have HE0 := hide (HR3.out rfl rfl)
  have ho := H.out.below HB.out
  have hg := ho.heap
  rw [HN.out] at hg
  have hc2 := cellOf hg (j := 2) (v := .slice A n c) rfl
  have hc0 := cellOf hg (j := 0) (v := .int .i64 S.nodes) rfl
  clear ho hg
  by_cases c3 : S.nodes ≤ n
  · have hni2 : (S.nodes : Int) ≤ (n : Int) := by omega
    have HE := hide (HE0.out.trans (if_neg (by omega)))
    go_wp2_with fail
    refine (HKD.out w1 HB.out).mono ?_
    rintro e w' ⟨rfl, rfl⟩
    go_wp2_with fail
    go_quiet (fail)
    go_wp2
    go_ret
    rw [HE.out]
    exact ⟨rfl, RK.stay H.out (below_drewN HB.out _)⟩
  · have hni2 : ¬ (S.nodes : Int) ≤ (n : Int) := by omega
    have HE := hide (HE0.out.trans (if_pos (by omega)))
    go_wp2_with fail
    refine (HKD.out w1 HB.out).mono ?_
    rintro e w' ⟨rfl, rfl⟩
    go_wp2_with fail
    go_quiet (fail)
    have HBW := hide (below_drewN HB.out nq)
    clear hc2 hc0
    obtain ⟨W, hW⟩ : ∃ W, w1.drewN nq = W := ⟨_, rfl⟩
    rw [hW] at HBW ⊢
    have hgW := (H.out.below HBW.out).heap
    have hc3 := cellOf hgW (j := 3) (v := .int .i64 S.clock) rfl
    have hf3 := freeOf hgW 3
    have hs1 : (W.setCell ⟨g, 3, none⟩ (.int .i64 ((S.clock : Int) + 1))).cell? ⟨g, 3, none⟩ = some (.int .i64 ((S.clock : Int) + 1)) := World.cell?_setCell_same' _ _ _ (by rw [hc3]; rfl)
    have HPT := hide (HPUT.out q W HBW.out)
    clear hgW hW
    go_wp2_with fail
    refine HPT.out.mono ?_
    rintro e w' ⟨rfl, A', c', ho', hk', hA'⟩
    have HO := hide ho'
    have HK := hide hk'
    have HA := hide hA'
    clear ho' hk' hA'
    go_wp2
    go_ret
    rw [HE.out]
    have hk1 : Kp w W (fun k => k = g) := Kp.of_below HBW.out _
    have hk2 : Kp w (W.setCell ⟨g, 3, none⟩ (.int .i64 ((S.clock : Int) + 1))) (fun k => k = g) := hk1.then (Kp.set W g 3 _)
    refine ⟨rfl, A', c', _, HO.out, hk2.then HK.out, fun a e _ => .inl (by have := HA.out a e; have := hk2.size; omega), fun x hx a e hn => ?_⟩
    rcases mem_putG hx with rfl | hx
    · cases e
    · exact .inr ⟨x, hx, e, hn⟩
theorem touchS_bad {S : St} {p : T} (h : (absS S p).2 ≠ 0) : touchS S p = (S, (absS S p).2) := by
  unfold touchS
  rw [if_pos h]
theorem touchS_root {S : St} {p : T} (h : (absS S p).2 = 0) (hr : (absS S p).1 = [47]) : touchS S p = (S, 0) := by
  unfold touchS
  rw [if_neg (by simp [h]), if_pos hr]
theorem touchS_new {S : St} {p : T} (h : (absS S p).2 = 0) (hr : (absS S p).1 ≠ [47]) (hg : getG S.m (bs (absS S p).1) = none) : touchS S p = writeS S p [] false := by
  unfold touchS
  rw [if_neg (by simp [h]), if_neg hr, hg]
theorem touchS_old {S : St} {p : T} (h : (absS S p).2 = 0) (hr : (absS S p).1 ≠ [47]) {n : Nd} (hg : getG S.m (bs (absS S p).1) = some n) : touchS S p = (Vf.putS S (absS S p).1 n.dir n.data, 0) := by
  unfold touchS
  rw [if_neg (by simp [h]), if_neg hr, hg]
theorem putG_set {α : Type} {P : KV α} (hr : RiseG P) {k : Nat} {x y : ByteArray × α} (hk : P[k]? = some y) (he : y.1 = x.1) : putG x P = P.set k x := by
  have hlt := (List.getElem?_eq_some_iff.1 hk).1
  rw [putG_at P k (by omega) (fun j z hj hz => ?_) (fun z hz => ?_), hk]
  · dsimp only
    rw [if_pos he, List.set_eq_take_append_cons_drop, if_pos hlt, List.append_assoc]
    rfl
  · have hj2 := (List.getElem?_eq_some_iff.1 hz).2
    have hk2 := (List.getElem?_eq_some_iff.1 hk).2
    have := List.pairwise_iff_getElem.1 hr j k (by omega) hlt hj
    rw [hj2, hk2, he] at this
    exact this
  · rw [hk] at hz
    injection hz with hz
    rw [← hz, he, sLt_irr]
/-- one cell of one node -/
theorem RG.setT {w : World} {P : List NV} {ga : Nat} (h : RG encE 4 w (some ⟨ga, 0, none⟩) P) {k : Nat} {x : NV} (hk : P[k]? = some x) (t : Nat) :
    RG encE 4 (w.setCell ⟨ga, k * 4 + 3, none⟩ (.int .i64 t)) (some ⟨ga, 0, none⟩) (P.set k (x.1, ⟨x.2.A, x.2.c, ⟨x.2.nd.dir, x.2.nd.data, t⟩⟩)) := by
  have hx3 : w.cell? ⟨ga, k * 4 + 3, none⟩ = some (.int .i64 x.2.nd.time) := by
    obtain ⟨g, o, e, _, h1⟩ := h k x hk
    injection e with e
    injection e with e1 e2
    subst e1 e2
    have := h1 3 _ rfl
    simpa using this
  intro j y hj
  rw [List.getElem?_set] at hj
  by_cases e : k = j
  · subst e
    rw [if_pos rfl] at hj
    split at hj
    · injection hj with hj
      subst hj
      obtain ⟨g, o, e, hg, h1⟩ := h k x hk
      injection e with e
      injection e with e1 e2
      subst e1 e2
      refine ⟨ga, 0, rfl, by simpa using hg, fun i v hi => ?_⟩
      have hi4 := (List.getElem?_eq_some_iff.1 hi).1
      rw [encE_len] at hi4
      by_cases e3 : i = 3
      · subst e3
        have hv : v = .int .i64 t := by simpa [encE] using hi.symm
        subst hv
        rw [Nat.zero_add]
        exact World.cell?_setCell_same' _ _ _ (by rw [hx3]; rfl)
      · rw [World.cell?_setCell_other w _ _ _ (by intro e; injection e; omega)]
        refine h1 i v ?_
        rw [← hi]
        rcases i with _ | _ | _ | _ | i
        · rfl
        · rfl
        · rfl
        · exact absurd rfl e3
        · omega
    · cases hj
  · rw [if_neg e] at hj
    obtain ⟨g, o, e2, hg, h1⟩ := h j y hj
    refine ⟨g, o, e2, by simpa using hg, fun i v hi => ?_⟩
    have hi4 := (List.getElem?_eq_some_iff.1 hi).1
    rw [encE_len] at hi4
    injection e2 with e2
    injection e2 with e1 e3
    subst e1 e3
    rw [World.cell?_setCell_other w _ _ _ (by intro e4; injection e4; omega)]
    exact h1 i v hi
theorem strip_set (P : List NV) (k : Nat) (x : NV) : stripN (P.set k x) = (stripN P).set k (x.1, x.2.nd) := by
  unfold stripN
  rw [List.map_set]
set_option maxRecDepth 100000 in
set_option maxHeartbeats 4000000 in
theorem rtouch4_any (g : Nat) (S : St) (A : Option Addr) (c : Nat) (P : List NV) (p : T) (w : World) (h : RSO g S A c P w) (hS : WfS S) (hp : p.length ≤ 100000) (hby : S.bytes ≤ 400000) (hck : S.clock ≤ 1000000000) :
    Calls Tryz.prog 55 #[.pointer (some ⟨g, 0, none⟩), .string (bs p)] w fun e w' => e = .returned (.int .i64 (touchS S p).2) ∧ RK g (touchS S p).1 w A P w' := by
  have hl := row_len hS h.eq
  have HF := hide (rfind_abs g S A c P p w h (by omega) hp)
  have H := hide h
  have HAT0 := hide (fun (q : T) (W : World) (hb : Below w.heap.size w W) => rat4_any g S A c P (bs q) W (h.below hb) (by omega))
  have HWR := hide (fun (W : World) (hb : Below w.heap.size w W) => rwrite4_any g S A c P p none 0 [] false W (h.below hb) hS hp hby hck (by simp) (RG.nil _ _) (fun a e => by cases e))
  have HCS := hide (fun (q : T) => atN_cases P (bs q))
  have hrise : RiseG P := strip_rise.1 (h.eq ▸ hS.rise)
  have HRI := hide hrise
  have HR1 := hide (touchS_bad (S := S) (p := p))
  have HR2 := hide (touchS_root (S := S) (p := p))
  have HR3 := hide (touchS_new (S := S) (p := p))
  have HR4 := hide (fun h1 h2 n h3 => touchS_old (S := S) (p := p) h1 h2 (n := n) h3)
  obtain ⟨r, hr⟩ : ∃ r, absS S p = r := ⟨_, rfl⟩
  obtain ⟨q0, e⟩ := r
  rw [hr] at HF HR1 HR2 HR3 HR4
  dsimp only at HF HR1 HR2 HR3 HR4
  obtain ⟨R, hR⟩ : ∃ R, touchS S p = R := ⟨_, rfl⟩
  rw [hR] at HR1 HR2 HR3 HR4 ⊢
  obtain ⟨n, hn⟩ : ∃ n, P.length = n := ⟨_, rfl⟩
  rw [hn] at hl
  have HN := hide hn
  have hci : (S.clock : Int) ≤ 1000000000 := by omega
  have hni : (n : Int) ≤ 10000 := by omega
  clear hr hR h hS hn hrise hp hby
  go_enter Tryz.func55, Tryz.ntmps55
  go_wp2_with fail
  refine HF.out.mono ?_
  rintro e1 w1 ⟨q, rfl, hq, hql, hb⟩
  have HB := hide hb
  clear hb hql
  by_cases c1 : e = 0
  case neg =>
    obtain ⟨t1, t2⟩ := ne0 c1
    have HE := hide (HR1.out c1)
    clear c1 hq
    go_wp2
    go_ret
    rw [HE.out]
    exact ⟨rfl, RK.stay H.out HB.out⟩
  subst c1
  have hq1 := hq rfl
  subst hq1
  have HAT := hide (HAT0.out q)
  clear hq HF
  by_cases q1 : q = [47]
  · have ht : ((bs q).toList == [47]) = true := by rw [bs_toList, q1]; rfl
    have HE := hide (HR2.out rfl q1)
    clear q1
    go_wp2_with fail
    refine (HAT.out w1 HB.out).mono ?_
    rintro e w' ⟨rfl, rfl⟩
    go_wp2
    go_ret
    rw [HE.out]
    exact ⟨rfl, RK.stay H.out HB.out⟩
  have ht : ((bs q).toList == [47]) = false := by rw [bs_toList]; simpa using q1
  rcases HCS.out q with ⟨ha, hgt⟩ | ⟨k, x, ha, hx, hxq, hgt⟩
  · rw [ha] at HAT
    have HE := hide (HR3.out rfl q1 (by rw [H.out.eq]; exact hgt))
    clear q1 ha hgt
    go_wp2_with fail
    refine (HAT.out w1 HB.out).mono ?_
    rintro e w' ⟨rfl, rfl⟩
    go_wp2_with fail
    refine (HWR.out w1 HB.out).mono ?_
    rintro e w2 ⟨rfl, hrk⟩
    have HRK := hide hrk
    clear hrk
    go_wp2
    go_ret
    rw [HE.out]
    exact ⟨rfl, RK.pre HB.out HRK.out⟩
  · rw [ha] at HAT
    have HE := hide (HR4.out rfl q1 x.2.nd (by rw [H.out.eq]; exact hgt))
    have hkn : k < n := by rw [← HN.out]; exact (List.getElem?_eq_some_iff.1 hx).1
    have hki : (k : Int) < (n : Int) := by omega
    have hk0 : (0 : Int) ≤ (k : Int) := by omega
    have d0 : ¬ (k : Int) < 0 := by omega
    have hgW := (H.out.below HB.out).heap
    rw [HN.out] at hgW
    have hgl := (Array.getElem?_eq_some_iff.1 hgW).1
    have hc3 := cellOf hgW (j := 3) (v := .int .i64 S.clock) rfl
    have hf3 := freeOf hgW 3
    have hwt := (H.out.below HB.out).tick (S.clock + 1)
    rw [show ((S.clock + 1 : Nat) : Int) = (S.clock : Int) + 1 from rfl] at hwt
    obtain ⟨wt, hwte⟩ : ∃ W, w1.setCell ⟨g, 3, none⟩ (.int .i64 ((S.clock : Int) + 1)) = W := ⟨_, rfl⟩
    have hkt : Kp w1 wt (fun k => k = g) := hwte ▸ Kp.set w1 g 3 _
    rw [hwte] at hwt
    obtain ⟨v2, w2, r2, o2, g2, b2⟩ := run_appG rowN encE_len encE_one (c := c) (OwnG.nil wt wt.heap.size) hwt.rg (Nat.le_refl _) (by simp; have := HN.out; omega)
    have hb2 : Below wt.heap.size wt w2 := Below.of_gb g2 (Nat.le_refl _) (fun k hk => by cases hk)
    rw [List.nil_append] at o2
    have ho2 := hwt.below hb2
    obtain ⟨ga, cap, cur, e2, hga, hh, hcp, _⟩ := o2.2.resolve_left (fun h => by have := h.2; have := HN.out; omega)
    subst e2
    have hro : RG encE 4 w2 (some ⟨ga, 0, none⟩) P := by
      obtain ⟨A', c', e, hc, hr, _, _⟩ := o2.slice encE_len
      injection e with e1 e2 e3
      rw [e1]
      exact hr
    have hgne : ga ≠ g := by
      have := (Array.getElem?_eq_some_iff.1 hwt.heap).1
      omega
    have hgt2 := ho2.heap
    rw [HN.out] at hgt2
    have hd3 := cellOf hgt2 (j := 3) (v := .int .i64 ((S.clock : Int) + 1)) rfl
    have hd2 := cellOf hgt2 (j := 2) (v := .slice A n c) rfl
    have hwc2 := cellOf (HN.out ▸ hwt.heap) (j := 2) (v := .slice A n c) rfl
    have hx3 : w2.cell? ⟨ga, k * 4 + 3, none⟩ = some (.int .i64 x.2.nd.time) := by
      obtain ⟨g', o', e, _, h1⟩ := hro k x hx
      injection e with e
      injection e with e1 e2
      subst e1 e2
      have := h1 3 _ rfl
      simpa using this
    have hxf : w2.frozen? ⟨ga, k * 4 + 3, none⟩ = false := freeOf hh _
    have hset := hro.setT hx (S.clock + 1)
    rw [show ((S.clock + 1 : Nat) : Int) = (S.clock : Int) + 1 from rfl] at hset
    have hk3 : Kp w2 (w2.setCell ⟨ga, k * 4 + 3, none⟩ (.int .i64 ((S.clock : Int) + 1))) (fun k => k = ga) := Kp.set w2 ga _ _
    have hb3 : Below wt.heap.size wt (w2.setCell ⟨ga, k * 4 + 3, none⟩ (.int .i64 ((S.clock : Int) + 1))) := hb2.setCell (p := ⟨ga, k * 4 + 3, none⟩) hga _
    obtain ⟨w3, hw3⟩ : ∃ W, w2.setCell ⟨ga, k * 4 + 3, none⟩ (.int .i64 ((S.clock : Int) + 1)) = W := ⟨_, rfl⟩
    rw [hw3] at hset hk3 hb3
    have ho3 := hwt.below hb3
    have hgt3 := ho3.heap
    rw [HN.out] at hgt3
    have hq2 := cellOf hgt3 (j := 2) (v := .slice A n c) rfl
    have hqf := freeOf hgt3 2
    have hk4 : Kp w3 (w3.setCell ⟨g, 2, none⟩ (.slice (some ⟨ga, 0, none⟩) n cap)) (fun k => k = g) := Kp.set w3 g 2 _
    have hkk : Kp w (w3.setCell ⟨g, 2, none⟩ (.slice (some ⟨ga, 0, none⟩) n cap)) (fun k => k = g) := (((Kp.of_below HB.out _).then hkt).then (Kp.of_below hb3 _)).then hk4
    have hgs : w.heap.size ≤ ga := by have := HB.out.size; have := hkt.size; omega
    rw [HN.out] at r2
    have hpl : (P.set k (x.1, ⟨x.2.A, x.2.c, ⟨x.2.nd.dir, x.2.nd.data, S.clock + 1⟩⟩)).length = n := by rw [List.length_set, HN.out]
    have hmem : ∀ z ∈ P.set k (x.1, ⟨x.2.A, x.2.c, ⟨x.2.nd.dir, x.2.nd.data, S.clock + 1⟩⟩), ∃ y ∈ P, y.2.A = z.2.A ∧ y.2.nd.data = z.2.nd.data ∧ y.2.c = z.2.c := fun z hz => by
      rcases List.mem_or_eq_of_mem_set hz with hz | rfl
      · exact ⟨z, hz, rfl, rfl, rfl⟩
      · exact ⟨x, List.mem_of_getElem? hx, rfl, rfl, rfl⟩
    have HFIN := hide (show RK g (Vf.putS S q x.2.nd.dir x.2.nd.data) w A P (w3.setCell ⟨g, 2, none⟩ (.slice (some ⟨ga, 0, none⟩) n cap)) from by
      refine ⟨some ⟨ga, 0, none⟩, cap, _, H.out.set hkk ?_ (by rw [hpl]; have := HN.out; omega) ?_ (hset.kp hk4 (fun a e _ => by injection e with e; subst e; exact hgne)) (fun a e _ => by injection e with e; subst e; exact hgne) (fun z hz => ?_) (fun a e => ⟨ga, 0, by injection e with e; exact e.symm⟩), hkk, fun a e _ => .inl (by injection e with e; subst e; exact hgs), fun z hz a e hn => .inr ?_⟩
      · rw [hpl]
        exact (heapSet (j := 2) hgt3 (.slice (some ⟨ga, 0, none⟩) n cap)).trans rfl
      · rw [strip_set, ← H.out.eq]
        have hps := putG_set (P := S.m) (k := k) (x := (bs q, (⟨x.2.nd.dir, x.2.nd.data, S.clock + 1⟩ : Nd))) (y := (x.1, x.2.nd)) (by rw [H.out.eq]; exact strip_rise.2 HRI.out) (by rw [H.out.eq]; unfold stripN; rw [List.getElem?_map, hx]; rfl) hxq
        rw [hxq]
        exact hps
      · obtain ⟨y, hy, e1, e2, e3⟩ := hmem z hz
        rw [← e1, ← e2, ← e3]
        exact ⟨H.out.lt y hy, (H.out.dat y hy).kp hkk (H.out.neD y hy), H.out.neD y hy⟩
      · obtain ⟨y, hy, e1, e2, _⟩ := hmem z hz
        exact ⟨y, hy, e1.trans e, by rw [e2]; exact hn⟩)
    have hnc : (n : Int) ≤ (cap : Int) := by have := HN.out; omega
    clear q1 ha hgt hx hxq hgW hwt hkt o2 g2 b2 hb2 ho2 hh hro hgt2 hset hk3 hb3 ho3 hgt3 hk4 hkk hpl hmem
    go_wp2_with fail
    refine (HAT.out w1 HB.out).mono ?_
    rintro e w' ⟨rfl, rfl⟩
    go_wp2_with (first | (at_builtin; refine wpList_app_run ?_ (.const (.slice none 0 0)) (.tmp 40) ?_ ?_ ?_ ?_ r2 ?_; exact rfl; exact rfl; exact rfl; exact rfl; exact rfl))
    go_ret
    rw [HE.out]
    exact ⟨rfl, HFIN.out⟩
end Go.Proofs.YtkajhdbcnmafcaaGreatDoor
namespace Go.Proofs.YtkajhdbcnmafcaaGreatDoor
open Go.RowKit Go.Deep Go.Maps Ln Pth Vf
set_option linter.unusedSimpArgs false
set_option linter.unusedVariables false
attribute [local go_sem] bt_eq

def outF (q : T) (z : NV) : Bool := !withinF q z.1.data.toList
theorem strip_filter (p : ByteArray → Bool) (P : List NV) : stripN (P.filter fun z => p z.1) = (stripN P).filter fun z => p z.1 := by
  unfold stripN
  rw [List.filter_map]
  rfl
theorem filter_take {α : Type} {p : α → Bool} {P : List α} {k : Nat} {x : α} (h : P[k]? = some x) : (P.take (k + 1)).filter p = (P.take k).filter p ++ if p x = true then [x] else [] := by
  rw [List.take_add_one, h, List.filter_append]
  congr 1
  simp [List.filter_cons]
/-- one more node, laid in a block of its own ahead of it -/
theorem push_node {w : World} {base : Nat} {v : Value} {L : List NV} (h : OwnG encE 4 44 w base v L) (hbase : base ≤ w.heap.size) (hl : L.length ≤ 100000) (x : NV) (cs : Array Value) (hcs : cs = (encE x).toArray) :
    ∃ v' w', (Builtin.append_ #[33, 33] 33 #[v, .slice (some ⟨w.heap.size, 0, none⟩) 1 1]).run Tryz.prog (w.alloc (.cells cs 44)) = .ok v' w' ∧ OwnG encE 4 44 w' base v' (L ++ [x]) ∧ Below base w w' := by
  obtain ⟨v3, w3, r3, o3, g3, b3⟩ := run_appG rowN encE_len encE_one (c := 1) (h.alloc (.cells cs 44)) (rg_newN w x cs hcs _) (by simp; omega) (by simp; omega)
  exact ⟨v3, w3, r3, o3, ((Below.refl base w).alloc hbase _).trans (Below.of_gb g3 (by simp; omega) (fun k hk => (h.lt k hk).1))⟩
theorem push_node2 {w : World} {base : Nat} {v : Value} {L : List NV} (h : OwnG encE 4 44 w base v L) (hbase : base ≤ w.heap.size) (hl : L.length ≤ 100000) (x : NV) (cs : Array Value) (hcs : cs = (encE x).toArray) :
    ∃ v' w', (Builtin.append_ #[33, 33] 33 #[v, .slice (some ⟨w.heap.size, 0, none⟩) 1 1]).run Tryz.prog (w.alloc (.cells cs 44)) = .ok v' w' ∧ OwnG encE 4 44 w' base v' (L ++ [x]) ∧ Below base w w' ∧ (w.alloc (.cells cs 44)).grownBy w' v.ownBlock ∧ (v'.ownBlock = v.ownBlock ∨ v'.ownBlock = some (w.heap.size + 1)) := by
  obtain ⟨v3, w3, r3, o3, g3, b3⟩ := run_appG rowN encE_len encE_one (c := 1) (h.alloc (.cells cs 44)) (rg_newN w x cs hcs _) (by simp; omega) (by simp; omega)
  exact ⟨v3, w3, r3, o3, ((Below.refl base w).alloc hbase _).trans (Below.of_gb g3 (by simp; omega) (fun k hk => (h.lt k hk).1)), g3, by simpa using b3⟩
theorem gb_cell {w w' : World} {o : Obj} {v : Value} (hg : (w.alloc o).grownBy w' v.ownBlock) {nb j : Nat} {u : Value} (h : w.cell? ⟨nb, j, none⟩ = some u) (hne : ∀ k, v.ownBlock = some k → k ≠ nb) : w'.cell? ⟨nb, j, none⟩ = some u := by
  have hlt := World.block_lt_of_cell? w _ h
  dsimp only at hlt
  exact (World.cell?_of_block (a := ⟨nb, j, none⟩) ((hg.block nb (by simp; omega) (fun e => hne nb e.symm rfl)).trans (Below.heap_alloc _ _ _ hlt))).trans h
theorem OwnG.rso {w : World} {base g : Nat} {A : Option Addr} {n c : Nat} {L : List NV} (h : OwnG encE 4 44 w base (.slice A n c) L) : RG encE 4 w A L ∧ n = L.length ∧ L.length ≤ c ∧ (∀ a, A = some a → base ≤ a.block) ∧ (∀ a, A = some a → ∃ g o, a = ⟨g, o, none⟩) := by
  obtain ⟨A', c', e, hc, hr, ho, ht⟩ := h.slice encE_len
  injection e with e1 e2 e3
  subst e1 e2 e3
  exact ⟨hr, rfl, hc, fun a e => (h.lt _ (ho a e)).1, fun a e => by obtain ⟨g, e⟩ := ht a e; exact ⟨g, 0, e⟩⟩
theorem OwnG.keptB {α : Type} {enc : α → List Value} {n : Nat} {E : TypeId} {w w' : World} {base : Nat} {v : Value} {L : List α} (h : OwnG enc n E w base v L) (hb : Below w.heap.size w w') : OwnG enc n E w' base v L := by
  refine ⟨h.1, ?_⟩
  rcases h.2 with h2 | ⟨g, cap, cur, rfl, hg, hh, r⟩
  · exact .inl h2
  · exact .inr ⟨g, cap, cur, rfl, hg, (hb.block g (h.lt g rfl).2).trans hh, r⟩
set_option maxRecDepth 100000 in
set_option maxHeartbeats 4000000 in
theorem rdrop_any (g : Nat) (S : St) (A : Option Addr) (c : Nat) (P : List NV) (q : T) (w : World) (h : RSO g S A c P w) (hl : P.length ≤ 10000) (hk : ∀ x ∈ P, ∃ t : T, x.1 = bs t ∧ t.length ≤ 1000) (hq : q.length ≤ 1000) :
    Calls Tryz.prog 109 #[.pointer (some ⟨g, 0, none⟩), .string (bs q)] w fun e w' => e = .returned (.tuple #[]) ∧ ∃ A' c', RSO g { S with m := S.m.filter fun z => !withinF q z.1.data.toList } A' c' (P.filter (outF q)) w' ∧ Kp w w' (fun k => k = g) ∧ ∀ a, A' = some a → w.heap.size ≤ a.block := by
  have H := hide h
  have HK := hide hk
  have HQ := hide hq
  have hgl : g < w.heap.size := (Array.getElem?_eq_some_iff.1 h.heap).1
  obtain ⟨n, hn⟩ : ∃ n, P.length = n := ⟨_, rfl⟩
  have HN := hide hn
  have hln : n ≤ 10000 := by omega
  clear h hk hl hn hq
  go_enter Tryz.func109, Tryz.ntmps109
  go_wp2
  go_loopw [4, 5] (fun v4 v5 wr => ∃ (k m : Nat) (A' : Option Addr) (c' : Nat), v5 = .int .i64 k ∧ k ≤ n ∧ v4 = .slice A' m c' ∧ m ≤ k ∧ Hid (OwnG encE 4 44 wr w.heap.size (.slice A' m c') ((P.take k).filter (outF q))) ∧ Hid (Below w.heap.size w wr)) (fun _ v5 _ => n - (intOf v5).toNat)
  case atStart => exact ⟨0, 0, none, 0, rfl, by omega, rfl, by omega, OwnG.nil _ _, Below.refl _ _⟩
  case round =>
    obtain ⟨k, m, A', c', rfl, hk, rfl, hmk, HO, HB⟩ := hrel
    have ho := H.out.below HB.out
    have hg := ho.heap
    rw [HN.out] at hg
    have hc2 := cellOf hg (j := 2) (v := .slice A n c) rfl
    by_cases hlt : k < n
    · obtain ⟨x, hx⟩ : ∃ x, P[k]? = some x := ⟨P[k]'(by have := HN.out; omega), List.getElem?_eq_getElem _⟩
      obtain ⟨gs, o, rfl, hgs, hc⟩ := ho.rg k x hx
      have hc0 : wr.cell? ⟨gs, o + k * 4, none⟩ = some (.string x.1) := by have := hc 0 _ rfl; simpa using this
      have hc1 : wr.cell? ⟨gs, o + k * 4 + 1, none⟩ = some (.bool x.2.nd.dir) := hc 1 _ rfl
      have hc22 : wr.cell? ⟨gs, o + k * 4 + 2, none⟩ = some (.slice x.2.A x.2.nd.data.length x.2.c) := hc 2 _ rfl
      have hc3 : wr.cell? ⟨gs, o + k * 4 + 3, none⟩ = some (.int .i64 x.2.nd.time) := hc 3 _ rfl
      obtain ⟨t, hxt, htl⟩ := HK.out x (List.mem_of_getElem? hx)
      have hft := filter_take (p := outF q) hx
      have hfx : outF q x = !withinF q t := by unfold outF; rw [hxt, bs_list]
      rw [hfx] at hft
      have b1 : (k : Int) < (n : Int) := by omega
      have HWI := hide (rwithin_any q t wr (by have := HQ.out; omega) (by omega))
      have hgb : g < wr.heap.size := by have := HB.out.size; omega
      have HX := hide hx
      have HG0 := hide hgs
      have hrl : ((P.take k).filter (outF q)).length ≤ 100000 := by
        refine Nat.le_trans (List.length_filter_le _ _) ?_
        rw [List.length_take]
        omega
      have HRL := hide hrl
      clear ho hg hc hx hgs hfx hrl
      cases hw : withinF q t with
      | true =>
        rw [hw] at HWI hft
        have HFT := hide hft
        rw [hxt] at hc0
        clear hft hxt hw
        go_wp2_with fail
        refine HWI.out.mono ?_
        rintro e w1 ⟨rfl, hb1⟩
        have HB1 := hide hb1
        clear hb1
        go_wp2
        go_roundw
        case rel =>
          refine ⟨k + 1, m, A', c', by go_num, by omega, rfl, by omega, ?_, below_up HB.out HB1.out HB.out.size⟩
          show OwnG _ _ _ _ _ _ _
          rw [HFT.out]
          simp only [Bool.not_true, Bool.false_eq_true, if_false, List.append_nil]
          exact OwnG.keptB HO.out HB1.out
        case measure => simp [intOf]; omega
      | false =>
        rw [hw] at HWI hft
        have HFT := hide hft
        rw [hxt] at hc0
        have HXT := hide hxt
        clear hft hw hxt
        go_wp2_with fail
        refine HWI.out.mono ?_
        rintro e w1 ⟨rfl, hb1⟩
        have hc2' := (hb1.cell (p := ⟨g, 2, none⟩) hgb).trans hc2
        have hd0 := (hb1.cell (p := ⟨gs, o + k * 4, none⟩) HG0.out).trans hc0
        have hd1 := (hb1.cell (p := ⟨gs, o + k * 4 + 1, none⟩) HG0.out).trans hc1
        have hd2 := (hb1.cell (p := ⟨gs, o + k * 4 + 2, none⟩) HG0.out).trans hc22
        have hd3 := (hb1.cell (p := ⟨gs, o + k * 4 + 3, none⟩) HG0.out).trans hc3
        have hos : OwnG encE 4 44 w1 w.heap.size (.slice A' m c') ((P.take k).filter (outF q)) := OwnG.keptB HO.out hb1
        have hb2 := below_up HB.out hb1 HB.out.size
        obtain ⟨v', w', r', o', hb3⟩ := push_node hos hb2.size HRL.out x #[.string (bs t), .bool x.2.nd.dir, .slice x.2.A x.2.nd.data.length x.2.c, .int .i64 x.2.nd.time] (by rw [← HXT.out]; rfl)
        obtain ⟨A2, c2, rfl, hcl, _, _, _⟩ := o'.slice encE_len
        have HO2 := hide o'
        have HB2 := hide (hb2.trans hb3)
        have HRUN := hide r'
        have hll : (List.filter (outF q) (List.take k P) ++ [x]).length ≤ k + 1 := by
          rw [List.length_append, List.length_singleton]
          have := List.length_filter_le (outF q) (List.take k P)
          rw [List.length_take] at this
          omega
        obtain ⟨M, hM⟩ : ∃ m, (List.filter (outF q) (List.take k P) ++ [x]).length = m := ⟨_, rfl⟩
        rw [hM] at HO2 HRUN hll
        obtain ⟨D, hD⟩ : ∃ m, x.2.nd.data.length = m := ⟨_, rfl⟩
        rw [hD] at HRUN hd2
        clear hb1 hos hb2 r' o' hb3 hc0 hc1 hc22 hc3 hc2 hcl HXT hM hD
        go_wp2_with (first | (at_builtin; refine wpList_app_run ?_ (.tmp 26) (.tmp 34) ?_ ?_ ?_ ?_ HRUN.out ?_; exact rfl; exact rfl; exact rfl; exact rfl; exact rfl))
        go_roundw
        case rel =>
          refine ⟨k + 1, M, A2, c2, by go_num, by omega, rfl, by omega, ?_, HB2.out⟩
          show OwnG _ _ _ _ _ _ _
          rw [HFT.out]
          exact HO2.out
        case measure => simp [intOf]; omega
    · obtain rfl : n = k := by omega
      have htk : P.take n = P := List.take_of_length_le (by have := HN.out; omega)
      rw [htk] at HO
      obtain ⟨hr, hm, hcl, hA, ht⟩ := OwnG.rso (g := g) HO.out
      have HR := hide (And.intro hr (And.intro hm (And.intro hcl (And.intro hA ht))))
      have hf2 := freeOf hg 2
      have HG5 := hide (heapSet (j := 2) hg (.slice A' m c'))
      clear htk ho hg hr hcl hA ht hm
      go_wp2
      go_end0
      obtain ⟨hr, hm, hcl, hA, ht⟩ := HR.out
      have hk : Kp w (wr.setCell ⟨g, 2, none⟩ (.slice A' m c')) (fun k => k = g) := (Kp.of_below HB.out _).then (Kp.set wr g 2 _)
      refine ⟨rfl, A', c', H.out.set hk (by rw [HG5.out, hm]; rfl) hcl ?_ (hr.kp (Kp.set wr g 2 _) (fun a e _ => by have := hA a e; omega)) (fun a e _ => by have := hA a e; omega) (fun x hx => ?_) ht, hk, hA⟩
      · show List.filter _ S.m = _
        rw [H.out.eq]
        exact (strip_filter (fun k => !withinF q k.data.toList) P).symm
      · have hx := (List.mem_filter.1 hx).1
        exact ⟨H.out.lt x hx, (H.out.dat x hx).kp hk (H.out.neD x hx), H.out.neD x hx⟩
theorem removeS_bad {S : St} {p : T} (h : (absS S p).2 ≠ 0) : removeS S p = (S, (absS S p).2) := by
  have hf : (foundS S p).2 = (absS S p).2 := by unfold foundS; dsimp only; rw [if_neg (fun h2 => h h2.1)]
  unfold removeS
  rw [hf, if_pos h]
theorem removeS_none {S : St} {p : T} (h : (absS S p).2 = 0) (hk : kindM S.m (absS S p).1 = 0) : removeS S p = (S, 6) := by
  have hf : (foundS S p).2 = 6 := by unfold foundS; dsimp only; rw [if_pos ⟨h, hk⟩]
  unfold removeS
  rw [hf, if_pos (by omega)]
theorem removeS_at {S : St} {p : T} (h : (absS S p).2 = 0) (hk : kindM S.m (absS S p).1 ≠ 0) : removeS S p = if (absS S p).1 = [47] then (S, 1) else if belowM S.m (absS S p).1 ≠ [] then (S, 14) else ({ S with m := delG (bs (absS S p).1) S.m, used := S.used - (dataM S.m (absS S p).1).length, clock := S.clock + 1 }, 0) := by
  have hf : (foundS S p).2 = 0 := by unfold foundS; dsimp only; rw [if_neg (fun h2 => hk h2.2), h]
  have hf1 : (foundS S p).1 = (absS S p).1 := rfl
  unfold removeS
  rw [hf, hf1, if_neg (by omega)]
/-- with nothing below it a node alone is dropped -/
theorem drop_del {S : St} (hS : WfS S) {l : List T} (hl : GoodP l) (hne : l ≠ []) (hb : belowM S.m (joinF l) = []) : (S.m.filter fun z => !withinF (joinF l) z.1.data.toList) = delG (bs (joinF l)) S.m := by
  unfold delG
  refine List.filter_congr (fun z hz => ?_)
  congr 1
  by_cases h : withinF (joinF l) z.1.data.toList = true
  · obtain ⟨r, e, hg⟩ := (within_mem hS hl hz).1 h
    have hr : r = [] := by
      apply Classical.byContradiction
      intro hr
      have : joinF (l ++ r) ∈ belowM S.m (joinF l) := (below_names hS hl.ok hne).2 ⟨r, hr, rfl, hg, by rw [← e, mem_getG hS.rise hz]; simp⟩
      rw [hb] at this
      cases this
    subst hr
    rw [List.append_nil] at e
    rw [h]
    simp [e]
  · have h2 : ¬ z.1 = bs (joinF l) := fun e => h ((within_mem hS hl hz).2 ⟨[], by rw [List.append_nil]; exact e, by rw [List.append_nil]; exact hl⟩)
    rw [decide_eq_false h2]
    simpa using h
set_option maxRecDepth 100000 in
set_option maxHeartbeats 4000000 in
theorem rremove4_any (g : Nat) (S : St) (A : Option Addr) (c : Nat) (P : List NV) (p : T) (w : World) (h : RSO g S A c P w) (hS : WfS S) (t : HangS S) (hp : p.length ≤ 100000) (hck : S.clock ≤ 1000000000) :
    Calls Tryz.prog 54 #[.pointer (some ⟨g, 0, none⟩), .string (bs p)] w fun e w' => e = .returned (.int .i64 (removeS S p).2) ∧ RK g (removeS S p).1 w A P w' := by
  have hl := row_len hS h.eq
  have HF := hide (rfind_abs g S A c P p w h (by omega) hp)
  have H := hide h
  have HKD0 := hide (fun (q : T) (W : World) (hb : Below w.heap.size w W) => rkind_any g S A c P q W (h.below hb) (by omega))
  have hks := keys_short hS h.eq
  have HNM0 := hide (fun (q : T) (W : World) (hb : Below w.heap.size w W) => rnames4_any g S A c P q W (h.below hb) hl hks)
  have HDR := hide (fun (q : T) (hq : q.length ≤ 1000) (W : World) (hb : Below w.heap.size w W) => rdrop_any g S A c P q W (h.below hb) hl hks hq)
  have HR1 := hide (removeS_bad (S := S) (p := p))
  have HR2 := hide (removeS_none (S := S) (p := p))
  have HR3 := hide (removeS_at (S := S) (p := p))
  have hgd := fun h => absS_good (S := S) (p := p) h
  have HNB := hide (fun (q : T) (hq : (absS S p).2 = 0) (h2 : q = (absS S p).1) (h3 : q ≠ [47]) => show (nmR q (keysN P) = [] ↔ belowM S.m q = []) ∧ (belowM S.m q = [] → (S.m.filter fun z => !withinF q z.1.data.toList) = delG (bs q) S.m) from by
    obtain ⟨l, gl, e, _⟩ := hgd hq
    have e2 : q = joinF l := h2.trans e
    have hne : l ≠ [] := good_ne e2 h3
    rw [e2, ← keysN_eq h.eq, nmR_names hS gl]
    exact ⟨names_nil hS t gl hne, drop_del hS gl hne⟩)
  obtain ⟨r, hr⟩ : ∃ r, absS S p = r := ⟨_, rfl⟩
  obtain ⟨q0, e⟩ := r
  rw [hr] at HF HR1 HR2 HR3 HNB
  dsimp only at HF HR1 HR2 HR3 HNB
  obtain ⟨R, hR⟩ : ∃ R, removeS S p = R := ⟨_, rfl⟩
  rw [hR] at HR1 HR2 HR3 ⊢
  obtain ⟨n, hn⟩ : ∃ n, P.length = n := ⟨_, rfl⟩
  rw [hn] at hl
  have HN := hide hn
  have hci : (S.clock : Int) ≤ 1000000000 := by omega
  clear hr hR h hp hS hn hks hgd t
  go_enter Tryz.func54, Tryz.ntmps54
  go_wp2_with fail
  refine HF.out.mono ?_
  rintro e1 w1 ⟨q, rfl, hq, hql, hb⟩
  have HB := hide hb
  clear hb
  by_cases c1 : e = 0
  case neg =>
    obtain ⟨t1, t2⟩ := ne0 c1
    have HE := hide (HR1.out c1)
    clear c1 hq
    go_wp2
    go_ret
    rw [HE.out]
    exact ⟨rfl, RK.stay H.out HB.out⟩
  subst c1
  have hq1 := hq rfl
  subst hq1
  have HKD := hide (HKD0.out q)
  have HNM := hide (HNM0.out q)
  clear hq HF
  by_cases q1 : q = [47]
  · have ht : ((bs q).toList == [47]) = true := by rw [bs_toList, q1]; rfl
    have HE := hide ((HR3.out rfl (by rw [q1, show kindM S.m [47] = 2 from rfl]; omega)).trans (if_pos q1))
    clear q1
    go_wp2
    go_ret
    rw [HE.out]
    exact ⟨rfl, RK.stay H.out HB.out⟩
  have ht : ((bs q).toList == [47]) = false := by rw [bs_toList]; simpa using q1
  obtain ⟨hnb, hdd⟩ := HNB.out q rfl rfl q1
  have HE0 := hide (fun (hk : kindM S.m q ≠ 0) => (HR3.out rfl hk).trans (if_neg q1))
  obtain ⟨y, hy⟩ : ∃ y, kindM S.m q = y := ⟨_, rfl⟩
  rw [hy] at HKD HE0 HR2
  clear hy q1
  by_cases k0 : y = 0
  · subst k0
    have HE := hide (HR2.out rfl rfl)
    go_wp2_with fail
    refine (HKD.out w1 HB.out).mono ?_
    rintro e w' ⟨rfl, rfl⟩
    go_wp2
    go_ret
    rw [HE.out]
    exact ⟨rfl, RK.stay H.out HB.out⟩
  have HE1 := hide (HE0.out k0)
  obtain ⟨t1, t2⟩ := ne0 k0
  have hyi : (0 : Int) < (y : Int) := by omega
  have hy0 : ((y : Int) == 0) = false := by simp; omega
  obtain ⟨m, hm⟩ : ∃ m, (nmR q (keysN P)).length = m := ⟨_, rfl⟩
  rw [hm] at HNM
  have hm0 : m = 0 ↔ belowM S.m q = [] := by rw [← hm, List.length_eq_zero_iff]; exact hnb
  clear hm hnb k0
  by_cases m0 : m = 0
  case neg =>
    have HE := hide (HE1.out.trans (if_pos (fun h => m0 (hm0.2 h))))
    have hmi : (0 : Int) < (m : Int) := by omega
    clear hm0 hdd
    go_wp2_with fail
    refine (HKD.out w1 HB.out).mono ?_
    rintro e w' ⟨rfl, rfl⟩
    go_wp2_with fail
    refine (HNM.out w1 HB.out).mono ?_
    rintro e w2 ⟨⟨A5, c5, rfl, _, _⟩, hb2⟩
    have HB2 := hide (below_up HB.out hb2 HB.out.size)
    clear hb2
    go_wp2
    go_ret
    rw [HE.out]
    exact ⟨rfl, RK.stay H.out HB2.out⟩
  have hbl := hm0.1 m0
  have HE := hide (HE1.out.trans (if_neg (fun h => h hbl)))
  have HDD := hide (hdd hbl)
  subst m0
  have hql2 : q.length ≤ 1000 := by omega
  have HD := hide (HDR.out q hql2)
  rw [HDD.out] at HD
  clear hm0 hdd hbl
  go_wp2_with fail
  refine (HKD.out w1 HB.out).mono ?_
  rintro e w' ⟨rfl, rfl⟩
  go_wp2_with fail
  refine (HNM.out w1 HB.out).mono ?_
  rintro e w2 ⟨⟨A5, c5, rfl, _, _⟩, hb2⟩
  have HB2 := hide (below_up HB.out hb2 HB.out.size)
  clear hb2
  go_wp2_with fail
  refine (HD.out w2 HB2.out).mono ?_
  rintro e w3 ⟨rfl, A', c', ho', hk', hA'⟩
  have hg3 := ho'.heap
  have hc3 := cellOf hg3 (j := 3) (v := .int .i64 S.clock) rfl
  have hf3 := freeOf hg3 3
  have HO := hide ho'
  have HK := hide hk'
  have HA := hide hA'
  clear ho' hk' hA' hg3
  go_wp2
  go_ret
  rw [HE.out]
  have hk2 : Kp w w3 (fun k => k = g) := (Kp.of_below HB2.out _).then HK.out
  have ht := HO.out.tick (S.clock + 1)
  refine ⟨rfl, A', c', _, ⟨ht.heap, ht.cap, ht.rg, ht.dat, ht.eq, ht.top, ht.neA, ht.neD, ht.lt⟩, hk2.then (Kp.set w3 g 3 _), fun a e _ => .inl (by have := HA.out a e; have := HB2.out.size; omega), fun x hx a e hn => .inr ⟨x, (List.mem_filter.1 hx).1, e, hn⟩⟩
end Go.Proofs.YtkajhdbcnmafcaaGreatDoor
