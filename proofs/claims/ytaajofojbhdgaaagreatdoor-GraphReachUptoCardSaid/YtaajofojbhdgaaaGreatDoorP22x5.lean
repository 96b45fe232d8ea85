/- Walks and plain facts that the claim uses. -/
import Derived.Test.YtaajofojbhdgaaaGreatDoorP22x4
set_option maxRecDepth 100000
set_option maxHeartbeats 16000000
set_option linter.unusedSimpArgs false
set_option linter.unusedVariables false
namespace Go.Proofs.YtaajofojbhdgaaaGreatDoor
section
open Go.RowKit Go.Deep Go.Maps Ln Pth Vf
attribute [local go_sem] bt_eq
theorem write_put (g : Nat) (S : St) (A : Option Addr) (c : Nat) (P : List NV) (w1 : World) (h : RSO g S A c P w1) (hl : P.length ≤ 10000) (q : T) (B : Option Addr) (d : Nat) (was : T) (hB : RG encB 1 w1 B was) (hBg : ∀ a, B = some a → was ≠ [] → a.block ≠ g)
   (Bb : Option Addr) (cb : Nat) (b : T) (hb : RG encB 1 w1 Bb b) (hbg : ∀ a, Bb = some a → b ≠ [] → a.block ≠ g) (hsz : was.length + b.length ≤ 1000000) (S' : St) (hm : S'.m = putG (bs q, ⟨false, was ++ b, S.clock + 1⟩) S.m) (h1 : S'.nodes = S.nodes) (h2 : S'.bytes = S.bytes) (h3 : S'.clock = S.clock + 1) :
   ∃ v2 w2 A3 c3 w3, (Builtin.append_ #[66, 66] 66 #[.slice none 0 0, .slice B was.length d]).run Tryz.prog (w1.setCell ⟨g, 3, none⟩ (.int .i64 ((S.clock : Int) + 1))).drew = .ok v2 w2 ∧
     (Builtin.append_ #[66, 66] 66 #[v2, .slice Bb b.length cb]).run Tryz.prog w2 = .ok (.slice A3 (was ++ b).length c3) w3 ∧
     w2.cell? ⟨g, 3, none⟩ = some (.int .i64 ((S.clock : Int) + 1)) ∧ w3.cell? ⟨g, 3, none⟩ = some (.int .i64 ((S.clock : Int) + 1)) ∧
     Calls Tryz.prog 92 #[.pointer (some ⟨g, 0, none⟩), .agg #[.string (bs q), .bool false, .slice A3 (was ++ b).length c3, .int .i64 ((S.clock : Int) + 1)]] w3 fun e w' => e = .returned (.tuple #[]) ∧ RK g S' w1 A P w' ∧ w'.cell? ⟨g, 3, none⟩ = some (.int .i64 ((S.clock : Int) + 1)) := by
 have ht := h.tick (S.clock + 1)
 rw [show ((S.clock + 1 : Nat) : Int) = (S.clock : Int) + 1 from rfl] at ht
 have ht := ht.drew
 have hk : Kp w1 (w1.setCell ⟨g, 3, none⟩ (.int .i64 ((S.clock : Int) + 1))).drew (fun k => k = g) := (Kp.set w1 g 3 (.int .i64 ((S.clock : Int) + 1))).then (Kp.of_below (Below.refl _ _).drew _)
 have hBt := hB.kp hk hBg
 have hbt := hb.kp hk hbg
 obtain ⟨wt, hwt⟩ : ∃ W, (w1.setCell ⟨g, 3, none⟩ (.int .i64 ((S.clock : Int) + 1))).drew = W := ⟨_, rfl⟩
 rw [hwt] at ht hk hBt hbt ⊢
 obtain ⟨v2, w2, r2, o2, g2, b2⟩ := run_appY (c := d) (OwnG.nil wt wt.heap.size) hBt (Nat.le_refl _) (by simp; omega)
 have hb2 : Below wt.heap.size wt w2 := Below.of_gb g2 (Nat.le_refl _) (fun k hk => by cases hk)
 rw [List.nil_append] at o2
 have n2 : ∀ k, v2.ownBlock = some k → wt.heap.size ≤ k := fun k hk => (o2.lt k hk).1
 obtain ⟨v3, w3, r3, o3, g3, b3⟩ := run_appY (c := cb) o2 (hbt.below hb2) hb2.size (by omega)
 have hb3 : Below wt.heap.size wt w3 := hb2.trans (Below.of_gb g3 hb2.size n2)
 obtain ⟨A3, c3, rfl, hc3L, hr3, hob3, _⟩ := OwnG.slice encB_len o3
 have hA3 : ∀ a, A3 = some a → wt.heap.size ≤ a.block := fun a e => (o3.lt _ (hob3 a e)).1
 have hgl : g < wt.heap.size := (Array.getElem?_eq_some_iff.1 ht.heap).1
 have ho3 := ht.below hb3
 refine ⟨v2, w2, A3, c3, w3, r2, r3, cellOf (ht.below hb2).heap (j := 3) rfl, cellOf ho3.heap (j := 3) rfl, ?_⟩
 refine (rput_any g { S with clock := S.clock + 1 } A c P (bs q, ⟨A3, c3, ⟨false, was ++ b, S.clock + 1⟩⟩) w3 ho3 hl).mono ?_
 rintro e w' ⟨rfl, A', c', hg', hc', hr', hA', hgb⟩
 have hk3 : Kp w1 w3 (fun k => k = g) := hk.then (Kp.of_below hb3 _)
 have hk' := Kp.ofGb hgb
 have hc3 := cellOf hg' (j := 3) rfl
 refine ⟨rfl, ⟨A', c', _, RSO.putted (x := (bs q, ⟨A3, c3, ⟨false, was ++ b, S.clock + 1⟩⟩)) ho3 hm (by rw [hg', h1, h2, h3]) hc' hr' hA' hk' hr3 (fun a e _ => by have := hA3 a e; omega) hc3L, hk3.then hk', fun a e _ => .inl (by have := hA' a e; have := hk3.size; omega), fun x hx a e hn => ?_⟩, hc3⟩
 rcases mem_putG hx with rfl | hx
 · exact .inl (by have := hA3 a e; have := hk.size; omega)
 · exact .inr ⟨x, hx, e, hn⟩
theorem writeS_bad {S : St} {p b : T} {more : Bool} (h : (absS S p).2 ≠ 0) : writeS S p b more = (S, (absS S p).2) := by
 unfold writeS
 rw [if_pos h]
theorem writeS_dir {S : St} {p b : T} {more : Bool} (h : (absS S p).2 = 0) (hk : kindM S.m (absS S p).1 = 2) : writeS S p b more = (S, 10) := by
 unfold writeS writeQ
 rw [if_neg (by simp [h]), if_pos hk]
theorem writeS_new {S : St} {p b : T} {more : Bool} (h : (absS S p).2 = 0) (hk : kindM S.m (absS S p).1 = 0) : writeS S p b more = if S.m.length + 1 ≤ S.nodes ∧ S.used + b.length ≤ S.bytes then ({ Vf.putS S (absS S p).1 false b with used := S.used + b.length }, 0) else (S, 13) := by
 have hd : dataM S.m (absS S p).1 = [] := by unfold dataM; rw [getG_kind hk]
 unfold writeS writeQ
 rw [if_neg (by simp [h]), if_neg (by omega), if_pos hk, hd]
 cases more <;> simp
theorem writeS_old {S : St} {p b : T} {more : Bool} (hS : WfS S) (h : (absS S p).2 = 0) (hk : kindM S.m (absS S p).1 = 1) : writeS S p b more = if S.used + ((if more = true then dataM S.m (absS S p).1 else []).length + b.length) ≤ S.bytes + (dataM S.m (absS S p).1).length then ({ Vf.putS S (absS S p).1 false ((if more = true then dataM S.m (absS S p).1 else []) ++ b) with used := S.used + ((if more = true then dataM S.m (absS S p).1 else []).length + b.length) - (dataM S.m (absS S p).1).length }, 0) else (S, 13) := by
 unfold writeS writeQ
 have hn := hS.nodes
 rw [if_neg (by simp [h]), if_neg (by omega), if_neg (show ¬ kindM S.m (absS S p).1 = 0 by omega)]
 dsimp only
 generalize (if more = true then dataM S.m (absS S p).1 else []) = was
 by_cases hc : S.used + (was.length + b.length) ≤ S.bytes + (dataM S.m (absS S p).1).length
 · rw [if_pos ⟨by omega, hc⟩, if_pos hc]
 · rw [if_neg (fun h => hc h.2), if_neg hc]
theorem rwrite4_any (g : Nat) (S : St) (A : Option Addr) (c : Nat) (P : List NV) (p : T) (Bb : Option Addr) (cb : Nat) (b : T) (more : Bool) (w : World) (h : RSO g S A c P w) (hS : WfS S) (hp : p.length ≤ 100000) (hby : S.bytes ≤ 400000) (hck : S.clock ≤ 1000000000) (hbl : b.length ≤ 400000) (hbb : RG encB 1 w Bb b) (hbg : ∀ a, Bb = some a → b ≠ [] → a.block ≠ g) :
   Calls Tryz.prog 54 #[.pointer (some ⟨g, 0, none⟩), .string (bs p), .slice Bb b.length cb, .bool more] w fun e w' => e = .returned (.int .i64 (writeS S p b more).2) ∧ RK g (writeS S p b more).1 w A P w' := by
 have hl := row_len hS h.eq
 have HF := hide (rfind_abs g S A c P p w h (by omega) hp)
 have H := hide h
 have HKD0 := hide (fun (q : T) (W : World) (hb : Below w.heap.size w W) => rkind_any g S A c P q W (h.below hb) (by omega))
 have hml : S.m.length = P.length := by rw [h.eq, stripN_len]
 have hnl := hS.nodes
 have hn10 := hS.n10
 have hus := hS.bytes
 have hsz := sizeR_eq h.eq hS
 have HSZ := hide (fun (W : World) (hb : Below w.heap.size w W) => rsize_any g S A c P W (h.below hb) (by omega) (by omega))
 have HAT1 := hide (fun (q : T) (W : World) (hb : Below w.heap.size w W) => rat4_any g S A c P (bs q) W (h.below hb) (by omega))
 have HFN := hide (fun (q : T) (hk : kindM S.m q = 1) => file_node h.eq hk)
 have HR1 := hide (writeS_bad (S := S) (p := p) (b := b) (more := more))
 have HR2 := hide (writeS_dir (S := S) (p := p) (b := b) (more := more))
 have HR3 := hide (writeS_new (S := S) (p := p) (b := b) (more := more))
 have HR4 := hide (writeS_old (S := S) (p := p) (b := b) (more := more) hS)
 have HWP := hide (fun (q : T) (B : Option Addr) (d : Nat) (was : T) (W : World) (hb : Below w.heap.size w W) => write_put g S A c P W (h.below hb) (by omega) q B d was)
 have HBB := hide (fun (W : World) (hb : Below w.heap.size w W) => hbb.below hb)
 have HBG := hide hbg
 have hdl0 := fun q => dataM_len hS q
 have HDL := hide hdl0
 rw [hsz] at HSZ
 obtain ⟨r, hr⟩ : ∃ r, absS S p = r := ⟨_, rfl⟩
 obtain ⟨q0, e⟩ := r
 rw [hr] at HF HR1 HR2 HR3 HR4
 dsimp only at HF HR1 HR2 HR3 HR4
 obtain ⟨R, hR⟩ : ∃ R, writeS S p b more = R := ⟨_, rfl⟩
 rw [hR] at HR1 HR2 HR3 HR4 ⊢
 obtain ⟨n, hn⟩ : ∃ n, P.length = n := ⟨_, rfl⟩
 rw [hml, hn] at HR3
 rw [hn] at hl hml
 have HN := hide hn
 obtain ⟨bl, hbln⟩ : ∃ n, b.length = n := ⟨_, rfl⟩
 rw [hbln] at HR3 HR4 hbl ⊢
 have HBL := hide hbln
 obtain ⟨us, husn⟩ : ∃ n, S.used = n := ⟨_, rfl⟩
 obtain ⟨by_, hbyn⟩ : ∃ n, S.bytes = n := ⟨_, rfl⟩
 rw [husn] at HR3 HR4 HSZ hus
 have HUS := hide husn
 have HBY := hide hbyn
 rw [hbyn] at HR3 HR4 hus hby
 have hci : (S.clock : Int) ≤ 1000000000 := by omega
 have hni : (n : Int) ≤ 10000 := by omega
 have hnd : (S.nodes : Int) ≤ 10000 := by omega
 have hbli : (bl : Int) ≤ 400000 := by omega
 have hbyi : (by_ : Int) ≤ 400000 := by omega
 have husi : (us : Int) ≤ 400000 := by omega
 clear hr hR h hp hS hbb hbg hsz hn hbln husn hbyn hdl0
 go_enter Tryz.func54, Tryz.ntmps54
 go_wp2_with fail
 refine HF.out.mono ?_
 rintro e1 w1 ⟨q, rfl, hq, hql, hb⟩
 have HB := hide hb
 clear hb hql
 by_cases c1 : e = 0
 case neg =>
   obtain ⟨t1, t2⟩ := ne0 c1
   have HE := hide (HR1.out c1)
   clear c1 hq
   go_wp2
   go_ret
   rw [HE.out]
   exact ⟨rfl, RK.stay H.out HB.out⟩
 subst c1
 have hq1 := hq rfl
 subst hq1
 have hkl := kind_le S.m q
 have HKD := hide (HKD0.out q)
 have HAT0 := hide (HAT1.out q)
 have HDQ := hide (HDL.out q)
 clear hq HF
 by_cases k2 : kindM S.m q = 2
 · have HE := hide (HR2.out rfl k2)
   rw [k2] at HKD
   clear hkl k2
   go_wp2_with fail
   refine (HKD.out w1 HB.out).mono ?_
   rintro e w' ⟨rfl, rfl⟩
   go_wp2
   go_ret
   rw [HE.out]
   exact ⟨rfl, RK.stay H.out HB.out⟩
 by_cases k0 : kindM S.m q = 0
 · have HE := hide (HR3.out rfl k0)
   rw [k0] at HKD
   clear hkl k2 k0
   by_cases c3 : S.nodes ≤ n
   · have hni2 : (S.nodes : Int) ≤ (n : Int) := by omega
     have HE := hide (HE.out.trans (if_neg (by omega)))
     go_wp2_with fail
     refine (HKD.out w1 HB.out).mono ?_
     rintro e w' ⟨rfl, rfl⟩
     have ho := H.out.below HB.out
     have hg := ho.heap
     rw [HN.out] at hg
     have hc2 := cellOf hg (j := 2) (v := .slice A n c) rfl
     have hc0 := cellOf hg (j := 0) (v := .int .i64 S.nodes) rfl
     clear ho hg
     go_wp2_with fail
     go_quiet (fail)
     go_wp2
     go_ret
     rw [HE.out]
     exact ⟨rfl, RK.stay H.out (below_drewN HB.out _)⟩
   have hni2 : ¬ (S.nodes : Int) ≤ (n : Int) := by omega
   have HFULL := hide (fun (h : by_ < bl ∨ by_ < us + bl) => HE.out.trans (if_neg (by omega)))
   have HOK := hide (fun (h1 : bl ≤ by_) (h : us + bl ≤ by_) => HE.out.trans (if_pos ⟨by omega, by omega⟩))
   have HPUT := hide (fun (h1 : bl ≤ by_) (h : us + bl ≤ by_) (W : World) (hb : Below w.heap.size w W) => HWP.out q none 0 [] W hb (fun k x hk => by simp at hk) (fun a e => by cases e) Bb cb b (HBB.out W hb) HBG.out (by simp; have := HBL.out; omega) { Vf.putS S q false b with used := us + bl } rfl rfl rfl rfl)
   rw [List.nil_append, HBL.out, List.length_nil] at HPUT
   clear HE
   cases more with
   | true =>
     go_wp2_with fail
     refine (HKD.out w1 HB.out).mono ?_
     rintro e w' ⟨rfl, rfl⟩
     have ho := H.out.below HB.out
     have hg := ho.heap
     rw [HN.out] at hg
     have hc2 := cellOf hg (j := 2) (v := .slice A n c) rfl
     have hc0 := cellOf hg (j := 0) (v := .int .i64 S.nodes) rfl
     clear ho hg
     go_wp2_with fail
     go_quiet (fail)
     have HBW := hide (below_drewN HB.out nq)
     clear hc2 hc0
     obtain ⟨W, hW⟩ : ∃ W, w1.drewN nq = W := ⟨_, rfl⟩
     rw [hW] at HBW ⊢
     clear hW
     go_wp2_with fail
     refine (HSZ.out W HBW.out).mono ?_
     rintro e w' ⟨rfl, rfl⟩
     have hgW := (H.out.below HBW.out).heap
     rw [HN.out] at hgW
     have hc1 := cellOf hgW (j := 1) (v := .int .i64 S.bytes) rfl
     rw [HBY.out] at hc1
     have hc3 := cellOf hgW (j := 3) (v := .int .i64 S.clock) rfl
     have hf3 := freeOf hgW 3
     clear hgW
     by_cases t1 : by_ < bl
     · have HE := hide (HFULL.out (.inl t1))
       have t1i : (by_ : Int) < (bl : Int) := by omega
       go_wp2
       go_ret
       rw [HE.out]
       exact ⟨rfl, RK.stay H.out HBW.out⟩
     have t1i : ¬ (by_ : Int) < (bl : Int) := by omega
     by_cases t2 : by_ < us + bl
     · have HE := hide (HFULL.out (.inr t2))
       have t2i : (by_ : Int) < (us : Int) + (bl : Int) := by omega
       go_wp2
       go_ret
       rw [HE.out]
       exact ⟨rfl, RK.stay H.out HBW.out⟩
     have t2i : ¬ (by_ : Int) < (us : Int) + (bl : Int) := by omega
     have HE := hide (HOK.out (by omega) (by omega))
     obtain ⟨v2, w2, A3, c3, w3, r2, r3, hs2, hs3, hput⟩ := HPUT.out (by omega) (by omega) W HBW.out
     have HPT := hide hput
     have hs1 : (W.setCell ⟨g, 3, none⟩ (.int .i64 ((S.clock : Int) + 1))).drew.cell? ⟨g, 3, none⟩ = some (.int .i64 ((S.clock : Int) + 1)) := World.cell?_setCell_same' W _ _ (by rw [hc3]; rfl)
     clear hput t1 t2
     go_wp2_with fail
     refine wp_region_held_drew (S := (fun W => W.cell? ⟨g, 3, none⟩ = some (.int .i64 ((S.clock : Int) + 1)))) (by kernel_rfl) hs1 (fun hHeld => ?_)
     refine tq (i := 0) (v := ?vKt0) rfl rfl (by kernel_rfl) (fun _ _ _ h => h) ?yKt0 (by assumption) ?rKt0
     case yKt0 => intro w h; (try dsimp only at h); go_simp; try with_reducible rfl
     try simp only [sA, sB, sC]
     refine tq (i := 1) (v := ?vKt1) rfl rfl (by kernel_rfl) (fun _ _ _ h => h) ?yKt1 (by assumption) ?rKt1
     case yKt1 => intro w h; (try dsimp only at h); go_simp; try with_reducible rfl
     try simp only [sA, sB, sC]
     refine tq (i := 2) (v := ?vKt2) rfl rfl (by kernel_rfl) (fun _ _ _ h => h) ?yKt2 (by assumption) ?rKt2
     case yKt2 => intro w h; (try dsimp only at h); go_simp; try with_reducible rfl
     try simp only [sA, sB, sC]
     refine tq (i := 4) (v := ?vKt4) rfl rfl (by kernel_rfl) (fun _ _ _ h => h) ?yKt4 (by assumption) ?rKt4
     case yKt4 => intro w h; (try dsimp only at h); go_simp; try with_reducible rfl
     try simp only [sA, sB, sC]
     refine tq (i := 6) (v := ?vKt6) rfl rfl (by kernel_rfl) (fun _ _ _ h => h) ?yKt6 (by assumption) ?rKt6
     case yKt6 => intro w h; (try dsimp only at h); go_simp; try with_reducible rfl
     try simp only [sA, sB, sC]
     refine tq (i := 7) (v := ?vKt7) rfl rfl (by kernel_rfl) (fun _ _ _ h => h) ?yKt7 (by assumption) ?rKt7
     case yKt7 => intro w h; (try dsimp only at h); go_simp; try with_reducible rfl
     try simp only [sA, sB, sC]
     refine tq (i := 8) (v := ?vKt8) rfl rfl (by kernel_rfl) (fun _ _ _ h => h) ?yKt8 (by assumption) ?rKt8
     case yKt8 => intro w h; (try dsimp only at h); go_simp; try with_reducible rfl
     try simp only [sA, sB, sC]
     refine tq (i := 9) (v := ?vKt9) rfl rfl (by kernel_rfl) (fun _ _ _ h => h) ?yKt9 (by assumption) ?rKt9
     case yKt9 => intro w h; (try dsimp only at h); go_simp; try with_reducible rfl
     try simp only [sA, sB, sC]
     refine wpAnyH_ready (rs := [3]) (by kernel_rfl) (by simp) ?_
     refine AllReadyH.cons (o := _) rfl (fun K hK => ?_) AllReadyH.nil
     refine step_app_run rfl _ _ rfl rfl rfl rfl r2 ?_
     refine hK.out _ _ hs2 (fun _ => ?_)
     clear hK K
     try simp only [Act.put, sA, sB, sC]
     refine wpAnyH_ready (rs := [5]) (by kernel_rfl) (by simp) ?_
     refine AllReadyH.cons (o := _) rfl (fun K hK => ?_) AllReadyH.nil
     refine step_app_run rfl _ _ rfl rfl rfl rfl r3 ?_
     refine hK.out _ _ hs3 (fun _ => ?_)
     clear hK K
     try simp only [Act.put, sA, sB, sC]
     refine tq (i := 10) (v := ?vKt10) rfl rfl (by kernel_rfl) (fun _ _ _ h => h) ?yKt10 (by assumption) ?rKt10
     case yKt10 => intro w h; (try dsimp only at h); go_simp; try with_reducible rfl
     try simp only [sA, sB, sC]
     refine rq (k := 11) rfl (by kernel_rfl) (by kernel_rfl) (fun K hK => ?_)
     go_simp
     refine HPT.out.mono ?_
     rintro e w' ⟨rfl, hrk, hlast⟩
     have HRK := hide hrk
     clear hrk
     refine hK.out _ _ hlast (fun _ => ?_)
     clear hK K
     try simp only [Act.put, sA, sB, sC]
     refine wpAnyH_done (by kernel_rfl) ?_ _
     go_wp2
     go_ret
     rw [HE.out]
     exact ⟨rfl, RK.pre HBW.out HRK.out⟩
   | false =>
     go_wp2_with fail
     refine (HKD.out w1 HB.out).mono ?_
     rintro e w' ⟨rfl, rfl⟩
     have ho := H.out.below HB.out
     have hg := ho.heap
     rw [HN.out] at hg
     have hc2 := cellOf hg (j := 2) (v := .slice A n c) rfl
     have hc0 := cellOf hg (j := 0) (v := .int .i64 S.nodes) rfl
     clear ho hg
     go_wp2_with fail
     go_quiet (fail)
     have HBW := hide (below_drewN HB.out nq)
     clear hc2 hc0
     obtain ⟨W, hW⟩ : ∃ W, w1.drewN nq = W := ⟨_, rfl⟩
     rw [hW] at HBW ⊢
     clear hW
     go_wp2_with fail
     refine (HSZ.out W HBW.out).mono ?_
     rintro e w' ⟨rfl, rfl⟩
     have hgW := (H.out.below HBW.out).heap
     rw [HN.out] at hgW
     have hc1 := cellOf hgW (j := 1) (v := .int .i64 S.bytes) rfl
     rw [HBY.out] at hc1
     have hc3 := cellOf hgW (j := 3) (v := .int .i64 S.clock) rfl
     have hf3 := freeOf hgW 3
     clear hgW
     by_cases t1 : by_ < bl
     · have HE := hide (HFULL.out (.inl t1))
       have t1i : (by_ : Int) < (bl : Int) := by omega
       go_wp2
       go_ret
       rw [HE.out]
       exact ⟨rfl, RK.stay H.out HBW.out⟩
     have t1i : ¬ (by_ : Int) < (bl : Int) := by omega
     by_cases t2 : by_ < us + bl
     · have HE := hide (HFULL.out (.inr t2))
       have t2i : (by_ : Int) < (us : Int) + (bl : Int) := by omega
       go_wp2
       go_ret
       rw [HE.out]
       exact ⟨rfl, RK.stay H.out HBW.out⟩
     have t2i : ¬ (by_ : Int) < (us : Int) + (bl : Int) := by omega
     have HE := hide (HOK.out (by omega) (by omega))
     obtain ⟨v2, w2, A3, c3, w3, r2, r3, hs2, hs3, hput⟩ := HPUT.out (by omega) (by omega) W HBW.out
     have HPT := hide hput
     have hs1 : (W.setCell ⟨g, 3, none⟩ (.int .i64 ((S.clock : Int) + 1))).drew.cell? ⟨g, 3, none⟩ = some (.int .i64 ((S.clock : Int) + 1)) := World.cell?_setCell_same' W _ _ (by rw [hc3]; rfl)
     clear hput t1 t2
     go_wp2_with fail
     refine wp_region_held_drew (S := (fun W => W.cell? ⟨g, 3, none⟩ = some (.int .i64 ((S.clock : Int) + 1)))) (by kernel_rfl) hs1 (fun hHeld => ?_)
     refine tq (i := 0) (v := ?vKf0) rfl rfl (by kernel_rfl) (fun _ _ _ h => h) ?yKf0 (by assumption) ?rKf0
     case yKf0 => intro w h; (try dsimp only at h); go_simp; try with_reducible rfl
     try simp only [sA, sB, sC]
     refine tq (i := 1) (v := ?vKf1) rfl rfl (by kernel_rfl) (fun _ _ _ h => h) ?yKf1 (by assumption) ?rKf1
     case yKf1 => intro w h; (try dsimp only at h); go_simp; try with_reducible rfl
     try simp only [sA, sB, sC]
     refine tq (i := 2) (v := ?vKf2) rfl rfl (by kernel_rfl) (fun _ _ _ h => h) ?yKf2 (by assumption) ?rKf2
     case yKf2 => intro w h; (try dsimp only at h); go_simp; try with_reducible rfl
     try simp only [sA, sB, sC]
     refine tq (i := 4) (v := ?vKf4) rfl rfl (by kernel_rfl) (fun _ _ _ h => h) ?yKf4 (by assumption) ?rKf4
     case yKf4 => intro w h; (try dsimp only at h); go_simp; try with_reducible rfl
     try simp only [sA, sB, sC]
     refine tq (i := 6) (v := ?vKf6) rfl rfl (by kernel_rfl) (fun _ _ _ h => h) ?yKf6 (by assumption) ?rKf6
     case yKf6 => intro w h; (try dsimp only at h); go_simp; try with_reducible rfl
     try simp only [sA, sB, sC]
     refine tq (i := 7) (v := ?vKf7) rfl rfl (by kernel_rfl) (fun _ _ _ h => h) ?yKf7 (by assumption) ?rKf7
     case yKf7 => intro w h; (try dsimp only at h); go_simp; try with_reducible rfl
     try simp only [sA, sB, sC]
     refine tq (i := 8) (v := ?vKf8) rfl rfl (by kernel_rfl) (fun _ _ _ h => h) ?yKf8 (by assumption) ?rKf8
     case yKf8 => intro w h; (try dsimp only at h); go_simp; try with_reducible rfl
     try simp only [sA, sB, sC]
     refine tq (i := 9) (v := ?vKf9) rfl rfl (by kernel_rfl) (fun _ _ _ h => h) ?yKf9 (by assumption) ?rKf9
     case yKf9 => intro w h; (try dsimp only at h); go_simp; try with_reducible rfl
     try simp only [sA, sB, sC]
     refine wpAnyH_ready (rs := [3]) (by kernel_rfl) (by simp) ?_
     refine AllReadyH.cons (o := _) rfl (fun K hK => ?_) AllReadyH.nil
     refine step_app_run rfl _ _ rfl rfl rfl rfl r2 ?_
     refine hK.out _ _ hs2 (fun _ => ?_)
     clear hK K
     try simp only [Act.put, sA, sB, sC]
     refine wpAnyH_ready (rs := [5]) (by kernel_rfl) (by simp) ?_
     refine AllReadyH.cons (o := _) rfl (fun K hK => ?_) AllReadyH.nil
     refine step_app_run rfl _ _ rfl rfl rfl rfl r3 ?_
     refine hK.out _ _ hs3 (fun _ => ?_)
     clear hK K
     try simp only [Act.put, sA, sB, sC]
     refine tq (i := 10) (v := ?vKf10) rfl rfl (by kernel_rfl) (fun _ _ _ h => h) ?yKf10 (by assumption) ?rKf10
     case yKf10 => intro w h; (try dsimp only at h); go_simp; try with_reducible rfl
     try simp only [sA, sB, sC]
     refine rq (k := 11) rfl (by kernel_rfl) (by kernel_rfl) (fun K hK => ?_)
     go_simp
     refine HPT.out.mono ?_
     rintro e w' ⟨rfl, hrk, hlast⟩
     have HRK := hide hrk
     clear hrk
     refine hK.out _ _ hlast (fun _ => ?_)
     clear hK K
     try simp only [Act.put, sA, sB, sC]
     refine wpAnyH_done (by kernel_rfl) ?_ _
     go_wp2
     go_ret
     rw [HE.out]
     exact ⟨rfl, RK.pre HBW.out HRK.out⟩
 obtain ⟨k, x, hat, hx, hdt⟩ := HFN.out q (by omega)
 have HE := hide (HR4.out rfl (by omega))
 rw [hat] at HAT0
 rw [show kindM S.m q = 1 by omega] at HKD
 rw [hdt] at HDQ HE
 have HX := hide hx
 obtain ⟨D, hD⟩ : ∃ b, x.2.nd.data = b := ⟨_, rfl⟩
 rw [hD] at HDQ HE
 obtain ⟨m, hm⟩ : ∃ m, D.length = m := ⟨_, rfl⟩
 rw [hm, HUS.out] at HDQ
 rw [hm] at HE
 obtain ⟨B, hB⟩ : ∃ b, x.2.A = b := ⟨_, rfl⟩
 obtain ⟨d, hd⟩ : ∃ b, x.2.c = b := ⟨_, rfl⟩
 have HXD := hide hD
 have HM := hide hm
 have HXA := hide hB
 have HXC := hide hd
 have hmu := HDQ.out
 have hmi : (m : Int) ≤ (us : Int) := by omega
 have hkn : k < n := by rw [← HN.out]; exact (List.getElem?_eq_some_iff.1 hx).1
 have hki : (k : Int) < (n : Int) := by omega
 have hk0 : (0 : Int) ≤ (k : Int) := by omega
 have HDA := hide (fun (W : World) (hb : Below w.heap.size w W) => show RG encB 1 W B D by
   rw [← hD, ← hB]
   exact (H.out.below hb).dat x (List.mem_of_getElem? hx))
 have HDG := hide (show ∀ a, B = some a → D ≠ [] → a.block ≠ g by
   rw [← hD, ← hB]
   exact H.out.neD x (List.mem_of_getElem? hx))
 clear hkl k2 k0 hat hx hdt hD hm hB hd
 cases more with
 | true =>
   have hE := HE.out
   simp only [if_true, Bool.false_eq_true, if_false, HM.out, List.length_nil, List.nil_append, Nat.zero_add] at hE
   have HFULL := hide (fun (h : by_ < bl ∨ by_ < us + bl) => hE.trans (if_neg (by omega)))
   have HOK := hide (fun (h1 : bl ≤ by_) (h : us + bl ≤ by_) => hE.trans (if_pos (by omega)))
   clear hE HE
   have HPUT := hide (fun (h1 : bl ≤ by_) (h : us + bl ≤ by_) (W : World) (hb : Below w.heap.size w W) => HWP.out q B d D W hb (HDA.out W hb) HDG.out Bb cb b (HBB.out W hb) HBG.out (by have := HBL.out; have := HM.out; omega) { Vf.putS S q false (D ++ b) with used := us + (m + bl) - m } rfl rfl rfl rfl)
   rw [HBL.out, HM.out] at HPUT
   have HLL := hide (show (D ++ b).length = m + bl by rw [List.length_append, HBL.out, HM.out])
   rw [HLL.out] at HPUT
   go_wp2_with fail
   refine (HKD.out w1 HB.out).mono ?_
   rintro e w' ⟨rfl, rfl⟩
   have ho := H.out.below HB.out
   have hg := ho.heap
   rw [HN.out] at hg
   have hc2 := cellOf hg (j := 2) (v := .slice A n c) rfl
   obtain ⟨gs, o, rfl, hgs, hc⟩ := ho.rg k x HX.out
   have hc3 : w1.cell? ⟨gs, o + k * 4 + 2, none⟩ = some (.slice x.2.A x.2.nd.data.length x.2.c) := hc 2 _ rfl
   rw [HXD.out, HM.out, HXA.out, HXC.out] at hc3
   have HAT := hide (HAT0.out w1.drew (HB.out.drew))
   clear hc hg ho hgs
   go_wp2_with fail
   go_region_held3 (fun w' => w'.cell? ⟨g, 2, none⟩ = some (.slice (some ⟨gs, o, none⟩) n c) ∧ w'.cell? ⟨gs, o + k * 4 + 2, none⟩ = some (.slice B m d))
     (exact ⟨hc2, hc3⟩)
     ((go_at_call 90; refine HAT.out.mono ?_; rintro e w' ⟨rfl, rfl⟩))
   have HBW := hide HB.out.drew
   clear hc2 hc3
   obtain ⟨W, hW⟩ : ∃ W, w1.drew = W := ⟨_, rfl⟩
   rw [hW] at HBW ⊢
   clear hW
   go_wp2_with fail
   refine (HSZ.out W HBW.out).mono ?_
   rintro e w' ⟨rfl, rfl⟩
   have hgW := (H.out.below HBW.out).heap
   rw [HN.out] at hgW
   have hc1 := cellOf hgW (j := 1) (v := .int .i64 S.bytes) rfl
   rw [HBY.out] at hc1
   have hc3 := cellOf hgW (j := 3) (v := .int .i64 S.clock) rfl
   have hf3 := freeOf hgW 3
   clear hgW
   by_cases t1 : by_ < bl
   · have HE := hide (HFULL.out (.inl t1))
     have t1i : (by_ : Int) < (bl : Int) := by omega
     go_wp2
     go_ret
     rw [HE.out]
     exact ⟨rfl, RK.stay H.out HBW.out⟩
   have t1i : ¬ (by_ : Int) < (bl : Int) := by omega
   by_cases t2 : by_ < us + bl
   · have HE := hide (HFULL.out (.inr t2))
     have t2i : (by_ : Int) < (us : Int) + (bl : Int) := by omega
     have t2j : (by_ : Int) < (us : Int) - (m : Int) + (m : Int) + (bl : Int) := by omega
     go_wp2
     go_ret
     rw [HE.out]
     exact ⟨rfl, RK.stay H.out HBW.out⟩
   have t2i : ¬ (by_ : Int) < (us : Int) + (bl : Int) := by omega
   have t2j : ¬ (by_ : Int) < (us : Int) - (m : Int) + (m : Int) + (bl : Int) := by omega
   have HE := hide (HOK.out (by omega) (by omega))
   obtain ⟨v2, w2, A3, c3, w3, r2, r3, hs2, hs3, hput⟩ := HPUT.out (by omega) (by omega) W HBW.out
   have HPT := hide hput
   have hs1 : (W.setCell ⟨g, 3, none⟩ (.int .i64 ((S.clock : Int) + 1))).drew.cell? ⟨g, 3, none⟩ = some (.int .i64 ((S.clock : Int) + 1)) := World.cell?_setCell_same' W _ _ (by rw [hc3]; rfl)
   clear hput t1 t2
   go_wp2_with fail
   refine wp_region_held_drew (S := (fun W => W.cell? ⟨g, 3, none⟩ = some (.int .i64 ((S.clock : Int) + 1)))) (by kernel_rfl) hs1 (fun hHeld => ?_)
   refine tq (i := 0) (v := ?vOt0) rfl rfl (by kernel_rfl) (fun _ _ _ h => h) ?yOt0 (by assumption) ?rOt0
   case yOt0 => intro w h; (try dsimp only at h); go_simp; try with_reducible rfl
   try simp only [sA, sB, sC]
   refine tq (i := 1) (v := ?vOt1) rfl rfl (by kernel_rfl) (fun _ _ _ h => h) ?yOt1 (by assumption) ?rOt1
   case yOt1 => intro w h; (try dsimp only at h); go_simp; try with_reducible rfl
   try simp only [sA, sB, sC]
   refine tq (i := 2) (v := ?vOt2) rfl rfl (by kernel_rfl) (fun _ _ _ h => h) ?yOt2 (by assumption) ?rOt2
   case yOt2 => intro w h; (try dsimp only at h); go_simp; try with_reducible rfl
   try simp only [sA, sB, sC]
   refine tq (i := 4) (v := ?vOt4) rfl rfl (by kernel_rfl) (fun _ _ _ h => h) ?yOt4 (by assumption) ?rOt4
   case yOt4 => intro w h; (try dsimp only at h); go_simp; try with_reducible rfl
   try simp only [sA, sB, sC]
   refine tq (i := 6) (v := ?vOt6) rfl rfl (by kernel_rfl) (fun _ _ _ h => h) ?yOt6 (by assumption) ?rOt6
   case yOt6 => intro w h; (try dsimp only at h); go_simp; try with_reducible rfl
   try simp only [sA, sB, sC]
   refine tq (i := 7) (v := ?vOt7) rfl rfl (by kernel_rfl) (fun _ _ _ h => h) ?yOt7 (by assumption) ?rOt7
   case yOt7 => intro w h; (try dsimp only at h); go_simp; try with_reducible rfl
   try simp only [sA, sB, sC]
   refine tq (i := 8) (v := ?vOt8) rfl rfl (by kernel_rfl) (fun _ _ _ h => h) ?yOt8 (by assumption) ?rOt8
   case yOt8 => intro w h; (try dsimp only at h); go_simp; try with_reducible rfl
   try simp only [sA, sB, sC]
   refine tq (i := 9) (v := ?vOt9) rfl rfl (by kernel_rfl) (fun _ _ _ h => h) ?yOt9 (by assumption) ?rOt9
   case yOt9 => intro w h; (try dsimp only at h); go_simp; try with_reducible rfl
   try simp only [sA, sB, sC]
   refine wpAnyH_ready (rs := [3]) (by kernel_rfl) (by simp) ?_
   refine AllReadyH.cons (o := _) rfl (fun K hK => ?_) AllReadyH.nil
   refine step_app_run rfl _ _ rfl rfl rfl rfl r2 ?_
   refine hK.out _ _ hs2 (fun _ => ?_)
   clear hK K
   try simp only [Act.put, sA, sB, sC]
   refine wpAnyH_ready (rs := [5]) (by kernel_rfl) (by simp) ?_
   refine AllReadyH.cons (o := _) rfl (fun K hK => ?_) AllReadyH.nil
   refine step_app_run rfl _ _ rfl rfl rfl rfl r3 ?_
   refine hK.out _ _ hs3 (fun _ => ?_)
   clear hK K
   try simp only [Act.put, sA, sB, sC]
   refine tq (i := 10) (v := ?vOt10) rfl rfl (by kernel_rfl) (fun _ _ _ h => h) ?yOt10 (by assumption) ?rOt10
   case yOt10 => intro w h; (try dsimp only at h); go_simp; try with_reducible rfl
   try simp only [sA, sB, sC]
   refine rq (k := 11) rfl (by kernel_rfl) (by kernel_rfl) (fun K hK => ?_)
   go_simp
   refine HPT.out.mono ?_
   rintro e w' ⟨rfl, hrk, hlast⟩
   have HRK := hide hrk
   clear hrk
   refine hK.out _ _ hlast (fun _ => ?_)
   clear hK K
   try simp only [Act.put, sA, sB, sC]
   refine wpAnyH_done (by kernel_rfl) ?_ _
   go_wp2
   go_ret
   rw [HE.out]
   exact ⟨rfl, RK.pre HBW.out HRK.out⟩
 | false =>
   have hE := HE.out
   simp only [if_true, Bool.false_eq_true, if_false, HM.out, List.length_nil, List.nil_append, Nat.zero_add] at hE
   have HFULL := hide (fun (h : by_ < bl ∨ by_ < us - m + bl) => hE.trans (if_neg (by omega)))
   have HOK := hide (fun (h1 : bl ≤ by_) (h : us - m + bl ≤ by_) => hE.trans (if_pos (by omega)))
   clear hE HE
   have HPUT := hide (fun (h1 : bl ≤ by_) (h : us - m + bl ≤ by_) (W : World) (hb : Below w.heap.size w W) => HWP.out q none 0 [] W hb (fun k x hk => by simp at hk) (fun a e => by cases e) Bb cb b (HBB.out W hb) HBG.out (by simp; have := HBL.out; omega) { Vf.putS S q false b with used := us + bl - m } rfl rfl rfl rfl)
   rw [List.nil_append, HBL.out, List.length_nil] at HPUT
   go_wp2_with fail
   refine (HKD.out w1 HB.out).mono ?_
   rintro e w' ⟨rfl, rfl⟩
   have ho := H.out.below HB.out
   have hg := ho.heap
   rw [HN.out] at hg
   have hc2 := cellOf hg (j := 2) (v := .slice A n c) rfl
   obtain ⟨gs, o, rfl, hgs, hc⟩ := ho.rg k x HX.out
   have hc3 : w1.cell? ⟨gs, o + k * 4 + 2, none⟩ = some (.slice x.2.A x.2.nd.data.length x.2.c) := hc 2 _ rfl
   rw [HXD.out, HM.out, HXA.out, HXC.out] at hc3
   have HAT := hide (HAT0.out w1.drew (HB.out.drew))
   clear hc hg ho hgs
   go_wp2_with fail
   go_region_held3 (fun w' => w'.cell? ⟨g, 2, none⟩ = some (.slice (some ⟨gs, o, none⟩) n c) ∧ w'.cell? ⟨gs, o + k * 4 + 2, none⟩ = some (.slice B m d))
     (exact ⟨hc2, hc3⟩)
     ((go_at_call 90; refine HAT.out.mono ?_; rintro e w' ⟨rfl, rfl⟩))
   have HBW := hide HB.out.drew
   clear hc2 hc3
   obtain ⟨W, hW⟩ : ∃ W, w1.drew = W := ⟨_, rfl⟩
   rw [hW] at HBW ⊢
   clear hW
   go_wp2_with fail
   refine (HSZ.out W HBW.out).mono ?_
   rintro e w' ⟨rfl, rfl⟩
   have hgW := (H.out.below HBW.out).heap
   rw [HN.out] at hgW
   have hc1 := cellOf hgW (j := 1) (v := .int .i64 S.bytes) rfl
   rw [HBY.out] at hc1
   have hc3 := cellOf hgW (j := 3) (v := .int .i64 S.clock) rfl
   have hf3 := freeOf hgW 3
   clear hgW
   by_cases t1 : by_ < bl
   · have HE := hide (HFULL.out (.inl t1))
     have t1i : (by_ : Int) < (bl : Int) := by omega
     go_wp2
     go_ret
     rw [HE.out]
     exact ⟨rfl, RK.stay H.out HBW.out⟩
   have t1i : ¬ (by_ : Int) < (bl : Int) := by omega
   by_cases t2 : by_ < us - m + bl
   · have HE := hide (HFULL.out (.inr t2))
     have t2i : (by_ : Int) < (us : Int) - (m : Int) + (bl : Int) := by omega
     go_wp2
     go_ret
     rw [HE.out]
     exact ⟨rfl, RK.stay H.out HBW.out⟩
   have t2i : ¬ (by_ : Int) < (us : Int) - (m : Int) + (bl : Int) := by omega
   have HE := hide (HOK.out (by omega) (by omega))
   obtain ⟨v2, w2, A3, c3, w3, r2, r3, hs2, hs3, hput⟩ := HPUT.out (by omega) (by omega) W HBW.out
   have HPT := hide hput
   have hs1 : (W.setCell ⟨g, 3, none⟩ (.int .i64 ((S.clock : Int) + 1))).drew.cell? ⟨g, 3, none⟩ = some (.int .i64 ((S.clock : Int) + 1)) := World.cell?_setCell_same' W _ _ (by rw [hc3]; rfl)
   clear hput t1 t2
   go_wp2_with fail
   refine wp_region_held_drew (S := (fun W => W.cell? ⟨g, 3, none⟩ = some (.int .i64 ((S.clock : Int) + 1)))) (by kernel_rfl) hs1 (fun hHeld => ?_)
   refine tq (i := 0) (v := ?vOf0) rfl rfl (by kernel_rfl) (fun _ _ _ h => h) ?yOf0 (by assumption) ?rOf0
   case yOf0 => intro w h; (try dsimp only at h); go_simp; try with_reducible rfl
   try simp only [sA, sB, sC]
   refine tq (i := 1) (v := ?vOf1) rfl rfl (by kernel_rfl) (fun _ _ _ h => h) ?yOf1 (by assumption) ?rOf1
   case yOf1 => intro w h; (try dsimp only at h); go_simp; try with_reducible rfl
   try simp only [sA, sB, sC]
   refine tq (i := 2) (v := ?vOf2) rfl rfl (by kernel_rfl) (fun _ _ _ h => h) ?yOf2 (by assumption) ?rOf2
   case yOf2 => intro w h; (try dsimp only at h); go_simp; try with_reducible rfl
   try simp only [sA, sB, sC]
   refine tq (i := 4) (v := ?vOf4) rfl rfl (by kernel_rfl) (fun _ _ _ h => h) ?yOf4 (by assumption) ?rOf4
   case yOf4 => intro w h; (try dsimp only at h); go_simp; try with_reducible rfl
   try simp only [sA, sB, sC]
   refine tq (i := 6) (v := ?vOf6) rfl rfl (by kernel_rfl) (fun _ _ _ h => h) ?yOf6 (by assumption) ?rOf6
   case yOf6 => intro w h; (try dsimp only at h); go_simp; try with_reducible rfl
   try simp only [sA, sB, sC]
   refine tq (i := 7) (v := ?vOf7) rfl rfl (by kernel_rfl) (fun _ _ _ h => h) ?yOf7 (by assumption) ?rOf7
   case yOf7 => intro w h; (try dsimp only at h); go_simp; try with_reducible rfl
   try simp only [sA, sB, sC]
   refine tq (i := 8) (v := ?vOf8) rfl rfl (by kernel_rfl) (fun _ _ _ h => h) ?yOf8 (by assumption) ?rOf8
   case yOf8 => intro w h; (try dsimp only at h); go_simp; try with_reducible rfl
   try simp only [sA, sB, sC]
   refine tq (i := 9) (v := ?vOf9) rfl rfl (by kernel_rfl) (fun _ _ _ h => h) ?yOf9 (by assumption) ?rOf9
   case yOf9 => intro w h; (try dsimp only at h); go_simp; try with_reducible rfl
   try simp only [sA, sB, sC]
   refine wpAnyH_ready (rs := [3]) (by kernel_rfl) (by simp) ?_
   refine AllReadyH.cons (o := _) rfl (fun K hK => ?_) AllReadyH.nil
   refine step_app_run rfl _ _ rfl rfl rfl rfl r2 ?_
   refine hK.out _ _ hs2 (fun _ => ?_)
   clear hK K
   try simp only [Act.put, sA, sB, sC]
   refine wpAnyH_ready (rs := [5]) (by kernel_rfl) (by simp) ?_
   refine AllReadyH.cons (o := _) rfl (fun K hK => ?_) AllReadyH.nil
   refine step_app_run rfl _ _ rfl rfl rfl rfl r3 ?_
   refine hK.out _ _ hs3 (fun _ => ?_)
   clear hK K
   try simp only [Act.put, sA, sB, sC]
   refine tq (i := 10) (v := ?vOf10) rfl rfl (by kernel_rfl) (fun _ _ _ h => h) ?yOf10 (by assumption) ?rOf10
   case yOf10 => intro w h; (try dsimp only at h); go_simp; try with_reducible rfl
   try simp only [sA, sB, sC]
   refine rq (k := 11) rfl (by kernel_rfl) (by kernel_rfl) (fun K hK => ?_)
   go_simp
   refine HPT.out.mono ?_
   rintro e w' ⟨rfl, hrk, hlast⟩
   have HRK := hide hrk
   clear hrk
   refine hK.out _ _ hlast (fun _ => ?_)
   clear hK K
   try simp only [Act.put, sA, sB, sC]
   refine wpAnyH_done (by kernel_rfl) ?_ _
   go_wp2
   go_ret
   rw [HE.out]
   exact ⟨rfl, RK.pre HBW.out HRK.out⟩
end
end Go.Proofs.YtaajofojbhdgaaaGreatDoor
namespace Go.Proofs.YtaajofojbhdgaaaGreatDoor.Vf
open Ln Pth
def sumG (f : Nd → Nat) (m : Mp) : Nat := (m.map fun x => f x.2).sum
def fO (f : Nd → Nat) : Option Nd → Nat
 | none => 0
 | some n => f n
theorem sumG_put (f : Nd → Nat) (x : ByteArray × Nd) : ∀ {m : Mp}, RiseG m → sumG f (putG x m) + fO f (getG m x.1) = sumG f m + f x.2
 | [], _ => by simp [putG, getG, fO, sumG]
 | y :: m, h => by
   have h1 := List.pairwise_cons.1 h
   unfold sumG
   rw [putG, getG_cons]
   by_cases e : sLt y.1 x.1 = true
   · have e2 : y.1 ≠ x.1 := fun e2 => by rw [e2, sLt_irr] at e; cases e
     have := sumG_put f x h1.2
     unfold sumG at this
     rw [if_pos e, if_neg e2, List.map_cons, List.map_cons, List.sum_cons, List.sum_cons]
     omega
   · rw [if_neg e]
     by_cases e2 : y.1 = x.1
     · simp only [e2, if_true, List.map_cons, List.sum_cons, fO]
       omega
     · have e3 : sLt x.1 y.1 = true := (sLt_tot y.1 x.1 (by simpa using e)).resolve_left e2
       have e4 : getG m x.1 = none := getG_none_of (fun z hz e5 => by
         have := sLt_trans _ _ _ e3 (h1.1 z hz)
         rw [e5, sLt_irr] at this; cases this)
       rw [if_neg e2, if_neg e2, e4]
       simp only [List.map_cons, List.sum_cons, fO]
       omega
theorem sumG_del (f : Nd → Nat) (n : ByteArray) : ∀ {m : Mp}, RiseG m → sumG f (delG n m) + fO f (getG m n) = sumG f m
 | [], _ => by simp [delG, getG, fO, sumG]
 | y :: m, h => by
   have h1 := List.pairwise_cons.1 h
   have ih := sumG_del f n h1.2
   unfold sumG delG at *
   rw [List.filter_cons, getG_cons]
   by_cases e : y.1 = n
   · subst e
     have e4 : getG m y.1 = none := getG_none_of (RiseG.ne h)
     rw [e4] at ih
     simp only [decide_true, Bool.not_true, Bool.false_eq_true, if_false, if_true, List.map_cons, List.sum_cons, fO]
     simp only [fO] at ih
     omega
   · simp only [decide_eq_false e, Bool.not_false, if_true, if_neg e, List.map_cons, List.sum_cons]
     omega
theorem sumG_one (m : Mp) : sumG (fun _ => 1) m = m.length := by
 unfold sumG
 induction m with
 | nil => rfl
 | cons x m ih => rw [List.map_cons, List.sum_cons, ih, List.length_cons]; exact Nat.add_comm _ _
def tgt (a b q : T) : T := b ++ q.drop a.length
def nodeZ : Nd := ⟨false, [], 0⟩
def mvStep (a b : T) (m : Mp) (q : T) : Mp := delG (bs q) (putG (bs (tgt a b q), (getG m (bs q)).getD nodeZ) m)
def mvL (a b : T) (m : Mp) (L : List T) : Mp := L.foldl (mvStep a b) m
theorem mvL_rise (a b : T) : ∀ (L : List T) {m : Mp}, RiseG m → RiseG (mvL a b m L)
 | [], _, h => h
 | q :: L, m, h => mvL_rise a b L (m := mvStep a b m q) (RiseG.del (RiseG.put _ h) _)
theorem step_get (a b q : T) (m : Mp) (k : ByteArray) : getG (mvStep a b m q) k = if bs q = k then none else if bs (tgt a b q) = k then some ((getG m (bs q)).getD nodeZ) else getG m k := by
 unfold mvStep
 rw [getG_del, getG_put]
structure MvOk (a b : T) (L : List T) : Prop where
 nd : L.Nodup
 inj : ∀ q ∈ L, ∀ q' ∈ L, tgt a b q = tgt a b q' → q = q'
 apart : ∀ q ∈ L, ∀ q' ∈ L, tgt a b q ≠ q'
theorem MvOk.tail {a b q : T} {L : List T} (h : MvOk a b (q :: L)) : MvOk a b L :=
 ⟨(List.nodup_cons.1 h.nd).2, fun x hx y hy => h.inj x (by simp [hx]) y (by simp [hy]), fun x hx y hy => h.apart x (by simp [hx]) y (by simp [hy])⟩
theorem mvL_get {a b : T} : ∀ (L : List T) (m : Mp), MvOk a b L →
   (∀ q ∈ L, getG (mvL a b m L) (bs (tgt a b q)) = some ((getG m (bs q)).getD nodeZ)) ∧ (∀ q ∈ L, getG (mvL a b m L) (bs q) = none) ∧
   ∀ k, (∀ q ∈ L, k ≠ bs q ∧ k ≠ bs (tgt a b q)) → getG (mvL a b m L) k = getG m k
 | [], m, _ => ⟨fun q hq => (by cases hq), fun q hq => (by cases hq), fun k _ => rfl⟩
 | q :: L, m, h => by
   obtain ⟨i1, i2, i3⟩ := mvL_get L (mvStep a b m q) h.tail
   have hq := List.nodup_cons.1 h.nd
   have e0 : mvL a b m (q :: L) = mvL a b (mvStep a b m q) L := rfl
   have ne1 : ∀ x ∈ L, x ≠ q := fun x hx e => hq.1 (e ▸ hx)
   have ht : ∀ x ∈ q :: L, ∀ y ∈ q :: L, bs (tgt a b x) ≠ bs y := fun x hx y hy e => h.apart x hx y hy (bs_inj e)
   refine ⟨fun x hx => ?_, fun x hx => ?_, fun k hk => ?_⟩
   · rw [e0]
     rcases List.mem_cons.1 hx with rfl | hx
     · rw [i3 _ (fun y hy => ⟨ht x (by simp) y (by simp [hy]), fun e => ne1 y hy (h.inj x (by simp) y (by simp [hy]) (bs_inj e)).symm⟩), step_get, if_neg (fun e => ht x (by simp) x (by simp) e.symm), if_pos rfl]
     · rw [i1 x hx, step_get, if_neg (fun e => ne1 x hx (bs_inj e).symm), if_neg (ht q (by simp) x (by simp [hx]))]
   · rw [e0]
     rcases List.mem_cons.1 hx with rfl | hx
     · rw [i3 _ (fun y hy => ⟨fun e => ne1 y hy (bs_inj e).symm, fun e => ht y (by simp [hy]) x (by simp) e.symm⟩), step_get, if_pos rfl]
     · exact i2 x hx
   · rw [e0, i3 k (fun y hy => hk y (by simp [hy])), step_get, if_neg (fun e => (hk q (by simp)).1 e.symm), if_neg (fun e => (hk q (by simp)).2 e.symm)]
theorem mvL_sum (f : Nd → Nat) {a b : T} : ∀ (L : List T) {m : Mp}, RiseG m → MvOk a b L → (∀ q ∈ L, getG m (bs q) ≠ none) → (∀ q ∈ L, getG m (bs (tgt a b q)) = none) → sumG f (mvL a b m L) = sumG f m
 | [], _, _, _, _, _ => rfl
 | q :: L, m, hr, h, h1, h2 => by
   have hq := List.nodup_cons.1 h.nd
   have ne1 : ∀ x ∈ L, x ≠ q := fun x hx e => hq.1 (e ▸ hx)
   have e0 : mvL a b m (q :: L) = mvL a b (mvStep a b m q) L := rfl
   obtain ⟨n, hn⟩ := Option.ne_none_iff_exists'.1 (h1 q (by simp))
   have s1 := sumG_put f (bs (tgt a b q), n) hr
   have s2 := sumG_del f (bs q) (RiseG.put (bs (tgt a b q), n) hr)
   rw [getG_put, if_neg (fun e => h.apart q (by simp) q (by simp) (bs_inj e)), hn] at s2
   rw [h2 q (by simp)] at s1
   simp only [fO] at s1 s2
   rw [e0, mvL_sum f (m := mvStep a b m q) L (RiseG.del (RiseG.put _ hr) _) h.tail (fun x hx => ?_) (fun x hx => ?_)]
   · unfold mvStep
     rw [hn]
     show sumG f (delG (bs q) (putG (bs (tgt a b q), n) m)) = _
     omega
   · rw [step_get, if_neg (fun e => ne1 x hx (bs_inj e).symm), if_neg (fun e => h.apart q (by simp) x (by simp [hx]) (bs_inj e))]
     exact h1 x (by simp [hx])
   · rw [step_get, if_neg (fun e => h.apart x (by simp [hx]) q (by simp) (bs_inj e).symm), if_neg (fun e => ne1 x hx (h.inj q (by simp) x (by simp [hx]) (bs_inj e)).symm)]
     exact h2 x (by simp [hx])
end Go.Proofs.YtaajofojbhdgaaaGreatDoor.Vf
namespace Go.Proofs.YtaajofojbhdgaaaGreatDoor.Pth
open Ln
theorem GoodP.front {l : List T} {s : T} (h : GoodP (l ++ [s])) : GoodP l := by
 have := h.take l.length
 rwa [List.take_left' rfl] at this
end Go.Proofs.YtaajofojbhdgaaaGreatDoor.Pth
namespace Go.Proofs.YtaajofojbhdgaaaGreatDoor.Vf
open Ln Pth
theorem wayL_iff (m : Mp) : ∀ (rest pre : List T), wayL m pre rest = 0 ↔ ∀ k, k < rest.length → kindM m (joinF (pre ++ rest.take k)) = 2
 | [], pre => by simp [wayL]
 | s :: r, pre => by
   have hk := kind_le m (joinF pre)
   rw [wayL]
   constructor
   · intro h k hkl
     split at h
     · cases h
     · split at h
       · cases h
       · cases k with
         | zero => rw [List.take_zero, List.append_nil]; omega
         | succ k =>
           have := (wayL_iff m r (pre ++ [s])).1 h k (by simpa using hkl)
           rwa [List.append_assoc] at this
   · intro h
     have h0 := h 0 (by simp)
     rw [List.take_zero, List.append_nil] at h0
     rw [if_neg (by omega), if_neg (by omega)]
     refine (wayL_iff m r (pre ++ [s])).2 (fun k hk => ?_)
     have := h (k + 1) (by simpa using hk)
     rwa [List.take_succ_cons, ← List.singleton_append, ← List.append_assoc] at this
theorem way_iff (m : Mp) {l : List T} (h : ∀ s ∈ l, okN s) : wayM m (joinF l) = 0 ↔ ∀ k, 0 < k → k < l.length → kindM m (joinF (l.take k)) = 2 := by
 have h47 : ∀ s ∈ l, 47 ∉ s := fun s hs => (h s hs).2.2.2
 cases l with
 | nil => rw [way_join m h47]; simp
 | cons s r =>
   rw [way_join m h47]
   dsimp only
   rw [wayL_iff]
   constructor
   · intro h k h0 hk
     obtain ⟨j, rfl⟩ : ∃ j, k = j + 1 := ⟨k - 1, by omega⟩
     have := h j (by simpa using hk)
     simpa using this
   · intro h k hk
     have := h (k + 1) (by omega) (by simpa using hk)
     simpa using this
theorem key_inj {a b : List T} (ha : ∀ s ∈ a, okN s) (hb : ∀ s ∈ b, okN s) (h : bs (joinF a) = bs (joinF b)) : a = b := joinF_inj ha hb (bs_inj h)
theorem kind_two {m : Mp} {q : T} (h : kindM m q = 2) : q = [47] ∨ ∃ n, getG m (bs q) = some n ∧ n.dir = true := by
 unfold kindM at h
 split at h
 · rename_i e; exact .inl e
 · cases hg : getG m (bs q) with
   | none => rw [hg] at h; cases h
   | some n =>
     rw [hg] at h
     dsimp only at h
     cases hd : n.dir with
     | true => exact .inr ⟨n, rfl, hd⟩
     | false => rw [hd] at h; cases h
theorem kind_of {m : Mp} {q : T} {n : Nd} (hq : q ≠ [47]) (h : getG m (bs q) = some n) : kindM m q = if n.dir = true then 2 else 1 := by
 unfold kindM
 rw [if_neg hq, h]
theorem kind_congr {m m' : Mp} {q : T} (h : getG m (bs q) = getG m' (bs q)) : kindM m q = kindM m' q := by
 unfold kindM
 rw [h]
structure HangS (S : St) : Prop where
 hang : ∀ l s, GoodP (l ++ [s]) → getG S.m (bs (joinF (l ++ [s]))) ≠ none → kindM S.m (joinF l) = 2
 dirs : ∀ k n, getG S.m k = some n → n.dir = true → n.data = []
 times : ∀ k n, getG S.m k = some n → 1 ≤ n.time ∧ n.time ≤ S.clock
 dist : ∀ k k' n n', getG S.m k = some n → getG S.m k' = some n' → n.time = n'.time → k = k'
theorem new_hang (n b : Int) : HangS (newS n b) := ⟨fun l s _ h => absurd rfl h, fun k n h => (by cases h), fun k n h => (by cases h), fun k k' n n' h => (by cases h)⟩
theorem snoc_of {l : List T} (h : l ≠ []) : ∃ a s, l = a ++ [s] := ⟨l.dropLast, l.getLast h, (List.dropLast_concat_getLast h).symm⟩
theorem way_dir {m : Mp} {l : List T} {s : T} (h : ∀ x ∈ l ++ [s], okN x) (hw : wayM m (joinF (l ++ [s])) = 0) : kindM m (joinF l) = 2 := by
 cases hl : l with
 | nil => rfl
 | cons x r =>
   rw [← hl]
   have := (way_iff m h).1 hw l.length (by rw [hl]; simp) (by simp)
   rwa [List.take_left' rfl] at this
theorem HangS.way {S : St} (t : HangS S) : ∀ (n : Nat) {l : List T}, l.length = n → GoodP l → (kindM S.m (joinF l) ≠ 0 ∨ ∃ a s, l = a ++ [s] ∧ kindM S.m (joinF a) = 2) → ∀ k, k < l.length → kindM S.m (joinF (l.take k)) = 2
 | 0, l, hn, hl, h, k, hk => by omega
 | n + 1, l, hn, hl, h, k, hk => by
   obtain ⟨a, s, rfl⟩ := snoc_of (l := l) (by rintro rfl; simp at hn)
   have hd : kindM S.m (joinF a) = 2 := by
     rcases h with h | ⟨a', s', e, h⟩
     · refine t.hang a s hl ?_
       obtain ⟨n, hn⟩ := getG_some_kind (fun e => by have := (joinF_root hl.ok).1 e; simp at this) h
       rw [hn]; simp
     · obtain ⟨rfl, _⟩ := List.append_inj' e rfl
       exact h
   by_cases hk2 : k < a.length
   · rw [List.take_append_of_le_length (by omega)]
     exact HangS.way t n (by simpa using hn) hl.front (.inl (by omega)) k hk2
   · obtain rfl : k = a.length := by simp at hk; omega
     rwa [List.take_left' rfl]
theorem HangS.put {S : St} (t : HangS S) (used : Nat) {l : List T} {s : T} (hl : GoodP (l ++ [s])) (hp : kindM S.m (joinF l) = 2) (dir : Bool) (data : T) (hdd : dir = true → data = [])
   (hd : ∀ n, getG S.m (bs (joinF (l ++ [s]))) = some n → n.dir = true → dir = true) : HangS { putS S (joinF (l ++ [s])) dir data with used := used } := by
 have hg : ∀ k, getG (putG (bs (joinF (l ++ [s])), (⟨dir, data, S.clock + 1⟩ : Nd)) S.m) k = if bs (joinF (l ++ [s])) = k then some ⟨dir, data, S.clock + 1⟩ else getG S.m k := fun k => getG_put _ _ _
 have hk : ∀ a, kindM S.m (joinF a) = 2 → kindM (putG (bs (joinF (l ++ [s])), (⟨dir, data, S.clock + 1⟩ : Nd)) S.m) (joinF a) = 2 := by
   intro a h2
   rcases kind_two h2 with e | ⟨n, h1, h3⟩
   · rw [e]; rfl
   · by_cases e : bs (joinF (l ++ [s])) = bs (joinF a)
     · unfold kindM
       rw [hg, if_pos e]
       split
       · rfl
       · dsimp only
         rw [if_pos (hd n (by rw [e]; exact h1) h3)]
     · exact (kind_put e).trans h2
 refine ⟨fun a x ha hne => ?_, fun k n h1 h2 => ?_, fun k n h1 => ?_, fun k k' n n' h1 h2 h3 => ?_⟩
 · refine hk a ?_
   have hne : getG (putG (bs (joinF (l ++ [s])), (⟨dir, data, S.clock + 1⟩ : Nd)) S.m) (bs (joinF (a ++ [x]))) ≠ none := hne
   rw [hg] at hne
   by_cases e : bs (joinF (l ++ [s])) = bs (joinF (a ++ [x]))
   · obtain ⟨rfl, _⟩ := List.append_inj' (key_inj hl.ok ha.ok e) rfl
     exact hp
   · rw [if_neg e] at hne
     exact t.hang a x ha hne
 · have h1 : getG (putG (bs (joinF (l ++ [s])), (⟨dir, data, S.clock + 1⟩ : Nd)) S.m) k = some n := h1
   rw [hg] at h1
   split at h1
   · injection h1 with h1
     subst h1
     exact hdd h2
   · exact t.dirs k n h1 h2
 · have h1 : getG (putG (bs (joinF (l ++ [s])), (⟨dir, data, S.clock + 1⟩ : Nd)) S.m) k = some n := h1
   show 1 ≤ n.time ∧ n.time ≤ S.clock + 1
   rw [hg] at h1
   split at h1
   · injection h1 with h1
     subst h1
     exact ⟨by simp, by simp⟩
   · have := t.times k n h1
     omega
 · have h1 : getG (putG (bs (joinF (l ++ [s])), (⟨dir, data, S.clock + 1⟩ : Nd)) S.m) k = some n := h1
   have h2 : getG (putG (bs (joinF (l ++ [s])), (⟨dir, data, S.clock + 1⟩ : Nd)) S.m) k' = some n' := h2
   rw [hg] at h1 h2
   split at h1
   · rename_i e1
     injection h1 with h1
     subst h1
     split at h2
     · rename_i e2
       rw [← e1, ← e2]
     · have := t.times k' n' h2
       have h3 : S.clock + 1 = n'.time := h3
       omega
   · split at h2
     · injection h2 with h2
       subst h2
       have := t.times k n h1
       have h3 : n.time = S.clock + 1 := h3
       omega
     · exact t.dist k k' n n' h1 h2 h3
theorem abs_dir {S : St} {p : T} (h : (absS S p).2 = 0) (hq : (absS S p).1 ≠ [47]) : ∃ l s, GoodP (l ++ [s]) ∧ (absS S p).1 = joinF (l ++ [s]) ∧ kindM S.m (joinF l) = 2 := by
 obtain ⟨l, hl, e, _, hw⟩ := absS_good h
 obtain ⟨a, s, rfl⟩ := snoc_of (good_ne e hq)
 exact ⟨a, s, hl, e, way_dir hl.ok hw⟩
theorem writeS_hang {S : St} (t : HangS S) (p b : T) (more : Bool) : HangS (writeS S p b more).1 := by
 unfold writeS
 split
 · exact t
 · rename_i h1
   unfold writeQ
   split
   · exact t
   · rename_i hk
     dsimp only
     generalize (if kindM S.m (absS S p).1 = 0 then 1 else 0) = z
     generalize (if more = true then dataM S.m (absS S p).1 else []) = was
     split
     · obtain ⟨l, s, hl, e, hp⟩ := abs_dir (S := S) (p := p) (by simpa using h1) (root_kind hk)
       rw [e] at hk ⊢
       refine t.put _ hl hp false _ (fun h => by cases h) (fun n h1 h2 => ?_)
       rw [kind_of (root_kind hk) h1, if_pos h2] at hk
       exact absurd rfl hk
     · exact t
theorem mkdirS_hang {S : St} (t : HangS S) (p : T) : HangS (mkdirS S p).1 := by
 unfold mkdirS
 split
 · exact t
 · rename_i h1
   split
   · exact t
   · rename_i hk
     split
     · have hk : kindM S.m (absS S p).1 = 0 := by simpa using hk
       obtain ⟨l, s, hl, e, hp⟩ := abs_dir (S := S) (p := p) (by simpa using h1) (root_kind (m := S.m) (by omega))
       rw [e] at hk ⊢
       exact t.put S.used hl hp true [] (fun _ => rfl) (fun n h1 h2 => rfl)
     · exact t
theorem touchS_hang {S : St} (t : HangS S) (p : T) : HangS (touchS S p).1 := by
 unfold touchS
 split
 · exact t
 · rename_i h1
   split
   · exact t
   · rename_i h2
     cases hg : getG S.m (bs (absS S p).1) with
     | none => exact writeS_hang t p [] false
     | some n =>
       dsimp only
       obtain ⟨l, s, hl, e, hp⟩ := abs_dir (S := S) (p := p) (by simpa using h1) h2
       have hdd := t.dirs _ _ hg
       rw [e] at hg ⊢
       exact t.put S.used hl hp n.dir n.data hdd (fun n' h1 h2 => by rw [hg] at h1; injection h1 with h1; rw [h1]; exact h2)
theorem foundS_abs {S : St} {p : T} (h : (foundS S p).2 = 0) : (absS S p).2 = 0 ∧ (foundS S p).1 = (absS S p).1 ∧ kindM S.m (absS S p).1 ≠ 0 := by
 unfold foundS at h ⊢
 dsimp only at h ⊢
 split at h
 · cases h
 · rename_i h2
   exact ⟨h, rfl, fun h3 => h2 ⟨h, h3⟩⟩
theorem slashed_lastM : ∀ {l : List T}, (∀ s ∈ l, okN s) → l ≠ [] → (slashed l).getLast? ≠ some 47 := by
 intro l h hne
 obtain ⟨a, s, rfl⟩ : ∃ a s, l = a ++ [s] := ⟨l.dropLast, l.getLast hne, (List.dropLast_concat_getLast hne).symm⟩
 obtain ⟨h1, _, _, h4⟩ := h s (by simp)
 rw [slashed_app]
 have e : slashed [s] = 47 :: s := by simp [slashed]
 rw [e, List.getLast?_append, List.getLast?_cons, List.getLast?_eq_some_getLast h1]
 simp
 intro e2
 exact h4 (e2 ▸ List.getLast_mem h1)
theorem joinF_snoc {l : List T} (h : ∀ s ∈ l, okN s) (s : T) : frontF (joinF l) ++ s = joinF (l ++ [s]) := by
 have e : slashed [s] = 47 :: s := by simp [slashed]
 have e2 : joinF (l ++ [s]) = slashed (l ++ [s]) := by unfold joinF; rw [if_neg (by simp)]
 rw [e2, slashed_app, e]
 by_cases hl : l = []
 · subst hl; rfl
 · have e3 : joinF l = slashed l := by unfold joinF; rw [if_neg hl]
   unfold frontF
   rw [e3, if_neg (slashed_lastM h hl)]
   simp
theorem below_none {S : St} {l : List T} (hl : ∀ s ∈ l, okN s) (h : belowM S.m (joinF l) = []) (s : T) : getG S.m (bs (joinF (l ++ [s]))) = none := by
 cases hg : getG S.m (bs (joinF (l ++ [s]))) with
 | none => rfl
 | some n =>
   have : joinF (l ++ [s]) ∈ belowM S.m (joinF l) := mem_below.2 ⟨s, n, (joinF_snoc hl s).symm, getG_mem hg⟩
   rw [h] at this
   cases this
theorem removeS_hang {S : St} (t : HangS S) (p : T) : HangS (removeS S p).1 := by
 unfold removeS
 split
 · exact t
 · rename_i h1
   split
   · exact t
   · rename_i h2
     split
     · exact t
     · rename_i h3
       obtain ⟨h4, h5, h6⟩ := foundS_abs (S := S) (p := p) (by simpa using h1)
       obtain ⟨l, hl, e, _, _⟩ := absS_good h4
       rw [h5, e] at h2 h3 ⊢
       have h3 : belowM S.m (joinF l) = [] := by simpa using h3
       have hg : ∀ k, getG (delG (bs (joinF l)) S.m) k = if bs (joinF l) = k then none else getG S.m k := fun k => getG_del _ _ _
       have hs : ∀ k n, getG (delG (bs (joinF l)) S.m) k = some n → getG S.m k = some n := fun k n h => by
         rw [hg] at h
         split at h
         · cases h
         · exact h
       refine ⟨fun a x ha hne => ?_, fun k n h1 => t.dirs k n (hs k n h1), fun k n h1 => ?_, fun k k' n n' h1 h2 => t.dist k k' n n' (hs _ _ h1) (hs _ _ h2)⟩
       · have hne : getG (delG (bs (joinF l)) S.m) (bs (joinF (a ++ [x]))) ≠ none := hne
         obtain ⟨n, hn⟩ := Option.ne_none_iff_exists'.1 hne
         have h7 := hs _ _ hn
         have h8 := t.hang a x ha (by rw [h7]; simp)
         show kindM (delG (bs (joinF l)) S.m) (joinF a) = 2
         by_cases e2 : l = a
         · subst e2
           rw [below_none hl.ok h3] at h7
           cases h7
         · rw [kind_congr (m' := S.m)]
           · exact h8
           · rw [hg, if_neg (fun e3 => e2 (key_inj hl.ok ha.front.ok e3))]
       · have := t.times k n (hs k n h1)
         show 1 ≤ n.time ∧ n.time ≤ S.clock + 1
         omega
end Go.Proofs.YtaajofojbhdgaaaGreatDoor.Vf
namespace Go.Proofs.YtaajofojbhdgaaaGreatDoor.Vf
open Ln Pth
def mayS (m : Mp) (a b : T) : Nat :=
 if b = [47] ∨ withinF a b = true then 1 else
 if kindM m b = 2 ∧ kindM m a ≠ 2 then 10 else
 if kindM m b = 1 ∧ kindM m a = 2 then 11 else
 if kindM m b = 2 ∧ belowM m b ≠ [] then 14 else
 if ∃ q ∈ belowM m a, (absF [47] (tgt a b q)).2 ≠ 0 then 3 else 0
def moveQ (S : St) (a b : T) : St :=
 { S with m := delG (bs a) (putG (bs b, (⟨((getG (mvL a b S.m (belowM S.m a)) (bs a)).getD nodeZ).dir, ((getG (mvL a b S.m (belowM S.m a)) (bs a)).getD nodeZ).data, S.clock + 1⟩ : Nd)) (mvL a b S.m (belowM S.m a))), used := S.used - (dataM S.m b).length, clock := S.clock + 1 }
def moveS (S : St) (p q : T) : St × Nat :=
 if (absF [47] p).2 ≠ 0 then (S, (absF [47] p).2) else if (absF [47] q).2 ≠ 0 then (S, (absF [47] q).2) else
 if (foundS S p).2 ≠ 0 then (S, (foundS S p).2) else if (foundS S p).1 = [47] then (S, 1) else
 if (absS S q).2 ≠ 0 then (S, (absS S q).2) else if (foundS S p).1 = (absS S q).1 then (S, 0) else
 if mayS S.m (foundS S p).1 (absS S q).1 ≠ 0 then (S, mayS S.m (foundS S p).1 (absS S q).1) else (moveQ S (foundS S p).1 (absS S q).1, 0)
theorem within_join {a b : List T} (ha : ∀ s ∈ a, okN s) (hb : ∀ s ∈ b, okN s) : withinF (joinF a) (joinF b) = true ↔ a <+: b := by
 unfold withinF
 rw [parts_join ha, parts_join hb, decide_eq_true_iff]
 constructor
 · intro h; rw [← h]; exact List.take_prefix _ _
 · rintro ⟨r, rfl⟩; exact List.take_left' rfl
theorem front_eq {a : List T} (h : ∀ s ∈ a, okN s) (_ : a ≠ []) : frontF (joinF a) = slashed a ++ [47] := by
 have := joinF_snoc h []
 rw [List.append_nil] at this
 rw [this, joinF, if_neg (by simp), slashed_app]
 simp [slashed]
theorem slashed_join {l : List T} (h : l ≠ []) : joinF l = slashed l := if_neg h
theorem front_names {a l : List T} (ha : ∀ s ∈ a, okN s) (hl : ∀ s ∈ l, okN s) (hne : a ≠ []) (hln : l ≠ []) {r : T} (h : joinF l = frontF (joinF a) ++ r) : ∃ x, x ≠ [] ∧ l = a ++ x := by
 rw [front_eq ha hne, slashed_join hln, List.append_assoc] at h
 have h1 := congrArg (spl 47) h
 rw [spl_slashed (fun s hs => (hl s hs).2.2.2) hln, List.singleton_append, spl_both, spl_slashed (fun s hs => (ha s hs).2.2.2) hne] at h1
 injection h1 with _ h1
 exact ⟨_, spl_ne _ _, h1⟩
theorem below_names {S : St} (hS : WfS S) {a : List T} (ha : ∀ s ∈ a, okN s) (hne : a ≠ []) {q : T} : q ∈ belowM S.m (joinF a) ↔ ∃ r, r ≠ [] ∧ q = joinF (a ++ r) ∧ GoodP (a ++ r) ∧ getG S.m (bs q) ≠ none := by
 rw [mem_below]
 constructor
 · rintro ⟨r, n, rfl, hm⟩
   obtain ⟨l, hl, hln, e⟩ := hS.good _ hm
   have e := bs_inj e
   obtain ⟨x, hx, rfl⟩ := front_names ha hl.ok hne hln e.symm
   exact ⟨x, hx, e, hl, by rw [mem_getG hS.rise hm]; simp⟩
 · rintro ⟨r, hr, rfl, hg, hm⟩
   obtain ⟨n, hn⟩ := Option.ne_none_iff_exists'.1 hm
   have := getG_mem hn
   cases r with
   | nil => exact absurd rfl hr
   | cons x r =>
     refine ⟨x ++ slashed r, n, ?_, getG_mem hn⟩
     rw [front_eq ha hne, slashed_join (by simp), slashed_app, slashed_cons]
     simp
theorem tgt_join {a b r : List T} (ha : a ≠ []) (hb : b ≠ []) : tgt (joinF a) (joinF b) (joinF (a ++ r)) = joinF (b ++ r) := by
 unfold tgt
 rw [slashed_join ha, slashed_join hb, slashed_join (by simp [ha]), slashed_join (by simp [hb]), slashed_app, slashed_app, List.drop_left' rfl]
structure MvS (S : St) (a b : List T) : Prop where
 wf : WfS S
 hang : HangS S
 ga : GoodP a
 gb : GoodP b
 nea : a ≠ []
 neb : b ≠ []
 there : kindM S.m (joinF a) ≠ 0
 wayb : wayM S.m (joinF b) = 0
 nab : ¬ a <+: b
 bel : belowM S.m (joinF b) = []
 kind : kindM S.m (joinF b) ≠ 0 → kindM S.m (joinF b) = kindM S.m (joinF a)
 fine : ∀ r, r ≠ [] → getG S.m (bs (joinF (a ++ r))) ≠ none → (∀ s ∈ a ++ r, okN s) → GoodP (b ++ r)
theorem MvS.empty {S : St} {a b : List T} (h : MvS S a b) {r : List T} (hr : r ≠ []) (hok : ∀ s ∈ b ++ r, okN s) : getG S.m (bs (joinF (b ++ r))) = none := by
 cases hg : getG S.m (bs (joinF (b ++ r))) with
 | none => rfl
 | some n =>
   obtain ⟨l, hl, hln, e⟩ := h.wf.good _ (getG_mem hg)
   have e2 := key_inj hok hl.ok e
   subst e2
   have : joinF (b ++ r) ∈ belowM S.m (joinF b) := (below_names h.wf h.gb.ok h.neb).2 ⟨r, hr, rfl, hl, by rw [hg]; simp⟩
   rw [h.bel] at this
   cases this
theorem MvS.node {S : St} {a b : List T} (h : MvS S a b) : ∃ n, getG S.m (bs (joinF a)) = some n := getG_some_kind (fun e => h.nea ((joinF_root h.ga.ok).1 e)) h.there
theorem MvS.nba {S : St} {a b : List T} (h : MvS S a b) : ¬ b <+: a := by
 rintro ⟨r, e⟩
 by_cases hr : r = []
 · subst hr
   rw [List.append_nil] at e
   exact h.nab (e ▸ List.prefix_rfl)
 · obtain ⟨n, hn⟩ := h.node
   have := h.empty hr (by rw [e]; exact h.ga.ok)
   rw [e, hn] at this
   cases this
theorem MvS.ok {S : St} {a b : List T} (h : MvS S a b) : MvOk (joinF a) (joinF b) (belowM S.m (joinF a)) := by
 refine ⟨List.Pairwise.imp (fun {x y} hxy e => by subst e; exact tlt_irr _ hxy) (below_rise h.wf.rise _), ?_, ?_⟩
 · intro q hq q' hq' e
   obtain ⟨r, hr, rfl, hg, hm⟩ := (below_names h.wf h.ga.ok h.nea).1 hq
   obtain ⟨r', hr', rfl, hg', hm'⟩ := (below_names h.wf h.ga.ok h.nea).1 hq'
   rw [tgt_join h.nea h.neb, tgt_join h.nea h.neb] at e
   have := joinF_inj (h.fine r hr hm hg.ok).ok (h.fine r' hr' hm' hg'.ok).ok e
   rw [List.append_cancel_left this]
 · intro q hq q' hq' e
   obtain ⟨r, hr, rfl, hg, hm⟩ := (below_names h.wf h.ga.ok h.nea).1 hq
   obtain ⟨r', hr', rfl, hg', hm'⟩ := (below_names h.wf h.ga.ok h.nea).1 hq'
   rw [tgt_join h.nea h.neb] at e
   have e2 := joinF_inj (h.fine r hr hm hg.ok).ok hg'.ok e
   have h1 : b <+: a ++ r' := ⟨r, e2⟩
   have h2 : a <+: a ++ r' := ⟨r', rfl⟩
   rcases List.prefix_or_prefix_of_prefix h1 h2 with h3 | h3
   · exact h.nba h3
   · exact h.nab h3
structure MvG (m m' : Mp) (a b : List T) (clock : Nat) : Prop where
 rise : RiseG m'
 gone : ∀ r, (∀ s ∈ a ++ r, okN s) → getG m' (bs (joinF (a ++ r))) = none
 node : ∀ n, getG m (bs (joinF a)) = some n → getG m' (bs (joinF b)) = some ⟨n.dir, n.data, clock + 1⟩
 deep : ∀ r, r ≠ [] → (∀ s ∈ b ++ r, okN s) → getG m' (bs (joinF (b ++ r))) = getG m (bs (joinF (a ++ r)))
 rest : ∀ l, (∀ s ∈ l, okN s) → l ≠ [] → ¬ a <+: l → ¬ b <+: l → getG m' (bs (joinF l)) = getG m (bs (joinF l))
 odd : ∀ k, (∀ l, (∀ s ∈ l, okN s) → l ≠ [] → k ≠ bs (joinF l)) → getG m' k = none
theorem MvG.same {m m' m'' : Mp} {a b : List T} {clock : Nat} (h : MvG m m' a b clock) (h' : MvG m m'' a b clock) (hn : getG m (bs (joinF a)) ≠ none) : m' = m'' := by
 obtain ⟨n, hn⟩ := Option.ne_none_iff_exists'.1 hn
 refine RiseG.ext h.rise h'.rise (fun k => ?_)
 by_cases hk : ∀ l, (∀ s ∈ l, okN s) → l ≠ [] → k ≠ bs (joinF l)
 · rw [h.odd k hk, h'.odd k hk]
 · have : ∃ l : List T, (∀ s ∈ l, okN s) ∧ l ≠ [] ∧ k = bs (joinF l) := by
     apply Classical.byContradiction
     intro hc
     exact hk (fun l h1 h2 h3 => hc ⟨l, h1, h2, h3⟩)
   obtain ⟨l, hl, hln, rfl⟩ := this
   by_cases h1 : a <+: l
   · obtain ⟨r, rfl⟩ := h1
     rw [h.gone r hl, h'.gone r hl]
   · by_cases h2 : b <+: l
     · obtain ⟨r, rfl⟩ := h2
       by_cases hr : r = []
       · subst hr
         rw [List.append_nil, h.node n hn, h'.node n hn]
       · rw [h.deep r hr hl, h'.deep r hr hl]
     · rw [h.rest l hl hln h1 h2, h'.rest l hl hln h1 h2]
theorem MvS.mvL {S : St} {a b : List T} (h : MvS S a b) :
   (∀ r, r ≠ [] → (∀ s ∈ a ++ r, okN s) → getG (mvL (joinF a) (joinF b) S.m (belowM S.m (joinF a))) (bs (joinF (a ++ r))) = none) ∧
   (∀ r, r ≠ [] → (∀ s ∈ b ++ r, okN s) → getG (mvL (joinF a) (joinF b) S.m (belowM S.m (joinF a))) (bs (joinF (b ++ r))) = getG S.m (bs (joinF (a ++ r)))) ∧
   (∀ l, (∀ s ∈ l, okN s) → (∀ r, r ≠ [] → l ≠ a ++ r) → (∀ r, r ≠ [] → l ≠ b ++ r) → getG (mvL (joinF a) (joinF b) S.m (belowM S.m (joinF a))) (bs (joinF l)) = getG S.m (bs (joinF l))) ∧
   (∀ k, (∀ l, (∀ s ∈ l, okN s) → l ≠ [] → k ≠ bs (joinF l)) → getG (mvL (joinF a) (joinF b) S.m (belowM S.m (joinF a))) k = getG S.m k) := by
 obtain ⟨g1, g2, g3⟩ := mvL_get _ S.m h.ok
 have hin : ∀ q ∈ belowM S.m (joinF a), ∃ r, r ≠ [] ∧ q = joinF (a ++ r) ∧ GoodP (a ++ r) ∧ GoodP (b ++ r) ∧ tgt (joinF a) (joinF b) q = joinF (b ++ r) := by
   intro q hq
   obtain ⟨r, hr, rfl, hg, hm⟩ := (below_names h.wf h.ga.ok h.nea).1 hq
   exact ⟨r, hr, rfl, hg, h.fine r hr hm hg.ok, tgt_join h.nea h.neb⟩
 have hno : ∀ r r', (∀ s ∈ a ++ r, okN s) → (∀ s ∈ b ++ r', okN s) → joinF (a ++ r) ≠ joinF (b ++ r') := by
   intro r r' h1 h2 e
   have e := joinF_inj h1 h2 e
   rcases List.prefix_or_prefix_of_prefix ⟨r, rfl⟩ (show b <+: a ++ r from ⟨r', e.symm⟩) with h3 | h3
   · exact h.nab h3
   · exact h.nba h3
 refine ⟨fun r hr hok => ?_, fun r hr hok => ?_, fun l hl h1 h2 => ?_, fun k hk => ?_⟩
 · by_cases hm : joinF (a ++ r) ∈ belowM S.m (joinF a)
   · exact g2 _ hm
   · rw [g3]
     · cases hg : getG S.m (bs (joinF (a ++ r))) with
       | none => rfl
       | some n =>
         obtain ⟨l, hl, _, e⟩ := h.wf.good _ (getG_mem hg)
         have e2 := key_inj hok hl.ok e
         exact absurd ((below_names h.wf h.ga.ok h.nea).2 ⟨r, hr, rfl, e2 ▸ hl, by rw [hg]; simp⟩) hm
     · intro q hq
       obtain ⟨r', hr', rfl, hg, hgb, ht⟩ := hin q hq
       exact ⟨fun e => hm (by rw [bs_inj e]; exact hq), fun e => hno r r' hok hgb.ok (by rw [← ht]; exact bs_inj e)⟩
 · by_cases hm : getG S.m (bs (joinF (a ++ r))) = none
   · rw [g3, hm, h.empty hr hok]
     intro q hq
     obtain ⟨r', hr', rfl, hg, hgb, ht⟩ := hin q hq
     refine ⟨fun e => hno r' r hg.ok hok (bs_inj e).symm, fun e => ?_⟩
     rw [ht] at e
     have e2 := List.append_cancel_left (key_inj hok hgb.ok e)
     subst e2
     exact ((below_names h.wf h.ga.ok h.nea).1 hq).elim (fun x hx => hx.2.2.2 hm)
   · obtain ⟨n, hn⟩ := Option.ne_none_iff_exists'.1 hm
     obtain ⟨l, hl, hln, e⟩ := h.wf.good _ (getG_mem hn)
     have hq : joinF (a ++ r) ∈ belowM S.m (joinF a) := by
       refine (below_names h.wf h.ga.ok h.nea).2 ⟨r, hr, rfl, ?_, hm⟩
       have hor : ∀ s ∈ a ++ r, okN s := fun s hs => by
         rcases List.mem_append.1 hs with hs | hs
         · exact h.ga.ok s hs
         · exact hok s (by simp [hs])
       rw [key_inj hor hl.ok e]
       exact hl
     have := g1 _ hq
     rw [tgt_join h.nea h.neb, hn] at this
     rw [this, hn]
     rfl
 · refine g3 _ (fun q hq => ?_)
   obtain ⟨r', hr', rfl, hg, hgb, ht⟩ := hin q hq
   rw [ht]
   exact ⟨fun e => h1 r' hr' (key_inj hl hg.ok e), fun e => h2 r' hr' (key_inj hl hgb.ok e)⟩
 · refine g3 _ (fun q hq => ?_)
   obtain ⟨r', hr', rfl, hg, hgb, ht⟩ := hin q hq
   rw [ht]
   exact ⟨hk _ hg.ok (by simp [hr']), hk _ hgb.ok (by simp [hr'])⟩
theorem MvS.get {S : St} {a b : List T} (h : MvS S a b) : MvG S.m (moveQ S (joinF a) (joinF b)).m a b S.clock := by
 obtain ⟨m1, m2, m3, m4⟩ := h.mvL
 obtain ⟨n, hn⟩ := h.node
 have ha : getG (Vf.mvL (joinF a) (joinF b) S.m (belowM S.m (joinF a))) (bs (joinF a)) = some n := by
   rw [m3 a h.ga.ok (fun r hr e => hr (by simpa using e)) (fun r hr e => h.nba ⟨r, e.symm⟩)]
   exact hn
 have hne : bs (joinF a) ≠ bs (joinF b) := fun e => h.nab (key_inj h.ga.ok h.gb.ok e ▸ List.prefix_rfl)
 have hg : ∀ k, getG (moveQ S (joinF a) (joinF b)).m k = if bs (joinF a) = k then none else if bs (joinF b) = k then some ⟨n.dir, n.data, S.clock + 1⟩ else getG (Vf.mvL (joinF a) (joinF b) S.m (belowM S.m (joinF a))) k := fun k => by
   unfold moveQ
   dsimp only
   rw [getG_del, getG_put, ha]
   rfl
 have hno : ∀ r r', (∀ s ∈ a ++ r, okN s) → (∀ s ∈ b ++ r', okN s) → bs (joinF (a ++ r)) ≠ bs (joinF (b ++ r')) := by
   intro r r' h1 h2 e
   have e := key_inj h1 h2 e
   rcases List.prefix_or_prefix_of_prefix ⟨r, rfl⟩ (show b <+: a ++ r from ⟨r', e.symm⟩) with h3 | h3
   · exact h.nab h3
   · exact h.nba h3
 refine ⟨RiseG.del (RiseG.put _ (mvL_rise _ _ _ h.wf.rise)) _, fun r hok => ?_, fun n' hn' => ?_, fun r hr hok => ?_, fun l hl hln h1 h2 => ?_, fun k hk => ?_⟩
 · rw [hg]
   by_cases hr : r = []
   · subst hr
     rw [List.append_nil, if_pos rfl]
   · have := hno r [] hok (by simpa using h.gb.ok)
     rw [List.append_nil] at this
     rw [if_neg (fun e => hr (by simpa using key_inj h.ga.ok hok e)), if_neg (fun e => this e.symm), m1 r hr hok]
 · rw [hn] at hn'
   injection hn' with hn'
   subst hn'
   rw [hg, if_neg hne, if_pos rfl]
 · have := hno [] r (by simpa using h.ga.ok) hok
   rw [List.append_nil] at this
   rw [hg, if_neg this, if_neg (fun e => hr (by simpa using key_inj h.gb.ok hok e)), m2 r hr hok]
 · rw [hg, if_neg (fun e => h1 (key_inj h.ga.ok hl e ▸ List.prefix_rfl)), if_neg (fun e => h2 (key_inj h.gb.ok hl e ▸ List.prefix_rfl)), m3 l hl (fun r hr e => h1 ⟨r, e.symm⟩) (fun r hr e => h2 ⟨r, e.symm⟩)]
 · rw [hg, if_neg (fun e => hk a h.ga.ok h.nea e.symm), if_neg (fun e => hk b h.gb.ok h.neb e.symm), m4 k hk]
   exact getG_none_of (fun z hz e => by
     obtain ⟨l, hl, hln, e2⟩ := h.wf.good z hz
     exact hk l hl.ok hln (e.symm.trans e2))
theorem MvS.sum {S : St} {a b : List T} (h : MvS S a b) (f : Nd → Nat) (hf : ∀ d x t t', f ⟨d, x, t⟩ = f ⟨d, x, t'⟩) : sumG f (moveQ S (joinF a) (joinF b)).m + fO f (getG S.m (bs (joinF b))) = sumG f S.m := by
 obtain ⟨m1, m2, m3, m4⟩ := h.mvL
 obtain ⟨n, hn⟩ := h.node
 have ha : getG (Vf.mvL (joinF a) (joinF b) S.m (belowM S.m (joinF a))) (bs (joinF a)) = some n := by
   rw [m3 a h.ga.ok (fun r hr e => hr (by simpa using e)) (fun r hr e => h.nba ⟨r, e.symm⟩)]
   exact hn
 have hb : getG (Vf.mvL (joinF a) (joinF b) S.m (belowM S.m (joinF a))) (bs (joinF b)) = getG S.m (bs (joinF b)) :=
   m3 b h.gb.ok (fun r hr e => h.nab ⟨r, e.symm⟩) (fun r hr e => hr (by simpa using e))
 have hne : bs (joinF b) ≠ bs (joinF a) := fun e => h.nab (key_inj h.gb.ok h.ga.ok e ▸ List.prefix_rfl)
 have hr := mvL_rise (joinF a) (joinF b) (belowM S.m (joinF a)) h.wf.rise
 have s0 := mvL_sum f (belowM S.m (joinF a)) h.wf.rise h.ok (fun q hq => by
   obtain ⟨r, _, rfl, _, hm⟩ := (below_names h.wf h.ga.ok h.nea).1 hq
   exact hm) (fun q hq => by
   obtain ⟨r, hr, rfl, hg, hm⟩ := (below_names h.wf h.ga.ok h.nea).1 hq
   rw [tgt_join h.nea h.neb]
   exact h.empty hr (h.fine r hr hm hg.ok).ok)
 have s1 := sumG_put f (bs (joinF b), (⟨n.dir, n.data, S.clock + 1⟩ : Nd)) hr
 have s2 := sumG_del f (bs (joinF a)) (RiseG.put (bs (joinF b), (⟨n.dir, n.data, S.clock + 1⟩ : Nd)) hr)
 rw [getG_put, if_neg hne, ha] at s2
 rw [hb] at s1
 have hfn : f ⟨n.dir, n.data, S.clock + 1⟩ = f n := hf n.dir n.data _ n.time
 simp only [fO] at s2
 rw [hfn] at s1
 have e0 : (moveQ S (joinF a) (joinF b)).m = delG (bs (joinF a)) (putG (bs (joinF b), (⟨n.dir, n.data, S.clock + 1⟩ : Nd)) (Vf.mvL (joinF a) (joinF b) S.m (belowM S.m (joinF a)))) := by
   unfold moveQ
   dsimp only
   rw [ha]
   rfl
 rw [e0]
 omega
theorem sum_szO (m : Mp) : (m.map fun x => x.2.data.length).sum = sumG (fun n => n.data.length) m := rfl
theorem fO_szO (o : Option Nd) : fO (fun n => n.data.length) o = szO o := by cases o <;> rfl
theorem MvS.moved_wf {S : St} {a b : List T} (h : MvS S a b) : WfS (moveQ S (joinF a) (joinF b)) := by
 have g := h.get
 have s1 := h.sum (fun n => n.data.length) (fun _ _ _ _ => rfl)
 have s2 := h.sum (fun _ => 1) (fun _ _ _ _ => rfl)
 rw [sumG_one, sumG_one] at s2
 rw [fO_szO, ← dataM_sz] at s1
 have hs := h.wf.sum
 rw [sum_szO] at hs
 have hn := h.wf.nodes
 have hb := h.wf.bytes
 refine ⟨g.rise, fun x hx => ?_, ?_, ?_, ?_, h.wf.n10, h.wf.b20⟩
 · have hxg : getG (moveQ S (joinF a) (joinF b)).m x.1 = some x.2 := mem_getG g.rise hx
   by_cases hk : ∀ l, (∀ s ∈ l, okN s) → l ≠ [] → x.1 ≠ bs (joinF l)
   · rw [g.odd _ hk] at hxg; cases hxg
   · have : ∃ l : List T, (∀ s ∈ l, okN s) ∧ l ≠ [] ∧ x.1 = bs (joinF l) := by
       apply Classical.byContradiction
       intro hc
       exact hk (fun l h1 h2 h3 => hc ⟨l, h1, h2, h3⟩)
     obtain ⟨l, hl, hln, e⟩ := this
     refine ⟨l, ?_, hln, e⟩
     rw [e] at hxg
     by_cases h1 : a <+: l
     · obtain ⟨r, rfl⟩ := h1
       rw [g.gone r hl] at hxg; cases hxg
     · by_cases h2 : b <+: l
       · obtain ⟨r, rfl⟩ := h2
         by_cases hr : r = []
         · subst hr
           rw [List.append_nil]; exact h.gb
         · rw [g.deep r hr hl] at hxg
           exact h.fine r hr (by rw [hxg]; simp) (fun s hs => by
             rcases List.mem_append.1 hs with hs | hs
             · exact h.ga.ok s hs
             · exact hl s (by simp [hs]))
       · rw [g.rest l hl hln h1 h2] at hxg
         obtain ⟨l', hl', _, e'⟩ := h.wf.good _ (getG_mem hxg)
         rw [key_inj hl hl'.ok e']
         exact hl'
 · rw [sum_szO]
   show S.used - _ = _
   omega
 · show (moveQ S (joinF a) (joinF b)).m.length ≤ S.nodes
   omega
 · show S.used - _ ≤ S.bytes
   omega
end Go.Proofs.YtaajofojbhdgaaaGreatDoor.Vf
namespace Go.Proofs.YtaajofojbhdgaaaGreatDoor.Vf
open Ln Pth
theorem ok_left {a b : List T} (h : ∀ s ∈ a ++ b, okN s) : ∀ s ∈ a, okN s := fun s hs => h s (List.mem_append_left _ hs)
theorem ok_right {a b : List T} (h : ∀ s ∈ a ++ b, okN s) : ∀ s ∈ b, okN s := fun s hs => h s (List.mem_append_right _ hs)
theorem ok_app {a b : List T} (ha : ∀ s ∈ a, okN s) (hb : ∀ s ∈ b, okN s) : ∀ s ∈ a ++ b, okN s := fun s hs => (List.mem_append.1 hs).elim (ha s) (hb s)
theorem MvG.back {m m' : Mp} {a b : List T} {clock : Nat} (g : MvG m m' a b clock) (_ : ∀ s ∈ a, okN s) {n0 : Nd} (h0 : getG m (bs (joinF a)) = some n0) {k : ByteArray} {n : Nd} (h : getG m' k = some n) :
   (k = bs (joinF b) ∧ n = ⟨n0.dir, n0.data, clock + 1⟩) ∨ ∃ l, (∀ s ∈ l, okN s) ∧ l ≠ [] ∧ k = bs (joinF l) ∧ ((¬ a <+: l ∧ ¬ b <+: l ∧ getG m k = some n) ∨ ∃ r, r ≠ [] ∧ l = b ++ r ∧ getG m (bs (joinF (a ++ r))) = some n) := by
 by_cases hk : ∀ l, (∀ s ∈ l, okN s) → l ≠ [] → k ≠ bs (joinF l)
 · rw [g.odd _ hk] at h; cases h
 · have : ∃ l : List T, (∀ s ∈ l, okN s) ∧ l ≠ [] ∧ k = bs (joinF l) := by
     apply Classical.byContradiction
     intro hc
     exact hk (fun l h1 h2 h3 => hc ⟨l, h1, h2, h3⟩)
   obtain ⟨l, hl, hln, rfl⟩ := this
   by_cases h1 : a <+: l
   · obtain ⟨r, rfl⟩ := h1
     rw [g.gone r hl] at h; cases h
   · by_cases h2 : b <+: l
     · obtain ⟨r, rfl⟩ := h2
       by_cases hr : r = []
       · subst hr
         rw [List.append_nil, g.node n0 h0] at h
         injection h with h
         exact .inl ⟨by rw [List.append_nil], h.symm⟩
       · exact .inr ⟨_, hl, hln, rfl, .inr ⟨r, hr, rfl, by rw [← g.deep r hr hl]; exact h⟩⟩
     · exact .inr ⟨l, hl, hln, rfl, .inl ⟨h1, h2, by rw [← g.rest l hl hln h1 h2]; exact h⟩⟩
theorem good_key {S : St} (h : WfS S) {l : List T} (hl : ∀ s ∈ l, okN s) (hg : getG S.m (bs (joinF l)) ≠ none) : GoodP l := by
 obtain ⟨n, hn⟩ := Option.ne_none_iff_exists'.1 hg
 obtain ⟨l', hl', _, e⟩ := h.good _ (getG_mem hn)
 rw [key_inj hl hl'.ok e]
 exact hl'
theorem MvS.moved_hang {S : St} {a b : List T} (h : MvS S a b) : HangS (moveQ S (joinF a) (joinF b)) := by
 have g := h.get
 obtain ⟨n0, h0⟩ := h.node
 have nr : ∀ {l : List T}, (∀ s ∈ l, okN s) → l ≠ [] → joinF l ≠ [47] := fun hl hne e => hne ((joinF_root hl).1 e)
 have hrest : ∀ l : List T, (∀ s ∈ l, okN s) → ¬ a <+: l → ¬ b <+: l → kindM (moveQ S (joinF a) (joinF b)).m (joinF l) = kindM S.m (joinF l) := fun l hl h1 h2 => by
   by_cases hn : l = []
   · subst hn; rfl
   · exact kind_congr (g.rest l hl hn h1 h2)
 refine ⟨fun l s hl hne => ?_, fun k n h1 h2 => ?_, fun k n h1 => ?_, fun k k' n n' h1 h2 h3 => ?_⟩
 · obtain ⟨n, hn⟩ := Option.ne_none_iff_exists'.1 hne
   rcases g.back h.ga.ok h0 hn with ⟨e, _⟩ | ⟨l', hl', hln, e, h4⟩
   · have e := key_inj hl.ok h.gb.ok e
     have hd : kindM S.m (joinF l) = 2 := way_dir hl.ok (by rw [e]; exact h.wayb)
     rw [hrest l hl.front.ok (fun hp => h.nab (e ▸ hp.trans (List.prefix_append _ _))) (fun hp => by
       have := hp.length_le
       rw [← e] at this
       simp at this
       omega)]
     exact hd
   · have e := key_inj hl.ok hl' e
     subst e
     rcases h4 with ⟨h5, h6, h7⟩ | ⟨r, hr, e, h7⟩
     · rw [hrest l hl.front.ok (fun hp => h5 (hp.trans (List.prefix_append _ _))) (fun hp => h6 (hp.trans (List.prefix_append _ _)))]
       exact h.hang.hang l s hl (by rw [h7]; simp)
     · obtain ⟨r0, s0, rfl⟩ := snoc_of hr
       rw [← List.append_assoc] at e h7
       obtain ⟨rfl, e2⟩ := List.append_inj' e rfl
       injection e2 with e2
       subst e2
       have hok : ∀ x ∈ a ++ r0 ++ [s], okN x := ok_app (ok_app h.ga.ok (ok_right hl.front.ok)) (ok_right hl.ok)
       have hd := h.hang.hang (a ++ r0) s (good_key h.wf hok (by rw [h7]; simp)) (by rw [h7]; simp)
       by_cases hr0 : r0 = []
       · subst hr0
         rw [List.append_nil] at hd ⊢
         rw [kind_of (nr h.gb.ok h.neb) (g.node n0 h0)]
         rw [kind_of (nr h.ga.ok h.nea) h0] at hd
         exact hd
       · rw [← hd]
         unfold kindM
         rw [if_neg (nr hl.front.ok (by simp [h.neb])), if_neg (nr (ok_left hok) (by simp [h.nea])), g.deep r0 hr0 hl.front.ok]
 · rcases g.back h.ga.ok h0 h1 with ⟨_, e⟩ | ⟨l, hl, hln, e, ⟨_, _, h7⟩ | ⟨r, hr, _, h7⟩⟩
   · rw [e] at h2 ⊢
     exact h.hang.dirs _ n0 h0 h2
   · exact h.hang.dirs _ n h7 h2
   · exact h.hang.dirs _ n h7 h2
 · show 1 ≤ n.time ∧ n.time ≤ S.clock + 1
   rcases g.back h.ga.ok h0 h1 with ⟨_, e⟩ | ⟨l, hl, hln, e, ⟨_, _, h7⟩ | ⟨r, hr, _, h7⟩⟩
   · rw [e]; exact ⟨by simp, by simp⟩
   · have := h.hang.times _ n h7; omega
   · have := h.hang.times _ n h7; omega
 · have hb : ∀ {k n}, (∃ l, (∀ s ∈ l, okN s) ∧ l ≠ [] ∧ k = bs (joinF l) ∧ ((¬ a <+: l ∧ ¬ b <+: l ∧ getG S.m k = some n) ∨ ∃ r, r ≠ [] ∧ l = b ++ r ∧ getG S.m (bs (joinF (a ++ r))) = some n)) → n.time ≤ S.clock := by
     rintro k n ⟨l, hl, hln, e, ⟨_, _, h7⟩ | ⟨r, hr, _, h7⟩⟩
     · exact (h.hang.times _ n h7).2
     · exact (h.hang.times _ n h7).2
   rcases g.back h.ga.ok h0 h1 with ⟨e1, f1⟩ | hc1
   · rcases g.back h.ga.ok h0 h2 with ⟨e2, f2⟩ | hc2
     · rw [e1, e2]
     · have := hb hc2
       rw [f1] at h3
       dsimp only at h3
       omega
   · rcases g.back h.ga.ok h0 h2 with ⟨e2, f2⟩ | hc2
     · have := hb hc1
       rw [f2] at h3
       dsimp only at h3
       omega
     · obtain ⟨l1, hl1, hn1, rfl, c1⟩ := hc1
       obtain ⟨l2, hl2, hn2, rfl, c2⟩ := hc2
       rcases c1 with ⟨p1, p2, p3⟩ | ⟨r, hr, rfl, p3⟩
       · rcases c2 with ⟨q1, q2, q3⟩ | ⟨r', hr', rfl, q3⟩
         · exact h.hang.dist _ _ n n' p3 q3 h3
         · have e := key_inj hl1 (ok_app h.ga.ok (ok_right hl2)) (h.hang.dist _ _ n n' p3 q3 h3)
           exact absurd (⟨r', e.symm⟩ : a <+: l1) p1
       · rcases c2 with ⟨q1, q2, q3⟩ | ⟨r', hr', rfl, q3⟩
         · have e := key_inj (ok_app h.ga.ok (ok_right hl1)) hl2 (h.hang.dist _ _ n n' p3 q3 h3)
           exact absurd (⟨r, e⟩ : a <+: l2) q1
         · have e := key_inj (ok_app h.ga.ok (ok_right hl1)) (ok_app h.ga.ok (ok_right hl2)) (h.hang.dist _ _ n n' p3 q3 h3)
           rw [List.append_cancel_left e]
theorem abs_ok {l : List T} (h : (absF [47] (joinF l)).2 = 0) (hok : ∀ s ∈ l, okN s) : GoodP l := by
 rcases absF_cases [47] (joinF l) with ⟨l', g, e, hp⟩ | ⟨_, e⟩
 · rw [parts_join hok] at hp
   rw [hp]; exact g
 · omega
theorem nothing_below {S : St} (hS : WfS S) (t : HangS S) {b : List T} (gb : GoodP b) (neb : b ≠ []) (hk : kindM S.m (joinF b) ≠ 2) : belowM S.m (joinF b) = [] := by
 refine List.eq_nil_iff_forall_not_mem.2 (fun q hq => ?_)
 obtain ⟨r, hr, rfl, hg, hm⟩ := (below_names hS gb.ok neb).1 hq
 have hk0 : kindM S.m (joinF (b ++ r)) ≠ 0 := by
   obtain ⟨n, hn⟩ := Option.ne_none_iff_exists'.1 hm
   rw [kind_of (fun e => neb (by have := (joinF_root hg.ok).1 e; simp at this; exact this.1)) hn]
   split <;> omega
 have := t.way _ rfl hg (.inl hk0) b.length (by have := List.length_pos_iff.2 hr; simp; omega)
 rw [List.take_left' rfl] at this
 exact hk this
theorem moveS_cases {S : St} (hS : WfS S) (t : HangS S) (p q : T) : (moveS S p q).1 = S ∨
   ∃ a b, MvS S a b ∧ moveS S p q = (moveQ S (joinF a) (joinF b), 0) ∧ absS S p = (joinF a, 0) ∧ absS S q = (joinF b, 0) := by
 unfold moveS
 by_cases c1 : (absF [47] p).2 ≠ 0
 · rw [if_pos c1]; exact .inl rfl
 rw [if_neg c1]
 by_cases c2 : (absF [47] q).2 ≠ 0
 · rw [if_pos c2]; exact .inl rfl
 rw [if_neg c2]
 by_cases c3 : (foundS S p).2 ≠ 0
 · rw [if_pos c3]; exact .inl rfl
 rw [if_neg c3]
 by_cases c4 : (foundS S p).1 = [47]
 · rw [if_pos c4]; exact .inl rfl
 rw [if_neg c4]
 by_cases c5 : (absS S q).2 ≠ 0
 · rw [if_pos c5]; exact .inl rfl
 rw [if_neg c5]
 by_cases c6 : (foundS S p).1 = (absS S q).1
 · rw [if_pos c6]; exact .inl rfl
 rw [if_neg c6]
 by_cases c7 : mayS S.m (foundS S p).1 (absS S q).1 ≠ 0
 · rw [if_pos c7]; exact .inl rfl
 rw [if_neg c7]
 right
 have c3 : (foundS S p).2 = 0 := by simpa using c3
 have c5 : (absS S q).2 = 0 := by simpa using c5
 have c7 : mayS S.m (foundS S p).1 (absS S q).1 = 0 := by simpa using c7
 obtain ⟨d1, d2, d3⟩ := foundS_abs c3
 obtain ⟨a, ga, ea, _, wa⟩ := absS_good d1
 obtain ⟨b, gb, eb, _, wb⟩ := absS_good c5
 rw [d2, ea] at c4 c6 c7
 rw [d2, ea]
 rw [eb] at c6 c7
 rw [eb]
 rw [ea] at d3
 have hna : a ≠ [] := good_ne rfl c4
 unfold mayS at c7
 by_cases e1 : joinF b = [47] ∨ withinF (joinF a) (joinF b) = true
 · rw [if_pos e1] at c7; cases c7
 rw [if_neg e1] at c7
 by_cases e2 : kindM S.m (joinF b) = 2 ∧ kindM S.m (joinF a) ≠ 2
 · rw [if_pos e2] at c7; cases c7
 rw [if_neg e2] at c7
 by_cases e3 : kindM S.m (joinF b) = 1 ∧ kindM S.m (joinF a) = 2
 · rw [if_pos e3] at c7; cases c7
 rw [if_neg e3] at c7
 by_cases e4 : kindM S.m (joinF b) = 2 ∧ belowM S.m (joinF b) ≠ []
 · rw [if_pos e4] at c7; cases c7
 rw [if_neg e4] at c7
 by_cases e5 : ∃ q ∈ belowM S.m (joinF a), (absF [47] (tgt (joinF a) (joinF b) q)).2 ≠ 0
 · rw [if_pos e5] at c7; cases c7
 have hnb : b ≠ [] := good_ne rfl (fun e => e1 (.inl e))
 have hka := kind_le S.m (joinF a)
 have hkb := kind_le S.m (joinF b)
 refine ⟨a, b, ⟨hS, t, ga, gb, hna, hnb, d3, wb, fun h => e1 (.inr ((within_join ga.ok gb.ok).2 h)), ?_, fun h => by omega, fun r hr hm hok => ?_⟩, rfl, Prod.ext ea d1, Prod.ext eb c5⟩
 · by_cases k2 : kindM S.m (joinF b) = 2
   · apply Classical.byContradiction
     intro hb
     exact e4 ⟨k2, hb⟩
   · exact nothing_below hS t gb hnb k2
 · have hq : joinF (a ++ r) ∈ belowM S.m (joinF a) := (below_names hS ga.ok hna).2 ⟨r, hr, rfl, good_key hS hok hm, hm⟩
   have h0 : (absF [47] (tgt (joinF a) (joinF b) (joinF (a ++ r)))).2 = 0 := by
     apply Classical.byContradiction
     intro hne
     exact e5 ⟨_, hq, hne⟩
   rw [tgt_join hna hnb] at h0
   exact abs_ok h0 (ok_app gb.ok (ok_right hok))
theorem moveS_wf {S : St} (hS : WfS S) (t : HangS S) (p q : T) : WfS (moveS S p q).1 := by
 rcases moveS_cases hS t p q with h | ⟨a, b, h, e, _⟩
 · rw [h]; exact hS
 · rw [e]; exact h.moved_wf
theorem moveS_hang {S : St} (hS : WfS S) (t : HangS S) (p q : T) : HangS (moveS S p q).1 := by
 rcases moveS_cases hS t p q with h | ⟨a, b, h, e, _⟩
 · rw [h]; exact t
 · rw [e]; exact h.moved_hang
theorem moveS_consts (S : St) (p q : T) : (moveS S p q).1.nodes = S.nodes ∧ (moveS S p q).1.bytes = S.bytes ∧ S.clock ≤ (moveS S p q).1.clock ∧ (moveS S p q).1.clock ≤ S.clock + 1 := by
 unfold moveS
 by_cases c1 : (absF [47] p).2 ≠ 0
 · rw [if_pos c1]; exact ⟨rfl, rfl, Nat.le_refl _, Nat.le_succ _⟩
 rw [if_neg c1]
 by_cases c2 : (absF [47] q).2 ≠ 0
 · rw [if_pos c2]; exact ⟨rfl, rfl, Nat.le_refl _, Nat.le_succ _⟩
 rw [if_neg c2]
 by_cases c3 : (foundS S p).2 ≠ 0
 · rw [if_pos c3]; exact ⟨rfl, rfl, Nat.le_refl _, Nat.le_succ _⟩
 rw [if_neg c3]
 by_cases c4 : (foundS S p).1 = [47]
 · rw [if_pos c4]; exact ⟨rfl, rfl, Nat.le_refl _, Nat.le_succ _⟩
 rw [if_neg c4]
 by_cases c5 : (absS S q).2 ≠ 0
 · rw [if_pos c5]; exact ⟨rfl, rfl, Nat.le_refl _, Nat.le_succ _⟩
 rw [if_neg c5]
 by_cases c6 : (foundS S p).1 = (absS S q).1
 · rw [if_pos c6]; exact ⟨rfl, rfl, Nat.le_refl _, Nat.le_succ _⟩
 rw [if_neg c6]
 by_cases c7 : mayS S.m (foundS S p).1 (absS S q).1 ≠ 0
 · rw [if_pos c7]; exact ⟨rfl, rfl, Nat.le_refl _, Nat.le_succ _⟩
 rw [if_neg c7]
 exact ⟨rfl, rfl, Nat.le_succ _, Nat.le_refl _⟩
end Go.Proofs.YtaajofojbhdgaaaGreatDoor.Vf
namespace Go.Proofs.YtaajofojbhdgaaaGreatDoor.Vf
open Ln Pth
theorem getG_filter (p : ByteArray → Bool) (k : ByteArray) : ∀ m : Mp, getG (m.filter fun z => p z.1) k = if p k = true then getG m k else none
 | [] => by simp [getG]
 | y :: m => by
   have ih := getG_filter p k m
   rw [List.filter_cons]
   by_cases e : y.1 = k
   · subst e
     by_cases h : p y.1 = true
     · rw [if_pos h, if_pos h, getG_cons, getG_cons, if_pos rfl, if_pos rfl]
     · rw [if_neg h, ih, if_neg h, if_neg h]
   · split
     · rw [getG_cons, getG_cons, if_neg e, if_neg e, ih]
     · rw [getG_cons, if_neg e, ih]
theorem fold_get (v : ByteArray × Nd → Nd) : ∀ (L : Mp) (m : Mp), L.Pairwise (fun a b => a.1 ≠ b.1) →
   (∀ z ∈ L, getG (L.foldl (fun Q z => putG (z.1, v z) Q) m) z.1 = some (v z)) ∧ ∀ k, (∀ z ∈ L, z.1 ≠ k) → getG (L.foldl (fun Q z => putG (z.1, v z) Q) m) k = getG m k
 | [], m, _ => ⟨fun z hz => (by cases hz), fun k _ => rfl⟩
 | y :: L, m, h => by
   have h1 := List.pairwise_cons.1 h
   obtain ⟨i1, i2⟩ := fold_get v L (putG (y.1, v y) m) h1.2
   refine ⟨fun z hz => ?_, fun k hk => ?_⟩
   · rw [List.foldl_cons]
     rcases List.mem_cons.1 hz with rfl | hz
     · rw [i2 _ (fun x hx e => h1.1 x hx e.symm), getG_put, if_pos rfl]
     · exact i1 z hz
   · rw [List.foldl_cons, i2 k (fun z hz => hk z (by simp [hz])), getG_put, if_neg (hk y (by simp))]
theorem fold_rise (v : ByteArray × Nd → Nd) : ∀ (L : Mp) {m : Mp}, RiseG m → RiseG (L.foldl (fun Q z => putG (z.1, v z) Q) m)
 | [], _, h => h
 | _ :: L, _, h => fold_rise v L (RiseG.put _ h)
def rmvL (m : Mp) (x y : T) : Mp := (m.filter fun z => withinF x z.1.data.toList).map fun z => (bs (tgt x y z.1.data.toList), z.2)
def routM (m : Mp) (x y : T) : Mp := (m.filter fun z => !withinF x z.1.data.toList).filter fun z => !withinF y z.1.data.toList
def rvalM (y : T) (t : Nat) (z : ByteArray × Nd) : Nd := if z.1 = bs y then ⟨z.2.dir, z.2.data, t⟩ else z.2
def rmoveM (m : Mp) (x y : T) (t : Nat) : Mp := (rmvL m x y).foldl (fun Q z => putG (z.1, rvalM y t z) Q) (routM m x y)
theorem within_mem {S : St} (hS : WfS S) {a : List T} (ga : GoodP a) {z : ByteArray × Nd} (hz : z ∈ S.m) : withinF (joinF a) z.1.data.toList = true ↔ ∃ r, z.1 = bs (joinF (a ++ r)) ∧ GoodP (a ++ r) := by
 obtain ⟨l, hl, hln, e⟩ := hS.good z hz
 rw [e, bs_list, within_join ga.ok hl.ok]
 constructor
 · rintro ⟨r, rfl⟩; exact ⟨r, rfl, hl⟩
 · rintro ⟨r, e2, hg⟩
   rw [key_inj hl.ok hg.ok e2]
   exact List.prefix_append _ _
theorem MvS.rget {S : St} {a b : List T} (h : MvS S a b) : MvG S.m (rmoveM S.m (joinF a) (joinF b) (S.clock + 1)) a b S.clock := by
 have hmem : ∀ z ∈ rmvL S.m (joinF a) (joinF b), ∃ r n, z = (bs (joinF (b ++ r)), n) ∧ GoodP (a ++ r) ∧ GoodP (b ++ r) ∧ getG S.m (bs (joinF (a ++ r))) = some n := by
   intro z hz
   unfold rmvL at hz
   obtain ⟨y, hy, rfl⟩ := List.mem_map.1 hz
   obtain ⟨hy, hw⟩ := List.mem_filter.1 hy
   obtain ⟨r, e, hg⟩ := (within_mem h.wf h.ga hy).1 hw
   have hgt : getG S.m (bs (joinF (a ++ r))) = some y.2 := mem_getG h.wf.rise (by rw [← e]; exact hy)
   refine ⟨r, y.2, ?_, hg, ?_, hgt⟩
   · rw [e, bs_list, tgt_join h.nea h.neb]
   · by_cases hr : r = []
     · subst hr; rw [List.append_nil]; exact h.gb
     · exact h.fine r hr (by rw [hgt]; simp) hg.ok
 have hin : ∀ r n, getG S.m (bs (joinF (a ++ r))) = some n → (∀ s ∈ a ++ r, okN s) → (bs (joinF (b ++ r)), n) ∈ rmvL S.m (joinF a) (joinF b) := by
   intro r n hn hok
   unfold rmvL
   refine List.mem_map.2 ⟨(bs (joinF (a ++ r)), n), List.mem_filter.2 ⟨getG_mem hn, ?_⟩, by rw [bs_list, tgt_join h.nea h.neb]⟩
   rw [bs_list]
   exact (within_join h.ga.ok hok).2 (List.prefix_append _ _)
 have hpw : (rmvL S.m (joinF a) (joinF b)).Pairwise (fun a b => a.1 ≠ b.1) := by
   unfold rmvL
   rw [List.pairwise_map]
   refine List.Pairwise.imp_of_mem ?_ (List.Pairwise.filter _ h.wf.rise)
   intro x y hx hy hxy e
   obtain ⟨hx, hxw⟩ := List.mem_filter.1 hx
   obtain ⟨hy, hyw⟩ := List.mem_filter.1 hy
   obtain ⟨r, e1, hg1⟩ := (within_mem h.wf h.ga hx).1 hxw
   obtain ⟨r', e2, hg2⟩ := (within_mem h.wf h.ga hy).1 hyw
   rw [e1, e2, bs_list, bs_list, tgt_join h.nea h.neb, tgt_join h.nea h.neb] at e
   have hok : ∀ r, GoodP (a ++ r) → ∀ s ∈ b ++ r, okN s := fun r hg => ok_app h.gb.ok (ok_right hg.ok)
   have e3 := List.append_cancel_left (key_inj (hok r hg1) (hok r' hg2) e)
   subst e3
   rw [e1, e2, sLt_irr] at hxy
   cases hxy
 obtain ⟨f1, f2⟩ := fold_get (rvalM (joinF b) (S.clock + 1)) (rmvL S.m (joinF a) (joinF b)) (routM S.m (joinF a) (joinF b)) hpw
 have hno : ∀ r r', (∀ s ∈ a ++ r, okN s) → (∀ s ∈ b ++ r', okN s) → bs (joinF (a ++ r)) ≠ bs (joinF (b ++ r')) := by
   intro r r' h1 h2 e
   have e := key_inj h1 h2 e
   rcases List.prefix_or_prefix_of_prefix ⟨r, rfl⟩ (show b <+: a ++ r from ⟨r', e.symm⟩) with h3 | h3
   · exact h.nab h3
   · exact h.nba h3
 have hout : ∀ k, getG (routM S.m (joinF a) (joinF b)) k = if (!withinF (joinF b) k.data.toList) = true then (if (!withinF (joinF a) k.data.toList) = true then getG S.m k else none) else none := by
   intro k
   unfold routM
   rw [getG_filter (fun k => !withinF (joinF b) k.data.toList), getG_filter (fun k => !withinF (joinF a) k.data.toList)]
 have hrise : RiseG (routM S.m (joinF a) (joinF b)) := List.Pairwise.filter _ (List.Pairwise.filter _ h.wf.rise)
 refine ⟨fold_rise _ _ hrise, fun r hok => ?_, fun n hn => ?_, fun r hr hok => ?_, fun l hl hln h1 h2 => ?_, fun k hk => ?_⟩
 · unfold rmoveM
   rw [f2, hout]
   · have : withinF (joinF a) (joinF (a ++ r)) = true := (within_join h.ga.ok hok).2 (List.prefix_append _ _)
     rw [bs_list, this]
     simp
   · intro z hz e
     obtain ⟨r', n, rfl, _, hgb, _⟩ := hmem z hz
     exact hno r r' hok hgb.ok e.symm
 · have := f1 _ (hin [] n (by rw [List.append_nil]; exact hn) (by rw [List.append_nil]; exact h.ga.ok))
   rw [List.append_nil] at this
   unfold rmoveM
   rw [this]
   unfold rvalM
   rw [if_pos rfl]
 · unfold rmoveM
   cases hn : getG S.m (bs (joinF (a ++ r))) with
   | some n =>
     rw [f1 _ (hin r n hn (ok_app h.ga.ok (ok_right hok)))]
     unfold rvalM
     rw [if_neg (fun e => hr (by simpa using key_inj hok h.gb.ok e))]
   | none =>
     rw [f2, hout]
     · have : withinF (joinF b) (joinF (b ++ r)) = true := (within_join h.gb.ok hok).2 (List.prefix_append _ _)
       rw [bs_list, this]
       simp
     · intro z hz e
       obtain ⟨r', n, rfl, _, hgb, hn'⟩ := hmem z hz
       have e2 := List.append_cancel_left (key_inj hgb.ok hok e)
       subst e2
       rw [hn] at hn'
       cases hn'
 · unfold rmoveM
   rw [f2, hout]
   · have w1 : withinF (joinF a) (joinF l) = false := by
       cases hw : withinF (joinF a) (joinF l) with
       | false => rfl
       | true => exact absurd ((within_join h.ga.ok hl).1 hw) h1
     have w2 : withinF (joinF b) (joinF l) = false := by
       cases hw : withinF (joinF b) (joinF l) with
       | false => rfl
       | true => exact absurd ((within_join h.gb.ok hl).1 hw) h2
     rw [bs_list, w1, w2]
     simp
   · intro z hz e
     obtain ⟨r', n, rfl, _, hgb, _⟩ := hmem z hz
     exact h2 ⟨r', key_inj hgb.ok hl e⟩
 · unfold rmoveM
   rw [f2, hout]
   · have : getG S.m k = none := getG_none_of (fun z hz e => by
       obtain ⟨l, hl, hln, e2⟩ := h.wf.good z hz
       exact hk l hl.ok hln (e.symm.trans e2))
     rw [this]
     split
     · split <;> rfl
     · rfl
   · intro z hz e
     obtain ⟨r', n, rfl, _, hgb, _⟩ := hmem z hz
     exact hk _ hgb.ok (by simp [h.neb]) e.symm
theorem MvS.rsame {S : St} {a b : List T} (h : MvS S a b) : (moveQ S (joinF a) (joinF b)).m = rmoveM S.m (joinF a) (joinF b) (S.clock + 1) := by
 obtain ⟨n, hn⟩ := h.node
 exact h.get.same h.rget (by rw [hn]; simp)
def badT (x y q : T) : Prop := 200 < (tgt x y q).length ∨ 20 < (partsF [47] (tgt x y q)).length
theorem bad_iff {S : St} (hS : WfS S) {a b : List T} (ga : GoodP a) (gb : GoodP b) (nea : a ≠ []) (neb : b ≠ []) : (∃ z ∈ S.m, withinF (joinF a) z.1.data.toList = true ∧ badT (joinF a) (joinF b) z.1.data.toList) ↔ ∃ q ∈ belowM S.m (joinF a), (absF [47] (tgt (joinF a) (joinF b) q)).2 ≠ 0 := by
 constructor
 · rintro ⟨z, hz, hw, hb⟩
   obtain ⟨r, e, hg⟩ := (within_mem hS ga hz).1 hw
   rw [e, bs_list] at hb
   unfold badT at hb
   have hok : ∀ s ∈ b ++ r, okN s := ok_app gb.ok (ok_right hg.ok)
   rw [tgt_join nea neb, parts_join hok] at hb
   have hr : r ≠ [] := by
     rintro rfl
     have h1 := gb.len
     have h2 := gb.deep
     rw [List.append_nil] at hb
     omega
   refine ⟨joinF (a ++ r), (below_names hS ga.ok nea).2 ⟨r, hr, rfl, hg, by rw [← e, mem_getG hS.rise hz]; simp⟩, ?_⟩
   rw [tgt_join nea neb]
   intro h0
   have := abs_ok h0 hok
   have h1 := this.len
   have h2 := this.deep
   omega
 · rintro ⟨q, hq, hne⟩
   obtain ⟨r, hr, rfl, hg, hm⟩ := (below_names hS ga.ok nea).1 hq
   obtain ⟨n, hn⟩ := Option.ne_none_iff_exists'.1 hm
   have hok : ∀ s ∈ b ++ r, okN s := ok_app gb.ok (ok_right hg.ok)
   refine ⟨(bs (joinF (a ++ r)), n), getG_mem hn, by rw [bs_list]; exact (within_join ga.ok hg.ok).2 (List.prefix_append _ _), ?_⟩
   rw [bs_list]
   rw [tgt_join nea neb] at hne
   unfold badT
   rw [tgt_join nea neb, parts_join hok]
   apply Classical.byContradiction
   intro hc
   refine hne ?_
   have : GoodP (b ++ r) := ⟨hok, fun s hs => (List.mem_append.1 hs).elim (gb.long s) (fun h => hg.long s (by simp [h])), fun s hs => (List.mem_append.1 hs).elim (gb.zero s) (fun h => hg.zero s (by simp [h])), by omega, by omega⟩
   rw [absF_good this]
theorem names_nil {S : St} (hS : WfS S) (t : HangS S) {b : List T} (gb : GoodP b) (neb : b ≠ []) : namesM S.m (joinF b) = [] ↔ belowM S.m (joinF b) = [] := by
 constructor
 · intro h
   refine List.eq_nil_iff_forall_not_mem.2 (fun q hq => ?_)
   obtain ⟨r, hr, rfl, hg, hm⟩ := (below_names hS gb.ok neb).1 hq
   cases r with
   | nil => exact hr rfl
   | cons s r =>
     have hkey : getG S.m (bs (joinF (b ++ [s]))) ≠ none := by
       cases hr2 : r with
       | nil => rw [hr2] at hm; exact hm
       | cons x r' =>
         have hk0 : kindM S.m (joinF (b ++ s :: r)) ≠ 0 := by
           obtain ⟨n, hn⟩ := Option.ne_none_iff_exists'.1 hm
           rw [kind_of (fun e => neb (by have := (joinF_root hg.ok).1 e; simp at this)) hn]
           split <;> omega
         have := t.way _ rfl hg (.inl hk0) (b.length + 1) (by rw [hr2]; simp)
         rw [show b ++ s :: r = (b ++ [s]) ++ r by simp, List.take_left' (by simp)] at this
         rcases kind_two this with e | ⟨n, hn, _⟩
         · have := (joinF_root (ok_app gb.ok (fun x hx => by rw [List.mem_singleton.1 hx]; exact hg.ok s (by simp)))).1 e
           simp at this
         · rw [hn]; simp
     obtain ⟨n, hn⟩ := Option.ne_none_iff_exists'.1 hkey
     have : s ∈ namesM S.m (joinF b) := mem_names.2 ⟨(hg.ok s (by simp)).2.2.2, n, by rw [joinF_snoc gb.ok]; exact getG_mem hn⟩
     rw [h] at this
     cases this
 · intro h
   unfold namesM
   rw [h]
   rfl
end Go.Proofs.YtaajofojbhdgaaaGreatDoor.Vf
namespace Go.Proofs.YtaajofojbhdgaaaGreatDoor
section
open Go.RowKit Go.Deep Go.Maps Ln Pth Vf
attribute [local go_sem] bt_eq
theorem put_rk (g : Nat) (S1 : St) (A : Option Addr) (c : Nat) (P : List NV) (x : NV) (w3 : World) (h : RSO g S1 A c P w3) (hl : P.length ≤ 10000) (S' : St) (hm : S'.m = putG (x.1, x.2.nd) S1.m) (h1 : S'.nodes = S1.nodes) (h2 : S'.bytes = S1.bytes) (h3 : S'.clock = S1.clock)
   (hx : RG encB 1 w3 x.2.A x.2.nd.data) (hxg : ∀ a, x.2.A = some a → x.2.nd.data ≠ [] → a.block ≠ g) (hxl : x.2.nd.data.length ≤ x.2.c) :
   Calls Tryz.prog 92 #[.pointer (some ⟨g, 0, none⟩), .agg (encE x).toArray] w3 fun e w' => e = .returned (.tuple #[]) ∧ ∃ A' c', RSO g S' A' c' (putG x P) w' ∧ Kp w3 w' (fun k => k = g) ∧ ∀ a, A' = some a → w3.heap.size ≤ a.block := by
 refine (rput_any g S1 A c P x w3 h hl).mono ?_
 rintro e w' ⟨rfl, A', c', hg', hc', hr', hA', hgb⟩
 have hk' := Kp.ofGb hgb
 exact ⟨rfl, A', c', RSO.putted h hm (by rw [hg', h1, h2, h3]) hc' hr' hA' hk' hx hxg hxl, hk', hA'⟩
theorem mkdirS_bad {S : St} {p : T} (h : (absS S p).2 ≠ 0) : mkdirS S p = (S, (absS S p).2) := by
 unfold mkdirS
 rw [if_pos h]
theorem mkdirS_there {S : St} {p : T} (h : (absS S p).2 = 0) (hk : kindM S.m (absS S p).1 ≠ 0) : mkdirS S p = (S, 12) := by
 unfold mkdirS
 rw [if_neg (by simp [h]), if_pos hk]
theorem mkdirS_new {S : St} {p : T} (hS : WfS S) (h : (absS S p).2 = 0) (hk : kindM S.m (absS S p).1 = 0) : mkdirS S p = if S.m.length + 1 ≤ S.nodes then (Vf.putS S (absS S p).1 true [], 0) else (S, 13) := by
 unfold mkdirS
 have hb := hS.bytes
 rw [if_neg (by simp [h]), if_neg (by simp [hk])]
 by_cases hc : S.m.length + 1 ≤ S.nodes
 · rw [if_pos ⟨hc, hb⟩, if_pos hc]
 · rw [if_neg (fun h => hc h.1), if_neg hc]
theorem rmkdir4_any (g : Nat) (S : St) (A : Option Addr) (c : Nat) (P : List NV) (p : T) (w : World) (h : RSO g S A c P w) (hS : WfS S) (hp : p.length ≤ 100000) (hck : S.clock ≤ 1000000000) :
   Calls Tryz.prog 56 #[.pointer (some ⟨g, 0, none⟩), .string (bs p)] w fun e w' => e = .returned (.int .i64 (mkdirS S p).2) ∧ RK g (mkdirS S p).1 w A P w' := by
 have hl := row_len hS h.eq
 have HF := hide (rfind_abs g S A c P p w h (by omega) hp)
 have H := hide h
 have HKD0 := hide (fun (q : T) (W : World) (hb : Below w.heap.size w W) => rkind_any g S A c P q W (h.below hb) (by omega))
 have hml : S.m.length = P.length := by rw [h.eq, stripN_len]
 have hn10 := hS.n10
 have HR1 := hide (mkdirS_bad (S := S) (p := p))
 have HR2 := hide (mkdirS_there (S := S) (p := p))
 have HR3 := hide (mkdirS_new (S := S) (p := p) hS)
 have HPUT := hide (fun (q : T) (W : World) (hb : Below w.heap.size w W) => put_rk g { S with clock := S.clock + 1 } A c P (bs q, ⟨none, 0, ⟨true, [], S.clock + 1⟩⟩) (W.setCell ⟨g, 3, none⟩ (.int .i64 ((S.clock : Int) + 1))) ((h.below hb).tick (S.clock + 1)) hl (Vf.putS S q true []) rfl rfl rfl rfl (RG.nil _ _) (fun a e _ => by cases e) (Nat.le_refl _))
 obtain ⟨r, hr⟩ : ∃ r, absS S p = r := ⟨_, rfl⟩
 obtain ⟨q0, e⟩ := r
 rw [hr] at HF HR1 HR2 HR3
 dsimp only at HF HR1 HR2 HR3
 obtain ⟨R, hR⟩ : ∃ R, mkdirS S p = R := ⟨_, rfl⟩
 rw [hR] at HR1 HR2 HR3 ⊢
 obtain ⟨n, hn⟩ : ∃ n, P.length = n := ⟨_, rfl⟩
 rw [hml, hn] at HR3
 rw [hn] at hl
 have HN := hide hn
 have hci : (S.clock : Int) ≤ 1000000000 := by omega
 have hni : (n : Int) ≤ 10000 := by omega
 have hnd : (S.nodes : Int) ≤ 10000 := by omega
 clear hr hR h hp hS hn hml
 go_enter Tryz.func56, Tryz.ntmps56
 go_wp2_with fail
 refine HF.out.mono ?_
 rintro e1 w1 ⟨q, rfl, hq, hql, hb⟩
 have HB := hide hb
 clear hb hql
 by_cases c1 : e = 0
 case neg =>
   obtain ⟨t1, t2⟩ := ne0 c1
   have HE := hide (HR1.out c1)
   clear c1 hq
   go_wp2
   go_ret
   rw [HE.out]
   exact ⟨rfl, RK.stay H.out HB.out⟩
 subst c1
 have hq1 := hq rfl
 subst hq1
 have HKD := hide (HKD0.out q)
 clear hq HF
 obtain ⟨y, hy⟩ : ∃ y, kindM S.m q = y := ⟨_, rfl⟩
 rw [hy] at HKD HR2 HR3
 clear hy
 by_cases k0 : y = 0
 case neg =>
   have HE := hide (HR2.out rfl k0)
   have hyi : (0 : Int) < (y : Int) := by omega
   obtain ⟨t1, t2⟩ := ne0 k0
   clear k0
   go_wp2_with fail
   refine (HKD.out w1 HB.out).mono ?_
   rintro e w' ⟨rfl, rfl⟩
   go_wp2
   go_ret
   rw [HE.out]
   exact ⟨rfl, RK.stay H.out HB.out⟩
 subst k0
 have HE0 := hide (HR3.out rfl rfl)
 have ho := H.out.below HB.out
 have hg := ho.heap
 rw [HN.out] at hg
 have hc2 := cellOf hg (j := 2) (v := .slice A n c) rfl
 have hc0 := cellOf hg (j := 0) (v := .int .i64 S.nodes) rfl
 clear ho hg
 by_cases c3 : S.nodes ≤ n
 · have hni2 : (S.nodes : Int) ≤ (n : Int) := by omega
   have HE := hide (HE0.out.trans (if_neg (by omega)))
   go_wp2_with fail
   refine (HKD.out w1 HB.out).mono ?_
   rintro e w' ⟨rfl, rfl⟩
   go_wp2_with fail
   go_quiet (fail)
   go_wp2
   go_ret
   rw [HE.out]
   exact ⟨rfl, RK.stay H.out (below_drewN HB.out _)⟩
 · have hni2 : ¬ (S.nodes : Int) ≤ (n : Int) := by omega
   have HE := hide (HE0.out.trans (if_pos (by omega)))
   go_wp2_with fail
   refine (HKD.out w1 HB.out).mono ?_
   rintro e w' ⟨rfl, rfl⟩
   go_wp2_with fail
   go_quiet (fail)
   have HBW := hide (below_drewN HB.out nq)
   clear hc2 hc0
   obtain ⟨W, hW⟩ : ∃ W, w1.drewN nq = W := ⟨_, rfl⟩
   rw [hW] at HBW ⊢
   have hgW := (H.out.below HBW.out).heap
   have hc3 := cellOf hgW (j := 3) (v := .int .i64 S.clock) rfl
   have hf3 := freeOf hgW 3
   have hs1 : (W.setCell ⟨g, 3, none⟩ (.int .i64 ((S.clock : Int) + 1))).cell? ⟨g, 3, none⟩ = some (.int .i64 ((S.clock : Int) + 1)) := World.cell?_setCell_same' _ _ _ (by rw [hc3]; rfl)
   have HPT := hide (HPUT.out q W HBW.out)
   clear hgW hW
   go_wp2_with fail
   refine HPT.out.mono ?_
   rintro e w' ⟨rfl, A', c', ho', hk', hA'⟩
   have HO := hide ho'
   have HK := hide hk'
   have HA := hide hA'
   clear ho' hk' hA'
   go_wp2
   go_ret
   rw [HE.out]
   have hk1 : Kp w W (fun k => k = g) := Kp.of_below HBW.out _
   have hk2 : Kp w (W.setCell ⟨g, 3, none⟩ (.int .i64 ((S.clock : Int) + 1))) (fun k => k = g) := hk1.then (Kp.set W g 3 _)
   refine ⟨rfl, A', c', _, HO.out, hk2.then HK.out, fun a e _ => .inl (by have := HA.out a e; have := hk2.size; omega), fun x hx a e hn => ?_⟩
   rcases mem_putG hx with rfl | hx
   · cases e
   · exact .inr ⟨x, hx, e, hn⟩
theorem touchS_bad {S : St} {p : T} (h : (absS S p).2 ≠ 0) : touchS S p = (S, (absS S p).2) := by
 unfold touchS
 rw [if_pos h]
theorem touchS_root {S : St} {p : T} (h : (absS S p).2 = 0) (hr : (absS S p).1 = [47]) : touchS S p = (S, 0) := by
 unfold touchS
 rw [if_neg (by simp [h]), if_pos hr]
theorem touchS_new {S : St} {p : T} (h : (absS S p).2 = 0) (hr : (absS S p).1 ≠ [47]) (hg : getG S.m (bs (absS S p).1) = none) : touchS S p = writeS S p [] false := by
 unfold touchS
 rw [if_neg (by simp [h]), if_neg hr, hg]
theorem touchS_old {S : St} {p : T} (h : (absS S p).2 = 0) (hr : (absS S p).1 ≠ [47]) {n : Nd} (hg : getG S.m (bs (absS S p).1) = some n) : touchS S p = (Vf.putS S (absS S p).1 n.dir n.data, 0) := by
 unfold touchS
 rw [if_neg (by simp [h]), if_neg hr, hg]
theorem putG_set {α : Type} {P : KV α} (hr : RiseG P) {k : Nat} {x y : ByteArray × α} (hk : P[k]? = some y) (he : y.1 = x.1) : putG x P = P.set k x := by
 have hlt := (List.getElem?_eq_some_iff.1 hk).1
 rw [putG_at P k (by omega) (fun j z hj hz => ?_) (fun z hz => ?_), hk]
 · dsimp only
   rw [if_pos he, List.set_eq_take_append_cons_drop, if_pos hlt, List.append_assoc]
   rfl
 · have hj2 := (List.getElem?_eq_some_iff.1 hz).2
   have hk2 := (List.getElem?_eq_some_iff.1 hk).2
   have := List.pairwise_iff_getElem.1 hr j k (by omega) hlt hj
   rw [hj2, hk2, he] at this
   exact this
 · rw [hk] at hz
   injection hz with hz
   rw [← hz, he, sLt_irr]
theorem RG.setT {w : World} {P : List NV} {ga : Nat} (h : RG encE 4 w (some ⟨ga, 0, none⟩) P) {k : Nat} {x : NV} (hk : P[k]? = some x) (t : Nat) :
   RG encE 4 (w.setCell ⟨ga, k * 4 + 3, none⟩ (.int .i64 t)) (some ⟨ga, 0, none⟩) (P.set k (x.1, ⟨x.2.A, x.2.c, ⟨x.2.nd.dir, x.2.nd.data, t⟩⟩)) := by
 have hx3 : w.cell? ⟨ga, k * 4 + 3, none⟩ = some (.int .i64 x.2.nd.time) := by
   obtain ⟨g, o, e, _, h1⟩ := h k x hk
   injection e with e
   injection e with e1 e2
   subst e1 e2
   have := h1 3 _ rfl
   simpa using this
 intro j y hj
 rw [List.getElem?_set] at hj
 by_cases e : k = j
 · subst e
   rw [if_pos rfl] at hj
   split at hj
   · injection hj with hj
     subst hj
     obtain ⟨g, o, e, hg, h1⟩ := h k x hk
     injection e with e
     injection e with e1 e2
     subst e1 e2
     refine ⟨ga, 0, rfl, by simpa using hg, fun i v hi => ?_⟩
     have hi4 := (List.getElem?_eq_some_iff.1 hi).1
     rw [encE_len] at hi4
     by_cases e3 : i = 3
     · subst e3
       have hv : v = .int .i64 t := by simpa [encE] using hi.symm
       subst hv
       rw [Nat.zero_add]
       exact World.cell?_setCell_same' _ _ _ (by rw [hx3]; rfl)
     · rw [World.cell?_setCell_other w _ _ _ (by intro e; injection e; omega)]
       refine h1 i v ?_
       rw [← hi]
       rcases i with _ | _ | _ | _ | i
       · rfl
       · rfl
       · rfl
       · exact absurd rfl e3
       · omega
   · cases hj
 · rw [if_neg e] at hj
   obtain ⟨g, o, e2, hg, h1⟩ := h j y hj
   refine ⟨g, o, e2, by simpa using hg, fun i v hi => ?_⟩
   have hi4 := (List.getElem?_eq_some_iff.1 hi).1
   rw [encE_len] at hi4
   injection e2 with e2
   injection e2 with e1 e3
   subst e1 e3
   rw [World.cell?_setCell_other w _ _ _ (by intro e4; injection e4; omega)]
   exact h1 i v hi
theorem strip_set (P : List NV) (k : Nat) (x : NV) : stripN (P.set k x) = (stripN P).set k (x.1, x.2.nd) := by
 unfold stripN
 rw [List.map_set]
theorem rtouch4_any (g : Nat) (S : St) (A : Option Addr) (c : Nat) (P : List NV) (p : T) (w : World) (h : RSO g S A c P w) (hS : WfS S) (hp : p.length ≤ 100000) (hby : S.bytes ≤ 400000) (hck : S.clock ≤ 1000000000) :
   Calls Tryz.prog 60 #[.pointer (some ⟨g, 0, none⟩), .string (bs p)] w fun e w' => e = .returned (.int .i64 (touchS S p).2) ∧ RK g (touchS S p).1 w A P w' := by
 have hl := row_len hS h.eq
 have HF := hide (rfind_abs g S A c P p w h (by omega) hp)
 have H := hide h
 have HAT0 := hide (fun (q : T) (W : World) (hb : Below w.heap.size w W) => rat4_any g S A c P (bs q) W (h.below hb) (by omega))
 have HWR := hide (fun (W : World) (hb : Below w.heap.size w W) => rwrite4_any g S A c P p none 0 [] false W (h.below hb) hS hp hby hck (by simp) (RG.nil _ _) (fun a e => by cases e))
 have HCS := hide (fun (q : T) => atN_cases P (bs q))
 have hrise : RiseG P := strip_rise.1 (h.eq ▸ hS.rise)
 have HRI := hide hrise
 have HR1 := hide (touchS_bad (S := S) (p := p))
 have HR2 := hide (touchS_root (S := S) (p := p))
 have HR3 := hide (touchS_new (S := S) (p := p))
 have HR4 := hide (fun h1 h2 n h3 => touchS_old (S := S) (p := p) h1 h2 (n := n) h3)
 obtain ⟨r, hr⟩ : ∃ r, absS S p = r := ⟨_, rfl⟩
 obtain ⟨q0, e⟩ := r
 rw [hr] at HF HR1 HR2 HR3 HR4
 dsimp only at HF HR1 HR2 HR3 HR4
 obtain ⟨R, hR⟩ : ∃ R, touchS S p = R := ⟨_, rfl⟩
 rw [hR] at HR1 HR2 HR3 HR4 ⊢
 obtain ⟨n, hn⟩ : ∃ n, P.length = n := ⟨_, rfl⟩
 rw [hn] at hl
 have HN := hide hn
 have hci : (S.clock : Int) ≤ 1000000000 := by omega
 have hni : (n : Int) ≤ 10000 := by omega
 clear hr hR h hS hn hrise hp hby
 go_enter Tryz.func60, Tryz.ntmps60
 go_wp2_with fail
 refine HF.out.mono ?_
 rintro e1 w1 ⟨q, rfl, hq, hql, hb⟩
 have HB := hide hb
 clear hb hql
 by_cases c1 : e = 0
 case neg =>
   obtain ⟨t1, t2⟩ := ne0 c1
   have HE := hide (HR1.out c1)
   clear c1 hq
   go_wp2
   go_ret
   rw [HE.out]
   exact ⟨rfl, RK.stay H.out HB.out⟩
 subst c1
 have hq1 := hq rfl
 subst hq1
 have HAT := hide (HAT0.out q)
 clear hq HF
 by_cases q1 : q = [47]
 · have ht : ((bs q).toList == [47]) = true := by rw [bs_toList, q1]; rfl
   have HE := hide (HR2.out rfl q1)
   clear q1
   go_wp2_with fail
   refine (HAT.out w1 HB.out).mono ?_
   rintro e w' ⟨rfl, rfl⟩
   go_wp2
   go_ret
   rw [HE.out]
   exact ⟨rfl, RK.stay H.out HB.out⟩
 have ht : ((bs q).toList == [47]) = false := by rw [bs_toList]; simpa using q1
 rcases HCS.out q with ⟨ha, hgt⟩ | ⟨k, x, ha, hx, hxq, hgt⟩
 · rw [ha] at HAT
   have HE := hide (HR3.out rfl q1 (by rw [H.out.eq]; exact hgt))
   clear q1 ha hgt
   go_wp2_with fail
   refine (HAT.out w1 HB.out).mono ?_
   rintro e w' ⟨rfl, rfl⟩
   go_wp2_with fail
   refine (HWR.out w1 HB.out).mono ?_
   rintro e w2 ⟨rfl, hrk⟩
   have HRK := hide hrk
   clear hrk
   go_wp2
   go_ret
   rw [HE.out]
   exact ⟨rfl, RK.pre HB.out HRK.out⟩
 · rw [ha] at HAT
   have HE := hide (HR4.out rfl q1 x.2.nd (by rw [H.out.eq]; exact hgt))
   have hkn : k < n := by rw [← HN.out]; exact (List.getElem?_eq_some_iff.1 hx).1
   have hki : (k : Int) < (n : Int) := by omega
   have hk0 : (0 : Int) ≤ (k : Int) := by omega
   have d0 : ¬ (k : Int) < 0 := by omega
   have hgW := (H.out.below HB.out).heap
   rw [HN.out] at hgW
   have hgl := (Array.getElem?_eq_some_iff.1 hgW).1
   have hc3 := cellOf hgW (j := 3) (v := .int .i64 S.clock) rfl
   have hf3 := freeOf hgW 3
   have hwt := (H.out.below HB.out).tick (S.clock + 1)
   rw [show ((S.clock + 1 : Nat) : Int) = (S.clock : Int) + 1 from rfl] at hwt
   obtain ⟨wt, hwte⟩ : ∃ W, w1.setCell ⟨g, 3, none⟩ (.int .i64 ((S.clock : Int) + 1)) = W := ⟨_, rfl⟩
   have hkt : Kp w1 wt (fun k => k = g) := hwte ▸ Kp.set w1 g 3 _
   rw [hwte] at hwt
   obtain ⟨v2, w2, r2, o2, g2, b2⟩ := run_appG rowN encE_len encE_one (c := c) (OwnG.nil wt wt.heap.size) hwt.rg (Nat.le_refl _) (by simp; have := HN.out; omega)
   have hb2 : Below wt.heap.size wt w2 := Below.of_gb g2 (Nat.le_refl _) (fun k hk => by cases hk)
   rw [List.nil_append] at o2
   have ho2 := hwt.below hb2
   obtain ⟨ga, cap, cur, e2, hga, hh, hcp, _⟩ := o2.2.resolve_left (fun h => by have := h.2; have := HN.out; omega)
   subst e2
   have hro : RG encE 4 w2 (some ⟨ga, 0, none⟩) P := by
     obtain ⟨A', c', e, hc, hr, _, _⟩ := o2.slice encE_len
     injection e with e1 e2 e3
     rw [e1]
     exact hr
   have hgne : ga ≠ g := by
     have := (Array.getElem?_eq_some_iff.1 hwt.heap).1
     omega
   have hgt2 := ho2.heap
   rw [HN.out] at hgt2
   have hd3 := cellOf hgt2 (j := 3) (v := .int .i64 ((S.clock : Int) + 1)) rfl
   have hd2 := cellOf hgt2 (j := 2) (v := .slice A n c) rfl
   have hwc2 := cellOf (HN.out ▸ hwt.heap) (j := 2) (v := .slice A n c) rfl
   have hx3 : w2.cell? ⟨ga, k * 4 + 3, none⟩ = some (.int .i64 x.2.nd.time) := by
     obtain ⟨g', o', e, _, h1⟩ := hro k x hx
     injection e with e
     injection e with e1 e2
     subst e1 e2
     have := h1 3 _ rfl
     simpa using this
   have hxf : w2.frozen? ⟨ga, k * 4 + 3, none⟩ = false := freeOf hh _
   have hset := hro.setT hx (S.clock + 1)
   rw [show ((S.clock + 1 : Nat) : Int) = (S.clock : Int) + 1 from rfl] at hset
   have hk3 : Kp w2 (w2.setCell ⟨ga, k * 4 + 3, none⟩ (.int .i64 ((S.clock : Int) + 1))) (fun k => k = ga) := Kp.set w2 ga _ _
   have hb3 : Below wt.heap.size wt (w2.setCell ⟨ga, k * 4 + 3, none⟩ (.int .i64 ((S.clock : Int) + 1))) := hb2.setCell (p := ⟨ga, k * 4 + 3, none⟩) hga _
   obtain ⟨w3, hw3⟩ : ∃ W, w2.setCell ⟨ga, k * 4 + 3, none⟩ (.int .i64 ((S.clock : Int) + 1)) = W := ⟨_, rfl⟩
   rw [hw3] at hset hk3 hb3
   have ho3 := hwt.below hb3
   have hgt3 := ho3.heap
   rw [HN.out] at hgt3
   have hq2 := cellOf hgt3 (j := 2) (v := .slice A n c) rfl
   have hqf := freeOf hgt3 2
   have hk4 : Kp w3 (w3.setCell ⟨g, 2, none⟩ (.slice (some ⟨ga, 0, none⟩) n cap)) (fun k => k = g) := Kp.set w3 g 2 _
   have hkk : Kp w (w3.setCell ⟨g, 2, none⟩ (.slice (some ⟨ga, 0, none⟩) n cap)) (fun k => k = g) := (((Kp.of_below HB.out _).then hkt).then (Kp.of_below hb3 _)).then hk4
   have hgs : w.heap.size ≤ ga := by have := HB.out.size; have := hkt.size; omega
   rw [HN.out] at r2
   have hpl : (P.set k (x.1, ⟨x.2.A, x.2.c, ⟨x.2.nd.dir, x.2.nd.data, S.clock + 1⟩⟩)).length = n := by rw [List.length_set, HN.out]
   have hmem : ∀ z ∈ P.set k (x.1, ⟨x.2.A, x.2.c, ⟨x.2.nd.dir, x.2.nd.data, S.clock + 1⟩⟩), ∃ y ∈ P, y.2.A = z.2.A ∧ y.2.nd.data = z.2.nd.data ∧ y.2.c = z.2.c := fun z hz => by
     rcases List.mem_or_eq_of_mem_set hz with hz | rfl
     · exact ⟨z, hz, rfl, rfl, rfl⟩
     · exact ⟨x, List.mem_of_getElem? hx, rfl, rfl, rfl⟩
   have HFIN := hide (show RK g (Vf.putS S q x.2.nd.dir x.2.nd.data) w A P (w3.setCell ⟨g, 2, none⟩ (.slice (some ⟨ga, 0, none⟩) n cap)) from by
     refine ⟨some ⟨ga, 0, none⟩, cap, _, H.out.set hkk ?_ (by rw [hpl]; have := HN.out; omega) ?_ (hset.kp hk4 (fun a e _ => by injection e with e; subst e; exact hgne)) (fun a e _ => by injection e with e; subst e; exact hgne) (fun z hz => ?_) (fun a e => ⟨ga, 0, by injection e with e; exact e.symm⟩), hkk, fun a e _ => .inl (by injection e with e; subst e; exact hgs), fun z hz a e hn => .inr ?_⟩
     · rw [hpl]
       exact (heapSet (j := 2) hgt3 (.slice (some ⟨ga, 0, none⟩) n cap)).trans rfl
     · rw [strip_set, ← H.out.eq]
       have hps := putG_set (P := S.m) (k := k) (x := (bs q, (⟨x.2.nd.dir, x.2.nd.data, S.clock + 1⟩ : Nd))) (y := (x.1, x.2.nd)) (by rw [H.out.eq]; exact strip_rise.2 HRI.out) (by rw [H.out.eq]; unfold stripN; rw [List.getElem?_map, hx]; rfl) hxq
       rw [hxq]
       exact hps
     · obtain ⟨y, hy, e1, e2, e3⟩ := hmem z hz
       rw [← e1, ← e2, ← e3]
       exact ⟨H.out.lt y hy, (H.out.dat y hy).kp hkk (H.out.neD y hy), H.out.neD y hy⟩
     · obtain ⟨y, hy, e1, e2, _⟩ := hmem z hz
       exact ⟨y, hy, e1.trans e, by rw [e2]; exact hn⟩)
   have hnc : (n : Int) ≤ (cap : Int) := by have := HN.out; omega
   clear q1 ha hgt hx hxq hgW hwt hkt o2 g2 b2 hb2 ho2 hh hro hgt2 hset hk3 hb3 ho3 hgt3 hk4 hkk hpl hmem
   go_wp2_with fail
   refine (HAT.out w1 HB.out).mono ?_
   rintro e w' ⟨rfl, rfl⟩
   go_wp2_with (first | (at_builtin; refine wpList_app_run ?_ (.const (.slice none 0 0)) (.tmp 40) ?_ ?_ ?_ ?_ r2 ?_; exact rfl; exact rfl; exact rfl; exact rfl; exact rfl))
   go_ret
   rw [HE.out]
   exact ⟨rfl, HFIN.out⟩
end
section
open Go.RowKit Go.Deep Go.Maps Ln Pth Vf
attribute [local go_sem] bt_eq
def outF (q : T) (z : NV) : Bool := !withinF q z.1.data.toList
theorem strip_filter (p : ByteArray → Bool) (P : List NV) : stripN (P.filter fun z => p z.1) = (stripN P).filter fun z => p z.1 := by
 unfold stripN
 rw [List.filter_map]
 rfl
theorem filter_take {α : Type} {p : α → Bool} {P : List α} {k : Nat} {x : α} (h : P[k]? = some x) : (P.take (k + 1)).filter p = (P.take k).filter p ++ if p x = true then [x] else [] := by
 rw [List.take_add_one, h, List.filter_append]
 congr 1
 simp [List.filter_cons]
theorem push_node {w : World} {base : Nat} {v : Value} {L : List NV} (h : OwnG encE 4 135 w base v L) (hbase : base ≤ w.heap.size) (hl : L.length ≤ 100000) (x : NV) (cs : Array Value) (hcs : cs = (encE x).toArray) :
   ∃ v' w', (Builtin.append_ #[101, 101] 101 #[v, .slice (some ⟨w.heap.size, 0, none⟩) 1 1]).run Tryz.prog (w.alloc (.cells cs 135)) = .ok v' w' ∧ OwnG encE 4 135 w' base v' (L ++ [x]) ∧ Below base w w' := by
 obtain ⟨v3, w3, r3, o3, g3, b3⟩ := run_appG rowN encE_len encE_one (c := 1) (h.alloc (.cells cs 135)) (rg_newN w x cs hcs _) (by simp; omega) (by simp; omega)
 exact ⟨v3, w3, r3, o3, ((Below.refl base w).alloc hbase _).trans (Below.of_gb g3 (by simp; omega) (fun k hk => (h.lt k hk).1))⟩
theorem OwnG.rso {w : World} {base g : Nat} {A : Option Addr} {n c : Nat} {L : List NV} (h : OwnG encE 4 135 w base (.slice A n c) L) : RG encE 4 w A L ∧ n = L.length ∧ L.length ≤ c ∧ (∀ a, A = some a → base ≤ a.block) ∧ (∀ a, A = some a → ∃ g o, a = ⟨g, o, none⟩) := by
 obtain ⟨A', c', e, hc, hr, ho, ht⟩ := h.slice encE_len
 injection e with e1 e2 e3
 subst e1 e2 e3
 exact ⟨hr, rfl, hc, fun a e => (h.lt _ (ho a e)).1, fun a e => by obtain ⟨g, e⟩ := ht a e; exact ⟨g, 0, e⟩⟩
theorem OwnG.keptB {α : Type} {enc : α → List Value} {n : Nat} {E : TypeId} {w w' : World} {base : Nat} {v : Value} {L : List α} (h : OwnG enc n E w base v L) (hb : Below w.heap.size w w') : OwnG enc n E w' base v L := by
 refine ⟨h.1, ?_⟩
 rcases h.2 with h2 | ⟨g, cap, cur, rfl, hg, hh, r⟩
 · exact .inl h2
 · exact .inr ⟨g, cap, cur, rfl, hg, (hb.block g (h.lt g rfl).2).trans hh, r⟩
theorem rdrop_any (g : Nat) (S : St) (A : Option Addr) (c : Nat) (P : List NV) (q : T) (w : World) (h : RSO g S A c P w) (hl : P.length ≤ 10000) (hk : ∀ x ∈ P, ∃ t : T, x.1 = bs t ∧ t.length ≤ 1000) (hq : q.length ≤ 1000) :
   Calls Tryz.prog 96 #[.pointer (some ⟨g, 0, none⟩), .string (bs q)] w fun e w' => e = .returned (.tuple #[]) ∧ ∃ A' c', RSO g { S with m := S.m.filter fun z => !withinF q z.1.data.toList } A' c' (P.filter (outF q)) w' ∧ Kp w w' (fun k => k = g) ∧ ∀ a, A' = some a → w.heap.size ≤ a.block := by
 have H := hide h
 have HK := hide hk
 have HQ := hide hq
 have hgl : g < w.heap.size := (Array.getElem?_eq_some_iff.1 h.heap).1
 obtain ⟨n, hn⟩ : ∃ n, P.length = n := ⟨_, rfl⟩
 have HN := hide hn
 have hln : n ≤ 10000 := by omega
 clear h hk hl hn hq
 go_enter Tryz.func96, Tryz.ntmps96
 go_wp2
 go_loopw [4, 5] (fun v4 v5 wr => ∃ (k m : Nat) (A' : Option Addr) (c' : Nat), v5 = .int .i64 k ∧ k ≤ n ∧ v4 = .slice A' m c' ∧ m ≤ k ∧ Hid (OwnG encE 4 135 wr w.heap.size (.slice A' m c') ((P.take k).filter (outF q))) ∧ Hid (Below w.heap.size w wr)) (fun _ v5 _ => n - (intOf v5).toNat)
 case atStart => exact ⟨0, 0, none, 0, rfl, by omega, rfl, by omega, OwnG.nil _ _, Below.refl _ _⟩
 case round =>
   obtain ⟨k, m, A', c', rfl, hk, rfl, hmk, HO, HB⟩ := hrel
   have ho := H.out.below HB.out
   have hg := ho.heap
   rw [HN.out] at hg
   have hc2 := cellOf hg (j := 2) (v := .slice A n c) rfl
   by_cases hlt : k < n
   · obtain ⟨x, hx⟩ : ∃ x, P[k]? = some x := ⟨P[k]'(by have := HN.out; omega), gE _⟩
     obtain ⟨gs, o, rfl, hgs, hc⟩ := ho.rg k x hx
     have hc0 : wr.cell? ⟨gs, o + k * 4, none⟩ = some (.string x.1) := by have := hc 0 _ rfl; simpa using this
     have hc1 : wr.cell? ⟨gs, o + k * 4 + 1, none⟩ = some (.bool x.2.nd.dir) := hc 1 _ rfl
     have hc22 : wr.cell? ⟨gs, o + k * 4 + 2, none⟩ = some (.slice x.2.A x.2.nd.data.length x.2.c) := hc 2 _ rfl
     have hc3 : wr.cell? ⟨gs, o + k * 4 + 3, none⟩ = some (.int .i64 x.2.nd.time) := hc 3 _ rfl
     obtain ⟨t, hxt, htl⟩ := HK.out x (List.mem_of_getElem? hx)
     have hft := filter_take (p := outF q) hx
     have hfx : outF q x = !withinF q t := by unfold outF; rw [hxt, bs_list]
     rw [hfx] at hft
     have b1 : (k : Int) < (n : Int) := by omega
     have HWI := hide (rwithin_any q t wr (by have := HQ.out; omega) (by omega))
     have hgb : g < wr.heap.size := by have := HB.out.size; omega
     have HX := hide hx
     have HG0 := hide hgs
     have hrl : ((P.take k).filter (outF q)).length ≤ 100000 := by
       refine Nat.le_trans (List.length_filter_le _ _) ?_
       rw [List.length_take]
       omega
     have HRL := hide hrl
     clear ho hg hc hx hgs hfx hrl
     cases hw : withinF q t with
     | true =>
       rw [hw] at HWI hft
       have HFT := hide hft
       rw [hxt] at hc0
       clear hft hxt hw
       go_wp2_with fail
       refine HWI.out.mono ?_
       rintro e w1 ⟨rfl, hb1⟩
       have HB1 := hide hb1
       clear hb1
       go_wp2
       go_roundw
       case rel =>
         refine ⟨k + 1, m, A', c', by go_num, by omega, rfl, by omega, ?_, below_up HB.out HB1.out HB.out.size⟩
         show OwnG _ _ _ _ _ _ _
         rw [HFT.out]
         simp only [Bool.not_true, Bool.false_eq_true, if_false, List.append_nil]
         exact OwnG.keptB HO.out HB1.out
       case measure => simp [intOf]; omega
     | false =>
       rw [hw] at HWI hft
       have HFT := hide hft
       rw [hxt] at hc0
       have HXT := hide hxt
       clear hft hw hxt
       go_wp2_with fail
       refine HWI.out.mono ?_
       rintro e w1 ⟨rfl, hb1⟩
       have hc2' := (hb1.cell (p := ⟨g, 2, none⟩) hgb).trans hc2
       have hd0 := (hb1.cell (p := ⟨gs, o + k * 4, none⟩) HG0.out).trans hc0
       have hd1 := (hb1.cell (p := ⟨gs, o + k * 4 + 1, none⟩) HG0.out).trans hc1
       have hd2 := (hb1.cell (p := ⟨gs, o + k * 4 + 2, none⟩) HG0.out).trans hc22
       have hd3 := (hb1.cell (p := ⟨gs, o + k * 4 + 3, none⟩) HG0.out).trans hc3
       have hos : OwnG encE 4 135 w1 w.heap.size (.slice A' m c') ((P.take k).filter (outF q)) := OwnG.keptB HO.out hb1
       have hb2 := below_up HB.out hb1 HB.out.size
       obtain ⟨v', w', r', o', hb3⟩ := push_node hos hb2.size HRL.out x #[.string (bs t), .bool x.2.nd.dir, .slice x.2.A x.2.nd.data.length x.2.c, .int .i64 x.2.nd.time] (by rw [← HXT.out]; rfl)
       obtain ⟨A2, c2, rfl, hcl, _, _, _⟩ := o'.slice encE_len
       have HO2 := hide o'
       have HB2 := hide (hb2.trans hb3)
       have HRUN := hide r'
       have hll : (List.filter (outF q) (List.take k P) ++ [x]).length ≤ k + 1 := by
         rw [List.length_append, List.length_singleton]
         have := List.length_filter_le (outF q) (List.take k P)
         rw [List.length_take] at this
         omega
       obtain ⟨M, hM⟩ : ∃ m, (List.filter (outF q) (List.take k P) ++ [x]).length = m := ⟨_, rfl⟩
       rw [hM] at HO2 HRUN hll
       obtain ⟨D, hD⟩ : ∃ m, x.2.nd.data.length = m := ⟨_, rfl⟩
       rw [hD] at HRUN hd2
       clear hb1 hos hb2 r' o' hb3 hc0 hc1 hc22 hc3 hc2 hcl HXT hM hD
       go_wp2_with (first | (at_builtin; refine wpList_app_run ?_ (.tmp 26) (.tmp 34) ?_ ?_ ?_ ?_ HRUN.out ?_; exact rfl; exact rfl; exact rfl; exact rfl; exact rfl))
       go_roundw
       case rel =>
         refine ⟨k + 1, M, A2, c2, by go_num, by omega, rfl, by omega, ?_, HB2.out⟩
         show OwnG _ _ _ _ _ _ _
         rw [HFT.out]
         exact HO2.out
       case measure => simp [intOf]; omega
   · obtain rfl : n = k := by omega
     have htk : P.take n = P := List.take_of_length_le (by have := HN.out; omega)
     rw [htk] at HO
     obtain ⟨hr, hm, hcl, hA, ht⟩ := OwnG.rso (g := g) HO.out
     have HR := hide (And.intro hr (And.intro hm (And.intro hcl (And.intro hA ht))))
     have hf2 := freeOf hg 2
     have HG5 := hide (heapSet (j := 2) hg (.slice A' m c'))
     clear htk ho hg hr hcl hA ht hm
     go_wp2
     go_end0
     obtain ⟨hr, hm, hcl, hA, ht⟩ := HR.out
     have hk : Kp w (wr.setCell ⟨g, 2, none⟩ (.slice A' m c')) (fun k => k = g) := (Kp.of_below HB.out _).then (Kp.set wr g 2 _)
     refine ⟨rfl, A', c', H.out.set hk (by rw [HG5.out, hm]; rfl) hcl ?_ (hr.kp (Kp.set wr g 2 _) (fun a e _ => by have := hA a e; omega)) (fun a e _ => by have := hA a e; omega) (fun x hx => ?_) ht, hk, hA⟩
     · show List.filter _ S.m = _
       rw [H.out.eq]
       exact (strip_filter (fun k => !withinF q k.data.toList) P).symm
     · have hx := (List.mem_filter.1 hx).1
       exact ⟨H.out.lt x hx, (H.out.dat x hx).kp hk (H.out.neD x hx), H.out.neD x hx⟩
theorem removeS_bad {S : St} {p : T} (h : (absS S p).2 ≠ 0) : removeS S p = (S, (absS S p).2) := by
 have hf : (foundS S p).2 = (absS S p).2 := by unfold foundS; dsimp only; rw [if_neg (fun h2 => h h2.1)]
 unfold removeS
 rw [hf, if_pos h]
theorem removeS_none {S : St} {p : T} (h : (absS S p).2 = 0) (hk : kindM S.m (absS S p).1 = 0) : removeS S p = (S, 6) := by
 have hf : (foundS S p).2 = 6 := by unfold foundS; dsimp only; rw [if_pos ⟨h, hk⟩]
 unfold removeS
 rw [hf, if_pos (by omega)]
theorem removeS_at {S : St} {p : T} (h : (absS S p).2 = 0) (hk : kindM S.m (absS S p).1 ≠ 0) : removeS S p = if (absS S p).1 = [47] then (S, 1) else if belowM S.m (absS S p).1 ≠ [] then (S, 14) else ({ S with m := delG (bs (absS S p).1) S.m, used := S.used - (dataM S.m (absS S p).1).length, clock := S.clock + 1 }, 0) := by
 have hf : (foundS S p).2 = 0 := by unfold foundS; dsimp only; rw [if_neg (fun h2 => hk h2.2), h]
 have hf1 : (foundS S p).1 = (absS S p).1 := rfl
 unfold removeS
 rw [hf, hf1, if_neg (by omega)]
theorem drop_del {S : St} (hS : WfS S) {l : List T} (hl : GoodP l) (hne : l ≠ []) (hb : belowM S.m (joinF l) = []) : (S.m.filter fun z => !withinF (joinF l) z.1.data.toList) = delG (bs (joinF l)) S.m := by
 unfold delG
 refine List.filter_congr (fun z hz => ?_)
 congr 1
 by_cases h : withinF (joinF l) z.1.data.toList = true
 · obtain ⟨r, e, hg⟩ := (within_mem hS hl hz).1 h
   have hr : r = [] := by
     apply Classical.byContradiction
     intro hr
     have : joinF (l ++ r) ∈ belowM S.m (joinF l) := (below_names hS hl.ok hne).2 ⟨r, hr, rfl, hg, by rw [← e, mem_getG hS.rise hz]; simp⟩
     rw [hb] at this
     cases this
   subst hr
   rw [List.append_nil] at e
   rw [h]
   simp [e]
 · have h2 : ¬ z.1 = bs (joinF l) := fun e => h ((within_mem hS hl hz).2 ⟨[], by rw [List.append_nil]; exact e, by rw [List.append_nil]; exact hl⟩)
   rw [decide_eq_false h2]
   simpa using h
theorem rremove4_any (g : Nat) (S : St) (A : Option Addr) (c : Nat) (P : List NV) (p : T) (w : World) (h : RSO g S A c P w) (hS : WfS S) (t : HangS S) (hp : p.length ≤ 100000) (hck : S.clock ≤ 1000000000) :
   Calls Tryz.prog 58 #[.pointer (some ⟨g, 0, none⟩), .string (bs p)] w fun e w' => e = .returned (.int .i64 (removeS S p).2) ∧ RK g (removeS S p).1 w A P w' := by
 have hl := row_len hS h.eq
 have HF := hide (rfind_abs g S A c P p w h (by omega) hp)
 have H := hide h
 have HKD0 := hide (fun (q : T) (W : World) (hb : Below w.heap.size w W) => rkind_any g S A c P q W (h.below hb) (by omega))
 have hks := keys_short hS h.eq
 have HNM0 := hide (fun (q : T) (W : World) (hb : Below w.heap.size w W) => rnames4_any g S A c P q W (h.below hb) hl hks)
 have HDR := hide (fun (q : T) (hq : q.length ≤ 1000) (W : World) (hb : Below w.heap.size w W) => rdrop_any g S A c P q W (h.below hb) hl hks hq)
 have HR1 := hide (removeS_bad (S := S) (p := p))
 have HR2 := hide (removeS_none (S := S) (p := p))
 have HR3 := hide (removeS_at (S := S) (p := p))
 have hgd := fun h => absS_good (S := S) (p := p) h
 have HNB := hide (fun (q : T) (hq : (absS S p).2 = 0) (h2 : q = (absS S p).1) (h3 : q ≠ [47]) => show (nmR q (keysN P) = [] ↔ belowM S.m q = []) ∧ (belowM S.m q = [] → (S.m.filter fun z => !withinF q z.1.data.toList) = delG (bs q) S.m) from by
   obtain ⟨l, gl, e, _⟩ := hgd hq
   have e2 : q = joinF l := h2.trans e
   have hne : l ≠ [] := good_ne e2 h3
   rw [e2, ← keysN_eq h.eq, nmR_names hS gl]
   exact ⟨names_nil hS t gl hne, drop_del hS gl hne⟩)
 obtain ⟨r, hr⟩ : ∃ r, absS S p = r := ⟨_, rfl⟩
 obtain ⟨q0, e⟩ := r
 rw [hr] at HF HR1 HR2 HR3 HNB
 dsimp only at HF HR1 HR2 HR3 HNB
 obtain ⟨R, hR⟩ : ∃ R, removeS S p = R := ⟨_, rfl⟩
 rw [hR] at HR1 HR2 HR3 ⊢
 obtain ⟨n, hn⟩ : ∃ n, P.length = n := ⟨_, rfl⟩
 rw [hn] at hl
 have HN := hide hn
 have hci : (S.clock : Int) ≤ 1000000000 := by omega
 clear hr hR h hp hS hn hks hgd t
 go_enter Tryz.func58, Tryz.ntmps58
 go_wp2_with fail
 refine HF.out.mono ?_
 rintro e1 w1 ⟨q, rfl, hq, hql, hb⟩
 have HB := hide hb
 clear hb
 by_cases c1 : e = 0
 case neg =>
   obtain ⟨t1, t2⟩ := ne0 c1
   have HE := hide (HR1.out c1)
   clear c1 hq
   go_wp2
   go_ret
   rw [HE.out]
   exact ⟨rfl, RK.stay H.out HB.out⟩
 subst c1
 have hq1 := hq rfl
 subst hq1
 have HKD := hide (HKD0.out q)
 have HNM := hide (HNM0.out q)
 clear hq HF
 by_cases q1 : q = [47]
 · have ht : ((bs q).toList == [47]) = true := by rw [bs_toList, q1]; rfl
   have HE := hide ((HR3.out rfl (by rw [q1, show kindM S.m [47] = 2 from rfl]; omega)).trans (if_pos q1))
   clear q1
   go_wp2
   go_ret
   rw [HE.out]
   exact ⟨rfl, RK.stay H.out HB.out⟩
 have ht : ((bs q).toList == [47]) = false := by rw [bs_toList]; simpa using q1
 obtain ⟨hnb, hdd⟩ := HNB.out q rfl rfl q1
 have HE0 := hide (fun (hk : kindM S.m q ≠ 0) => (HR3.out rfl hk).trans (if_neg q1))
 obtain ⟨y, hy⟩ : ∃ y, kindM S.m q = y := ⟨_, rfl⟩
 rw [hy] at HKD HE0 HR2
 clear hy q1
 by_cases k0 : y = 0
 · subst k0
   have HE := hide (HR2.out rfl rfl)
   go_wp2_with fail
   refine (HKD.out w1 HB.out).mono ?_
   rintro e w' ⟨rfl, rfl⟩
   go_wp2
   go_ret
   rw [HE.out]
   exact ⟨rfl, RK.stay H.out HB.out⟩
 have HE1 := hide (HE0.out k0)
 obtain ⟨t1, t2⟩ := ne0 k0
 have hyi : (0 : Int) < (y : Int) := by omega
 have hy0 : ((y : Int) == 0) = false := by simp; omega
 obtain ⟨m, hm⟩ : ∃ m, (nmR q (keysN P)).length = m := ⟨_, rfl⟩
 rw [hm] at HNM
 have hm0 : m = 0 ↔ belowM S.m q = [] := by rw [← hm, List.length_eq_zero_iff]; exact hnb
 clear hm hnb k0
 by_cases m0 : m = 0
 case neg =>
   have HE := hide (HE1.out.trans (if_pos (fun h => m0 (hm0.2 h))))
   have hmi : (0 : Int) < (m : Int) := by omega
   clear hm0 hdd
   go_wp2_with fail
   refine (HKD.out w1 HB.out).mono ?_
   rintro e w' ⟨rfl, rfl⟩
   go_wp2_with fail
   refine (HNM.out w1 HB.out).mono ?_
   rintro e w2 ⟨⟨A5, c5, rfl, _, _⟩, hb2⟩
   have HB2 := hide (below_up HB.out hb2 HB.out.size)
   clear hb2
   go_wp2
   go_ret
   rw [HE.out]
   exact ⟨rfl, RK.stay H.out HB2.out⟩
 have hbl := hm0.1 m0
 have HE := hide (HE1.out.trans (if_neg (fun h => h hbl)))
 have HDD := hide (hdd hbl)
 subst m0
 have hql2 : q.length ≤ 1000 := by omega
 have HD := hide (HDR.out q hql2)
 rw [HDD.out] at HD
 clear hm0 hdd hbl
 go_wp2_with fail
 refine (HKD.out w1 HB.out).mono ?_
 rintro e w' ⟨rfl, rfl⟩
 go_wp2_with fail
 refine (HNM.out w1 HB.out).mono ?_
 rintro e w2 ⟨⟨A5, c5, rfl, _, _⟩, hb2⟩
 have HB2 := hide (below_up HB.out hb2 HB.out.size)
 clear hb2
 go_wp2_with fail
 refine (HD.out w2 HB2.out).mono ?_
 rintro e w3 ⟨rfl, A', c', ho', hk', hA'⟩
 have hg3 := ho'.heap
 have hc3 := cellOf hg3 (j := 3) (v := .int .i64 S.clock) rfl
 have hf3 := freeOf hg3 3
 have HO := hide ho'
 have HK := hide hk'
 have HA := hide hA'
 clear ho' hk' hA' hg3
 go_wp2
 go_ret
 rw [HE.out]
 have hk2 : Kp w w3 (fun k => k = g) := (Kp.of_below HB2.out _).then HK.out
 have ht := HO.out.tick (S.clock + 1)
 refine ⟨rfl, A', c', _, ⟨ht.heap, ht.cap, ht.rg, ht.dat, ht.eq, ht.top, ht.neA, ht.neD, ht.lt⟩, hk2.then (Kp.set w3 g 3 _), fun a e _ => .inl (by have := HA.out a e; have := HB2.out.size; omega), fun x hx a e hn => .inr ⟨x, (List.mem_filter.1 hx).1, e, hn⟩⟩
end
section
open Go.RowKit Go.Deep Go.Maps Ln Pth Vf
attribute [local go_sem] bt_eq
def inF (x : T) (z : NV) : Bool := withinF x z.1.data.toList
def mvN (x y : T) (z : NV) : NV := (bs (tgt x y z.1.data.toList), z.2)
def rmvN (x y : T) (P : List NV) : List NV := (P.filter (inF x)).map (mvN x y)
def rvalN (y : T) (t : Nat) (z : NV) : NV := (z.1, ⟨z.2.A, z.2.c, rvalM y t (z.1, z.2.nd)⟩)
def rfoldN (y : T) (t : Nat) (M Q : List NV) : List NV := M.foldl (fun Q z => putG (rvalN y t z) Q) Q
theorem strip_fold (y : T) (t : Nat) : ∀ (M Q : List NV), stripN (rfoldN y t M Q) = (stripN M).foldl (fun Q z => putG (z.1, rvalM y t z) Q) (stripN Q)
 | [], Q => rfl
 | z :: M, Q => by
   have ih := strip_fold y t M (putG (rvalN y t z) Q)
   rw [strip_put] at ih
   exact ih
theorem strip_rmv (x y : T) (P : List NV) : stripN (rmvN x y P) = rmvL (stripN P) x y := by
 unfold rmvN rmvL
 have := strip_filter (fun k => withinF x k.data.toList) P
 rw [← this]
 unfold stripN
 rw [List.map_map, List.map_map]
 rfl
theorem strip_out (x y : T) (P : List NV) : stripN ((P.filter (outF x)).filter (outF y)) = routM (stripN P) x y := by
 unfold routM
 have h1 := strip_filter (fun k => !withinF x k.data.toList) P
 have h2 := strip_filter (fun k => !withinF y k.data.toList) (P.filter (outF x))
 rw [← h1]
 exact h2
theorem rmove_strip (x y : T) (t : Nat) (P : List NV) : stripN (rfoldN y t (rmvN x y P) ((P.filter (outF x)).filter (outF y))) = rmoveM (stripN P) x y t := by
 rw [strip_fold, strip_rmv, strip_out]
 rfl
theorem rfold_take {y : T} {t : Nat} {M Q : List NV} {i : Nat} {z : NV} (h : M[i]? = some z) : rfoldN y t (M.take (i + 1)) Q = putG (rvalN y t z) (rfoldN y t (M.take i) Q) := by
 rw [List.take_add_one, h]
 unfold rfoldN
 rw [List.foldl_append]
 rfl
theorem putG_lenL {α : Type} (x : ByteArray × α) : ∀ P : KV α, (putG x P).length ≤ P.length + 1
 | [] => by simp [putG]
 | y :: P => by
   have := putG_lenL x P
   rw [putG]
   split
   · simp only [List.length_cons]; omega
   · split <;> simp
theorem rfold_len (y : T) (t : Nat) : ∀ M Q : List NV, (rfoldN y t M Q).length ≤ Q.length + M.length
 | [], Q => by simp [rfoldN]
 | z :: M, Q => by
   have h1 := rfold_len y t M (putG (rvalN y t z) Q)
   have h2 := putG_lenL (rvalN y t z) Q
   show (rfoldN y t M (putG (rvalN y t z) Q)).length ≤ _
   rw [List.length_cons]
   omega
theorem filt_both {α : Type} (p : α → Bool) : ∀ P : List α, (P.filter p).length + (P.filter fun z => !p z).length = P.length
 | [] => rfl
 | x :: P => by
   have := filt_both p P
   rw [List.filter_cons, List.filter_cons]
   cases p x <;> simp <;> omega
theorem parts_len {x y : T} {P : List NV} : ((P.filter (outF x)).filter (outF y)).length + (rmvN x y P).length ≤ P.length := by
 have h1 := filt_both (inF x) P
 have h2 := List.length_filter_le (outF y) (P.filter (outF x))
 unfold rmvN
 rw [List.length_map]
 have h3 : (P.filter (outF x)).length = (P.filter fun z => !inF x z).length := rfl
 omega
theorem rmv_take {x y : T} {P : List NV} {k : Nat} {z : NV} (h : P[k]? = some z) : rmvN x y (P.take (k + 1)) = rmvN x y (P.take k) ++ if inF x z = true then [mvN x y z] else [] := by
 unfold rmvN
 rw [filter_take h, List.map_append]
 congr 1
 split <;> rfl
theorem rmv_src {x y : T} {P : List NV} {z : NV} (h : z ∈ rmvN x y P) : ∃ u ∈ P, u.2 = z.2 := by
 unfold rmvN at h
 obtain ⟨u, hu, rfl⟩ := List.mem_map.1 h
 exact ⟨u, (List.mem_filter.1 hu).1, rfl⟩
theorem rvalM_data (y : T) (t : Nat) (z : ByteArray × Nd) : (rvalM y t z).data = z.2.data := by
 unfold rvalM
 split <;> rfl
theorem rfold_src {y : T} {t : Nat} : ∀ (M Q : List NV) {P : List NV}, (∀ z ∈ Q, ∃ u ∈ P, u.2.A = z.2.A ∧ u.2.nd.data = z.2.nd.data ∧ u.2.c = z.2.c) → (∀ z ∈ M, ∃ u ∈ P, u.2 = z.2) → ∀ z ∈ rfoldN y t M Q, ∃ u ∈ P, u.2.A = z.2.A ∧ u.2.nd.data = z.2.nd.data ∧ u.2.c = z.2.c
 | [], Q, P, h1, _ => h1
 | m :: M, Q, P, h1, h2 => by
   refine rfold_src M (putG (rvalN y t m) Q) (fun z hz => ?_) (fun z hz => h2 z (by simp [hz]))
   rcases mem_putG hz with rfl | hz
   · obtain ⟨u, hu, e⟩ := h2 m (by simp)
     exact ⟨u, hu, by rw [e]; rfl, by rw [e]; exact (rvalM_data y t (m.1, m.2.nd)).symm, by rw [e]; rfl⟩
   · exact h1 z hz
theorem RSO.keep {g : Nat} {S : St} {A : Option Addr} {c : Nat} {P : List NV} {w w' : World} {X : Nat → Prop} (h : RSO g S A c P w) (hk : Kp w w' X) (hg : ¬ X g) (hA : ∀ a, A = some a → P ≠ [] → ¬ X a.block) (hD : ∀ x ∈ P, ∀ a, x.2.A = some a → x.2.nd.data ≠ [] → ¬ X a.block) : RSO g S A c P w' :=
 ⟨(hk.block g (Array.getElem?_eq_some_iff.1 h.heap).1 hg).trans h.heap, h.cap, h.rg.ofB hk.size (fun a e hn => hk.block a.block (h.rg.block_lt e hn) (hA a e hn)), fun x hx => (h.dat x hx).ofB hk.size (fun a e hn => hk.block a.block ((h.dat x hx).block_lt e hn) (hD x hx a e hn)), h.eq, h.top, h.neA, h.neD, h.lt⟩
theorem moveS_chain {S : St} {p q x y : T} (hp : absF [47] p = (x, 0)) (hq : absF [47] q = (y, 0)) : moveS S p q = if wayM S.m x ≠ 0 then (S, wayM S.m x) else if kindM S.m x = 0 then (S, 6) else if x = [47] then (S, 1) else if wayM S.m y ≠ 0 then (S, wayM S.m y) else if x = y then (S, 0) else
   if mayS S.m x y ≠ 0 then (S, mayS S.m x y) else (moveQ S x y, 0) := by
 unfold moveS foundS absS
 rw [hp, hq]
 simp only [ne_eq, not_true_eq_false, if_false]
 by_cases h1 : wayM S.m x = 0
 · simp only [h1, not_true_eq_false, if_false, true_and]
   by_cases h2 : kindM S.m x = 0
   · simp [h2]
   · simp only [h2, if_false, not_true_eq_false]
     by_cases h3 : x = [47]
     · simp [h3]
     · simp only [h3, if_false]
       by_cases h4 : wayM S.m y = 0
       · simp [h4]
       · simp [h4]
 · simp [h1]
theorem moveS_bad1 {S : St} {p q : T} (h : (absF [47] p).2 ≠ 0) : moveS S p q = (S, (absF [47] p).2) := by
 unfold moveS
 rw [if_pos h]
theorem moveS_bad2 {S : St} {p q : T} (h1 : (absF [47] p).2 = 0) (h : (absF [47] q).2 ≠ 0) : moveS S p q = (S, (absF [47] q).2) := by
 unfold moveS
 rw [if_neg (by simp [h1]), if_pos h]
open Classical in
theorem may_doc {S : St} {P : List NV} (hS : WfS S) (t : HangS S) (hP : S.m = stripN P) {a b : List T} (ga : GoodP a) (gb : GoodP b) (nea : a ≠ []) (hk : kindM S.m (joinF a) ≠ 0) : mayS S.m (joinF a) (joinF b) =
   if joinF b = [47] then 1 else if withinF (joinF a) (joinF b) = true then 1 else if kindM S.m (joinF b) = 2 ∧ kindM S.m (joinF a) = 1 then 10 else if kindM S.m (joinF b) = 1 ∧ kindM S.m (joinF a) = 2 then 11 else
     if kindM S.m (joinF b) = 2 ∧ nmR (joinF b) (keysN P) ≠ [] then 14 else if ∃ z ∈ P, inF (joinF a) z = true ∧ badT (joinF a) (joinF b) z.1.data.toList then 3 else 0 := by
 have hka := kind_le S.m (joinF a)
 unfold mayS
 by_cases h1 : joinF b = [47]
 · rw [if_pos (.inl h1), if_pos h1]
 rw [if_neg h1]
 by_cases h2 : withinF (joinF a) (joinF b) = true
 · rw [if_pos (.inr h2), if_pos h2]
 rw [if_neg (by rintro (h | h); exact h1 h; exact h2 h), if_neg h2]
 have neb : b ≠ [] := fun e => h1 (by rw [e]; rfl)
 by_cases h3 : kindM S.m (joinF b) = 2 ∧ kindM S.m (joinF a) = 1
 · rw [if_pos ⟨h3.1, by omega⟩, if_pos h3]
 rw [if_neg (fun h => h3 ⟨h.1, by omega⟩), if_neg h3]
 split
 · rfl
 · have hnn : nmR (joinF b) (keysN P) ≠ [] ↔ belowM S.m (joinF b) ≠ [] := by rw [← keysN_eq hP, nmR_names hS gb]; exact not_congr (names_nil hS t gb neb)
   have hx : (kindM S.m (joinF b) = 2 ∧ belowM S.m (joinF b) ≠ []) ↔ (kindM S.m (joinF b) = 2 ∧ nmR (joinF b) (keysN P) ≠ []) := and_congr Iff.rfl hnn.symm
   by_cases h5 : kindM S.m (joinF b) = 2 ∧ belowM S.m (joinF b) ≠ []
   · rw [if_pos h5, if_pos (hx.1 h5)]
   rw [if_neg h5, if_neg (fun h => h5 (hx.2 h))]
   · have := bad_iff hS ga gb nea neb
     rw [hP] at this
     have e : (∃ z ∈ stripN P, withinF (joinF a) z.1.data.toList = true ∧ badT (joinF a) (joinF b) z.1.data.toList) ↔ ∃ z ∈ P, inF (joinF a) z = true ∧ badT (joinF a) (joinF b) z.1.data.toList := by
       unfold stripN
       constructor
       · rintro ⟨z, hz, h⟩
         obtain ⟨u, hu, rfl⟩ := List.mem_map.1 hz
         exact ⟨u, hu, h⟩
       · rintro ⟨u, hu, h⟩
         exact ⟨_, List.mem_map.2 ⟨u, hu, rfl⟩, h⟩
     rw [e] at this
     rw [← hP] at this
     by_cases h6 : ∃ z ∈ P, inF (joinF a) z = true ∧ badT (joinF a) (joinF b) z.1.data.toList
     · rw [if_pos (this.1 h6), if_pos h6]
     · rw [if_neg (fun h => h6 (this.2 h)), if_neg h6]
structure MRow (w : World) (b0 : Nat) (gm : Nat) (L : List NV) : Prop where
 rg : RG encE 4 w (some ⟨gm, 0, none⟩) L
 blk : ∃ cur, w.heap[gm]? = some (.cells cur 135)
 ge : b0 ≤ gm
theorem MRow.kp {w w' : World} {b0 gm g : Nat} {L : List NV} (h : MRow w b0 gm L) (hk : Kp w w' (fun k => k = g)) (hg : gm ≠ g) : MRow w' b0 gm L := by
 obtain ⟨cur, hc⟩ := h.blk
 exact ⟨h.rg.kp hk (fun a e _ => by injection e with e; subst e; exact hg), ⟨cur, (hk.block gm (Array.getElem?_eq_some_iff.1 hc).1 hg).trans hc⟩, h.ge⟩
theorem MRow.setT {w : World} {b0 gm : Nat} {L : List NV} (h : MRow w b0 gm L) {k : Nat} {x : NV} (hk : L[k]? = some x) (t : Nat) : MRow (w.setCell ⟨gm, k * 4 + 3, none⟩ (.int .i64 t)) b0 gm (L.set k (x.1, ⟨x.2.A, x.2.c, ⟨x.2.nd.dir, x.2.nd.data, t⟩⟩)) := by
 obtain ⟨cur, hc⟩ := h.blk
 exact ⟨h.rg.setT hk t, ⟨_, heapSet hc _⟩, h.ge⟩
theorem MRow.of {w : World} {b0 : Nat} {A : Option Addr} {n c : Nat} {L : List NV} (h : OwnG encE 4 135 w b0 (.slice A n c) L) (hn : L ≠ []) : ∃ gm, A = some ⟨gm, 0, none⟩ ∧ n = L.length ∧ L.length ≤ c ∧ gm < w.heap.size ∧ MRow w b0 gm L := by
 obtain ⟨hr, hm, hcl, _, _⟩ := OwnG.rso (g := 0) h
 rcases h.2 with ⟨_, h0⟩ | ⟨gm, cap, cur, e, hg, hh, _⟩
 · exact absurd (List.eq_nil_of_length_eq_zero h0) hn
 · injection e with e1 e2 e3
   subst e1
   exact ⟨gm, rfl, hm, hcl, (Array.getElem?_eq_some_iff.1 hh).1, hr, ⟨cur, hh⟩, hg⟩
theorem absS_fst {S : St} {p x q : T} (h : absF [47] p = (x, 0)) (h2 : absS S p = (q, 0)) (hq : q ≠ []) : q = x := by
 unfold absS at h2
 rw [h] at h2
 simp only [ne_eq, not_true_eq_false, if_false] at h2
 split at h2
 · injection h2 with h3 h4
   exact absurd h3.symm hq
 · injection h2 with h3 h4
   exact h3.symm
def SQ (S : St) (Q : List NV) : St := { S with m := stripN Q, clock := S.clock + 1 }
end
section
open Go.RowKit Go.Deep Go.Maps Ln Pth Vf
attribute [local go_sem] bt_eq
theorem rmove4_k0 (g : Nat) (S : St) (A : Option Addr) (c : Nat) (P : List NV) (p q : T) (w : World) (h : RSO g S A c P w) (hS : WfS S) (t : HangS S) (hp : p.length ≤ 50000) (hq : q.length ≤ 50000) (hck : S.clock ≤ 1000000000) (hkq : kindM S.m (absF [47] q).1 = 0) :
   Calls Tryz.prog 62 #[.pointer (some ⟨g, 0, none⟩), .string (bs p), .string (bs q)] w fun e w' => e = .returned (.int .i64 (moveS S p q).2) ∧ RK g (moveS S p q).1 w A P w' := by
 have hl := row_len hS h.eq
 have hks := keys_short hS h.eq
 have H := hide h
 have HA1 := hide (rabs_any [47] p w (by simp) (by omega))
 have HA2 := hide (fun W => rabs_any [47] q W (by simp) (by omega))
 have HC1 := absF_cases [47] p
 have HC2 := absF_cases [47] q
 have HB1 := hide (fun h1 => moveS_bad1 (S := S) (p := p) (q := q) h1)
 have HB2 := hide (fun h1 h2 => moveS_bad2 (S := S) (p := p) (q := q) h1 h2)
 have HCH := hide (fun x y h1 h2 => moveS_chain (S := S) (p := p) (q := q) (x := x) (y := y) h1 h2)
 have HCS := hide (moveS_cases hS t p q)
 have HMD := hide (fun (a b : List T) ga gb nea hk => may_doc hS t h.eq (a := a) (b := b) ga gb nea hk)
 have HWY := hide (fun (l : List T) (gl : GoodP l) (W : World) (hb : Below w.heap.size w W) => rway_any g S A c P l W (h.below hb) (by omega) gl.ok (by have := gl.len; omega))
 have HKD := hide (fun (q : T) (W : World) (hb : Below w.heap.size w W) => rkind_any g S A c P q W (h.below hb) (by omega))
 have HNM := hide (fun (q : T) (W : World) (hb : Below w.heap.size w W) => rnames4_any g S A c P q W (h.below hb) hl hks)
 have HKS := hide hks
 have HL := hide hl
 unfold AbsPost at HA1 HA2
 rw [show bs [47] = (⟨#[47]⟩ : ByteArray) from rfl] at HA1 HA2
 obtain ⟨R, hR⟩ : ∃ R, moveS S p q = R := ⟨_, rfl⟩
 rw [hR] at HB1 HB2 HCH HCS ⊢
 obtain ⟨r1, hr1⟩ : ∃ r, absF [47] p = r := ⟨_, rfl⟩
 obtain ⟨x, e1⟩ := r1
 obtain ⟨r2, hr2⟩ : ∃ r, absF [47] q = r := ⟨_, rfl⟩
 obtain ⟨y, e2⟩ := r2
 rw [hr1] at HA1 HB1 HB2 HC1 HCH
 rw [hr2] at HA2 HB2 HC2 HCH hkq
 dsimp only at HA1 HA2 HB1 HB2 HC1 HC2
 clear hR h hks hl hp hq t
 go_enter Tryz.func62, Tryz.ntmps62
 go_wp2_with fail
 refine HA1.out.mono ?_
 rintro e w1 ⟨rfl, hb1⟩
 have HW1 := hide hb1
 clear hb1 HA1
 by_cases c1 : e1 = 0
 case neg =>
   obtain ⟨t1, t2⟩ := ne0 c1
   have HE := hide (HB1.out c1)
   clear c1 HC1 HC2
   go_wp2
   go_ret
   rw [HE.out]
   exact ⟨rfl, RK.stay H.out HW1.out⟩
 subst c1
 go_wp2_with fail
 refine (HA2.out w1).mono ?_
 rintro e w2 ⟨rfl, hb2⟩
 have HW2 := hide (below_up HW1.out hb2 HW1.out.size)
 clear hb2 HA2 HW1
 by_cases c2 : e2 = 0
 case neg =>
   obtain ⟨t1, t2⟩ := ne0 c2
   have HE := hide (HB2.out trivial c2)
   clear c2 HC1 HC2
   go_wp2
   go_ret
   rw [HE.out]
   exact ⟨rfl, RK.stay H.out HW2.out⟩
 subst c2
 obtain ⟨a, ga, ea⟩ : ∃ a, GoodP a ∧ x = joinF a := by
   rcases HC1 with ⟨a, ga, e, _⟩ | ⟨_, e⟩
   · exact ⟨a, ga, congrArg Prod.fst e⟩
   · omega
 obtain ⟨b, gb, eb⟩ : ∃ b, GoodP b ∧ y = joinF b := by
   rcases HC2 with ⟨b, gb, e, _⟩ | ⟨_, e⟩
   · exact ⟨b, gb, congrArg Prod.fst e⟩
   · omega
 have HR := hide (HCH.out x y rfl rfl)
 have HWX := hide (HWY.out a ga)
 have HWYY := hide (HWY.out b gb)
 rw [← ea] at HWX
 rw [← eb] at HWYY
 have hxl : x.length ≤ 200 := by rw [ea]; exact ga.len
 have hyl : y.length ≤ 200 := by rw [eb]; exact gb.len
 have HMY := hide (fun h1 h2 => HMD.out a b ga gb h1 h2)
 rw [← ea, ← eb] at HMY
 have HXR := hide (show a ≠ [] ↔ x ≠ [47] by rw [ea]; exact not_congr (joinF_root ga.ok).symm)
 have hxr := HXR.out
 have EA := hide ea
 have EB := hide eb
 clear HC1 HC2 HWY HMD HCH HB1 HB2 ea eb
 obtain ⟨wx, hwx⟩ : ∃ k, wayM S.m x = k := ⟨_, rfl⟩
 obtain ⟨wy, hwy⟩ : ∃ k, wayM S.m y = k := ⟨_, rfl⟩
 rw [hwx] at HWX HR
 rw [hwy] at HWYY HR
 by_cases c3 : wx = 0
 case neg =>
   obtain ⟨t1, t2⟩ := ne0 c3
   have HE := hide (HR.out.trans (if_pos c3))
   clear c3 hwx hwy
   go_wp2_with fail
   refine (HWX.out w2 HW2.out).mono ?_
   rintro e w3 ⟨rfl, hb3⟩
   have HW3 := hide (below_up HW2.out hb3 HW2.out.size)
   clear hb3
   go_wp2_with fail
   refine (HWX.out w3 HW3.out).mono ?_
   rintro e w4 ⟨rfl, hb4⟩
   have HW4 := hide (below_up HW3.out hb4 HW3.out.size)
   clear hb4
   go_wp2
   go_ret
   rw [HE.out]
   exact ⟨rfl, RK.stay H.out HW4.out⟩
 subst c3
 have HR1 := hide (HR.out.trans (if_neg (by simp)))
 clear HR hwx hwy
 go_wp2_with fail
 refine (HWX.out w2 HW2.out).mono ?_
 rintro e w3 ⟨rfl, hb3⟩
 have HW3 := hide (below_up HW2.out hb3 HW2.out.size)
 clear hb3 HW2
 have HKX := hide (HKD.out x w3 HW3.out)
 have hkx := kind_le S.m x
 have hky := kind_le S.m y
 obtain ⟨kx, hkxe⟩ : ∃ k, kindM S.m x = k := ⟨_, rfl⟩
 obtain ⟨ky, hkye⟩ : ∃ k, kindM S.m y = k := ⟨_, rfl⟩
 have HKY := hide (fun W hb => HKD.out y W hb)
 rw [hkxe] at HKX HR1 hkx HMY
 have hkq' : ky = 0 := hkye.symm.trans hkq
 rw [hkye] at HKY hky HMY
 clear HKD hkxe hkye hkq
 by_cases c4 : kx = 0
 · subst c4
   have HE := hide (HR1.out.trans (if_pos rfl))
   go_wp2_with fail
   refine HKX.out.mono ?_
   rintro e w' ⟨rfl, rfl⟩
   go_wp2
   go_ret
   rw [HE.out]
   exact ⟨rfl, RK.stay H.out HW3.out⟩
 have HR2 := hide (HR1.out.trans (if_neg c4))
 obtain ⟨tk1, tk2⟩ := ne0 c4
 go_wp2_with fail
 refine HKX.out.mono ?_
 rintro e w' ⟨rfl, rfl⟩
 clear HKX HR1
 by_cases c5 : x = [47]
 · have ht : ((bs x).toList == [47]) = true := by rw [bs_toList, c5]; rfl
   have HE := hide (HR2.out.trans (if_pos c5))
   clear c5 c4
   go_wp2
   go_ret
   rw [HE.out]
   exact ⟨rfl, RK.stay H.out HW3.out⟩
 have ht : ((bs x).toList == [47]) = false := by rw [bs_toList]; simpa using c5
 have HR3 := hide (HR2.out.trans (if_neg c5))
 have HM0 := hide (HMY.out (hxr.2 c5) c4)
 clear HR2 c5 HMY hxr
 by_cases c6 : wy = 0
 case neg =>
   obtain ⟨t1, t2⟩ := ne0 c6
   have HE := hide (HR3.out.trans (if_pos c6))
   clear c6 c4
   go_wp2_with fail
   refine (HWYY.out w3 HW3.out).mono ?_
   rintro e w4 ⟨rfl, hb4⟩
   have HW4 := hide (below_up HW3.out hb4 HW3.out.size)
   clear hb4
   go_wp2_with fail
   refine (HWYY.out w4 HW4.out).mono ?_
   rintro e w5 ⟨rfl, hb5⟩
   have HW5 := hide (below_up HW4.out hb5 HW4.out.size)
   clear hb5
   go_wp2
   go_ret
   rw [HE.out]
   exact ⟨rfl, RK.stay H.out HW5.out⟩
 subst c6
 have HR4 := hide (HR3.out.trans (if_neg (by simp)))
 clear HR3
 go_wp2_with fail
 refine (HWYY.out w3 HW3.out).mono ?_
 rintro e w4 ⟨rfl, hb4⟩
 have HW4 := hide (below_up HW3.out hb4 HW3.out.size)
 clear hb4 HW3
 by_cases c7 : x = y
 · have ht2 : ((bs x).toList == (bs y).toList) = true := by rw [c7]; simp
   have HE := hide (HR4.out.trans (if_pos c7))
   clear c7 c4
   go_wp2
   go_ret
   rw [HE.out]
   exact ⟨rfl, RK.stay H.out HW4.out⟩
 have ht2 : ((bs x).toList == (bs y).toList) = false := by rw [bs_toList, bs_toList]; simpa using c7
 have HR5 := hide (HR4.out.trans (if_neg c7))
 clear HR4 c7
 obtain ⟨my, hmy⟩ : ∃ k, mayS S.m x y = k := ⟨_, rfl⟩
 rw [hmy] at HM0 HR5
 have HER := hide (fun (h : my ≠ 0) => HR5.out.trans (if_pos h))
 by_cases c8 : y = [47]
 · have ht3 : ((bs y).toList == [47]) = true := by rw [bs_toList, c8]; rfl
   have hmy1 := HM0.out.trans (if_pos c8)
   have HE := hide (HER.out (by omega))
   rw [hmy1] at HE
   clear c8 c4 hmy hmy1
   go_wp2
   go_ret
   rw [HE.out]
   exact ⟨rfl, RK.stay H.out HW4.out⟩
 have ht3 : ((bs y).toList == [47]) = false := by rw [bs_toList]; simpa using c8
 have HM1 := hide (HM0.out.trans (if_neg c8))
 have HWI := hide (rwithin_any x y w4 (by omega) (by omega))
 obtain ⟨wi, hwi⟩ : ∃ b, withinF x y = b := ⟨_, rfl⟩
 rw [hwi] at HWI HM1
 clear HM0 c8 hwi
 cases wi with
 | true =>
   have hmy1 := HM1.out.trans (if_pos rfl)
   have HE := hide (HER.out (by omega))
   rw [hmy1] at HE
   clear c4 hmy hmy1
   go_wp2_with fail
   refine HWI.out.mono ?_
   rintro e w5 ⟨rfl, hb5⟩
   have HW5 := hide (below_up HW4.out hb5 HW4.out.size)
   clear hb5
   go_wp2
   go_ret
   rw [HE.out]
   exact ⟨rfl, RK.stay H.out HW5.out⟩
 | false =>
 have HM2 := hide (HM1.out.trans (if_neg (by simp)))
 clear HM1
 go_wp2_with fail
 refine HWI.out.mono ?_
 rintro e w5 ⟨rfl, hb5⟩
 have HW5 := hide (below_up HW4.out hb5 HW4.out.size)
 clear hb5 HWI HW4
 go_wp2_with fail
 refine (HKY.out w5 HW5.out).mono ?_
 rintro e w' ⟨rfl, rfl⟩
 have c9 : ¬ (ky = 2 ∧ kx = 1) := by omega
 have HM3 := hide (HM2.out.trans (if_neg c9))
 clear HM2
 have c10 : ¬ (ky = 1 ∧ kx = 2) := by omega
 have HM4 := hide (HM3.out.trans (if_neg c10))
 clear HM3
 subst hkq'
 have HPX := hide (fun (z : NV) (hz : z ∈ P) (t : T) (hzt : z.1 = bs t) (h : withinF x t = true) => show x.length ≤ t.length from by
   obtain ⟨l, gl, _, e⟩ := hS.good (z.1, z.2.nd) (by rw [H.out.eq]; exact List.mem_map.2 ⟨z, hz, rfl⟩)
   have e2 : t = joinF l := bs_inj (hzt.symm.trans e)
   rw [EA.out, e2] at h ⊢
   obtain ⟨r, rfl⟩ := (within_join ga.ok gl.ok).1 h
   by_cases h0 : a = []
   · subst h0
     have := List.length_pos_iff.2 (joinF_ne ([] ++ r))
     rw [joinF_nil]
     exact this
   · rw [slashed_join h0, slashed_join (by simp [h0]), slashed_app, List.length_append]
     omega)
 clear c9 c10 c4 hmy
 have HM5 := hide (HM4.out.trans (if_neg (by omega)))
 clear HM4
 have HW6 := hide HW5.out
 obtain ⟨w6, hw6⟩ : ∃ W, W = w5 := ⟨_, rfl⟩
 rw [← hw6] at HW6 ⊢
 clear hw6
 obtain ⟨n, hn⟩ : ∃ n, P.length = n := ⟨_, rfl⟩
 have HN := hide hn
 have hln : n ≤ 10000 := by have := HL.out; omega
 have hgl : g < w.heap.size := (Array.getElem?_eq_some_iff.1 H.out.heap).1
 clear hn HWX HWYY HKY HW5
 go_wp2
 go_loopw [13, 14, 15] (fun v13 v14 _ wr => ∃ (k m : Nat) (A' : Option Addr) (c' : Nat), v14 = .int .i64 k ∧ k ≤ n ∧ v13 = .slice A' m c' ∧ m ≤ k ∧ Hid (OwnG encE 4 135 wr w.heap.size (.slice A' m c') (rmvN x y (P.take k))) ∧ Hid (∀ z ∈ P.take k, inF x z = true → ¬ badT x y z.1.data.toList) ∧ Hid (Below w.heap.size w wr)) (fun _ v14 _ _ => n - (intOf v14).toNat)
 case atStart => exact ⟨0, 0, none, 0, rfl, by omega, rfl, by omega, OwnG.nil _ _, (fun z hz => by simp at hz), HW6.out⟩
 case round =>
   obtain ⟨k, m, A', c', rfl, hk, rfl, hmk, HO, HBD, HB⟩ := hrel
   have ho := H.out.below HB.out
   have hg := ho.heap
   rw [HN.out] at hg
   have hc2 := cellOf hg (j := 2) (v := .slice A n c) rfl
   by_cases hlt : k < n
   · obtain ⟨z, hz⟩ : ∃ x, P[k]? = some x := ⟨P[k]'(by have := HN.out; omega), gE _⟩
     obtain ⟨gs, o, rfl, hgs, hc⟩ := ho.rg k z hz
     obtain ⟨t, hzt, htl⟩ := HKS.out z (List.mem_of_getElem? hz)
     have hc0 : wr.cell? ⟨gs, o + k * 4, none⟩ = some (.string z.1) := by have := hc 0 _ rfl; simpa using this
     rw [hzt] at hc0
     have hc1 : wr.cell? ⟨gs, o + k * 4 + 1, none⟩ = some (.bool z.2.nd.dir) := hc 1 _ rfl
     have hc22 : wr.cell? ⟨gs, o + k * 4 + 2, none⟩ = some (.slice z.2.A z.2.nd.data.length z.2.c) := hc 2 _ rfl
     have hc3 : wr.cell? ⟨gs, o + k * 4 + 3, none⟩ = some (.int .i64 z.2.nd.time) := hc 3 _ rfl
     have hrt := rmv_take (x := x) (y := y) hz
     have hix : inF x z = withinF x t := by unfold inF; rw [hzt, bs_list]
     rw [hix] at hrt
     have HMV := hide (show mvN x y z = (bs (tgt x y t), z.2) by unfold mvN; rw [hzt, bs_list])
     have HIX := hide hix
     have HZT := hide hzt
     have HZ := hide hz
     have b1 : (k : Int) < (n : Int) := by omega
     have hrl : (rmvN x y (P.take k)).length ≤ 100000 := by
       unfold rmvN
       rw [List.length_map]
       refine Nat.le_trans (List.length_filter_le _ _) ?_
       rw [List.length_take]
       omega
     have HRL := hide hrl
     obtain ⟨D, hD⟩ : ∃ m, z.2.nd.data.length = m := ⟨_, rfl⟩
     rw [hD] at hc22
     have HD := hide hD
     clear ho hg hc hz hgs hix hzt hrl hD
     go_wp2_with fail
     obtain ⟨wa, hwa⟩ : ∃ W, wr.alloc (.cells #[.string (bs t), .bool z.2.nd.dir, .slice z.2.A D z.2.c, .int .i64 z.2.nd.time] 135) = W := ⟨_, rfl⟩
     have hnw := heapNew wr (.cells #[.string (bs t), .bool z.2.nd.dir, .slice z.2.A D z.2.c, .int .i64 z.2.nd.time] 135)
     have hba : Below w.heap.size wr (wr.alloc (.cells #[.string (bs t), .bool z.2.nd.dir, .slice z.2.A D z.2.c, .int .i64 z.2.nd.time] 135)) := (Below.refl _ wr).alloc HB.out.size _
     have hba2 : Below wr.heap.size wr (wr.alloc (.cells #[.string (bs t), .bool z.2.nd.dir, .slice z.2.A D z.2.c, .int .i64 z.2.nd.time] 135)) := (Below.refl _ wr).alloc (Nat.le_refl _) _
     have hoa := OwnG.keptB HO.out hba2
     rw [hwa] at hnw hba hba2 hoa ⊢
     obtain ⟨nb, hnb⟩ : ∃ b, wr.heap.size = b := ⟨_, rfl⟩
     have HNBE := hide hnb
     have hnbw : w.heap.size ≤ nb := by have := HB.out.size; omega
     rw [hnb] at hnw hba2 ⊢
     have HNW := hide hnw
     have HBA := hide (HB.out.trans hba)
     have HOA := hide hoa
     have hx0 := cellOf hnw (j := 0) (v := .string (bs t)) rfl
     have hnl : nb < wa.heap.size := (Array.getElem?_eq_some_iff.1 hnw).1
     have HWI := hide (rwithin_any x t wa (by omega) (by omega))
     clear hwa hnw hba hba2 hoa hnb hc0 hc1 hc22 hc3
     cases hw : withinF x t with
     | false =>
       rw [hw] at HWI hrt HIX
       have HRT := hide hrt
       clear hrt hw
       go_wp2_with fail
       refine HWI.out.mono ?_
       rintro e w7 ⟨rfl, hb7⟩
       have HB7 := hide (below_up HBA.out hb7 HBA.out.size)
       have HO7 := hide (OwnG.keptB HOA.out hb7)
       clear hb7
       go_wp2
       go_roundw
       case rel =>
         refine ⟨k + 1, m, A', c', by go_num, by omega, rfl, by omega, ?_, ?_, HB7.out⟩
         · show OwnG _ _ _ _ _ _ _
           rw [HRT.out]
           simp only [Bool.false_eq_true, if_false, List.append_nil]
           exact HO7.out
         · show ∀ z ∈ P.take (k + 1), _
           intro u hu hin
           rw [List.take_add_one, HZ.out] at hu
           rcases List.mem_append.1 hu with hu | hu
           · exact HBD.out u hu hin
           · simp at hu
             rw [hu, HIX.out] at hin
             cases hin
       case measure => simp [intOf]; omega
     | true =>
       rw [hw] at HWI hrt HIX
       have HRT := hide hrt
       have hxt : x.length ≤ t.length := by
         exact HPX.out z (List.mem_of_getElem? HZ.out) t HZT.out hw
       have zt : (bs t).size = t.length := bs_size t
       have zx : (bs x).size = x.length := bs_size x
       have zy : (bs y).size = y.length := bs_size y
       have HEX := hide (show (bs t).extract x.length (bs t).size = bs (t.drop x.length) by rw [ext_bs, bs_size, List.take_of_length_le (by rw [List.length_drop]; omega)])
       have HAP := hide (show bs y ++ bs (t.drop x.length) = bs (tgt x y t) from bs_app y (t.drop x.length))
       have zd : (bs (t.drop x.length)).size = t.length - x.length := by rw [bs_size, List.length_drop]
       have htgl : (tgt x y t).length = y.length + (t.length - x.length) := by unfold tgt; rw [List.length_append, List.length_drop]
       have ztg : (bs (tgt x y t)).size = y.length + (t.length - x.length) := by rw [bs_size, htgl]
       obtain ⟨xl, hxl'⟩ : ∃ n, x.length = n := ⟨_, rfl⟩
       obtain ⟨tl, htl'⟩ : ∃ n, t.length = n := ⟨_, rfl⟩
       obtain ⟨yl, hyl'⟩ : ∃ n, y.length = n := ⟨_, rfl⟩
       have HTG := hide htgl
       rw [hxl'] at zd hxt zx HEX ztg hxl HTG HAP
       rw [htl'] at zd hxt htl zt ztg HTG
       rw [hyl'] at zy hyl ztg HTG
       rw [zt] at HEX
       have HX2 := hide hxl'
       rw [← HEX.out] at zd HAP
       clear hrt hw htgl hxl' htl' hyl'
       go_wp2_with fail
       refine HWI.out.mono ?_
       rintro e w7 ⟨rfl, hb7⟩
       have hnw7 := (hb7.block nb hnl).trans HNW.out
       have HB7 := hide (below_up HBA.out hb7 HBA.out.size)
       have HO7 := hide (OwnG.keptB HOA.out hb7)
       have hx7 := cellOf hnw7 (j := 0) (v := .string (bs t)) rfl
       have hf7 := freeOf hnw7 0
       have hnl7 : nb < w7.heap.size := (Array.getElem?_eq_some_iff.1 hnw7).1
       have HNW8 := hide (heapSet (j := 0) hnw7 (.string (bs (tgt x y t))))
       obtain ⟨w8, hw8⟩ : ∃ W, w7.setCell ⟨nb, 0, none⟩ (.string (bs (tgt x y t))) = W := ⟨_, rfl⟩
       have hb8 : Below w.heap.size w w8 := hw8 ▸ HB7.out.setCell (p := ⟨nb, 0, none⟩) hnbw _
       rw [hw8] at HNW8
       have HB8 := hide hb8
       have HK8 := hide (show Kp w7 w8 (fun k => k = nb) from hw8 ▸ Kp.set w7 nb 0 _)
       have hy0 := cellOf HNW8.out (j := 0) (v := .string (bs (tgt x y t))) rfl
       clear hb7 hnw7 hb8
       have hap := HAP.out
       by_cases b200 : 200 < yl + (tl - xl)
       · have bi : (200 : Int) < ((yl + (tl - xl) : Nat) : Int) := by omega
         have hmy1 := HM5.out.trans (if_pos ⟨z, List.mem_of_getElem? HZ.out, HIX.out, by
           rw [HZT.out, bs_list]
           unfold badT
           rw [HTG.out]
           exact .inl b200⟩)
         have HE := hide (HER.out (by omega))
         rw [hmy1] at HE
         clear hmy1
         go_wp2
         go_ret
         rw [HE.out]
         exact ⟨rfl, RK.stay H.out HB8.out⟩
       have bi : ¬ (200 : Int) < ((yl + (tl - xl) : Nat) : Int) := by omega
       have HPA := hide (rparts_any [47] (tgt x y t) w8 (by simp) (by rw [HTG.out]; omega))
       rw [show bs [47] = (⟨#[47]⟩ : ByteArray) from rfl] at HPA
       obtain ⟨pl, hpl⟩ : ∃ n, (partsF [47] (tgt x y t)).length = n := ⟨_, rfl⟩
       have HPL := hide hpl
       have hpl3 : pl ≤ 100000 := by
         have := partsF_len [47] (tgt x y t)
         rw [hpl, HTG.out] at this
         simp at this
         omega
       clear hpl
       by_cases b20 : 20 < pl
       · have hmy1 := HM5.out.trans (if_pos ⟨z, List.mem_of_getElem? HZ.out, HIX.out, by
           rw [HZT.out, bs_list]
           unfold badT
           rw [HPL.out]
           exact .inr b20⟩)
         have HE := hide (HER.out (by omega))
         rw [hmy1] at HE
         have bpi : (20 : Int) < (pl : Int) := by omega
         clear hmy1
         go_wp2_with fail
         refine HPA.out.mono ?_
         rintro e w9 ⟨⟨v, rfl, ho9⟩, hb9⟩
         obtain ⟨A9, c9, rfl, hc9, _, _⟩ := OwnS.slice ho9
         have HB9 := hide (below_up HB8.out hb9 HB8.out.size)
         clear ho9 hb9
         rw [List.length_map, HPL.out]
         go_wp2
         go_ret
         rw [HE.out]
         exact ⟨rfl, RK.stay H.out HB9.out⟩
       have bpi : ¬ (20 : Int) < (pl : Int) := by omega
       have HNB := hide (show ¬ badT x y z.1.data.toList by
         rw [HZT.out, bs_list]
         unfold badT
         rw [HPL.out, HTG.out]
         omega)
       have HO8 := hide (show OwnG encE 4 135 w8 w.heap.size (.slice A' m c') (rmvN x y (P.take k)) from by
         refine ⟨HO7.out.1, ?_⟩
         rcases HO7.out.2 with h2 | ⟨g2, cap, cur, e2, hg2, hh2, r2⟩
         · exact .inl h2
         · refine .inr ⟨g2, cap, cur, e2, hg2, (HK8.out.block g2 (Array.getElem?_eq_some_iff.1 hh2).1 ?_).trans hh2, r2⟩
           have h3 := (HO.out.lt g2 (by rw [e2]; rfl)).2
           have := HNBE.out
           omega)
       go_wp2_with fail
       refine HPA.out.mono ?_
       rintro e w9 ⟨⟨v, rfl, ho9⟩, hb9⟩
       obtain ⟨A9, c9, rfl, hc9, _, _⟩ := OwnS.slice ho9
       rw [List.length_map, HPL.out]
       have hnw9 := (hb9.block nb (Array.getElem?_eq_some_iff.1 HNW8.out).1).trans HNW8.out
       have hr0 := cellOf hnw9 (j := 0) (v := .string (bs (tgt x y t))) rfl
       have hr1 := cellOf hnw9 (j := 1) (v := .bool z.2.nd.dir) rfl
       have hr2 := cellOf hnw9 (j := 2) (v := .slice z.2.A D z.2.c) rfl
       have hr3 := cellOf hnw9 (j := 3) (v := .int .i64 z.2.nd.time) rfl
       have hb9w := below_up HB8.out hb9 HB8.out.size
       have ho9' := OwnG.keptB HO8.out hb9
       obtain ⟨v', w', r', o', hb10⟩ := push_node ho9' hb9w.size HRL.out (mvN x y z) #[.string (bs (tgt x y t)), .bool z.2.nd.dir, .slice z.2.A D z.2.c, .int .i64 z.2.nd.time] (by rw [HMV.out]; unfold encE; rw [← HD.out])
       obtain ⟨A2, c2, rfl, hcl, _, _, _⟩ := o'.slice encE_len
       have HO2 := hide o'
       have HB2 := hide (hb9w.trans hb10)
       have HRUN := hide r'
       have hll : (rmvN x y (P.take k) ++ [mvN x y z]).length ≤ k + 1 := by
         rw [List.length_append, List.length_singleton]
         have h1 : (rmvN x y (P.take k)).length ≤ (P.take k).length := by
           unfold rmvN
           rw [List.length_map]
           exact List.length_filter_le _ _
         rw [List.length_take] at h1
         omega
       obtain ⟨M, hM⟩ : ∃ m, (rmvN x y (P.take k) ++ [mvN x y z]).length = m := ⟨_, rfl⟩
       rw [hM] at HO2 HRUN hll
       clear ho9 hb9 hnw9 hb9w ho9' r' o' hb10 hcl hM hx0 hx7 hy0
       go_wp2_with (first | (at_builtin; refine wpList_app_run ?_ (.tmp 135) (.tmp 137) ?_ ?_ ?_ ?_ HRUN.out ?_; exact rfl; exact rfl; exact rfl; exact rfl; exact rfl))
       go_roundw
       case rel =>
         refine ⟨k + 1, M, A2, c2, by go_num, by omega, rfl, by omega, ?_, ?_, HB2.out⟩
         · show OwnG _ _ _ _ _ _ _
           rw [HRT.out]
           exact HO2.out
         · show ∀ z ∈ P.take (k + 1), _
           intro u hu hin
           rw [List.take_add_one, HZ.out] at hu
           rcases List.mem_append.1 hu with hu | hu
           · exact HBD.out u hu hin
           · simp at hu
             rw [hu]
             exact HNB.out
       case measure => simp [intOf]; omega
   · obtain ⟨wq, hwq⟩ : ∃ X, X = wr := ⟨_, rfl⟩
     subst hwq
     obtain rfl : n = k := by omega
     have htk : P.take n = P := List.take_of_length_le (by have := HN.out; omega)
     rw [htk] at HO HBD
     have hmy0 : my = 0 := HM5.out.trans (if_neg (by
       rintro ⟨z, hz, h1, h2⟩
       exact HBD.out z hz h1 h2))
     have hRE := HR5.out.trans (if_neg (by rw [hmy0]; simp))
     have hMv : (moveQ S x y).m = rmoveM S.m x y (S.clock + 1) ∧ ∃ nd, getG S.m (bs x) = some nd := by
       rcases HCS.out with h1 | ⟨a', b', hmv, _, h2, h3⟩
       · exfalso
         rw [hRE] at h1
         have := congrArg St.clock h1
         change S.clock + 1 = S.clock at this
         omega
       · have e1 := absS_fst hr1 h2 (joinF_ne _)
         have e2 := absS_fst hr2 h3 (joinF_ne _)
         rw [← e1, ← e2]
         exact ⟨hmv.rsame, hmv.node⟩
     obtain ⟨hMQ, nd, hnd⟩ := hMv
     have hM0 : rmvN x y P ≠ [] := by
       rw [H.out.eq] at hnd
       have := getG_mem hnd
       unfold stripN at this
       obtain ⟨u, hu, e⟩ := List.mem_map.1 this
       have hu1 : u.1 = bs x := congrArg Prod.fst e
       have hin : inF x u = true := by
         unfold inF
         rw [hu1, bs_list, EA.out]
         exact (within_join ga.ok ga.ok).2 List.prefix_rfl
       intro h0
       have : mvN x y u ∈ rmvN x y P := List.mem_map.2 ⟨u, List.mem_filter.2 ⟨hu, hin⟩, rfl⟩
       rw [h0] at this
       cases this
     obtain ⟨gm, rfl, hml, hmc, hgmw, hmr⟩ := MRow.of HO.out hM0
     have hpl := parts_len (x := x) (y := y) (P := P)
     have hPl := HL.out
     have HD1 := hide (rdrop_any g S A c P x wq (H.out.below HB.out) HL.out HKS.out (by omega))
     have HMR := hide hmr
     have hgmg : gm ≠ g := by have := hmr.ge; omega
     have HRE := hide hRE
     have HMQ := hide hMQ
     have HSRC := hide (fun z (h : z ∈ rmvN x y P) => rmv_src h)
     obtain ⟨M, hM⟩ : ∃ M, rmvN x y P = M := ⟨_, rfl⟩
     have HMD := hide hM
     rw [hM] at hml hmc hpl HMR HSRC
     clear htk hmy0 hRE hMQ hnd hM0 hmr hM ho hg HO HBD
     subst hml
     have hmI : (M.length : Int) ≤ 10000 := by omega
     go_wp2_with fail
     refine HD1.out.mono ?_
     rintro e w8 ⟨rfl, A1, c1, ho1, hk1, hA1⟩
     have HD2 := hide (rdrop_any g _ A1 c1 _ y w8 ho1 (Nat.le_trans (List.length_filter_le _ _) HL.out) (fun z hz => HKS.out z (List.mem_filter.1 hz).1) (by omega))
     have HK1 := hide hk1
     clear ho1 hk1 HD1
     go_wp2_with fail
     refine HD2.out.mono ?_
     rintro e w9 ⟨rfl, A2, c2, ho2, hk2, hA2⟩
     have hg9 := ho2.heap
     have hc3 := cellOf hg9 (j := 3) (v := .int .i64 S.clock) rfl
     have hf3 := freeOf hg9 3
     have ht := ho2.tick (S.clock + 1)
     rw [show ((S.clock + 1 : Nat) : Int) = (S.clock : Int) + 1 from rfl] at ht
     have hkt := Kp.set w9 g 3 (.int .i64 ((S.clock : Int) + 1))
     obtain ⟨W0, hW0⟩ : ∃ W, w9.setCell ⟨g, 3, none⟩ (.int .i64 ((S.clock : Int) + 1)) = W := ⟨_, rfl⟩
     rw [hW0] at ht hkt
     have hkw : Kp wq W0 (fun k => k = g) := (HK1.out.then hk2).then hkt
     have HM0 := hide (HMR.out.kp hkw hgmg)
     have HWS := hide hkw.size
     have HKW := hide (show Kp w W0 (fun k => k = g) from (Kp.of_below HB.out _).then hkw)
     obtain ⟨P2, hP2⟩ : ∃ Q, (P.filter (outF x)).filter (outF y) = Q := ⟨_, rfl⟩
     have HP2 := hide hP2
     change RSO g _ A2 c2 ((P.filter (outF x)).filter (outF y)) W0 at ht
     rw [hP2] at ht hpl
     have HQ0 := hide (show RSO g (SQ S P2) A2 c2 P2 W0 from ⟨ht.heap, ht.cap, ht.rg, ht.dat, rfl, ht.top, ht.neA, ht.neD, ht.lt⟩)
     have HA0 := hide (show ∀ a, A2 = some a → wq.heap.size ≤ a.block from fun a e => by have := hA2 a e; have := HK1.out.size; omega)
     have HSQ := hide (show ∀ z ∈ P2, ∃ u ∈ P, u.2.A = z.2.A ∧ u.2.nd.data = z.2.nd.data ∧ u.2.c = z.2.c from fun z hz => by
       rw [← hP2] at hz
       exact ⟨z, (List.mem_filter.1 (List.mem_filter.1 hz).1).1, rfl, rfl, rfl⟩)
     clear ho2 hk2 hg9 ht hkt hkw hP2 hA2 hA1 HD2 HMR
     go_wp2
     go_loopw [16] (fun v16 wr => ∃ i : Nat, v16 = .int .i64 i ∧ i ≤ M.length ∧ Hid (∃ Ai ci, RSO g (SQ S (rfoldN y (S.clock + 1) (M.take i) P2)) Ai ci (rfoldN y (S.clock + 1) (M.take i) P2) wr ∧ ∀ a, Ai = some a → wq.heap.size ≤ a.block) ∧ Hid (∃ L', MRow wr w.heap.size gm L' ∧ L'.length = M.length ∧ L'.drop i = M.drop i) ∧ Hid (Kp w wr (fun k => k = g)) ∧ Hid (wq.heap.size ≤ wr.heap.size)) (fun v16 _ => M.length - (intOf v16).toNat)
     case atStart => exact ⟨0, rfl, Nat.zero_le _, ⟨A2, c2, HQ0.out, HA0.out⟩, ⟨M, HM0.out, rfl, rfl⟩, HKW.out, HWS.out⟩
     case round =>
       obtain ⟨W, hWr⟩ : ∃ X, X = wr := ⟨_, rfl⟩
       subst hWr
       obtain ⟨i, rfl, hi, HQI, HMI, HKI, HAI⟩ := hrel
       obtain ⟨Ai, ci, hoi, hAi⟩ := HQI.out
       by_cases hlt2 : i < M.length
       · obtain ⟨z, hz⟩ : ∃ z, M[i]? = some z := ⟨M[i], gE _⟩
         obtain ⟨L', hmr, hLl, hLd⟩ := HMI.out
         have hLz : L'[i]? = some z := by
           have h1 : (L'.drop i)[0]? = (M.drop i)[0]? := by rw [hLd]
           rw [List.getElem?_drop, List.getElem?_drop, Nat.add_zero, hz] at h1
           exact h1
         obtain ⟨ge, oe, ee, hgel, hcz⟩ := hmr.rg i z hLz
         injection ee with ee
         injection ee with ee1 ee2
         subst ee1 ee2
         rw [Nat.zero_add] at hcz
         have hz0 : W.cell? ⟨gm, i * 4, none⟩ = some (.string z.1) := by have := hcz 0 _ rfl; simpa using this
         have hz1 : W.cell? ⟨gm, i * 4 + 1, none⟩ = some (.bool z.2.nd.dir) := hcz 1 _ rfl
         have hz2 : W.cell? ⟨gm, i * 4 + 2, none⟩ = some (.slice z.2.A z.2.nd.data.length z.2.c) := hcz 2 _ rfl
         have hz3 : W.cell? ⟨gm, i * 4 + 3, none⟩ = some (.int .i64 z.2.nd.time) := hcz 3 _ rfl
         obtain ⟨cur, hcur⟩ := hmr.blk
         have hzf := freeOf hcur (i * 4 + 3)
         have hgi := hoi.heap
         have hgc3 := cellOf hgi (j := 3) (v := .int .i64 ((S.clock : Int) + 1)) rfl
         have hit := rfold_take (y := y) (t := S.clock + 1) (Q := P2) hz
         have hil := rfold_len y (S.clock + 1) (M.take i) P2
         rw [List.length_take] at hil
         have hi10 : (rfoldN y (S.clock + 1) (M.take i) P2).length ≤ 10000 := by omega
         have hsrcQ := rfold_src (y := y) (t := S.clock + 1) (M.take i) P2 (P := P) HSQ.out (fun z hz => HSRC.out z (List.mem_of_mem_take hz))
         obtain ⟨u, hu, hue⟩ := HSRC.out z (List.mem_of_getElem? hz)
         have bi2 : (i : Int) < (M.length : Int) := by omega
         have hgeo := hmr.ge
         obtain ⟨Qi, hQi⟩ : ∃ Q, rfoldN y (S.clock + 1) (M.take i) P2 = Q := ⟨_, rfl⟩
         rw [hQi] at hoi hit hi10 hsrcQ
         have hicc : (M.length : Int) ≤ (c' : Int) := by omega
         have hzdat : RG encB 1 W z.2.A z.2.nd.data := by
           rw [← hue]
           exact (H.out.dat u hu).kp HKI.out (H.out.neD u hu)
         have hzne : ∀ a, z.2.A = some a → z.2.nd.data ≠ [] → a.block ≠ g := by rw [← hue]; exact H.out.neD u hu
         have hzlt : z.2.nd.data.length ≤ z.2.c := by rw [← hue]; exact H.out.lt u hu
         have hzlo : ∀ a, z.2.A = some a → z.2.nd.data ≠ [] → a.block < w.heap.size := by
           rw [← hue]
           exact fun a e hn => (H.out.dat u hu).block_lt e hn
         by_cases he : z.1 = bs y
         · have e1 : (z.1.toList == (bs y).toList) = true := by rw [he]; simp
           have hk3 : Kp W (W.setCell ⟨gm, i * 4 + 3, none⟩ (.int .i64 ((S.clock : Int) + 1))) (fun k => k = gm) := Kp.set W gm _ _
           have hob := hoi.keep hk3 (fun e => hgmg e.symm) (fun a e _ => by have := hAi a e; omega) (fun v hv a e hn => by
             obtain ⟨u', hu', q1, q2, _⟩ := hsrcQ v hv
             have := (H.out.dat u' hu').block_lt (q1.trans e) (by rw [q2]; exact hn)
             omega)
           have hmrb := hmr.setT hLz (S.clock + 1)
           rw [show ((S.clock + 1 : Nat) : Int) = (S.clock : Int) + 1 from rfl] at hmrb
           have hzv : rvalN y (S.clock + 1) z = (z.1, ⟨z.2.A, z.2.c, ⟨z.2.nd.dir, z.2.nd.data, S.clock + 1⟩⟩) := by
             unfold rvalN rvalM
             rw [if_pos he]
           rw [hzv] at hit
           have hput := put_rk g (SQ S Qi) Ai ci Qi (z.1, ⟨z.2.A, z.2.c, ⟨z.2.nd.dir, z.2.nd.data, S.clock + 1⟩⟩) _ hob hi10 (SQ S (putG (z.1, ⟨z.2.A, z.2.c, ⟨z.2.nd.dir, z.2.nd.data, S.clock + 1⟩⟩) Qi)) (strip_put _ _) rfl rfl rfl (hzdat.ofB hk3.size (fun a e hn => hk3.block a.block (hzdat.block_lt e hn) (by have := hzlo a e hn; omega))) hzne hzlt
           have HPT := hide (show Calls Tryz.prog 92 #[.pointer (some ⟨g, 0, none⟩), .agg #[.string z.1, .bool z.2.nd.dir, .slice z.2.A z.2.nd.data.length z.2.c, .int .i64 ((S.clock : Int) + 1)]] _ _ from hput)
           have hs3 := World.cell?_setCell_same' W ⟨gm, i * 4 + 3, none⟩ (.int .i64 ((S.clock : Int) + 1)) (by rw [hz3]; rfl)
           have hs0 : (W.setCell ⟨gm, i * 4 + 3, none⟩ (.int .i64 ((S.clock : Int) + 1))).cell? ⟨gm, i * 4, none⟩ = some (.string z.1) := (World.cell?_setCell_other W _ _ _ (by intro e; injection e; omega)).trans hz0
           have hs1 : (W.setCell ⟨gm, i * 4 + 3, none⟩ (.int .i64 ((S.clock : Int) + 1))).cell? ⟨gm, i * 4 + 1, none⟩ = some (.bool z.2.nd.dir) := (World.cell?_setCell_other W _ _ _ (by intro e; injection e; omega)).trans hz1
           have hs2 : (W.setCell ⟨gm, i * 4 + 3, none⟩ (.int .i64 ((S.clock : Int) + 1))).cell? ⟨gm, i * 4 + 2, none⟩ = some (.slice z.2.A z.2.nd.data.length z.2.c) := (World.cell?_setCell_other W _ _ _ (by intro e; injection e; omega)).trans hz2
           obtain ⟨WB, hWB⟩ : ∃ X, W.setCell ⟨gm, i * 4 + 3, none⟩ (.int .i64 ((S.clock : Int) + 1)) = X := ⟨_, rfl⟩
           rw [hWB] at hk3 hmrb HPT hs0 hs1 hs2 hs3
           have HMRB := hide hmrb
           have HIT := hide (hit.trans rfl)
           have HLD := hide (show (L'.set i (z.1, ⟨z.2.A, z.2.c, ⟨z.2.nd.dir, z.2.nd.data, S.clock + 1⟩⟩)).length = M.length ∧ (L'.set i (z.1, ⟨z.2.A, z.2.c, ⟨z.2.nd.dir, z.2.nd.data, S.clock + 1⟩⟩)).drop (i + 1) = M.drop (i + 1) from ⟨by rw [List.length_set, hLl], by
             rw [List.drop_set_of_lt (by omega), ← List.drop_drop, ← List.drop_drop, hLd]⟩)
           have HKB := hide (show Kp w WB (fun k => k = g) from HKI.out.trans (hk3.mono fun k e => .inr (by omega)))
           have hwbs : wq.heap.size ≤ WB.heap.size := by
             have h1 := hk3.size
             have h2 := HAI.out
             omega
           clear hoi hAi hz hmr hLl hLd hLz hcz hcur hgi hit hil hsrcQ hu hue hgeo hzdat hzne hzlt hzlo he hk3 hob hmrb hput hz1 hz2 hzv hQi
           go_wp2_with fail
           refine HPT.out.mono ?_
           rintro e W2 ⟨rfl, A3, c3, ho3, hk3, hA3⟩
           have HO3 := hide ho3
           have HK3 := hide hk3
           have HA3 := hide hA3
           clear ho3 hk3 hA3
           go_wp2
           go_roundw
           case rel =>
             refine ⟨i + 1, by go_num, by omega, ⟨A3, c3, ?_, fun a e => ?_⟩, ⟨_, HMRB.out.kp HK3.out hgmg, HLD.out.1, HLD.out.2⟩, HKB.out.then HK3.out, Nat.le_trans hwbs HK3.out.size⟩
             · rw [HIT.out]
               exact HO3.out
             · have := HA3.out a e
               omega
           case measure => simp [intOf]; omega
         · have e1 : (z.1.toList == (bs y).toList) = false := txt_ne he
           have hzv : rvalN y (S.clock + 1) z = z := by
             unfold rvalN rvalM
             rw [if_neg he]
           rw [hzv] at hit
           have hput := put_rk g (SQ S Qi) Ai ci Qi z _ hoi hi10 (SQ S (putG z Qi)) (strip_put _ _) rfl rfl rfl hzdat hzne hzlt
           have HPT := hide (show Calls Tryz.prog 92 #[.pointer (some ⟨g, 0, none⟩), .agg #[.string z.1, .bool z.2.nd.dir, .slice z.2.A z.2.nd.data.length z.2.c, .int .i64 z.2.nd.time]] _ _ from hput)
           have HMRB := hide hmr
           have HIT := hide (hit.trans rfl)
           have HLD := hide (show L'.length = M.length ∧ L'.drop (i + 1) = M.drop (i + 1) from ⟨hLl, by rw [← List.drop_drop, ← List.drop_drop, hLd]⟩)
           have hwbs : wq.heap.size ≤ W.heap.size := HAI.out
           clear hoi hAi hz hmr hLl hLd hLz hcz hcur hgi hit hil hsrcQ hu hue hgeo hzdat hzne hzlt hzlo he hput hzv hQi
           go_wp2_with fail
           refine HPT.out.mono ?_
           rintro e W2 ⟨rfl, A3, c3, ho3, hk3, hA3⟩
           have HO3 := hide ho3
           have HK3 := hide hk3
           have HA3 := hide hA3
           clear ho3 hk3 hA3
           go_wp2
           go_roundw
           case rel =>
             refine ⟨i + 1, by go_num, by omega, ⟨A3, c3, ?_, fun a e => ?_⟩, ⟨_, HMRB.out.kp HK3.out hgmg, HLD.out.1, HLD.out.2⟩, HKI.out.then HK3.out, Nat.le_trans hwbs HK3.out.size⟩
             · rw [HIT.out]
               exact HO3.out
             · have := HA3.out a e
               omega
           case measure => simp [intOf]; omega
       · obtain rfl : i = M.length := by omega
         rw [List.take_of_length_le (Nat.le_refl _)] at hoi
         have hsrcQ := rfold_src (y := y) (t := S.clock + 1) M P2 (P := P) HSQ.out HSRC.out
         have HFIN := hide (show RK g (moveQ S x y) w A P W from by
           refine ⟨Ai, ci, _, ⟨hoi.heap, hoi.cap, hoi.rg, hoi.dat, ?_, hoi.top, hoi.neA, hoi.neD, hoi.lt⟩, HKI.out, fun a e _ => .inl (by have := hAi a e; have := HB.out.size; omega), fun v hv a e hn => ?_⟩
           · rw [HMQ.out, H.out.eq, ← rmove_strip, ← HP2.out, ← HMD.out]
           · obtain ⟨u, hu, q1, q2, _⟩ := hsrcQ v hv
             exact .inr ⟨u, hu, q1.trans e, by rw [q2]; exact hn⟩)
         clear hoi hAi hsrcQ
         go_wp2
         go_ret
         rw [HRE.out]
         exact ⟨rfl, HFIN.out⟩
end
section
open Go.RowKit Go.Deep Go.Maps Ln Pth Vf
attribute [local go_sem] bt_eq
theorem rmove4_k1 (g : Nat) (S : St) (A : Option Addr) (c : Nat) (P : List NV) (p q : T) (w : World) (h : RSO g S A c P w) (hS : WfS S) (t : HangS S) (hp : p.length ≤ 50000) (hq : q.length ≤ 50000) (hck : S.clock ≤ 1000000000) (hkq : kindM S.m (absF [47] q).1 = 1) :
   Calls Tryz.prog 62 #[.pointer (some ⟨g, 0, none⟩), .string (bs p), .string (bs q)] w fun e w' => e = .returned (.int .i64 (moveS S p q).2) ∧ RK g (moveS S p q).1 w A P w' := by
 have hl := row_len hS h.eq
 have hks := keys_short hS h.eq
 have H := hide h
 have HA1 := hide (rabs_any [47] p w (by simp) (by omega))
 have HA2 := hide (fun W => rabs_any [47] q W (by simp) (by omega))
 have HC1 := absF_cases [47] p
 have HC2 := absF_cases [47] q
 have HB1 := hide (fun h1 => moveS_bad1 (S := S) (p := p) (q := q) h1)
 have HB2 := hide (fun h1 h2 => moveS_bad2 (S := S) (p := p) (q := q) h1 h2)
 have HCH := hide (fun x y h1 h2 => moveS_chain (S := S) (p := p) (q := q) (x := x) (y := y) h1 h2)
 have HCS := hide (moveS_cases hS t p q)
 have HMD := hide (fun (a b : List T) ga gb nea hk => may_doc hS t h.eq (a := a) (b := b) ga gb nea hk)
 have HWY := hide (fun (l : List T) (gl : GoodP l) (W : World) (hb : Below w.heap.size w W) => rway_any g S A c P l W (h.below hb) (by omega) gl.ok (by have := gl.len; omega))
 have HKD := hide (fun (q : T) (W : World) (hb : Below w.heap.size w W) => rkind_any g S A c P q W (h.below hb) (by omega))
 have HNM := hide (fun (q : T) (W : World) (hb : Below w.heap.size w W) => rnames4_any g S A c P q W (h.below hb) hl hks)
 have HKS := hide hks
 have HL := hide hl
 unfold AbsPost at HA1 HA2
 rw [show bs [47] = (⟨#[47]⟩ : ByteArray) from rfl] at HA1 HA2
 obtain ⟨R, hR⟩ : ∃ R, moveS S p q = R := ⟨_, rfl⟩
 rw [hR] at HB1 HB2 HCH HCS ⊢
 obtain ⟨r1, hr1⟩ : ∃ r, absF [47] p = r := ⟨_, rfl⟩
 obtain ⟨x, e1⟩ := r1
 obtain ⟨r2, hr2⟩ : ∃ r, absF [47] q = r := ⟨_, rfl⟩
 obtain ⟨y, e2⟩ := r2
 rw [hr1] at HA1 HB1 HB2 HC1 HCH
 rw [hr2] at HA2 HB2 HC2 HCH hkq
 dsimp only at HA1 HA2 HB1 HB2 HC1 HC2
 clear hR h hks hl hp hq t
 go_enter Tryz.func62, Tryz.ntmps62
 go_wp2_with fail
 refine HA1.out.mono ?_
 rintro e w1 ⟨rfl, hb1⟩
 have HW1 := hide hb1
 clear hb1 HA1
 by_cases c1 : e1 = 0
 case neg =>
   obtain ⟨t1, t2⟩ := ne0 c1
   have HE := hide (HB1.out c1)
   clear c1 HC1 HC2
   go_wp2
   go_ret
   rw [HE.out]
   exact ⟨rfl, RK.stay H.out HW1.out⟩
 subst c1
 go_wp2_with fail
 refine (HA2.out w1).mono ?_
 rintro e w2 ⟨rfl, hb2⟩
 have HW2 := hide (below_up HW1.out hb2 HW1.out.size)
 clear hb2 HA2 HW1
 by_cases c2 : e2 = 0
 case neg =>
   obtain ⟨t1, t2⟩ := ne0 c2
   have HE := hide (HB2.out trivial c2)
   clear c2 HC1 HC2
   go_wp2
   go_ret
   rw [HE.out]
   exact ⟨rfl, RK.stay H.out HW2.out⟩
 subst c2
 obtain ⟨a, ga, ea⟩ : ∃ a, GoodP a ∧ x = joinF a := by
   rcases HC1 with ⟨a, ga, e, _⟩ | ⟨_, e⟩
   · exact ⟨a, ga, congrArg Prod.fst e⟩
   · omega
 obtain ⟨b, gb, eb⟩ : ∃ b, GoodP b ∧ y = joinF b := by
   rcases HC2 with ⟨b, gb, e, _⟩ | ⟨_, e⟩
   · exact ⟨b, gb, congrArg Prod.fst e⟩
   · omega
 have HR := hide (HCH.out x y rfl rfl)
 have HWX := hide (HWY.out a ga)
 have HWYY := hide (HWY.out b gb)
 rw [← ea] at HWX
 rw [← eb] at HWYY
 have hxl : x.length ≤ 200 := by rw [ea]; exact ga.len
 have hyl : y.length ≤ 200 := by rw [eb]; exact gb.len
 have HMY := hide (fun h1 h2 => HMD.out a b ga gb h1 h2)
 rw [← ea, ← eb] at HMY
 have HXR := hide (show a ≠ [] ↔ x ≠ [47] by rw [ea]; exact not_congr (joinF_root ga.ok).symm)
 have hxr := HXR.out
 have EA := hide ea
 have EB := hide eb
 clear HC1 HC2 HWY HMD HCH HB1 HB2 ea eb
 obtain ⟨wx, hwx⟩ : ∃ k, wayM S.m x = k := ⟨_, rfl⟩
 obtain ⟨wy, hwy⟩ : ∃ k, wayM S.m y = k := ⟨_, rfl⟩
 rw [hwx] at HWX HR
 rw [hwy] at HWYY HR
 by_cases c3 : wx = 0
 case neg =>
   obtain ⟨t1, t2⟩ := ne0 c3
   have HE := hide (HR.out.trans (if_pos c3))
   clear c3 hwx hwy
   go_wp2_with fail
   refine (HWX.out w2 HW2.out).mono ?_
   rintro e w3 ⟨rfl, hb3⟩
   have HW3 := hide (below_up HW2.out hb3 HW2.out.size)
   clear hb3
   go_wp2_with fail
   refine (HWX.out w3 HW3.out).mono ?_
   rintro e w4 ⟨rfl, hb4⟩
   have HW4 := hide (below_up HW3.out hb4 HW3.out.size)
   clear hb4
   go_wp2
   go_ret
   rw [HE.out]
   exact ⟨rfl, RK.stay H.out HW4.out⟩
 subst c3
 have HR1 := hide (HR.out.trans (if_neg (by simp)))
 clear HR hwx hwy
 go_wp2_with fail
 refine (HWX.out w2 HW2.out).mono ?_
 rintro e w3 ⟨rfl, hb3⟩
 have HW3 := hide (below_up HW2.out hb3 HW2.out.size)
 clear hb3 HW2
 have HKX := hide (HKD.out x w3 HW3.out)
 have hkx := kind_le S.m x
 have hky := kind_le S.m y
 obtain ⟨kx, hkxe⟩ : ∃ k, kindM S.m x = k := ⟨_, rfl⟩
 obtain ⟨ky, hkye⟩ : ∃ k, kindM S.m y = k := ⟨_, rfl⟩
 have HKY := hide (fun W hb => HKD.out y W hb)
 rw [hkxe] at HKX HR1 hkx HMY
 have hkq' : ky = 1 := hkye.symm.trans hkq
 rw [hkye] at HKY hky HMY
 clear HKD hkxe hkye hkq
 by_cases c4 : kx = 0
 · subst c4
   have HE := hide (HR1.out.trans (if_pos rfl))
   go_wp2_with fail
   refine HKX.out.mono ?_
   rintro e w' ⟨rfl, rfl⟩
   go_wp2
   go_ret
   rw [HE.out]
   exact ⟨rfl, RK.stay H.out HW3.out⟩
 have HR2 := hide (HR1.out.trans (if_neg c4))
 obtain ⟨tk1, tk2⟩ := ne0 c4
 go_wp2_with fail
 refine HKX.out.mono ?_
 rintro e w' ⟨rfl, rfl⟩
 clear HKX HR1
 by_cases c5 : x = [47]
 · have ht : ((bs x).toList == [47]) = true := by rw [bs_toList, c5]; rfl
   have HE := hide (HR2.out.trans (if_pos c5))
   clear c5 c4
   go_wp2
   go_ret
   rw [HE.out]
   exact ⟨rfl, RK.stay H.out HW3.out⟩
 have ht : ((bs x).toList == [47]) = false := by rw [bs_toList]; simpa using c5
 have HR3 := hide (HR2.out.trans (if_neg c5))
 have HM0 := hide (HMY.out (hxr.2 c5) c4)
 clear HR2 c5 HMY hxr
 by_cases c6 : wy = 0
 case neg =>
   obtain ⟨t1, t2⟩ := ne0 c6
   have HE := hide (HR3.out.trans (if_pos c6))
   clear c6 c4
   go_wp2_with fail
   refine (HWYY.out w3 HW3.out).mono ?_
   rintro e w4 ⟨rfl, hb4⟩
   have HW4 := hide (below_up HW3.out hb4 HW3.out.size)
   clear hb4
   go_wp2_with fail
   refine (HWYY.out w4 HW4.out).mono ?_
   rintro e w5 ⟨rfl, hb5⟩
   have HW5 := hide (below_up HW4.out hb5 HW4.out.size)
   clear hb5
   go_wp2
   go_ret
   rw [HE.out]
   exact ⟨rfl, RK.stay H.out HW5.out⟩
 subst c6
 have HR4 := hide (HR3.out.trans (if_neg (by simp)))
 clear HR3
 go_wp2_with fail
 refine (HWYY.out w3 HW3.out).mono ?_
 rintro e w4 ⟨rfl, hb4⟩
 have HW4 := hide (below_up HW3.out hb4 HW3.out.size)
 clear hb4 HW3
 by_cases c7 : x = y
 · have ht2 : ((bs x).toList == (bs y).toList) = true := by rw [c7]; simp
   have HE := hide (HR4.out.trans (if_pos c7))
   clear c7 c4
   go_wp2
   go_ret
   rw [HE.out]
   exact ⟨rfl, RK.stay H.out HW4.out⟩
 have ht2 : ((bs x).toList == (bs y).toList) = false := by rw [bs_toList, bs_toList]; simpa using c7
 have HR5 := hide (HR4.out.trans (if_neg c7))
 clear HR4 c7
 obtain ⟨my, hmy⟩ : ∃ k, mayS S.m x y = k := ⟨_, rfl⟩
 rw [hmy] at HM0 HR5
 have HER := hide (fun (h : my ≠ 0) => HR5.out.trans (if_pos h))
 by_cases c8 : y = [47]
 · have ht3 : ((bs y).toList == [47]) = true := by rw [bs_toList, c8]; rfl
   have hmy1 := HM0.out.trans (if_pos c8)
   have HE := hide (HER.out (by omega))
   rw [hmy1] at HE
   clear c8 c4 hmy hmy1
   go_wp2
   go_ret
   rw [HE.out]
   exact ⟨rfl, RK.stay H.out HW4.out⟩
 have ht3 : ((bs y).toList == [47]) = false := by rw [bs_toList]; simpa using c8
 have HM1 := hide (HM0.out.trans (if_neg c8))
 have HWI := hide (rwithin_any x y w4 (by omega) (by omega))
 obtain ⟨wi, hwi⟩ : ∃ b, withinF x y = b := ⟨_, rfl⟩
 rw [hwi] at HWI HM1
 clear HM0 c8 hwi
 cases wi with
 | true =>
   have hmy1 := HM1.out.trans (if_pos rfl)
   have HE := hide (HER.out (by omega))
   rw [hmy1] at HE
   clear c4 hmy hmy1
   go_wp2_with fail
   refine HWI.out.mono ?_
   rintro e w5 ⟨rfl, hb5⟩
   have HW5 := hide (below_up HW4.out hb5 HW4.out.size)
   clear hb5
   go_wp2
   go_ret
   rw [HE.out]
   exact ⟨rfl, RK.stay H.out HW5.out⟩
 | false =>
 have HM2 := hide (HM1.out.trans (if_neg (by simp)))
 clear HM1
 go_wp2_with fail
 refine HWI.out.mono ?_
 rintro e w5 ⟨rfl, hb5⟩
 have HW5 := hide (below_up HW4.out hb5 HW4.out.size)
 clear hb5 HWI HW4
 go_wp2_with fail
 refine (HKY.out w5 HW5.out).mono ?_
 rintro e w' ⟨rfl, rfl⟩
 have c9 : ¬ (ky = 2 ∧ kx = 1) := by omega
 have HM3 := hide (HM2.out.trans (if_neg c9))
 clear HM2
 by_cases c10 : ky = 1 ∧ kx = 2
 · obtain ⟨rfl, rfl⟩ := c10
   have hmy1 := HM3.out.trans (if_pos ⟨rfl, rfl⟩)
   have HE := hide (HER.out (by omega))
   rw [hmy1] at HE
   clear c4 hmy hmy1 c9
   go_wp2
   go_ret
   rw [HE.out]
   exact ⟨rfl, RK.stay H.out HW5.out⟩
 have HM4 := hide (HM3.out.trans (if_neg c10))
 clear HM3
 subst hkq'
 obtain rfl : kx = 1 := by omega
 have HPX := hide (fun (z : NV) (hz : z ∈ P) (t : T) (hzt : z.1 = bs t) (h : withinF x t = true) => show x.length ≤ t.length from by
   obtain ⟨l, gl, _, e⟩ := hS.good (z.1, z.2.nd) (by rw [H.out.eq]; exact List.mem_map.2 ⟨z, hz, rfl⟩)
   have e2 : t = joinF l := bs_inj (hzt.symm.trans e)
   rw [EA.out, e2] at h ⊢
   obtain ⟨r, rfl⟩ := (within_join ga.ok gl.ok).1 h
   by_cases h0 : a = []
   · subst h0
     have := List.length_pos_iff.2 (joinF_ne ([] ++ r))
     rw [joinF_nil]
     exact this
   · rw [slashed_join h0, slashed_join (by simp [h0]), slashed_app, List.length_append]
     omega)
 clear c9 c10 c4 hmy
 have HM5 := hide (HM4.out.trans (if_neg (by omega)))
 clear HM4
 have HW6 := hide HW5.out
 obtain ⟨w6, hw6⟩ : ∃ W, W = w5 := ⟨_, rfl⟩
 rw [← hw6] at HW6 ⊢
 clear hw6
 obtain ⟨n, hn⟩ : ∃ n, P.length = n := ⟨_, rfl⟩
 have HN := hide hn
 have hln : n ≤ 10000 := by have := HL.out; omega
 have hgl : g < w.heap.size := (Array.getElem?_eq_some_iff.1 H.out.heap).1
 clear hn HWX HWYY HKY HW5
 go_wp2
 go_loopw [13, 14, 15] (fun v13 v14 _ wr => ∃ (k m : Nat) (A' : Option Addr) (c' : Nat), v14 = .int .i64 k ∧ k ≤ n ∧ v13 = .slice A' m c' ∧ m ≤ k ∧ Hid (OwnG encE 4 135 wr w.heap.size (.slice A' m c') (rmvN x y (P.take k))) ∧ Hid (∀ z ∈ P.take k, inF x z = true → ¬ badT x y z.1.data.toList) ∧ Hid (Below w.heap.size w wr)) (fun _ v14 _ _ => n - (intOf v14).toNat)
 case atStart => exact ⟨0, 0, none, 0, rfl, by omega, rfl, by omega, OwnG.nil _ _, (fun z hz => by simp at hz), HW6.out⟩
 case round =>
   obtain ⟨k, m, A', c', rfl, hk, rfl, hmk, HO, HBD, HB⟩ := hrel
   have ho := H.out.below HB.out
   have hg := ho.heap
   rw [HN.out] at hg
   have hc2 := cellOf hg (j := 2) (v := .slice A n c) rfl
   by_cases hlt : k < n
   · obtain ⟨z, hz⟩ : ∃ x, P[k]? = some x := ⟨P[k]'(by have := HN.out; omega), gE _⟩
     obtain ⟨gs, o, rfl, hgs, hc⟩ := ho.rg k z hz
     obtain ⟨t, hzt, htl⟩ := HKS.out z (List.mem_of_getElem? hz)
     have hc0 : wr.cell? ⟨gs, o + k * 4, none⟩ = some (.string z.1) := by have := hc 0 _ rfl; simpa using this
     rw [hzt] at hc0
     have hc1 : wr.cell? ⟨gs, o + k * 4 + 1, none⟩ = some (.bool z.2.nd.dir) := hc 1 _ rfl
     have hc22 : wr.cell? ⟨gs, o + k * 4 + 2, none⟩ = some (.slice z.2.A z.2.nd.data.length z.2.c) := hc 2 _ rfl
     have hc3 : wr.cell? ⟨gs, o + k * 4 + 3, none⟩ = some (.int .i64 z.2.nd.time) := hc 3 _ rfl
     have hrt := rmv_take (x := x) (y := y) hz
     have hix : inF x z = withinF x t := by unfold inF; rw [hzt, bs_list]
     rw [hix] at hrt
     have HMV := hide (show mvN x y z = (bs (tgt x y t), z.2) by unfold mvN; rw [hzt, bs_list])
     have HIX := hide hix
     have HZT := hide hzt
     have HZ := hide hz
     have b1 : (k : Int) < (n : Int) := by omega
     have hrl : (rmvN x y (P.take k)).length ≤ 100000 := by
       unfold rmvN
       rw [List.length_map]
       refine Nat.le_trans (List.length_filter_le _ _) ?_
       rw [List.length_take]
       omega
     have HRL := hide hrl
     obtain ⟨D, hD⟩ : ∃ m, z.2.nd.data.length = m := ⟨_, rfl⟩
     rw [hD] at hc22
     have HD := hide hD
     clear ho hg hc hz hgs hix hzt hrl hD
     go_wp2_with fail
     obtain ⟨wa, hwa⟩ : ∃ W, wr.alloc (.cells #[.string (bs t), .bool z.2.nd.dir, .slice z.2.A D z.2.c, .int .i64 z.2.nd.time] 135) = W := ⟨_, rfl⟩
     have hnw := heapNew wr (.cells #[.string (bs t), .bool z.2.nd.dir, .slice z.2.A D z.2.c, .int .i64 z.2.nd.time] 135)
     have hba : Below w.heap.size wr (wr.alloc (.cells #[.string (bs t), .bool z.2.nd.dir, .slice z.2.A D z.2.c, .int .i64 z.2.nd.time] 135)) := (Below.refl _ wr).alloc HB.out.size _
     have hba2 : Below wr.heap.size wr (wr.alloc (.cells #[.string (bs t), .bool z.2.nd.dir, .slice z.2.A D z.2.c, .int .i64 z.2.nd.time] 135)) := (Below.refl _ wr).alloc (Nat.le_refl _) _
     have hoa := OwnG.keptB HO.out hba2
     rw [hwa] at hnw hba hba2 hoa ⊢
     obtain ⟨nb, hnb⟩ : ∃ b, wr.heap.size = b := ⟨_, rfl⟩
     have HNBE := hide hnb
     have hnbw : w.heap.size ≤ nb := by have := HB.out.size; omega
     rw [hnb] at hnw hba2 ⊢
     have HNW := hide hnw
     have HBA := hide (HB.out.trans hba)
     have HOA := hide hoa
     have hx0 := cellOf hnw (j := 0) (v := .string (bs t)) rfl
     have hnl : nb < wa.heap.size := (Array.getElem?_eq_some_iff.1 hnw).1
     have HWI := hide (rwithin_any x t wa (by omega) (by omega))
     clear hwa hnw hba hba2 hoa hnb hc0 hc1 hc22 hc3
     cases hw : withinF x t with
     | false =>
       rw [hw] at HWI hrt HIX
       have HRT := hide hrt
       clear hrt hw
       go_wp2_with fail
       refine HWI.out.mono ?_
       rintro e w7 ⟨rfl, hb7⟩
       have HB7 := hide (below_up HBA.out hb7 HBA.out.size)
       have HO7 := hide (OwnG.keptB HOA.out hb7)
       clear hb7
       go_wp2
       go_roundw
       case rel =>
         refine ⟨k + 1, m, A', c', by go_num, by omega, rfl, by omega, ?_, ?_, HB7.out⟩
         · show OwnG _ _ _ _ _ _ _
           rw [HRT.out]
           simp only [Bool.false_eq_true, if_false, List.append_nil]
           exact HO7.out
         · show ∀ z ∈ P.take (k + 1), _
           intro u hu hin
           rw [List.take_add_one, HZ.out] at hu
           rcases List.mem_append.1 hu with hu | hu
           · exact HBD.out u hu hin
           · simp at hu
             rw [hu, HIX.out] at hin
             cases hin
       case measure => simp [intOf]; omega
     | true =>
       rw [hw] at HWI hrt HIX
       have HRT := hide hrt
       have hxt : x.length ≤ t.length := by
         exact HPX.out z (List.mem_of_getElem? HZ.out) t HZT.out hw
       have zt : (bs t).size = t.length := bs_size t
       have zx : (bs x).size = x.length := bs_size x
       have zy : (bs y).size = y.length := bs_size y
       have HEX := hide (show (bs t).extract x.length (bs t).size = bs (t.drop x.length) by rw [ext_bs, bs_size, List.take_of_length_le (by rw [List.length_drop]; omega)])
       have HAP := hide (show bs y ++ bs (t.drop x.length) = bs (tgt x y t) from bs_app y (t.drop x.length))
       have zd : (bs (t.drop x.length)).size = t.length - x.length := by rw [bs_size, List.length_drop]
       have htgl : (tgt x y t).length = y.length + (t.length - x.length) := by unfold tgt; rw [List.length_append, List.length_drop]
       have ztg : (bs (tgt x y t)).size = y.length + (t.length - x.length) := by rw [bs_size, htgl]
       obtain ⟨xl, hxl'⟩ : ∃ n, x.length = n := ⟨_, rfl⟩
       obtain ⟨tl, htl'⟩ : ∃ n, t.length = n := ⟨_, rfl⟩
       obtain ⟨yl, hyl'⟩ : ∃ n, y.length = n := ⟨_, rfl⟩
       have HTG := hide htgl
       rw [hxl'] at zd hxt zx HEX ztg hxl HTG HAP
       rw [htl'] at zd hxt htl zt ztg HTG
       rw [hyl'] at zy hyl ztg HTG
       rw [zt] at HEX
       have HX2 := hide hxl'
       rw [← HEX.out] at zd HAP
       clear hrt hw htgl hxl' htl' hyl'
       go_wp2_with fail
       refine HWI.out.mono ?_
       rintro e w7 ⟨rfl, hb7⟩
       have hnw7 := (hb7.block nb hnl).trans HNW.out
       have HB7 := hide (below_up HBA.out hb7 HBA.out.size)
       have HO7 := hide (OwnG.keptB HOA.out hb7)
       have hx7 := cellOf hnw7 (j := 0) (v := .string (bs t)) rfl
       have hf7 := freeOf hnw7 0
       have hnl7 : nb < w7.heap.size := (Array.getElem?_eq_some_iff.1 hnw7).1
       have HNW8 := hide (heapSet (j := 0) hnw7 (.string (bs (tgt x y t))))
       obtain ⟨w8, hw8⟩ : ∃ W, w7.setCell ⟨nb, 0, none⟩ (.string (bs (tgt x y t))) = W := ⟨_, rfl⟩
       have hb8 : Below w.heap.size w w8 := hw8 ▸ HB7.out.setCell (p := ⟨nb, 0, none⟩) hnbw _
       rw [hw8] at HNW8
       have HB8 := hide hb8
       have HK8 := hide (show Kp w7 w8 (fun k => k = nb) from hw8 ▸ Kp.set w7 nb 0 _)
       have hy0 := cellOf HNW8.out (j := 0) (v := .string (bs (tgt x y t))) rfl
       clear hb7 hnw7 hb8
       have hap := HAP.out
       by_cases b200 : 200 < yl + (tl - xl)
       · have bi : (200 : Int) < ((yl + (tl - xl) : Nat) : Int) := by omega
         have hmy1 := HM5.out.trans (if_pos ⟨z, List.mem_of_getElem? HZ.out, HIX.out, by
           rw [HZT.out, bs_list]
           unfold badT
           rw [HTG.out]
           exact .inl b200⟩)
         have HE := hide (HER.out (by omega))
         rw [hmy1] at HE
         clear hmy1
         go_wp2
         go_ret
         rw [HE.out]
         exact ⟨rfl, RK.stay H.out HB8.out⟩
       have bi : ¬ (200 : Int) < ((yl + (tl - xl) : Nat) : Int) := by omega
       have HPA := hide (rparts_any [47] (tgt x y t) w8 (by simp) (by rw [HTG.out]; omega))
       rw [show bs [47] = (⟨#[47]⟩ : ByteArray) from rfl] at HPA
       obtain ⟨pl, hpl⟩ : ∃ n, (partsF [47] (tgt x y t)).length = n := ⟨_, rfl⟩
       have HPL := hide hpl
       have hpl3 : pl ≤ 100000 := by
         have := partsF_len [47] (tgt x y t)
         rw [hpl, HTG.out] at this
         simp at this
         omega
       clear hpl
       by_cases b20 : 20 < pl
       · have hmy1 := HM5.out.trans (if_pos ⟨z, List.mem_of_getElem? HZ.out, HIX.out, by
           rw [HZT.out, bs_list]
           unfold badT
           rw [HPL.out]
           exact .inr b20⟩)
         have HE := hide (HER.out (by omega))
         rw [hmy1] at HE
         have bpi : (20 : Int) < (pl : Int) := by omega
         clear hmy1
         go_wp2_with fail
         refine HPA.out.mono ?_
         rintro e w9 ⟨⟨v, rfl, ho9⟩, hb9⟩
         obtain ⟨A9, c9, rfl, hc9, _, _⟩ := OwnS.slice ho9
         have HB9 := hide (below_up HB8.out hb9 HB8.out.size)
         clear ho9 hb9
         rw [List.length_map, HPL.out]
         go_wp2
         go_ret
         rw [HE.out]
         exact ⟨rfl, RK.stay H.out HB9.out⟩
       have bpi : ¬ (20 : Int) < (pl : Int) := by omega
       have HNB := hide (show ¬ badT x y z.1.data.toList by
         rw [HZT.out, bs_list]
         unfold badT
         rw [HPL.out, HTG.out]
         omega)
       have HO8 := hide (show OwnG encE 4 135 w8 w.heap.size (.slice A' m c') (rmvN x y (P.take k)) from by
         refine ⟨HO7.out.1, ?_⟩
         rcases HO7.out.2 with h2 | ⟨g2, cap, cur, e2, hg2, hh2, r2⟩
         · exact .inl h2
         · refine .inr ⟨g2, cap, cur, e2, hg2, (HK8.out.block g2 (Array.getElem?_eq_some_iff.1 hh2).1 ?_).trans hh2, r2⟩
           have h3 := (HO.out.lt g2 (by rw [e2]; rfl)).2
           have := HNBE.out
           omega)
       go_wp2_with fail
       refine HPA.out.mono ?_
       rintro e w9 ⟨⟨v, rfl, ho9⟩, hb9⟩
       obtain ⟨A9, c9, rfl, hc9, _, _⟩ := OwnS.slice ho9
       rw [List.length_map, HPL.out]
       have hnw9 := (hb9.block nb (Array.getElem?_eq_some_iff.1 HNW8.out).1).trans HNW8.out
       have hr0 := cellOf hnw9 (j := 0) (v := .string (bs (tgt x y t))) rfl
       have hr1 := cellOf hnw9 (j := 1) (v := .bool z.2.nd.dir) rfl
       have hr2 := cellOf hnw9 (j := 2) (v := .slice z.2.A D z.2.c) rfl
       have hr3 := cellOf hnw9 (j := 3) (v := .int .i64 z.2.nd.time) rfl
       have hb9w := below_up HB8.out hb9 HB8.out.size
       have ho9' := OwnG.keptB HO8.out hb9
       obtain ⟨v', w', r', o', hb10⟩ := push_node ho9' hb9w.size HRL.out (mvN x y z) #[.string (bs (tgt x y t)), .bool z.2.nd.dir, .slice z.2.A D z.2.c, .int .i64 z.2.nd.time] (by rw [HMV.out]; unfold encE; rw [← HD.out])
       obtain ⟨A2, c2, rfl, hcl, _, _, _⟩ := o'.slice encE_len
       have HO2 := hide o'
       have HB2 := hide (hb9w.trans hb10)
       have HRUN := hide r'
       have hll : (rmvN x y (P.take k) ++ [mvN x y z]).length ≤ k + 1 := by
         rw [List.length_append, List.length_singleton]
         have h1 : (rmvN x y (P.take k)).length ≤ (P.take k).length := by
           unfold rmvN
           rw [List.length_map]
           exact List.length_filter_le _ _
         rw [List.length_take] at h1
         omega
       obtain ⟨M, hM⟩ : ∃ m, (rmvN x y (P.take k) ++ [mvN x y z]).length = m := ⟨_, rfl⟩
       rw [hM] at HO2 HRUN hll
       clear ho9 hb9 hnw9 hb9w ho9' r' o' hb10 hcl hM hx0 hx7 hy0
       go_wp2_with (first | (at_builtin; refine wpList_app_run ?_ (.tmp 135) (.tmp 137) ?_ ?_ ?_ ?_ HRUN.out ?_; exact rfl; exact rfl; exact rfl; exact rfl; exact rfl))
       go_roundw
       case rel =>
         refine ⟨k + 1, M, A2, c2, by go_num, by omega, rfl, by omega, ?_, ?_, HB2.out⟩
         · show OwnG _ _ _ _ _ _ _
           rw [HRT.out]
           exact HO2.out
         · show ∀ z ∈ P.take (k + 1), _
           intro u hu hin
           rw [List.take_add_one, HZ.out] at hu
           rcases List.mem_append.1 hu with hu | hu
           · exact HBD.out u hu hin
           · simp at hu
             rw [hu]
             exact HNB.out
       case measure => simp [intOf]; omega
   · obtain ⟨wq, hwq⟩ : ∃ X, X = wr := ⟨_, rfl⟩
     subst hwq
     obtain rfl : n = k := by omega
     have htk : P.take n = P := List.take_of_length_le (by have := HN.out; omega)
     rw [htk] at HO HBD
     have hmy0 : my = 0 := HM5.out.trans (if_neg (by
       rintro ⟨z, hz, h1, h2⟩
       exact HBD.out z hz h1 h2))
     have hRE := HR5.out.trans (if_neg (by rw [hmy0]; simp))
     have hMv : (moveQ S x y).m = rmoveM S.m x y (S.clock + 1) ∧ ∃ nd, getG S.m (bs x) = some nd := by
       rcases HCS.out with h1 | ⟨a', b', hmv, _, h2, h3⟩
       · exfalso
         rw [hRE] at h1
         have := congrArg St.clock h1
         change S.clock + 1 = S.clock at this
         omega
       · have e1 := absS_fst hr1 h2 (joinF_ne _)
         have e2 := absS_fst hr2 h3 (joinF_ne _)
         rw [← e1, ← e2]
         exact ⟨hmv.rsame, hmv.node⟩
     obtain ⟨hMQ, nd, hnd⟩ := hMv
     have hM0 : rmvN x y P ≠ [] := by
       rw [H.out.eq] at hnd
       have := getG_mem hnd
       unfold stripN at this
       obtain ⟨u, hu, e⟩ := List.mem_map.1 this
       have hu1 : u.1 = bs x := congrArg Prod.fst e
       have hin : inF x u = true := by
         unfold inF
         rw [hu1, bs_list, EA.out]
         exact (within_join ga.ok ga.ok).2 List.prefix_rfl
       intro h0
       have : mvN x y u ∈ rmvN x y P := List.mem_map.2 ⟨u, List.mem_filter.2 ⟨hu, hin⟩, rfl⟩
       rw [h0] at this
       cases this
     obtain ⟨gm, rfl, hml, hmc, hgmw, hmr⟩ := MRow.of HO.out hM0
     have hpl := parts_len (x := x) (y := y) (P := P)
     have hPl := HL.out
     have HD1 := hide (rdrop_any g S A c P x wq (H.out.below HB.out) HL.out HKS.out (by omega))
     have HMR := hide hmr
     have hgmg : gm ≠ g := by have := hmr.ge; omega
     have HRE := hide hRE
     have HMQ := hide hMQ
     have HSRC := hide (fun z (h : z ∈ rmvN x y P) => rmv_src h)
     obtain ⟨M, hM⟩ : ∃ M, rmvN x y P = M := ⟨_, rfl⟩
     have HMD := hide hM
     rw [hM] at hml hmc hpl HMR HSRC
     clear htk hmy0 hRE hMQ hnd hM0 hmr hM ho hg HO HBD
     subst hml
     have hmI : (M.length : Int) ≤ 10000 := by omega
     go_wp2_with fail
     refine HD1.out.mono ?_
     rintro e w8 ⟨rfl, A1, c1, ho1, hk1, hA1⟩
     have HD2 := hide (rdrop_any g _ A1 c1 _ y w8 ho1 (Nat.le_trans (List.length_filter_le _ _) HL.out) (fun z hz => HKS.out z (List.mem_filter.1 hz).1) (by omega))
     have HK1 := hide hk1
     clear ho1 hk1 HD1
     go_wp2_with fail
     refine HD2.out.mono ?_
     rintro e w9 ⟨rfl, A2, c2, ho2, hk2, hA2⟩
     have hg9 := ho2.heap
     have hc3 := cellOf hg9 (j := 3) (v := .int .i64 S.clock) rfl
     have hf3 := freeOf hg9 3
     have ht := ho2.tick (S.clock + 1)
     rw [show ((S.clock + 1 : Nat) : Int) = (S.clock : Int) + 1 from rfl] at ht
     have hkt := Kp.set w9 g 3 (.int .i64 ((S.clock : Int) + 1))
     obtain ⟨W0, hW0⟩ : ∃ W, w9.setCell ⟨g, 3, none⟩ (.int .i64 ((S.clock : Int) + 1)) = W := ⟨_, rfl⟩
     rw [hW0] at ht hkt
     have hkw : Kp wq W0 (fun k => k = g) := (HK1.out.then hk2).then hkt
     have HM0 := hide (HMR.out.kp hkw hgmg)
     have HWS := hide hkw.size
     have HKW := hide (show Kp w W0 (fun k => k = g) from (Kp.of_below HB.out _).then hkw)
     obtain ⟨P2, hP2⟩ : ∃ Q, (P.filter (outF x)).filter (outF y) = Q := ⟨_, rfl⟩
     have HP2 := hide hP2
     change RSO g _ A2 c2 ((P.filter (outF x)).filter (outF y)) W0 at ht
     rw [hP2] at ht hpl
     have HQ0 := hide (show RSO g (SQ S P2) A2 c2 P2 W0 from ⟨ht.heap, ht.cap, ht.rg, ht.dat, rfl, ht.top, ht.neA, ht.neD, ht.lt⟩)
     have HA0 := hide (show ∀ a, A2 = some a → wq.heap.size ≤ a.block from fun a e => by have := hA2 a e; have := HK1.out.size; omega)
     have HSQ := hide (show ∀ z ∈ P2, ∃ u ∈ P, u.2.A = z.2.A ∧ u.2.nd.data = z.2.nd.data ∧ u.2.c = z.2.c from fun z hz => by
       rw [← hP2] at hz
       exact ⟨z, (List.mem_filter.1 (List.mem_filter.1 hz).1).1, rfl, rfl, rfl⟩)
     clear ho2 hk2 hg9 ht hkt hkw hP2 hA2 hA1 HD2 HMR
     go_wp2
     go_loopw [16] (fun v16 wr => ∃ i : Nat, v16 = .int .i64 i ∧ i ≤ M.length ∧ Hid (∃ Ai ci, RSO g (SQ S (rfoldN y (S.clock + 1) (M.take i) P2)) Ai ci (rfoldN y (S.clock + 1) (M.take i) P2) wr ∧ ∀ a, Ai = some a → wq.heap.size ≤ a.block) ∧ Hid (∃ L', MRow wr w.heap.size gm L' ∧ L'.length = M.length ∧ L'.drop i = M.drop i) ∧ Hid (Kp w wr (fun k => k = g)) ∧ Hid (wq.heap.size ≤ wr.heap.size)) (fun v16 _ => M.length - (intOf v16).toNat)
     case atStart => exact ⟨0, rfl, Nat.zero_le _, ⟨A2, c2, HQ0.out, HA0.out⟩, ⟨M, HM0.out, rfl, rfl⟩, HKW.out, HWS.out⟩
     case round =>
       obtain ⟨W, hWr⟩ : ∃ X, X = wr := ⟨_, rfl⟩
       subst hWr
       obtain ⟨i, rfl, hi, HQI, HMI, HKI, HAI⟩ := hrel
       obtain ⟨Ai, ci, hoi, hAi⟩ := HQI.out
       by_cases hlt2 : i < M.length
       · obtain ⟨z, hz⟩ : ∃ z, M[i]? = some z := ⟨M[i], gE _⟩
         obtain ⟨L', hmr, hLl, hLd⟩ := HMI.out
         have hLz : L'[i]? = some z := by
           have h1 : (L'.drop i)[0]? = (M.drop i)[0]? := by rw [hLd]
           rw [List.getElem?_drop, List.getElem?_drop, Nat.add_zero, hz] at h1
           exact h1
         obtain ⟨ge, oe, ee, hgel, hcz⟩ := hmr.rg i z hLz
         injection ee with ee
         injection ee with ee1 ee2
         subst ee1 ee2
         rw [Nat.zero_add] at hcz
         have hz0 : W.cell? ⟨gm, i * 4, none⟩ = some (.string z.1) := by have := hcz 0 _ rfl; simpa using this
         have hz1 : W.cell? ⟨gm, i * 4 + 1, none⟩ = some (.bool z.2.nd.dir) := hcz 1 _ rfl
         have hz2 : W.cell? ⟨gm, i * 4 + 2, none⟩ = some (.slice z.2.A z.2.nd.data.length z.2.c) := hcz 2 _ rfl
         have hz3 : W.cell? ⟨gm, i * 4 + 3, none⟩ = some (.int .i64 z.2.nd.time) := hcz 3 _ rfl
         obtain ⟨cur, hcur⟩ := hmr.blk
         have hzf := freeOf hcur (i * 4 + 3)
         have hgi := hoi.heap
         have hgc3 := cellOf hgi (j := 3) (v := .int .i64 ((S.clock : Int) + 1)) rfl
         have hit := rfold_take (y := y) (t := S.clock + 1) (Q := P2) hz
         have hil := rfold_len y (S.clock + 1) (M.take i) P2
         rw [List.length_take] at hil
         have hi10 : (rfoldN y (S.clock + 1) (M.take i) P2).length ≤ 10000 := by omega
         have hsrcQ := rfold_src (y := y) (t := S.clock + 1) (M.take i) P2 (P := P) HSQ.out (fun z hz => HSRC.out z (List.mem_of_mem_take hz))
         obtain ⟨u, hu, hue⟩ := HSRC.out z (List.mem_of_getElem? hz)
         have bi2 : (i : Int) < (M.length : Int) := by omega
         have hgeo := hmr.ge
         obtain ⟨Qi, hQi⟩ : ∃ Q, rfoldN y (S.clock + 1) (M.take i) P2 = Q := ⟨_, rfl⟩
         rw [hQi] at hoi hit hi10 hsrcQ
         have hicc : (M.length : Int) ≤ (c' : Int) := by omega
         have hzdat : RG encB 1 W z.2.A z.2.nd.data := by
           rw [← hue]
           exact (H.out.dat u hu).kp HKI.out (H.out.neD u hu)
         have hzne : ∀ a, z.2.A = some a → z.2.nd.data ≠ [] → a.block ≠ g := by rw [← hue]; exact H.out.neD u hu
         have hzlt : z.2.nd.data.length ≤ z.2.c := by rw [← hue]; exact H.out.lt u hu
         have hzlo : ∀ a, z.2.A = some a → z.2.nd.data ≠ [] → a.block < w.heap.size := by
           rw [← hue]
           exact fun a e hn => (H.out.dat u hu).block_lt e hn
         by_cases he : z.1 = bs y
         · have e1 : (z.1.toList == (bs y).toList) = true := by rw [he]; simp
           have hk3 : Kp W (W.setCell ⟨gm, i * 4 + 3, none⟩ (.int .i64 ((S.clock : Int) + 1))) (fun k => k = gm) := Kp.set W gm _ _
           have hob := hoi.keep hk3 (fun e => hgmg e.symm) (fun a e _ => by have := hAi a e; omega) (fun v hv a e hn => by
             obtain ⟨u', hu', q1, q2, _⟩ := hsrcQ v hv
             have := (H.out.dat u' hu').block_lt (q1.trans e) (by rw [q2]; exact hn)
             omega)
           have hmrb := hmr.setT hLz (S.clock + 1)
           rw [show ((S.clock + 1 : Nat) : Int) = (S.clock : Int) + 1 from rfl] at hmrb
           have hzv : rvalN y (S.clock + 1) z = (z.1, ⟨z.2.A, z.2.c, ⟨z.2.nd.dir, z.2.nd.data, S.clock + 1⟩⟩) := by
             unfold rvalN rvalM
             rw [if_pos he]
           rw [hzv] at hit
           have hput := put_rk g (SQ S Qi) Ai ci Qi (z.1, ⟨z.2.A, z.2.c, ⟨z.2.nd.dir, z.2.nd.data, S.clock + 1⟩⟩) _ hob hi10 (SQ S (putG (z.1, ⟨z.2.A, z.2.c, ⟨z.2.nd.dir, z.2.nd.data, S.clock + 1⟩⟩) Qi)) (strip_put _ _) rfl rfl rfl (hzdat.ofB hk3.size (fun a e hn => hk3.block a.block (hzdat.block_lt e hn) (by have := hzlo a e hn; omega))) hzne hzlt
           have HPT := hide (show Calls Tryz.prog 92 #[.pointer (some ⟨g, 0, none⟩), .agg #[.string z.1, .bool z.2.nd.dir, .slice z.2.A z.2.nd.data.length z.2.c, .int .i64 ((S.clock : Int) + 1)]] _ _ from hput)
           have hs3 := World.cell?_setCell_same' W ⟨gm, i * 4 + 3, none⟩ (.int .i64 ((S.clock : Int) + 1)) (by rw [hz3]; rfl)
           have hs0 : (W.setCell ⟨gm, i * 4 + 3, none⟩ (.int .i64 ((S.clock : Int) + 1))).cell? ⟨gm, i * 4, none⟩ = some (.string z.1) := (World.cell?_setCell_other W _ _ _ (by intro e; injection e; omega)).trans hz0
           have hs1 : (W.setCell ⟨gm, i * 4 + 3, none⟩ (.int .i64 ((S.clock : Int) + 1))).cell? ⟨gm, i * 4 + 1, none⟩ = some (.bool z.2.nd.dir) := (World.cell?_setCell_other W _ _ _ (by intro e; injection e; omega)).trans hz1
           have hs2 : (W.setCell ⟨gm, i * 4 + 3, none⟩ (.int .i64 ((S.clock : Int) + 1))).cell? ⟨gm, i * 4 + 2, none⟩ = some (.slice z.2.A z.2.nd.data.length z.2.c) := (World.cell?_setCell_other W _ _ _ (by intro e; injection e; omega)).trans hz2
           obtain ⟨WB, hWB⟩ : ∃ X, W.setCell ⟨gm, i * 4 + 3, none⟩ (.int .i64 ((S.clock : Int) + 1)) = X := ⟨_, rfl⟩
           rw [hWB] at hk3 hmrb HPT hs0 hs1 hs2 hs3
           have HMRB := hide hmrb
           have HIT := hide (hit.trans rfl)
           have HLD := hide (show (L'.set i (z.1, ⟨z.2.A, z.2.c, ⟨z.2.nd.dir, z.2.nd.data, S.clock + 1⟩⟩)).length = M.length ∧ (L'.set i (z.1, ⟨z.2.A, z.2.c, ⟨z.2.nd.dir, z.2.nd.data, S.clock + 1⟩⟩)).drop (i + 1) = M.drop (i + 1) from ⟨by rw [List.length_set, hLl], by
             rw [List.drop_set_of_lt (by omega), ← List.drop_drop, ← List.drop_drop, hLd]⟩)
           have HKB := hide (show Kp w WB (fun k => k = g) from HKI.out.trans (hk3.mono fun k e => .inr (by omega)))
           have hwbs : wq.heap.size ≤ WB.heap.size := by
             have h1 := hk3.size
             have h2 := HAI.out
             omega
           clear hoi hAi hz hmr hLl hLd hLz hcz hcur hgi hit hil hsrcQ hu hue hgeo hzdat hzne hzlt hzlo he hk3 hob hmrb hput hz1 hz2 hzv hQi
           go_wp2_with fail
           refine HPT.out.mono ?_
           rintro e W2 ⟨rfl, A3, c3, ho3, hk3, hA3⟩
           have HO3 := hide ho3
           have HK3 := hide hk3
           have HA3 := hide hA3
           clear ho3 hk3 hA3
           go_wp2
           go_roundw
           case rel =>
             refine ⟨i + 1, by go_num, by omega, ⟨A3, c3, ?_, fun a e => ?_⟩, ⟨_, HMRB.out.kp HK3.out hgmg, HLD.out.1, HLD.out.2⟩, HKB.out.then HK3.out, Nat.le_trans hwbs HK3.out.size⟩
             · rw [HIT.out]
               exact HO3.out
             · have := HA3.out a e
               omega
           case measure => simp [intOf]; omega
         · have e1 : (z.1.toList == (bs y).toList) = false := txt_ne he
           have hzv : rvalN y (S.clock + 1) z = z := by
             unfold rvalN rvalM
             rw [if_neg he]
           rw [hzv] at hit
           have hput := put_rk g (SQ S Qi) Ai ci Qi z _ hoi hi10 (SQ S (putG z Qi)) (strip_put _ _) rfl rfl rfl hzdat hzne hzlt
           have HPT := hide (show Calls Tryz.prog 92 #[.pointer (some ⟨g, 0, none⟩), .agg #[.string z.1, .bool z.2.nd.dir, .slice z.2.A z.2.nd.data.length z.2.c, .int .i64 z.2.nd.time]] _ _ from hput)
           have HMRB := hide hmr
           have HIT := hide (hit.trans rfl)
           have HLD := hide (show L'.length = M.length ∧ L'.drop (i + 1) = M.drop (i + 1) from ⟨hLl, by rw [← List.drop_drop, ← List.drop_drop, hLd]⟩)
           have hwbs : wq.heap.size ≤ W.heap.size := HAI.out
           clear hoi hAi hz hmr hLl hLd hLz hcz hcur hgi hit hil hsrcQ hu hue hgeo hzdat hzne hzlt hzlo he hput hzv hQi
           go_wp2_with fail
           refine HPT.out.mono ?_
           rintro e W2 ⟨rfl, A3, c3, ho3, hk3, hA3⟩
           have HO3 := hide ho3
           have HK3 := hide hk3
           have HA3 := hide hA3
           clear ho3 hk3 hA3
           go_wp2
           go_roundw
           case rel =>
             refine ⟨i + 1, by go_num, by omega, ⟨A3, c3, ?_, fun a e => ?_⟩, ⟨_, HMRB.out.kp HK3.out hgmg, HLD.out.1, HLD.out.2⟩, HKI.out.then HK3.out, Nat.le_trans hwbs HK3.out.size⟩
             · rw [HIT.out]
               exact HO3.out
             · have := HA3.out a e
               omega
           case measure => simp [intOf]; omega
       · obtain rfl : i = M.length := by omega
         rw [List.take_of_length_le (Nat.le_refl _)] at hoi
         have hsrcQ := rfold_src (y := y) (t := S.clock + 1) M P2 (P := P) HSQ.out HSRC.out
         have HFIN := hide (show RK g (moveQ S x y) w A P W from by
           refine ⟨Ai, ci, _, ⟨hoi.heap, hoi.cap, hoi.rg, hoi.dat, ?_, hoi.top, hoi.neA, hoi.neD, hoi.lt⟩, HKI.out, fun a e _ => .inl (by have := hAi a e; have := HB.out.size; omega), fun v hv a e hn => ?_⟩
           · rw [HMQ.out, H.out.eq, ← rmove_strip, ← HP2.out, ← HMD.out]
           · obtain ⟨u, hu, q1, q2, _⟩ := hsrcQ v hv
             exact .inr ⟨u, hu, q1.trans e, by rw [q2]; exact hn⟩)
         clear hoi hAi hsrcQ
         go_wp2
         go_ret
         rw [HRE.out]
         exact ⟨rfl, HFIN.out⟩
end
end Go.Proofs.YtaajofojbhdgaaaGreatDoor
