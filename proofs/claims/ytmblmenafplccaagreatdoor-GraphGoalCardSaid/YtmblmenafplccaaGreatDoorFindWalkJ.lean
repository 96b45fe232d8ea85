/- Walk of find.Plan. -/
import Derived.Test.YtmblmenafplccaaGreatDoorFindWalkI
namespace Go.Proofs.YtmblmenafplccaaGreatDoor
open Go.RowKit Go.Deep Go.Maps Ln Pth Vf
attribute [local go_sem] bt_eq

theorem gathers_len {t : ByteArray} (L : List Rl) : ∀ k, (gathersF t (L.take k)).needs.length ≤ (specialR (L.take k) t).length := by
  intro k
  induction k with
  | zero => simp [gathersF, noPn]
  | succ k ih =>
    cases h : L[k]? with
    | none =>
      rw [List.take_add_one, h]
      simpa using ih
    | some r =>
      rw [gathers_take h, special_take h, List.length_append]
      unfold gatherF
      split
      · have := needsF_len r.nd.2.2 (gathersF t (L.take k)).needs
        dsimp only
        omega
      · omega
/-- four cells stored, one behind the other -/
theorem store4 {w : World} {g : Nat} {t : TypeId} {a0 a1 a2 a3 : Value} (h : w.heap[g]? = some (.cells #[a0, a1, a2, a3] t)) (v0 v1 v2 v3 : Value) :
    (w.cell? ⟨g, 0, none⟩ = some a0 ∧ w.frozen? ⟨g, 0, none⟩ = false ∧
    (w.setCell ⟨g, 0, none⟩ v0).cell? ⟨g, 1, none⟩ = some a1 ∧ (w.setCell ⟨g, 0, none⟩ v0).frozen? ⟨g, 1, none⟩ = false ∧
    ((w.setCell ⟨g, 0, none⟩ v0).setCell ⟨g, 1, none⟩ v1).cell? ⟨g, 2, none⟩ = some a2 ∧ ((w.setCell ⟨g, 0, none⟩ v0).setCell ⟨g, 1, none⟩ v1).frozen? ⟨g, 2, none⟩ = false ∧
    (((w.setCell ⟨g, 0, none⟩ v0).setCell ⟨g, 1, none⟩ v1).setCell ⟨g, 2, none⟩ v2).cell? ⟨g, 3, none⟩ = some a3 ∧ (((w.setCell ⟨g, 0, none⟩ v0).setCell ⟨g, 1, none⟩ v1).setCell ⟨g, 2, none⟩ v2).frozen? ⟨g, 3, none⟩ = false) ∧
    ((((w.setCell ⟨g, 0, none⟩ v0).setCell ⟨g, 1, none⟩ v1).setCell ⟨g, 2, none⟩ v2).setCell ⟨g, 3, none⟩ v3).heap[g]? = some (.cells #[v0, v1, v2, v3] t) ∧
    Kp w ((((w.setCell ⟨g, 0, none⟩ v0).setCell ⟨g, 1, none⟩ v1).setCell ⟨g, 2, none⟩ v2).setCell ⟨g, 3, none⟩ v3) (fun k => k = g) := by
  have h1 : (w.setCell ⟨g, 0, none⟩ v0).heap[g]? = some (.cells #[v0, a1, a2, a3] t) := by rw [heapSet h]; rfl
  have h2 : ((w.setCell ⟨g, 0, none⟩ v0).setCell ⟨g, 1, none⟩ v1).heap[g]? = some (.cells #[v0, v1, a2, a3] t) := by rw [heapSet h1]; rfl
  have h3 : (((w.setCell ⟨g, 0, none⟩ v0).setCell ⟨g, 1, none⟩ v1).setCell ⟨g, 2, none⟩ v2).heap[g]? = some (.cells #[v0, v1, v2, a3] t) := by rw [heapSet h2]; rfl
  have h4 : ((((w.setCell ⟨g, 0, none⟩ v0).setCell ⟨g, 1, none⟩ v1).setCell ⟨g, 2, none⟩ v2).setCell ⟨g, 3, none⟩ v3).heap[g]? = some (.cells #[v0, v1, v2, v3] t) := by rw [heapSet h3]; rfl
  refine ⟨⟨cellOf h (j := 0) rfl, freeOf h 0, cellOf h1 (j := 1) rfl, freeOf h1 1, cellOf h2 (j := 2) rfl, freeOf h2 2, cellOf h3 (j := 3) rfl, freeOf h3 3⟩, h4, ?_⟩
  exact (kp_set.trans ((kp_set.trans ((kp_set.trans (kp_set.mono fun k e => .inl e)).mono fun k e => .inl e)).mono fun k e => .inl e))
/-- what Plan leaves -/
def PlanPost (w : World) (q : Pn) (e : Ending) (w' : World) : Prop := ∃ vn vr, e = .returned (.agg #[vn, vr, .string (bs q.stem), .bool q.rule]) ∧ OwnS w' w.heap.size vn q.needs ∧ OwnS w' w.heap.size vr q.recipe ∧ Below w.heap.size w w'
/-- the last steps: the plan is copied out -/
theorem plan_end {w W : World} {C : Cf} {g gp : Nat} {kb : Option Nat} {kl : List ByteArray} {q : Pn} {T : Nat → Prop} (hf : FI w C g kb kl q T W) {a0 a1 a2 a3 : Value} (hgp : W.heap[gp]? = some (.cells #[a0, a1, a2, a3] 142)) (hT : ¬ T gp) (hw : w.heap.size ≤ gp) : ∃ A6 l6 c6 A7 l7 c7,
    (W.cell? ⟨g, 6, none⟩ = some (.slice A6 l6 c6) ∧ W.cell? ⟨g, 7, none⟩ = some (.slice A7 l7 c7) ∧ W.cell? ⟨g, 8, none⟩ = some (.string (bs q.stem)) ∧ W.cell? ⟨g, 9, none⟩ = some (.bool q.rule)) ∧
    (W.cell? ⟨gp, 0, none⟩ = some a0 ∧ W.frozen? ⟨gp, 0, none⟩ = false ∧
    (W.setCell ⟨gp, 0, none⟩ (.slice A6 l6 c6)).cell? ⟨gp, 1, none⟩ = some a1 ∧ (W.setCell ⟨gp, 0, none⟩ (.slice A6 l6 c6)).frozen? ⟨gp, 1, none⟩ = false ∧
    ((W.setCell ⟨gp, 0, none⟩ (.slice A6 l6 c6)).setCell ⟨gp, 1, none⟩ (.slice A7 l7 c7)).cell? ⟨gp, 2, none⟩ = some a2 ∧ ((W.setCell ⟨gp, 0, none⟩ (.slice A6 l6 c6)).setCell ⟨gp, 1, none⟩ (.slice A7 l7 c7)).frozen? ⟨gp, 2, none⟩ = false ∧
    (((W.setCell ⟨gp, 0, none⟩ (.slice A6 l6 c6)).setCell ⟨gp, 1, none⟩ (.slice A7 l7 c7)).setCell ⟨gp, 2, none⟩ (.string (bs q.stem))).cell? ⟨gp, 3, none⟩ = some a3 ∧ (((W.setCell ⟨gp, 0, none⟩ (.slice A6 l6 c6)).setCell ⟨gp, 1, none⟩ (.slice A7 l7 c7)).setCell ⟨gp, 2, none⟩ (.string (bs q.stem))).frozen? ⟨gp, 3, none⟩ = false) ∧
    ((((W.setCell ⟨gp, 0, none⟩ (.slice A6 l6 c6)).setCell ⟨gp, 1, none⟩ (.slice A7 l7 c7)).setCell ⟨gp, 2, none⟩ (.string (bs q.stem))).setCell ⟨gp, 3, none⟩ (.bool q.rule)).heap[gp]? = some (.cells #[(.slice A6 l6 c6), (.slice A7 l7 c7), .string (bs q.stem), .bool q.rule] 142) ∧
    PlanPost w q (.returned (.agg #[(.slice A6 l6 c6), (.slice A7 l7 c7), .string (bs q.stem), .bool q.rule])) ((((W.setCell ⟨gp, 0, none⟩ (.slice A6 l6 c6)).setCell ⟨gp, 1, none⟩ (.slice A7 l7 c7)).setCell ⟨gp, 2, none⟩ (.string (bs q.stem))).setCell ⟨gp, 3, none⟩ (.bool q.rule)) := by
  obtain ⟨vn, vr, h1, h2, h3, h4, h5, h6⟩ := hf.body
  obtain ⟨A6, c6, rfl, _, _, _⟩ := h2.slice
  obtain ⟨A7, c7, rfl, _, _, _⟩ := h5.slice
  obtain ⟨hs, hgf, hkp⟩ := store4 hgp (.slice A6 q.needs.length c6) (.slice A7 q.recipe.length c7) (.string (bs q.stem)) (.bool q.rule)
  refine ⟨A6, _, c6, A7, _, c7, ⟨cellOf h1 (j := 6) rfl, cellOf h1 (j := 7) rfl, cellOf h1 (j := 8) rfl, cellOf h1 (j := 9) rfl⟩, hs, hgf, _, _, rfl, ?_, ?_, hkp.below hf.below (Nat.le_refl _) (fun k e => by omega)⟩
  · exact h2.of fun k e => hkp.block k (World.ownsRow.lt h2 k e).2 (fun e2 => hT (e2 ▸ h4 k e))
  · refine h5.of fun k e => hkp.block k (World.ownsRow.lt h5 k e).2 (fun e2 => ?_)
    obtain ⟨_, h | ⟨g', cap, cur, h, hg', hh, _⟩⟩ := h5
    · rw [h.1] at e
      simp [Value.ownBlock] at e
    · rw [h] at e
      simp only [Value.ownBlock] at e
      injection e with e
      rw [e, e2, hgp] at hh
      injection hh with hh
      injection hh with _ hh
      exact absurd hh (by decide)
theorem ret_plan {a : Act} {W : World} {gp : Nat} {v0 v1 v2 v3 : Value} (hr : W.heap[gp]? = some (.cells #[v0, v1, v2, v3] 142)) (h8 : a.tmps.getD 8 undef = .pointer (some ⟨gp, 0, none⟩)) :
    (results Tryz.f117 a.tmps).run Tryz.prog W = .ok (.agg #[v0, v1, v2, v3]) W := by
  have c0 : W.cell? ⟨gp, 0, none⟩ = some v0 := cellOf hr (j := 0) rfl
  have c1 : W.cell? ⟨gp, 1, none⟩ = some v1 := cellOf hr (j := 1) rfl
  have c2 : W.cell? ⟨gp, 2, none⟩ = some v2 := cellOf hr (j := 2) rfl
  have c3 : W.cell? ⟨gp, 3, none⟩ = some v3 := cellOf hr (j := 3) rfl
  simp only [results, Tryz.results117]
  simp only [Array.getD_eq_getD_getElem?] at h8
  simp [go_sem, h8, c0, c1, c2, c3]
set_option linter.unusedSimpArgs false in
set_option maxRecDepth 100000 in
set_option maxHeartbeats 8000000 in
theorem plan_any (C : Cf) (w : World) (hok : CfOk C w) (hcs : CfSz C) (hsn : (specialR C.L (bs C.target)).length ≤ 100000) :
    Calls Tryz.prog 117 #[.agg #[C.mac, .slice C.A C.L.length C.c], .pointer (some ⟨C.gf, 0, none⟩), .string (bs C.cwd), .string (bs C.target)] w (PlanPost w (planF C.S C.cwd C.L C.target)) := by
  have HOK := hide (fun W (hb : Below w.heap.size w W) => hok.below hb)
  have HCS := hide hcs
  have hrl := hok.rl
  have HRL := hide hrl
  have hln := hok.ln
  have HSN := hide hsn
  obtain ⟨n, hn⟩ : ∃ n, C.L.length = n := ⟨_, rfl⟩
  have HN := hide hn
  rw [hn] at hln ⊢
  have hn1 : (n : Int) ≤ 1000 := by omega
  have HIS := hide (fun W => isSpecial_any C.target W (by have := hok.t1; omega))
  have hR : planF C.S C.cwd C.L C.target = if specT C.target = true then noPn else if (gathersF (bs C.target) C.L).recipe = [] then fitsF C.S C.cwd C.L C.target (gathersF (bs C.target) C.L) else gathersF (bs C.target) C.L := rfl
  obtain ⟨R, hRR⟩ : ∃ R, planF C.S C.cwd C.L C.target = R := ⟨_, rfl⟩
  rw [hRR] at hR ⊢
  obtain ⟨sp, hsp⟩ : ∃ q, specT C.target = q := ⟨_, rfl⟩
  rw [hsp] at HIS hR
  have HR := hide hR
  clear hok hcs hrl hn hR hRR hsp hsn
  have hba := ((Below.refl w.heap.size w).alloc (Nat.le_refl _) (.cells #[C.mac, .slice C.A n C.c] 26))
  have hbb := hba.alloc (by simp) (.cells #[.slice none 0 0, .slice none 0 0, .string ⟨#[]⟩, .bool false] 142)
  go_enter Tryz.func117, Tryz.ntmps117
  have HBB := hide hbb
  have HGP := hide (heapNew (w.alloc (.cells #[C.mac, .slice C.A n C.c] 26)) (.cells #[.slice none 0 0, .slice none 0 0, .string ⟨#[]⟩, .bool false] 142))
  go_wp2_with fail
  refine (HIS.out _).mono ?_
  rintro e w1 ⟨rfl, hb1⟩
  have hszp : w.heap.size + 1 < w1.heap.size := by have := hb1.size; simp at this; omega
  have hsz1 : (w.alloc (.cells #[C.mac, .slice C.A n C.c] 26)).heap.size = w.heap.size + 1 := by simp
  have hgp0 := HGP.out
  rw [hsz1] at hgp0
  have hgp := (hb1.block (w.heap.size + 1) (by simp)).trans hgp0
  have hgm := (hb1.block w.heap.size (by simp; omega)).trans (show ((w.alloc (.cells #[C.mac, .slice C.A n C.c] 26)).alloc (.cells #[.slice none 0 0, .slice none 0 0, .string ⟨#[]⟩, .bool false] 142)).heap[w.heap.size]? = some (.cells #[C.mac, .slice C.A n C.c] 26) by
    rw [Below.heap_alloc _ _ _ (by simp)]
    exact heapNew w _)
  have HB1 := hide (below_up HBB.out hb1 HBB.out.size)
  have HGPW := hide hgp
  clear hba hbb hb1 HGP
  cases sp with
  | true =>
    have HE := hide (HR.out.trans (if_pos rfl))
    obtain ⟨⟨q1, q2, q3, q4, q5, q6, q7, q8⟩, hgf, hkp⟩ := store4 hgp (.slice none 0 0) (.slice none 0 0) (.string ⟨#[]⟩) (.bool false)
    have HGF := hide hgf
    have HBF := hide (hkp.below HB1.out (Nat.le_refl _) (fun k e => by omega))
    clear hgf hkp hgp hgm
    go_wp2
    refine bodyPost_ret (ret_plan HGF.out rfl) rfl ?_
    rw [HE.out]
    exact ⟨_, _, rfl, OwnS.nil _ _, OwnS.nil _ _, HBF.out⟩
  | false =>
    have HR2 := hide (HR.out.trans (if_neg (by simp)))
    have hm0 : w1.cell? ⟨w.heap.size, 0, none⟩ = some C.mac := cellOf hgm (j := 0) rfl
    have hm1 : w1.cell? ⟨w.heap.size, 1, none⟩ = some (.slice C.A n C.c) := cellOf hgm (j := 1) rfl
    have hbx := (Below.refl w1.heap.size w1).alloc (Nat.le_refl _) (.cells (fcells C none (.slice none 0 0) (.slice none 0 0) [] false) 154)
    have HFI := hide (show FI w C w1.heap.size none [] noPn (fun k => k = w1.heap.size) (w1.alloc (.cells (fcells C none (.slice none 0 0) (.slice none 0 0) [] false) 154)) from
      ⟨below_up HB1.out hbx HB1.out.size, rfl, fun k e => (by subst e; exact ⟨by omega, by simp⟩), fun b e => (by cases e), .slice none 0 0, .slice none 0 0, heapNew _ _, OwnS.nil _ _, by simp [Value.ownBlock], fun k e => (by simp [Value.ownBlock] at e), OwnS.nil _ _, fun k e => (by simp [Value.ownBlock] at e)⟩)
    have HBX := hide hbx
    have hm2 : (w1.alloc (.cells (fcells C none (.slice none 0 0) (.slice none 0 0) [] false) 154)).cell? ⟨w.heap.size, 1, none⟩ = some (.slice C.A n C.c) := (hbx.cell (p := ⟨w.heap.size, 1, none⟩) (by dsimp only; omega)).trans hm1
    have HFC := hide (show fcells C none (.slice none 0 0) (.slice none 0 0) [] false = #[C.mac, .slice C.A n C.c, .pointer (some ⟨C.gf, 0, none⟩), .string (bs C.cwd), .string (bs C.target), .map none, .slice none 0 0, .slice none 0 0, .string ⟨#[]⟩, .bool false] by rw [← HN.out]; rfl)
    rw [HFC.out] at HFI HBX hm2
    clear hbx hgp hgm
    go_wp2
    obtain ⟨W, hW⟩ : ∃ W, w1.alloc (.cells #[C.mac, .slice C.A n C.c, .pointer (some ⟨C.gf, 0, none⟩), .string (bs C.cwd), .string (bs C.target), .map none, .slice none 0 0, .slice none 0 0, .string ⟨#[]⟩, .bool false] 154) = W := ⟨_, rfl⟩
    rw [hW] at HFI HBX ⊢
    obtain ⟨g, hg⟩ : ∃ g, w1.heap.size = g := ⟨_, rfl⟩
    rw [hg] at HFI HBX ⊢
    have HGG := hide hg
    clear hW hm2 hm0 hm1 hg
    go_loopw [11, 13, 26, 47] (fun _ _ v26 _ wr => ∃ k : Nat, v26 = .int .i64 k ∧ k ≤ n ∧ FIP w C g none [] (gathersF (bs C.target) (C.L.take k)) (fun k => k = g) W wr) (fun _ _ v26 _ _ => n - (intOf v26).toNat)
    case atStart => exact ⟨0, rfl, by omega, HFI.out.toP (Below.refl _ _)⟩
    case round =>
        obtain ⟨k, rfl, hk, hfp⟩ := hrel
        have HFP := hide hfp
        clear hfp
        generalize wr = wo at *
        by_cases hlt : k < n
        · obtain ⟨r, hr⟩ : ∃ r, C.L[k]? = some r := ⟨C.L[k]'(by have := HN.out; omega), List.getElem?_eq_getElem _⟩
          have hrk0 := HRL.out.2 r (List.mem_of_getElem? hr)
          have HRK0 := hide hrk0
          obtain ⟨T2, f2, k2, g2⟩ := HFP.out
          have HF2 := hide f2
          have HK2 := hide (And.intro k2 g2)
          have HAR := hide (HRL.out.below f2.below)
          have HRK := hide (hrk0.below f2.below)
          obtain ⟨gr, o, hgo, hgg, hc⟩ := HAR.out.1 k r hr
          have hc1 : wo.cell? ⟨gr, o + k * 3, none⟩ = some (sv r.tg) := by have := hc 0 _ rfl; simpa using this
          have hc2 : wo.cell? ⟨gr, o + k * 3 + 1, none⟩ = some (sv r.nd) := hc 1 _ rfl
          have hc3 : wo.cell? ⟨gr, o + k * 3 + 2, none⟩ = some (sv r.rc) := hc 2 _ rfl
          have HT := hide (gathers_take (target := bs C.target) hr)
          have hgl := gathers_len (t := bs C.target) C.L k
          have hsl := special_len_take C.L (bs C.target) k
          have hsn := HSN.out
          have b1 : (k : Int) < (n : Int) := by omega
          have hr1 := hrk0.r1
          have hn1' := hrk0.n1
          rw [hgo]
          have HPL := hide (fun W (hb : Below wo.heap.size wo W) => plain_any r W (HRK.out.below hb))
          have HCT := hide (fun W (hb : Below wo.heap.size wo W) => cont_any r.tg.1 r.tg.2.1 r.tg.2.2 (bs C.target) W (HRK.out.tg.below hb) (by have := HRK.out.t1; omega))
          have hof : ofR (bs C.target) r = (plainR r.tg.2.2 && Lib.containsS r.tg.2.2 (bs C.target)) := rfl
          obtain ⟨p1, hp1⟩ : ∃ b, plainR r.tg.2.2 = b := ⟨_, rfl⟩
          obtain ⟨p2, hp2⟩ : ∃ b, Lib.containsS r.tg.2.2 (bs C.target) = b := ⟨_, rfl⟩
          rw [hp1] at HPL hof
          rw [hp2] at HCT hof
          have HOF := hide hof
          obtain ⟨p, hp⟩ : ∃ p, gathersF (bs C.target) (C.L.take k) = p := ⟨_, rfl⟩
          rw [hp] at HF2 HT hgl
          have hpl : p.needs.length ≤ 100000 := by omega
          have hG : gatherF (bs C.target) p r = if ofR (bs C.target) r = true then ⟨needsF p.needs r.nd.2.2, if 0 < r.rc.2.2.length then r.rc.2.2 else p.recipe, p.stem, true⟩ else p := rfl
          rw [HOF.out] at hG
          have HG := hide hG
          obtain ⟨rq, hrq⟩ : ∃ b, r.rc.2.2.length = b := ⟨_, rfl⟩
          obtain ⟨m, hm⟩ : ∃ b, r.nd.2.2.length = b := ⟨_, rfl⟩
          have HRQ := hide hrq
          have HM := hide hm
          rw [hrq] at hr1 HG
          rw [hm] at hn1'
          have hmi : (m : Int) ≤ 100000 := by omega
          clear hc hr hrk0 f2 k2 g2 hof hp1 hp2 hp hgl hsl hsn hG
          have hnb := heapNew wo (.cells #[.slice r.tg.1 r.tg.2.2.length r.tg.2.1, .slice r.nd.1 m r.nd.2.1, .slice r.rc.1 rq r.rc.2.1] 30)
          have hba := (Below.refl wo.heap.size wo).alloc (Nat.le_refl _) (.cells #[.slice r.tg.1 r.tg.2.2.length r.tg.2.1, .slice r.nd.1 m r.nd.2.1, .slice r.rc.1 rq r.rc.2.1] 30)
          have HNB := hide hnb
          have HBA := hide hba
          unfold sv at hc1 hc2 hc3 HPL
          rw [hrq] at hc3
          rw [hm] at hc2
          simp only [hrq, hm] at HPL
          clear hnb hba hrq hm
          go_wp2_with fail
          refine (HPL.out _ HBA.out).mono ?_
          rintro e w4 ⟨rfl, hb4⟩
          have hnb4 := (hb4.block wo.heap.size (Array.getElem?_eq_some_iff.1 HNB.out).1).trans HNB.out
          have hszw : wo.heap.size < w4.heap.size := by have := hb4.size; simp at this; omega
          have HNB4 := hide hnb4
          have hd0 : w4.cell? ⟨wo.heap.size, 0, none⟩ = some (.slice r.tg.1 r.tg.2.2.length r.tg.2.1) := cellOf' hnb4 (j := 0) rfl
          have hd1 : w4.cell? ⟨wo.heap.size, 1, none⟩ = some (.slice r.nd.1 m r.nd.2.1) := cellOf' hnb4 (j := 1) rfl
          have hd2 : w4.cell? ⟨wo.heap.size, 2, none⟩ = some (.slice r.rc.1 rq r.rc.2.1) := cellOf' hnb4 (j := 2) rfl
          have HB4 := hide (below_up HBA.out hb4 HBA.out.size)
          clear hb4 hnb4
          cases p1 with
          | false =>
            have HE := hide (show gathersF (bs C.target) (C.L.take (k + 1)) = p by rw [HT.out, HG.out]; simp)
            have HF4 := hide (((HF2.out.toP HB4.out)).from_ HK2.out.1 HK2.out.2)
            go_wp2
            go_roundw
            case rel => exact ⟨k + 1, by go_num, by omega, by rw [HE.out]; exact HF4.out⟩
            case measure => simp [intOf]; omega
          | true =>
            go_wp2_with fail
            refine (HCT.out _ HB4.out).mono ?_
            rintro e w' ⟨rfl, rfl⟩
            cases p2 with
            | false =>
              have HE := hide (show gathersF (bs C.target) (C.L.take (k + 1)) = p by rw [HT.out, HG.out]; simp)
              have HF4 := hide (((HF2.out.toP HB4.out)).from_ HK2.out.1 HK2.out.2)
              go_wp2
              go_roundw
              case rel => exact ⟨k + 1, by go_num, by omega, by rw [HE.out]; exact HF4.out⟩
              case measure => simp [intOf]; omega
            | true =>
              have hG2 := HG.out
              rw [if_pos (show (true && true) = true from rfl)] at hG2
              have HG2 := hide hG2
              have hf4 := HF2.out.step HB4.out
              have hr4 := hf4.rule_ true
              obtain ⟨T3, f3, k3, g3⟩ := hr4
              obtain ⟨vn, vr, hgc, _⟩ := hf4.body
              have hz9 := freeOf hgc 9
              have hy9 : w4.cell? ⟨g, 9, none⟩ = some (.bool p.rule) := cellOf hgc (j := 9) rfl
              have HF3 := hide f3
              have HK3 := hide (And.intro k3 g3)
              have hne : ¬ T2 wo.heap.size := fun ht => by have := (HF2.out.tw _ ht).2; omega
              have hnb5 := (k3.block wo.heap.size hszw hne).trans HNB4.out
              have HNE := hide (show ¬ T3 wo.heap.size from fun ht => by
                rcases g3 _ ht with h | h
                · exact hne h
                · omega)
              have hd1' : (w4.setCell ⟨g, 9, none⟩ (.bool true)).cell? ⟨wo.heap.size, 1, none⟩ = some (.slice r.nd.1 m r.nd.2.1) := cellOf' hnb5 (j := 1) rfl
              have HNB5 := hide hnb5
              have HN3 := hide (HRK.out.nd.below HB4.out)
              clear hf4 f3 k3 g3 hgc hG2 hne hnb5
              go_wp2
              obtain ⟨W5, hW5⟩ : ∃ W, w4.setCell ⟨g, 9, none⟩ (.bool true) = W := ⟨_, rfl⟩
              rw [hW5] at HF3 HK3 HNB5 ⊢
              clear hW5 hd1' hd0 hd1 hd2 hz9 hy9
              go_loopw [13, 47] (fun _ v47 wr2 => ∃ j : Nat, v47 = .int .i64 j ∧ j ≤ m ∧ FIP w C g none [] (addN { p with rule := true } (r.nd.2.2.take j)) T3 W5 wr2) (fun _ v47 _ => m - (intOf v47).toNat)
              case atStart => exact ⟨0, rfl, by omega, HF3.out.toP (Below.refl _ _)⟩
              case round =>
                obtain ⟨j, rfl, hj, hfp2⟩ := hrel
                have HFP2 := hide hfp2
                clear hfp2
                generalize wr = wz at *
                obtain ⟨T4, f4, k4, g4⟩ := HFP2.out
                have HF4 := hide f4
                have HK4 := hide (And.intro k4 g4)
                have HNR := hide (HRK0.out.nd.below f4.below)
                have HRR := hide (HRK0.out.rc.below f4.below)
                have hnb6 := (k4.block wo.heap.size (Nat.lt_of_lt_of_le hszw HK3.out.1.size) HNE.out).trans HNB5.out
                have hd2' : wz.cell? ⟨wo.heap.size, 2, none⟩ = some (.slice r.rc.1 rq r.rc.2.1) := cellOf' hnb6 (j := 2) rfl
                clear f4 k4 g4 hnb6
                by_cases hlt2 : j < m
                · obtain ⟨x, hx⟩ : ∃ x, r.nd.2.2[j]? = some x := ⟨r.nd.2.2[j]'(by have := HM.out; omega), List.getElem?_eq_getElem _⟩
                  obtain ⟨gs2, o2, hgo2, hgs2, hcx⟩ := HNR.out j x hx
                  have hql : (addN { p with rule := true } (r.nd.2.2.take j)).needs.length ≤ 900000 := by
                    have := needsF_len (r.nd.2.2.take j) p.needs
                    rw [List.length_take] at this
                    show (needsF p.needs (r.nd.2.2.take j)).length ≤ _
                    omega
                  have HND := hide (need_any w C g none [] _ T4 x wz HF4.out hql)
                  have HE := hide (show ({ addN { p with rule := true } (r.nd.2.2.take j) with needs := needF (addN { p with rule := true } (r.nd.2.2.take j)).needs x } : Pn) = addN { p with rule := true } (r.nd.2.2.take (j + 1)) by
                    unfold addN
                    rw [needsF_take hx])
                  rw [HE.out] at HND
                  have b2 : (j : Int) < (m : Int) := by omega
                  rw [hgo2]
                  clear hx hql
                  go_wp2_with fail
                  refine HND.out.mono ?_
                  rintro e w6 ⟨rfl, h6⟩
                  have HF6 := hide (h6.from_ HK4.out.1 HK4.out.2)
                  clear h6
                  go_wp2
                  go_roundw
                  case rel => exact ⟨j + 1, by go_num, by omega, HF6.out⟩
                  case measure => simp [intOf]; omega
                · obtain rfl : m = j := by omega
                  have htk : r.nd.2.2.take m = r.nd.2.2 := List.take_of_length_le (by have := HM.out; omega)
                  rw [htk] at HF4
                  by_cases c2 : rq = 0
                  · have HE := hide (show gathersF (bs C.target) (C.L.take (k + 1)) = addN { p with rule := true } r.nd.2.2 by
                      rw [HT.out, HG2.out, if_neg (by omega)]
                      rfl)
                    have HF7 := hide (((((HF4.out.toP (Below.refl _ _)).from_ HK4.out.1 HK4.out.2).from_ HK3.out.1 HK3.out.2).after HB4.out).from_ HK2.out.1 HK2.out.2)
                    have d1 : decide (0 < rq) = false := by simp; omega
                    clear c2 htk
                    go_wp2
                    go_roundw
                    case rel => exact ⟨k + 1, by go_num, by omega, by rw [HE.out]; exact HF7.out⟩
                    case measure => simp [intOf]; omega
                  have HE := hide (show gathersF (bs C.target) (C.L.take (k + 1)) = { addN { p with rule := true } r.nd.2.2 with recipe := r.rc.2.2 } by
                    rw [HT.out, HG2.out, if_pos (by omega)]
                    rfl)
                  have d1 : decide (0 < rq) = true := by simp; omega
                  have HCL := hide (sclone_any r.rc.1 r.rc.2.1 r.rc.2.2 wz HRR.out (by have := HRQ.out; omega))
                  rw [HRQ.out] at HCL
                  clear c2 htk
                  go_wp2_with fail
                  refine HCL.out.mono ?_
                  rintro e w6 ⟨⟨v6, rfl, ho6⟩, hb6⟩
                  obtain ⟨Av6, cv6, e6, _, _, _⟩ := ho6.slice
                  rw [HRQ.out] at e6
                  subst e6
                  have hf6 := HF4.out.step hb6
                  have hbs6 := HF4.out.below.size
                  have hr6 := hf6.rec_ (ho6.base hbs6) (fun q hq ht => by have := (World.ownsRow.lt ho6 q hq).1; have := (HF4.out.tw q ht).2; omega)
                  obtain ⟨vn6, vr6, hg6, _⟩ := hf6.body
                  have hz7 := freeOf hg6 7
                  have hy7 := cellOf hg6 (j := 7) rfl
                  have HF7 := hide (((((hr6.after hb6).from_ HK4.out.1 HK4.out.2).from_ HK3.out.1 HK3.out.2).after HB4.out).from_ HK2.out.1 HK2.out.2)
                  clear hf6 hr6 ho6 hb6 hg6
                  go_wp2
                  go_roundw
                  case rel => exact ⟨k + 1, by go_num, by omega, by rw [HE.out]; exact HF7.out⟩
                  case measure => simp [intOf]; omega
        · obtain rfl : n = k := by omega
          have htk : C.L.take n = C.L := List.take_of_length_le (by have := HN.out; omega)
          rw [htk] at HFP
          obtain ⟨q, hq⟩ : ∃ q, gathersF (bs C.target) C.L = q := ⟨_, rfl⟩
          have hgl := gathers_len (t := bs C.target) C.L n
          rw [htk] at hgl
          rw [hq] at HFP HR2 hgl
          have hsn := HSN.out
          have hql : q.needs.length ≤ 700000 := by omega
          obtain ⟨T2, f2, k2, g2⟩ := HFP.out
          have HF2 := hide f2
          obtain ⟨A6, c6, A7, c7, hgc, _⟩ := f2.opn
          have hy7 : wo.cell? ⟨g, 7, none⟩ = some (.slice A7 q.recipe.length c7) := cellOf hgc (j := 7) rfl
          have hszg := HGG.out
          have hszW := HBX.out.size
          have hgpo := (k2.block (w.heap.size + 1) (by omega) (by omega)).trans ((HBX.out.block (w.heap.size + 1) (by omega)).trans HGPW.out)
          have hT2 : ¬ T2 (w.heap.size + 1) := fun ht => by
            rcases g2 _ ht with h | h
            · omega
            · omega
          have hszo := k2.size
          have HGPO := hide hgpo
          obtain ⟨rl, hrl⟩ : ∃ l, q.recipe.length = l := ⟨_, rfl⟩
          rw [hrl] at hy7
          by_cases c1 : rl = 0
          · subst c1
            have hq0 : q.recipe = [] := List.eq_nil_of_length_eq_zero hrl
            have HE := hide (HR2.out.trans (if_pos hq0))
            have HFT := hide (fits_any w C g [] q T2 wo (HOK.out w (Below.refl _ _)) HCS.out HF2.out hql)
            clear hq0 hrl hgpo hgc f2 k2 g2 hq htk
            go_wp2_with fail
            refine HFT.out.mono ?_
            rintro e w5 ⟨rfl, b5, T5, f5, k5, g5⟩
            have hT5 : ¬ T5 (w.heap.size + 1) := fun ht => by
              rcases g5 _ ht with h | h
              · exact hT2 h
              · omega
            have hgp5 := (k5.block (w.heap.size + 1) (by omega) hT2).trans HGPO.out
            obtain ⟨A8, l8, c8, A9, l9, c9, ⟨e6, e7, e8, e9⟩, ⟨q1, q2, q3, q4, q5, q6, q7, q8⟩, hgf, hpost⟩ := plan_end f5 hgp5 hT5 (by omega)
            have HGF := hide hgf
            have HPO := hide hpost
            clear hgf hpost
            clear f5 k5 g5 hgp5
            go_wp2
            (try simp only [Exit.inBlock, Exit.then])
            refine bodyPost_ret (ret_plan HGF.out rfl) rfl ?_
            rw [HE.out]
            exact HPO.out
          have HE := hide (HR2.out.trans (if_neg (fun h => c1 (by rw [← hrl, h]; rfl))))
          have d1 : ((rl : Int) == 0) = false := by simp only [beq_eq_false_iff_ne]; omega
          obtain ⟨A8, l8, c8, A9, l9, c9, ⟨e6, e7, e8, e9⟩, ⟨q1, q2, q3, q4, q5, q6, q7, q8⟩, hgf, hpost⟩ := plan_end HF2.out HGPO.out hT2 (by omega)
          have HGF := hide hgf
          have HPO := hide hpost
          clear hgf hpost
          rw [e7] at hy7
          cases hy7
          clear hgpo hgc f2 k2 g2 hq htk hrl c1
          go_wp2
          (try simp only [Exit.inBlock, Exit.then])
          refine bodyPost_ret (ret_plan HGF.out rfl) rfl ?_
          rw [HE.out]
          exact HPO.out
end Go.Proofs.YtmblmenafplccaaGreatDoor
