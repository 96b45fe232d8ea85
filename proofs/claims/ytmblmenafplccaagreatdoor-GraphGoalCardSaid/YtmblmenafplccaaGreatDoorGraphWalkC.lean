/- Walk of the search's goal. -/
import Derived.Test.YtmblmenafplccaaGreatDoorGraphWalkA
import Derived.Test.YtmblmenafplccaaGreatDoorGraphRep
import Derived.IntWalk
namespace Go.Proofs.YtmblmenafplccaaGreatDoor
open Go.RowKit Go.Deep Go.Maps Ln Pth Vf
set_option linter.unusedSimpArgs false
set_option linter.unusedVariables false
attribute [local go_sem] bt_eq

def GoP (w0 : World) (C : Gc) (P : ByteArray → Pn) (is : ByteArray → Bool) (Gd : ByteArray → Prop) (g b : Nat) (x : ByteArray) (s : Se) (T : Nat → Prop) (w : World) (e : Ending) (w' : World) : Prop := ∃ (r : Se) (c : Nat), GoR P is x s r c ∧ e = .returned (.int .i64 c) ∧ (c = 0 → SeOk Gd r) ∧ GIP w0 C g b r T w w'
set_option linter.unusedSimpArgs false in
set_option maxRecDepth 100000 in
set_option maxHeartbeats 8000000 in
theorem goal_any (w0 : World) (C : Gc) (P : ByteArray → Pn) (is : ByteArray → Bool) (Gd : ByteArray → Prop) (hG : GH w0 C P is Gd) (g b : Nat) (s : Se) (T : Nat → Prop) (x : ByteArray) (w : World) (h : GI w0 C g b s T w) (hx : Gd x) (hok : SeOk Gd s) :
    Calls Tryz.prog 45 #[.pointer (some ⟨g, 0, none⟩), .string x] w (GoP w0 C P is Gd g b x s T w) := by
  have HG := hide hG
  have HH := hide h
  have HOK := hide hok
  have HX := hide hx
  clear hG h hok hx
  go_enter Tryz.func45, Tryz.ntmps45
  go_wp2_with fail
  go_step3
  go_wp2_with fail
  go_step3
  go_wp2_with fail
  go_loopg [4, 5, 6, 7] (mu s) (fun q _ v5 _ _ wr => ∃ (s' : Se) (x' : ByteArray), q = mu s' ∧ v5 = .string x' ∧ Hid (Gd x') ∧ Hid (∀ r c, GoR P is x' s' r c → GoR P is x s r c) ∧ Hid (SeOk Gd s') ∧ GIP w0 C g b s' T w wr)
  case atStart => exact ⟨s, x, rfl, rfl, HX.out, fun _ _ h => h, HOK.out, HH.out.toP (Below.refl _ _)⟩
  case round =>
    obtain ⟨s', x', hq, rfl, HGX, HGO, HSO, hgi⟩ := hrel
    have HMU := hide hq
    have HGI := hide hgi
    obtain ⟨T1, f1, k1, gr1⟩ := hgi
    have hm1 := f1.met
    have hxs := HG.out.size x' HGX.out
    have hlk := hm1.look (s := x') (by omega)
    have hc5 : wr.cell? ⟨g, 5, none⟩ = some (.map (some b)) := by
      obtain ⟨vw, vd, wl, h1, _⟩ := f1.body
      exact cellOf h1 (j := 5) rfl
    have hws := HSO.out.way
    have hms := HSO.out.met
    have HWT := hide (waits_any w0 C g b s' T1 x' wr f1 (by omega))
    have HMY := hide (may_any w0 C P is Gd HG.out g b s' T1 x' wr f1 HGX.out (by omega) (by omega))
    have HEN := hide (fun (hn : x' ∉ s'.met) (hl : s'.way.length ≤ 999) => enter_any w0 C P is Gd HG.out g b s' T1 x' wr f1 HGX.out hn hl hms)
    have HF1 := hide f1
    have HK1 := hide (And.intro k1 gr1)
    obtain ⟨cb, hcb⟩ : ∃ c, Lib.containsS s'.met x' = c := ⟨_, rfl⟩
    rw [hcb] at hlk
    have HCB := hide hcb
    clear hq f1 k1 gr1 hm1 hcb hws hms
    cases cb with
    | true =>
      go_wp2_with fail
      refine HWT.out.mono ?_
      rintro e w2 ⟨rfl, hb2⟩
      have HG2 := hide (show GIP w0 C g b s' T w w2 from by
        obtain ⟨T', f, k, gr⟩ := HF1.out.toP hb2
        exact ⟨T', f, HK1.out.1.trans (k.mono HK1.out.2), fun q hq => by
          rcases gr q hq with h | h
          · exact HK1.out.2 q h
          · exact .inr (Nat.le_trans HK1.out.1.size h)⟩)
      have HEO := hide (ent_old (P := P) (is := is) HCB.out)
      obtain ⟨wb, hwb⟩ : ∃ c, (s'.way.any fun o => decide (o.1 = x')) = c := ⟨_, rfl⟩
      rw [hwb] at HEO ⊢
      clear hwb hb2
      cases wb with
      | true =>
        have HE := hide (show GoR P is x' s' s' 18 from .err HEO.out (by simp))
        go_wp2
        rw [Exit.noGoto_ret]
        go_ret
        exact ⟨s', 18, HGO.out _ _ HE.out, rfl, (fun h => by cases h), HG2.out⟩
      | false =>
        have HE1 := hide (show entF P is x' s' = (0, s') from HEO.out)
        obtain ⟨gkx, hgkx⟩ : ∃ q, gk = q := ⟨_, rfl⟩
        obtain ⟨s1, hs1⟩ : ∃ s1, s' = s1 := ⟨_, rfl⟩
        have HS1 := hide (show SeOk Gd s1 from hs1 ▸ HSO.out)
        have HG1 := hide (show GIP w0 C g b s1 T w w2 from hs1 ▸ HG2.out)
        have HM1 := hide (show mu s1 ≤ gkx by rw [← hgkx, HMU.out, hs1]; exact Nat.le_refl _)
        have HE2 := hide (show entF P is x' s' = (0, s1) from by rw [HE1.out, hs1])
        have HGK := hide hgkx
        clear HE1 HG2 HEO HWT HMY HEN HF1 HK1 hs1 HCB hlk hc5 hgkx
        go_wp2_with fail
        go_loopg [5, 7] s1.way.length (fun q _ _ wz => ∃ (wy : List Opn) (d : List ByteArray), q = wy.length ∧ Hid (popF s1.way s1.done = popF wy d) ∧ Hid (SeOk Gd ⟨wy, s1.met, d⟩) ∧ GIP w0 C g b ⟨wy, s1.met, d⟩ T w wz)
        case atStart => exact ⟨s1.way, s1.done, rfl, rfl, HS1.out, HG1.out⟩
        case round =>
          obtain ⟨wy, d, hqy, HPO, HSY, hgy⟩ := hrel
          generalize wr = wz at *
          obtain ⟨T2, f2, k2, gr2⟩ := hgy
          have HF2 := hide f2
          have HK2 := hide (And.intro k2 gr2)
          cases wy with
          | nil =>
            obtain ⟨A4, c4, A6, c6, hc4, _⟩ := f2.cells
            simp only [List.length_nil] at hc4
            clear f2 k2 gr2 hqy
            have HR := hide (HGO.out _ _ (GoR.fin HE2.out HPO.out))
            have HGZ := hide (show GIP w0 C g b ⟨[], s1.met, d⟩ T w wz from ⟨T2, HF2.out, HK2.out.1, HK2.out.2⟩)
            go_wp2
            (try rw [Exit.noGoto_ret])
            go_ret
            exact ⟨_, 0, HR.out, rfl, fun _ => HSY.out, HGZ.out⟩
          | cons o r =>
            obtain ⟨t, ns⟩ := o
            obtain ⟨bw, c4, An, cn, hc4, hbg, hsn, hco0, hco1, hfr, hcw, hcn0⟩ := f2.top
            obtain ⟨A4', c4', A6, c6, _, hc6, _, hfz, _⟩ := f2.cells
            dsimp only at hc6
            have hsy := HSY.out.way
            have hsm := HSY.out.sum
            have hsl := HSY.out.met
            simp only [List.length_cons] at hsy hsm
            obtain ⟨m, hm⟩ : ∃ m, r.length = m := ⟨_, rfl⟩
            have HM := hide hm
            have HQY := hide hqy
            rw [hm] at hc4 hco0 hco1 hfr hsy hsm
            have hml : m ≤ 199 := by omega
            have hdl : d.length ≤ 1000 := by dsimp only at hsl; omega
            have hmi : (m : Int) ≤ 199 := by omega
            have hwr : IntKind.i64.wrap ((m : Int) + 1 - 1) = (m : Int) := by rw [show (m : Int) + 1 - 1 = (m : Int) by omega]; exact IntWalk.i64_in _ (by omega)
            rw [hm] at hcw
            have hcwi : (m : Int) ≤ (c4 : Int) := by omega
            have hwr2 : IntKind.i64.wrap (m : Int) = (m : Int) := IntWalk.i64_in _ (by omega)
            have hidx0 : (0 : Int) ≤ (m : Int) := by omega
            have hidx1 : (m : Int) < (m : Int) + 1 := by omega
            cases ns with
            | nil =>
              simp only [List.length_nil] at hco1
              have HSP := hide HSY.out.pop
              clear hm hqy hsy hsm hsl f2 k2 gr2 hsn hfr
              go_wp2_with fail
              go_region
              go_wp2_with fail
              obtain ⟨A9, c9, w4, hrun, hf6, hbag, hf4, hfin⟩ := HF2.out.fin_run (w2 := wz.drew.drew) (Below.refl _ _).drew.drew hc6 hc4 hdl t
              obtain ⟨hf60, hf61⟩ := hf6
              have hf0 := hbag _ _ hco0
              have hco0a : (wz.drew.drew.alloc (.cells #[.string t] 9)).cell? ⟨bw, m * 2, none⟩ = some (.string t) := ((Below.refl wz.heap.size wz).drew.drew.alloc (Nat.le_refl _) _ |>.cell (p := ⟨bw, m * 2, none⟩) (World.block_lt_of_cell? _ _ hco0)).trans hco0
              have hc6a : (wz.alloc (.cells #[.string t] 9)).cell? ⟨g, 6, none⟩ = some (.slice A6 d.length c6) := ((Below.refl wz.heap.size wz).alloc (Nat.le_refl _) _ |>.cell (p := ⟨g, 6, none⟩) (World.block_lt_of_cell? _ _ hc6)).trans hc6
              refine wp_region_held_drew (S := (fun w' => w'.cell? ⟨bw, m * 2, none⟩ = some (.string t))) (by kernel_rfl) hco0 (fun hHeld => ?_)
              refine wpAnyH_tk (i := 0) (oi := _) (v := ?v0) rfl rfl (by kernel_rfl) (by kernel_rfl) (by kernel_rfl) (fun _ _ _ h => h) (Or.inl ⟨by kernel_rfl, ?y0⟩) (by assumption) ?r0
              case y0 =>
                intro w hSw
                (try dsimp only at hSw)
                go_simp
                try with_reducible rfl
              try simp only [List.setIfInBounds_toArray, List.set_cons_zero, List.set_cons_succ]
              refine wpAnyH_tk (i := 1) (oi := _) (v := ?v1) rfl rfl (by kernel_rfl) (by kernel_rfl) (by kernel_rfl) (fun _ _ _ h => h) (Or.inl ⟨by kernel_rfl, ?y1⟩) (by assumption) ?r1
              case y1 =>
                intro w hSw
                (try dsimp only at hSw)
                go_simp
                try with_reducible rfl
              try simp only [List.setIfInBounds_toArray, List.set_cons_zero, List.set_cons_succ]
              refine wpAnyH_tk (i := 2) (oi := _) (v := ?v2) rfl rfl (by kernel_rfl) (by kernel_rfl) (by kernel_rfl) (fun _ _ _ h => h) (Or.inl ⟨by kernel_rfl, ?y2⟩) (by assumption) ?r2
              case y2 =>
                intro w hSw
                (try dsimp only at hSw)
                go_simp
                try with_reducible rfl
              try simp only [List.setIfInBounds_toArray, List.set_cons_zero, List.set_cons_succ]
              refine wpAnyH_tk (i := 3) (oi := _) (v := ?v3) rfl rfl (by kernel_rfl) (by kernel_rfl) (by kernel_rfl) (fun _ _ _ h => h) (Or.inl ⟨by kernel_rfl, ?y3⟩) (by assumption) ?r3
              case y3 =>
                intro w hSw
                (try dsimp only at hSw)
                go_simp
                try with_reducible rfl
              try simp only [List.setIfInBounds_toArray, List.set_cons_zero, List.set_cons_succ]
              refine wpAnyH_tk (i := 5) (oi := _) (v := ?v5) rfl rfl (by kernel_rfl) (by kernel_rfl) (by kernel_rfl) (fun _ _ _ h => h) (Or.inl ⟨by kernel_rfl, ?y5⟩) (by assumption) ?r5
              case y5 =>
                intro w hSw
                (try dsimp only at hSw)
                go_simp
                try with_reducible rfl
              try simp only [List.setIfInBounds_toArray, List.set_cons_zero, List.set_cons_succ]
              refine wpAnyH_tk (i := 6) (oi := _) (v := ?v6) rfl rfl (by kernel_rfl) (by kernel_rfl) (by kernel_rfl) (fun _ _ _ h => h) (Or.inl ⟨by kernel_rfl, ?y6⟩) (by assumption) ?r6
              case y6 =>
                intro w hSw
                (try dsimp only at hSw)
                go_simp
                try with_reducible rfl
              try simp only [List.setIfInBounds_toArray, List.set_cons_zero, List.set_cons_succ]
              refine wpAnyH_tk (i := 7) (oi := _) (v := ?v7) rfl rfl (by kernel_rfl) (by kernel_rfl) (by kernel_rfl) (fun _ _ _ h => h) (Or.inl ⟨by kernel_rfl, ?y7⟩) (by assumption) ?r7
              case y7 =>
                intro w hSw
                (try dsimp only at hSw)
                go_simp
                try with_reducible rfl
              try simp only [List.setIfInBounds_toArray, List.set_cons_zero, List.set_cons_succ]
              refine wpAnyH_tk (i := 8) (oi := _) (v := ?v8) rfl rfl (by kernel_rfl) (by kernel_rfl) (by kernel_rfl) (fun _ _ _ h => h) (Or.inl ⟨by kernel_rfl, ?y8⟩) (by assumption) ?r8
              case y8 =>
                intro w hSw
                (try dsimp only at hSw)
                go_simp
                try with_reducible rfl
              try simp only [List.setIfInBounds_toArray, List.set_cons_zero, List.set_cons_succ]
              refine wpAnyH_ready (rs := [4, 9]) (by kernel_rfl) (by simp) ?_
              refine AllReadyH.cons (o := _) rfl (fun K hK => ?_) (AllReadyH.cons (o := _) rfl (fun K hK => ?_) AllReadyH.nil)
              · rw [if_pos (by kernel_rfl)]
                go_simp
                refine hK.out _ _ hco0 (fun _ => ?_)
                clear hK K
                try simp only [Act.put, List.setIfInBounds_toArray, List.set_cons_zero, List.set_cons_succ]
                refine wpAnyH_ready (rs := [9]) (by kernel_rfl) (by simp) ?_
                refine AllReadyH.cons (o := _) rfl (fun K hK => ?_) AllReadyH.nil
                rw [if_pos (by kernel_rfl)]
                go_simp
                refine hK.out _ _ hco0a (fun _ => ?_)
                clear hK K
                try simp only [Act.put, List.setIfInBounds_toArray, List.set_cons_zero, List.set_cons_succ]
                refine wpAnyH_ready (rs := [10]) (by kernel_rfl) (by simp) ?_
                refine AllReadyH.cons (o := _) rfl (fun K hK => ?_) AllReadyH.nil
                refine step_app_run rfl _ _ rfl rfl rfl rfl hrun ?_
                refine hK.out _ _ hf0.1 (fun _ => ?_)
                clear hK K
                try simp only [Act.put, List.setIfInBounds_toArray, List.set_cons_zero, List.set_cons_succ]
                refine wpAnyH_tk (i := 11) (oi := _) (v := ?vA11) rfl rfl (by kernel_rfl) (by kernel_rfl) (by kernel_rfl) (fun _ _ _ h => h) (Or.inl ⟨by kernel_rfl, ?yA11⟩) (by assumption) ?rA11
                case yA11 =>
                  intro w hSw
                  (try dsimp only at hSw)
                  go_simp
                  try with_reducible rfl
                try simp only [List.setIfInBounds_toArray, List.set_cons_zero, List.set_cons_succ]
                refine wpAnyH_tk (i := 12) (oi := _) (v := ?vA12) rfl rfl (by kernel_rfl) (by kernel_rfl) (by kernel_rfl) (fun _ _ _ h => h) (Or.inl ⟨by kernel_rfl, ?yA12⟩) (by assumption) ?rA12
                case yA12 =>
                  intro w hSw
                  (try dsimp only at hSw)
                  go_simp
                  try with_reducible rfl
                try simp only [List.setIfInBounds_toArray, List.set_cons_zero, List.set_cons_succ]
                refine wpAnyH_ready (rs := [13]) (by kernel_rfl) (by simp) ?_
                refine AllReadyH.cons (o := _) rfl (fun K hK => ?_) AllReadyH.nil
                rw [if_pos (by kernel_rfl)]
                go_simp
                refine hK.out _ _ hf0.2 (fun _ => ?_)
                clear hK K
                try simp only [Act.put, List.setIfInBounds_toArray, List.set_cons_zero, List.set_cons_succ]
                refine wpAnyH_done (by kernel_rfl) ?_ _
                have HFP := hide hfin
                clear hfin hrun hf0 hco0 hco0a hbag
                obtain ⟨W5, hW5⟩ : ∃ W, w4.setCell ⟨g, 6, none⟩ (.slice A9 (d.length + 1) c9) = W := ⟨_, rfl⟩
                rw [hW5] at HFP hf4
                obtain ⟨hf40, hf41⟩ := hf4
                have HNX := hide (GIP.glue HK2.out (HFP.out.trans fun T' f => f.pop_run hf40))
                rw [HM.out] at HNX
                go_wp2_with fail
                go_region
                go_wp2
                go_roundg r.length
                case measure => exact Nat.lt_of_lt_of_eq (Nat.lt_succ_self _) HQY.out.symm
                case rel => exact ⟨r, d ++ [t], rfl, HPO.out, HSP.out, (by first | exact HNX.out | exact HNX.out.drew | exact HNX.out.drew.drew | exact HNX.out.drew.drew.drew)⟩
              · rw [if_pos (by kernel_rfl)]
                go_simp
                refine hK.out _ _ hco0a (fun _ => ?_)
                clear hK K
                try simp only [Act.put, List.setIfInBounds_toArray, List.set_cons_zero, List.set_cons_succ]
                refine wpAnyH_ready (rs := [4]) (by kernel_rfl) (by simp) ?_
                refine AllReadyH.cons (o := _) rfl (fun K hK => ?_) AllReadyH.nil
                rw [if_pos (by kernel_rfl)]
                go_simp
                refine hK.out _ _ hco0a (fun _ => ?_)
                clear hK K
                try simp only [Act.put, List.setIfInBounds_toArray, List.set_cons_zero, List.set_cons_succ]
                refine wpAnyH_ready (rs := [10]) (by kernel_rfl) (by simp) ?_
                refine AllReadyH.cons (o := _) rfl (fun K hK => ?_) AllReadyH.nil
                refine step_app_run rfl _ _ rfl rfl rfl rfl hrun ?_
                refine hK.out _ _ hf0.1 (fun _ => ?_)
                clear hK K
                try simp only [Act.put, List.setIfInBounds_toArray, List.set_cons_zero, List.set_cons_succ]
                refine wpAnyH_tk (i := 11) (oi := _) (v := ?vB11) rfl rfl (by kernel_rfl) (by kernel_rfl) (by kernel_rfl) (fun _ _ _ h => h) (Or.inl ⟨by kernel_rfl, ?yB11⟩) (by assumption) ?rB11
                case yB11 =>
                  intro w hSw
                  (try dsimp only at hSw)
                  go_simp
                  try with_reducible rfl
                try simp only [List.setIfInBounds_toArray, List.set_cons_zero, List.set_cons_succ]
                refine wpAnyH_tk (i := 12) (oi := _) (v := ?vB12) rfl rfl (by kernel_rfl) (by kernel_rfl) (by kernel_rfl) (fun _ _ _ h => h) (Or.inl ⟨by kernel_rfl, ?yB12⟩) (by assumption) ?rB12
                case yB12 =>
                  intro w hSw
                  (try dsimp only at hSw)
                  go_simp
                  try with_reducible rfl
                try simp only [List.setIfInBounds_toArray, List.set_cons_zero, List.set_cons_succ]
                refine wpAnyH_ready (rs := [13]) (by kernel_rfl) (by simp) ?_
                refine AllReadyH.cons (o := _) rfl (fun K hK => ?_) AllReadyH.nil
                rw [if_pos (by kernel_rfl)]
                go_simp
                refine hK.out _ _ hf0.2 (fun _ => ?_)
                clear hK K
                try simp only [Act.put, List.setIfInBounds_toArray, List.set_cons_zero, List.set_cons_succ]
                refine wpAnyH_done (by kernel_rfl) ?_ _
                have HFP := hide hfin
                clear hfin hrun hf0 hco0 hco0a hbag
                obtain ⟨W5, hW5⟩ : ∃ W, w4.setCell ⟨g, 6, none⟩ (.slice A9 (d.length + 1) c9) = W := ⟨_, rfl⟩
                rw [hW5] at HFP hf4
                obtain ⟨hf40, hf41⟩ := hf4
                have HNX := hide (GIP.glue HK2.out (HFP.out.trans fun T' f => f.pop_run hf40))
                rw [HM.out] at HNX
                go_wp2_with fail
                go_region
                go_wp2
                go_roundg r.length
                case measure => exact Nat.lt_of_lt_of_eq (Nat.lt_succ_self _) HQY.out.symm
                case rel => exact ⟨r, d ++ [t], rfl, HPO.out, HSP.out, (by first | exact HNX.out | exact HNX.out.drew | exact HNX.out.drew.drew | exact HNX.out.drew.drew.drew)⟩
            | cons n ns =>
              obtain ⟨gs, o, rfl, hgs, hcn⟩ := hsn 0 n rfl
              rw [Nat.add_zero] at hcn
              have HSX := hide HSY.out.next
              have HPS := hide (pop_sum HPO.out)
              have HNX := hide (fun (o' c' : Nat) (ho : ns = [] ∨ o' = o + 1) (hc' : ns.length ≤ c') => GIP.glue HK2.out (f2.next_run (bw := bw) hc4 (by rw [HM.out]; exact hco1) ho hc'))
              simp only [List.length_cons] at hco1 hcn0
              have HNL := hide (show ns.length = 0 → ns = [] from List.eq_nil_of_length_eq_zero)
              obtain ⟨l, hl⟩ : ∃ l, ns.length = l := ⟨_, rfl⟩
              rw [hl] at hco1 hcn0 HNL
              rw [HM.out, hl] at HNX
              have hli0 : (0 : Int) < (l : Int) + 1 := by omega
              have HMX := hide (show mu ⟨(t, ns) :: r, s1.met, d⟩ < gkx from by
                have h1 := HPS.out
                have h2 := HM1.out
                unfold mu at h2 ⊢
                dsimp only
                omega)
              clear hm hqy hsy hsm hsl f2 k2 gr2 hsn hl
              by_cases hc1 : cn = 1
              · subst hc1
                obtain rfl : l = 0 := by omega
                have HN2 := hide (HNX.out o 0 (.inl (HNL.out rfl)) (Nat.le_refl _))
                clear HNX
                go_wp2_with fail
                go_region
                go_wp2_with fail
                go_region
                go_wp2_with fail
                go_roundg (mu ⟨(t, ns) :: r, s1.met, d⟩)
                case measure => exact HGK.out.symm ▸ HMX.out
                case rel => exact ⟨_, n, rfl, rfl, HSX.out.2, fun r c h => HGO.out r c (.more HE2.out HPO.out h), HSX.out.1, (by first | exact HN2.out | exact HN2.out.drew | exact HN2.out.drew.drew | exact HN2.out.drew.drew.drew)⟩
              · have hcc : (1 : Int) ≤ (cn : Int) := by omega
                have HN2 := hide (HNX.out (o + 1) (cn - 1) (.inr rfl) (by omega))
                clear HNX
                go_wp2_with fail
                go_region
                go_wp2_with fail
                go_region
                go_wp2_with fail
                go_roundg (mu ⟨(t, ns) :: r, s1.met, d⟩)
                case measure => exact HGK.out.symm ▸ HMX.out
                case rel => exact ⟨_, n, rfl, rfl, HSX.out.2, fun r c h => HGO.out r c (.more HE2.out HPO.out h), HSX.out.1, (by first | exact HN2.out | exact HN2.out.drew | exact HN2.out.drew.drew | exact HN2.out.drew.drew.drew)⟩
    | false =>
      go_wp2_with fail
      refine HMY.out.mono ?_
      rintro e w2 ⟨rfl, hb2⟩
      obtain ⟨mm, hmm⟩ : ∃ c, mayF P is x' s' = c := ⟨_, rfl⟩
      rw [hmm]
      by_cases hm0 : mm = 0
      case neg =>
        have HE := hide (show GoR P is x' s' s' mm from .err (by rw [ent_no HCB.out (by rw [hmm]; exact hm0), hmm]) hm0)
        have HG2 := hide (show GIP w0 C g b s' T w w2 from GIP.glue HK1.out (HF1.out.toP hb2))
        have HM0 := hide hm0
        obtain ⟨t1, t2⟩ := ne0 hm0
        clear hm0 hmm hb2
        go_wp2
        (try rw [Exit.noGoto_ret])
        go_ret
        exact ⟨s', mm, HGO.out _ _ HE.out, rfl, (fun h => absurd h HM0.out), HG2.out⟩
      subst hm0
      obtain ⟨hey, hl1, hl2⟩ := ent_yes (P := P) (is := is) HCB.out hmm
      have hnm : x' ∉ s'.met := fun h => by
        have := (Lib.containsS_iff _ _).2 h
        rw [HCB.out] at this; cases this
      have hen2 := enter_any w0 C P is Gd HG.out g b s' T1 x' w2 (HF1.out.step hb2) HGX.out hnm (by omega) (by omega)
      have HEN2 := hide hen2
      have HB2 := hide hb2
      obtain ⟨s1, hs1⟩ : ∃ s1 : Se, (⟨(x', (P x').needs) :: s'.way, s'.met ++ [x'], s'.done⟩ : Se) = s1 := ⟨_, rfl⟩
      rw [hs1] at HEN2 hey
      have HE2 := hide hey
      have HS1 := hide (show SeOk Gd s1 from hs1 ▸ HSO.out.ent hl1 hl2 (fun y hy => HG.out.next x' HGX.out y hy))
      have HM1 := hide (show mu s1 ≤ gk by
        have h1 := HG.out.len x' HGX.out
        rw [HMU.out, ← hs1]
        unfold mu ndsum
        simp only [List.length_append, List.length_singleton, List.map_cons, List.sum_cons]
        omega)
      clear hen2 hey hl1 hl2 hnm hs1 hmm hb2
      go_wp2_with fail
      refine HEN2.out.mono ?_
      rintro e w3 ⟨rfl, hg3⟩
      have HG1 := hide (show GIP w0 C g b s1 T w w3 from GIP.glue HK1.out (by
        obtain ⟨T', f, k, gr⟩ := hg3
        exact ⟨T', f, (Kp.of_below HB2.out T1).trans (k.mono fun q hq => .inl hq), fun q hq => (gr q hq).imp_right (Nat.le_trans HB2.out.size)⟩))
      obtain ⟨gkx, hgkx⟩ : ∃ q, gk = q := ⟨_, rfl⟩
      rw [hgkx] at HM1
      have HGK := hide hgkx
      clear hg3 HEN2 HB2 HWT HMY HEN HF1 HK1 HCB hlk hc5 hgkx
      go_wp2_with fail
      go_loopg [5, 7] s1.way.length (fun q _ _ wz => ∃ (wy : List Opn) (d : List ByteArray), q = wy.length ∧ Hid (popF s1.way s1.done = popF wy d) ∧ Hid (SeOk Gd ⟨wy, s1.met, d⟩) ∧ GIP w0 C g b ⟨wy, s1.met, d⟩ T w wz)
      case atStart => exact ⟨s1.way, s1.done, rfl, rfl, HS1.out, HG1.out⟩
      case round =>
        obtain ⟨wy, d, hqy, HPO, HSY, hgy⟩ := hrel
        generalize wr = wz at *
        obtain ⟨T2, f2, k2, gr2⟩ := hgy
        have HF2 := hide f2
        have HK2 := hide (And.intro k2 gr2)
        cases wy with
        | nil =>
          obtain ⟨A4, c4, A6, c6, hc4, _⟩ := f2.cells
          simp only [List.length_nil] at hc4
          clear f2 k2 gr2 hqy
          have HR := hide (HGO.out _ _ (GoR.fin HE2.out HPO.out))
          have HGZ := hide (show GIP w0 C g b ⟨[], s1.met, d⟩ T w wz from ⟨T2, HF2.out, HK2.out.1, HK2.out.2⟩)
          go_wp2
          (try rw [Exit.noGoto_ret])
          go_ret
          exact ⟨_, 0, HR.out, rfl, fun _ => HSY.out, HGZ.out⟩
        | cons o r =>
          obtain ⟨t, ns⟩ := o
          obtain ⟨bw, c4, An, cn, hc4, hbg, hsn, hco0, hco1, hfr, hcw, hcn0⟩ := f2.top
          obtain ⟨A4', c4', A6, c6, _, hc6, _, hfz, _⟩ := f2.cells
          dsimp only at hc6
          have hsy := HSY.out.way
          have hsm := HSY.out.sum
          have hsl := HSY.out.met
          simp only [List.length_cons] at hsy hsm
          obtain ⟨m, hm⟩ : ∃ m, r.length = m := ⟨_, rfl⟩
          have HM := hide hm
          have HQY := hide hqy
          rw [hm] at hc4 hco0 hco1 hfr hsy hsm
          have hml : m ≤ 199 := by omega
          have hdl : d.length ≤ 1000 := by dsimp only at hsl; omega
          have hmi : (m : Int) ≤ 199 := by omega
          have hwr : IntKind.i64.wrap ((m : Int) + 1 - 1) = (m : Int) := by rw [show (m : Int) + 1 - 1 = (m : Int) by omega]; exact IntWalk.i64_in _ (by omega)
          rw [hm] at hcw
          have hcwi : (m : Int) ≤ (c4 : Int) := by omega
          have hwr2 : IntKind.i64.wrap (m : Int) = (m : Int) := IntWalk.i64_in _ (by omega)
          have hidx0 : (0 : Int) ≤ (m : Int) := by omega
          have hidx1 : (m : Int) < (m : Int) + 1 := by omega
          cases ns with
          | nil =>
            simp only [List.length_nil] at hco1
            have HSP := hide HSY.out.pop
            clear hm hqy hsy hsm hsl f2 k2 gr2 hsn hfr
            go_wp2_with fail
            go_region
            go_wp2_with fail
            obtain ⟨A9, c9, w4, hrun, hf6, hbag, hf4, hfin⟩ := HF2.out.fin_run (w2 := wz.drew.drew) (Below.refl _ _).drew.drew hc6 hc4 hdl t
            obtain ⟨hf60, hf61⟩ := hf6
            have hf0 := hbag _ _ hco0
            have hco0a : (wz.drew.drew.alloc (.cells #[.string t] 9)).cell? ⟨bw, m * 2, none⟩ = some (.string t) := ((Below.refl wz.heap.size wz).drew.drew.alloc (Nat.le_refl _) _ |>.cell (p := ⟨bw, m * 2, none⟩) (World.block_lt_of_cell? _ _ hco0)).trans hco0
            have hc6a : (wz.alloc (.cells #[.string t] 9)).cell? ⟨g, 6, none⟩ = some (.slice A6 d.length c6) := ((Below.refl wz.heap.size wz).alloc (Nat.le_refl _) _ |>.cell (p := ⟨g, 6, none⟩) (World.block_lt_of_cell? _ _ hc6)).trans hc6
            refine wp_region_held_drew (S := (fun w' => w'.cell? ⟨bw, m * 2, none⟩ = some (.string t))) (by kernel_rfl) hco0 (fun hHeld => ?_)
            refine wpAnyH_tk (i := 0) (oi := _) (v := ?vZ0) rfl rfl (by kernel_rfl) (by kernel_rfl) (by kernel_rfl) (fun _ _ _ h => h) (Or.inl ⟨by kernel_rfl, ?yZ0⟩) (by assumption) ?rZ0
            case yZ0 =>
              intro w hSw
              (try dsimp only at hSw)
              go_simp
              try with_reducible rfl
            try simp only [List.setIfInBounds_toArray, List.set_cons_zero, List.set_cons_succ]
            refine wpAnyH_tk (i := 1) (oi := _) (v := ?vZ1) rfl rfl (by kernel_rfl) (by kernel_rfl) (by kernel_rfl) (fun _ _ _ h => h) (Or.inl ⟨by kernel_rfl, ?yZ1⟩) (by assumption) ?rZ1
            case yZ1 =>
              intro w hSw
              (try dsimp only at hSw)
              go_simp
              try with_reducible rfl
            try simp only [List.setIfInBounds_toArray, List.set_cons_zero, List.set_cons_succ]
            refine wpAnyH_tk (i := 2) (oi := _) (v := ?vZ2) rfl rfl (by kernel_rfl) (by kernel_rfl) (by kernel_rfl) (fun _ _ _ h => h) (Or.inl ⟨by kernel_rfl, ?yZ2⟩) (by assumption) ?rZ2
            case yZ2 =>
              intro w hSw
              (try dsimp only at hSw)
              go_simp
              try with_reducible rfl
            try simp only [List.setIfInBounds_toArray, List.set_cons_zero, List.set_cons_succ]
            refine wpAnyH_tk (i := 3) (oi := _) (v := ?vZ3) rfl rfl (by kernel_rfl) (by kernel_rfl) (by kernel_rfl) (fun _ _ _ h => h) (Or.inl ⟨by kernel_rfl, ?yZ3⟩) (by assumption) ?rZ3
            case yZ3 =>
              intro w hSw
              (try dsimp only at hSw)
              go_simp
              try with_reducible rfl
            try simp only [List.setIfInBounds_toArray, List.set_cons_zero, List.set_cons_succ]
            refine wpAnyH_tk (i := 5) (oi := _) (v := ?vZ5) rfl rfl (by kernel_rfl) (by kernel_rfl) (by kernel_rfl) (fun _ _ _ h => h) (Or.inl ⟨by kernel_rfl, ?yZ5⟩) (by assumption) ?rZ5
            case yZ5 =>
              intro w hSw
              (try dsimp only at hSw)
              go_simp
              try with_reducible rfl
            try simp only [List.setIfInBounds_toArray, List.set_cons_zero, List.set_cons_succ]
            refine wpAnyH_tk (i := 6) (oi := _) (v := ?vZ6) rfl rfl (by kernel_rfl) (by kernel_rfl) (by kernel_rfl) (fun _ _ _ h => h) (Or.inl ⟨by kernel_rfl, ?yZ6⟩) (by assumption) ?rZ6
            case yZ6 =>
              intro w hSw
              (try dsimp only at hSw)
              go_simp
              try with_reducible rfl
            try simp only [List.setIfInBounds_toArray, List.set_cons_zero, List.set_cons_succ]
            refine wpAnyH_tk (i := 7) (oi := _) (v := ?vZ7) rfl rfl (by kernel_rfl) (by kernel_rfl) (by kernel_rfl) (fun _ _ _ h => h) (Or.inl ⟨by kernel_rfl, ?yZ7⟩) (by assumption) ?rZ7
            case yZ7 =>
              intro w hSw
              (try dsimp only at hSw)
              go_simp
              try with_reducible rfl
            try simp only [List.setIfInBounds_toArray, List.set_cons_zero, List.set_cons_succ]
            refine wpAnyH_tk (i := 8) (oi := _) (v := ?vZ8) rfl rfl (by kernel_rfl) (by kernel_rfl) (by kernel_rfl) (fun _ _ _ h => h) (Or.inl ⟨by kernel_rfl, ?yZ8⟩) (by assumption) ?rZ8
            case yZ8 =>
              intro w hSw
              (try dsimp only at hSw)
              go_simp
              try with_reducible rfl
            try simp only [List.setIfInBounds_toArray, List.set_cons_zero, List.set_cons_succ]
            refine wpAnyH_ready (rs := [4, 9]) (by kernel_rfl) (by simp) ?_
            refine AllReadyH.cons (o := _) rfl (fun K hK => ?_) (AllReadyH.cons (o := _) rfl (fun K hK => ?_) AllReadyH.nil)
            · rw [if_pos (by kernel_rfl)]
              go_simp
              refine hK.out _ _ hco0 (fun _ => ?_)
              clear hK K
              try simp only [Act.put, List.setIfInBounds_toArray, List.set_cons_zero, List.set_cons_succ]
              refine wpAnyH_ready (rs := [9]) (by kernel_rfl) (by simp) ?_
              refine AllReadyH.cons (o := _) rfl (fun K hK => ?_) AllReadyH.nil
              rw [if_pos (by kernel_rfl)]
              go_simp
              refine hK.out _ _ hco0a (fun _ => ?_)
              clear hK K
              try simp only [Act.put, List.setIfInBounds_toArray, List.set_cons_zero, List.set_cons_succ]
              refine wpAnyH_ready (rs := [10]) (by kernel_rfl) (by simp) ?_
              refine AllReadyH.cons (o := _) rfl (fun K hK => ?_) AllReadyH.nil
              refine step_app_run rfl _ _ rfl rfl rfl rfl hrun ?_
              refine hK.out _ _ hf0.1 (fun _ => ?_)
              clear hK K
              try simp only [Act.put, List.setIfInBounds_toArray, List.set_cons_zero, List.set_cons_succ]
              refine wpAnyH_tk (i := 11) (oi := _) (v := ?vZA11) rfl rfl (by kernel_rfl) (by kernel_rfl) (by kernel_rfl) (fun _ _ _ h => h) (Or.inl ⟨by kernel_rfl, ?yZA11⟩) (by assumption) ?rZA11
              case yZA11 =>
                intro w hSw
                (try dsimp only at hSw)
                go_simp
                try with_reducible rfl
              try simp only [List.setIfInBounds_toArray, List.set_cons_zero, List.set_cons_succ]
              refine wpAnyH_tk (i := 12) (oi := _) (v := ?vZA12) rfl rfl (by kernel_rfl) (by kernel_rfl) (by kernel_rfl) (fun _ _ _ h => h) (Or.inl ⟨by kernel_rfl, ?yZA12⟩) (by assumption) ?rZA12
              case yZA12 =>
                intro w hSw
                (try dsimp only at hSw)
                go_simp
                try with_reducible rfl
              try simp only [List.setIfInBounds_toArray, List.set_cons_zero, List.set_cons_succ]
              refine wpAnyH_ready (rs := [13]) (by kernel_rfl) (by simp) ?_
              refine AllReadyH.cons (o := _) rfl (fun K hK => ?_) AllReadyH.nil
              rw [if_pos (by kernel_rfl)]
              go_simp
              refine hK.out _ _ hf0.2 (fun _ => ?_)
              clear hK K
              try simp only [Act.put, List.setIfInBounds_toArray, List.set_cons_zero, List.set_cons_succ]
              refine wpAnyH_done (by kernel_rfl) ?_ _
              have HFP := hide hfin
              clear hfin hrun hf0 hco0 hco0a hbag
              obtain ⟨W5, hW5⟩ : ∃ W, w4.setCell ⟨g, 6, none⟩ (.slice A9 (d.length + 1) c9) = W := ⟨_, rfl⟩
              rw [hW5] at HFP hf4
              obtain ⟨hf40, hf41⟩ := hf4
              have HNX := hide (GIP.glue HK2.out (HFP.out.trans fun T' f => f.pop_run hf40))
              rw [HM.out] at HNX
              go_wp2_with fail
              go_region
              go_wp2
              go_roundg r.length
              case measure => exact Nat.lt_of_lt_of_eq (Nat.lt_succ_self _) HQY.out.symm
              case rel => exact ⟨r, d ++ [t], rfl, HPO.out, HSP.out, (by first | exact HNX.out | exact HNX.out.drew | exact HNX.out.drew.drew | exact HNX.out.drew.drew.drew)⟩
            · rw [if_pos (by kernel_rfl)]
              go_simp
              refine hK.out _ _ hco0a (fun _ => ?_)
              clear hK K
              try simp only [Act.put, List.setIfInBounds_toArray, List.set_cons_zero, List.set_cons_succ]
              refine wpAnyH_ready (rs := [4]) (by kernel_rfl) (by simp) ?_
              refine AllReadyH.cons (o := _) rfl (fun K hK => ?_) AllReadyH.nil
              rw [if_pos (by kernel_rfl)]
              go_simp
              refine hK.out _ _ hco0a (fun _ => ?_)
              clear hK K
              try simp only [Act.put, List.setIfInBounds_toArray, List.set_cons_zero, List.set_cons_succ]
              refine wpAnyH_ready (rs := [10]) (by kernel_rfl) (by simp) ?_
              refine AllReadyH.cons (o := _) rfl (fun K hK => ?_) AllReadyH.nil
              refine step_app_run rfl _ _ rfl rfl rfl rfl hrun ?_
              refine hK.out _ _ hf0.1 (fun _ => ?_)
              clear hK K
              try simp only [Act.put, List.setIfInBounds_toArray, List.set_cons_zero, List.set_cons_succ]
              refine wpAnyH_tk (i := 11) (oi := _) (v := ?vZB11) rfl rfl (by kernel_rfl) (by kernel_rfl) (by kernel_rfl) (fun _ _ _ h => h) (Or.inl ⟨by kernel_rfl, ?yZB11⟩) (by assumption) ?rZB11
              case yZB11 =>
                intro w hSw
                (try dsimp only at hSw)
                go_simp
                try with_reducible rfl
              try simp only [List.setIfInBounds_toArray, List.set_cons_zero, List.set_cons_succ]
              refine wpAnyH_tk (i := 12) (oi := _) (v := ?vZB12) rfl rfl (by kernel_rfl) (by kernel_rfl) (by kernel_rfl) (fun _ _ _ h => h) (Or.inl ⟨by kernel_rfl, ?yZB12⟩) (by assumption) ?rZB12
              case yZB12 =>
                intro w hSw
                (try dsimp only at hSw)
                go_simp
                try with_reducible rfl
              try simp only [List.setIfInBounds_toArray, List.set_cons_zero, List.set_cons_succ]
              refine wpAnyH_ready (rs := [13]) (by kernel_rfl) (by simp) ?_
              refine AllReadyH.cons (o := _) rfl (fun K hK => ?_) AllReadyH.nil
              rw [if_pos (by kernel_rfl)]
              go_simp
              refine hK.out _ _ hf0.2 (fun _ => ?_)
              clear hK K
              try simp only [Act.put, List.setIfInBounds_toArray, List.set_cons_zero, List.set_cons_succ]
              refine wpAnyH_done (by kernel_rfl) ?_ _
              have HFP := hide hfin
              clear hfin hrun hf0 hco0 hco0a hbag
              obtain ⟨W5, hW5⟩ : ∃ W, w4.setCell ⟨g, 6, none⟩ (.slice A9 (d.length + 1) c9) = W := ⟨_, rfl⟩
              rw [hW5] at HFP hf4
              obtain ⟨hf40, hf41⟩ := hf4
              have HNX := hide (GIP.glue HK2.out (HFP.out.trans fun T' f => f.pop_run hf40))
              rw [HM.out] at HNX
              go_wp2_with fail
              go_region
              go_wp2
              go_roundg r.length
              case measure => exact Nat.lt_of_lt_of_eq (Nat.lt_succ_self _) HQY.out.symm
              case rel => exact ⟨r, d ++ [t], rfl, HPO.out, HSP.out, (by first | exact HNX.out | exact HNX.out.drew | exact HNX.out.drew.drew | exact HNX.out.drew.drew.drew)⟩
          | cons n ns =>
            obtain ⟨gs, o, rfl, hgs, hcn⟩ := hsn 0 n rfl
            rw [Nat.add_zero] at hcn
            have HSX := hide HSY.out.next
            have HPS := hide (pop_sum HPO.out)
            have HNX := hide (fun (o' c' : Nat) (ho : ns = [] ∨ o' = o + 1) (hc' : ns.length ≤ c') => GIP.glue HK2.out (f2.next_run (bw := bw) hc4 (by rw [HM.out]; exact hco1) ho hc'))
            simp only [List.length_cons] at hco1 hcn0
            have HNL := hide (show ns.length = 0 → ns = [] from List.eq_nil_of_length_eq_zero)
            obtain ⟨l, hl⟩ : ∃ l, ns.length = l := ⟨_, rfl⟩
            rw [hl] at hco1 hcn0 HNL
            rw [HM.out, hl] at HNX
            have hli0 : (0 : Int) < (l : Int) + 1 := by omega
            have HMX := hide (show mu ⟨(t, ns) :: r, s1.met, d⟩ < gkx from by
              have h1 := HPS.out
              have h2 := HM1.out
              unfold mu at h2 ⊢
              dsimp only
              omega)
            clear hm hqy hsy hsm hsl f2 k2 gr2 hsn hl
            by_cases hc1 : cn = 1
            · subst hc1
              obtain rfl : l = 0 := by omega
              have HN2 := hide (HNX.out o 0 (.inl (HNL.out rfl)) (Nat.le_refl _))
              clear HNX
              go_wp2_with fail
              go_region
              go_wp2_with fail
              go_region
              go_wp2_with fail
              go_roundg (mu ⟨(t, ns) :: r, s1.met, d⟩)
              case measure => exact HGK.out.symm ▸ HMX.out
              case rel => exact ⟨_, n, rfl, rfl, HSX.out.2, fun r c h => HGO.out r c (.more HE2.out HPO.out h), HSX.out.1, (by first | exact HN2.out | exact HN2.out.drew | exact HN2.out.drew.drew | exact HN2.out.drew.drew.drew)⟩
            · have hcc : (1 : Int) ≤ (cn : Int) := by omega
              have HN2 := hide (HNX.out (o + 1) (cn - 1) (.inr rfl) (by omega))
              clear HNX
              go_wp2_with fail
              go_region
              go_wp2_with fail
              go_region
              go_wp2_with fail
              go_roundg (mu ⟨(t, ns) :: r, s1.met, d⟩)
              case measure => exact HGK.out.symm ▸ HMX.out
              case rel => exact ⟨_, n, rfl, rfl, HSX.out.2, fun r c h => HGO.out r c (.more HE2.out HPO.out h), HSX.out.1, (by first | exact HN2.out | exact HN2.out.drew | exact HN2.out.drew.drew | exact HN2.out.drew.drew.drew)⟩
end Go.Proofs.YtmblmenafplccaaGreatDoor
