/- Texts of mine, joined (FindWalkH, FindWalkI, FindWalkJ, TraceWalkB, RefPlanM, ContRule, FindWalkB, Ref18A, AgeWalkA, Ref18B, RefPlanA, RefPlanB, RefPlanC): walks and plain facts that the claim uses, each as its own comment says. -/
import Derived.Test.YtaajofojbhdgaaaGreatDoorPTraceTellsProof5
import Derived.Deep.RegionHeld3
import Derived.Lib.IndexBytes
import Derived.Deep.LoopGhost
/- Walk of the finder's suffix. -/
namespace Go.Proofs.YtaajofojbhdgaaaGreatDoor
open Go.RowKit Go.Deep Go.Maps Ln Pth Vf
attribute [local go_sem] bt_eq

def sufT (S : St) (cwd : Ln.T) (kl : List ByteArray) (target : Ln.T) (R : Ln.T × Ln.T × Bool) (rc : List ByteArray) (p : Pn) : Option Pn :=
  if R.2.2 = false then none else
  if Lib.hasSuffix target R.2.1 = false then none else
  if target.length ≤ R.2.1.length then none else
  if Lib.trimSuffix target R.2.1 ++ R.1 = target then none else
  if kindT S cwd (Lib.trimSuffix target R.2.1 ++ R.1) ≠ 1 ∧ Lib.containsS kl (bs (Lib.trimSuffix target R.2.1 ++ R.1)) = false then none else
  some (takesF p [bs (Lib.trimSuffix target R.2.1 ++ R.1)] rc (Lib.trimSuffix target R.2.1))
theorem sufO_1 {S : St} {cwd target : Ln.T} {kl l : List ByteArray} {r : Rl} {p : Pn} (h : plainR r.tg.2.2 = false) : sufO S cwd kl target l r p = none := by
  unfold sufO; rw [if_pos h]
theorem sufO_2 {S : St} {cwd target : Ln.T} {kl l : List ByteArray} {r : Rl} {p : Pn} (h : 0 < r.nd.2.2.length) : sufO S cwd kl target l r p = none := by
  unfold sufO
  rw [if_pos h]
  exact ite_self _
theorem sufO_3 {S : St} {cwd target : Ln.T} {kl l : List ByteArray} {r : Rl} {p : Pn} (h : r.tg.2.2.length ≠ 1) : sufO S cwd kl target l r p = none := by
  unfold sufO
  split
  · rfl
  · split
    · rfl
    · split
      · rename_i t ht
        rw [ht] at h
        exact absurd rfl h
      · rfl
theorem sufO_4 {S : St} {cwd target : Ln.T} {kl l : List ByteArray} {r : Rl} {p : Pn} {t : ByteArray} (h1 : plainR r.tg.2.2 = true) (h2 : r.nd.2.2 = []) (h3 : r.tg.2.2 = [t]) : sufO S cwd kl target l r p = if specT t.data.toList = true then none else if Lib.hasPrefix t.data.toList [46] = false then none else sufT S cwd kl target (twoF t.data.toList l) r.rc.2.2 p := by
  unfold sufO
  rw [if_neg (by rw [h1]; simp), if_neg (by rw [h2]; simp)]
  simp only [h3]
  rfl
theorem twoGo_len {B : Nat} {all : List ByteArray} {t : Ln.T} (ht : t.length ≤ B) : ∀ l : List ByteArray, (∀ x ∈ l, x.size ≤ B) → (twoGo all t l).1.length ≤ B ∧ (twoGo all t l).2.1.length ≤ B
  | [], _ => by unfold twoGo; exact ⟨ht, Nat.zero_le _⟩
  | a :: l, h => by
    unfold twoGo
    split
    · exact ⟨by rw [data_len]; exact h a (by simp), by rw [List.length_drop]; omega⟩
    · exact twoGo_len ht l (fun x hx => h x (by simp [hx]))
theorem trimSuffix_len (s p : Ln.T) : (Lib.trimSuffix s p).length ≤ s.length := by
  unfold Lib.trimSuffix
  split
  · rw [List.length_take]; omega
  · exact Nat.le_refl _
theorem tsuf_any (s p : Ln.T) (w : World) (hs : s.length ≤ 6600000) : Calls Tryz.prog 128 #[.string (bs s), .string (bs p)] w fun e w' => e = .returned (.string (bs (Lib.trimSuffix s p))) ∧ w = w' := by
  refine (Tryz.strings_TrimSuffix (bs s) (bs p) w (by rw [bs_size]; omega)).mono ?_
  rintro e w' ⟨h1, h2⟩
  rw [bs_list, bs_list] at h1
  exact ⟨h1, h2.symm⟩
set_option linter.unusedSimpArgs false in
set_option maxRecDepth 100000 in
set_option maxHeartbeats 4000000 in
theorem suffix_any (w0 : World) (C : Cf) (g b : Nat) (kl : List ByteArray) (p : Pn) (T : Nat → Prop) (r : Rl) (lA : Option Addr) (lc : Nat) (lL : List ByteArray) (w : World) (hok : CfOk C w) (h : FI w0 C g (some b) kl p T w) (hr : RlOk w0 r) (hz : ∀ x ∈ r.tg.2.2, x.size ≤ 10000) (hL : SR w lA lL) (hls : ∀ s ∈ lL, s.size ≤ 10000) (hll : lL.length ≤ 100000) (hl : p.needs.length ≤ 700000) :
    Calls Tryz.prog 109 #[.pointer (some ⟨g, 0, none⟩), .agg #[sv r.tg, sv r.nd, sv r.rc], .slice lA lL.length lc] w (TryP w0 C g b kl p T (sufO C.S C.cwd kl C.target lL r p) w) := by
  have hb0 := h.below
  have hbs : w0.heap.size ≤ w.heap.size := hb0.size
  have HPL := hide (fun W (hb : Below w.heap.size w W) => plain_any r W ((hr.below hb0).below hb))
  have H1 := hide (fun h => sufO_1 (S := C.S) (cwd := C.cwd) (kl := kl) (target := C.target) (l := lL) (r := r) (p := p) h)
  have H2 := hide (fun h => sufO_2 (S := C.S) (cwd := C.cwd) (kl := kl) (target := C.target) (l := lL) (r := r) (p := p) h)
  have H3 := hide (fun h => sufO_3 (S := C.S) (cwd := C.cwd) (kl := kl) (target := C.target) (l := lL) (r := r) (p := p) h)
  have H4 := hide (fun t h1 h2 h3 => sufO_4 (S := C.S) (cwd := C.cwd) (kl := kl) (target := C.target) (l := lL) (r := r) (p := p) (t := t) h1 h2 h3)
  generalize sufO C.S C.cwd kl C.target lL r p = R at *
  obtain ⟨⟨tA, tc, tL⟩, ⟨nA, nc, nL⟩, ⟨rA, rc, rL⟩⟩ := r
  have HT := hide (fun W (hb : Below w.heap.size w W) => (hr.tg.below hb0).below hb)
  have HC := hide (fun W (hb : Below w.heap.size w W) => (hr.rc.below hb0).below hb)
  have HLL := hide (fun W (hb : Below w.heap.size w W) => hL.below hb)
  have ht1 := hr.t1
  have hn1 := hr.n1
  have hr1 := hr.r1
  have HSZ := hide hz
  have HH := hide h
  have HOK := hide hok
  obtain ⟨A6, c6, A7, c7, hg, _⟩ := h.opn
  have HG := hide hg
  have hgl := (h.tw g h.tg).2
  dsimp only at ht1 hn1 hr1 H1 H2 H3 H4
  simp only [sv] at HPL ⊢
  obtain ⟨n, hn⟩ : ∃ n, tL.length = n := ⟨_, rfl⟩
  obtain ⟨m, hm⟩ : ∃ n, nL.length = n := ⟨_, rfl⟩
  obtain ⟨q, hq⟩ : ∃ n, rL.length = n := ⟨_, rfl⟩
  obtain ⟨ll, hll2⟩ : ∃ n, lL.length = n := ⟨_, rfl⟩
  have HNN := hide hn
  have HMM := hide hm
  have HQQ := hide hq
  have HLN := hide hll2
  have HLS := hide hls
  have HLOW := hide (And.intro hr hbs)
  rw [hn] at ht1 H3
  rw [hm] at hn1 H2
  rw [hq] at hr1
  rw [hll2] at hll
  simp only [hn, hm, hq, hll2] at HPL ⊢
  have HBX := hide ((Below.refl w.heap.size w).alloc (Nat.le_refl _) (.cells #[.slice tA n tc, .slice nA m nc, .slice rA q rc] 63))
  have HNB := hide (heapNew w (.cells #[.slice tA n tc, .slice nA m nc, .slice rA q rc] 63))
  obtain ⟨p1, hp1⟩ : ∃ q, plainR tL = q := ⟨_, rfl⟩
  rw [hp1] at HPL H1
  have HP1 := hide hp1
  clear h hok hr hz hL hls hg hb0 hn hm hq hll2 hp1
  go_enter Tryz.func109, Tryz.ntmps109
  go_wp2_with fail
  obtain ⟨W, hW⟩ : ∃ W, w.alloc (.cells #[.slice tA n tc, .slice nA m nc, .slice rA q rc] 63) = W := ⟨_, rfl⟩
  rw [hW] at HBX HNB ⊢
  clear hW
  refine (HPL.out _ HBX.out).mono ?_
  rintro e w1 ⟨rfl, hb1⟩
  have HB1 := hide (below_up HBX.out hb1 HBX.out.size)
  have hnb := (hb1.block w.heap.size (Array.getElem?_eq_some_iff.1 HNB.out).1).trans HNB.out
  have HN1 := hide hnb
  have hd0 := cellOf' hnb (j := 0) rfl
  have hd1 := cellOf' hnb (j := 1) rfl
  clear hb1 hnb
  cases p1 with
  | false =>
    have HE := hide (H1.out rfl)
    go_wp2
    go_ret
    unfold TryP
    rw [HE.out]
    exact ⟨rfl, HH.out.toP HB1.out⟩
  | true =>
    by_cases m0 : m = 0
    case neg =>
      have HE := hide (H2.out (by omega))
      have d1 : decide (0 < m) = true := by simp; omega
      clear m0
      go_wp2
      go_ret
      unfold TryP
      rw [HE.out]
      exact ⟨rfl, HH.out.toP HB1.out⟩
    subst m0
    by_cases n0 : n = 1
    case neg =>
      have HE := hide (H3.out n0)
      have d1 : ¬ (n : Int) = 1 := by omega
      clear n0
      go_wp2
      go_ret
      unfold TryP
      rw [HE.out]
      exact ⟨rfl, HH.out.toP HB1.out⟩
    subst n0
    obtain ⟨t, ht⟩ : ∃ t, tL = [t] := by
      have := HNN.out
      cases tL with
      | nil => simp at this
      | cons a l => cases l with
        | nil => exact ⟨a, rfl⟩
        | cons b l => simp at this
    have hn0 : nL = [] := List.eq_nil_of_length_eq_zero HMM.out
    have H4' := hide (H4.out t HP1.out hn0 ht)
    obtain ⟨gs, o, rfl, hgs, hct⟩ := HT.out w1 HB1.out 0 t (by rw [ht]; rfl)
    rw [Nat.add_zero] at hct
    have hts := HSZ.out t (by rw [ht]; simp)
    clear H1 H2 H3 H4 HPL hn0
    have HSP := hide (isSpecial_any t.data.toList w1 (by rw [data_len]; omega))
    rw [bs_of] at HSP
    obtain ⟨sp, hsp⟩ : ∃ q, specT t.data.toList = q := ⟨_, rfl⟩
    rw [hsp] at HSP H4'
    clear hsp
    go_wp2_with fail
    refine HSP.out.mono ?_
    rintro e w2 ⟨rfl, hb2⟩
    have HB2 := hide (below_up HB1.out hb2 HB1.out.size)
    have hnb2 := (hb2.block w.heap.size (Array.getElem?_eq_some_iff.1 HN1.out).1).trans HN1.out
    have HN2 := hide hnb2
    have hd02 : w2.cell? ⟨w.heap.size, 0, none⟩ = some (.slice (some ⟨gs, o, none⟩) 1 tc) := cellOf' hnb2 (j := 0) rfl
    have hct2 : w2.cell? ⟨gs, o, none⟩ = some (.string t) := (hb2.cell (p := ⟨gs, o, none⟩) hgs).trans hct
    clear hb2 hnb2 hd0 hd1 hct
    cases sp with
    | true =>
      have HE := hide (H4'.out.trans (if_pos rfl))
      go_wp2
      go_ret
      unfold TryP
      rw [HE.out]
      exact ⟨rfl, HH.out.toP HB2.out⟩
    | false =>
      have h5 := H4'.out.trans (if_neg (by simp))
      have HPR := hide (fun W => hpre_any t.data.toList [46] W)
      rw [bs_of, show bs [46] = ⟨#[46]⟩ from rfl] at HPR
      obtain ⟨hp, hhp⟩ : ∃ q, Lib.hasPrefix t.data.toList [46] = q := ⟨_, rfl⟩
      rw [hhp] at HPR h5
      have H5 := hide h5
      clear h5 hhp H4'
      go_wp2_with fail
      refine (HPR.out w2).mono ?_
      rintro e w' ⟨rfl, rfl⟩
      cases hp with
      | false =>
        have HE := hide (H5.out.trans (if_pos rfl))
        go_wp2
        go_ret
        unfold TryP
        rw [HE.out]
        exact ⟨rfl, HH.out.toP HB2.out⟩
      | true =>
        have HTW := hide (two_any t.data.toList lA lc lL w2 (HLL.out w2 HB2.out) (by have := HLN.out; omega) (fun x hx => by have := HLS.out x hx; omega) (by rw [data_len]; omega))
        rw [bs_of, HLN.out] at HTW
        have htl : (twoF t.data.toList lL).1.length ≤ 10000 ∧ (twoF t.data.toList lL).2.1.length ≤ 10000 := twoGo_len (by rw [data_len]; exact hts) lL HLS.out
        have h6 := H5.out.trans (if_neg (by simp))
        obtain ⟨⟨fa, fb, fo⟩, hfo⟩ : ∃ q, twoF t.data.toList lL = q := ⟨_, rfl⟩
        rw [hfo] at HTW htl h6
        have H6 := hide (show R = if fo = false then none else if Lib.hasSuffix C.target fb = false then none else if C.target.length ≤ fb.length then none else if Lib.trimSuffix C.target fb ++ fa = C.target then none else if kindT C.S C.cwd (Lib.trimSuffix C.target fb ++ fa) ≠ 1 ∧ Lib.containsS kl (bs (Lib.trimSuffix C.target fb ++ fa)) = false then none else some (takesF p [bs (Lib.trimSuffix C.target fb ++ fa)] rL (Lib.trimSuffix C.target fb)) from h6)
        unfold TwoPost at HTW
        dsimp only at HTW htl
        obtain ⟨hfa, hfb⟩ := htl
        clear h6 hfo H5
        go_wp2_with fail
        refine HTW.out.mono ?_
        rintro e w3 ⟨rfl, hb3⟩
        have HB3 := hide (below_up HB2.out hb3 HB2.out.size)
        have hgr := (HB3.out.block g hgl).trans HG.out
        have hc4 : w3.cell? ⟨g, 3, none⟩ = some (.string (bs C.cwd)) := cellOf hgr (j := 3) rfl
        have hc5 : w3.cell? ⟨g, 4, none⟩ = some (.string (bs C.target)) := cellOf hgr (j := 4) rfl
        have hc3 : w3.cell? ⟨g, 2, none⟩ = some (.pointer (some ⟨C.gf, 0, none⟩)) := cellOf hgr (j := 2) rfl
        have hc6 : w3.cell? ⟨g, 5, none⟩ = some (.map (some b)) := cellOf hgr (j := 5) rfl
        have hnb3 := (hb3.block w.heap.size (Array.getElem?_eq_some_iff.1 HN2.out).1).trans HN2.out
        have hd23 : w3.cell? ⟨w.heap.size, 2, none⟩ = some (.slice rA q rc) := cellOf' hnb3 (j := 2) rfl
        clear hb3 hgr hnb3 hct2 hd02
        cases fo with
        | false =>
          have HE := hide (H6.out.trans (if_pos rfl))
          go_wp2
          go_ret
          unfold TryP
          rw [HE.out]
          exact ⟨rfl, HH.out.toP HB3.out⟩
        | true =>
          have h7 := H6.out.trans (if_neg (by simp))
          have htl := HOK.out.t1
          have HSU := hide (fun W => hsuf_any C.target fb W (by omega))
          obtain ⟨hs, hhs⟩ : ∃ q, Lib.hasSuffix C.target fb = q := ⟨_, rfl⟩
          rw [hhs] at HSU h7
          have H7 := hide h7
          clear h7 hhs H6
          go_wp2_with fail
          refine (HSU.out w3).mono ?_
          rintro e w' ⟨rfl, rfl⟩
          cases hs with
          | false =>
            have HE := hide (H7.out.trans (if_pos rfl))
            go_wp2
            go_ret
            unfold TryP
            rw [HE.out]
            exact ⟨rfl, HH.out.toP HB3.out⟩
          | true =>
            have h8 := H7.out.trans (if_neg (by simp))
            have zt : (bs C.target).size = C.target.length := bs_size _
            have zb : (bs fb).size = fb.length := bs_size _
            have HTS := hide (fun W => tsuf_any C.target fb W (by omega))
            have hstl := trimSuffix_len C.target fb
            obtain ⟨st, hst⟩ : ∃ q, Lib.trimSuffix C.target fb = q := ⟨_, rfl⟩
            rw [hst] at HTS h8 hstl
            have zs : (bs st).size = st.length := bs_size _
            have za : (bs fa).size = fa.length := bs_size _
            have H8 := hide h8
            have HOF := hide (bs_app st fa)
            obtain ⟨tl, htl2⟩ : ∃ q, C.target.length = q := ⟨_, rfl⟩
            obtain ⟨bl, hbl2⟩ : ∃ q, fb.length = q := ⟨_, rfl⟩
            rw [htl2] at zt H8 htl hstl
            rw [hbl2] at zb H8 hfb
            clear h8 hst H7 htl2 hbl2
            by_cases c1 : tl ≤ bl
            case pos =>
              have HE := hide (H8.out.trans (if_pos c1))
              have d1 : decide (tl ≤ bl) = true := by simp; omega
              clear c1
              go_wp2
              go_ret
              unfold TryP
              rw [HE.out]
              exact ⟨rfl, HH.out.toP HB3.out⟩
            have d1 : decide (tl ≤ bl) = false := by simp; omega
            have H9 := hide (H8.out.trans (if_neg c1))
            clear c1 H8
            go_wp2_with fail
            refine (HTS.out w3).mono ?_
            rintro e w' ⟨rfl, rfl⟩
            go_wp2_with fail
            rw [HOF.out]
            obtain ⟨fr, hfr⟩ : ∃ q, st ++ fa = q := ⟨_, rfl⟩
            have hfl : fr.length ≤ 6020000 := by rw [← hfr, List.length_append]; omega
            rw [hfr] at H9 ⊢
            have HEQ := hide (bs_eqv fr C.target)
            have hgl3 : g < w3.heap.size := Nat.lt_of_lt_of_le hgl HB3.out.size
            have HK := hide (fun W (hb : Below w3.heap.size w3 W) => kindp_any C.gf C.S C.cwd fr W (HOK.out.below (below_up HB3.out hb HB3.out.size)).vs (HOK.out.below (below_up HB3.out hb HB3.out.size)).mx (by have := HOK.out.c1; omega) (by omega))
            have hb0 : Below w3.heap.size w3 w3.drew := (Below.refl _ _).drew
            have HTAIL := hide (fun W (hb : Below w.heap.size w W) => takes_any w0 C g (some b) kl p T (some ⟨W.heap.size, 0, none⟩) 1 [bs fr] rA rc rL st (W.alloc (.cells #[.string (bs fr)] 9)) (HH.out.step (hb.alloc hb.size _)) (sr_new W (bs fr)) (fun a e _ ht => by
              injection e with e
              subst e
              have h2 := (HH.out.tw _ ht).2
              have h3 := hb.size
              simp only at h2
              omega) (HC.out _ (hb.alloc hb.size _)) (fun a e hne ht => by
              have h1 := HLOW.out.1.rc.lt e hne
              have h2 := (HH.out.tw _ ht).1
              omega) (by simp) (by have := HQQ.out; omega) (by omega))
            rw [HQQ.out] at HTAIL
            have HMS := hide (HH.out.step HB3.out |>.known b rfl).1
            have hdw := World.block_lt_of_cell? _ _ hd23
            clear hfr HOF zs za zt zb d1 HTS HSU
            by_cases c2 : fr = C.target
            · have HE := hide (H9.out.trans (if_pos c2))
              have heq : ((bs fr).toList == (bs C.target).toList) = true := by rw [HEQ.out, decide_eq_true c2]
              clear c2 H9
              refine wp_region_held_drew (S := (fun w' => w'.cell? ⟨g, 2, none⟩ = some (.pointer (some ⟨C.gf, 0, none⟩)) ∧ w'.cell? ⟨g, 3, none⟩ = some (.string (bs C.cwd)) ∧ w'.cell? ⟨g, 4, none⟩ = some (.string (bs C.target)) ∧ w'.cell? ⟨g, 5, none⟩ = some (.map (some b)))) (by kernel_rfl) ⟨hc3, hc4, hc5, hc6⟩ (fun hHeld => ?_)
              refine wpAnyH_take (i := 0) (oi := _) (v := ?v0) rfl (by kernel_rfl) (by kernel_rfl) (by kernel_rfl) (fun _ _ _ h => h) (Or.inl ⟨by kernel_rfl, ?y0⟩) (by assumption) ?r0
              case y0 =>
                intro w hSw
                (try dsimp only at hSw)
                go_simp
                try with_reducible rfl
              try simp only [Act.put, List.setIfInBounds_toArray, List.set_cons_zero, List.set_cons_succ]
              refine wpAnyH_take (i := 1) (oi := _) (v := ?v1) rfl (by kernel_rfl) (by kernel_rfl) (by kernel_rfl) (fun _ _ _ h => h) (Or.inl ⟨by kernel_rfl, ?y1⟩) (by assumption) ?r1
              case y1 =>
                intro w hSw
                (try dsimp only at hSw)
                go_simp
                try with_reducible rfl
              try simp only [Act.put, List.setIfInBounds_toArray, List.set_cons_zero, List.set_cons_succ]
              refine wpAnyH_take (i := 2) (oi := _) (v := ?v2) rfl (by kernel_rfl) (by kernel_rfl) (by kernel_rfl) (fun _ _ _ h => h) (Or.inl ⟨by kernel_rfl, ?y2⟩) (by assumption) ?r2
              case y2 =>
                intro w hSw
                (try dsimp only at hSw)
                go_simp
                try with_reducible rfl
              try simp only [Act.put, List.setIfInBounds_toArray, List.set_cons_zero, List.set_cons_succ]
              refine wpAnyH_take (i := 3) (oi := _) (v := ?v3) rfl (by kernel_rfl) (by kernel_rfl) (by kernel_rfl) (fun _ _ _ h => h) (Or.inl ⟨by kernel_rfl, ?y3⟩) (by assumption) ?r3
              case y3 =>
                intro w hSw
                (try dsimp only at hSw)
                go_simp
                try with_reducible rfl
              try simp only [Act.put, List.setIfInBounds_toArray, List.set_cons_zero, List.set_cons_succ]
              refine wpAnyH_take (i := 4) (oi := _) (v := ?v4) rfl (by kernel_rfl) (by kernel_rfl) (by kernel_rfl) (fun _ _ _ h => h) (Or.inl ⟨by kernel_rfl, ?y4⟩) (by assumption) ?r4
              case y4 =>
                intro w hSw
                (try dsimp only at hSw)
                go_simp
                try with_reducible rfl
              try simp only [Act.put, List.setIfInBounds_toArray, List.set_cons_zero, List.set_cons_succ]
              refine wpAnyH_take (i := 5) (oi := _) (v := ?v5) rfl (by kernel_rfl) (by kernel_rfl) (by kernel_rfl) (fun _ _ _ h => h) (Or.inl ⟨by kernel_rfl, ?y5⟩) (by assumption) ?r5
              case y5 =>
                intro w hSw
                (try dsimp only at hSw)
                go_simp
                try with_reducible rfl
              try simp only [Act.put, List.setIfInBounds_toArray, List.set_cons_zero, List.set_cons_succ]
              refine wpAnyH_take (i := 6) (oi := _) (v := ?v6) rfl (by kernel_rfl) (by kernel_rfl) (by kernel_rfl) (fun _ _ _ h => h) (Or.inl ⟨by kernel_rfl, ?y6⟩) (by assumption) ?r6
              case y6 =>
                intro w hSw
                (try dsimp only at hSw)
                go_simp
                try with_reducible rfl
              try simp only [Act.put, List.setIfInBounds_toArray, List.set_cons_zero, List.set_cons_succ]
              refine wpAnyH_take (i := 7) (oi := _) (v := undef) rfl (by kernel_rfl) (by kernel_rfl) (by kernel_rfl) (fun _ _ _ h => h) (Or.inr ⟨by kernel_rfl, rfl⟩) (by assumption) ?_
              try simp only [Act.put, List.setIfInBounds_toArray, List.set_cons_zero, List.set_cons_succ]
              refine wpAnyH_take (i := 8) (oi := _) (v := undef) rfl (by kernel_rfl) (by kernel_rfl) (by kernel_rfl) (fun _ _ _ h => h) (Or.inr ⟨by kernel_rfl, rfl⟩) (by assumption) ?_
              try simp only [Act.put, List.setIfInBounds_toArray, List.set_cons_zero, List.set_cons_succ]
              refine wpAnyH_take (i := 9) (oi := _) (v := undef) rfl (by kernel_rfl) (by kernel_rfl) (by kernel_rfl) (fun _ _ _ h => h) (Or.inr ⟨by kernel_rfl, rfl⟩) (by assumption) ?_
              try simp only [Act.put, List.setIfInBounds_toArray, List.set_cons_zero, List.set_cons_succ]
              refine wpAnyH_take (i := 10) (oi := _) (v := undef) rfl (by kernel_rfl) (by kernel_rfl) (by kernel_rfl) (fun _ _ _ h => h) (Or.inr ⟨by kernel_rfl, rfl⟩) (by assumption) ?_
              try simp only [Act.put, List.setIfInBounds_toArray, List.set_cons_zero, List.set_cons_succ]
              refine wpAnyH_take (i := 11) (oi := _) (v := undef) rfl (by kernel_rfl) (by kernel_rfl) (by kernel_rfl) (fun _ _ _ h => h) (Or.inr ⟨by kernel_rfl, rfl⟩) (by assumption) ?_
              try simp only [Act.put, List.setIfInBounds_toArray, List.set_cons_zero, List.set_cons_succ]
              refine wpAnyH_take (i := 12) (oi := _) (v := undef) rfl (by kernel_rfl) (by kernel_rfl) (by kernel_rfl) (fun _ _ _ h => h) (Or.inr ⟨by kernel_rfl, rfl⟩) (by assumption) ?_
              try simp only [Act.put, List.setIfInBounds_toArray, List.set_cons_zero, List.set_cons_succ]
              refine wpAnyH_take (i := 13) (oi := _) (v := undef) rfl (by kernel_rfl) (by kernel_rfl) (by kernel_rfl) (fun _ _ _ h => h) (Or.inr ⟨by kernel_rfl, rfl⟩) (by assumption) ?_
              try simp only [Act.put, List.setIfInBounds_toArray, List.set_cons_zero, List.set_cons_succ]
              refine wpAnyH_take (i := 14) (oi := _) (v := undef) rfl (by kernel_rfl) (by kernel_rfl) (by kernel_rfl) (fun _ _ _ h => h) (Or.inr ⟨by kernel_rfl, rfl⟩) (by assumption) ?_
              try simp only [Act.put, List.setIfInBounds_toArray, List.set_cons_zero, List.set_cons_succ]
              refine wpAnyH_take (i := 15) (oi := _) (v := undef) rfl (by kernel_rfl) (by kernel_rfl) (by kernel_rfl) (fun _ _ _ h => h) (Or.inr ⟨by kernel_rfl, rfl⟩) (by assumption) ?_
              try simp only [Act.put, List.setIfInBounds_toArray, List.set_cons_zero, List.set_cons_succ]
              refine wpAnyH_take (i := 16) (oi := _) (v := undef) rfl (by kernel_rfl) (by kernel_rfl) (by kernel_rfl) (fun _ _ _ h => h) (Or.inr ⟨by kernel_rfl, rfl⟩) (by assumption) ?_
              try simp only [Act.put, List.setIfInBounds_toArray, List.set_cons_zero, List.set_cons_succ]
              refine wpAnyH_take (i := 17) (oi := _) (v := undef) rfl (by kernel_rfl) (by kernel_rfl) (by kernel_rfl) (fun _ _ _ h => h) (Or.inr ⟨by kernel_rfl, rfl⟩) (by assumption) ?_
              try simp only [Act.put, List.setIfInBounds_toArray, List.set_cons_zero, List.set_cons_succ]
              refine wpAnyH_take (i := 18) (oi := _) (v := undef) rfl (by kernel_rfl) (by kernel_rfl) (by kernel_rfl) (fun _ _ _ h => h) (Or.inr ⟨by kernel_rfl, rfl⟩) (by assumption) ?_
              try simp only [Act.put, List.setIfInBounds_toArray, List.set_cons_zero, List.set_cons_succ]
              refine wpAnyH_take (i := 19) (oi := _) (v := undef) rfl (by kernel_rfl) (by kernel_rfl) (by kernel_rfl) (fun _ _ _ h => h) (Or.inr ⟨by kernel_rfl, rfl⟩) (by assumption) ?_
              try simp only [Act.put, List.setIfInBounds_toArray, List.set_cons_zero, List.set_cons_succ]
              refine wpAnyH_take (i := 20) (oi := _) (v := undef) rfl (by kernel_rfl) (by kernel_rfl) (by kernel_rfl) (fun _ _ _ h => h) (Or.inr ⟨by kernel_rfl, rfl⟩) (by assumption) ?_
              try simp only [Act.put, List.setIfInBounds_toArray, List.set_cons_zero, List.set_cons_succ]
              refine wpAnyH_take (i := 21) (oi := _) (v := undef) rfl (by kernel_rfl) (by kernel_rfl) (by kernel_rfl) (fun _ _ _ h => h) (Or.inr ⟨by kernel_rfl, rfl⟩) (by assumption) ?_
              try simp only [Act.put, List.setIfInBounds_toArray, List.set_cons_zero, List.set_cons_succ]
              refine wpAnyH_take (i := 22) (oi := _) (v := undef) rfl (by kernel_rfl) (by kernel_rfl) (by kernel_rfl) (fun _ _ _ h => h) (Or.inr ⟨by kernel_rfl, rfl⟩) (by assumption) ?_
              try simp only [Act.put, List.setIfInBounds_toArray, List.set_cons_zero, List.set_cons_succ]
              refine wpAnyH_take (i := 23) (oi := _) (v := undef) rfl (by kernel_rfl) (by kernel_rfl) (by kernel_rfl) (fun _ _ _ h => h) (Or.inr ⟨by kernel_rfl, rfl⟩) (by assumption) ?_
              try simp only [Act.put, List.setIfInBounds_toArray, List.set_cons_zero, List.set_cons_succ]
              refine wpAnyH_take (i := 24) (oi := _) (v := undef) rfl (by kernel_rfl) (by kernel_rfl) (by kernel_rfl) (fun _ _ _ h => h) (Or.inr ⟨by kernel_rfl, rfl⟩) (by assumption) ?_
              try simp only [Act.put, List.setIfInBounds_toArray, List.set_cons_zero, List.set_cons_succ]
              refine wpAnyH_take (i := 25) (oi := _) (v := undef) rfl (by kernel_rfl) (by kernel_rfl) (by kernel_rfl) (fun _ _ _ h => h) (Or.inr ⟨by kernel_rfl, rfl⟩) (by assumption) ?_
              try simp only [Act.put, List.setIfInBounds_toArray, List.set_cons_zero, List.set_cons_succ]
              refine wpAnyH_take (i := 26) (oi := _) (v := undef) rfl (by kernel_rfl) (by kernel_rfl) (by kernel_rfl) (fun _ _ _ h => h) (Or.inr ⟨by kernel_rfl, rfl⟩) (by assumption) ?_
              try simp only [Act.put, List.setIfInBounds_toArray, List.set_cons_zero, List.set_cons_succ]
              refine wpAnyH_ready (rs := [27]) (by kernel_rfl) (by simp) ?_
              refine AllReadyH.cons (o := _) rfl (fun K hK => ?_) AllReadyH.nil
              rw [if_pos (by kernel_rfl)]
              go_simp
              refine hK.out _ _ ⟨hc3, hc4, hc5, hc6⟩ (fun _ => ?_)
              clear hK K
              try simp only [Act.put, List.setIfInBounds_toArray, List.set_cons_zero, List.set_cons_succ]
              refine wpAnyH_done (by kernel_rfl) ?_ _
              go_wp2
              go_ret
              unfold TryP
              rw [HE.out]
              exact ⟨rfl, HH.out.toP HB3.out.drew⟩
            have heq : ((bs fr).toList == (bs C.target).toList) = false := by rw [HEQ.out, decide_eq_false c2]
            have H10 := hide (H9.out.trans (if_neg c2))
            clear c2 H9 HEQ
            obtain ⟨kk, hkk⟩ : ∃ k, kindT C.S C.cwd fr = k := ⟨_, rfl⟩
            have hkl : kk ≤ 2 := by rw [← hkk]; exact kindT_le _ _ _
            rw [hkk] at HK H10
            obtain ⟨ki, hki⟩ : ∃ i : Int, (kk : Int) = i := ⟨_, rfl⟩
            rw [hki] at HK
            clear hkk
            by_cases k1 : kk = 1
            · subst k1
              obtain rfl : ki = 1 := hki.symm
              have HE := hide (H10.out.trans (if_neg (by simp)))
              clear hki hkl H10
              refine wp_region_held_drew (S := (fun w' => w'.cell? ⟨g, 2, none⟩ = some (.pointer (some ⟨C.gf, 0, none⟩)) ∧ w'.cell? ⟨g, 3, none⟩ = some (.string (bs C.cwd)) ∧ w'.cell? ⟨g, 4, none⟩ = some (.string (bs C.target)) ∧ w'.cell? ⟨g, 5, none⟩ = some (.map (some b)))) (by kernel_rfl) ⟨hc3, hc4, hc5, hc6⟩ (fun hHeld => ?_)
              refine wpAnyH_take (i := 0) (oi := _) (v := ?vB0) rfl (by kernel_rfl) (by kernel_rfl) (by kernel_rfl) (fun _ _ _ h => h) (Or.inl ⟨by kernel_rfl, ?yB0⟩) (by assumption) ?rB0
              case yB0 =>
                intro w hSw
                (try dsimp only at hSw)
                go_simp
                try with_reducible rfl
              try simp only [Act.put, List.setIfInBounds_toArray, List.set_cons_zero, List.set_cons_succ]
              refine wpAnyH_take (i := 1) (oi := _) (v := ?vB1) rfl (by kernel_rfl) (by kernel_rfl) (by kernel_rfl) (fun _ _ _ h => h) (Or.inl ⟨by kernel_rfl, ?yB1⟩) (by assumption) ?rB1
              case yB1 =>
                intro w hSw
                (try dsimp only at hSw)
                go_simp
                try with_reducible rfl
              try simp only [Act.put, List.setIfInBounds_toArray, List.set_cons_zero, List.set_cons_succ]
              refine wpAnyH_take (i := 2) (oi := _) (v := ?vB2) rfl (by kernel_rfl) (by kernel_rfl) (by kernel_rfl) (fun _ _ _ h => h) (Or.inl ⟨by kernel_rfl, ?yB2⟩) (by assumption) ?rB2
              case yB2 =>
                intro w hSw
                (try dsimp only at hSw)
                go_simp
                try with_reducible rfl
              try simp only [Act.put, List.setIfInBounds_toArray, List.set_cons_zero, List.set_cons_succ]
              refine wpAnyH_take (i := 3) (oi := _) (v := ?vB3) rfl (by kernel_rfl) (by kernel_rfl) (by kernel_rfl) (fun _ _ _ h => h) (Or.inl ⟨by kernel_rfl, ?yB3⟩) (by assumption) ?rB3
              case yB3 =>
                intro w hSw
                (try dsimp only at hSw)
                go_simp
                try with_reducible rfl
              try simp only [Act.put, List.setIfInBounds_toArray, List.set_cons_zero, List.set_cons_succ]
              refine wpAnyH_take (i := 4) (oi := _) (v := ?vB4) rfl (by kernel_rfl) (by kernel_rfl) (by kernel_rfl) (fun _ _ _ h => h) (Or.inl ⟨by kernel_rfl, ?yB4⟩) (by assumption) ?rB4
              case yB4 =>
                intro w hSw
                (try dsimp only at hSw)
                go_simp
                try with_reducible rfl
              try simp only [Act.put, List.setIfInBounds_toArray, List.set_cons_zero, List.set_cons_succ]
              refine wpAnyH_take (i := 5) (oi := _) (v := ?vB5) rfl (by kernel_rfl) (by kernel_rfl) (by kernel_rfl) (fun _ _ _ h => h) (Or.inl ⟨by kernel_rfl, ?yB5⟩) (by assumption) ?rB5
              case yB5 =>
                intro w hSw
                (try dsimp only at hSw)
                go_simp
                try with_reducible rfl
              try simp only [Act.put, List.setIfInBounds_toArray, List.set_cons_zero, List.set_cons_succ]
              refine wpAnyH_take (i := 6) (oi := _) (v := ?vB6) rfl (by kernel_rfl) (by kernel_rfl) (by kernel_rfl) (fun _ _ _ h => h) (Or.inl ⟨by kernel_rfl, ?yB6⟩) (by assumption) ?rB6
              case yB6 =>
                intro w hSw
                (try dsimp only at hSw)
                go_simp
                try with_reducible rfl
              try simp only [Act.put, List.setIfInBounds_toArray, List.set_cons_zero, List.set_cons_succ]
              refine wpAnyH_take (i := 7) (oi := _) (v := ?vB7) rfl (by kernel_rfl) (by kernel_rfl) (by kernel_rfl) (fun _ _ _ h => h) (Or.inl ⟨by kernel_rfl, ?yB7⟩) (by assumption) ?rB7
              case yB7 =>
                intro w hSw
                (try dsimp only at hSw)
                go_simp
                try with_reducible rfl
              try simp only [Act.put, List.setIfInBounds_toArray, List.set_cons_zero, List.set_cons_succ]
              refine wpAnyH_take (i := 8) (oi := _) (v := ?vB8) rfl (by kernel_rfl) (by kernel_rfl) (by kernel_rfl) (fun _ _ _ h => h) (Or.inl ⟨by kernel_rfl, ?yB8⟩) (by assumption) ?rB8
              case yB8 =>
                intro w hSw
                (try dsimp only at hSw)
                go_simp
                try with_reducible rfl
              try simp only [Act.put, List.setIfInBounds_toArray, List.set_cons_zero, List.set_cons_succ]
              refine wpAnyH_take (i := 9) (oi := _) (v := ?vB9) rfl (by kernel_rfl) (by kernel_rfl) (by kernel_rfl) (fun _ _ _ h => h) (Or.inl ⟨by kernel_rfl, ?yB9⟩) (by assumption) ?rB9
              case yB9 =>
                intro w hSw
                (try dsimp only at hSw)
                go_simp
                try with_reducible rfl
              try simp only [Act.put, List.setIfInBounds_toArray, List.set_cons_zero, List.set_cons_succ]
              refine wpAnyH_take (i := 10) (oi := _) (v := ?vB10) rfl (by kernel_rfl) (by kernel_rfl) (by kernel_rfl) (fun _ _ _ h => h) (Or.inl ⟨by kernel_rfl, ?yB10⟩) (by assumption) ?rB10
              case yB10 =>
                intro w hSw
                (try dsimp only at hSw)
                go_simp
                try with_reducible rfl
              try simp only [Act.put, List.setIfInBounds_toArray, List.set_cons_zero, List.set_cons_succ]
              refine wpAnyH_take (i := 11) (oi := _) (v := ?vB11) rfl (by kernel_rfl) (by kernel_rfl) (by kernel_rfl) (fun _ _ _ h => h) (Or.inl ⟨by kernel_rfl, ?yB11⟩) (by assumption) ?rB11
              case yB11 =>
                intro w hSw
                (try dsimp only at hSw)
                go_simp
                try with_reducible rfl
              try simp only [Act.put, List.setIfInBounds_toArray, List.set_cons_zero, List.set_cons_succ]
              refine wpAnyH_take (i := 12) (oi := _) (v := ?vB12) rfl (by kernel_rfl) (by kernel_rfl) (by kernel_rfl) (fun _ _ _ h => h) (Or.inl ⟨by kernel_rfl, ?yB12⟩) (by assumption) ?rB12
              case yB12 =>
                intro w hSw
                (try dsimp only at hSw)
                go_simp
                try with_reducible rfl
              try simp only [Act.put, List.setIfInBounds_toArray, List.set_cons_zero, List.set_cons_succ]
              refine wpAnyH_take (i := 13) (oi := _) (v := ?vB13) rfl (by kernel_rfl) (by kernel_rfl) (by kernel_rfl) (fun _ _ _ h => h) (Or.inl ⟨by kernel_rfl, ?yB13⟩) (by assumption) ?rB13
              case yB13 =>
                intro w hSw
                (try dsimp only at hSw)
                go_simp
                try with_reducible rfl
              try simp only [Act.put, List.setIfInBounds_toArray, List.set_cons_zero, List.set_cons_succ]
              refine wpAnyH_take (i := 14) (oi := _) (v := ?vB14) rfl (by kernel_rfl) (by kernel_rfl) (by kernel_rfl) (fun _ _ _ h => h) (Or.inl ⟨by kernel_rfl, ?yB14⟩) (by assumption) ?rB14
              case yB14 =>
                intro w hSw
                (try dsimp only at hSw)
                go_simp
                try with_reducible rfl
              try simp only [Act.put, List.setIfInBounds_toArray, List.set_cons_zero, List.set_cons_succ]
              refine wpAnyH_take (i := 15) (oi := _) (v := ?vB15) rfl (by kernel_rfl) (by kernel_rfl) (by kernel_rfl) (fun _ _ _ h => h) (Or.inl ⟨by kernel_rfl, ?yB15⟩) (by assumption) ?rB15
              case yB15 =>
                intro w hSw
                (try dsimp only at hSw)
                go_simp
                try with_reducible rfl
              try simp only [Act.put, List.setIfInBounds_toArray, List.set_cons_zero, List.set_cons_succ]
              refine wpAnyH_ready (rs := [16]) (by kernel_rfl) (by simp) ?_
              refine AllReadyH.cons (o := _) rfl (fun K hK => ?_) AllReadyH.nil
              rw [if_pos (by kernel_rfl)]
              go_simp
              go_at_call 150
              refine (HK.out _ hb0).mono ?_
              rintro e w4 ⟨rfl, hb⟩
              have u2 := (hb.cell (p := ⟨g, 2, none⟩) hgl3).trans hc3
              have u3 := (hb.cell (p := ⟨g, 3, none⟩) hgl3).trans hc4
              have u4 := (hb.cell (p := ⟨g, 4, none⟩) hgl3).trans hc5
              have u5 := (hb.cell (p := ⟨g, 5, none⟩) hgl3).trans hc6
              have HB4 := hide (hb0.trans hb)
              clear hb
              refine hK.out _ _ ⟨u2, u3, u4, u5⟩ (fun _ => ?_)
              clear hK K
              try simp only [Act.put, List.setIfInBounds_toArray, List.set_cons_zero, List.set_cons_succ]
              refine wpAnyH_take (i := 17) (oi := _) (v := ?vB17) rfl (by kernel_rfl) (by kernel_rfl) (by kernel_rfl) (fun _ _ _ h => h) (Or.inl ⟨by kernel_rfl, ?yB17⟩) (by assumption) ?rB17
              case yB17 =>
                intro w hSw
                (try dsimp only at hSw)
                go_simp
                try with_reducible rfl
              try simp only [Act.put, List.setIfInBounds_toArray, List.set_cons_zero, List.set_cons_succ]
              refine wpAnyH_take (i := 18) (oi := _) (v := ?vB18) rfl (by kernel_rfl) (by kernel_rfl) (by kernel_rfl) (fun _ _ _ h => h) (Or.inl ⟨by kernel_rfl, ?yB18⟩) (by assumption) ?rB18
              case yB18 =>
                intro w hSw
                (try dsimp only at hSw)
                go_simp
                try with_reducible rfl
              try simp only [Act.put, List.setIfInBounds_toArray, List.set_cons_zero, List.set_cons_succ]
              refine wpAnyH_take (i := 19) (oi := _) (v := undef) rfl (by kernel_rfl) (by kernel_rfl) (by kernel_rfl) (fun _ _ _ h => h) (Or.inr ⟨by kernel_rfl, rfl⟩) (by assumption) ?_
              try simp only [Act.put, List.setIfInBounds_toArray, List.set_cons_zero, List.set_cons_succ]
              refine wpAnyH_take (i := 20) (oi := _) (v := undef) rfl (by kernel_rfl) (by kernel_rfl) (by kernel_rfl) (fun _ _ _ h => h) (Or.inr ⟨by kernel_rfl, rfl⟩) (by assumption) ?_
              try simp only [Act.put, List.setIfInBounds_toArray, List.set_cons_zero, List.set_cons_succ]
              refine wpAnyH_take (i := 21) (oi := _) (v := undef) rfl (by kernel_rfl) (by kernel_rfl) (by kernel_rfl) (fun _ _ _ h => h) (Or.inr ⟨by kernel_rfl, rfl⟩) (by assumption) ?_
              try simp only [Act.put, List.setIfInBounds_toArray, List.set_cons_zero, List.set_cons_succ]
              refine wpAnyH_take (i := 22) (oi := _) (v := undef) rfl (by kernel_rfl) (by kernel_rfl) (by kernel_rfl) (fun _ _ _ h => h) (Or.inr ⟨by kernel_rfl, rfl⟩) (by assumption) ?_
              try simp only [Act.put, List.setIfInBounds_toArray, List.set_cons_zero, List.set_cons_succ]
              refine wpAnyH_take (i := 23) (oi := _) (v := undef) rfl (by kernel_rfl) (by kernel_rfl) (by kernel_rfl) (fun _ _ _ h => h) (Or.inr ⟨by kernel_rfl, rfl⟩) (by assumption) ?_
              try simp only [Act.put, List.setIfInBounds_toArray, List.set_cons_zero, List.set_cons_succ]
              refine wpAnyH_take (i := 24) (oi := _) (v := undef) rfl (by kernel_rfl) (by kernel_rfl) (by kernel_rfl) (fun _ _ _ h => h) (Or.inr ⟨by kernel_rfl, rfl⟩) (by assumption) ?_
              try simp only [Act.put, List.setIfInBounds_toArray, List.set_cons_zero, List.set_cons_succ]
              refine wpAnyH_take (i := 25) (oi := _) (v := undef) rfl (by kernel_rfl) (by kernel_rfl) (by kernel_rfl) (fun _ _ _ h => h) (Or.inr ⟨by kernel_rfl, rfl⟩) (by assumption) ?_
              try simp only [Act.put, List.setIfInBounds_toArray, List.set_cons_zero, List.set_cons_succ]
              refine wpAnyH_ready (rs := [26]) (by kernel_rfl) (by simp) ?_
              refine AllReadyH.cons (o := _) rfl (fun K hK => ?_) AllReadyH.nil
              rw [if_pos (by kernel_rfl)]
              go_simp
              refine hK.out _ _ ⟨u2, u3, u4, u5⟩ (fun _ => ?_)
              clear hK K
              try simp only [Act.put, List.setIfInBounds_toArray, List.set_cons_zero, List.set_cons_succ]
              refine wpAnyH_ready (rs := [27]) (by kernel_rfl) (by simp) ?_
              refine AllReadyH.cons (o := _) rfl (fun K hK => ?_) AllReadyH.nil
              rw [if_pos (by kernel_rfl)]
              go_simp
              refine hK.out _ _ ⟨u2, u3, u4, u5⟩ (fun _ => ?_)
              clear hK K
              try simp only [Act.put, List.setIfInBounds_toArray, List.set_cons_zero, List.set_cons_succ]
              refine wpAnyH_done (by kernel_rfl) ?_ _
              have HBW := hide (below_up HB3.out HB4.out HB3.out.size)
              have hd24 := (HB4.out.cell (p := ⟨w.heap.size, 2, none⟩) hdw).trans hd23
              have hd25 := (((Below.refl w4.heap.size w4).alloc (Nat.le_refl _) (.cells #[.string (bs fr)] 9)).cell (p := ⟨w.heap.size, 2, none⟩) (World.block_lt_of_cell? _ _ hd24)).trans hd24
              go_wp2_with fail
              refine (HTAIL.out _ HBW.out).mono ?_
              rintro e w5 ⟨rfl, hf5⟩
              have HF5 := hide (hf5.after (HBW.out.alloc HBW.out.size (.cells #[.string (bs fr)] 9)))
              clear hf5
              go_wp2
              go_ret
              unfold TryP
              rw [HE.out]
              exact ⟨rfl, HF5.out⟩
            have k1' : ¬ ki = 1 := by omega
            have k1a : (ki == 1) = false := by simp only [beq_eq_false_iff_ne]; omega
            have k1b : (ki != 1) = true := by simp only [bne_iff_ne, ne_eq]; omega
            obtain ⟨kn, hkn⟩ : ∃ c, Lib.containsS kl (bs fr) = c := ⟨_, rfl⟩
            have HLK := hide (fun W (hb : Below w3.heap.size w3 W) => (show MSet W b kl from HMS.out.of (hb.block b HMS.out.lt)).look (s := bs fr) (by rw [bs_size]; omega))
            rw [hkn] at HLK H10
            clear hkn hki hkl
            cases kn with
            | true =>
              have HE := hide (H10.out.trans (if_neg (by simp)))
              clear H10 k1
              go_region_held3 (fun w' => w'.cell? ⟨g, 2, none⟩ = some (.pointer (some ⟨C.gf, 0, none⟩)) ∧ w'.cell? ⟨g, 3, none⟩ = some (.string (bs C.cwd)) ∧ w'.cell? ⟨g, 4, none⟩ = some (.string (bs C.target)) ∧ w'.cell? ⟨g, 5, none⟩ = some (.map (some b)))
                (first | exact ⟨hc3, hc4, hc5, hc6⟩ | exact ⟨u2, u3, u4, u5⟩)
                ((go_at_call 150; refine (HK.out _ hb0).mono ?_; rintro e w4 ⟨rfl, hb⟩; have u2 := (hb.cell (p := ⟨g, 2, none⟩) hgl3).trans hc3; have u3 := (hb.cell (p := ⟨g, 3, none⟩) hgl3).trans hc4; have u4 := (hb.cell (p := ⟨g, 4, none⟩) hgl3).trans hc5; have u5 := (hb.cell (p := ⟨g, 5, none⟩) hgl3).trans hc6; have hlk := HLK.out w4 (hb0.trans hb); have HB4 := hide (hb0.trans hb); clear hb))
              have HBW := hide (below_up HB3.out HB4.out HB3.out.size)
              have hd24 := (HB4.out.cell (p := ⟨w.heap.size, 2, none⟩) hdw).trans hd23
              have hd25 := (((Below.refl w4.heap.size w4).alloc (Nat.le_refl _) (.cells #[.string (bs fr)] 9)).cell (p := ⟨w.heap.size, 2, none⟩) (World.block_lt_of_cell? _ _ hd24)).trans hd24
              go_wp2_with fail
              refine (HTAIL.out _ HBW.out).mono ?_
              rintro e w5 ⟨rfl, hf5⟩
              have HF5 := hide (hf5.after (HBW.out.alloc HBW.out.size (.cells #[.string (bs fr)] 9)))
              clear hf5
              go_wp2
              go_ret
              unfold TryP
              rw [HE.out]
              exact ⟨rfl, HF5.out⟩
            | false =>
              have HE := hide (H10.out.trans (if_pos ⟨k1, rfl⟩))
              clear H10 k1
              go_region_held3 (fun w' => w'.cell? ⟨g, 2, none⟩ = some (.pointer (some ⟨C.gf, 0, none⟩)) ∧ w'.cell? ⟨g, 3, none⟩ = some (.string (bs C.cwd)) ∧ w'.cell? ⟨g, 4, none⟩ = some (.string (bs C.target)) ∧ w'.cell? ⟨g, 5, none⟩ = some (.map (some b)))
                (first | exact ⟨hc3, hc4, hc5, hc6⟩ | exact ⟨u2, u3, u4, u5⟩)
                ((go_at_call 150; refine (HK.out _ hb0).mono ?_; rintro e w4 ⟨rfl, hb⟩; have u2 := (hb.cell (p := ⟨g, 2, none⟩) hgl3).trans hc3; have u3 := (hb.cell (p := ⟨g, 3, none⟩) hgl3).trans hc4; have u4 := (hb.cell (p := ⟨g, 4, none⟩) hgl3).trans hc5; have u5 := (hb.cell (p := ⟨g, 5, none⟩) hgl3).trans hc6; have hlk := HLK.out w4 (hb0.trans hb); have HB4 := hide (hb0.trans hb); clear hb))
              go_wp2
              go_ret
              unfold TryP
              rw [HE.out]
              exact ⟨rfl, HH.out.toP (below_up HB3.out HB4.out HB3.out.size)⟩
end Go.Proofs.YtaajofojbhdgaaaGreatDoor
/- Walk of the finder's fits. -/
namespace Go.Proofs.YtaajofojbhdgaaaGreatDoor
open Go.RowKit Go.Deep Go.Maps Ln Pth Vf
attribute [local go_sem] bt_eq

/-- the sizes that a finder needs -/
structure CfSz (C : Cf) : Prop where
  rl : ∀ r ∈ C.L, ∀ x ∈ r.tg.2.2, x.size ≤ 10000
  pn : ∀ r ∈ C.L, plainR r.tg.2.2 = false → ∀ x ∈ r.nd.2.2, x.size ≤ 10000
  ss : ∀ s ∈ specialR C.L suffixes, s.size ≤ 10000
  kn : (knownsF C.L).length ≤ 100000
  sp : (specialR C.L suffixes).length ≤ 100000
theorem mem_knowns {L : List Rl} {x : ByteArray} (h : x ∈ knownsF L) : ∃ r ∈ L, x ∈ r.tg.2.2 := by
  unfold knownsF at h
  obtain ⟨r, hr, hx⟩ := List.mem_flatMap.1 h
  refine ⟨r, hr, ?_⟩
  split at hx
  · exact hx
  · cases hx
theorem mem_special {L : List Rl} {name x : ByteArray} (h : x ∈ specialR L name) : ∃ r ∈ L, x ∈ r.nd.2.2 := by
  unfold specialR at h
  obtain ⟨r, hr, hx⟩ := List.mem_flatMap.1 h
  refine ⟨r, hr, ?_⟩
  split at hx
  · exact hx
  · cases hx
theorem knowns_len_take (L : List Rl) (k : Nat) : (knownsF (L.take k)).length ≤ (knownsF L).length := by
  unfold knownsF
  conv => rhs; rw [← List.take_append_drop k L, List.flatMap_append, List.length_append]
  omega
theorem fits_1 {S : St} {cwd target : Ln.T} {L : List Rl} {p q : Pn} (h : firstO (pat1 S cwd (knownsF L) target p) L = some q) : fitsF S cwd L target p = q := by
  unfold fitsF; rw [h]
theorem fits_2 {S : St} {cwd target : Ln.T} {L : List Rl} {p q : Pn} (h1 : firstO (pat1 S cwd (knownsF L) target p) L = none) (h : firstO (suf1 S cwd (knownsF L) target (specialR L suffixes) p) L = some q) : fitsF S cwd L target p = q := by
  unfold fitsF; rw [h1, h]
theorem fits_3 {S : St} {cwd target : Ln.T} {L : List Rl} {p : Pn} (h1 : firstO (pat1 S cwd (knownsF L) target p) L = none) (h : firstO (suf1 S cwd (knownsF L) target (specialR L suffixes) p) L = none) : fitsF S cwd L target p = p := by
  unfold fitsF; rw [h1, h]
theorem firstO_found {α β : Type} (f : α → Option β) (l : List α) (k : Nat) (x : α) (b : β) (h : firstO f (l.take k) = none) (hx : l[k]? = some x) (hf : f x = some b) : firstO f l = some b := by
  rw [firstO_at f l k x h hx, hf]
set_option linter.unusedSimpArgs false in
set_option maxRecDepth 100000 in
set_option maxHeartbeats 8000000 in
theorem fits_any (w0 : World) (C : Cf) (g : Nat) (kl0 : List ByteArray) (p : Pn) (T : Nat → Prop) (w : World) (hok : CfOk C w0) (hcs : CfSz C) (h : FI w0 C g none kl0 p T w) (hl : p.needs.length ≤ 700000) :
    Calls Tryz.prog 67 #[.pointer (some ⟨g, 0, none⟩)] w fun e w' => e = .returned (.tuple #[]) ∧ ∃ b, FIP w0 C g (some b) (knownsF C.L) (fitsF C.S C.cwd C.L C.target p) T w w' := by
  have hb0 := h.below
  have hbs : w0.heap.size ≤ w.heap.size := hb0.size
  have HBS := hide hbs
  have HOK := hide (fun W (hb : Below w0.heap.size w0 W) => hok.below hb)
  have HCS := hide hcs
  have HH := hide h
  have HB0 := hide hb0
  have hrl := hok.rl
  have HRL := hide hrl
  have hln := hok.ln
  obtain ⟨A6, c6, A7, c7, hg, _⟩ := h.opn
  have HG := hide hg
  have hgl := (h.tw g h.tg).2
  obtain ⟨n, hn⟩ : ∃ n, C.L.length = n := ⟨_, rfl⟩
  have HN := hide hn
  have hln : n ≤ 1000 := by omega
  have hn1 : (n : Int) ≤ 1000 := by omega
  have hd1 : w.cell? ⟨g, 1, none⟩ = some (.slice C.A n C.c) := by rw [← hn]; exact cellOf hg (j := 1) rfl
  clear hok hcs h hb0 hrl hg hn
  go_enter Tryz.func67, Tryz.ntmps67
  go_wp2
  go_loopw [2, 4, 16] (fun v2 _ v16 wr => ∃ k : Nat, v16 = .int .i64 k ∧ k ≤ n ∧ OwnS wr w.heap.size v2 (knownsF (C.L.take k)) ∧ Below w.heap.size w wr) (fun _ _ v16 _ => n - (intOf v16).toNat)
  case atStart => exact ⟨0, rfl, by omega, OwnS.nil _ _, Below.refl _ _⟩
  case round =>
    obtain ⟨k, rfl, hk, ho, hb⟩ := hrel
    have HO := hide ho
    have HB := hide hb
    have HAR := hide (HRL.out.below (below_up HB0.out hb HBS.out))
    clear ho hb hd1
    by_cases hlt : k < n
    · obtain ⟨r, hr⟩ : ∃ r, C.L[k]? = some r := ⟨C.L[k]'(by have := HN.out; omega), List.getElem?_eq_getElem _⟩
      obtain ⟨gr, o, hgo, hgg, hc⟩ := HAR.out.1 k r hr
      have hrk := HAR.out.2 r (List.mem_of_getElem? hr)
      have HRK := hide hrk
      have hc1 : wr.cell? ⟨gr, o + k * 3, none⟩ = some (sv r.tg) := by have := hc 0 _ rfl; simpa using this
      have hc2 : wr.cell? ⟨gr, o + k * 3 + 1, none⟩ = some (sv r.nd) := hc 1 _ rfl
      have hc3 : wr.cell? ⟨gr, o + k * 3 + 2, none⟩ = some (sv r.rc) := hc 2 _ rfl
      have HT := hide (knowns_take hr)
      have hlen := knowns_len_take C.L (k + 1)
      have hkn := HCS.out.kn
      rw [HT.out, List.length_append] at hlen
      have HLN := hide hlen
      have b1 : (k : Int) < (n : Int) := by omega
      have hbw : w.heap.size ≤ wr.heap.size := HB.out.size
      rw [hgo]
      clear hc hr hlen hrk
      have HPL := hide (fun W (hb : Below wr.heap.size wr W) => plain_any r W (HRK.out.below hb))
      obtain ⟨p1, hp1⟩ : ∃ b, plainR r.tg.2.2 = b := ⟨_, rfl⟩
      rw [hp1] at HPL HT HLN
      clear hp1
      unfold sv at hc1 hc2 hc3 HPL
      have hnb := heapNew wr (.cells #[.slice r.tg.1 r.tg.2.2.length r.tg.2.1, .slice r.nd.1 r.nd.2.2.length r.nd.2.1, .slice r.rc.1 r.rc.2.2.length r.rc.2.1] 63)
      have hba := (Below.refl wr.heap.size wr).alloc (Nat.le_refl _) (.cells #[.slice r.tg.1 r.tg.2.2.length r.tg.2.1, .slice r.nd.1 r.nd.2.2.length r.nd.2.1, .slice r.rc.1 r.rc.2.2.length r.rc.2.1] 63)
      have HNB := hide hnb
      have HBA := hide hba
      clear hnb hba
      go_wp2_with fail
      refine (HPL.out _ HBA.out).mono ?_
      rintro e w1 ⟨rfl, hb1⟩
      have hk1 := hb1.block wr.heap.size (Array.getElem?_eq_some_iff.1 HNB.out).1
      have hn1' := hk1.trans HNB.out
      have hd0 : w1.cell? ⟨wr.heap.size, 0, none⟩ = some (.slice r.tg.1 r.tg.2.2.length r.tg.2.1) := cellOf' hn1' (j := 0) rfl
      have HB1 := hide (below_up HBA.out hb1 HBA.out.size)
      clear hb1 hk1 hn1'
      cases p1 with
      | false =>
        have HE := hide (show knownsF (C.L.take (k + 1)) = knownsF (C.L.take k) by rw [HT.out, if_neg (by simp), List.append_nil])
        go_wp2
        go_roundw
        case rel => exact ⟨k + 1, by go_num, by omega, by rw [HE.out]; exact HO.out.below' HB1.out, below_up HB.out HB1.out hbw⟩
        case measure => simp [intOf]; omega
      | true =>
        have HE := hide (show knownsF (C.L.take (k + 1)) = knownsF (C.L.take k) ++ r.tg.2.2 by rw [HT.out, if_pos rfl])
        have hl2 : (knownsF (C.L.take k)).length + r.tg.2.2.length ≤ 1000000 := by
          have := HLN.out
          rw [if_pos rfl] at this
          omega
        obtain ⟨v', w4, r4, o4, g4, b4⟩ := run_appS (c := r.tg.2.1) (HO.out.below' HB1.out) (HRK.out.tg.below HB1.out) (by have := HB1.out.size; omega) (by omega)
        have HO4 := hide o4
        have HB4 := hide ((below_up HB.out HB1.out hbw).grown g4 (by have := HB1.out.size; omega) (fun q hq => (World.ownsRow.lt HO.out q hq).1))
        clear o4 g4 b4
        go_wp2_with (at_builtin; refine wpList_app_run ?_ (.tmp 22) (.tmp 24) ?_ ?_ ?_ ?_ r4 ?_; exact rfl; exact rfl; exact rfl; exact rfl; exact rfl)
        go_roundw
        case rel => exact ⟨k + 1, by go_num, by omega, by rw [HE.out]; exact HO4.out, HB4.out⟩
        case measure => simp [intOf]; omega
    · obtain rfl : n = k := by omega
      have HF := hide (show knownsF (C.L.take n) = knownsF C.L by rw [List.take_of_length_le (by have := HN.out; omega)])
      rw [HF.out] at HO
      obtain ⟨Ak, ck, rfl, _, hsk, _⟩ := HO.out.slice
      have HSE := hide (set_any Ak ck (knownsF C.L) wr hsk HCS.out.kn (fun s hs => by
        obtain ⟨r, hr, hx⟩ := mem_knowns hs
        have := HCS.out.rl r hr s hx
        omega))
      obtain ⟨kn, hkn⟩ : ∃ n, (knownsF C.L).length = n := ⟨_, rfl⟩
      rw [hkn] at HSE ⊢
      clear hsk hkn
      go_wp2_with fail
      refine HSE.out.mono ?_
      rintro e w1 ⟨b, rfl, hbk, hms, hb1⟩
      have HBX := hide (below_up HB.out hb1 HB.out.size)
      have hfi := HH.out.step HBX.out
      have hfp := hfi.known_ hms (fun ht => by
        have := (HH.out.tw b ht).2
        have := HB.out.size
        omega)
      obtain ⟨T1, hf1, hkt1, hgt1⟩ := hfp
      have hg1 := (HBX.out.block g hgl).trans HG.out
      have hz5 := freeOf hg1 5
      have hy5 : w1.cell? ⟨g, 5, none⟩ = some (.map none) := cellOf hg1 (j := 5) rfl
      have HF1 := hide hf1
      have HT1 := hide (And.intro hkt1 hgt1)
      obtain ⟨A62, c62, A72, c72, hg2, _⟩ := hf1.opn
      have hy0 := cellOf hg2 (j := 0) (v := C.mac) rfl
      have hy1 := cellOf hg2 (j := 1) (v := .slice C.A n C.c) (by rw [← HN.out]; rfl)
      have HG2 := hide hg2
      have HSP := hide (special_any C.mac C.A C.c C.L suffixes (w1.setCell ⟨g, 5, none⟩ (.map (some b))) (HRL.out.below hf1.below) (by have := HN.out; omega) (fun j => by have := special_len_take C.L suffixes j; have := HCS.out.sp; omega))
      rw [HN.out] at HSP
      clear hfi hf1 hkt1 hgt1 hg1 hg2 hms
      go_wp2_with fail
      refine HSP.out.mono ?_
      rintro e w3 ⟨⟨v5, rfl, hos⟩, hb3⟩
      have hsz3 := hb3.size
      have hf3 := HF1.out.step hb3
      have HF3 := hide hf3
      have HKW := hide (((Kp.of_below HBX.out T).trans (HT1.out.1.mono fun q hq => .inl hq)).trans ((Kp.of_below hb3 (fun k => T k ∨ w.heap.size ≤ k))))
      have HGW := hide (fun q (hq : T1 q) => (HT1.out.2 q hq).imp_right (Nat.le_trans HBX.out.size))
      obtain ⟨As, cs, rfl, _, hss, hbs5⟩ := hos.slice
      have HSL := hide (fun W (hk : Kp w3 W T1) => hk.sr hss (fun a e _ ht => by
        have h1 := (World.ownsRow.lt hos a.block (hbs5 a e)).1
        have h2 := (HF1.out.tw _ ht).2
        omega))
      have hg3 := (hb3.block g (HF1.out.tw g HF1.out.tg).2).trans HG2.out
      have hx1 : w3.cell? ⟨g, 1, none⟩ = some (.slice C.A n C.c) := by rw [← HN.out]; exact cellOf hg3 (j := 1) rfl
      have HSPZ := hide (fun s (hs : s ∈ specialR C.L suffixes) => HCS.out.ss s hs)
      have HFIN := hide (fun W q (hf : FIP w0 C g (some b) (knownsF C.L) q T1 w3 W) => hf.from_ HKW.out HGW.out)
      obtain ⟨sl, hsl⟩ : ∃ l, specialR C.L suffixes = l := ⟨_, rfl⟩
      have hspl := HCS.out.sp
      rw [hsl] at hspl HSPZ HSL ⊢
      have HSLL := hide hsl
      obtain ⟨m, hm⟩ : ∃ m, sl.length = m := ⟨_, rfl⟩
      have HM := hide hm
      rw [hm] at hspl ⊢
      clear hos hb3 hf3 hss hbs5 hg3 hsl hm hy0 hy1 hsz3
      go_wp2
      go_loopw [7, 43] (fun _ v43 wr => ∃ k : Nat, v43 = .int .i64 k ∧ k ≤ n ∧ Hid (firstO (pat1 C.S C.cwd (knownsF C.L) C.target p) (C.L.take k) = none) ∧ FIP w0 C g (some b) (knownsF C.L) p T1 w3 wr) (fun _ v43 _ => n - (intOf v43).toNat)
      case atStart => exact ⟨0, rfl, by omega, rfl, HF3.out.toP (Below.refl _ _)⟩
      case round =>
        obtain ⟨k, rfl, hk, HFN, hfp⟩ := hrel
        have HFP := hide hfp
        clear hfp hx1
        by_cases hlt : k < n
        · obtain ⟨r, hr⟩ : ∃ r, C.L[k]? = some r := ⟨C.L[k]'(by have := HN.out; omega), List.getElem?_eq_getElem _⟩
          have hrk0 := HRL.out.2 r (List.mem_of_getElem? hr)
          have hrz := HCS.out.rl r (List.mem_of_getElem? hr)
          have HRZ := hide (And.intro hrk0 hrz)
          obtain ⟨T2, f2, k2, g2⟩ := HFP.out
          have HF2 := hide f2
          have HK2 := hide (And.intro k2 g2)
          have HAR := hide (HRL.out.below f2.below)
          have HRK := hide (hrk0.below f2.below)
          obtain ⟨gr, o, hgo, hgg, hc⟩ := HAR.out.1 k r hr
          have hc1 : wr.cell? ⟨gr, o + k * 3, none⟩ = some (sv r.tg) := by have := hc 0 _ rfl; simpa using this
          have hc2 : wr.cell? ⟨gr, o + k * 3 + 1, none⟩ = some (sv r.nd) := hc 1 _ rfl
          have hc3 : wr.cell? ⟨gr, o + k * 3 + 2, none⟩ = some (sv r.rc) := hc 2 _ rfl
          have HSTEP := hide (fun q (hf : pat1 C.S C.cwd (knownsF C.L) C.target p r = some q) => firstO_found _ C.L k r q HFN.out hr hf)
          have HNEXT := hide (fun (hf : pat1 C.S C.cwd (knownsF C.L) C.target p r = none) => firstO_step _ C.L k r HFN.out hr hf)
          have b1 : (k : Int) < (n : Int) := by omega
          rw [hgo]
          have hr0 := hr
          clear hc hr hrk0 hrz f2 k2 g2
          have hnb := heapNew wr (.cells #[.slice r.tg.1 r.tg.2.2.length r.tg.2.1, .slice r.nd.1 r.nd.2.2.length r.nd.2.1, .slice r.rc.1 r.rc.2.2.length r.rc.2.1] 63)
          have hba := (Below.refl wr.heap.size wr).alloc (Nat.le_refl _) (.cells #[.slice r.tg.1 r.tg.2.2.length r.tg.2.1, .slice r.nd.1 r.nd.2.2.length r.nd.2.1, .slice r.rc.1 r.rc.2.2.length r.rc.2.1] 63)
          have HNB := hide hnb
          have HBA := hide hba
          clear hnb hba
          have HPL := hide (fun W (hb : Below wr.heap.size wr W) => plain_any r W (HRK.out.below hb))
          have HPN := hide (HCS.out.pn r (List.mem_of_getElem? hr0))
          have HPA := hide (fun (h1 : plainR r.tg.2.2 = false) W (hb : Below wr.heap.size wr W) => pattern_any w0 C g b (knownsF C.L) p T2 r W (HOK.out W (below_up HF2.out.below hb HF2.out.below.size)) (HF2.out.step hb) HRZ.out.1 ⟨HRZ.out.2, HPN.out h1⟩ hl)
          have hP : pat1 C.S C.cwd (knownsF C.L) C.target p r = if plainR r.tg.2.2 = true then none else if r.rc.2.2.length = 0 then none else patO C.S C.cwd (knownsF C.L) C.target r p := rfl
          obtain ⟨p1, hp1⟩ : ∃ b, plainR r.tg.2.2 = b := ⟨_, rfl⟩
          rw [hp1] at HPL hP HPA
          clear hr0 HPN
          obtain ⟨rq, hrq⟩ : ∃ b, r.rc.2.2.length = b := ⟨_, rfl⟩
          rw [hrq] at hP
          have HPP := hide hP
          unfold sv at hc1 hc2 hc3 HPL HPA
          simp only [hrq] at hc3 HPL HPA HNB HBA
          clear hp1 hP hrq
          go_wp2_with fail
          refine (HPL.out _ HBA.out).mono ?_
          rintro e w4 ⟨rfl, hb4⟩
          have hnb4 := (hb4.block wr.heap.size (Array.getElem?_eq_some_iff.1 HNB.out).1).trans HNB.out
          have hd0 : w4.cell? ⟨wr.heap.size, 0, none⟩ = some (.slice r.tg.1 r.tg.2.2.length r.tg.2.1) := cellOf' hnb4 (j := 0) rfl
          have hd1 : w4.cell? ⟨wr.heap.size, 1, none⟩ = some (.slice r.nd.1 r.nd.2.2.length r.nd.2.1) := cellOf' hnb4 (j := 1) rfl
          have hd2 : w4.cell? ⟨wr.heap.size, 2, none⟩ = some (.slice r.rc.1 rq r.rc.2.1) := cellOf' hnb4 (j := 2) rfl
          have HB4 := hide (below_up HBA.out hb4 HBA.out.size)
          clear hb4 hnb4
          cases p1 with
          | true =>
            have HN1 := hide (HNEXT.out (HPP.out.trans (if_pos rfl)))
            have HF4 := hide (((HF2.out.toP HB4.out)).from_ HK2.out.1 HK2.out.2)
            go_wp2
            go_roundw
            case rel => exact ⟨k + 1, by go_num, by omega, HN1.out, HF4.out⟩
            case measure => simp [intOf]; omega
          | false =>
            have h2 := HPP.out.trans (if_neg (by simp))
            by_cases c2 : rq = 0
            · have HN1 := hide (HNEXT.out (h2.trans (if_pos c2)))
              have HF4 := hide (((HF2.out.toP HB4.out)).from_ HK2.out.1 HK2.out.2)
              have d1 : decide (0 < rq) = false := by simp; omega
              clear c2 h2
              go_wp2
              go_roundw
              case rel => exact ⟨k + 1, by go_num, by omega, HN1.out, HF4.out⟩
              case measure => simp [intOf]; omega
            have h3 := h2.trans (if_neg c2)
            have H3 := hide h3
            have d1 : decide (0 < rq) = true := by simp; omega
            clear c2 h2 h3
            go_wp2_with fail
            refine (HPA.out trivial _ HB4.out).mono ?_
            rintro e w5 ⟨rfl, hf5⟩
            have hf5' := (hf5.after HB4.out).from_ HK2.out.1 HK2.out.2
            clear hf5
            obtain ⟨R, hR⟩ : ∃ R, patO C.S C.cwd (knownsF C.L) C.target r p = R := ⟨_, rfl⟩
            rw [hR] at H3 hf5' ⊢
            clear hR
            cases R with
            | none =>
              have HN1 := hide (HNEXT.out H3.out)
              have HF5 := hide (show FIP w0 C g (some b) (knownsF C.L) p T1 w3 w5 from hf5')
              clear hf5'
              simp only [Option.isSome_none]
              go_wp2
              go_roundw
              case rel => exact ⟨k + 1, by go_num, by omega, HN1.out, HF5.out⟩
              case measure => simp [intOf]; omega
            | some q =>
              have HE := hide (fits_1 (HSTEP.out q H3.out))
              have HF5 := hide (HFIN.out w5 q hf5')
              clear hf5'
              simp only [Option.isSome_some]
              go_wp2
              (try simp only [Exit.inBlock, Exit.then])
              refine bodyPost_ret (results_none rfl _ _ _) rfl ?_
              rw [HE.out]
              exact ⟨rfl, b, HF5.out⟩
        · obtain rfl : n = k := by omega
          have hnone := HFN.out
          rw [List.take_of_length_le (by have := HN.out; omega)] at hnone
          have HNONE := hide hnone
          obtain ⟨T2, f2, k2, g2⟩ := HFP.out
          obtain ⟨_, _, _, _, hg2, _⟩ := f2.opn
          have hx1 : wr.cell? ⟨g, 1, none⟩ = some (.slice C.A n C.c) := by rw [← HN.out]; exact cellOf hg2 (j := 1) rfl
          have HF2 := hide f2
          have HK2 := hide (And.intro k2 g2)
          clear hnone hg2 f2 k2 g2 HFN
          go_wp2
          go_loopw [9, 68] (fun _ v68 wr => ∃ k : Nat, v68 = .int .i64 k ∧ k ≤ n ∧ Hid (firstO (suf1 C.S C.cwd (knownsF C.L) C.target (specialR C.L suffixes) p) (C.L.take k) = none) ∧ FIP w0 C g (some b) (knownsF C.L) p T1 w3 wr) (fun _ v68 _ => n - (intOf v68).toNat)
          case atStart => exact ⟨0, rfl, by omega, rfl, HFP.out⟩
          case round =>
            obtain ⟨k, rfl, hk, HFN, hfp⟩ := hrel
            have HFP := hide hfp
            clear hfp hx1
            by_cases hlt : k < n
            · obtain ⟨r, hr⟩ : ∃ r, C.L[k]? = some r := ⟨C.L[k]'(by have := HN.out; omega), List.getElem?_eq_getElem _⟩
              have hrk0 := HRL.out.2 r (List.mem_of_getElem? hr)
              have hrz := HCS.out.rl r (List.mem_of_getElem? hr)
              have HRZ := hide (And.intro hrk0 hrz)
              obtain ⟨T2, f2, k2, g2⟩ := HFP.out
              have HF2 := hide f2
              have HK2 := hide (And.intro k2 g2)
              have HAR := hide (HRL.out.below f2.below)
              have HRK := hide (hrk0.below f2.below)
              obtain ⟨gr, o, hgo, hgg, hc⟩ := HAR.out.1 k r hr
              have hc1 : wr.cell? ⟨gr, o + k * 3, none⟩ = some (sv r.tg) := by have := hc 0 _ rfl; simpa using this
              have hc2 : wr.cell? ⟨gr, o + k * 3 + 1, none⟩ = some (sv r.nd) := hc 1 _ rfl
              have hc3 : wr.cell? ⟨gr, o + k * 3 + 2, none⟩ = some (sv r.rc) := hc 2 _ rfl
              have HSTEP := hide (fun q (hf : suf1 C.S C.cwd (knownsF C.L) C.target (specialR C.L suffixes) p r = some q) => firstO_found _ C.L k r q HFN.out hr hf)
              have HNEXT := hide (fun (hf : suf1 C.S C.cwd (knownsF C.L) C.target (specialR C.L suffixes) p r = none) => firstO_step _ C.L k r HFN.out hr hf)
              have b1 : (k : Int) < (n : Int) := by omega
              rw [hgo]
              clear hc hr hrk0 hrz f2 k2 g2
              have hnb := heapNew wr (.cells #[.slice r.tg.1 r.tg.2.2.length r.tg.2.1, .slice r.nd.1 r.nd.2.2.length r.nd.2.1, .slice r.rc.1 r.rc.2.2.length r.rc.2.1] 63)
              have hba := (Below.refl wr.heap.size wr).alloc (Nat.le_refl _) (.cells #[.slice r.tg.1 r.tg.2.2.length r.tg.2.1, .slice r.nd.1 r.nd.2.2.length r.nd.2.1, .slice r.rc.1 r.rc.2.2.length r.rc.2.1] 63)
              have HNB := hide hnb
              have HBA := hide hba
              clear hnb hba
              have HSU := hide (fun W (hb : Below wr.heap.size wr W) => suffix_any w0 C g b (knownsF C.L) p T2 r As cs sl W (HOK.out W (below_up HF2.out.below hb HF2.out.below.size)) (HF2.out.step hb) HRZ.out.1 HRZ.out.2 ((HSL.out wr HK2.out.1).below hb) HSPZ.out (by have := HM.out; omega) hl)
              rw [HM.out] at HSU
              have hP : suf1 C.S C.cwd (knownsF C.L) C.target (specialR C.L suffixes) p r = if r.rc.2.2.length = 0 then none else sufO C.S C.cwd (knownsF C.L) C.target (specialR C.L suffixes) r p := rfl
              rw [HSLL.out] at hP HSTEP HNEXT
              obtain ⟨rq, hrq⟩ : ∃ b, r.rc.2.2.length = b := ⟨_, rfl⟩
              rw [hrq] at hP
              have HPP := hide hP
              unfold sv at hc1 hc2 hc3 HSU
              simp only [hrq] at hc3 HSU HNB HBA
              have hd2 : (wr.alloc (.cells #[.slice r.tg.1 r.tg.2.2.length r.tg.2.1, .slice r.nd.1 r.nd.2.2.length r.nd.2.1, .slice r.rc.1 rq r.rc.2.1] 63)).cell? ⟨wr.heap.size, 2, none⟩ = some (.slice r.rc.1 rq r.rc.2.1) := cellOf' HNB.out (j := 2) rfl
              clear hP hrq
              by_cases c2 : rq = 0
              · have HN1 := hide (HNEXT.out (HPP.out.trans (if_pos c2)))
                have HF4 := hide (((HF2.out.toP HBA.out)).from_ HK2.out.1 HK2.out.2)
                have d1 : decide (0 < rq) = false := by simp; omega
                clear c2
                go_wp2
                go_roundw
                case rel => exact ⟨k + 1, by go_num, by omega, by rw [HSLL.out]; exact HN1.out, HF4.out⟩
                case measure => simp [intOf]; omega
              have H3 := hide (HPP.out.trans (if_neg c2))
              have d1 : decide (0 < rq) = true := by simp; omega
              clear c2
              go_wp2_with fail
              refine (HSU.out _ HBA.out).mono ?_
              rintro e w5 ⟨rfl, hf5⟩
              have hf5' := (hf5.after HBA.out).from_ HK2.out.1 HK2.out.2
              clear hf5
              obtain ⟨R, hR⟩ : ∃ R, sufO C.S C.cwd (knownsF C.L) C.target sl r p = R := ⟨_, rfl⟩
              rw [hR] at H3 hf5' ⊢
              clear hR
              cases R with
              | none =>
                have HN1 := hide (HNEXT.out H3.out)
                have HF5 := hide (show FIP w0 C g (some b) (knownsF C.L) p T1 w3 w5 from hf5')
                clear hf5'
                simp only [Option.isSome_none]
                go_wp2
                go_roundw
                case rel => exact ⟨k + 1, by go_num, by omega, by rw [HSLL.out]; exact HN1.out, HF5.out⟩
                case measure => simp [intOf]; omega
              | some q =>
                have HE := hide (fits_2 HNONE.out (by rw [HSLL.out]; exact HSTEP.out q H3.out))
                have HF5 := hide (HFIN.out w5 q hf5')
                clear hf5'
                simp only [Option.isSome_some]
                go_wp2
                (try simp only [Exit.inBlock, Exit.then])
                refine bodyPost_ret (results_none rfl _ _ _) rfl ?_
                rw [HE.out]
                exact ⟨rfl, b, HF5.out⟩
            · obtain rfl : n = k := by omega
              have hnone := HFN.out
              rw [List.take_of_length_le (by have := HN.out; omega)] at hnone
              have HE := hide (fits_3 HNONE.out hnone)
              have HF5 := hide (HFIN.out wr p HFP.out)
              clear hnone
              go_wp2
              go_end0
              rw [HE.out]
              exact ⟨rfl, b, HF5.out⟩
end Go.Proofs.YtaajofojbhdgaaaGreatDoor
/- Walk of find.Plan. -/
namespace Go.Proofs.YtaajofojbhdgaaaGreatDoor
open Go.RowKit Go.Deep Go.Maps Ln Pth Vf
attribute [local go_sem] bt_eq

theorem gathers_len {t : ByteArray} (L : List Rl) : ∀ k, (gathersF t (L.take k)).needs.length ≤ (specialR (L.take k) t).length := by
  intro k
  induction k with
  | zero => simp [gathersF, noPn]
  | succ k ih =>
    cases h : L[k]? with
    | none =>
      rw [List.take_add_one, h]
      simpa using ih
    | some r =>
      rw [gathers_take h, special_take h, List.length_append]
      unfold gatherF
      split
      · have := needsF_len r.nd.2.2 (gathersF t (L.take k)).needs
        dsimp only
        omega
      · omega
/-- four cells stored, one behind the other -/
theorem store4 {w : World} {g : Nat} {t : TypeId} {a0 a1 a2 a3 : Value} (h : w.heap[g]? = some (.cells #[a0, a1, a2, a3] t)) (v0 v1 v2 v3 : Value) :
    (w.cell? ⟨g, 0, none⟩ = some a0 ∧ w.frozen? ⟨g, 0, none⟩ = false ∧
    (w.setCell ⟨g, 0, none⟩ v0).cell? ⟨g, 1, none⟩ = some a1 ∧ (w.setCell ⟨g, 0, none⟩ v0).frozen? ⟨g, 1, none⟩ = false ∧
    ((w.setCell ⟨g, 0, none⟩ v0).setCell ⟨g, 1, none⟩ v1).cell? ⟨g, 2, none⟩ = some a2 ∧ ((w.setCell ⟨g, 0, none⟩ v0).setCell ⟨g, 1, none⟩ v1).frozen? ⟨g, 2, none⟩ = false ∧
    (((w.setCell ⟨g, 0, none⟩ v0).setCell ⟨g, 1, none⟩ v1).setCell ⟨g, 2, none⟩ v2).cell? ⟨g, 3, none⟩ = some a3 ∧ (((w.setCell ⟨g, 0, none⟩ v0).setCell ⟨g, 1, none⟩ v1).setCell ⟨g, 2, none⟩ v2).frozen? ⟨g, 3, none⟩ = false) ∧
    ((((w.setCell ⟨g, 0, none⟩ v0).setCell ⟨g, 1, none⟩ v1).setCell ⟨g, 2, none⟩ v2).setCell ⟨g, 3, none⟩ v3).heap[g]? = some (.cells #[v0, v1, v2, v3] t) ∧
    Kp w ((((w.setCell ⟨g, 0, none⟩ v0).setCell ⟨g, 1, none⟩ v1).setCell ⟨g, 2, none⟩ v2).setCell ⟨g, 3, none⟩ v3) (fun k => k = g) := by
  have h1 : (w.setCell ⟨g, 0, none⟩ v0).heap[g]? = some (.cells #[v0, a1, a2, a3] t) := by rw [heapSet h]; rfl
  have h2 : ((w.setCell ⟨g, 0, none⟩ v0).setCell ⟨g, 1, none⟩ v1).heap[g]? = some (.cells #[v0, v1, a2, a3] t) := by rw [heapSet h1]; rfl
  have h3 : (((w.setCell ⟨g, 0, none⟩ v0).setCell ⟨g, 1, none⟩ v1).setCell ⟨g, 2, none⟩ v2).heap[g]? = some (.cells #[v0, v1, v2, a3] t) := by rw [heapSet h2]; rfl
  have h4 : ((((w.setCell ⟨g, 0, none⟩ v0).setCell ⟨g, 1, none⟩ v1).setCell ⟨g, 2, none⟩ v2).setCell ⟨g, 3, none⟩ v3).heap[g]? = some (.cells #[v0, v1, v2, v3] t) := by rw [heapSet h3]; rfl
  refine ⟨⟨cellOf h (j := 0) rfl, freeOf h 0, cellOf h1 (j := 1) rfl, freeOf h1 1, cellOf h2 (j := 2) rfl, freeOf h2 2, cellOf h3 (j := 3) rfl, freeOf h3 3⟩, h4, ?_⟩
  exact (kp_set.trans ((kp_set.trans ((kp_set.trans (kp_set.mono fun k e => .inl e)).mono fun k e => .inl e)).mono fun k e => .inl e))
/-- what Plan leaves -/
def PlanPost (w : World) (q : Pn) (e : Ending) (w' : World) : Prop := ∃ vn vr, e = .returned (.agg #[vn, vr, .string (bs q.stem), .bool q.rule]) ∧ OwnS w' w.heap.size vn q.needs ∧ OwnS w' w.heap.size vr q.recipe ∧ Below w.heap.size w w'
/-- the last steps: the plan is copied out -/
theorem plan_end {w W : World} {C : Cf} {g gp : Nat} {kb : Option Nat} {kl : List ByteArray} {q : Pn} {T : Nat → Prop} (hf : FI w C g kb kl q T W) {a0 a1 a2 a3 : Value} (hgp : W.heap[gp]? = some (.cells #[a0, a1, a2, a3] 49)) (hT : ¬ T gp) (hw : w.heap.size ≤ gp) : ∃ A6 l6 c6 A7 l7 c7,
    (W.cell? ⟨g, 6, none⟩ = some (.slice A6 l6 c6) ∧ W.cell? ⟨g, 7, none⟩ = some (.slice A7 l7 c7) ∧ W.cell? ⟨g, 8, none⟩ = some (.string (bs q.stem)) ∧ W.cell? ⟨g, 9, none⟩ = some (.bool q.rule)) ∧
    (W.cell? ⟨gp, 0, none⟩ = some a0 ∧ W.frozen? ⟨gp, 0, none⟩ = false ∧
    (W.setCell ⟨gp, 0, none⟩ (.slice A6 l6 c6)).cell? ⟨gp, 1, none⟩ = some a1 ∧ (W.setCell ⟨gp, 0, none⟩ (.slice A6 l6 c6)).frozen? ⟨gp, 1, none⟩ = false ∧
    ((W.setCell ⟨gp, 0, none⟩ (.slice A6 l6 c6)).setCell ⟨gp, 1, none⟩ (.slice A7 l7 c7)).cell? ⟨gp, 2, none⟩ = some a2 ∧ ((W.setCell ⟨gp, 0, none⟩ (.slice A6 l6 c6)).setCell ⟨gp, 1, none⟩ (.slice A7 l7 c7)).frozen? ⟨gp, 2, none⟩ = false ∧
    (((W.setCell ⟨gp, 0, none⟩ (.slice A6 l6 c6)).setCell ⟨gp, 1, none⟩ (.slice A7 l7 c7)).setCell ⟨gp, 2, none⟩ (.string (bs q.stem))).cell? ⟨gp, 3, none⟩ = some a3 ∧ (((W.setCell ⟨gp, 0, none⟩ (.slice A6 l6 c6)).setCell ⟨gp, 1, none⟩ (.slice A7 l7 c7)).setCell ⟨gp, 2, none⟩ (.string (bs q.stem))).frozen? ⟨gp, 3, none⟩ = false) ∧
    ((((W.setCell ⟨gp, 0, none⟩ (.slice A6 l6 c6)).setCell ⟨gp, 1, none⟩ (.slice A7 l7 c7)).setCell ⟨gp, 2, none⟩ (.string (bs q.stem))).setCell ⟨gp, 3, none⟩ (.bool q.rule)).heap[gp]? = some (.cells #[(.slice A6 l6 c6), (.slice A7 l7 c7), .string (bs q.stem), .bool q.rule] 49) ∧
    PlanPost w q (.returned (.agg #[(.slice A6 l6 c6), (.slice A7 l7 c7), .string (bs q.stem), .bool q.rule])) ((((W.setCell ⟨gp, 0, none⟩ (.slice A6 l6 c6)).setCell ⟨gp, 1, none⟩ (.slice A7 l7 c7)).setCell ⟨gp, 2, none⟩ (.string (bs q.stem))).setCell ⟨gp, 3, none⟩ (.bool q.rule)) := by
  obtain ⟨vn, vr, h1, h2, h3, h4, h5, h6⟩ := hf.body
  obtain ⟨A6, c6, rfl, _, _, _⟩ := h2.slice
  obtain ⟨A7, c7, rfl, _, _, _⟩ := h5.slice
  obtain ⟨hs, hgf, hkp⟩ := store4 hgp (.slice A6 q.needs.length c6) (.slice A7 q.recipe.length c7) (.string (bs q.stem)) (.bool q.rule)
  refine ⟨A6, _, c6, A7, _, c7, ⟨cellOf h1 (j := 6) rfl, cellOf h1 (j := 7) rfl, cellOf h1 (j := 8) rfl, cellOf h1 (j := 9) rfl⟩, hs, hgf, _, _, rfl, ?_, ?_, hkp.below hf.below (Nat.le_refl _) (fun k e => by omega)⟩
  · exact h2.of fun k e => hkp.block k (World.ownsRow.lt h2 k e).2 (fun e2 => hT (e2 ▸ h4 k e))
  · refine h5.of fun k e => hkp.block k (World.ownsRow.lt h5 k e).2 (fun e2 => ?_)
    obtain ⟨_, h | ⟨g', cap, cur, h, hg', hh, _⟩⟩ := h5
    · rw [h.1] at e
      simp [Value.ownBlock] at e
    · rw [h] at e
      simp only [Value.ownBlock] at e
      injection e with e
      rw [e, e2, hgp] at hh
      injection hh with hh
      injection hh with _ hh
      exact absurd hh (by decide)
theorem ret_plan {a : Act} {W : World} {gp : Nat} {v0 v1 v2 v3 : Value} (hr : W.heap[gp]? = some (.cells #[v0, v1, v2, v3] 49)) (h8 : a.tmps.getD 8 undef = .pointer (some ⟨gp, 0, none⟩)) :
    (results Tryz.f31 a.tmps).run Tryz.prog W = .ok (.agg #[v0, v1, v2, v3]) W := by
  have c0 : W.cell? ⟨gp, 0, none⟩ = some v0 := cellOf hr (j := 0) rfl
  have c1 : W.cell? ⟨gp, 1, none⟩ = some v1 := cellOf hr (j := 1) rfl
  have c2 : W.cell? ⟨gp, 2, none⟩ = some v2 := cellOf hr (j := 2) rfl
  have c3 : W.cell? ⟨gp, 3, none⟩ = some v3 := cellOf hr (j := 3) rfl
  simp only [results, Tryz.results31]
  simp only [Array.getD_eq_getD_getElem?] at h8
  simp [go_sem, h8, c0, c1, c2, c3]
set_option linter.unusedSimpArgs false in
set_option maxRecDepth 100000 in
set_option maxHeartbeats 8000000 in
theorem plan_any (C : Cf) (w : World) (hok : CfOk C w) (hcs : CfSz C) (hsn : (specialR C.L (bs C.target)).length ≤ 100000) :
    Calls Tryz.prog 31 #[.agg #[C.mac, .slice C.A C.L.length C.c], .pointer (some ⟨C.gf, 0, none⟩), .string (bs C.cwd), .string (bs C.target)] w (PlanPost w (planF C.S C.cwd C.L C.target)) := by
  have HOK := hide (fun W (hb : Below w.heap.size w W) => hok.below hb)
  have HCS := hide hcs
  have hrl := hok.rl
  have HRL := hide hrl
  have hln := hok.ln
  have HSN := hide hsn
  obtain ⟨n, hn⟩ : ∃ n, C.L.length = n := ⟨_, rfl⟩
  have HN := hide hn
  rw [hn] at hln ⊢
  have hn1 : (n : Int) ≤ 1000 := by omega
  have HIS := hide (fun W => isSpecial_any C.target W (by have := hok.t1; omega))
  have hR : planF C.S C.cwd C.L C.target = if specT C.target = true then noPn else if (gathersF (bs C.target) C.L).recipe = [] then fitsF C.S C.cwd C.L C.target (gathersF (bs C.target) C.L) else gathersF (bs C.target) C.L := rfl
  obtain ⟨R, hRR⟩ : ∃ R, planF C.S C.cwd C.L C.target = R := ⟨_, rfl⟩
  rw [hRR] at hR ⊢
  obtain ⟨sp, hsp⟩ : ∃ q, specT C.target = q := ⟨_, rfl⟩
  rw [hsp] at HIS hR
  have HR := hide hR
  clear hok hcs hrl hn hR hRR hsp hsn
  have hba := ((Below.refl w.heap.size w).alloc (Nat.le_refl _) (.cells #[C.mac, .slice C.A n C.c] 25))
  have hbb := hba.alloc (by simp) (.cells #[.slice none 0 0, .slice none 0 0, .string ⟨#[]⟩, .bool false] 49)
  go_enter Tryz.func31, Tryz.ntmps31
  have HBB := hide hbb
  have HGP := hide (heapNew (w.alloc (.cells #[C.mac, .slice C.A n C.c] 25)) (.cells #[.slice none 0 0, .slice none 0 0, .string ⟨#[]⟩, .bool false] 49))
  go_wp2_with fail
  refine (HIS.out _).mono ?_
  rintro e w1 ⟨rfl, hb1⟩
  have hszp : w.heap.size + 1 < w1.heap.size := by have := hb1.size; simp at this; omega
  have hsz1 : (w.alloc (.cells #[C.mac, .slice C.A n C.c] 25)).heap.size = w.heap.size + 1 := by simp
  have hgp0 := HGP.out
  rw [hsz1] at hgp0
  have hgp := (hb1.block (w.heap.size + 1) (by simp)).trans hgp0
  have hgm := (hb1.block w.heap.size (by simp; omega)).trans (show ((w.alloc (.cells #[C.mac, .slice C.A n C.c] 25)).alloc (.cells #[.slice none 0 0, .slice none 0 0, .string ⟨#[]⟩, .bool false] 49)).heap[w.heap.size]? = some (.cells #[C.mac, .slice C.A n C.c] 25) by
    rw [Below.heap_alloc _ _ _ (by simp)]
    exact heapNew w _)
  have HB1 := hide (below_up HBB.out hb1 HBB.out.size)
  have HGPW := hide hgp
  clear hba hbb hb1 HGP
  cases sp with
  | true =>
    have HE := hide (HR.out.trans (if_pos rfl))
    obtain ⟨⟨q1, q2, q3, q4, q5, q6, q7, q8⟩, hgf, hkp⟩ := store4 hgp (.slice none 0 0) (.slice none 0 0) (.string ⟨#[]⟩) (.bool false)
    have HGF := hide hgf
    have HBF := hide (hkp.below HB1.out (Nat.le_refl _) (fun k e => by omega))
    clear hgf hkp hgp hgm
    go_wp2
    refine bodyPost_ret (ret_plan HGF.out rfl) rfl ?_
    rw [HE.out]
    exact ⟨_, _, rfl, OwnS.nil _ _, OwnS.nil _ _, HBF.out⟩
  | false =>
    have HR2 := hide (HR.out.trans (if_neg (by simp)))
    have hm0 : w1.cell? ⟨w.heap.size, 0, none⟩ = some C.mac := cellOf hgm (j := 0) rfl
    have hm1 : w1.cell? ⟨w.heap.size, 1, none⟩ = some (.slice C.A n C.c) := cellOf hgm (j := 1) rfl
    have hbx := (Below.refl w1.heap.size w1).alloc (Nat.le_refl _) (.cells (fcells C none (.slice none 0 0) (.slice none 0 0) [] false) 110)
    have HFI := hide (show FI w C w1.heap.size none [] noPn (fun k => k = w1.heap.size) (w1.alloc (.cells (fcells C none (.slice none 0 0) (.slice none 0 0) [] false) 110)) from
      ⟨below_up HB1.out hbx HB1.out.size, rfl, fun k e => (by subst e; exact ⟨by omega, by simp⟩), fun b e => (by cases e), .slice none 0 0, .slice none 0 0, heapNew _ _, OwnS.nil _ _, by simp [Value.ownBlock], fun k e => (by simp [Value.ownBlock] at e), OwnS.nil _ _, fun k e => (by simp [Value.ownBlock] at e)⟩)
    have HBX := hide hbx
    have hm2 : (w1.alloc (.cells (fcells C none (.slice none 0 0) (.slice none 0 0) [] false) 110)).cell? ⟨w.heap.size, 1, none⟩ = some (.slice C.A n C.c) := (hbx.cell (p := ⟨w.heap.size, 1, none⟩) (by dsimp only; omega)).trans hm1
    have HFC := hide (show fcells C none (.slice none 0 0) (.slice none 0 0) [] false = #[C.mac, .slice C.A n C.c, .pointer (some ⟨C.gf, 0, none⟩), .string (bs C.cwd), .string (bs C.target), .map none, .slice none 0 0, .slice none 0 0, .string ⟨#[]⟩, .bool false] by rw [← HN.out]; rfl)
    rw [HFC.out] at HFI HBX hm2
    clear hbx hgp hgm
    go_wp2
    obtain ⟨W, hW⟩ : ∃ W, w1.alloc (.cells #[C.mac, .slice C.A n C.c, .pointer (some ⟨C.gf, 0, none⟩), .string (bs C.cwd), .string (bs C.target), .map none, .slice none 0 0, .slice none 0 0, .string ⟨#[]⟩, .bool false] 110) = W := ⟨_, rfl⟩
    rw [hW] at HFI HBX ⊢
    obtain ⟨g, hg⟩ : ∃ g, w1.heap.size = g := ⟨_, rfl⟩
    rw [hg] at HFI HBX ⊢
    have HGG := hide hg
    clear hW hm2 hm0 hm1 hg
    go_loopw [11, 13, 26, 47] (fun _ _ v26 _ wr => ∃ k : Nat, v26 = .int .i64 k ∧ k ≤ n ∧ FIP w C g none [] (gathersF (bs C.target) (C.L.take k)) (fun k => k = g) W wr) (fun _ _ v26 _ _ => n - (intOf v26).toNat)
    case atStart => exact ⟨0, rfl, by omega, HFI.out.toP (Below.refl _ _)⟩
    case round =>
        obtain ⟨k, rfl, hk, hfp⟩ := hrel
        have HFP := hide hfp
        clear hfp
        generalize wr = wo at *
        by_cases hlt : k < n
        · obtain ⟨r, hr⟩ : ∃ r, C.L[k]? = some r := ⟨C.L[k]'(by have := HN.out; omega), List.getElem?_eq_getElem _⟩
          have hrk0 := HRL.out.2 r (List.mem_of_getElem? hr)
          have HRK0 := hide hrk0
          obtain ⟨T2, f2, k2, g2⟩ := HFP.out
          have HF2 := hide f2
          have HK2 := hide (And.intro k2 g2)
          have HAR := hide (HRL.out.below f2.below)
          have HRK := hide (hrk0.below f2.below)
          obtain ⟨gr, o, hgo, hgg, hc⟩ := HAR.out.1 k r hr
          have hc1 : wo.cell? ⟨gr, o + k * 3, none⟩ = some (sv r.tg) := by have := hc 0 _ rfl; simpa using this
          have hc2 : wo.cell? ⟨gr, o + k * 3 + 1, none⟩ = some (sv r.nd) := hc 1 _ rfl
          have hc3 : wo.cell? ⟨gr, o + k * 3 + 2, none⟩ = some (sv r.rc) := hc 2 _ rfl
          have HT := hide (gathers_take (target := bs C.target) hr)
          have hgl := gathers_len (t := bs C.target) C.L k
          have hsl := special_len_take C.L (bs C.target) k
          have hsn := HSN.out
          have b1 : (k : Int) < (n : Int) := by omega
          have hr1 := hrk0.r1
          have hn1' := hrk0.n1
          rw [hgo]
          have HPL := hide (fun W (hb : Below wo.heap.size wo W) => plain_any r W (HRK.out.below hb))
          have HCT := hide (fun W (hb : Below wo.heap.size wo W) => cont_any r.tg.1 r.tg.2.1 r.tg.2.2 (bs C.target) W (HRK.out.tg.below hb) (by have := HRK.out.t1; omega))
          have hof : ofR (bs C.target) r = (plainR r.tg.2.2 && Lib.containsS r.tg.2.2 (bs C.target)) := rfl
          obtain ⟨p1, hp1⟩ : ∃ b, plainR r.tg.2.2 = b := ⟨_, rfl⟩
          obtain ⟨p2, hp2⟩ : ∃ b, Lib.containsS r.tg.2.2 (bs C.target) = b := ⟨_, rfl⟩
          rw [hp1] at HPL hof
          rw [hp2] at HCT hof
          have HOF := hide hof
          obtain ⟨p, hp⟩ : ∃ p, gathersF (bs C.target) (C.L.take k) = p := ⟨_, rfl⟩
          rw [hp] at HF2 HT hgl
          have hpl : p.needs.length ≤ 100000 := by omega
          have hG : gatherF (bs C.target) p r = if ofR (bs C.target) r = true then ⟨needsF p.needs r.nd.2.2, if 0 < r.rc.2.2.length then r.rc.2.2 else p.recipe, p.stem, true⟩ else p := rfl
          rw [HOF.out] at hG
          have HG := hide hG
          obtain ⟨rq, hrq⟩ : ∃ b, r.rc.2.2.length = b := ⟨_, rfl⟩
          obtain ⟨m, hm⟩ : ∃ b, r.nd.2.2.length = b := ⟨_, rfl⟩
          have HRQ := hide hrq
          have HM := hide hm
          rw [hrq] at hr1 HG
          rw [hm] at hn1'
          have hmi : (m : Int) ≤ 100000 := by omega
          clear hc hr hrk0 f2 k2 g2 hof hp1 hp2 hp hgl hsl hsn hG
          have hnb := heapNew wo (.cells #[.slice r.tg.1 r.tg.2.2.length r.tg.2.1, .slice r.nd.1 m r.nd.2.1, .slice r.rc.1 rq r.rc.2.1] 63)
          have hba := (Below.refl wo.heap.size wo).alloc (Nat.le_refl _) (.cells #[.slice r.tg.1 r.tg.2.2.length r.tg.2.1, .slice r.nd.1 m r.nd.2.1, .slice r.rc.1 rq r.rc.2.1] 63)
          have HNB := hide hnb
          have HBA := hide hba
          unfold sv at hc1 hc2 hc3 HPL
          rw [hrq] at hc3
          rw [hm] at hc2
          simp only [hrq, hm] at HPL
          clear hnb hba hrq hm
          go_wp2_with fail
          refine (HPL.out _ HBA.out).mono ?_
          rintro e w4 ⟨rfl, hb4⟩
          have hnb4 := (hb4.block wo.heap.size (Array.getElem?_eq_some_iff.1 HNB.out).1).trans HNB.out
          have hszw : wo.heap.size < w4.heap.size := by have := hb4.size; simp at this; omega
          have HNB4 := hide hnb4
          have hd0 : w4.cell? ⟨wo.heap.size, 0, none⟩ = some (.slice r.tg.1 r.tg.2.2.length r.tg.2.1) := cellOf' hnb4 (j := 0) rfl
          have hd1 : w4.cell? ⟨wo.heap.size, 1, none⟩ = some (.slice r.nd.1 m r.nd.2.1) := cellOf' hnb4 (j := 1) rfl
          have hd2 : w4.cell? ⟨wo.heap.size, 2, none⟩ = some (.slice r.rc.1 rq r.rc.2.1) := cellOf' hnb4 (j := 2) rfl
          have HB4 := hide (below_up HBA.out hb4 HBA.out.size)
          clear hb4 hnb4
          cases p1 with
          | false =>
            have HE := hide (show gathersF (bs C.target) (C.L.take (k + 1)) = p by rw [HT.out, HG.out]; simp)
            have HF4 := hide (((HF2.out.toP HB4.out)).from_ HK2.out.1 HK2.out.2)
            go_wp2
            go_roundw
            case rel => exact ⟨k + 1, by go_num, by omega, by rw [HE.out]; exact HF4.out⟩
            case measure => simp [intOf]; omega
          | true =>
            go_wp2_with fail
            refine (HCT.out _ HB4.out).mono ?_
            rintro e w' ⟨rfl, rfl⟩
            cases p2 with
            | false =>
              have HE := hide (show gathersF (bs C.target) (C.L.take (k + 1)) = p by rw [HT.out, HG.out]; simp)
              have HF4 := hide (((HF2.out.toP HB4.out)).from_ HK2.out.1 HK2.out.2)
              go_wp2
              go_roundw
              case rel => exact ⟨k + 1, by go_num, by omega, by rw [HE.out]; exact HF4.out⟩
              case measure => simp [intOf]; omega
            | true =>
              have hG2 := HG.out
              rw [if_pos (show (true && true) = true from rfl)] at hG2
              have HG2 := hide hG2
              have hf4 := HF2.out.step HB4.out
              have hr4 := hf4.rule_ true
              obtain ⟨T3, f3, k3, g3⟩ := hr4
              obtain ⟨vn, vr, hgc, _⟩ := hf4.body
              have hz9 := freeOf hgc 9
              have hy9 : w4.cell? ⟨g, 9, none⟩ = some (.bool p.rule) := cellOf hgc (j := 9) rfl
              have HF3 := hide f3
              have HK3 := hide (And.intro k3 g3)
              have hne : ¬ T2 wo.heap.size := fun ht => by have := (HF2.out.tw _ ht).2; omega
              have hnb5 := (k3.block wo.heap.size hszw hne).trans HNB4.out
              have HNE := hide (show ¬ T3 wo.heap.size from fun ht => by
                rcases g3 _ ht with h | h
                · exact hne h
                · omega)
              have hd1' : (w4.setCell ⟨g, 9, none⟩ (.bool true)).cell? ⟨wo.heap.size, 1, none⟩ = some (.slice r.nd.1 m r.nd.2.1) := cellOf' hnb5 (j := 1) rfl
              have HNB5 := hide hnb5
              have HN3 := hide (HRK.out.nd.below HB4.out)
              clear hf4 f3 k3 g3 hgc hG2 hne hnb5
              go_wp2
              obtain ⟨W5, hW5⟩ : ∃ W, w4.setCell ⟨g, 9, none⟩ (.bool true) = W := ⟨_, rfl⟩
              rw [hW5] at HF3 HK3 HNB5 ⊢
              clear hW5 hd1' hd0 hd1 hd2 hz9 hy9
              go_loopw [13, 47] (fun _ v47 wr2 => ∃ j : Nat, v47 = .int .i64 j ∧ j ≤ m ∧ FIP w C g none [] (addN { p with rule := true } (r.nd.2.2.take j)) T3 W5 wr2) (fun _ v47 _ => m - (intOf v47).toNat)
              case atStart => exact ⟨0, rfl, by omega, HF3.out.toP (Below.refl _ _)⟩
              case round =>
                obtain ⟨j, rfl, hj, hfp2⟩ := hrel
                have HFP2 := hide hfp2
                clear hfp2
                generalize wr = wz at *
                obtain ⟨T4, f4, k4, g4⟩ := HFP2.out
                have HF4 := hide f4
                have HK4 := hide (And.intro k4 g4)
                have HNR := hide (HRK0.out.nd.below f4.below)
                have HRR := hide (HRK0.out.rc.below f4.below)
                have hnb6 := (k4.block wo.heap.size (Nat.lt_of_lt_of_le hszw HK3.out.1.size) HNE.out).trans HNB5.out
                have hd2' : wz.cell? ⟨wo.heap.size, 2, none⟩ = some (.slice r.rc.1 rq r.rc.2.1) := cellOf' hnb6 (j := 2) rfl
                clear f4 k4 g4 hnb6
                by_cases hlt2 : j < m
                · obtain ⟨x, hx⟩ : ∃ x, r.nd.2.2[j]? = some x := ⟨r.nd.2.2[j]'(by have := HM.out; omega), List.getElem?_eq_getElem _⟩
                  obtain ⟨gs2, o2, hgo2, hgs2, hcx⟩ := HNR.out j x hx
                  have hql : (addN { p with rule := true } (r.nd.2.2.take j)).needs.length ≤ 900000 := by
                    have := needsF_len (r.nd.2.2.take j) p.needs
                    rw [List.length_take] at this
                    show (needsF p.needs (r.nd.2.2.take j)).length ≤ _
                    omega
                  have HND := hide (need_any w C g none [] _ T4 x wz HF4.out hql)
                  have HE := hide (show ({ addN { p with rule := true } (r.nd.2.2.take j) with needs := needF (addN { p with rule := true } (r.nd.2.2.take j)).needs x } : Pn) = addN { p with rule := true } (r.nd.2.2.take (j + 1)) by
                    unfold addN
                    rw [needsF_take hx])
                  rw [HE.out] at HND
                  have b2 : (j : Int) < (m : Int) := by omega
                  rw [hgo2]
                  clear hx hql
                  go_wp2_with fail
                  refine HND.out.mono ?_
                  rintro e w6 ⟨rfl, h6⟩
                  have HF6 := hide (h6.from_ HK4.out.1 HK4.out.2)
                  clear h6
                  go_wp2
                  go_roundw
                  case rel => exact ⟨j + 1, by go_num, by omega, HF6.out⟩
                  case measure => simp [intOf]; omega
                · obtain rfl : m = j := by omega
                  have htk : r.nd.2.2.take m = r.nd.2.2 := List.take_of_length_le (by have := HM.out; omega)
                  rw [htk] at HF4
                  by_cases c2 : rq = 0
                  · have HE := hide (show gathersF (bs C.target) (C.L.take (k + 1)) = addN { p with rule := true } r.nd.2.2 by
                      rw [HT.out, HG2.out, if_neg (by omega)]
                      rfl)
                    have HF7 := hide (((((HF4.out.toP (Below.refl _ _)).from_ HK4.out.1 HK4.out.2).from_ HK3.out.1 HK3.out.2).after HB4.out).from_ HK2.out.1 HK2.out.2)
                    have d1 : decide (0 < rq) = false := by simp; omega
                    clear c2 htk
                    go_wp2
                    go_roundw
                    case rel => exact ⟨k + 1, by go_num, by omega, by rw [HE.out]; exact HF7.out⟩
                    case measure => simp [intOf]; omega
                  have HE := hide (show gathersF (bs C.target) (C.L.take (k + 1)) = { addN { p with rule := true } r.nd.2.2 with recipe := r.rc.2.2 } by
                    rw [HT.out, HG2.out, if_pos (by omega)]
                    rfl)
                  have d1 : decide (0 < rq) = true := by simp; omega
                  have HCL := hide (sclone_any r.rc.1 r.rc.2.1 r.rc.2.2 wz HRR.out (by have := HRQ.out; omega))
                  rw [HRQ.out] at HCL
                  clear c2 htk
                  go_wp2_with fail
                  refine HCL.out.mono ?_
                  rintro e w6 ⟨⟨v6, rfl, ho6⟩, hb6⟩
                  obtain ⟨Av6, cv6, e6, _, _, _⟩ := ho6.slice
                  rw [HRQ.out] at e6
                  subst e6
                  have hf6 := HF4.out.step hb6
                  have hbs6 := HF4.out.below.size
                  have hr6 := hf6.rec_ (ho6.base hbs6) (fun q hq ht => by have := (World.ownsRow.lt ho6 q hq).1; have := (HF4.out.tw q ht).2; omega)
                  obtain ⟨vn6, vr6, hg6, _⟩ := hf6.body
                  have hz7 := freeOf hg6 7
                  have hy7 := cellOf hg6 (j := 7) rfl
                  have HF7 := hide (((((hr6.after hb6).from_ HK4.out.1 HK4.out.2).from_ HK3.out.1 HK3.out.2).after HB4.out).from_ HK2.out.1 HK2.out.2)
                  clear hf6 hr6 ho6 hb6 hg6
                  go_wp2
                  go_roundw
                  case rel => exact ⟨k + 1, by go_num, by omega, by rw [HE.out]; exact HF7.out⟩
                  case measure => simp [intOf]; omega
        · obtain rfl : n = k := by omega
          have htk : C.L.take n = C.L := List.take_of_length_le (by have := HN.out; omega)
          rw [htk] at HFP
          obtain ⟨q, hq⟩ : ∃ q, gathersF (bs C.target) C.L = q := ⟨_, rfl⟩
          have hgl := gathers_len (t := bs C.target) C.L n
          rw [htk] at hgl
          rw [hq] at HFP HR2 hgl
          have hsn := HSN.out
          have hql : q.needs.length ≤ 700000 := by omega
          obtain ⟨T2, f2, k2, g2⟩ := HFP.out
          have HF2 := hide f2
          obtain ⟨A6, c6, A7, c7, hgc, _⟩ := f2.opn
          have hy7 : wo.cell? ⟨g, 7, none⟩ = some (.slice A7 q.recipe.length c7) := cellOf hgc (j := 7) rfl
          have hszg := HGG.out
          have hszW := HBX.out.size
          have hgpo := (k2.block (w.heap.size + 1) (by omega) (by omega)).trans ((HBX.out.block (w.heap.size + 1) (by omega)).trans HGPW.out)
          have hT2 : ¬ T2 (w.heap.size + 1) := fun ht => by
            rcases g2 _ ht with h | h
            · omega
            · omega
          have hszo := k2.size
          have HGPO := hide hgpo
          obtain ⟨rl, hrl⟩ : ∃ l, q.recipe.length = l := ⟨_, rfl⟩
          rw [hrl] at hy7
          by_cases c1 : rl = 0
          · subst c1
            have hq0 : q.recipe = [] := List.eq_nil_of_length_eq_zero hrl
            have HE := hide (HR2.out.trans (if_pos hq0))
            have HFT := hide (fits_any w C g [] q T2 wo (HOK.out w (Below.refl _ _)) HCS.out HF2.out hql)
            clear hq0 hrl hgpo hgc f2 k2 g2 hq htk
            go_wp2_with fail
            refine HFT.out.mono ?_
            rintro e w5 ⟨rfl, b5, T5, f5, k5, g5⟩
            have hT5 : ¬ T5 (w.heap.size + 1) := fun ht => by
              rcases g5 _ ht with h | h
              · exact hT2 h
              · omega
            have hgp5 := (k5.block (w.heap.size + 1) (by omega) hT2).trans HGPO.out
            obtain ⟨A8, l8, c8, A9, l9, c9, ⟨e6, e7, e8, e9⟩, ⟨q1, q2, q3, q4, q5, q6, q7, q8⟩, hgf, hpost⟩ := plan_end f5 hgp5 hT5 (by omega)
            have HGF := hide hgf
            have HPO := hide hpost
            clear hgf hpost
            clear f5 k5 g5 hgp5
            go_wp2
            (try simp only [Exit.inBlock, Exit.then])
            refine bodyPost_ret (ret_plan HGF.out rfl) rfl ?_
            rw [HE.out]
            exact HPO.out
          have HE := hide (HR2.out.trans (if_neg (fun h => c1 (by rw [← hrl, h]; rfl))))
          have d1 : ((rl : Int) == 0) = false := by simp only [beq_eq_false_iff_ne]; omega
          obtain ⟨A8, l8, c8, A9, l9, c9, ⟨e6, e7, e8, e9⟩, ⟨q1, q2, q3, q4, q5, q6, q7, q8⟩, hgf, hpost⟩ := plan_end HF2.out HGPO.out hT2 (by omega)
          have HGF := hide hgf
          have HPO := hide hpost
          clear hgf hpost
          rw [e7] at hy7
          cases hy7
          clear hgpo hgc f2 k2 g2 hq htk hrl c1
          go_wp2
          (try simp only [Exit.inBlock, Exit.then])
          refine bodyPost_ret (ret_plan HGF.out rfl) rfl ?_
          rw [HE.out]
          exact HPO.out
end Go.Proofs.YtaajofojbhdgaaaGreatDoor
/- Walk of trace.Behind. -/
namespace Go.Proofs.YtaajofojbhdgaaaGreatDoor
open Go.RowKit Go.Deep Go.Maps Ln Pth Vf
set_option linter.unusedSimpArgs false
set_option linter.unusedVariables false
theorem tfld0 (x y z u : Value) (w : World) : (Instr.field 49 (.agg #[x, y, z, u]) 0).run Tryz.prog w = .ok x w := by kernel_rfl
attribute [local go_sem] bt_eq mkMapB tfld0

/-- the operands of a step's place, told apart -/
theorem okAt_eq (needs : List ByteArray) (i : Nat) (s : Stp) (k : Nat) (x : Stp) {q bk b3 b4 b1 b2 : Bool} (hq : Lib.containsS needs x.t = q) (hk : decide (i ≤ k) = bk) (h3 : (x.what == 3) = b3) (h4 : (x.what == 4) = b4) (h1 : (s.what == 1) = b1) (h2 : (s.what == 2) = b2) :
    okAt needs i s k x = (!q || !(bk || ((b3 || b4) && (b1 || b2)))) := by
  unfold okAt
  have e : ∀ (a c : Int), decide (a = c) = (a == c) := fun a c => by
    by_cases h : a = c
    · simp [h]
    · simp [h]
  rw [hq, hk, e, e, e, e, h3, h4, h1, h2]
set_option maxRecDepth 100000 in
set_option maxHeartbeats 16000000 in
theorem behind_any (mac : Value) (A : Option Addr) (ml c : Nat) (gf : Nat) (cwd : ByteArray) (P : ByteArray → Pn) (sA : Option Addr) (sc : Nat) (L : List Stp) (w : World) (hS : STP w sA L) (hl : L.length ≤ 100000) (hs : ∀ s ∈ L, s.t.size ≤ 1000000)
    (hP : ∀ s ∈ L, ∀ Z, Below w.heap.size w Z → Calls Tryz.prog 31 #[.agg #[mac, .slice A ml c], .pointer (some ⟨gf, 0, none⟩), .string cwd, .string s.t] Z (PlanPost Z (P s.t)))
    (hn : ∀ s ∈ L, (P s.t).needs.length ≤ 100000 ∧ ∀ y ∈ (P s.t).needs, y.size ≤ 1000000) :
    Calls Tryz.prog 16 #[.agg #[mac, .slice A ml c], .pointer (some ⟨gf, 0, none⟩), .string cwd, .slice sA L.length sc] w fun e w' => e = .returned (.bool (behindF (fun x => (P x).needs) L)) ∧ Below w.heap.size w w' := by
  have HS := hide hS
  have HZ := hide hs
  have HPL := hide hP
  have HND := hide hn
  obtain ⟨n, hln⟩ : ∃ n, L.length = n := ⟨_, rfl⟩
  have HN := hide hln
  obtain ⟨R, hR⟩ : ∃ R, behindF (fun x => (P x).needs) L = R := ⟨_, rfl⟩
  have HR := hide (show bOut (fun x => (P x).needs) L 0 (L.drop 0) = R by rw [← hR]; rfl)
  rw [hln] at hl ⊢
  rw [hR]
  have hn1 : (n : Int) ≤ 100000 := by omega
  have HB0 := hide ((Below.refl w.heap.size w).alloc (Nat.le_refl _) (.cells #[mac, .slice A ml c] 25))
  have HG0 := hide (heapNew w (.cells #[mac, .slice A ml c] 25))
  clear hS hs hP hn hln hR
  go_enter Tryz.func16, Tryz.ntmps16
  go_wp2
  generalize w.alloc (.cells #[mac, .slice A ml c] 25) = W at HB0 HG0 ⊢
  go_loopw [9, 10, 11, 13, 14, 15, 16, 19, 33, 42] (fun _ _ _ _ _ _ _ v19 _ _ wr => ∃ i : Nat, v19 = .int .i64 i ∧ i ≤ n ∧ Hid (bOut (fun x => (P x).needs) L i (L.drop i) = R) ∧ Below w.heap.size w wr ∧ wr.heap[w.heap.size]? = some (.cells #[mac, .slice A ml c] 25)) (fun _ _ _ _ _ _ _ v19 _ _ _ => n - (intOf v19).toNat)
  case atStart => exact ⟨0, rfl, by omega, HR, HB0.out, HG0.out⟩
  case round =>
    obtain ⟨wo, hwo⟩ : ∃ Z, Z = wr := ⟨_, rfl⟩
    subst hwo
    obtain ⟨i, rfl, hi, HBO, hbw, hgm⟩ := hrel
    have HBW := hide hbw
    have HGM := hide hgm
    have HAR := hide (HS.out.below hbw)
    by_cases hli : i < n
    case neg =>
      obtain rfl : i = n := by omega
      have HE := hide (show R = true by rw [← HBO.out, bOut_end (by have := HN.out; omega)])
      go_wp2
      go_ret
      rw [HE.out]
      exact ⟨rfl, HBW.out⟩
    obtain ⟨s, hx⟩ : ∃ x, L[i]? = some x := ⟨L[i]'(by have := HN.out; omega), List.getElem?_eq_getElem _⟩
    obtain ⟨g, o, rfl, hg, c0, c1⟩ := HAR.out.at hx
    have hmem := List.mem_of_getElem? hx
    have hbo := bOut_at (N := fun x => (P x).needs) hx
    rw [HBO.out] at hbo
    have hnd := HND.out s hmem
    have HPX := hide (HPL.out s hmem)
    obtain ⟨st, hst⟩ : ∃ z, s.t = z := ⟨_, rfl⟩
    obtain ⟨sw, hsw⟩ : ∃ z, s.what = z := ⟨_, rfl⟩
    rw [hst] at c0 hbo hnd HPX
    rw [hsw] at c1
    obtain ⟨Q, hQ⟩ : ∃ q, P st = q := ⟨_, rfl⟩
    rw [hQ] at hbo hnd HPX
    have HSW := hide hsw
    have HBI := hide hbo
    have hnl := hnd.1
    have HNZ := hide hnd.2
    have bi : (i : Int) < (n : Int) := by omega
    have hba := hbw.alloc hbw.size (.cells #[.string st, .int .i64 sw] 32)
    have hna := heapNew wo (.cells #[.string st, .int .i64 sw] 32)
    have hbb := hba.alloc (by simp; have := hbw.size; omega) (.map #[] 0)
    have HM0 := hide (MSet.made (wo.alloc (.cells #[.string st, .int .i64 sw] 32)))
    have hgm2 : ((wo.alloc (.cells #[.string st, .int .i64 sw] 32)).alloc (.map #[] 0)).heap[w.heap.size]? = some (.cells #[mac, .slice A ml c] 25) := (Below.heap_alloc _ _ _ (by have := (Array.getElem?_eq_some_iff.1 hgm).1; simp; omega)).trans ((Below.heap_alloc _ _ _ (Array.getElem?_eq_some_iff.1 hgm).1).trans hgm)
    have hgs2 : ((wo.alloc (.cells #[.string st, .int .i64 sw] 32)).alloc (.map #[] 0)).heap[wo.heap.size]? = some (.cells #[.string st, .int .i64 sw] 32) := (Below.heap_alloc _ _ _ (by simp)).trans hna
    simp only [World.size_alloc] at HM0
    have hwz := hbw.size
    obtain ⟨gs, hgs⟩ : ∃ z, wo.heap.size = z := ⟨_, rfl⟩
    obtain ⟨b, hb⟩ : ∃ z, gs + 1 = z := ⟨_, rfl⟩
    rw [hgs] at hgs2 HM0
    rw [hb] at HM0
    have HGS2 := hide hgs2
    have HGM2 := hide hgm2
    have HBB := hide hbb
    have HLT := hide (show w.heap.size < gs by have := (Array.getElem?_eq_some_iff.1 hgm).1; omega)
    have m0 := cellOf hgm2 (j := 0) rfl
    have m1 := cellOf hgm2 (j := 1) rfl
    have n0 := cellOf hgs2 (j := 0) rfl
    clear hx hmem hbo hnd hst hsw hba hna hgm hbb hbw hgs2 hgm2 hQ
    go_wp2_with fail
    go_step3
    go_wp2_with fail
    refine (HPX.out _ HBB.out).mono ?_
    rintro e w2 ⟨vn, vr, rfl, hvn, _, hb2⟩
    have hvo := hvn
    obtain ⟨An, cn, rfl, hcn, hsn, hab⟩ := hvn.slice
    have HNB := hide (show ∀ a, An = some a → a.block ≠ b from fun a e => by
      have h1 := (World.ownsRow.lt hvo a.block (hab a e)).1
      have h2 := HM0.out.lt
      simp only [World.size_alloc] at h1 h2
      omega)
    have HSN := hide hsn
    have HMS := hide (HM0.out.of (hb2.block b HM0.out.lt))
    have HGS := hide ((hb2.block gs (Array.getElem?_eq_some_iff.1 HGS2.out).1).trans HGS2.out)
    have HGM3 := hide ((hb2.block w.heap.size (Array.getElem?_eq_some_iff.1 HGM2.out).1).trans HGM2.out)
    have HB2 := hide (below_up HBB.out hb2 HBB.out.size)
    obtain ⟨m, hm⟩ : ∃ m, Q.needs.length = m := ⟨_, rfl⟩
    rw [hm] at hnl ⊢
    have HMM := hide hm
    have hmi : (m : Int) ≤ 100000 := by omega
    have hbl := HMS.out.lt
    have hbg : b ≠ gs := by omega
    have HBG := hide (show w.heap.size < b by have := HLT.out; omega)
    clear hvo hab hvn hb2 hsn hcn m0 m1 n0 hb hgs
    go_wp2
    go_loopw [13, 33] (fun _ v33 wr => ∃ j : Nat, v33 = .int .i64 j ∧ j ≤ m ∧ MSet wr b (Q.needs.take j) ∧ Kp w2 wr (fun k => k = b)) (fun _ v33 _ => m - (intOf v33).toNat)
    case atStart => exact ⟨0, rfl, by omega, HMS.out, Kp.refl _ _⟩
    case round =>
      obtain ⟨wi, hwi⟩ : ∃ Z, Z = wr := ⟨_, rfl⟩
      subst hwi
      obtain ⟨j, rfl, hj, hms, hkp⟩ := hrel
      have HMJ := hide hms
      have HKJ := hide hkp
      have HSJ := hide (hkp.sr HSN.out (fun a e _ => HNB.out a e))
      clear hms hkp
      by_cases hlj : j < m
      · obtain ⟨y, hy⟩ : ∃ y, Q.needs[j]? = some y := ⟨Q.needs[j]'(by have := HMM.out; omega), List.getElem?_eq_getElem _⟩
        obtain ⟨gn, on, rfl, hgn, hcn⟩ := HSJ.out j y hy
        have hyz := HNZ.out y (List.mem_of_getElem? hy)
        obtain ⟨w3, hrun, hm3, hk3, hs3⟩ := HMJ.out.add (s := y) (by rw [List.length_take]; omega) (by omega)
        have HM3 := hide (show MSet w3 b (Q.needs.take (j + 1)) by rw [List.take_add_one, hy]; exact hm3)
        have HK3 := hide (HKJ.out.trans (hk3.mono fun k e => .inl e))
        have b1 : (j : Int) < (m : Int) := by omega
        clear hy hm3 hk3 hyz
        go_wp2
        go_roundw
        case rel => exact ⟨j + 1, by go_num, by omega, HM3.out, HK3.out⟩
        case measure => simp [intOf]; omega
      · obtain rfl : j = m := by omega
        have hte : Q.needs.take j = Q.needs := List.take_of_length_le (by have := HMM.out; omega)
        rw [hte] at HMJ
        have HGSJ := hide ((HKJ.out.block gs (Array.getElem?_eq_some_iff.1 HGS.out).1 (by omega)).trans HGS.out)
        have HGMJ := hide ((HKJ.out.block w.heap.size (Array.getElem?_eq_some_iff.1 HGM3.out).1 (by have := HBG.out; omega)).trans HGM3.out)
        have HBJ := hide (HKJ.out.below HB2.out (Nat.le_refl _) (fun k e => by have := HBG.out; omega))
        have HI0 := hide (show (bIn Q.needs i s 0 (L.drop 0) && bOut (fun x => (P x).needs) L (i + 1) (L.drop (i + 1))) = R from HBI.out.symm)
        clear hte
        go_wp2_with fail
        go_step3
        go_wp2_with fail
        go_loopw [14, 15, 16, 42] (fun _ _ _ v42 wr => ∃ k : Nat, v42 = .int .i64 k ∧ k ≤ n ∧ Hid ((bIn Q.needs i s k (L.drop k) && bOut (fun x => (P x).needs) L (i + 1) (L.drop (i + 1))) = R) ∧ MSet wr b Q.needs ∧ wr.heap[gs]? = some (.cells #[.string st, .int .i64 sw] 32) ∧ wr.heap[w.heap.size]? = some (.cells #[mac, .slice A ml c] 25) ∧ Below w.heap.size w wr) (fun _ _ _ v42 _ => n - (intOf v42).toNat)
        case atStart => exact ⟨0, rfl, by omega, HI0.out, HMJ.out, HGSJ.out, HGMJ.out, HBJ.out⟩
        case round =>
          obtain ⟨wk, hwk⟩ : ∃ Z, Z = wr := ⟨_, rfl⟩
          subst hwk
          obtain ⟨k, rfl, hk, HIK, hmk, hgsk, hgmk, hbk⟩ := hrel
          have HMK := hide hmk
          have HGSK := hide hgsk
          have HGMK := hide hgmk
          have HBK := hide hbk
          have HAK := hide (HS.out.below hbk)
          by_cases hlk : k < n
          case neg =>
            obtain rfl : k = n := by omega
            have HE := hide (show bOut (fun x => (P x).needs) L (i + 1) (L.drop (i + 1)) = R by rw [← HIK.out, bIn_end (by have := HN.out; omega), Bool.true_and])
            go_wp2
            (try rw [Exit.noGoto_normal])
            (try go_step3)
            go_wp2
            go_roundw
            case rel => exact ⟨i + 1, by go_num, by omega, HE, HBK.out, HGMK.out⟩
            case measure => simp [intOf]; omega
          obtain ⟨x, hx⟩ : ∃ x, L[k]? = some x := ⟨L[k]'(by have := HN.out; omega), List.getElem?_eq_getElem _⟩
          obtain ⟨gk, ok, eA, hgk, c0, c1⟩ := HAK.out.at hx
          injection eA with eA
          injection eA with e1 e2
          subst e1 e2
          have hxz := HZ.out x (List.mem_of_getElem? hx)
          have hat := bIn_at (needs := Q.needs) (i := i) (s := s) hx
          have hik := HIK.out
          rw [hat, Bool.and_assoc] at hik
          have hba := hbk.alloc hbk.size (.cells #[.string x.t, .int .i64 x.what] 32)
          have HBA := hide hba
          have hma := HMK.out.of (Below.heap_alloc wk (.cells #[.string x.t, .int .i64 x.what] 32) b HMK.out.lt)
          have HMA := hide hma
          have hlk2 := hma.look (s := x.t) (by omega)
          have hgsa : (wk.alloc (.cells #[.string x.t, .int .i64 x.what] 32)).heap[gs]? = _ := (Below.heap_alloc _ _ _ (Array.getElem?_eq_some_iff.1 hgsk).1).trans hgsk
          have hgma : (wk.alloc (.cells #[.string x.t, .int .i64 x.what] 32)).heap[w.heap.size]? = _ := (Below.heap_alloc _ _ _ (Array.getElem?_eq_some_iff.1 hgmk).1).trans hgmk
          have HGSA := hide hgsa
          have HGMA := hide hgma
          have s1 := cellOf hgsa (j := 1) rfl
          have hnk := heapNew wk (.cells #[.string x.t, .int .i64 x.what] 32)
          have x0 := cellOf hnk (j := 0) rfl
          have x1 := cellOf hnk (j := 1) rfl
          have bk1 : (k : Int) < (n : Int) := by omega
          obtain ⟨q, hq⟩ : ∃ q, Lib.containsS Q.needs x.t = q := ⟨_, rfl⟩
          obtain ⟨bk, hbk2⟩ : ∃ q, decide (i ≤ k) = q := ⟨_, rfl⟩
          obtain ⟨b3, h3⟩ : ∃ q, (x.what == 3) = q := ⟨_, rfl⟩
          obtain ⟨b4, h4⟩ : ∃ q, (x.what == 4) = q := ⟨_, rfl⟩
          obtain ⟨b1, h1⟩ : ∃ q, (sw == 1) = q := ⟨_, rfl⟩
          obtain ⟨b2, h2⟩ : ∃ q, (sw == 2) = q := ⟨_, rfl⟩
          have hok := okAt_eq (b1 := b1) (b2 := b2) Q.needs i s k x hq hbk2 h3 h4 (by rw [HSW.out]; exact h1) (by rw [HSW.out]; exact h2)
          rw [hok] at hik
          rw [hq] at hlk2
          have HIN := hide hik
          have hki : decide ((k : Int) ≥ (i : Int)) = bk := by rw [← hbk2]; by_cases h : i ≤ k <;> simp [h]
          clear hx hxz hat hik hba hma hgsa hgma hnk hok hq hbk hmk hgsk hgmk
          cases q with
          | false =>
            have HE := hide (show (bIn Q.needs i s (k + 1) (L.drop (k + 1)) && bOut (fun x => (P x).needs) L (i + 1) (L.drop (i + 1))) = R from HIN.out)
            go_wp2
            go_roundw
            case rel => exact ⟨k + 1, by go_num, by omega, HE, HMA.out, HGSA.out, HGMA.out, HBA.out⟩
            case measure => simp [intOf]; omega
          | true =>
            cases bk <;> cases b3 <;> cases b4 <;> cases b1 <;> cases b2 <;>
              first
              | (have HE := hide (show false = R from HIN.out)
                 go_wp2
                 go_ret
                 rw [← HE.out]
                 exact ⟨rfl, HBA.out⟩)
              | (have HE := hide (show (bIn Q.needs i s (k + 1) (L.drop (k + 1)) && bOut (fun x => (P x).needs) L (i + 1) (L.drop (i + 1))) = R from HIN.out)
                 go_wp2
                 go_roundw
                 case rel => exact ⟨k + 1, by go_num, by omega, HE, HMA.out, HGSA.out, HGMA.out, HBA.out⟩
                 case measure => simp [intOf]; omega)
end Go.Proofs.YtaajofojbhdgaaaGreatDoor
/- The reference's plan and the program's plan are one: plain facts on special targets, stems, two suffixes, known targets. No program in sight. -/
namespace Go.Proofs.YtaajofojbhdgaaaGreatDoor
open Ln Pth Vf
set_option linter.unusedSimpArgs false
set_option linter.unusedVariables false

theorem az_fin : ∀ n : Fin 256, azT.contains (UInt8.ofNat n.1) = (decide (n.1 = 95) || (decide (65 ≤ n.1) && decide (n.1 ≤ 90))) := by decide +kernel
theorem az_iff (c : UInt8) : azT.contains c = (decide (c.toNat = 95) || (decide (65 ≤ c.toNat) && decide (c.toNat ≤ 90))) := by
  have := az_fin ⟨c.toNat, c.toNat_lt⟩
  simpa using this
theorem dw_all {α : Type} {p : α → Bool} : ∀ {l : List α}, (∀ x ∈ l.dropWhile p, p x = true) → ∀ x ∈ l, p x = true
  | [], _, x, hx => by cases hx
  | a :: l, h, x, hx => by
    cases ha : p a with
    | true =>
      rw [List.dropWhile_cons_of_pos ha] at h
      rcases List.mem_cons.1 hx with rfl | hx
      · exact ha
      · exact dw_all h x hx
    | false =>
      rw [List.dropWhile_cons_of_neg (by simp [ha])] at h
      exact h x hx
theorem dw_nil {α : Type} {p : α → Bool} : ∀ {l : List α}, (∀ x ∈ l, p x = true) → l.dropWhile p = []
  | [], _ => rfl
  | a :: l, h => by
    rw [List.dropWhile_cons_of_pos (h a (by simp))]
    exact dw_nil fun x hx => h x (by simp [hx])
theorem dw_empty {α : Type} {p : α → Bool} {l : List α} (h : l.dropWhile p = []) : ∀ x ∈ l, p x = true := dw_all fun x hx => by rw [h] at hx; cases hx
theorem trimS_nil_iff (l cs : List UInt8) : Lib.trimS l cs = [] ↔ ∀ c ∈ l, cs.contains c = true := by
  unfold Lib.trimS Lib.trimLeftS Lib.trimRightS
  constructor
  · intro h
    have h1 := dw_empty h
    have h2 : ∀ x ∈ l.reverse.dropWhile (cs.contains ·), cs.contains x = true := fun x hx => h1 x (by simpa using hx)
    exact fun c hc => dw_all h2 c (by simpa using hc)
  · intro h
    rw [dw_nil (l := l.reverse) (fun x hx => h x (by simpa using hx))]
    rfl
theorem spec_eq (s : T) : specT s = (decide (1 < s.length) && (decide (s.getD 0 0 = 46) && (s.drop 1).all (azT.contains ·))) := by
  unfold specT
  congr 2
  rw [Bool.eq_iff_iff, decide_eq_true_eq, trimS_nil_iff, List.all_eq_true]
/-- of a special target's bytes -/
theorem spec_all_take {s : T} {k : Nat} (hk : k < s.length) (h1 : 1 ≤ k) : ((s.take (k + 1)).drop 1).all (azT.contains ·) = (((s.take k).drop 1).all (azT.contains ·) && azT.contains (s.getD k 0)) := by
  rw [List.take_add_one, List.drop_append_of_le_length (by rw [List.length_take]; omega), List.all_append]
  congr 1
  rw [List.getElem?_eq_getElem hk, List.getD_eq_getElem?_getD, List.getElem?_eq_getElem hk]
  simp
theorem spec_no {s : T} {k : Nat} (hk : k < s.length) (h1 : 1 ≤ k) (h : azT.contains (s.getD k 0) = false) : (s.drop 1).all (azT.contains ·) = false := by
  rw [List.all_eq_false]
  refine ⟨s.getD k 0, ?_, by rw [h]; exact Bool.false_ne_true⟩
  rw [List.getD_eq_getElem?_getD, List.getElem?_eq_getElem hk]
  obtain ⟨j, rfl⟩ : ∃ j, k = 1 + j := ⟨k - 1, by omega⟩
  have : (s.drop 1)[j]? = some (s[1 + j]) := by rw [List.getElem?_drop]; exact List.getElem?_eq_getElem hk
  exact List.mem_of_getElem? this
theorem known_eq (L : List Rl) (s : ByteArray) : Lib.containsS (knownsF L) s = knownR L s := by
  rw [Bool.eq_iff_iff, Lib.containsS_iff]
  unfold knownsF knownR
  rw [List.mem_flatMap, List.any_eq_true]
  unfold ofR
  constructor
  · rintro ⟨r, hr, h⟩
    refine ⟨r, hr, ?_⟩
    split at h
    · rename_i hp
      rw [hp, Bool.true_and, Lib.containsS_iff]; exact h
    · cases h
  · rintro ⟨r, hr, h⟩
    rw [Bool.and_eq_true] at h
    exact ⟨r, hr, by rw [if_pos h.1]; exact (Lib.containsS_iff _ _).1 h.2⟩
/-! stems -/
theorem cut_one (p : T) : Lib.cut p [37] = if 0 ≤ Lib.indexByte p 37 then (p.take (Lib.indexByte p 37).toNat, p.drop ((Lib.indexByte p 37).toNat + 1), true) else (p, [], false) := by
  unfold Lib.cut
  rw [Lib.index_one]
  rfl
theorem cuts_no {p : T} (h : ¬ 0 ≤ Lib.indexByte p 37) : cutsT p = false := by unfold cutsT; rw [cut_one, if_neg h]
theorem cuts_at {p : T} {k : Nat} (h : Lib.indexByte p 37 = (k : Int)) : cutsT p = true ∧ frontT p = p.take k ∧ backT p = p.drop (k + 1) ∧ k < p.length := by
  have hc : Lib.cut p [37] = (p.take k, p.drop (k + 1), true) := by
    rw [cut_one, h, if_pos (by omega)]
    rfl
  unfold cutsT frontT backT
  rw [hc]
  refine ⟨rfl, rfl, rfl, ?_⟩
  have := (Lib.indexByte_some h).1
  exact (List.getElem?_eq_some_iff.1 this).1
/-! two suffixes -/
theorem two_hit {all : List ByteArray} {t : T} {a b : ByteArray} (hb : b ∈ all) (h : a ++ b = bs t) : (Lib.hasPrefix t a.data.toList && Lib.containsS all (bs (t.drop a.size))) = true ∧ bs (t.drop a.size) = b := by
  have ht : t = a.data.toList ++ b.data.toList := by
    have := congrArg (fun s => s.data.toList) h
    simpa [bs_list] using this.symm
  have hd : bs (t.drop a.size) = b := by
    rw [ht, ← data_len a, List.drop_left, bs_of]
  refine ⟨?_, hd⟩
  rw [Bool.and_eq_true, hd, Lib.containsS_iff]
  refine ⟨?_, hb⟩
  unfold Lib.hasPrefix
  rw [ht, List.isPrefixOf_iff_prefix]
  exact List.prefix_append _ _
theorem two_miss {all : List ByteArray} {t : T} {a : ByteArray} (h : ∀ b ∈ all, a ++ b ≠ bs t) : (Lib.hasPrefix t a.data.toList && Lib.containsS all (bs (t.drop a.size))) = false := by
  rw [Bool.eq_false_iff]
  intro e
  rw [Bool.and_eq_true, Lib.containsS_iff] at e
  obtain ⟨h1, h2⟩ := e
  unfold Lib.hasPrefix at h1
  rw [List.isPrefixOf_iff_prefix] at h1
  obtain ⟨r, hr⟩ := h1
  refine h _ h2 ?_
  apply ByteArray.ext
  apply Array.toList_inj.1
  rw [bs_list, ← hr, ← data_len a, List.drop_left]
  simp [bs_list]
/-- the plan with a rule that fits; what fits a pattern's rule -/
def fitsO (S : St) (cwd : T) (kl : List ByteArray) (target : T) (r : Rl) : Option (List ByteArray × T) :=
  match firstF target r.tg.2.2 with
  | none => none
  | some st => if thereF S cwd kl (fillsF r st) = true then some (fillsF r st, st) else none
theorem patO_fits (S : St) (cwd : T) (kl : List ByteArray) (target : T) (r : Rl) (p : Pn) : patO S cwd kl target r p = (fitsO S cwd kl target r).map fun q => takesF p q.1 r.rc.2.2 q.2 := by
  unfold patO fitsO
  cases firstF target r.tg.2.2 with
  | none => rfl
  | some st =>
    simp only
    split <;> rfl
def sufQ (S : St) (cwd : T) (kl : List ByteArray) (target : T) (R : T × T × Bool) : Option (T × T) :=
  if R.2.2 = false then none else
  if target.length ≤ R.2.1.length then none else
  if Lib.hasSuffix target R.2.1 = false then none else
  if target.take (target.length - R.2.1.length) ++ R.1 = target then none else
  if kindT S cwd (target.take (target.length - R.2.1.length) ++ R.1) ≠ 1 ∧ Lib.containsS kl (bs (target.take (target.length - R.2.1.length) ++ R.1)) = false then none else
  some (target.take (target.length - R.2.1.length) ++ R.1, target.take (target.length - R.2.1.length))
def sufF (S : St) (cwd : T) (kl : List ByteArray) (target : T) (l : List ByteArray) (r : Rl) : Option (T × T) :=
  if r.rc.2.2.length = 0 ∨ 0 < r.nd.2.2.length then none else
  match r.tg.2.2 with
  | [t] =>
    if specT t.data.toList = true ∨ Lib.hasPrefix t.data.toList [46] = false ∨ isP t = true then none else sufQ S cwd kl target (twoF t.data.toList l)
  | _ => none
theorem suf1_eq (S : St) (cwd : T) (kl : List ByteArray) (target : T) (l : List ByteArray) (r : Rl) (p : Pn) : suf1 S cwd kl target l p r = (sufF S cwd kl target l r).map fun q => takesF p [bs q.1] r.rc.2.2 q.2 := by
  rcases r with ⟨⟨ta, tc, tl⟩, nd, rc⟩
  unfold suf1 sufF
  dsimp only
  by_cases h1 : rc.2.2.length = 0
  · rw [if_pos h1, if_pos (Or.inl h1)]; rfl
  rw [if_neg h1]
  unfold sufO
  dsimp only
  by_cases h2 : 0 < nd.2.2.length
  · rw [if_pos (Or.inr h2)]
    split
    · rfl
    · rfl
  rw [if_neg (show ¬ (rc.2.2.length = 0 ∨ 0 < nd.2.2.length) by rintro (h | h); exact h1 h; exact h2 h), if_neg h2]
  match tl with
  | [] => simp
  | [t] =>
    have hpl : plainR [t] = !isP t := by unfold plainR; simp
    dsimp only
    rw [hpl]
    by_cases h3 : isP t = true
    · rw [if_pos (by simp [h3]), if_pos (Or.inr (Or.inr h3))]; rfl
    rw [if_neg (by simp [h3])]
    by_cases h4 : specT t.data.toList = true
    · rw [if_pos h4, if_pos (Or.inl h4)]; rfl
    rw [if_neg h4]
    by_cases h5 : Lib.hasPrefix t.data.toList [46] = false
    · rw [if_pos h5, if_pos (Or.inr (Or.inl h5))]; rfl
    rw [if_neg h5, if_neg (show ¬ (specT t.data.toList = true ∨ Lib.hasPrefix t.data.toList [46] = false ∨ isP t = true) by rintro (h | h | h); exact h4 h; exact h5 h; exact h3 h)]
    unfold sufQ
    generalize twoF t.data.toList l = R
    by_cases h6 : R.2.2 = false
    · rw [if_pos h6, if_pos h6]; rfl
    rw [if_neg h6, if_neg h6]
    by_cases h7 : Lib.hasSuffix target R.2.1 = false
    · rw [if_pos h7]
      split
      · rfl
      · rfl
    have h7' : Lib.hasSuffix target R.2.1 = true := by simpa using h7
    rw [if_neg h7]
    by_cases h8 : target.length ≤ R.2.1.length
    · rw [if_pos h8, if_pos h8]; rfl
    rw [if_neg h8, if_neg h8, if_neg h7]
    unfold Lib.trimSuffix
    rw [if_pos h7']
    generalize target.take (target.length - R.2.1.length) = st
    split
    · rfl
    · split
      · rfl
      · rfl
  | t :: u :: tl => simp
end Go.Proofs.YtaajofojbhdgaaaGreatDoor
/- Walks of slices.IndexFunc and slices.ContainsFunc at rules, for a function that may make memory. -/
namespace Go.Proofs.YtaajofojbhdgaaaGreatDoor
open Go.RowKit Go.Deep
/-- where the first is, and whether there is one -/
def IdxPostR (p : Rl → Bool) (L : List Rl) (w : World) (e : Ending) (w' : World) : Prop := ∃ i : Int, e = .returned (.int .i64 i) ∧ decide (0 ≤ i) = L.any p ∧ Below w.heap.size w w'
end Go.Proofs.YtaajofojbhdgaaaGreatDoor
/- Walks of find.Known and find.Has. -/
namespace Go.Proofs.YtaajofojbhdgaaaGreatDoor
open Go.RowKit Go.Deep
attribute [local go_sem] bt_eq

end Go.Proofs.YtaajofojbhdgaaaGreatDoor
/- Walks of the reference's has, plain, Special, Known and Has: what they ask of rules. -/
namespace Go.Proofs.YtaajofojbhdgaaaGreatDoor
open Go.RowKit Go.Deep Ln
set_option linter.unusedSimpArgs false
set_option linter.unusedVariables false
attribute [local go_sem] bt_eq

theorem cont_nil (s : ByteArray) : Lib.containsS [] s = false := Bool.eq_false_iff.2 fun h => by simpa using (Lib.containsS_iff _ _).1 h
theorem toL_ne {x s : ByteArray} (h : ¬ x = s) : (x.toList == s.toList) = false := by
  rw [ByteArray.toList_eq, ByteArray.toList_eq, beq_eq_false_iff_ne]
  intro e
  exact h (ByteArray.ext (Array.toList_inj.1 e))
theorem cont_take {L : List ByteArray} {k : Nat} {x : ByteArray} (h : L[k]? = some x) (s : ByteArray) : Lib.containsS (L.take (k + 1)) s = (Lib.containsS (L.take k) s || decide (x = s)) := by
  rw [List.take_add_one, h, Bool.eq_iff_iff, Bool.or_eq_true, Lib.containsS_iff, Lib.containsS_iff, decide_eq_true_eq]
  simp [eq_comm]
set_option maxRecDepth 100000 in
set_option maxHeartbeats 1000000 in
theorem rhas_any (A : Option Addr) (c : Nat) (L : List ByteArray) (s : ByteArray) (w : World) (hA : SR w A L) (hl : L.length ≤ 50000000) :
    Calls Tryz.prog 32 #[.slice A L.length c, .string s] w fun e w' => e = .returned (.bool (Lib.containsS L s)) ∧ w = w' := by
  have HA := hide hA
  obtain ⟨n, hn⟩ : ∃ n, L.length = n := ⟨_, rfl⟩
  have HN := hide hn
  have HT := hide (fun k x (h : L[k]? = some x) => cont_take h s)
  have HF := hide (show Lib.containsS (L.take n) s = Lib.containsS L s by rw [List.take_of_length_le (by omega)])
  have hn1 : (n : Int) ≤ 100000000 := by omega
  rw [hn]
  clear hn hA
  go_enter Tryz.func32, Tryz.ntmps32
  go_wp2
  go_loop [5] (fun v5 => ∃ k : Nat, v5 = .int .i64 k ∧ k ≤ n ∧ Hid (Lib.containsS (L.take k) s = false)) (fun v5 => n - (intOf v5).toNat)
  case atStart => exact ⟨0, rfl, by omega, hide (cont_nil s)⟩
  case round =>
    obtain ⟨k, rfl, hk, HR⟩ := hrel
    by_cases hlt : k < n
    · obtain ⟨x, hx⟩ : ∃ x, L[k]? = some x := ⟨L[k]'(by have := HN.out; omega), List.getElem?_eq_getElem _⟩
      obtain ⟨g, o, rfl, hg, hc⟩ := HA.out k x hx
      have b1 : (k : Int) < (n : Int) := by omega
      have ht := HT.out k x hx
      by_cases he : x = s
      · subst he
        have HE := hide (show Lib.containsS L x = true from (Lib.containsS_iff _ _).2 (List.mem_of_getElem? hx))
        clear hx ht
        go_wp2
        go_ret
        rw [HE.out]
        exact ⟨rfl, rfl⟩
      · have hne := toL_ne he
        have HE := hide (show Lib.containsS (L.take (k + 1)) s = false by rw [ht, HR.out, decide_eq_false he]; rfl)
        clear hx ht he
        go_wp2
        go_round
        case rel => exact ⟨k + 1, by go_num, by omega, HE⟩
        case measure => simp [intOf]; omega
    · obtain rfl : k = n := by omega
      have HE := hide (show Lib.containsS L s = false by rw [← HF.out]; exact HR.out)
      go_wp2
      go_ret
      rw [HE.out]
      exact ⟨rfl, rfl⟩
theorem isP_ix (x : ByteArray) : isP x = decide (0 ≤ Lib.indexByte x.data.toList 37) := by
  unfold isP
  rw [Bool.eq_iff_iff, decide_eq_true_eq, decide_eq_true_eq, ixb_mem]
set_option maxRecDepth 100000 in
set_option maxHeartbeats 1000000 in
theorem rplain_any (r : Rl) (w : World) (hr : RlOk w r) (hz : ∀ s ∈ r.tg.2.2, s.size ≤ 800000) :
    Calls Tryz.prog 36 #[.agg #[sv r.tg, sv r.nd, sv r.rc]] w fun e w' => e = .returned (.bool (plainR r.tg.2.2)) ∧ Below w.heap.size w w' := by
  obtain ⟨⟨A, c, L⟩, nd, rc⟩ := r
  have HA := hide hr.tg
  have hl : L.length ≤ 100000 := hr.t1
  have HZ := hide (show ∀ s ∈ L, s.size ≤ 800000 from hz)
  obtain ⟨n, hn⟩ : ∃ n, L.length = n := ⟨_, rfl⟩
  have HN := hide hn
  have HT := hide (fun k x (h : L[k]? = some x) => show (L.take (k + 1)).any isP = ((L.take k).any isP || isP x) by rw [List.take_add_one, h]; simp)
  have HF := hide (show (L.take n).any isP = L.any isP by rw [List.take_of_length_le (by omega)])
  have hn1 : (n : Int) ≤ 100000 := by omega
  unfold sv
  unfold plainR
  simp only [hn]
  clear hn hr hz
  have HB0 := hide ((Below.refl w.heap.size w).alloc (Nat.le_refl _) (.cells #[.slice A n c, .slice nd.1 nd.2.2.length nd.2.1, .slice rc.1 rc.2.2.length rc.2.1] 63))
  have HNB := hide (heapNew w (.cells #[.slice A n c, .slice nd.1 nd.2.2.length nd.2.1, .slice rc.1 rc.2.2.length rc.2.1] 63))
  go_enter Tryz.func36, Tryz.ntmps36
  go_wp2
  generalize w.alloc (.cells #[.slice A n c, .slice nd.1 nd.2.2.length nd.2.1, .slice rc.1 rc.2.2.length rc.2.1] 63) = W at HB0 HNB ⊢
  have c0 := cellOf' HNB.out (j := 0) rfl
  go_loop [3] (fun v3 => ∃ k : Nat, v3 = .int .i64 k ∧ k ≤ n ∧ Hid ((L.take k).any isP = false)) (fun v3 => n - (intOf v3).toNat)
  case atStart => exact ⟨0, rfl, by omega, hide (by simp)⟩
  case round =>
    obtain ⟨k, rfl, hk, HR⟩ := hrel
    by_cases hlt : k < n
    · obtain ⟨x, hx⟩ : ∃ x, L[k]? = some x := ⟨L[k]'(by have := HN.out; omega), List.getElem?_eq_getElem _⟩
      obtain ⟨g, o, rfl, hg, hc⟩ := HA.out.below HB0.out k x hx
      have b1 : (k : Int) < (n : Int) := by omega
      have ht := HT.out k x hx
      have hxz := HZ.out x (List.mem_of_getElem? hx)
      have HAT := hide (rat0_any x.data.toList 37 W (by rw [data_len]; omega))
      rw [bs_of] at HAT
      have hge := ixb_ge 37 x.data.toList
      have hip := isP_ix x
      obtain ⟨q, hq⟩ : ∃ q, Lib.indexByte x.data.toList 37 = q := ⟨_, rfl⟩
      rw [hq] at HAT hge hip
      by_cases he : 0 ≤ q
      · have HE := hide (show L.any isP = true by
          rw [List.any_eq_true]
          exact ⟨x, List.mem_of_getElem? hx, by rw [hip]; exact decide_eq_true he⟩)
        clear hx ht hq hip
        go_wp2_with fail
        refine HAT.out.mono ?_
        rintro e w' ⟨rfl, rfl⟩
        go_wp2
        go_ret
        rw [HE.out]
        exact ⟨rfl, HB0.out⟩
      · have HE := hide (show (L.take (k + 1)).any isP = false by rw [ht, HR.out, hip, decide_eq_false he]; rfl)
        clear hx ht hq hip
        go_wp2_with fail
        refine HAT.out.mono ?_
        rintro e w' ⟨rfl, rfl⟩
        go_wp2
        go_round
        case rel => exact ⟨k + 1, by go_num, by omega, HE⟩
        case measure => simp [intOf]; omega
    · obtain rfl : k = n := by omega
      have HE := hide (show L.any isP = false by rw [← HF.out]; exact HR.out)
      go_wp2
      go_ret
      rw [HE.out]
      exact ⟨rfl, HB0.out⟩
theorem ownS_base {w : World} {base base' : Nat} {v : Value} {L : List ByteArray} (h : OwnS w base v L) (hb : base' ≤ base) : OwnS w base' v L :=
  ⟨h.1, h.2.imp id fun ⟨g, cap, cur, e, hg, r⟩ => ⟨g, cap, cur, e, by omega, r⟩⟩
/-- sizes of targets that the reference can look through -/
def TgZ (L : List Rl) : Prop := ∀ r ∈ L, ∀ s ∈ r.tg.2.2, s.size ≤ 800000
theorem any_take {α : Type} {L : List α} {k : Nat} {x : α} (p : α → Bool) (h : L[k]? = some x) : (L.take (k + 1)).any p = ((L.take k).any p || p x) := by rw [List.take_add_one, h]; simp
set_option maxRecDepth 100000 in
set_option maxHeartbeats 2000000 in
theorem rknown_any (mac : Value) (A : Option Addr) (c : Nat) (L : List Rl) (name : ByteArray) (w : World) (hA : RLS w A L) (hl : L.length ≤ 1000) (hz : TgZ L) :
    Calls Tryz.prog 82 #[.agg #[mac, .slice A L.length c], .string name] w fun e w' => e = .returned (.bool (knownR L name)) ∧ Below w.heap.size w w' := by
  have HA := hide hA
  have HZ := hide hz
  obtain ⟨n, hn⟩ : ∃ n, L.length = n := ⟨_, rfl⟩
  have HN := hide hn
  have HT := hide (fun k x (h : L[k]? = some x) => any_take (ofR name) h)
  have HF := hide (show (L.take n).any (ofR name) = L.any (ofR name) by rw [List.take_of_length_le (by omega)])
  have hn1 : (n : Int) ≤ 1000 := by omega
  unfold knownR
  rw [hn]
  clear hn hA hz
  have HB0 := hide ((Below.refl w.heap.size w).alloc (Nat.le_refl _) (.cells #[mac, .slice A n c] 25))
  have HNB := hide (heapNew w (.cells #[mac, .slice A n c] 25))
  go_enter Tryz.func82, Tryz.ntmps82
  go_wp2
  generalize w.alloc (.cells #[mac, .slice A n c] 25) = W at HB0 HNB ⊢
  go_loopw [5] (fun v5 wr => ∃ k : Nat, v5 = .int .i64 k ∧ k ≤ n ∧ Hid ((L.take k).any (ofR name) = false) ∧ Below w.heap.size w wr ∧ wr.heap[w.heap.size]? = some (.cells #[mac, .slice A n c] 25)) (fun v5 _ => n - (intOf v5).toNat)
  case atStart => exact ⟨0, rfl, by omega, hide (by simp), HB0.out, HNB.out⟩
  case round =>
    obtain ⟨k, rfl, hk, HR, hb, hnb⟩ := hrel
    have HB := hide hb
    have HH := hide hnb
    have m0 := cellOf' hnb (j := 0) rfl
    have m1 := cellOf' hnb (j := 1) rfl
    have hlw := (Array.getElem?_eq_some_iff.1 hnb).1
    clear hb hnb
    by_cases hlt : k < n
    · obtain ⟨r, hr⟩ : ∃ r, L[k]? = some r := ⟨L[k]'(by have := HN.out; omega), List.getElem?_eq_getElem _⟩
      obtain ⟨⟨ta, tc, tl⟩, ⟨na, nc, nl⟩, ⟨ra, rc, rl⟩⟩ := r
      have har := HA.out.below HB.out
      obtain ⟨g, o, rfl, hg, hc⟩ := har.1 k _ hr
      have HRK := hide (har.2 _ (List.mem_of_getElem? hr))
      have hzr := HZ.out _ (List.mem_of_getElem? hr)
      have c0 : wr.cell? ⟨g, o + k * 3, none⟩ = some (.slice ta tl.length tc) := by have := hc 0 _ rfl; simpa [sv] using this
      have c1 : wr.cell? ⟨g, o + k * 3 + 1, none⟩ = some (.slice na nl.length nc) := hc 1 _ rfl
      have c2 : wr.cell? ⟨g, o + k * 3 + 2, none⟩ = some (.slice ra rl.length rc) := hc 2 _ rfl
      have ht := HT.out k _ hr
      have b1 : (k : Int) < (n : Int) := by omega
      have HPL := hide (rplain_any ⟨(ta, tc, tl), (na, nc, nl), (ra, rc, rl)⟩ wr HRK.out hzr)
      have HCT := hide (fun Z (hb : Below wr.heap.size wr Z) => rhas_any ta tc tl name Z (HRK.out.tg.below hb) (by have := HRK.out.t1; simp at this; omega))
      have hof : ofR name ⟨(ta, tc, tl), (na, nc, nl), (ra, rc, rl)⟩ = (plainR tl && Lib.containsS tl name) := rfl
      have hex := fun (h : ofR name ⟨(ta, tc, tl), (na, nc, nl), (ra, rc, rl)⟩ = true) => show L.any (ofR name) = true from List.any_eq_true.2 ⟨_, List.mem_of_getElem? hr, h⟩
      obtain ⟨p1, hp1⟩ : ∃ b, plainR tl = b := ⟨_, rfl⟩
      obtain ⟨p2, hp2⟩ : ∃ b, Lib.containsS tl name = b := ⟨_, rfl⟩
      unfold sv at HPL
      simp only at HPL
      rw [hp1] at HPL hof
      rw [hp2] at HCT hof
      rw [hof] at ht hex
      have HTK := hide ht
      have HEX := hide hex
      obtain ⟨tn, htn⟩ : ∃ n, tl.length = n := ⟨_, rfl⟩
      rw [htn] at c0 HPL HCT
      have HGL := hide hg
      have hgl : g < wr.heap.size := hg
      have hce := HB.out.size
      clear hc hr hzr har ht hof hex hp1 hp2 htn
      go_wp2_with fail
      refine HPL.out.mono ?_
      rintro e w1 ⟨rfl, hb1⟩
      have m1 := (hb1.cell (p := ⟨w.heap.size, 1, none⟩) hlw).trans m1
      have c0 := (hb1.cell (p := ⟨g, o + k * 3, none⟩) hgl).trans c0
      have HH1 := hide ((hb1.block _ hlw).trans HH.out)
      have HB1 := hide (below_up HB.out hb1 hce)
      have HCT1 := hide (HCT.out w1 hb1)
      clear hb1
      cases p1 with
      | false =>
        go_wp2
        go_roundw
        case rel => exact ⟨k + 1, by go_num, by omega, hide (by rw [HTK.out, HR.out]; rfl), HB1.out, HH1.out⟩
        case measure => simp [intOf]; omega
      | true =>
        go_wp2_with fail
        refine HCT1.out.mono ?_
        rintro e w' ⟨rfl, rfl⟩
        cases p2 with
        | false =>
          go_wp2
          go_roundw
          case rel => exact ⟨k + 1, by go_num, by omega, hide (by rw [HTK.out, HR.out]; rfl), HB1.out, HH1.out⟩
          case measure => simp [intOf]; omega
        | true =>
          go_wp2
          go_ret
          rw [HEX.out rfl]
          exact ⟨rfl, HB1.out⟩
    · obtain rfl : k = n := by omega
      have HE := hide (show L.any (ofR name) = false by rw [← HF.out]; exact HR.out)
      go_wp2
      go_ret
      rw [HE.out]
      exact ⟨rfl, HB.out⟩
set_option maxRecDepth 100000 in
set_option maxHeartbeats 2000000 in
theorem rspecial_any (mac : Value) (A : Option Addr) (c : Nat) (L : List Rl) (name : ByteArray) (w : World) (hA : RLS w A L) (hl : L.length ≤ 1000) (hz : TgZ L) (hs : ∀ k, (specialR (L.take k) name).length ≤ 900000) :
    Calls Tryz.prog 40 #[.agg #[mac, .slice A L.length c], .string name] w fun e w' => (∃ v, e = .returned v ∧ OwnS w' w.heap.size v (specialR L name)) ∧ Below w.heap.size w w' := by
  have HA := hide hA
  have HZ := hide hz
  have HS := hide hs
  obtain ⟨n, hn⟩ : ∃ n, L.length = n := ⟨_, rfl⟩
  have HN := hide hn
  have HT := hide (fun k x (h : L[k]? = some x) => special_take h name)
  have HF := hide (show specialR (L.take n) name = specialR L name by rw [List.take_of_length_le (by omega)])
  have hn1 : (n : Int) ≤ 1000 := by omega
  rw [hn]
  clear hn hA hz hs
  have HB0 := hide ((Below.refl w.heap.size w).alloc (Nat.le_refl _) (.cells #[mac, .slice A n c] 25))
  have HNB := hide (heapNew w (.cells #[mac, .slice A n c] 25))
  go_enter Tryz.func40, Tryz.ntmps40
  go_wp2
  generalize hWW : w.alloc (.cells #[mac, .slice A n c] 25) = W at HB0 HNB ⊢
  have hwsz : W.heap.size = w.heap.size + 1 := by rw [← hWW]; simp
  clear hWW
  go_loopw [5, 6] (fun v5 v6 wr => ∃ k : Nat, v6 = .int .i64 k ∧ k ≤ n ∧ OwnS wr (w.heap.size + 1) v5 (specialR (L.take k) name) ∧ Below w.heap.size w wr ∧ wr.heap[w.heap.size]? = some (.cells #[mac, .slice A n c] 25)) (fun _ v6 _ => n - (intOf v6).toNat)
  case atStart => exact ⟨0, rfl, by omega, OwnS.nil _ _, HB0.out, HNB.out⟩
  case round =>
    obtain ⟨k, rfl, hk, ho, hb, hnb⟩ := hrel
    have HO := hide ho
    have HB := hide hb
    have HH := hide hnb
    have m0 := cellOf' hnb (j := 0) rfl
    have m1 := cellOf' hnb (j := 1) rfl
    have hlw := (Array.getElem?_eq_some_iff.1 hnb).1
    clear hb hnb ho
    by_cases hlt : k < n
    · obtain ⟨r, hr⟩ : ∃ r, L[k]? = some r := ⟨L[k]'(by have := HN.out; omega), List.getElem?_eq_getElem _⟩
      obtain ⟨⟨ta, tc, tl⟩, ⟨na, nc, nl⟩, ⟨ra, rc, rl⟩⟩ := r
      have har := HA.out.below HB.out
      obtain ⟨g, o, rfl, hg, hc⟩ := har.1 k _ hr
      have HRK := hide (har.2 _ (List.mem_of_getElem? hr))
      have hzr := HZ.out _ (List.mem_of_getElem? hr)
      have c0 : wr.cell? ⟨g, o + k * 3, none⟩ = some (.slice ta tl.length tc) := by have := hc 0 _ rfl; simpa [sv] using this
      have c1 : wr.cell? ⟨g, o + k * 3 + 1, none⟩ = some (.slice na nl.length nc) := hc 1 _ rfl
      have c2 : wr.cell? ⟨g, o + k * 3 + 2, none⟩ = some (.slice ra rl.length rc) := hc 2 _ rfl
      have ht := HT.out k _ hr
      have hlen := HS.out (k + 1)
      rw [ht, List.length_append] at hlen
      have b1 : (k : Int) < (n : Int) := by omega
      have HPL := hide (rplain_any ⟨(ta, tc, tl), (na, nc, nl), (ra, rc, rl)⟩ wr HRK.out hzr)
      have HCT := hide (fun Z (hb : Below wr.heap.size wr Z) => rhas_any ta tc tl name Z (HRK.out.tg.below hb) (by have := HRK.out.t1; simp at this; omega))
      have hof : ofR name ⟨(ta, tc, tl), (na, nc, nl), (ra, rc, rl)⟩ = (plainR tl && Lib.containsS tl name) := rfl
      obtain ⟨p1, hp1⟩ : ∃ b, plainR tl = b := ⟨_, rfl⟩
      obtain ⟨p2, hp2⟩ : ∃ b, Lib.containsS tl name = b := ⟨_, rfl⟩
      unfold sv at HPL
      simp only at HPL
      rw [hp1] at HPL hof
      rw [hp2] at HCT hof
      rw [hof] at ht hlen
      have HTK := hide ht
      have HLN := hide hlen
      obtain ⟨tn, htn⟩ : ∃ n, tl.length = n := ⟨_, rfl⟩
      rw [htn] at c0 HPL HCT
      have HNL := hide (show SR wr na nl from HRK.out.nd)
      have hgl : g < wr.heap.size := hg
      have hce := HB.out.size
      clear hc hr hzr har ht hof hp1 hp2 htn hlen
      go_wp2_with fail
      refine HPL.out.mono ?_
      rintro e w1 ⟨rfl, hb1⟩
      have m1 := (hb1.cell (p := ⟨w.heap.size, 1, none⟩) hlw).trans m1
      have c0 := (hb1.cell (p := ⟨g, o + k * 3, none⟩) hgl).trans c0
      have c1 := (hb1.cell (p := ⟨g, o + k * 3 + 1, none⟩) hgl).trans c1
      have HH1 := hide ((hb1.block _ hlw).trans HH.out)
      have HB1 := hide (below_up HB.out hb1 hce)
      have HCT1 := hide (HCT.out w1 hb1)
      have HO1 := hide (HO.out.below' hb1)
      have HN1 := hide (HNL.out.below hb1)
      have hsz1 := hb1.size
      clear hb1
      cases p1 with
      | false =>
        have HE := hide (show specialR (L.take (k + 1)) name = specialR (L.take k) name by rw [HTK.out, if_neg (by simp), List.append_nil])
        go_wp2
        go_roundw
        case rel => exact ⟨k + 1, by go_num, by omega, by rw [HE.out]; exact HO1.out, HB1.out, HH1.out⟩
        case measure => simp [intOf]; omega
      | true =>
        go_wp2_with fail
        refine HCT1.out.mono ?_
        rintro e w' ⟨rfl, rfl⟩
        cases p2 with
        | false =>
          have HE := hide (show specialR (L.take (k + 1)) name = specialR (L.take k) name by rw [HTK.out, if_neg (by simp), List.append_nil])
          go_wp2
          go_roundw
          case rel => exact ⟨k + 1, by go_num, by omega, by rw [HE.out]; exact HO1.out, HB1.out, HH1.out⟩
          case measure => simp [intOf]; omega
        | true =>
          have HE := hide (show specialR (L.take (k + 1)) name = specialR (L.take k) name ++ nl by rw [HTK.out, if_pos (show (true && true) = true from rfl)])
          have hl2 : (specialR (L.take k) name).length + nl.length ≤ 900000 := by
            have := HLN.out
            rw [if_pos (show (true && true) = true from rfl)] at this
            exact this
          obtain ⟨v', w4, r4, o4, g4, b4⟩ := run_appS (c := nc) HO1.out HN1.out (by omega) (by omega)
          have HO4 := hide o4
          have HB4 := hide (HB1.out.grown g4 (by omega) (fun q hq => by have := (World.ownsRow.lt HO1.out q hq).1; omega))
          have HH4 := hide ((g4.block w.heap.size (by omega) (fun e => by have := (World.ownsRow.lt HO1.out _ e.symm).1; omega)).trans HH1.out)
          clear o4 g4 b4
          go_wp2_with (at_builtin; refine wpList_app_run ?_ (.tmp 30) (.tmp 36) ?_ ?_ ?_ ?_ r4 ?_; exact rfl; exact rfl; exact rfl; exact rfl; exact rfl)
          go_roundw
          case rel => exact ⟨k + 1, by go_num, by omega, by rw [HE.out]; exact HO4.out, HB4.out, HH4.out⟩
          case measure => simp [intOf]; omega
    · obtain rfl : k = n := by omega
      have HO2 := hide (ownS_base HO.out (Nat.le_succ w.heap.size))
      rw [HF.out] at HO2
      go_wp2
      go_ret
      exact ⟨⟨_, rfl, HO2.out⟩, HB.out⟩
end Go.Proofs.YtaajofojbhdgaaaGreatDoor
/- Walks of age.node, age.Newer and age.Old. -/
namespace Go.Proofs.YtaajofojbhdgaaaGreatDoor
open Go.RowKit Go.Deep Go.Maps Ln Pth Vf
attribute [local go_sem] bt_eq

/-- whether something is at a path, and its time -/
def nodeS (S : St) (cwd : T) (s : ByteArray) : Bool × Nat := if (absF cwd s.data.toList).2 ≠ 0 ∨ kindS S (absF cwd s.data.toList).1 = 0 then (false, 0) else (true, timeS S (absF cwd s.data.toList).1)
def newerS (S : St) (cwd : T) (target : ByteArray) (L : List ByteArray) : List ByteArray := L.filter fun s => !(nodeS S cwd target).1 || decide ((nodeS S cwd target).2 < (nodeS S cwd s).2)
def phony : ByteArray := ⟨#[46, 80, 72, 79, 78, 89]⟩
def madeS (S : St) (cwd : T) (m : List Rl) (made : List ByteArray) (s : ByteArray) : Bool := Lib.containsS made s && (!(nodeS S cwd s).1 || hasR m phony s)
def oldS (S : St) (cwd : T) (m : List Rl) (target : ByteArray) (needs made : List ByteArray) : Bool := !(nodeS S cwd target).1 || hasR m phony target || decide (0 < (newerS S cwd target needs).length) || needs.any (madeS S cwd m made)
theorem absF_len' (cwd p : T) : (absF cwd p).1.length ≤ 200 := by
  rcases absF_cases cwd p with ⟨l, g, e, _⟩ | ⟨e, _⟩
  · rw [e]; exact g.len
  · rw [e]; simp
end Go.Proofs.YtaajofojbhdgaaaGreatDoor
/- Walks of the reference's kind, time and Newer (chapters 21 and 23). -/
namespace Go.Proofs.YtaajofojbhdgaaaGreatDoor
open Go.RowKit Go.Deep Go.Maps Ln Pth Vf
set_option linter.unusedSimpArgs false
set_option linter.unusedVariables false
attribute [local go_sem] bt_eq

/-- what is at a path from a directory on; when -/
def nodeK (S : St) (cwd : T) (s : ByteArray) : Nat := if (absF cwd s.data.toList).2 ≠ 0 then 0 else kindS S (absF cwd s.data.toList).1
def nodeT (S : St) (cwd : T) (s : ByteArray) : Nat := if (absF cwd s.data.toList).2 ≠ 0 then 0 else timeS S (absF cwd s.data.toList).1
theorem RS.kind {g : Nat} {S : St} {w : World} (h : Hs (RS g S) w) (hl : S.m.length ≤ 1000000) {W : World} (hb : Below w.heap.size w W) (p : T) (hp : p.length ≤ 200) :
    Calls Tryz.prog 115 #[.pointer (some ⟨g, 0, none⟩), .string (bs p)] W fun e w' => e = .returned (.int .i64 (kindS S p)) ∧ Below W.heap.size W w' := by
  obtain ⟨A, c, P, o⟩ := RS.o h
  exact rKind_any g S A c P p W (o.below hb) (by rw [← stripN_len, ← o.eq]; exact hl) (by omega)
set_option maxRecDepth 100000 in
set_option maxHeartbeats 1000000 in
theorem rkind18_any (g : Nat) (S : St) (cwd : T) (s : ByteArray) (w : World) (h : Hs (RS g S) w) (hl : S.m.length ≤ 1000000) (h1 : cwd.length ≤ 6600000) (h2 : s.size ≤ 6600000) :
    Calls Tryz.prog 81 #[.pointer (some ⟨g, 0, none⟩), .string (bs cwd), .string s] w fun e w' => e = .returned (.int .i64 (nodeK S cwd s)) ∧ Below w.heap.size w w' := by
  have HA := hide (rabs_any cwd s.data.toList w h1 (by rw [data_len]; exact h2))
  rw [bs_of] at HA
  have hll := absF_len' cwd s.data.toList
  have hR : nodeK S cwd s = if (absF cwd s.data.toList).2 ≠ 0 then 0 else kindS S (absF cwd s.data.toList).1 := rfl
  have HK := hide (fun W (hb : Below w.heap.size w W) => RS.kind h hl hb (absF cwd s.data.toList).1 hll)
  unfold AbsPost at HA
  obtain ⟨q, hq⟩ : ∃ q, (absF cwd s.data.toList).1 = q := ⟨_, rfl⟩
  obtain ⟨e, he⟩ : ∃ q, (absF cwd s.data.toList).2 = q := ⟨_, rfl⟩
  obtain ⟨kk, hkk⟩ : ∃ k, kindS S q = k := ⟨_, rfl⟩
  rw [hq] at HA HK hR
  rw [he] at HA hR
  rw [hkk] at HK hR
  have HR := hide hR
  clear hR hq he hkk hll h
  by_cases c1 : e = 0
  case neg =>
    obtain ⟨t1, t2⟩ := ne0 c1
    have HE := hide (HR.out.trans (if_pos c1))
    clear c1
    go_enter Tryz.func81, Tryz.ntmps81
    go_wp2_with fail
    refine HA.out.mono ?_
    rintro e w1 ⟨rfl, hb⟩
    have HB := hide hb
    clear hb
    go_wp2
    go_ret
    rw [HE.out]
    exact ⟨rfl, HB.out⟩
  subst c1
  have HE := hide (HR.out.trans (if_neg (by simp)))
  go_enter Tryz.func81, Tryz.ntmps81
  go_wp2_with fail
  refine HA.out.mono ?_
  rintro e w1 ⟨rfl, hb⟩
  have HB := hide hb
  clear hb
  go_wp2_with fail
  refine (HK.out w1 HB.out).mono ?_
  rintro e w2 ⟨rfl, hb⟩
  have HB2 := hide (below_up HB.out hb HB.out.size)
  clear hb
  go_wp2
  go_ret
  rw [HE.out]
  exact ⟨rfl, HB2.out⟩
end Go.Proofs.YtaajofojbhdgaaaGreatDoor
/- Walks of the reference's special, once, Ends, Stem, Fill and there. -/
namespace Go.Proofs.YtaajofojbhdgaaaGreatDoor
open Go.RowKit Go.Deep Go.Maps Ln Pth Vf
set_option linter.unusedSimpArgs false
set_option linter.unusedVariables false
attribute [local go_sem] bt_eq

set_option maxRecDepth 100000 in
set_option maxHeartbeats 1000000 in
theorem rspec18_any (s : T) (w : World) (hs : s.length ≤ 6600000) :
    Calls Tryz.prog 35 #[.string (bs s)] w fun e w' => e = .returned (.bool (specT s)) ∧ w = w' := by
  have hz : (bs s).size = s.length := bs_size s
  have HZ := hide hz
  have hR := spec_eq s
  obtain ⟨R, hRR⟩ : ∃ b, specT s = b := ⟨_, rfl⟩
  rw [hRR] at hR ⊢
  clear hRR
  by_cases c1 : s.length < 2
  · have HE := hide (show false = R by rw [hR, decide_eq_false (by omega)]; rfl)
    have d1 : ((bs s).size : Int) < 2 := by omega
    have d1' : (bs s).size < 2 := by omega
    clear hR c1 hz
    go_enter Tryz.func35, Tryz.ntmps35
    go_wp2
    go_ret
    exact ⟨retB HE.out, rfl⟩
  have d1 : ¬ ((bs s).size : Int) < 2 := by omega
  have d1' : ¬ (bs s).size < 2 := by omega
  have d0 : 0 < (bs s).size := by omega
  have q0 := getD_nat s 0 46 (by omega)
  by_cases c2 : s.getD 0 0 = 46
  case neg =>
    have HE := hide (show false = R by rw [hR, decide_eq_false c2]; simp)
    have g1 : ((((bt (bs s) 0 : Nat) : Int) == ((46 : Nat) : Int))) = false := by rw [q0]; simpa using c2
    have g2 : ((((bt (bs s) 0 : Nat) : Int) == 46)) = false := g1
    clear hR c1 c2 hz q0
    go_enter Tryz.func35, Tryz.ntmps35
    go_wp2
    go_ret
    exact ⟨retB HE.out, rfl⟩
  have g1 : ((((bt (bs s) 0 : Nat) : Int) == 46)) = true := by
    have : ((((bt (bs s) 0 : Nat) : Int) == ((46 : Nat) : Int))) = true := by rw [q0]; simpa using c2
    exact this
  have HF := hide (show R = (s.drop 1).all (azT.contains ·) by rw [hR, decide_eq_true c2, decide_eq_true (show 1 < s.length by omega)]; simp)
  have hni : (bs s).size ≤ 6600000 := by omega
  clear hR c1 c2 hz q0
  go_enter Tryz.func35, Tryz.ntmps35
  go_wp2
  go_loop [3] (fun v5 => ∃ k : Nat, v5 = .int .i64 k ∧ 1 ≤ k ∧ k ≤ (bs s).size ∧ Hid (((s.take k).drop 1).all (azT.contains ·) = true)) (fun v5 => (bs s).size - (intOf v5).toNat)
  case atStart => exact ⟨1, rfl, by omega, by omega, hide (by rw [List.drop_eq_nil_of_le (by rw [List.length_take]; omega)]; rfl)⟩
  case round =>
    obtain ⟨k, rfl, hk1, hk, HR⟩ := hrel
    by_cases hlt : k < (bs s).size
    · have hkl : k < s.length := by have := HZ.out; omega
      have hb := bt_bs s k
      have hz := az_iff (s.getD k 0)
      have ht := spec_all_take hkl hk1
      rw [HR.out, Bool.true_and] at ht
      have hno := fun (h : azT.contains (s.getD k 0) = false) => spec_no hkl hk1 h
      have h256 := (s.getD k 0).toNat_lt
      rw [← hb] at hz h256
      obtain ⟨x, hx⟩ : ∃ x, azT.contains (s.getD k 0) = x := ⟨_, rfl⟩
      rw [hx] at hz ht hno
      clear hb hx hkl
      by_cases c3 : bt (bs s) k = 95
      · have HE := hide (show ((s.take (k + 1)).drop 1).all (azT.contains ·) = true by rw [ht, hz, decide_eq_true c3]; rfl)
        have e1 : (((bt (bs s) k : Nat) : Int) == 95) = true := by rw [c3]; rfl
        clear hz ht hno h256
        go_wp2
        go_round
        case rel => exact ⟨k + 1, by go_num, by omega, by omega, HE⟩
        case measure => simp [intOf]; omega
      have e1 : (((bt (bs s) k : Nat) : Int) == 95) = false := by simp only [beq_eq_false_iff_ne]; omega
      by_cases c4 : bt (bs s) k < 65
      · have HE := hide (show false = R by rw [HF.out, hno (by rw [hz, decide_eq_false c3, decide_eq_false (show ¬ 65 ≤ bt (bs s) k by omega)]; rfl)])
        have e2 : (((bt (bs s) k : Nat) : Int)) < 65 := by omega
        clear hz ht hno h256
        go_wp2
        go_ret
        exact ⟨retB HE.out, rfl⟩
      have e2 : ¬ (((bt (bs s) k : Nat) : Int)) < 65 := by omega
      by_cases c5 : 90 < bt (bs s) k
      · have HE := hide (show false = R by rw [HF.out, hno (by rw [hz, decide_eq_false c3, decide_eq_false (show ¬ bt (bs s) k ≤ 90 by omega)]; simp)])
        have e3 : 90 < (((bt (bs s) k : Nat) : Int)) := by omega
        clear hz ht hno h256
        go_wp2
        go_ret
        exact ⟨retB HE.out, rfl⟩
      have e3 : ¬ 90 < (((bt (bs s) k : Nat) : Int)) := by omega
      have HE := hide (show ((s.take (k + 1)).drop 1).all (azT.contains ·) = true by rw [ht, hz, decide_eq_true (show 65 ≤ bt (bs s) k by omega), decide_eq_true (show bt (bs s) k ≤ 90 by omega)]; simp)
      clear hz ht hno h256
      go_wp2
      go_round
      case rel => exact ⟨k + 1, by go_num, by omega, by omega, HE⟩
      case measure => simp [intOf]; omega
    · obtain rfl : k = (bs s).size := by omega
      have HE := hide (show true = R by
        rw [HF.out, ← HR.out, List.take_of_length_le (by have := HZ.out; omega)])
      go_wp2
      go_ret
      exact ⟨retB HE.out, rfl⟩
/-- a text behind others, if it is not there -/
def SPost (A0 : Option Addr) (L0 L : List ByteArray) (w : World) (e : Ending) (w' : World) : Prop := (∃ A c, e = .returned (.slice A L.length c) ∧ SR w' A L ∧ ∀ a, A = some a → (L = L0 ∧ A0 = some a) ∨ w.heap.size ≤ a.block) ∧ Below w.heap.size w w'
set_option maxRecDepth 100000 in
set_option maxHeartbeats 1000000 in
theorem ronce_any (A : Option Addr) (c : Nat) (L : List ByteArray) (s : ByteArray) (w : World) (hA : SR w A L) (hl : L.length ≤ 40000000) :
    Calls Tryz.prog 37 #[.slice A L.length c, .string s] w (SPost A L (needF L s) w) := by
  have HH := hide (rhas_any A c L s w hA (by omega))
  have hR : needF L s = if Lib.containsS L s = true then L else L ++ [s] := rfl
  obtain ⟨b, hb⟩ : ∃ b, Lib.containsS L s = b := ⟨_, rfl⟩
  obtain ⟨n, hn⟩ : ∃ n, L.length = n := ⟨_, rfl⟩
  rw [hb] at HH hR
  have HA := hide hA
  cases b with
  | true =>
    have HE := hide (show needF L s = L by rw [hR, if_pos rfl])
    have HN := hide hn
    rw [hn] at HH ⊢
    clear hA hR hb hn
    go_enter Tryz.func37, Tryz.ntmps37
    go_wp2_with fail
    refine HH.out.mono ?_
    rintro e w' ⟨rfl, rfl⟩
    go_wp2
    go_ret
    unfold SPost
    rw [HE.out, HN.out]
    exact ⟨⟨_, _, rfl, HA.out, fun a e => .inl ⟨rfl, e⟩⟩, Below.refl _ _⟩
  | false =>
    have HE := hide (show needF L s = L ++ [s] by rw [hR, if_neg (by simp)])
    obtain ⟨v1, w1, r1, o1, g1, b1⟩ := run_appS (c := c) (OwnS.nil w w.heap.size) hA (Nat.le_refl _) (by simp; omega)
    simp only [List.nil_append] at o1
    have hB1 : Below w.heap.size w w1 := (Below.refl w.heap.size w).grown g1 (Nat.le_refl _) (fun q hq => by cases hq)
    have hB2 := hB1.alloc g1.size (.cells #[.string s] 9)
    obtain ⟨v2, w2, r2, o2, g2, b2⟩ := run_appS (c := 1) (OwnS.alloc o1 (.cells #[.string s] 9)) (sr_new w1 s) (by have := g1.size; simp; omega) (by simp; omega)
    have HO := hide o2
    have HB := hide (hB2.grown g2 (by have := g1.size; simp; omega) (fun q hq => (World.ownsRow.lt o1 q hq).1))
    rw [hn] at r1 HH ⊢
    clear hA hR hb hn o1 g1 b1 hB1 hB2 o2 g2 b2
    go_enter Tryz.func37, Tryz.ntmps37
    go_wp2_with fail
    refine HH.out.mono ?_
    rintro e w' ⟨rfl, rfl⟩
    go_wp2_with (first
      | (at_builtin; refine wpList_app_run ?_ (.const (.slice none 0 0)) (.tmp 9) ?_ ?_ ?_ ?_ r1 ?_; exact rfl; exact rfl; exact rfl; exact rfl; exact rfl)
      | (at_builtin; refine wpList_app_run ?_ (.tmp 10) (.tmp 12) ?_ ?_ ?_ ?_ r2 ?_; exact rfl; exact rfl; exact rfl; exact rfl; exact rfl))
    go_ret
    unfold SPost
    rw [HE.out]
    have ho := HO.out
    obtain ⟨A', c', rfl, _, sr, hab⟩ := ho.slice
    exact ⟨⟨_, _, rfl, sr, fun a e => .inr (World.ownsRow.lt ho a.block (hab a e)).1⟩, HB.out⟩
theorem hsuf_eq (l x : T) : Lib.hasSuffix l x = decide (x.length ≤ l.length ∧ l.drop (l.length - x.length) = x) := by
  unfold Lib.hasSuffix
  rw [Bool.eq_iff_iff, List.isSuffixOf_iff_suffix, decide_eq_true_eq]
  constructor
  · rintro ⟨r, rfl⟩
    refine ⟨by simp, ?_⟩
    rw [List.length_append, Nat.add_sub_cancel, List.drop_left]
  · rintro ⟨h1, h2⟩
    exact ⟨l.take (l.length - x.length), by conv => lhs; rhs; rw [← h2]
                                            exact List.take_append_drop _ _⟩
set_option maxRecDepth 100000 in
set_option maxHeartbeats 400000 in
theorem rends_any (l x : T) (w : World) (h1 : l.length ≤ 6600000) (h2 : x.length ≤ 6600000) :
    Calls Tryz.prog 80 #[.string (bs l), .string (bs x)] w fun e w' => e = .returned (.bool (Lib.hasSuffix l x)) ∧ w = w' := by
  have z1 : (bs l).size = l.length := bs_size l
  have z2 : (bs x).size = x.length := bs_size x
  have hq := hsuf_eq l x
  by_cases hx : x.length ≤ l.length
  · have HE := hide (show decide (bs ((l.drop (l.length - x.length)).take x.length) = bs x) = Lib.hasSuffix l x by
      rw [hq, List.take_of_length_le (by simp; omega), decide_eq_decide]
      exact ⟨fun h => ⟨hx, bs_inj h⟩, fun h => by rw [h.2]⟩)
    obtain ⟨m, hm⟩ : ∃ m, l.length = m + x.length := ⟨l.length - x.length, by omega⟩
    have HX := hide (show (bs l).extract m (m + x.length) = bs ((l.drop (l.length - x.length)).take x.length) by
      rw [ext_bs, Nat.add_sub_cancel_left, hm, Nat.add_sub_cancel])
    rw [hm] at z1
    clear hq
    generalize bs ((l.drop (l.length - x.length)).take x.length) = r at HE HX
    generalize Lib.hasSuffix l x = v at *
    generalize bs l = sl at *
    generalize bs x = sx at *
    go_enter Tryz.func80, Tryz.ntmps80
    go_wp2
    go_ret
    refine ⟨?_, rfl⟩
    go_light
    have h1 := HX.out
    have h2 := HE.out
    have h3 : ((sl.extract m (m + x.length)).toList == sx.toList) = v := by
      rw [← h2, ← h1]
      by_cases h : sl.extract m (m + x.length) = sx
      · simp [h]
      · rw [txt_ne h]; simp [h]
    exact congrArg (fun b => Ending.returned (.bool b)) h3
  · have HE := hide (show false = Lib.hasSuffix l x by
      rw [hq, eq_comm, decide_eq_false_iff_not]
      exact fun h => hx h.1)
    clear hq
    generalize Lib.hasSuffix l x = v at *
    go_enter Tryz.func80, Tryz.ntmps80
    go_wp2
    go_ret
    exact ⟨by rw [← HE.out]; rfl, rfl⟩
set_option maxRecDepth 100000 in
set_option maxHeartbeats 2000000 in
theorem rstem_any (p s : T) (w : World) (hp : p.length ≤ 1000000) (hs : s.length ≤ 6600000) :
    Calls Tryz.prog 76 #[.string (bs p), .string (bs s)] w fun e w' => e = .returned (.tuple #[.string (bs (matchT p s).1), .bool (matchT p s).2]) ∧ w = w' := by
  have HAT := hide (rat0_any p 37 w (by omega))
  rw [show (((37 : UInt8).toNat : Nat) : Int) = 37 from rfl] at HAT
  have zs : (bs s).size = s.length := bs_size s
  have zp : (bs p).size = p.length := bs_size p
  obtain ⟨ix, hix⟩ : ∃ i, Lib.indexByte p 37 = i := ⟨_, rfl⟩
  rw [hix] at HAT
  by_cases c0 : 0 ≤ ix
  case neg =>
    have HE := hide (show matchT p s = ([], decide (s = p)) by
      unfold matchT
      rw [if_pos (cuts_no (by rw [hix]; exact c0))])
    obtain ⟨q, hq⟩ : ∃ q, decide (s = p) = q := ⟨_, rfl⟩
    have heq : ((bs p).toList == (bs s).toList) = q := by rw [bs_eqv, ← hq, decide_eq_decide]; exact eq_comm
    rw [hq] at HE
    have d0 : ix < 0 := by omega
    clear c0 hix hq
    go_enter Tryz.func76, Tryz.ntmps76
    go_wp2_with fail
    refine HAT.out.mono ?_
    rintro e w' ⟨rfl, rfl⟩
    go_wp2
    go_ret2
    rw [HE.out]
    exact ⟨rfl, rfl⟩
  obtain ⟨k, rfl⟩ := Int.eq_ofNat_of_zero_le c0
  obtain ⟨h1, h2, h3, h4⟩ := cuts_at hix
  have hfl : (frontT p).length = k := by rw [h2, List.length_take]; omega
  have hbl : (backT p).length = p.length - (k + 1) := by rw [h3, List.length_drop]
  have hR : matchT p s = if s.length ≤ (frontT p).length + (backT p).length then ([], false) else if Lib.hasPrefix s (frontT p) = false then ([], false) else if Lib.hasSuffix s (backT p) = false then ([], false) else ((s.drop (frontT p).length).take (s.length - (backT p).length - (frontT p).length), true) := by
    unfold matchT
    rw [if_neg (by simp [h1])]
  rw [hfl, hbl] at hR
  have e1 : (bs p).extract 0 k = bs (frontT p) := by rw [ext_bs, h2]; rfl
  have e2 : (bs p).extract (k + 1) p.length = bs (backT p) := by rw [ext_bs, h3, List.take_of_length_le (by rw [List.length_drop]; omega)]
  have HPR := hide (rbegins_any (bs s) ((bs p).extract 0 k) w)
  have HSU := hide (rends_any s (backT p) w hs (by omega))
  rw [← e2] at HSU
  rw [e1, bs_list, bs_list] at HPR
  rw [← e1] at HPR
  have HEX := hide (ext_bs s k (s.length - (p.length - (k + 1))))
  have zx1 : ((bs p).extract 0 k).size = k := by rw [e1, bs_size, hfl]
  have zx2 : ((bs p).extract (k + 1) p.length).size = p.length - (k + 1) := by rw [e2, bs_size, hbl]
  obtain ⟨b2, hb2⟩ : ∃ b, Lib.hasPrefix s (frontT p) = b := ⟨_, rfl⟩
  obtain ⟨b3, hb3⟩ : ∃ b, Lib.hasSuffix s (backT p) = b := ⟨_, rfl⟩
  rw [hb2] at HPR hR
  rw [hb3] at HSU hR
  have HR := hide hR
  obtain ⟨sl, hsl⟩ : ∃ k, s.length = k := ⟨_, rfl⟩
  obtain ⟨pl, hpl⟩ : ∃ k, p.length = k := ⟨_, rfl⟩
  rw [hsl] at zs HR HEX hs
  rw [hpl] at zp HR HEX HSU zx2 h4 hp
  have g1 : 0 ≤ (k : Int) := by omega
  have g2 : (k : Int) < (pl : Int) := by omega
  have g3 : ¬ (k : Int) < 0 := by omega
  clear hR e1 e2 hfl hbl h1 h2 h3 hb2 hb3 hsl hpl hix c0
  generalize bs p = sp at *
  by_cases c1 : sl < pl
  · have HE := hide (HR.out.trans (if_pos (by omega)))
    have d1 : decide ((sl : Int) < (pl : Int)) = true := by simp; omega
    have d1' : decide (sl < pl) = true := by simp; omega
    clear c1 HR
    go_enter Tryz.func76, Tryz.ntmps76
    go_wp2_with fail
    refine HAT.out.mono ?_
    rintro e w' ⟨rfl, rfl⟩
    go_wp2
    go_ret2
    rw [HE.out]
    exact ⟨rfl, rfl⟩
  have d1 : decide ((sl : Int) < (pl : Int)) = false := by simp; omega
  have d1' : decide (sl < pl) = false := by simp; omega
  have hr2 := HR.out.trans (if_neg (by omega))
  cases b2 with
  | false =>
    have HE := hide (hr2.trans (if_pos rfl))
    clear hr2 HR
    go_enter Tryz.func76, Tryz.ntmps76
    go_wp2_with fail
    refine HAT.out.mono ?_
    rintro e w' ⟨rfl, rfl⟩
    go_wp2_with fail
    refine HPR.out.mono ?_
    rintro e w' ⟨rfl, rfl⟩
    go_wp2
    go_ret2
    rw [HE.out]
    exact ⟨rfl, rfl⟩
  | true =>
    have hr3 := hr2.trans (if_neg (by simp))
    clear hr2
    cases b3 with
    | false =>
      have HE := hide (hr3.trans (if_pos rfl))
      clear hr3 HR
      go_enter Tryz.func76, Tryz.ntmps76
      go_wp2_with fail
      refine HAT.out.mono ?_
      rintro e w' ⟨rfl, rfl⟩
      go_wp2_with fail
      refine HPR.out.mono ?_
      rintro e w' ⟨rfl, rfl⟩
      go_wp2_with fail
      refine HSU.out.mono ?_
      rintro e w' ⟨rfl, rfl⟩
      go_wp2
      go_ret2
      rw [HE.out]
      exact ⟨rfl, rfl⟩
    | true =>
      have HE := hide (hr3.trans (if_neg (by simp)))
      obtain ⟨bl, hbl⟩ : ∃ k', pl - (k + 1) = k' := ⟨_, rfl⟩
      rw [hbl] at HE HEX zx2
      have b4 : k ≤ sl - bl := by omega
      have b5 : ((sl - bl : Nat) : Int) = (sl : Int) - (bl : Int) := by omega
      have b6 : bl ≤ sl := by omega
      clear hr3 HR hbl
      go_enter Tryz.func76, Tryz.ntmps76
      go_wp2_with fail
      refine HAT.out.mono ?_
      rintro e w' ⟨rfl, rfl⟩
      go_wp2_with fail
      refine HPR.out.mono ?_
      rintro e w' ⟨rfl, rfl⟩
      go_wp2_with fail
      refine HSU.out.mono ?_
      rintro e w' ⟨rfl, rfl⟩
      go_wp2
      go_ret2
      rw [HE.out]
      refine ⟨?_, rfl⟩
      show Ending.returned (.tuple #[.string ((bs s).extract k (sl - bl)), .bool true]) = _
      rw [HEX.out]
set_option maxRecDepth 100000 in
set_option maxHeartbeats 1000000 in
theorem rfill_any (p st : T) (w : World) (hp : p.length ≤ 1000000) (hs : st.length ≤ 6600000) :
    Calls Tryz.prog 77 #[.string (bs p), .string (bs st)] w fun e w' => e = .returned (.string (bs (fillT p st))) ∧ Below w.heap.size w w' := by
  have HAT := hide (rat0_any p 37 w (by omega))
  rw [show (((37 : UInt8).toNat : Nat) : Int) = 37 from rfl] at HAT
  have zs : (bs st).size = st.length := bs_size st
  have zp : (bs p).size = p.length := bs_size p
  obtain ⟨ix, hix⟩ : ∃ i, Lib.indexByte p 37 = i := ⟨_, rfl⟩
  rw [hix] at HAT
  by_cases c0 : 0 ≤ ix
  case neg =>
    have HE := hide (show fillT p st = p by
      unfold fillT
      rw [if_pos (cuts_no (by rw [hix]; exact c0))])
    have d0 : ix < 0 := by omega
    clear c0 hix
    go_enter Tryz.func77, Tryz.ntmps77
    go_wp2_with fail
    refine HAT.out.mono ?_
    rintro e w' ⟨rfl, rfl⟩
    go_wp2
    go_ret
    rw [HE.out]
    exact ⟨rfl, Below.refl _ _⟩
  obtain ⟨k, rfl⟩ := Int.eq_ofNat_of_zero_le c0
  obtain ⟨h1, h2, h3, h4⟩ := cuts_at hix
  have e1 : (bs p).extract 0 k = bs (frontT p) := by rw [ext_bs, h2]; rfl
  have e2 : (bs p).extract (k + 1) p.length = bs (backT p) := by rw [ext_bs, h3, List.take_of_length_le (by rw [List.length_drop]; omega)]
  have HE := hide (show bs (fillT p st) = (bs p).extract 0 k ++ bs st ++ (bs p).extract (k + 1) p.length by
    unfold fillT
    rw [if_neg (by simp [h1]), e1, e2, bs_app, bs_app])
  have zx1 : ((bs p).extract 0 k).size = k := by rw [e1, bs_size, h2, List.length_take]; omega
  have zx2 : ((bs p).extract (k + 1) p.length).size = p.length - (k + 1) := by rw [e2, bs_size, h3, List.length_drop]
  obtain ⟨pl, hpl⟩ : ∃ k, p.length = k := ⟨_, rfl⟩
  rw [hpl] at zp HE zx2 h4 hp
  have g1 : 0 ≤ (k : Int) := by omega
  have g2 : (k : Int) < (pl : Int) := by omega
  have g3 : ¬ (k : Int) < 0 := by omega
  clear e1 e2 h1 h2 h3 hpl hix c0
  generalize bs p = sp at *
  have zx3 : (sp.extract 0 k ++ bs st).size = k + st.length := by rw [ByteArray.size_append, zx1, zs]
  have zx4 : pl - (k + 1) ≤ 1000000 := by omega
  go_enter Tryz.func77, Tryz.ntmps77
  go_wp2_with fail
  refine HAT.out.mono ?_
  rintro e w' ⟨rfl, rfl⟩
  go_wp2_with fail
  go_region
  go_wp2
  go_ret
  rw [HE.out]
  exact ⟨rfl, (Below.refl _ _).drew⟩
/-- whether a file is there, or known -/
def thereK (S : St) (cwd : T) (M : List Rl) (s : ByteArray) : Bool := !decide (nodeK S cwd s = 0) || knownR M s
set_option maxRecDepth 100000 in
set_option maxHeartbeats 1000000 in
theorem rthere_any (mac : Value) (A : Option Addr) (c : Nat) (M : List Rl) (g : Nat) (S : St) (cwd : T) (s : ByteArray) (w : World) (hA : RLS w A M) (hml : M.length ≤ 1000) (hz : TgZ M) (h : Hs (RS g S) w) (hl : S.m.length ≤ 1000000) (h1 : cwd.length ≤ 6600000) (h2 : s.size ≤ 6600000) :
    Calls Tryz.prog 78 #[.agg #[mac, .slice A M.length c], .pointer (some ⟨g, 0, none⟩), .string (bs cwd), .string s] w fun e w' => e = .returned (.bool (thereK S cwd M s)) ∧ Below w.heap.size w w' := by
  have HK := hide (fun W (hb : Below w.heap.size w W) => rkind18_any g S cwd s W (h.below (RS.fr g S) hb) hl h1 h2)
  have HN := hide (fun W (hb : Below w.heap.size w W) => rknown_any mac A c M s W (hA.below hb) hml hz)
  have hR : thereK S cwd M s = (!decide (nodeK S cwd s = 0) || knownR M s) := rfl
  obtain ⟨kk, hkk⟩ : ∃ k, nodeK S cwd s = k := ⟨_, rfl⟩
  obtain ⟨kn, hkn⟩ : ∃ k, knownR M s = k := ⟨_, rfl⟩
  obtain ⟨n, hn⟩ : ∃ n, M.length = n := ⟨_, rfl⟩
  rw [hkk, hkn] at hR
  rw [hkk] at HK
  obtain ⟨ki, hki⟩ : ∃ i : Int, (kk : Int) = i := ⟨_, rfl⟩
  rw [hki] at HK
  rw [hkn] at HN
  rw [hn] at HN ⊢
  have HR := hide hR
  have HB0 := hide ((Below.refl w.heap.size w).alloc (Nat.le_refl _) (.cells #[mac, .slice A n c] 25))
  have HNB := hide (heapNew w (.cells #[mac, .slice A n c] 25))
  clear hA hml hz h hl h1 h2 hR hkk hkn hn
  go_enter Tryz.func78, Tryz.ntmps78
  go_wp2_with fail
  refine (HK.out _ HB0.out).mono ?_
  rintro e w1 ⟨rfl, hb⟩
  have hk1 := hb.block w.heap.size (by simp)
  have hd0 := cellOf' (hk1.trans HNB.out) (j := 0) rfl
  have hd1 := cellOf' (hk1.trans HNB.out) (j := 1) rfl
  have HB1 := hide (below_up HB0.out hb HB0.out.size)
  clear hb hk1
  by_cases k0 : kk = 0
  · have t1 : (ki == 0) = true := by simp only [beq_iff_eq]; omega
    have t2 : (ki != 0) = false := by simp [bne, t1]
    have t3 : ki = 0 := by omega
    have HE := hide (show thereK S cwd M s = kn by rw [HR.out, k0]; rfl)
    go_wp2_with fail
    refine (HN.out _ HB1.out).mono ?_
    rintro e w2 ⟨rfl, hb⟩
    have HB2 := hide (below_up HB1.out hb HB1.out.size)
    clear hb
    go_wp2
    go_ret
    rw [HE.out]
    exact ⟨rfl, HB2.out⟩
  · have HE := hide (show thereK S cwd M s = true by rw [HR.out, decide_eq_false k0]; rfl)
    have t1 : (ki == 0) = false := by simp only [beq_eq_false_iff_ne]; omega
    have t2 : (ki != 0) = true := by simp [bne, t1]
    clear k0
    go_wp2
    go_ret
    rw [HE.out]
    exact ⟨rfl, HB1.out⟩
end Go.Proofs.YtaajofojbhdgaaaGreatDoor
/- Walks of the reference's two, fits and suffix. -/
namespace Go.Proofs.YtaajofojbhdgaaaGreatDoor
open Go.RowKit Go.Deep Go.Maps Ln Pth Vf
set_option linter.unusedSimpArgs false
set_option linter.unusedVariables false
attribute [local go_sem] bt_eq

set_option maxRecDepth 100000 in
set_option maxHeartbeats 2000000 in
theorem rtwo_any (t : T) (A : Option Addr) (c : Nat) (l : List ByteArray) (w : World) (hA : SR w A l) (hl : l.length ≤ 100000) (hz : ∀ s ∈ l, s.size ≤ 100000) :
    Calls Tryz.prog 79 #[.string (bs t), .slice A l.length c] w (TwoPost (twoF t l) w) := by
  have HA := hide hA
  have HZ := hide hz
  obtain ⟨n, hn⟩ : ∃ n, l.length = n := ⟨_, rfl⟩
  have HN := hide hn
  have HH := hide (fun Z (h : Drew w Z) => rhas_any A c l (bs t) Z (hA.drew h) (by omega))
  have HS := hide (fun k a (h : l[k]? = some a) => two_step (all := l) (t := t) l k a h)
  obtain ⟨R, hR⟩ : ∃ R, twoF t l = R := ⟨_, rfl⟩
  have HR := hide (show twoGo l t (l.drop 0) = R by rw [List.drop_zero]; exact hR)
  have HF := hide (show twoGo l t (l.drop n) = (t, [], Lib.containsS l (bs t)) by rw [List.drop_of_length_le (by omega)]; rfl)
  rw [hR, hn]
  rw [hn] at HH
  have hn1 : (n : Int) ≤ 100000 := by omega
  clear hA hz hn hl hR
  go_enter Tryz.func79, Tryz.ntmps79
  go_wp2
  go_loopw [7, 8] (fun v7 _ wr => ∃ i : Nat, v7 = .int .i64 i ∧ i ≤ n ∧ Hid (twoGo l t (l.drop i) = R) ∧ Drew w wr) (fun v7 _ _ => n - (intOf v7).toNat)
  case atStart => exact ⟨0, rfl, by omega, HR, Drew.refl _⟩
  case round =>
    obtain ⟨wo, hwo⟩ : ∃ Z, Z = wr := ⟨_, rfl⟩
    subst hwo
    obtain ⟨i, rfl, hi, HG, hdr⟩ := hrel
    have HD := hide hdr
    clear hdr
    by_cases hli : i < n
    case neg =>
      obtain rfl : i = n := by omega
      have hg := HG.out
      rw [HF.out] at hg
      have HE := hide hg
      have HHX := hide (HH.out wo HD.out)
      obtain ⟨b, hb⟩ : ∃ b, Lib.containsS l (bs t) = b := ⟨_, rfl⟩
      rw [hb] at HHX HE
      clear hg hb
      go_wp2_with fail
      refine HHX.out.mono ?_
      rintro e w' ⟨rfl, rfl⟩
      go_wp2
      go_ret3
      unfold TwoPost
      rw [← HE.out]
      exact ⟨rfl, HD.out.below⟩
    obtain ⟨x, hx⟩ : ∃ x, l[i]? = some x := ⟨l[i]'(by have := HN.out; omega), List.getElem?_eq_getElem _⟩
    have hxz := HZ.out x (List.mem_of_getElem? hx)
    have hst := HS.out i x hx
    rw [HG.out] at hst
    have HST := hide hst
    have HX := hide hx
    have bi : (i : Int) < (n : Int) := by omega
    clear hst hx
    go_wp2
    go_loopw [8] (fun v8 wr => ∃ k : Nat, v8 = .int .i64 k ∧ k ≤ n ∧ Hid (∀ j b, j < k → l[j]? = some b → x ++ b ≠ bs t) ∧ Drew w wr) (fun v8 _ => n - (intOf v8).toNat)
    case atStart => exact ⟨0, rfl, by omega, fun j b hj => by omega, HD.out⟩
    case round =>
      obtain ⟨k, rfl, hk, HNO, hdr⟩ := hrel
      have HD2 := hide hdr
      clear hdr
      by_cases hlk : k < n
      · obtain ⟨y, hy⟩ : ∃ y, l[k]? = some y := ⟨l[k]'(by have := HN.out; omega), List.getElem?_eq_getElem _⟩
        have hyz := HZ.out y (List.mem_of_getElem? hy)
        obtain ⟨g, o, ea, hg, hc⟩ := (HA.out.drew HD2.out) i x HX.out
        obtain ⟨g', o', ea', hg', hc'⟩ := (HA.out.drew HD2.out) k y hy
        subst ea
        obtain ⟨rfl, rfl, _⟩ : g = g' ∧ o = o' ∧ True := by injection ea' with ea'; injection ea' with e1 e2; exact ⟨e1, e2, trivial⟩
        have bk : (k : Int) < (n : Int) := by omega
        have HY := hide hy
        have zxy : (x ++ y).size = x.size + y.size := ByteArray.size_append
        clear hy ea'
        by_cases he : x ++ y = bs t
        · have heq : ((x ++ y).toList == (bs t).toList) = true := by simp [he]
          have hh := two_hit (all := l) (List.mem_of_getElem? HY.out) he
          have HE := hide (show R = (x.data.toList, t.drop x.size, true) by rw [HST.out, if_pos hh.1])
          have HE2 := hide hh.2
          clear hh he
          go_wp2
          go_quiet (fail)
          go_wp2
          go_quiet (fail)
          go_wp2
          go_ret3
          unfold TwoPost
          rw [HE.out]
          refine ⟨?_, ((HD2.out.more _).more _).below⟩
          show Ending.returned (.tuple #[.string x, .string y, .bool true]) = Ending.returned (.tuple #[.string (bs x.data.toList), .string (bs (t.drop x.size)), .bool true])
          rw [bs_of, HE2.out]
        · have heq : ((x ++ y).toList == (bs t).toList) = false := txt_ne he
          have HNO2 := hide (show ∀ j b, j < k + 1 → l[j]? = some b → x ++ b ≠ bs t from fun j b hj hb => by
            by_cases e : j = k
            · subst e
              have h1 := HY.out
              rw [h1] at hb
              injection hb with hb
              rw [← hb]
              exact he
            · exact HNO.out j b (by omega) hb)
          clear he
          go_wp2
          go_quiet (fail)
          go_wp2
          go_roundw
          case rel => exact ⟨k + 1, by go_num, by omega, HNO2, HD2.out.more _⟩
          case measure => simp [intOf]; omega
      · obtain rfl : k = n := by omega
        have HST2 := hide (show twoGo l t (l.drop (i + 1)) = R by
          rw [HST.out, if_neg]
          rw [two_miss (fun b hb => ?_)]
          · simp
          · obtain ⟨j, hj⟩ := List.getElem?_of_mem hb
            exact HNO.out j b (by have := (List.getElem?_eq_some_iff.1 hj).1; have := HN.out; omega) hj)
        go_wp2
        go_roundw
        case rel => exact ⟨i + 1, by go_num, by omega, HST2, HD2.out⟩
        case measure => simp [intOf]; omega
theorem nodeK_bs (S : St) (cwd p : T) : nodeK S cwd (bs p) = kindT S cwd p := by
  unfold nodeK kindT
  rw [bs_list]
theorem thereK_lack (S : St) (cwd : T) (M : List Rl) (s : ByteArray) : thereK S cwd M s = !lackF S cwd (knownsF M) s := by
  unfold thereK lackF
  rw [known_eq]
  have : nodeK S cwd s = kindT S cwd s.data.toList := rfl
  rw [this]
  cases knownR M s <;> simp
/-- what the reference's plan asks of a makefile and a file system -/
structure RpOk (mac : Value) (A : Option Addr) (c : Nat) (M : List Rl) (g : Nat) (S : St) (cwd : T) (w : World) : Prop where
  rl : RLS w A M
  ml : M.length ≤ 1000
  tz : ∀ r ∈ M, ∀ x ∈ r.tg.2.2, x.size ≤ 10000
  nz : ∀ r ∈ M, ∀ x ∈ r.nd.2.2, x.size ≤ 10000
  rs : Hs (RS g S) w
  sl : S.m.length ≤ 1000000
  cw : cwd.length ≤ 100000
theorem RpOk.below {mac : Value} {A : Option Addr} {c : Nat} {M : List Rl} {g : Nat} {S : St} {cwd : T} {w w' : World} (h : RpOk mac A c M g S cwd w) (hb : Below w.heap.size w w') : RpOk mac A c M g S cwd w' :=
  ⟨h.rl.below hb, h.ml, h.tz, h.nz, h.rs.below (RS.fr g S) hb, h.sl, h.cw⟩
theorem RpOk.tgz {mac : Value} {A : Option Addr} {c : Nat} {M : List Rl} {g : Nat} {S : St} {cwd : T} {w : World} (h : RpOk mac A c M g S cwd w) : TgZ M := fun r hr s hs => Nat.le_trans (h.tz r hr s hs) (by omega)
/-- what fits tells -/
def FtPost (q : Option (List ByteArray × T)) (w : World) (e : Ending) (w' : World) : Prop := Below w.heap.size w w' ∧
  ∃ (A : Option Addr) (c n : Nat) (st : ByteArray), e = .returned (.tuple #[.slice A n c, .string st, .bool q.isSome]) ∧ ∀ x, q = some x → st = bs x.2 ∧ n = x.1.length ∧ SR w' A x.1
set_option maxRecDepth 100000 in
set_option maxHeartbeats 4000000 in
theorem rfits_any (mac : Value) (A : Option Addr) (c : Nat) (M : List Rl) (g : Nat) (S : St) (cwd target : T) (r : Rl) (w : World) (hok : RpOk mac A c M g S cwd w) (hr : RlOk w r) (hm : r ∈ M) (ht : target.length ≤ 6000000) :
    Calls Tryz.prog 38 #[.agg #[mac, .slice A M.length c], .pointer (some ⟨g, 0, none⟩), .string (bs cwd), .string (bs target), .agg #[sv r.tg, sv r.nd, sv r.rc]] w (FtPost (fitsO S cwd (knownsF M) target r) w) := by
  have hzt := hok.tz r hm
  have hzn := hok.nz r hm
  clear hm
  obtain ⟨⟨tA, tc, tL⟩, ⟨nA, nc, nL⟩, ⟨rA, rc, rL⟩⟩ := r
  have HT := hide (fun W (hb : Below w.heap.size w W) => hr.tg.below hb)
  have HND := hide (fun W (hb : Below w.heap.size w W) => hr.nd.below hb)
  have HTZ := hide hzt
  have HNZ := hide hzn
  have HOK := hide hok
  have ht1 := hr.t1
  have hn1 := hr.n1
  have hR : fitsO S cwd (knownsF M) target ⟨(tA, tc, tL), (nA, nc, nL), (rA, rc, rL)⟩ = match firstF target tL with
    | none => none
    | some st => if thereF S cwd (knownsF M) (fillsL nL st) = true then some (fillsL nL st, st) else none := rfl
  obtain ⟨R, hRR⟩ : ∃ R, fitsO S cwd (knownsF M) target ⟨(tA, tc, tL), (nA, nc, nL), (rA, rc, rL)⟩ = R := ⟨_, rfl⟩
  rw [hRR] at hR ⊢
  have HR := hide hR
  obtain ⟨ml, hml⟩ : ∃ n, M.length = n := ⟨_, rfl⟩
  obtain ⟨n, hn⟩ : ∃ n, tL.length = n := ⟨_, rfl⟩
  obtain ⟨m, hm⟩ : ∃ n, nL.length = n := ⟨_, rfl⟩
  have HML := hide hml
  have HNN := hide hn
  have HMM := hide hm
  simp only [sv]
  dsimp only at ht1 hn1
  rw [hn] at ht1
  rw [hm] at hn1
  simp only [hn, hm, hml]
  obtain ⟨q, hq⟩ : ∃ n, rL.length = n := ⟨_, rfl⟩
  rw [hq]
  have hB1 := (Below.refl w.heap.size w).alloc (Nat.le_refl _) (.cells #[mac, .slice A ml c] 25)
  have hN1 := heapNew w (.cells #[mac, .slice A ml c] 25)
  obtain ⟨W1, hW1⟩ : ∃ W, w.alloc (.cells #[mac, .slice A ml c] 25) = W := ⟨_, rfl⟩
  have hs1 : W1.heap.size = w.heap.size + 1 := by rw [← hW1]; simp
  rw [hW1] at hB1 hN1
  have hB2 := hB1.alloc (by omega) (.cells #[.slice tA n tc, .slice nA m nc, .slice rA q rc] 63)
  have hN2 := heapNew W1 (.cells #[.slice tA n tc, .slice nA m nc, .slice rA q rc] 63)
  have hN1' : (W1.alloc (.cells #[.slice tA n tc, .slice nA m nc, .slice rA q rc] 63)).heap[w.heap.size]? = some (.cells #[mac, .slice A ml c] 25) := (Below.heap_alloc _ _ _ (by omega)).trans hN1
  have HBX := hide hB2
  have HN1 := hide hN1'
  have HN2 := hide hN2
  clear hok hr hzt hzn hR hRR hml hn hm hq hB1 hB2 hN1 hN2 hN1'
  have hni : (n : Int) ≤ 100000 := by omega
  have hmi : (m : Int) ≤ 100000 := by omega
  go_enter Tryz.func38, Tryz.ntmps38
  go_wp2
  rw [hs1] at HN2
  obtain ⟨gr, hgr⟩ : ∃ k, w.heap.size + 1 = k := ⟨_, rfl⟩
  rw [hgr] at HN2 ⊢
  clear hgr hs1
  obtain ⟨W, hW⟩ : ∃ W, W1.alloc (.cells #[.slice tA n tc, .slice nA m nc, .slice rA q rc] 63) = W := ⟨_, rfl⟩
  rw [hW] at HBX HN1 HN2 ⊢
  clear hW hW1
  go_loopw [13, 14, 15, 16, 17, 18, 19] (fun v13 _ _ _ _ _ _ wr => ∃ k : Nat, v13 = .int .i64 k ∧ k ≤ n ∧ Hid (firstF target (tL.take k) = none) ∧ Below W.heap.size W wr) (fun v13 _ _ _ _ _ _ _ => n - (intOf v13).toNat)
  case atStart => exact ⟨0, rfl, by omega, hide rfl, Below.refl _ _⟩
  case round =>
    obtain ⟨k, rfl, hk, HFN, hb⟩ := hrel
    generalize wr = W2 at *
    have HBL := hide hb
    have HBW := hide (below_up HBX.out hb HBX.out.size)
    have HTR := hide (HT.out W2 HBW.out)
    have hnb := (hb.block gr (Array.getElem?_eq_some_iff.1 HN2.out).1).trans HN2.out
    have hnm := (hb.block w.heap.size (Array.getElem?_eq_some_iff.1 HN1.out).1).trans HN1.out
    have HNB := hide hnb
    have HNM := hide hnm
    have hd0 := cellOf' hnb (j := 0) rfl
    have hd1 := cellOf' hnb (j := 1) rfl
    clear hb hnb hnm
    by_cases hlt : k < n
    · obtain ⟨x, hx⟩ : ∃ x, tL[k]? = some x := ⟨tL[k]'(by have := HNN.out; omega), List.getElem?_eq_getElem _⟩
      obtain ⟨gs, o, rfl, hgs, hc⟩ := HTR.out k x hx
      have hxs := HTZ.out x (List.mem_of_getElem? hx)
      (try dsimp only at hxs)
      have HMA := hide (rstem_any x.data.toList target W2 (by rw [data_len]; omega) (by omega))
      rw [bs_of] at HMA
      have HX := hide hx
      have b1 : (k : Int) < (n : Int) := by omega
      obtain ⟨st, hst⟩ : ∃ s, (matchT x.data.toList target).1 = s := ⟨_, rfl⟩
      obtain ⟨ok, hok⟩ : ∃ s, (matchT x.data.toList target).2 = s := ⟨_, rfl⟩
      have hsl := matchT_len x.data.toList target
      rw [hst] at hsl HMA
      rw [hok] at HMA
      have HOO := hide hok
      have HSS := hide hst
      clear hx hok hst hxs
      cases ok with
      | false =>
        have HST := hide (first_take _ k x HFN.out HX.out HOO.out)
        go_wp2_with fail
        refine HMA.out.mono ?_
        rintro e w' ⟨rfl, rfl⟩
        go_wp2
        go_roundw
        case rel => exact ⟨k + 1, by go_num, by omega, HST, HBL.out⟩
        case measure => simp [intOf]; omega
      | true =>
        have HFO := hide (first_found _ k x HFN.out HX.out HOO.out)
        rw [HSS.out] at HFO
        go_wp2_with fail
        refine HMA.out.mono ?_
        rintro e w' ⟨rfl, rfl⟩
        go_wp2
        go_loopw [16, 17, 18, 19] (fun v16 v17 _ _ wr => ∃ j : Nat, v17 = .int .i64 j ∧ j ≤ m ∧ OwnS wr W2.heap.size v16 ((fillsL nL st).take j) ∧ Hid (((fillsL nL st).take j).any (lackF S cwd (knownsF M)) = false) ∧ Below W2.heap.size W2 wr) (fun _ v17 _ _ _ => m - (intOf v17).toNat)
        case atStart => exact ⟨0, rfl, by omega, OwnS.nil _ _, hide (by simp), Below.refl _ _⟩
        case round =>
          obtain ⟨wi, hwi⟩ : ∃ Z, Z = wr := ⟨_, rfl⟩
          subst hwi
          obtain ⟨j, rfl, hj, ho, HLK, hb3⟩ := hrel
          have HO := hide ho
          have HB3 := hide hb3
          have HB3W := hide (below_up HBW.out hb3 HBW.out.size)
          have HNR := hide (HND.out wi HB3W.out)
          have hgl := (Array.getElem?_eq_some_iff.1 HNB.out).1
          have hgm := (Array.getElem?_eq_some_iff.1 HNM.out).1
          have hnb3 := (hb3.block gr hgl).trans HNB.out
          have hnm3 := (hb3.block w.heap.size hgm).trans HNM.out
          have hd1 := cellOf' hnb3 (j := 1) rfl
          have hmm0 := cellOf' hnm3 (j := 0) rfl
          have hmm1 := cellOf' hnm3 (j := 1) rfl
          have HM3 := hide hnm3
          have hgm3 := (Array.getElem?_eq_some_iff.1 hnm3).1
          clear ho hb3 hnb3 hnm3 hgl hgm
          by_cases hlt2 : j < m
          · obtain ⟨y, hy⟩ : ∃ y, nL[j]? = some y := ⟨nL[j]'(by have := HMM.out; omega), List.getElem?_eq_getElem _⟩
            obtain ⟨gs2, o2, rfl, hgs2, hcy⟩ := HNR.out j y hy
            have hys := HNZ.out y (List.mem_of_getElem? hy)
            (try dsimp only at hys)
            have hfl := fillT_len y.data.toList st
            rw [data_len] at hfl
            have HFI := hide (rfill_any y.data.toList st wi (by rw [data_len]; omega) (by omega))
            rw [bs_of] at HFI
            have HTK := hide (fills_take (st := st) hy)
            have hfs : (bs (fillT y.data.toList st)).size ≤ 6600000 := by rw [bs_size]; omega
            obtain ⟨z, hz⟩ : ∃ z, bs (fillT y.data.toList st) = z := ⟨_, rfl⟩
            rw [hz] at HFI HTK hfs
            have hmem : z ∈ fillsL nL st := by unfold fillsL; exact List.mem_map.2 ⟨y, List.mem_of_getElem? hy, hz⟩
            have HTH := hide (fun Z (hb : Below w.heap.size w Z) => rthere_any mac A c M g S cwd z Z (HOK.out.rl.below hb) HOK.out.ml HOK.out.tgz (HOK.out.rs.below (RS.fr g S) hb) HOK.out.sl (by have := HOK.out.cw; omega) hfs)
            rw [HML.out] at HTH
            have hth := thereK_lack S cwd M z
            obtain ⟨tb, htb⟩ : ∃ q, lackF S cwd (knownsF M) z = q := ⟨_, rfl⟩
            rw [htb] at hth
            rw [hth] at HTH
            have b2 : (j : Int) < (m : Int) := by omega
            have hql : ((fillsL nL st).take j).length ≤ 100000 := by rw [List.length_take]; omega
            have HTB := hide htb
            clear hy hz hys hfl hfs hth htb
            cases tb with
            | true =>
              have HE := hide (show R = none by
                rw [HR.out, HFO.out]
                dsimp only
                rw [if_neg]
                unfold thereF
                rw [List.any_eq_true.2 ⟨z, hmem, HTB.out⟩]
                simp)
              go_wp2_with fail
              refine HFI.out.mono ?_
              rintro e w3 ⟨rfl, hb4⟩
              have hk1 := (hb4.block w.heap.size hgm3).trans HM3.out
              have hmm0 := cellOf' hk1 (j := 0) rfl
              have hmm1 := cellOf' hk1 (j := 1) rfl
              have HB4 := hide (below_up HB3W.out hb4 HB3W.out.size)
              clear hb4 hk1
              go_wp2_with fail
              refine (HTH.out w3 HB4.out).mono ?_
              rintro e w4 ⟨rfl, hb5⟩
              have HB5 := hide (below_up HB4.out hb5 HB4.out.size)
              clear hb5
              go_wp2
              go_ret3
              unfold FtPost
              rw [HE.out]
              exact ⟨HB5.out, none, 0, 0, ⟨#[]⟩, rfl, fun x hx => by cases hx⟩
            | false =>
              have HLK2 := hide (show ((fillsL nL st).take (j + 1)).any (lackF S cwd (knownsF M)) = false by
                rw [HTK.out, List.any_append, HLK.out]
                simp [HTB.out])
              go_wp2_with fail
              refine HFI.out.mono ?_
              rintro e w3 ⟨rfl, hb4⟩
              have hk1 := (hb4.block w.heap.size hgm3).trans HM3.out
              have hmm0 := cellOf' hk1 (j := 0) rfl
              have hmm1 := cellOf' hk1 (j := 1) rfl
              have HB4 := hide (below_up HB3W.out hb4 HB3W.out.size)
              have HB4I := hide (below_up HB3.out hb4 HB3.out.size)
              have HO4 := hide (HO.out.below' hb4)
              clear hb4 hk1
              go_wp2_with fail
              refine (HTH.out w3 HB4.out).mono ?_
              rintro e w4 ⟨rfl, hb5⟩
              have HB5 := hide (below_up HB4I.out hb5 HB4I.out.size)
              have HO5 := hide (HO4.out.below' hb5)
              obtain ⟨v4, w5, r4, o4, g4, b4⟩ := run_appS (c := 1) (OwnS.alloc HO5.out (.cells #[.string z] 9)) (sr_new w4 z) (by have := HB5.out.size; simp; omega) (by simp; omega)
              have HO6 := hide o4
              have HB6 := hide ((HB5.out.alloc HB5.out.size (.cells #[.string z] 9)).trans ((Below.refl W2.heap.size _).grown g4 (by have := HB5.out.size; simp; omega) (fun q hq => (World.ownsRow.lt HO5.out q hq).1)))
              clear o4 g4 b4 hb5
              go_wp2_with (at_builtin; refine wpList_app_run ?_ (.tmp 60) (.tmp 62) ?_ ?_ ?_ ?_ r4 ?_; exact rfl; exact rfl; exact rfl; exact rfl; exact rfl)
              go_roundw
              case rel => exact ⟨j + 1, by go_num, by omega, by rw [HTK.out]; exact HO6.out, HLK2, HB6.out⟩
              case measure => simp [intOf]; omega
          · obtain rfl : j = m := by omega
            have HTF := hide (show (fillsL nL st).take j = fillsL nL st from List.take_of_length_le (by rw [fills_len]; have := HMM.out; omega))
            rw [HTF.out] at HO HLK
            have HE := hide (show R = some (fillsL nL st, st) by
              rw [HR.out, HFO.out]
              dsimp only
              rw [if_pos]
              unfold thereF
              rw [HLK.out]
              rfl)
            obtain ⟨A9, c9, rfl, _, hs9, _⟩ := HO.out.slice
            have HS9 := hide hs9
            clear hs9
            go_wp2
            go_ret3
            unfold FtPost
            rw [HE.out]
            exact ⟨HB3W.out, A9, c9, _, bs st, rfl, fun x hx => by injection hx with hx; subst hx; exact ⟨rfl, rfl, HS9.out⟩⟩
    · obtain rfl : k = n := by omega
      have HE := hide (show R = none by
        have := HFN.out
        rw [List.take_of_length_le (by have := HNN.out; omega)] at this
        rw [HR.out, this])
      go_wp2
      go_ret3
      unfold FtPost
      rw [HE.out]
      exact ⟨HBW.out, none, 0, 0, ⟨#[]⟩, rfl, fun x hx => by cases hx⟩
end Go.Proofs.YtaajofojbhdgaaaGreatDoor
/- Walk of the reference's suffix. -/
namespace Go.Proofs.YtaajofojbhdgaaaGreatDoor
open Go.RowKit Go.Deep Go.Maps Ln Pth Vf
set_option linter.unusedSimpArgs false
set_option linter.unusedVariables false
attribute [local go_sem] bt_eq

/-- what suffix tells -/
def SuPost (q : Option (T × T)) (w : World) (e : Ending) (w' : World) : Prop := Below w.heap.size w w' ∧
  ∃ a b : ByteArray, e = .returned (.tuple #[.string a, .string b, .bool q.isSome]) ∧ ∀ x, q = some x → a = bs x.1 ∧ b = bs x.2
theorem SuPost.none {w w' : World} {e : Ending} {a b : ByteArray} {q : Option (T × T)} (hq : q = Option.none) (he : e = .returned (.tuple #[.string a, .string b, .bool false])) (hb : Below w.heap.size w w') : SuPost q w e w' := by
  subst hq
  exact ⟨hb, a, b, he, fun x hx => by cases hx⟩
set_option maxRecDepth 100000 in
set_option maxHeartbeats 8000000 in
theorem rsuffix_any (mac : Value) (A : Option Addr) (c : Nat) (M : List Rl) (g : Nat) (S : St) (cwd target : T) (r : Rl) (lA : Option Addr) (lc : Nat) (l : List ByteArray) (w : World) (hok : RpOk mac A c M g S cwd w) (hr : RlOk w r) (hm : r ∈ M) (ht : target.length ≤ 6000000)
    (hL : SR w lA l) (hll : l.length ≤ 100000) (hlz : ∀ s ∈ l, s.size ≤ 10000) :
    Calls Tryz.prog 41 #[.agg #[mac, .slice A M.length c], .pointer (some ⟨g, 0, none⟩), .string (bs cwd), .string (bs target), .agg #[sv r.tg, sv r.nd, sv r.rc], .slice lA l.length lc] w (SuPost (sufF S cwd (knownsF M) target l r) w) := by
  have hzt := hok.tz r hm
  clear hm
  obtain ⟨⟨tA, tc, tL⟩, ⟨nA, nc, nL⟩, ⟨rA, rc, rL⟩⟩ := r
  have HT := hide (fun W (hb : Below w.heap.size w W) => hr.tg.below hb)
  have HTZ := hide hzt
  have HOK := hide hok
  have HLZ := hide hlz
  have HTW := hide (fun (t : T) (h : t.length ≤ 10000) W (hb : Below w.heap.size w W) => rtwo_any t lA lc l W (hL.below hb) hll (fun s hs => Nat.le_trans (hlz s hs) (by omega)))
  have ht1 := hr.t1
  have hn1 := hr.n1
  have hr1 := hr.r1
  have hR : sufF S cwd (knownsF M) target l ⟨(tA, tc, tL), (nA, nc, nL), (rA, rc, rL)⟩ = if rL.length = 0 ∨ 0 < nL.length then none else
    match tL with
    | [t] => if specT t.data.toList = true ∨ Lib.hasPrefix t.data.toList [46] = false ∨ isP t = true then none else sufQ S cwd (knownsF M) target (twoF t.data.toList l)
    | _ => none := rfl
  obtain ⟨R, hRR⟩ : ∃ R, sufF S cwd (knownsF M) target l ⟨(tA, tc, tL), (nA, nc, nL), (rA, rc, rL)⟩ = R := ⟨_, rfl⟩
  rw [hRR] at hR ⊢
  have HR := hide hR
  obtain ⟨ml, hml⟩ : ∃ n, M.length = n := ⟨_, rfl⟩
  obtain ⟨n, hn⟩ : ∃ n, tL.length = n := ⟨_, rfl⟩
  obtain ⟨m, hm⟩ : ∃ n, nL.length = n := ⟨_, rfl⟩
  obtain ⟨q, hq⟩ : ∃ n, rL.length = n := ⟨_, rfl⟩
  obtain ⟨ll, hl⟩ : ∃ n, l.length = n := ⟨_, rfl⟩
  have HML := hide hml
  have HNN := hide hn
  have HMM := hide hm
  have HQQ := hide hq
  simp only [sv]
  dsimp only at ht1 hn1 hr1
  rw [hl] at HTW
  rw [hn] at ht1
  rw [hm] at hn1
  rw [hq] at hr1
  simp only [hn, hm, hml, hq, hl]
  have hB1 := (Below.refl w.heap.size w).alloc (Nat.le_refl _) (.cells #[mac, .slice A ml c] 25)
  have hN1 := heapNew w (.cells #[mac, .slice A ml c] 25)
  obtain ⟨W1, hW1⟩ : ∃ W, w.alloc (.cells #[mac, .slice A ml c] 25) = W := ⟨_, rfl⟩
  have hs1 : W1.heap.size = w.heap.size + 1 := by rw [← hW1]; simp
  rw [hW1] at hB1 hN1
  have hB2 := hB1.alloc (by omega) (.cells #[.slice tA n tc, .slice nA m nc, .slice rA q rc] 63)
  have hN2 := heapNew W1 (.cells #[.slice tA n tc, .slice nA m nc, .slice rA q rc] 63)
  have hN1' : (W1.alloc (.cells #[.slice tA n tc, .slice nA m nc, .slice rA q rc] 63)).heap[w.heap.size]? = some (.cells #[mac, .slice A ml c] 25) := (Below.heap_alloc _ _ _ (by omega)).trans hN1
  rw [hs1] at hN2
  have HBX := hide hB2
  have HN1 := hide hN1'
  have HN2 := hide hN2
  clear hok hr hzt hR hRR hml hn hm hq hB1 hB2 hN1 hN2 hN1' hL hll hlz hl
  have hni : (n : Int) ≤ 100000 := by omega
  have hmi : (m : Int) ≤ 100000 := by omega
  have hqi : (q : Int) ≤ 100000 := by omega
  obtain ⟨gr, hgr⟩ : ∃ k, w.heap.size + 1 = k := ⟨_, rfl⟩
  rw [hgr] at HN2
  obtain ⟨W, hW⟩ : ∃ W, W1.alloc (.cells #[.slice tA n tc, .slice nA m nc, .slice rA q rc] 63) = W := ⟨_, rfl⟩
  rw [hW] at HBX HN1 HN2
  have d0 := cellOf' HN2.out (j := 0) rfl
  have d1 := cellOf' HN2.out (j := 1) rfl
  have d2 := cellOf' HN2.out (j := 2) rfl
  go_enter Tryz.func41, Tryz.ntmps41
  by_cases c1 : q = 0
  · have t1 : ((q : Int) == 0) = true := by simp only [beq_iff_eq]; omega
    have HE := hide (HR.out.trans (if_pos (Or.inl (HQQ.out.trans c1))))
    clear c1
    go_wp2
    go_ret3
    exact SuPost.none HE.out rfl HBX.out
  have t1 : ((q : Int) == 0) = false := by simp only [beq_eq_false_iff_ne]; omega
  by_cases c2 : 0 < m
  · have t2 : decide ((0 : Int) < (m : Int)) = true := by simp; omega
    have t2' : decide (0 < m) = true := by simpa using c2
    have HE := hide (HR.out.trans (if_pos (Or.inr (by rw [HMM.out]; exact c2))))
    clear c2
    go_wp2
    go_ret3
    exact SuPost.none HE.out rfl HBX.out
  have t2 : decide ((0 : Int) < (m : Int)) = false := by simp; omega
  have t2' : decide (0 < m) = false := by simpa using c2
  have hr2 := HR.out.trans (if_neg (show ¬ (rL.length = 0 ∨ 0 < nL.length) by rw [HQQ.out, HMM.out]; rintro (h | h); exact c1 h; exact c2 h))
  by_cases c3 : n = 1
  case neg =>
    have t3 : ((n : Int) == 1) = false := by simp only [beq_eq_false_iff_ne]; omega
    have t3' : ((n : Int) != 1) = true := by simp [bne, t3]
    have HE := hide (show R = none by
      rw [hr2]
      match tL, HNN.out with
      | [], _ => rfl
      | [t], h => exact absurd h.symm c3
      | t :: u :: tl, _ => rfl)
    clear c1 c2 c3 hr2
    go_wp2
    go_ret3
    exact SuPost.none HE.out rfl HBX.out
  have t3 : ((n : Int) == 1) = true := by simp only [beq_iff_eq]; omega
  have t3' : ((n : Int) != 1) = false := by simp [bne, t3]
  have hpos : 0 < n := by omega
  have hposi : (0 : Int) < (n : Int) := by omega
  obtain ⟨t, rfl⟩ : ∃ t, tL = [t] := by
    match tL, HNN.out with
    | [], h => simp at h; omega
    | [t], _ => exact ⟨t, rfl⟩
    | t :: u :: tl, h => simp at h; omega
  obtain ⟨gs, o, rfl, hgs, hc⟩ := HT.out W HBX.out 0 t rfl
  rw [Nat.add_zero] at hc
  have htz := HTZ.out t (by simp)
  have HSP := hide (rspec18_any t.data.toList W (by rw [data_len]; omega))
  have HBG := hide (rbegins_any t ⟨#[46]⟩ W)
  have HAT := hide (rat0_any t.data.toList 37 W (by rw [data_len]; omega))
  rw [show (((37 : UInt8).toNat : Nat) : Int) = 37 from rfl] at HAT
  rw [bs_of] at HSP HAT
  have hip := isP_ix t
  obtain ⟨sp, hsp⟩ : ∃ b, specT t.data.toList = b := ⟨_, rfl⟩
  obtain ⟨pf, hpf⟩ : ∃ b, Lib.hasPrefix t.data.toList [46] = b := ⟨_, rfl⟩
  obtain ⟨ix, hix⟩ : ∃ b, Lib.indexByte t.data.toList 37 = b := ⟨_, rfl⟩
  rw [hsp] at HSP
  rw [show (⟨#[46]⟩ : ByteArray).data.toList = [46] from rfl, hpf] at HBG
  rw [hix] at HAT hip
  have hr3 : R = if sp = true ∨ pf = false ∨ isP t = true then none else sufQ S cwd (knownsF M) target (twoF t.data.toList l) := by rw [hr2]; dsimp only; rw [hsp, hpf]
  have HR3 := hide hr3
  clear hr2 hr3 hsp hpf hix c1 c2 c3 HR
  cases sp with
  | true =>
    have HE := hide (HR3.out.trans (if_pos (Or.inl rfl)))
    go_wp2_with fail
    refine HSP.out.mono ?_
    rintro e w' ⟨rfl, rfl⟩
    go_wp2
    go_ret3
    exact SuPost.none HE.out rfl HBX.out
  | false =>
  go_wp2_with fail
  refine HSP.out.mono ?_
  rintro e w' ⟨rfl, rfl⟩
  cases pf with
  | false =>
    have HE := hide (HR3.out.trans (if_pos (Or.inr (Or.inl rfl))))
    go_wp2_with fail
    refine HBG.out.mono ?_
    rintro e w' ⟨rfl, rfl⟩
    go_wp2
    go_ret3
    exact SuPost.none HE.out rfl HBX.out
  | true =>
  go_wp2_with fail
  refine HBG.out.mono ?_
  rintro e w' ⟨rfl, rfl⟩
  by_cases c4 : 0 ≤ ix
  · have HE := hide (HR3.out.trans (if_pos (Or.inr (Or.inr (by rw [hip]; exact decide_eq_true c4)))))
    have t4 : decide (ix ≥ 0) = true := by simpa using c4
    have t4' : decide (0 ≤ ix) = true := by simpa using c4
    clear c4 hip
    go_wp2_with fail
    refine HAT.out.mono ?_
    rintro e w' ⟨rfl, rfl⟩
    go_wp2
    go_ret3
    exact SuPost.none HE.out rfl HBX.out
  have t4 : decide (ix ≥ 0) = false := by simpa using c4
  have t4' : decide (0 ≤ ix) = false := by simpa using c4
  have HR4 := hide (HR3.out.trans (if_neg (by rw [hip, decide_eq_false c4]; simp)))
  have HTX := hide (HTW.out t.data.toList (by rw [data_len]; exact htz) W HBX.out)
  have htl := twoGo_len (B := 10000) (all := l) (t := t.data.toList) (by rw [data_len]; exact htz) l HLZ.out
  change (twoF t.data.toList l).1.length ≤ 10000 ∧ (twoF t.data.toList l).2.1.length ≤ 10000 at htl
  rw [bs_of] at HTX
  obtain ⟨⟨fa, fb, fo⟩, hfo⟩ : ∃ q, twoF t.data.toList l = q := ⟨_, rfl⟩
  rw [hfo] at HTX HR4 htl
  obtain ⟨hfa, hfb⟩ := htl
  dsimp only at hfa hfb
  unfold TwoPost at HTX
  dsimp only at HTX
  unfold sufQ at HR4
  dsimp only at HR4
  clear hip c4 hfo HR3
  go_wp2_with fail
  refine HAT.out.mono ?_
  rintro e w' ⟨rfl, rfl⟩
  go_wp2_with fail
  refine HTX.out.mono ?_
  rintro e w3 ⟨rfl, hb3⟩
  have HB3 := hide (below_up HBX.out hb3 HBX.out.size)
  have hgm := (Array.getElem?_eq_some_iff.1 HN1.out).1
  have hn13 := (hb3.block w.heap.size hgm).trans HN1.out
  have HN13 := hide hn13
  clear hb3 hgm hn13 d0 d1 d2 hc
  cases fo with
  | false =>
    have HE := hide (HR4.out.trans (if_pos rfl))
    go_wp2
    go_ret3
    exact SuPost.none HE.out rfl HB3.out
  | true =>
  have hr5 := HR4.out.trans (if_neg (by simp))
  have zt : (bs target).size = target.length := bs_size target
  have zb : (bs fb).size = fb.length := bs_size fb
  have za : (bs fa).size = fa.length := bs_size fa
  have HEN := hide (rends_any target fb w3 (by omega) (by omega))
  obtain ⟨tl, htl⟩ : ∃ k, target.length = k := ⟨_, rfl⟩
  obtain ⟨bl, hbl⟩ : ∃ k, fb.length = k := ⟨_, rfl⟩
  rw [htl] at zt ht
  rw [hbl] at zb hfb
  rw [htl, hbl] at hr5
  by_cases c5 : tl ≤ bl
  · have HE := hide (hr5.trans (if_pos c5))
    have t5 : decide ((tl : Int) ≤ (bl : Int)) = true := by simp; omega
    have t5' : decide (tl ≤ bl) = true := by simpa using c5
    clear c5 hr5
    go_wp2
    go_ret3
    exact SuPost.none HE.out rfl HB3.out
  have t5 : decide ((tl : Int) ≤ (bl : Int)) = false := by simp; omega
  have t5' : decide (tl ≤ bl) = false := by simpa using c5
  have hr6 := hr5.trans (if_neg c5)
  obtain ⟨sf, hsf⟩ : ∃ b, Lib.hasSuffix target fb = b := ⟨_, rfl⟩
  rw [hsf] at HEN hr6
  cases sf with
  | false =>
    have HE := hide (hr6.trans (if_pos rfl))
    clear c5 hr5 hr6 hsf
    go_wp2_with fail
    refine HEN.out.mono ?_
    rintro e w' ⟨rfl, rfl⟩
    go_wp2
    go_ret3
    exact SuPost.none HE.out rfl HB3.out
  | true =>
  have hr7 := hr6.trans (if_neg (by simp))
  have hlt : (target.take (tl - bl)).length = tl - bl := by rw [List.length_take]; omega
  have hex : (bs target).extract 0 (tl - bl) = bs (target.take (tl - bl)) := by rw [ext_bs]; rfl
  obtain ⟨st, hst⟩ : ∃ s, target.take (tl - bl) = s := ⟨_, rfl⟩
  rw [hst] at hr7 hlt hex
  have b4 : bl ≤ tl := by omega
  have b5 : ((tl - bl : Nat) : Int) = (tl : Int) - (bl : Int) := by omega
  have hap := bs_app st fa
  have hzn : (bs (st ++ fa)).size ≤ 6600000 := by rw [bs_size, List.length_append]; omega
  have zst : (bs st).size = tl - bl := by rw [bs_size, hlt]
  have HKI := hide (fun W (hb : Below w.heap.size w W) => rkind18_any g S cwd (bs (st ++ fa)) W (HOK.out.rs.below (RS.fr g S) hb) HOK.out.sl (by have := HOK.out.cw; omega) hzn)
  have HKN := hide (fun W (hb : Below w.heap.size w W) => rknown_any mac A c M (bs (st ++ fa)) W (HOK.out.rl.below hb) HOK.out.ml HOK.out.tgz)
  rw [nodeK_bs] at HKI
  rw [← known_eq, HML.out] at HKN
  obtain ⟨kk, hkk⟩ : ∃ k, kindT S cwd (st ++ fa) = k := ⟨_, rfl⟩
  obtain ⟨kn, hkn⟩ : ∃ k, Lib.containsS (knownsF M) (bs (st ++ fa)) = k := ⟨_, rfl⟩
  rw [hkk] at HKI hr7
  rw [hkn] at HKN hr7
  obtain ⟨ki, hki⟩ : ∃ i : Int, (kk : Int) = i := ⟨_, rfl⟩
  rw [hki] at HKI
  have hne := bs_eqv (st ++ fa) target
  obtain ⟨nd, hnd⟩ : ∃ x, st ++ fa = x := ⟨_, rfl⟩
  rw [hnd] at hr7 hap HKI HKN hne hzn
  have HR7 := hide hr7
  have HLT := hide hlt
  clear c5 hr5 hr6 hsf hr7 hst hlt hkk hkn hnd htl hbl
  have HBI := hide (HKI.out w3 HB3.out)
  by_cases c6 : nd = target
  · have HE := hide (HR7.out.trans (if_pos c6))
    have t6 : ((bs nd).toList == (bs target).toList) = true := by rw [hne]; exact decide_eq_true c6
    clear c6 hne
    go_wp2_with fail
    refine HEN.out.mono ?_
    rintro e w' ⟨rfl, rfl⟩
    go_wp2
    go_ret3
    exact SuPost.none HE.out rfl HB3.out
  have t6 : ((bs nd).toList == (bs target).toList) = false := by rw [hne]; exact decide_eq_false c6
  have hr8 := HR7.out.trans (if_neg c6)
  clear hne
  by_cases c7 : kk = 1
  · have t7 : (ki == 1) = true := by simp only [beq_iff_eq]; omega
    have HE := hide (hr8.trans (if_neg (fun h => h.1 c7)))
    clear c6 c7 hr8
    go_wp2_with fail
    refine HEN.out.mono ?_
    rintro e w' ⟨rfl, rfl⟩
    go_wp2_with fail
    refine HBI.out.mono ?_
    rintro e w4 ⟨rfl, hb4⟩
    have HB4 := hide (below_up HB3.out hb4 HB3.out.size)
    clear hb4
    go_wp2
    go_ret3
    unfold SuPost
    rw [HE.out]
    exact ⟨HB4.out, _, _, rfl, fun x hx => by injection hx with hx; subst hx; exact ⟨rfl, rfl⟩⟩
  have t7 : (ki == 1) = false := by simp only [beq_eq_false_iff_ne]; omega
  cases kn with
  | true =>
    have HE := hide (hr8.trans (if_neg (fun h => by simp at h)))
    clear c6 c7 hr8
    go_wp2_with fail
    refine HEN.out.mono ?_
    rintro e w' ⟨rfl, rfl⟩
    go_wp2_with fail
    refine HBI.out.mono ?_
    rintro e w4 ⟨rfl, hb4⟩
    have hk1 := (hb4.block w.heap.size (Array.getElem?_eq_some_iff.1 HN13.out).1).trans HN13.out
    have hmm0 := cellOf' hk1 (j := 0) rfl
    have hmm1 := cellOf' hk1 (j := 1) rfl
    have HB4 := hide (below_up HB3.out hb4 HB3.out.size)
    clear hb4 hk1
    go_wp2_with fail
    refine (HKN.out w4 HB4.out).mono ?_
    rintro e w5 ⟨rfl, hb5⟩
    have HB5 := hide (below_up HB4.out hb5 HB4.out.size)
    clear hb5
    go_wp2
    go_ret3
    unfold SuPost
    rw [HE.out]
    exact ⟨HB5.out, _, _, rfl, fun x hx => by injection hx with hx; subst hx; exact ⟨rfl, rfl⟩⟩
  | false =>
    have HE := hide (hr8.trans (if_pos ⟨c7, rfl⟩))
    clear c6 c7 hr8
    go_wp2_with fail
    refine HEN.out.mono ?_
    rintro e w' ⟨rfl, rfl⟩
    go_wp2_with fail
    refine HBI.out.mono ?_
    rintro e w4 ⟨rfl, hb4⟩
    have hk1 := (hb4.block w.heap.size (Array.getElem?_eq_some_iff.1 HN13.out).1).trans HN13.out
    have hmm0 := cellOf' hk1 (j := 0) rfl
    have hmm1 := cellOf' hk1 (j := 1) rfl
    have HB4 := hide (below_up HB3.out hb4 HB3.out.size)
    clear hb4 hk1
    go_wp2_with fail
    refine (HKN.out w4 HB4.out).mono ?_
    rintro e w5 ⟨rfl, hb5⟩
    have HB5 := hide (below_up HB4.out hb5 HB4.out.size)
    clear hb5
    go_wp2
    go_ret3
    exact SuPost.none HE.out rfl HB5.out
end Go.Proofs.YtaajofojbhdgaaaGreatDoor
