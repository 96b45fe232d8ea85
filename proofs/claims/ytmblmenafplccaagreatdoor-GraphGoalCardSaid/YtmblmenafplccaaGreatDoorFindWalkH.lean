/- Walk of the finder's suffix. -/
import Derived.Test.YtmblmenafplccaaGreatDoorFindWalkF
import Derived.Test.YtmblmenafplccaaGreatDoorFindWalkG
import Derived.Deep.RegionHeld3
namespace Go.Proofs.YtmblmenafplccaaGreatDoor
open Go.RowKit Go.Deep Go.Maps Ln Pth Vf
attribute [local go_sem] bt_eq

def sufT (S : St) (cwd : Ln.T) (kl : List ByteArray) (target : Ln.T) (R : Ln.T × Ln.T × Bool) (rc : List ByteArray) (p : Pn) : Option Pn :=
  if R.2.2 = false then none else
  if Lib.hasSuffix target R.2.1 = false then none else
  if target.length ≤ R.2.1.length then none else
  if Lib.trimSuffix target R.2.1 ++ R.1 = target then none else
  if kindT S cwd (Lib.trimSuffix target R.2.1 ++ R.1) ≠ 1 ∧ Lib.containsS kl (bs (Lib.trimSuffix target R.2.1 ++ R.1)) = false then none else
  some (takesF p [bs (Lib.trimSuffix target R.2.1 ++ R.1)] rc (Lib.trimSuffix target R.2.1))
theorem sufO_1 {S : St} {cwd target : Ln.T} {kl l : List ByteArray} {r : Rl} {p : Pn} (h : plainR r.tg.2.2 = false) : sufO S cwd kl target l r p = none := by
  unfold sufO; rw [if_pos h]
theorem sufO_2 {S : St} {cwd target : Ln.T} {kl l : List ByteArray} {r : Rl} {p : Pn} (h : 0 < r.nd.2.2.length) : sufO S cwd kl target l r p = none := by
  unfold sufO
  rw [if_pos h]
  exact ite_self _
theorem sufO_3 {S : St} {cwd target : Ln.T} {kl l : List ByteArray} {r : Rl} {p : Pn} (h : r.tg.2.2.length ≠ 1) : sufO S cwd kl target l r p = none := by
  unfold sufO
  split
  · rfl
  · split
    · rfl
    · split
      · rename_i t ht
        rw [ht] at h
        exact absurd rfl h
      · rfl
theorem sufO_4 {S : St} {cwd target : Ln.T} {kl l : List ByteArray} {r : Rl} {p : Pn} {t : ByteArray} (h1 : plainR r.tg.2.2 = true) (h2 : r.nd.2.2 = []) (h3 : r.tg.2.2 = [t]) : sufO S cwd kl target l r p = if specT t.data.toList = true then none else if Lib.hasPrefix t.data.toList [46] = false then none else sufT S cwd kl target (twoF t.data.toList l) r.rc.2.2 p := by
  unfold sufO
  rw [if_neg (by rw [h1]; simp), if_neg (by rw [h2]; simp)]
  simp only [h3]
  rfl
theorem twoGo_len {B : Nat} {all : List ByteArray} {t : Ln.T} (ht : t.length ≤ B) : ∀ l : List ByteArray, (∀ x ∈ l, x.size ≤ B) → (twoGo all t l).1.length ≤ B ∧ (twoGo all t l).2.1.length ≤ B
  | [], _ => by unfold twoGo; exact ⟨ht, Nat.zero_le _⟩
  | a :: l, h => by
    unfold twoGo
    split
    · exact ⟨by rw [data_len]; exact h a (by simp), by rw [List.length_drop]; omega⟩
    · exact twoGo_len ht l (fun x hx => h x (by simp [hx]))
theorem trimSuffix_len (s p : Ln.T) : (Lib.trimSuffix s p).length ≤ s.length := by
  unfold Lib.trimSuffix
  split
  · rw [List.length_take]; omega
  · exact Nat.le_refl _
theorem tsuf_any (s p : Ln.T) (w : World) (hs : s.length ≤ 1000000) : Calls Tryz.prog 98 #[.string (bs s), .string (bs p)] w fun e w' => e = .returned (.string (bs (Lib.trimSuffix s p))) ∧ w = w' := by
  refine (Tryz.strings_TrimSuffix (bs s) (bs p) w (by rw [bs_size]; omega)).mono ?_
  rintro e w' ⟨h1, h2⟩
  rw [bs_list, bs_list] at h1
  exact ⟨h1, h2.symm⟩
set_option linter.unusedSimpArgs false in
set_option maxRecDepth 100000 in
set_option maxHeartbeats 4000000 in
theorem suffix_any (w0 : World) (C : Cf) (g b : Nat) (kl : List ByteArray) (p : Pn) (T : Nat → Prop) (r : Rl) (lA : Option Addr) (lc : Nat) (lL : List ByteArray) (w : World) (hok : CfOk C w) (h : FI w0 C g (some b) kl p T w) (hr : RlOk w0 r) (hz : ∀ x ∈ r.tg.2.2, x.size ≤ 10000) (hL : SR w lA lL) (hls : ∀ s ∈ lL, s.size ≤ 10000) (hll : lL.length ≤ 100000) (hl : p.needs.length ≤ 700000) :
    Calls Tryz.prog 162 #[.pointer (some ⟨g, 0, none⟩), .agg #[sv r.tg, sv r.nd, sv r.rc], .slice lA lL.length lc] w (TryP w0 C g b kl p T (sufO C.S C.cwd kl C.target lL r p) w) := by
  have hb0 := h.below
  have hbs : w0.heap.size ≤ w.heap.size := hb0.size
  have HPL := hide (fun W (hb : Below w.heap.size w W) => plain_any r W ((hr.below hb0).below hb))
  have H1 := hide (fun h => sufO_1 (S := C.S) (cwd := C.cwd) (kl := kl) (target := C.target) (l := lL) (r := r) (p := p) h)
  have H2 := hide (fun h => sufO_2 (S := C.S) (cwd := C.cwd) (kl := kl) (target := C.target) (l := lL) (r := r) (p := p) h)
  have H3 := hide (fun h => sufO_3 (S := C.S) (cwd := C.cwd) (kl := kl) (target := C.target) (l := lL) (r := r) (p := p) h)
  have H4 := hide (fun t h1 h2 h3 => sufO_4 (S := C.S) (cwd := C.cwd) (kl := kl) (target := C.target) (l := lL) (r := r) (p := p) (t := t) h1 h2 h3)
  generalize sufO C.S C.cwd kl C.target lL r p = R at *
  obtain ⟨⟨tA, tc, tL⟩, ⟨nA, nc, nL⟩, ⟨rA, rc, rL⟩⟩ := r
  have HT := hide (fun W (hb : Below w.heap.size w W) => (hr.tg.below hb0).below hb)
  have HC := hide (fun W (hb : Below w.heap.size w W) => (hr.rc.below hb0).below hb)
  have HLL := hide (fun W (hb : Below w.heap.size w W) => hL.below hb)
  have ht1 := hr.t1
  have hn1 := hr.n1
  have hr1 := hr.r1
  have HSZ := hide hz
  have HH := hide h
  have HOK := hide hok
  obtain ⟨A6, c6, A7, c7, hg, _⟩ := h.opn
  have HG := hide hg
  have hgl := (h.tw g h.tg).2
  dsimp only at ht1 hn1 hr1 H1 H2 H3 H4
  simp only [sv] at HPL ⊢
  obtain ⟨n, hn⟩ : ∃ n, tL.length = n := ⟨_, rfl⟩
  obtain ⟨m, hm⟩ : ∃ n, nL.length = n := ⟨_, rfl⟩
  obtain ⟨q, hq⟩ : ∃ n, rL.length = n := ⟨_, rfl⟩
  obtain ⟨ll, hll2⟩ : ∃ n, lL.length = n := ⟨_, rfl⟩
  have HNN := hide hn
  have HMM := hide hm
  have HQQ := hide hq
  have HLN := hide hll2
  have HLS := hide hls
  have HLOW := hide (And.intro hr hbs)
  rw [hn] at ht1 H3
  rw [hm] at hn1 H2
  rw [hq] at hr1
  rw [hll2] at hll
  simp only [hn, hm, hq, hll2] at HPL ⊢
  have HBX := hide ((Below.refl w.heap.size w).alloc (Nat.le_refl _) (.cells #[.slice tA n tc, .slice nA m nc, .slice rA q rc] 30))
  have HNB := hide (heapNew w (.cells #[.slice tA n tc, .slice nA m nc, .slice rA q rc] 30))
  obtain ⟨p1, hp1⟩ : ∃ q, plainR tL = q := ⟨_, rfl⟩
  rw [hp1] at HPL H1
  have HP1 := hide hp1
  clear h hok hr hz hL hls hg hb0 hn hm hq hll2 hp1
  go_enter Tryz.func162, Tryz.ntmps162
  go_wp2_with fail
  obtain ⟨W, hW⟩ : ∃ W, w.alloc (.cells #[.slice tA n tc, .slice nA m nc, .slice rA q rc] 30) = W := ⟨_, rfl⟩
  rw [hW] at HBX HNB ⊢
  clear hW
  refine (HPL.out _ HBX.out).mono ?_
  rintro e w1 ⟨rfl, hb1⟩
  have HB1 := hide (below_up HBX.out hb1 HBX.out.size)
  have hnb := (hb1.block w.heap.size (Array.getElem?_eq_some_iff.1 HNB.out).1).trans HNB.out
  have HN1 := hide hnb
  have hd0 := cellOf' hnb (j := 0) rfl
  have hd1 := cellOf' hnb (j := 1) rfl
  clear hb1 hnb
  cases p1 with
  | false =>
    have HE := hide (H1.out rfl)
    go_wp2
    go_ret
    unfold TryP
    rw [HE.out]
    exact ⟨rfl, HH.out.toP HB1.out⟩
  | true =>
    by_cases m0 : m = 0
    case neg =>
      have HE := hide (H2.out (by omega))
      have d1 : decide (0 < m) = true := by simp; omega
      clear m0
      go_wp2
      go_ret
      unfold TryP
      rw [HE.out]
      exact ⟨rfl, HH.out.toP HB1.out⟩
    subst m0
    by_cases n0 : n = 1
    case neg =>
      have HE := hide (H3.out n0)
      have d1 : ¬ (n : Int) = 1 := by omega
      clear n0
      go_wp2
      go_ret
      unfold TryP
      rw [HE.out]
      exact ⟨rfl, HH.out.toP HB1.out⟩
    subst n0
    obtain ⟨t, ht⟩ : ∃ t, tL = [t] := by
      have := HNN.out
      cases tL with
      | nil => simp at this
      | cons a l => cases l with
        | nil => exact ⟨a, rfl⟩
        | cons b l => simp at this
    have hn0 : nL = [] := List.eq_nil_of_length_eq_zero HMM.out
    have H4' := hide (H4.out t HP1.out hn0 ht)
    obtain ⟨gs, o, rfl, hgs, hct⟩ := HT.out w1 HB1.out 0 t (by rw [ht]; rfl)
    rw [Nat.add_zero] at hct
    have hts := HSZ.out t (by rw [ht]; simp)
    clear H1 H2 H3 H4 HPL hn0
    have HSP := hide (isSpecial_any t.data.toList w1 (by rw [data_len]; omega))
    rw [bs_of] at HSP
    obtain ⟨sp, hsp⟩ : ∃ q, specT t.data.toList = q := ⟨_, rfl⟩
    rw [hsp] at HSP H4'
    clear hsp
    go_wp2_with fail
    refine HSP.out.mono ?_
    rintro e w2 ⟨rfl, hb2⟩
    have HB2 := hide (below_up HB1.out hb2 HB1.out.size)
    have hnb2 := (hb2.block w.heap.size (Array.getElem?_eq_some_iff.1 HN1.out).1).trans HN1.out
    have HN2 := hide hnb2
    have hd02 : w2.cell? ⟨w.heap.size, 0, none⟩ = some (.slice (some ⟨gs, o, none⟩) 1 tc) := cellOf' hnb2 (j := 0) rfl
    have hct2 : w2.cell? ⟨gs, o, none⟩ = some (.string t) := (hb2.cell (p := ⟨gs, o, none⟩) hgs).trans hct
    clear hb2 hnb2 hd0 hd1 hct
    cases sp with
    | true =>
      have HE := hide (H4'.out.trans (if_pos rfl))
      go_wp2
      go_ret
      unfold TryP
      rw [HE.out]
      exact ⟨rfl, HH.out.toP HB2.out⟩
    | false =>
      have h5 := H4'.out.trans (if_neg (by simp))
      have HPR := hide (fun W => hpre_any t.data.toList [46] W)
      rw [bs_of, show bs [46] = ⟨#[46]⟩ from rfl] at HPR
      obtain ⟨hp, hhp⟩ : ∃ q, Lib.hasPrefix t.data.toList [46] = q := ⟨_, rfl⟩
      rw [hhp] at HPR h5
      have H5 := hide h5
      clear h5 hhp H4'
      go_wp2_with fail
      refine (HPR.out w2).mono ?_
      rintro e w' ⟨rfl, rfl⟩
      cases hp with
      | false =>
        have HE := hide (H5.out.trans (if_pos rfl))
        go_wp2
        go_ret
        unfold TryP
        rw [HE.out]
        exact ⟨rfl, HH.out.toP HB2.out⟩
      | true =>
        have HTW := hide (two_any t.data.toList lA lc lL w2 (HLL.out w2 HB2.out) (by have := HLN.out; omega) (fun x hx => by have := HLS.out x hx; omega) (by rw [data_len]; omega))
        rw [bs_of, HLN.out] at HTW
        have htl : (twoF t.data.toList lL).1.length ≤ 10000 ∧ (twoF t.data.toList lL).2.1.length ≤ 10000 := twoGo_len (by rw [data_len]; exact hts) lL HLS.out
        have h6 := H5.out.trans (if_neg (by simp))
        obtain ⟨⟨fa, fb, fo⟩, hfo⟩ : ∃ q, twoF t.data.toList lL = q := ⟨_, rfl⟩
        rw [hfo] at HTW htl h6
        have H6 := hide (show R = if fo = false then none else if Lib.hasSuffix C.target fb = false then none else if C.target.length ≤ fb.length then none else if Lib.trimSuffix C.target fb ++ fa = C.target then none else if kindT C.S C.cwd (Lib.trimSuffix C.target fb ++ fa) ≠ 1 ∧ Lib.containsS kl (bs (Lib.trimSuffix C.target fb ++ fa)) = false then none else some (takesF p [bs (Lib.trimSuffix C.target fb ++ fa)] rL (Lib.trimSuffix C.target fb)) from h6)
        unfold TwoPost at HTW
        dsimp only at HTW htl
        obtain ⟨hfa, hfb⟩ := htl
        clear h6 hfo H5
        go_wp2_with fail
        refine HTW.out.mono ?_
        rintro e w3 ⟨rfl, hb3⟩
        have HB3 := hide (below_up HB2.out hb3 HB2.out.size)
        have hgr := (HB3.out.block g hgl).trans HG.out
        have hc4 : w3.cell? ⟨g, 3, none⟩ = some (.string (bs C.cwd)) := cellOf hgr (j := 3) rfl
        have hc5 : w3.cell? ⟨g, 4, none⟩ = some (.string (bs C.target)) := cellOf hgr (j := 4) rfl
        have hc3 : w3.cell? ⟨g, 2, none⟩ = some (.pointer (some ⟨C.gf, 0, none⟩)) := cellOf hgr (j := 2) rfl
        have hc6 : w3.cell? ⟨g, 5, none⟩ = some (.map (some b)) := cellOf hgr (j := 5) rfl
        have hnb3 := (hb3.block w.heap.size (Array.getElem?_eq_some_iff.1 HN2.out).1).trans HN2.out
        have hd23 : w3.cell? ⟨w.heap.size, 2, none⟩ = some (.slice rA q rc) := cellOf' hnb3 (j := 2) rfl
        clear hb3 hgr hnb3 hct2 hd02
        cases fo with
        | false =>
          have HE := hide (H6.out.trans (if_pos rfl))
          go_wp2
          go_ret
          unfold TryP
          rw [HE.out]
          exact ⟨rfl, HH.out.toP HB3.out⟩
        | true =>
          have h7 := H6.out.trans (if_neg (by simp))
          have htl := HOK.out.t1
          have HSU := hide (fun W => hsuf_any C.target fb W (by omega))
          obtain ⟨hs, hhs⟩ : ∃ q, Lib.hasSuffix C.target fb = q := ⟨_, rfl⟩
          rw [hhs] at HSU h7
          have H7 := hide h7
          clear h7 hhs H6
          go_wp2_with fail
          refine (HSU.out w3).mono ?_
          rintro e w' ⟨rfl, rfl⟩
          cases hs with
          | false =>
            have HE := hide (H7.out.trans (if_pos rfl))
            go_wp2
            go_ret
            unfold TryP
            rw [HE.out]
            exact ⟨rfl, HH.out.toP HB3.out⟩
          | true =>
            have h8 := H7.out.trans (if_neg (by simp))
            have zt : (bs C.target).size = C.target.length := bs_size _
            have zb : (bs fb).size = fb.length := bs_size _
            have HTS := hide (fun W => tsuf_any C.target fb W (by omega))
            have hstl := trimSuffix_len C.target fb
            obtain ⟨st, hst⟩ : ∃ q, Lib.trimSuffix C.target fb = q := ⟨_, rfl⟩
            rw [hst] at HTS h8 hstl
            have zs : (bs st).size = st.length := bs_size _
            have za : (bs fa).size = fa.length := bs_size _
            have H8 := hide h8
            have HOF := hide (bs_app st fa)
            obtain ⟨tl, htl2⟩ : ∃ q, C.target.length = q := ⟨_, rfl⟩
            obtain ⟨bl, hbl2⟩ : ∃ q, fb.length = q := ⟨_, rfl⟩
            rw [htl2] at zt H8 htl hstl
            rw [hbl2] at zb H8 hfb
            clear h8 hst H7 htl2 hbl2
            by_cases c1 : tl ≤ bl
            case pos =>
              have HE := hide (H8.out.trans (if_pos c1))
              have d1 : decide (tl ≤ bl) = true := by simp; omega
              clear c1
              go_wp2
              go_ret
              unfold TryP
              rw [HE.out]
              exact ⟨rfl, HH.out.toP HB3.out⟩
            have d1 : decide (tl ≤ bl) = false := by simp; omega
            have H9 := hide (H8.out.trans (if_neg c1))
            clear c1 H8
            go_wp2_with fail
            refine (HTS.out w3).mono ?_
            rintro e w' ⟨rfl, rfl⟩
            go_wp2_with fail
            rw [HOF.out]
            obtain ⟨fr, hfr⟩ : ∃ q, st ++ fa = q := ⟨_, rfl⟩
            have hfl : fr.length ≤ 20000 := by rw [← hfr, List.length_append]; omega
            rw [hfr] at H9 ⊢
            have HEQ := hide (bs_eqv fr C.target)
            have hgl3 : g < w3.heap.size := Nat.lt_of_lt_of_le hgl HB3.out.size
            have HK := hide (fun W (hb : Below w3.heap.size w3 W) => kindp_any C.gf C.S C.cwd fr W (HOK.out.below (below_up HB3.out hb HB3.out.size)).vs (HOK.out.below (below_up HB3.out hb HB3.out.size)).mx (by have := HOK.out.c1; omega) (by omega))
            have hb0 : Below w3.heap.size w3 w3.drew := (Below.refl _ _).drew
            have HTAIL := hide (fun W (hb : Below w.heap.size w W) => takes_any w0 C g (some b) kl p T (some ⟨W.heap.size, 0, none⟩) 1 [bs fr] rA rc rL st (W.alloc (.cells #[.string (bs fr)] 9)) (HH.out.step (hb.alloc hb.size _)) (sr_new W (bs fr)) (fun a e _ ht => by
              injection e with e
              subst e
              have h2 := (HH.out.tw _ ht).2
              have h3 := hb.size
              simp only at h2
              omega) (HC.out _ (hb.alloc hb.size _)) (fun a e hne ht => by
              have h1 := HLOW.out.1.rc.lt e hne
              have h2 := (HH.out.tw _ ht).1
              omega) (by simp) (by have := HQQ.out; omega) (by omega))
            rw [HQQ.out] at HTAIL
            have HMS := hide (HH.out.step HB3.out |>.known b rfl).1
            have hdw := World.block_lt_of_cell? _ _ hd23
            clear hfr HOF zs za zt zb d1 HTS HSU
            by_cases c2 : fr = C.target
            · have HE := hide (H9.out.trans (if_pos c2))
              have heq : ((bs fr).toList == (bs C.target).toList) = true := by rw [HEQ.out, decide_eq_true c2]
              clear c2 H9
              refine wp_region_held_drew (S := (fun w' => w'.cell? ⟨g, 2, none⟩ = some (.pointer (some ⟨C.gf, 0, none⟩)) ∧ w'.cell? ⟨g, 3, none⟩ = some (.string (bs C.cwd)) ∧ w'.cell? ⟨g, 4, none⟩ = some (.string (bs C.target)) ∧ w'.cell? ⟨g, 5, none⟩ = some (.map (some b)))) (by kernel_rfl) ⟨hc3, hc4, hc5, hc6⟩ (fun hHeld => ?_)
              refine wpAnyH_take (i := 0) (oi := _) (v := ?v0) rfl (by kernel_rfl) (by kernel_rfl) (by kernel_rfl) (fun _ _ _ h => h) (Or.inl ⟨by kernel_rfl, ?y0⟩) (by assumption) ?r0
              case y0 =>
                intro w hSw
                (try dsimp only at hSw)
                go_simp
                try with_reducible rfl
              try simp only [Act.put, List.setIfInBounds_toArray, List.set_cons_zero, List.set_cons_succ]
              refine wpAnyH_take (i := 1) (oi := _) (v := ?v1) rfl (by kernel_rfl) (by kernel_rfl) (by kernel_rfl) (fun _ _ _ h => h) (Or.inl ⟨by kernel_rfl, ?y1⟩) (by assumption) ?r1
              case y1 =>
                intro w hSw
                (try dsimp only at hSw)
                go_simp
                try with_reducible rfl
              try simp only [Act.put, List.setIfInBounds_toArray, List.set_cons_zero, List.set_cons_succ]
              refine wpAnyH_take (i := 2) (oi := _) (v := ?v2) rfl (by kernel_rfl) (by kernel_rfl) (by kernel_rfl) (fun _ _ _ h => h) (Or.inl ⟨by kernel_rfl, ?y2⟩) (by assumption) ?r2
              case y2 =>
                intro w hSw
                (try dsimp only at hSw)
                go_simp
                try with_reducible rfl
              try simp only [Act.put, List.setIfInBounds_toArray, List.set_cons_zero, List.set_cons_succ]
              refine wpAnyH_take (i := 3) (oi := _) (v := ?v3) rfl (by kernel_rfl) (by kernel_rfl) (by kernel_rfl) (fun _ _ _ h => h) (Or.inl ⟨by kernel_rfl, ?y3⟩) (by assumption) ?r3
              case y3 =>
                intro w hSw
                (try dsimp only at hSw)
                go_simp
                try with_reducible rfl
              try simp only [Act.put, List.setIfInBounds_toArray, List.set_cons_zero, List.set_cons_succ]
              refine wpAnyH_take (i := 4) (oi := _) (v := ?v4) rfl (by kernel_rfl) (by kernel_rfl) (by kernel_rfl) (fun _ _ _ h => h) (Or.inl ⟨by kernel_rfl, ?y4⟩) (by assumption) ?r4
              case y4 =>
                intro w hSw
                (try dsimp only at hSw)
                go_simp
                try with_reducible rfl
              try simp only [Act.put, List.setIfInBounds_toArray, List.set_cons_zero, List.set_cons_succ]
              refine wpAnyH_take (i := 5) (oi := _) (v := ?v5) rfl (by kernel_rfl) (by kernel_rfl) (by kernel_rfl) (fun _ _ _ h => h) (Or.inl ⟨by kernel_rfl, ?y5⟩) (by assumption) ?r5
              case y5 =>
                intro w hSw
                (try dsimp only at hSw)
                go_simp
                try with_reducible rfl
              try simp only [Act.put, List.setIfInBounds_toArray, List.set_cons_zero, List.set_cons_succ]
              refine wpAnyH_take (i := 6) (oi := _) (v := ?v6) rfl (by kernel_rfl) (by kernel_rfl) (by kernel_rfl) (fun _ _ _ h => h) (Or.inl ⟨by kernel_rfl, ?y6⟩) (by assumption) ?r6
              case y6 =>
                intro w hSw
                (try dsimp only at hSw)
                go_simp
                try with_reducible rfl
              try simp only [Act.put, List.setIfInBounds_toArray, List.set_cons_zero, List.set_cons_succ]
              refine wpAnyH_take (i := 7) (oi := _) (v := undef) rfl (by kernel_rfl) (by kernel_rfl) (by kernel_rfl) (fun _ _ _ h => h) (Or.inr ⟨by kernel_rfl, rfl⟩) (by assumption) ?_
              try simp only [Act.put, List.setIfInBounds_toArray, List.set_cons_zero, List.set_cons_succ]
              refine wpAnyH_take (i := 8) (oi := _) (v := undef) rfl (by kernel_rfl) (by kernel_rfl) (by kernel_rfl) (fun _ _ _ h => h) (Or.inr ⟨by kernel_rfl, rfl⟩) (by assumption) ?_
              try simp only [Act.put, List.setIfInBounds_toArray, List.set_cons_zero, List.set_cons_succ]
              refine wpAnyH_take (i := 9) (oi := _) (v := undef) rfl (by kernel_rfl) (by kernel_rfl) (by kernel_rfl) (fun _ _ _ h => h) (Or.inr ⟨by kernel_rfl, rfl⟩) (by assumption) ?_
              try simp only [Act.put, List.setIfInBounds_toArray, List.set_cons_zero, List.set_cons_succ]
              refine wpAnyH_take (i := 10) (oi := _) (v := undef) rfl (by kernel_rfl) (by kernel_rfl) (by kernel_rfl) (fun _ _ _ h => h) (Or.inr ⟨by kernel_rfl, rfl⟩) (by assumption) ?_
              try simp only [Act.put, List.setIfInBounds_toArray, List.set_cons_zero, List.set_cons_succ]
              refine wpAnyH_take (i := 11) (oi := _) (v := undef) rfl (by kernel_rfl) (by kernel_rfl) (by kernel_rfl) (fun _ _ _ h => h) (Or.inr ⟨by kernel_rfl, rfl⟩) (by assumption) ?_
              try simp only [Act.put, List.setIfInBounds_toArray, List.set_cons_zero, List.set_cons_succ]
              refine wpAnyH_take (i := 12) (oi := _) (v := undef) rfl (by kernel_rfl) (by kernel_rfl) (by kernel_rfl) (fun _ _ _ h => h) (Or.inr ⟨by kernel_rfl, rfl⟩) (by assumption) ?_
              try simp only [Act.put, List.setIfInBounds_toArray, List.set_cons_zero, List.set_cons_succ]
              refine wpAnyH_take (i := 13) (oi := _) (v := undef) rfl (by kernel_rfl) (by kernel_rfl) (by kernel_rfl) (fun _ _ _ h => h) (Or.inr ⟨by kernel_rfl, rfl⟩) (by assumption) ?_
              try simp only [Act.put, List.setIfInBounds_toArray, List.set_cons_zero, List.set_cons_succ]
              refine wpAnyH_take (i := 14) (oi := _) (v := undef) rfl (by kernel_rfl) (by kernel_rfl) (by kernel_rfl) (fun _ _ _ h => h) (Or.inr ⟨by kernel_rfl, rfl⟩) (by assumption) ?_
              try simp only [Act.put, List.setIfInBounds_toArray, List.set_cons_zero, List.set_cons_succ]
              refine wpAnyH_take (i := 15) (oi := _) (v := undef) rfl (by kernel_rfl) (by kernel_rfl) (by kernel_rfl) (fun _ _ _ h => h) (Or.inr ⟨by kernel_rfl, rfl⟩) (by assumption) ?_
              try simp only [Act.put, List.setIfInBounds_toArray, List.set_cons_zero, List.set_cons_succ]
              refine wpAnyH_take (i := 16) (oi := _) (v := undef) rfl (by kernel_rfl) (by kernel_rfl) (by kernel_rfl) (fun _ _ _ h => h) (Or.inr ⟨by kernel_rfl, rfl⟩) (by assumption) ?_
              try simp only [Act.put, List.setIfInBounds_toArray, List.set_cons_zero, List.set_cons_succ]
              refine wpAnyH_take (i := 17) (oi := _) (v := undef) rfl (by kernel_rfl) (by kernel_rfl) (by kernel_rfl) (fun _ _ _ h => h) (Or.inr ⟨by kernel_rfl, rfl⟩) (by assumption) ?_
              try simp only [Act.put, List.setIfInBounds_toArray, List.set_cons_zero, List.set_cons_succ]
              refine wpAnyH_take (i := 18) (oi := _) (v := undef) rfl (by kernel_rfl) (by kernel_rfl) (by kernel_rfl) (fun _ _ _ h => h) (Or.inr ⟨by kernel_rfl, rfl⟩) (by assumption) ?_
              try simp only [Act.put, List.setIfInBounds_toArray, List.set_cons_zero, List.set_cons_succ]
              refine wpAnyH_take (i := 19) (oi := _) (v := undef) rfl (by kernel_rfl) (by kernel_rfl) (by kernel_rfl) (fun _ _ _ h => h) (Or.inr ⟨by kernel_rfl, rfl⟩) (by assumption) ?_
              try simp only [Act.put, List.setIfInBounds_toArray, List.set_cons_zero, List.set_cons_succ]
              refine wpAnyH_take (i := 20) (oi := _) (v := undef) rfl (by kernel_rfl) (by kernel_rfl) (by kernel_rfl) (fun _ _ _ h => h) (Or.inr ⟨by kernel_rfl, rfl⟩) (by assumption) ?_
              try simp only [Act.put, List.setIfInBounds_toArray, List.set_cons_zero, List.set_cons_succ]
              refine wpAnyH_take (i := 21) (oi := _) (v := undef) rfl (by kernel_rfl) (by kernel_rfl) (by kernel_rfl) (fun _ _ _ h => h) (Or.inr ⟨by kernel_rfl, rfl⟩) (by assumption) ?_
              try simp only [Act.put, List.setIfInBounds_toArray, List.set_cons_zero, List.set_cons_succ]
              refine wpAnyH_take (i := 22) (oi := _) (v := undef) rfl (by kernel_rfl) (by kernel_rfl) (by kernel_rfl) (fun _ _ _ h => h) (Or.inr ⟨by kernel_rfl, rfl⟩) (by assumption) ?_
              try simp only [Act.put, List.setIfInBounds_toArray, List.set_cons_zero, List.set_cons_succ]
              refine wpAnyH_take (i := 23) (oi := _) (v := undef) rfl (by kernel_rfl) (by kernel_rfl) (by kernel_rfl) (fun _ _ _ h => h) (Or.inr ⟨by kernel_rfl, rfl⟩) (by assumption) ?_
              try simp only [Act.put, List.setIfInBounds_toArray, List.set_cons_zero, List.set_cons_succ]
              refine wpAnyH_take (i := 24) (oi := _) (v := undef) rfl (by kernel_rfl) (by kernel_rfl) (by kernel_rfl) (fun _ _ _ h => h) (Or.inr ⟨by kernel_rfl, rfl⟩) (by assumption) ?_
              try simp only [Act.put, List.setIfInBounds_toArray, List.set_cons_zero, List.set_cons_succ]
              refine wpAnyH_take (i := 25) (oi := _) (v := undef) rfl (by kernel_rfl) (by kernel_rfl) (by kernel_rfl) (fun _ _ _ h => h) (Or.inr ⟨by kernel_rfl, rfl⟩) (by assumption) ?_
              try simp only [Act.put, List.setIfInBounds_toArray, List.set_cons_zero, List.set_cons_succ]
              refine wpAnyH_take (i := 26) (oi := _) (v := undef) rfl (by kernel_rfl) (by kernel_rfl) (by kernel_rfl) (fun _ _ _ h => h) (Or.inr ⟨by kernel_rfl, rfl⟩) (by assumption) ?_
              try simp only [Act.put, List.setIfInBounds_toArray, List.set_cons_zero, List.set_cons_succ]
              refine wpAnyH_ready (rs := [27]) (by kernel_rfl) (by simp) ?_
              refine AllReadyH.cons (o := _) rfl (fun K hK => ?_) AllReadyH.nil
              rw [if_pos (by kernel_rfl)]
              go_simp
              refine hK.out _ _ ⟨hc3, hc4, hc5, hc6⟩ (fun _ => ?_)
              clear hK K
              try simp only [Act.put, List.setIfInBounds_toArray, List.set_cons_zero, List.set_cons_succ]
              refine wpAnyH_done (by kernel_rfl) ?_ _
              go_wp2
              go_ret
              unfold TryP
              rw [HE.out]
              exact ⟨rfl, HH.out.toP HB3.out.drew⟩
            have heq : ((bs fr).toList == (bs C.target).toList) = false := by rw [HEQ.out, decide_eq_false c2]
            have H10 := hide (H9.out.trans (if_neg c2))
            clear c2 H9 HEQ
            obtain ⟨kk, hkk⟩ : ∃ k, kindT C.S C.cwd fr = k := ⟨_, rfl⟩
            have hkl : kk ≤ 2 := by rw [← hkk]; exact kindT_le _ _ _
            rw [hkk] at HK H10
            obtain ⟨ki, hki⟩ : ∃ i : Int, (kk : Int) = i := ⟨_, rfl⟩
            rw [hki] at HK
            clear hkk
            by_cases k1 : kk = 1
            · subst k1
              obtain rfl : ki = 1 := hki.symm
              have HE := hide (H10.out.trans (if_neg (by simp)))
              clear hki hkl H10
              refine wp_region_held_drew (S := (fun w' => w'.cell? ⟨g, 2, none⟩ = some (.pointer (some ⟨C.gf, 0, none⟩)) ∧ w'.cell? ⟨g, 3, none⟩ = some (.string (bs C.cwd)) ∧ w'.cell? ⟨g, 4, none⟩ = some (.string (bs C.target)) ∧ w'.cell? ⟨g, 5, none⟩ = some (.map (some b)))) (by kernel_rfl) ⟨hc3, hc4, hc5, hc6⟩ (fun hHeld => ?_)
              refine wpAnyH_take (i := 0) (oi := _) (v := ?vB0) rfl (by kernel_rfl) (by kernel_rfl) (by kernel_rfl) (fun _ _ _ h => h) (Or.inl ⟨by kernel_rfl, ?yB0⟩) (by assumption) ?rB0
              case yB0 =>
                intro w hSw
                (try dsimp only at hSw)
                go_simp
                try with_reducible rfl
              try simp only [Act.put, List.setIfInBounds_toArray, List.set_cons_zero, List.set_cons_succ]
              refine wpAnyH_take (i := 1) (oi := _) (v := ?vB1) rfl (by kernel_rfl) (by kernel_rfl) (by kernel_rfl) (fun _ _ _ h => h) (Or.inl ⟨by kernel_rfl, ?yB1⟩) (by assumption) ?rB1
              case yB1 =>
                intro w hSw
                (try dsimp only at hSw)
                go_simp
                try with_reducible rfl
              try simp only [Act.put, List.setIfInBounds_toArray, List.set_cons_zero, List.set_cons_succ]
              refine wpAnyH_take (i := 2) (oi := _) (v := ?vB2) rfl (by kernel_rfl) (by kernel_rfl) (by kernel_rfl) (fun _ _ _ h => h) (Or.inl ⟨by kernel_rfl, ?yB2⟩) (by assumption) ?rB2
              case yB2 =>
                intro w hSw
                (try dsimp only at hSw)
                go_simp
                try with_reducible rfl
              try simp only [Act.put, List.setIfInBounds_toArray, List.set_cons_zero, List.set_cons_succ]
              refine wpAnyH_take (i := 3) (oi := _) (v := ?vB3) rfl (by kernel_rfl) (by kernel_rfl) (by kernel_rfl) (fun _ _ _ h => h) (Or.inl ⟨by kernel_rfl, ?yB3⟩) (by assumption) ?rB3
              case yB3 =>
                intro w hSw
                (try dsimp only at hSw)
                go_simp
                try with_reducible rfl
              try simp only [Act.put, List.setIfInBounds_toArray, List.set_cons_zero, List.set_cons_succ]
              refine wpAnyH_take (i := 4) (oi := _) (v := ?vB4) rfl (by kernel_rfl) (by kernel_rfl) (by kernel_rfl) (fun _ _ _ h => h) (Or.inl ⟨by kernel_rfl, ?yB4⟩) (by assumption) ?rB4
              case yB4 =>
                intro w hSw
                (try dsimp only at hSw)
                go_simp
                try with_reducible rfl
              try simp only [Act.put, List.setIfInBounds_toArray, List.set_cons_zero, List.set_cons_succ]
              refine wpAnyH_take (i := 5) (oi := _) (v := ?vB5) rfl (by kernel_rfl) (by kernel_rfl) (by kernel_rfl) (fun _ _ _ h => h) (Or.inl ⟨by kernel_rfl, ?yB5⟩) (by assumption) ?rB5
              case yB5 =>
                intro w hSw
                (try dsimp only at hSw)
                go_simp
                try with_reducible rfl
              try simp only [Act.put, List.setIfInBounds_toArray, List.set_cons_zero, List.set_cons_succ]
              refine wpAnyH_take (i := 6) (oi := _) (v := ?vB6) rfl (by kernel_rfl) (by kernel_rfl) (by kernel_rfl) (fun _ _ _ h => h) (Or.inl ⟨by kernel_rfl, ?yB6⟩) (by assumption) ?rB6
              case yB6 =>
                intro w hSw
                (try dsimp only at hSw)
                go_simp
                try with_reducible rfl
              try simp only [Act.put, List.setIfInBounds_toArray, List.set_cons_zero, List.set_cons_succ]
              refine wpAnyH_take (i := 7) (oi := _) (v := ?vB7) rfl (by kernel_rfl) (by kernel_rfl) (by kernel_rfl) (fun _ _ _ h => h) (Or.inl ⟨by kernel_rfl, ?yB7⟩) (by assumption) ?rB7
              case yB7 =>
                intro w hSw
                (try dsimp only at hSw)
                go_simp
                try with_reducible rfl
              try simp only [Act.put, List.setIfInBounds_toArray, List.set_cons_zero, List.set_cons_succ]
              refine wpAnyH_take (i := 8) (oi := _) (v := ?vB8) rfl (by kernel_rfl) (by kernel_rfl) (by kernel_rfl) (fun _ _ _ h => h) (Or.inl ⟨by kernel_rfl, ?yB8⟩) (by assumption) ?rB8
              case yB8 =>
                intro w hSw
                (try dsimp only at hSw)
                go_simp
                try with_reducible rfl
              try simp only [Act.put, List.setIfInBounds_toArray, List.set_cons_zero, List.set_cons_succ]
              refine wpAnyH_take (i := 9) (oi := _) (v := ?vB9) rfl (by kernel_rfl) (by kernel_rfl) (by kernel_rfl) (fun _ _ _ h => h) (Or.inl ⟨by kernel_rfl, ?yB9⟩) (by assumption) ?rB9
              case yB9 =>
                intro w hSw
                (try dsimp only at hSw)
                go_simp
                try with_reducible rfl
              try simp only [Act.put, List.setIfInBounds_toArray, List.set_cons_zero, List.set_cons_succ]
              refine wpAnyH_take (i := 10) (oi := _) (v := ?vB10) rfl (by kernel_rfl) (by kernel_rfl) (by kernel_rfl) (fun _ _ _ h => h) (Or.inl ⟨by kernel_rfl, ?yB10⟩) (by assumption) ?rB10
              case yB10 =>
                intro w hSw
                (try dsimp only at hSw)
                go_simp
                try with_reducible rfl
              try simp only [Act.put, List.setIfInBounds_toArray, List.set_cons_zero, List.set_cons_succ]
              refine wpAnyH_take (i := 11) (oi := _) (v := ?vB11) rfl (by kernel_rfl) (by kernel_rfl) (by kernel_rfl) (fun _ _ _ h => h) (Or.inl ⟨by kernel_rfl, ?yB11⟩) (by assumption) ?rB11
              case yB11 =>
                intro w hSw
                (try dsimp only at hSw)
                go_simp
                try with_reducible rfl
              try simp only [Act.put, List.setIfInBounds_toArray, List.set_cons_zero, List.set_cons_succ]
              refine wpAnyH_take (i := 12) (oi := _) (v := ?vB12) rfl (by kernel_rfl) (by kernel_rfl) (by kernel_rfl) (fun _ _ _ h => h) (Or.inl ⟨by kernel_rfl, ?yB12⟩) (by assumption) ?rB12
              case yB12 =>
                intro w hSw
                (try dsimp only at hSw)
                go_simp
                try with_reducible rfl
              try simp only [Act.put, List.setIfInBounds_toArray, List.set_cons_zero, List.set_cons_succ]
              refine wpAnyH_take (i := 13) (oi := _) (v := ?vB13) rfl (by kernel_rfl) (by kernel_rfl) (by kernel_rfl) (fun _ _ _ h => h) (Or.inl ⟨by kernel_rfl, ?yB13⟩) (by assumption) ?rB13
              case yB13 =>
                intro w hSw
                (try dsimp only at hSw)
                go_simp
                try with_reducible rfl
              try simp only [Act.put, List.setIfInBounds_toArray, List.set_cons_zero, List.set_cons_succ]
              refine wpAnyH_take (i := 14) (oi := _) (v := ?vB14) rfl (by kernel_rfl) (by kernel_rfl) (by kernel_rfl) (fun _ _ _ h => h) (Or.inl ⟨by kernel_rfl, ?yB14⟩) (by assumption) ?rB14
              case yB14 =>
                intro w hSw
                (try dsimp only at hSw)
                go_simp
                try with_reducible rfl
              try simp only [Act.put, List.setIfInBounds_toArray, List.set_cons_zero, List.set_cons_succ]
              refine wpAnyH_take (i := 15) (oi := _) (v := ?vB15) rfl (by kernel_rfl) (by kernel_rfl) (by kernel_rfl) (fun _ _ _ h => h) (Or.inl ⟨by kernel_rfl, ?yB15⟩) (by assumption) ?rB15
              case yB15 =>
                intro w hSw
                (try dsimp only at hSw)
                go_simp
                try with_reducible rfl
              try simp only [Act.put, List.setIfInBounds_toArray, List.set_cons_zero, List.set_cons_succ]
              refine wpAnyH_ready (rs := [16]) (by kernel_rfl) (by simp) ?_
              refine AllReadyH.cons (o := _) rfl (fun K hK => ?_) AllReadyH.nil
              rw [if_pos (by kernel_rfl)]
              go_simp
              go_at_call 188
              refine (HK.out _ hb0).mono ?_
              rintro e w4 ⟨rfl, hb⟩
              have u2 := (hb.cell (p := ⟨g, 2, none⟩) hgl3).trans hc3
              have u3 := (hb.cell (p := ⟨g, 3, none⟩) hgl3).trans hc4
              have u4 := (hb.cell (p := ⟨g, 4, none⟩) hgl3).trans hc5
              have u5 := (hb.cell (p := ⟨g, 5, none⟩) hgl3).trans hc6
              have HB4 := hide (hb0.trans hb)
              clear hb
              refine hK.out _ _ ⟨u2, u3, u4, u5⟩ (fun _ => ?_)
              clear hK K
              try simp only [Act.put, List.setIfInBounds_toArray, List.set_cons_zero, List.set_cons_succ]
              refine wpAnyH_take (i := 17) (oi := _) (v := ?vB17) rfl (by kernel_rfl) (by kernel_rfl) (by kernel_rfl) (fun _ _ _ h => h) (Or.inl ⟨by kernel_rfl, ?yB17⟩) (by assumption) ?rB17
              case yB17 =>
                intro w hSw
                (try dsimp only at hSw)
                go_simp
                try with_reducible rfl
              try simp only [Act.put, List.setIfInBounds_toArray, List.set_cons_zero, List.set_cons_succ]
              refine wpAnyH_take (i := 18) (oi := _) (v := ?vB18) rfl (by kernel_rfl) (by kernel_rfl) (by kernel_rfl) (fun _ _ _ h => h) (Or.inl ⟨by kernel_rfl, ?yB18⟩) (by assumption) ?rB18
              case yB18 =>
                intro w hSw
                (try dsimp only at hSw)
                go_simp
                try with_reducible rfl
              try simp only [Act.put, List.setIfInBounds_toArray, List.set_cons_zero, List.set_cons_succ]
              refine wpAnyH_take (i := 19) (oi := _) (v := undef) rfl (by kernel_rfl) (by kernel_rfl) (by kernel_rfl) (fun _ _ _ h => h) (Or.inr ⟨by kernel_rfl, rfl⟩) (by assumption) ?_
              try simp only [Act.put, List.setIfInBounds_toArray, List.set_cons_zero, List.set_cons_succ]
              refine wpAnyH_take (i := 20) (oi := _) (v := undef) rfl (by kernel_rfl) (by kernel_rfl) (by kernel_rfl) (fun _ _ _ h => h) (Or.inr ⟨by kernel_rfl, rfl⟩) (by assumption) ?_
              try simp only [Act.put, List.setIfInBounds_toArray, List.set_cons_zero, List.set_cons_succ]
              refine wpAnyH_take (i := 21) (oi := _) (v := undef) rfl (by kernel_rfl) (by kernel_rfl) (by kernel_rfl) (fun _ _ _ h => h) (Or.inr ⟨by kernel_rfl, rfl⟩) (by assumption) ?_
              try simp only [Act.put, List.setIfInBounds_toArray, List.set_cons_zero, List.set_cons_succ]
              refine wpAnyH_take (i := 22) (oi := _) (v := undef) rfl (by kernel_rfl) (by kernel_rfl) (by kernel_rfl) (fun _ _ _ h => h) (Or.inr ⟨by kernel_rfl, rfl⟩) (by assumption) ?_
              try simp only [Act.put, List.setIfInBounds_toArray, List.set_cons_zero, List.set_cons_succ]
              refine wpAnyH_take (i := 23) (oi := _) (v := undef) rfl (by kernel_rfl) (by kernel_rfl) (by kernel_rfl) (fun _ _ _ h => h) (Or.inr ⟨by kernel_rfl, rfl⟩) (by assumption) ?_
              try simp only [Act.put, List.setIfInBounds_toArray, List.set_cons_zero, List.set_cons_succ]
              refine wpAnyH_take (i := 24) (oi := _) (v := undef) rfl (by kernel_rfl) (by kernel_rfl) (by kernel_rfl) (fun _ _ _ h => h) (Or.inr ⟨by kernel_rfl, rfl⟩) (by assumption) ?_
              try simp only [Act.put, List.setIfInBounds_toArray, List.set_cons_zero, List.set_cons_succ]
              refine wpAnyH_take (i := 25) (oi := _) (v := undef) rfl (by kernel_rfl) (by kernel_rfl) (by kernel_rfl) (fun _ _ _ h => h) (Or.inr ⟨by kernel_rfl, rfl⟩) (by assumption) ?_
              try simp only [Act.put, List.setIfInBounds_toArray, List.set_cons_zero, List.set_cons_succ]
              refine wpAnyH_ready (rs := [26]) (by kernel_rfl) (by simp) ?_
              refine AllReadyH.cons (o := _) rfl (fun K hK => ?_) AllReadyH.nil
              rw [if_pos (by kernel_rfl)]
              go_simp
              refine hK.out _ _ ⟨u2, u3, u4, u5⟩ (fun _ => ?_)
              clear hK K
              try simp only [Act.put, List.setIfInBounds_toArray, List.set_cons_zero, List.set_cons_succ]
              refine wpAnyH_ready (rs := [27]) (by kernel_rfl) (by simp) ?_
              refine AllReadyH.cons (o := _) rfl (fun K hK => ?_) AllReadyH.nil
              rw [if_pos (by kernel_rfl)]
              go_simp
              refine hK.out _ _ ⟨u2, u3, u4, u5⟩ (fun _ => ?_)
              clear hK K
              try simp only [Act.put, List.setIfInBounds_toArray, List.set_cons_zero, List.set_cons_succ]
              refine wpAnyH_done (by kernel_rfl) ?_ _
              have HBW := hide (below_up HB3.out HB4.out HB3.out.size)
              have hd24 := (HB4.out.cell (p := ⟨w.heap.size, 2, none⟩) hdw).trans hd23
              have hd25 := (((Below.refl w4.heap.size w4).alloc (Nat.le_refl _) (.cells #[.string (bs fr)] 9)).cell (p := ⟨w.heap.size, 2, none⟩) (World.block_lt_of_cell? _ _ hd24)).trans hd24
              go_wp2_with fail
              refine (HTAIL.out _ HBW.out).mono ?_
              rintro e w5 ⟨rfl, hf5⟩
              have HF5 := hide (hf5.after (HBW.out.alloc HBW.out.size (.cells #[.string (bs fr)] 9)))
              clear hf5
              go_wp2
              go_ret
              unfold TryP
              rw [HE.out]
              exact ⟨rfl, HF5.out⟩
            have k1' : ¬ ki = 1 := by omega
            have k1a : (ki == 1) = false := by simp only [beq_eq_false_iff_ne]; omega
            have k1b : (ki != 1) = true := by simp only [bne_iff_ne, ne_eq]; omega
            obtain ⟨kn, hkn⟩ : ∃ c, Lib.containsS kl (bs fr) = c := ⟨_, rfl⟩
            have HLK := hide (fun W (hb : Below w3.heap.size w3 W) => (show MSet W b kl from HMS.out.of (hb.block b HMS.out.lt)).look (s := bs fr) (by rw [bs_size]; omega))
            rw [hkn] at HLK H10
            clear hkn hki hkl
            cases kn with
            | true =>
              have HE := hide (H10.out.trans (if_neg (by simp)))
              clear H10 k1
              go_region_held3 (fun w' => w'.cell? ⟨g, 2, none⟩ = some (.pointer (some ⟨C.gf, 0, none⟩)) ∧ w'.cell? ⟨g, 3, none⟩ = some (.string (bs C.cwd)) ∧ w'.cell? ⟨g, 4, none⟩ = some (.string (bs C.target)) ∧ w'.cell? ⟨g, 5, none⟩ = some (.map (some b)))
                (first | exact ⟨hc3, hc4, hc5, hc6⟩ | exact ⟨u2, u3, u4, u5⟩)
                ((go_at_call 188; refine (HK.out _ hb0).mono ?_; rintro e w4 ⟨rfl, hb⟩; have u2 := (hb.cell (p := ⟨g, 2, none⟩) hgl3).trans hc3; have u3 := (hb.cell (p := ⟨g, 3, none⟩) hgl3).trans hc4; have u4 := (hb.cell (p := ⟨g, 4, none⟩) hgl3).trans hc5; have u5 := (hb.cell (p := ⟨g, 5, none⟩) hgl3).trans hc6; have hlk := HLK.out w4 (hb0.trans hb); have HB4 := hide (hb0.trans hb); clear hb))
              have HBW := hide (below_up HB3.out HB4.out HB3.out.size)
              have hd24 := (HB4.out.cell (p := ⟨w.heap.size, 2, none⟩) hdw).trans hd23
              have hd25 := (((Below.refl w4.heap.size w4).alloc (Nat.le_refl _) (.cells #[.string (bs fr)] 9)).cell (p := ⟨w.heap.size, 2, none⟩) (World.block_lt_of_cell? _ _ hd24)).trans hd24
              go_wp2_with fail
              refine (HTAIL.out _ HBW.out).mono ?_
              rintro e w5 ⟨rfl, hf5⟩
              have HF5 := hide (hf5.after (HBW.out.alloc HBW.out.size (.cells #[.string (bs fr)] 9)))
              clear hf5
              go_wp2
              go_ret
              unfold TryP
              rw [HE.out]
              exact ⟨rfl, HF5.out⟩
            | false =>
              have HE := hide (H10.out.trans (if_pos ⟨k1, rfl⟩))
              clear H10 k1
              go_region_held3 (fun w' => w'.cell? ⟨g, 2, none⟩ = some (.pointer (some ⟨C.gf, 0, none⟩)) ∧ w'.cell? ⟨g, 3, none⟩ = some (.string (bs C.cwd)) ∧ w'.cell? ⟨g, 4, none⟩ = some (.string (bs C.target)) ∧ w'.cell? ⟨g, 5, none⟩ = some (.map (some b)))
                (first | exact ⟨hc3, hc4, hc5, hc6⟩ | exact ⟨u2, u3, u4, u5⟩)
                ((go_at_call 188; refine (HK.out _ hb0).mono ?_; rintro e w4 ⟨rfl, hb⟩; have u2 := (hb.cell (p := ⟨g, 2, none⟩) hgl3).trans hc3; have u3 := (hb.cell (p := ⟨g, 3, none⟩) hgl3).trans hc4; have u4 := (hb.cell (p := ⟨g, 4, none⟩) hgl3).trans hc5; have u5 := (hb.cell (p := ⟨g, 5, none⟩) hgl3).trans hc6; have hlk := HLK.out w4 (hb0.trans hb); have HB4 := hide (hb0.trans hb); clear hb))
              go_wp2
              go_ret
              unfold TryP
              rw [HE.out]
              exact ⟨rfl, HH.out.toP (below_up HB3.out HB4.out HB3.out.size)⟩
end Go.Proofs.YtmblmenafplccaaGreatDoor
