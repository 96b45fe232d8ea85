/- Walks of the finder's need and takes. -/
import Derived.Test.YtmblmenafplccaaGreatDoorFindRep
import Derived.Test.YtmblmenafplccaaGreatDoorFindWalkC
namespace Go.Proofs.YtmblmenafplccaaGreatDoor
open Go.RowKit Go.Deep Go.Maps Ln Pth Vf
attribute [local go_sem] bt_eq

/-- slices.Clone: a row of the call's own -/
theorem sclone_any (A : Option Addr) (c : Nat) (L : List ByteArray) (w : World) (hA : SR w A L) (hl : L.length ≤ 1000000) :
    Calls Tryz.prog 135 #[.slice A L.length c] w fun e w' => (∃ v, e = .returned v ∧ OwnS w' w.heap.size v L) ∧ Below w.heap.size w w' := by
  cases A with
  | none =>
    have hL : L = [] := by
      cases L with
      | nil => rfl
      | cons b l =>
        obtain ⟨g, o, e, _⟩ := hA 0 b rfl
        cases e
    subst hL
    refine (Tryz.slices_Clone_string_nil 0 c w).mono ?_
    rintro e w' ⟨rfl, rfl⟩
    exact ⟨⟨_, rfl, OwnS.nil _ _⟩, Below.refl _ _⟩
  | some a =>
    cases L with
    | nil =>
      refine (Tryz.slices_Clone_string_zero a c w).mono ?_
      rintro e w' ⟨v, rfl, ho, _, hb⟩
      exact ⟨⟨v, rfl, ho⟩, hb⟩
    | cons x L =>
      obtain ⟨g, o, e, _, _⟩ := hA 0 x rfl
      injection e with e
      subst e
      refine (Tryz.slices_Clone_string g o (x :: L).length c (x :: L) w (Nat.le_refl _) (by omega) (fun j hj => ?_)).mono ?_
      · obtain ⟨g', o', e, _, hc⟩ := hA j ((x :: L)[j]) (List.getElem?_eq_getElem hj)
        injection e with e
        injection e with e1 e2
        subst e1 e2
        rw [hc]
        congr 2
        rw [List.getD_eq_getElem?_getD, List.getElem?_eq_getElem hj]
        rfl
      · rintro e w' ⟨v, rfl, ho, _, hb⟩
        rw [List.take_length] at ho
        exact ⟨⟨v, rfl, ho⟩, hb⟩
set_option maxRecDepth 100000 in
set_option maxHeartbeats 1000000 in
theorem need_any (w0 : World) (C : Cf) (g : Nat) (kb : Option Nat) (kl : List ByteArray) (p : Pn) (T : Nat → Prop) (s : ByteArray) (w : World) (h : FI w0 C g kb kl p T w) (hl : p.needs.length ≤ 900000) :
    Calls Tryz.prog 134 #[.pointer (some ⟨g, 0, none⟩), .string s] w fun e w' => e = .returned (.tuple #[]) ∧ FIP w0 C g kb kl { p with needs := needF p.needs s } T w w' := by
  obtain ⟨A6, c6, A7, c7, hg, o6, hne, hT, o7, hrT, s6, s7⟩ := h.opn
  have hc6 := cellOf hg (j := 6) rfl
  have HC := hide (cont_any A6 c6 p.needs s w s6 (by omega))
  have hR : needF p.needs s = if Lib.containsS p.needs s = true then p.needs else p.needs ++ [s] := rfl
  obtain ⟨b, hb⟩ : ∃ b, Lib.containsS p.needs s = b := ⟨_, rfl⟩
  rw [hb] at HC hR
  have HG := hide hg
  have HH := hide h
  have hbase : w0.heap.size ≤ w.heap.size := h.below.size
  have hgl := (h.tw g h.tg).2
  cases b with
  | true =>
    have HE := hide (show ({ p with needs := needF p.needs s } : Pn) = p by rw [hR, if_pos rfl])
    clear hR hb hg h o6 hT o7 hrT s6 s7
    obtain ⟨n, hn⟩ : ∃ n, p.needs.length = n := ⟨_, rfl⟩
    rw [hn] at HC hc6
    clear hn
    go_enter Tryz.func134, Tryz.ntmps134
    go_wp2_with fail
    refine HC.out.mono ?_
    rintro e w' ⟨rfl, rfl⟩
    go_wp2
    go_end0
    rw [HE.out]
    exact ⟨rfl, HH.out.toP (Below.refl _ _)⟩
  | false =>
    have HE := hide (show ({ p with needs := needF p.needs s } : Pn) = { p with needs := p.needs ++ [s] } by rw [hR, if_neg (by simp)])
    obtain ⟨v4, w4, r4, o4, g4, b4⟩ := run_appS (c := 1) (OwnS.alloc o6 (.cells #[.string s] 9)) (sr_new w s) (by simp; omega) (by simp; omega)
    obtain ⟨A4, c4, e4, _, _, _⟩ := o4.slice
    generalize (p.needs ++ [s]).length = l4 at e4
    subst e4
    have hga : (w.alloc (.cells #[.string s] 9)).heap[g]? = some (.cells (fcells C kb (.slice A6 p.needs.length c6) (.slice A7 p.recipe.length c7) p.stem p.rule) 154) := by rw [Below.heap_alloc _ _ _ hgl]; exact hg
    have hg4 := (g4.block g (by simp; omega) (fun e => hne e.symm)).trans hga
    have hf4 := freeOf hg4 6
    have hc46 := cellOf hg4 (j := 6) rfl
    have HF := hide ((FI.app (HH.out.step ((Below.refl _ _).alloc (Nat.le_refl _) (.cells #[.string s] 9))) hga hne hT (o7.alloc _) hrT o4 g4 b4).after ((Below.refl _ _).alloc (Nat.le_refl _) _))
    clear hR hb hg h o6 hT o7 hrT s6 s7 o4 g4 b4 hga hg4
    obtain ⟨n, hn⟩ : ∃ n, p.needs.length = n := ⟨_, rfl⟩
    rw [hn] at HC hc6 r4
    clear hn
    go_enter Tryz.func134, Tryz.ntmps134
    go_wp2_with fail
    refine HC.out.mono ?_
    rintro e w' ⟨rfl, rfl⟩
    go_wp2_with (at_builtin; refine wpList_app_run ?_ (.tmp 17) (.tmp 19) ?_ ?_ ?_ ?_ r4 ?_; exact rfl; exact rfl; exact rfl; exact rfl; exact rfl)
    go_end0
    rw [HE.out]
    exact ⟨rfl, HF.out⟩
set_option maxRecDepth 100000 in
set_option maxHeartbeats 2000000 in
theorem takes_any (w0 : World) (C : Cf) (g : Nat) (kb : Option Nat) (kl : List ByteArray) (p : Pn) (T : Nat → Prop) (nA : Option Addr) (nc : Nat) (ns : List ByteArray) (rA : Option Addr) (rc : Nat) (rs : List ByteArray) (st : Ln.T) (w : World) (h : FI w0 C g kb kl p T w)
    (hn : SR w nA ns) (hnT : ∀ a, nA = some a → ns ≠ [] → ¬ T a.block) (hr : SR w rA rs) (hrT : ∀ a, rA = some a → rs ≠ [] → ¬ T a.block) (l1 : ns.length ≤ 100000) (l2 : rs.length ≤ 100000) (l3 : p.needs.length ≤ 800000) :
    Calls Tryz.prog 185 #[.pointer (some ⟨g, 0, none⟩), .slice nA ns.length nc, .slice rA rs.length rc, .string (bs st)] w fun e w' => e = .returned (.tuple #[]) ∧ FIP w0 C g kb kl (takesF p ns rs st) T w w' := by
  have HND := hide (fun (q : Pn) (T' : Nat → Prop) (s : ByteArray) (W : World) (h : FI w0 C g kb kl q T' W) (hl : q.needs.length ≤ 900000) => need_any w0 C g kb kl q T' s W h hl)
  have HN := hide hn
  have HNT := hide hnT
  have HR := hide hr
  have HRT := hide hrT
  have H := hide h
  obtain ⟨n, hnn⟩ : ∃ n, ns.length = n := ⟨_, rfl⟩
  have HNN := hide hnn
  rw [hnn] at l1 ⊢
  obtain ⟨m, hmm⟩ : ∃ n, rs.length = n := ⟨_, rfl⟩
  have HMM := hide hmm
  rw [hmm] at l2 ⊢
  have hn1 : (n : Int) ≤ 100000 := by omega
  clear h hn hnT hr hrT hnn hmm
  go_enter Tryz.func185, Tryz.ntmps185
  go_wp2
  go_loopw [9, 12] (fun _ v12 wr => ∃ k : Nat, v12 = .int .i64 k ∧ k ≤ n ∧ FIP w0 C g kb kl (addN p (ns.take k)) T w wr) (fun _ v12 _ => n - (intOf v12).toNat)
  case atStart => exact ⟨0, rfl, by omega, H.out.toP (Below.refl _ _)⟩
  case round =>
    obtain ⟨k, rfl, hk, hf⟩ := hrel
    have HF := hide hf
    have HNR := hide (let ⟨_, _, kp, _⟩ := hf; kp.sr HN.out HNT.out)
    clear hf
    by_cases hlt : k < n
    · obtain ⟨x, hx⟩ : ∃ x, ns[k]? = some x := ⟨ns[k]'(by have := HNN.out; omega), List.getElem?_eq_getElem _⟩
      obtain ⟨gs, o, rfl, hg, hc⟩ := HNR.out k x hx
      obtain ⟨T', hfi, hkp, hgr⟩ := HF.out
      have hql : (addN p (ns.take k)).needs.length ≤ 900000 := by
        have := needsF_len (ns.take k) p.needs
        rw [List.length_take] at this
        show (needsF p.needs (ns.take k)).length ≤ _
        omega
      have HC := hide (HND.out _ T' x wr hfi hql)
      have HE := hide (show ({ addN p (ns.take k) with needs := needF (addN p (ns.take k)).needs x } : Pn) = addN p (ns.take (k + 1)) by
        unfold addN
        rw [needsF_take hx])
      rw [HE.out] at HC
      have HKP := hide (And.intro hkp hgr)
      have b1 : (k : Int) < (n : Int) := by omega
      clear hx hfi hkp hgr hql
      go_wp2_with fail
      refine HC.out.mono ?_
      rintro e w2 ⟨rfl, h2⟩
      have HF2 := hide (h2.from_ HKP.out.1 HKP.out.2)
      clear h2
      go_wp2
      go_roundw
      case rel => exact ⟨k + 1, by go_num, by omega, HF2.out⟩
      case measure => simp [intOf]; omega
    · obtain rfl : k = n := by omega
      have HE := hide (show addN p (ns.take k) = addN p ns by rw [List.take_of_length_le (by have := HNN.out; omega)])
      rw [HE.out] at HF
      obtain ⟨T', hfi, hkp, hgr⟩ := HF.out
      have HFI := hide hfi
      have HKP := hide (And.intro hkp hgr)
      have HCL := hide (sclone_any rA rc rs wr (hkp.sr HR.out HRT.out) (by have := HMM.out; omega))
      rw [HMM.out] at HCL
      clear hfi hkp hgr
      go_wp2_with fail
      refine HCL.out.mono ?_
      rintro e w2 ⟨⟨v, rfl, ho⟩, hb2⟩
      obtain ⟨A4, c4, e4, _, _, _⟩ := ho.slice
      generalize rs.length = l4 at e4
      subst e4
      have hf2 := HFI.out.step hb2
      have hbs := HFI.out.below.size
      have hr1 := hf2.rec_ (ho.base hbs) (fun q hq ht => by have := (World.ownsRow.lt ho q hq).1; have := (HFI.out.tw q ht).2; omega)
      have hr2 := hr1.trans (fun T1 f1 => f1.stem_ st)
      have hr3 := hr2.trans (fun T1 f1 => f1.rule_ true)
      obtain ⟨vn, vr, hg2, _⟩ := hf2.body
      have hz7 := freeOf hg2 7
      have hz8 := freeOf hg2 8
      have hz9 := freeOf hg2 9
      have hy7 := cellOf hg2 (j := 7) rfl
      have hy8 := cellOf hg2 (j := 8) rfl
      have hy9 := cellOf hg2 (j := 9) rfl
      have HF3 := hide (show FIP w0 C g kb kl (takesF p ns rs st) T w _ from (hr3.after hb2).from_ HKP.out.1 HKP.out.2)
      clear hr1 hr2 hr3 hf2 ho hb2 hg2
      go_wp2
      go_end0
      exact ⟨rfl, HF3.out⟩
end Go.Proofs.YtmblmenafplccaaGreatDoor
