/- The law FieldSplits: the walk. -/
import Derived.Test.YthcgnfoijemcbaaFieldRefT
import Derived.Test.YthcgnfoijemcbaaFieldSame
import Derived.Test.YthcgnfoijemcbaaFieldTextB
namespace Go.Proofs.Ythcgnfoijemcbaa
open Go.RowKit Go.Deep
set_option linter.unusedSimpArgs false
set_option linter.unusedVariables false
attribute [local go_sem] bt_eq

/-- what holds of all parts, and of each text that stands alone, holds of the fields' parts -/
theorem txS_all (P : Pt → Prop) (hp : ∀ l, P (pT l)) : ∀ (rest cur : List UInt8) (s : Sp), (∀ r ∈ s.1, ∀ x ∈ r, P x) → (∀ x ∈ s.2, P x) → (∀ r ∈ (txS cur rest s).1, ∀ x ∈ r, P x) ∧ ∀ x ∈ (txS cur rest s).2, P x := by
  have hpush : ∀ (cur : List UInt8) (s : Sp), (∀ r ∈ s.1, ∀ x ∈ r, P x) → (∀ x ∈ s.2, P x) → (∀ r ∈ (pushS cur s).1, ∀ x ∈ r, P x) ∧ ∀ x ∈ (pushS cur s).2, P x := by
    intro cur s h1 h2
    unfold pushS
    split
    · exact ⟨h1, h2⟩
    · refine ⟨h1, fun x hx => ?_⟩
      rcases List.mem_append.1 hx with hx | hx
      · exact h2 x hx
      · rw [List.mem_singleton.1 hx]; exact hp _
  intro rest
  induction rest with
  | nil => intro cur s h1 h2; rw [txS]; exact hpush cur s h1 h2
  | cons c rest ih =>
    intro cur s h1 h2
    rw [txS]
    split
    · obtain ⟨h3, h4⟩ := hpush cur s h1 h2
      refine ih _ _ ?_ ?_
      · unfold flushS
        split
        · exact h3
        · intro r hr
          rcases List.mem_append.1 hr with hr | hr
          · exact h3 r hr
          · rw [List.mem_singleton.1 hr]; exact h4
      · unfold flushS
        split
        · exact h4
        · intro x hx; cases hx
    · exact ih _ _ h1 h2
theorem split_memP (P : Pt → Prop) (hp : ∀ l, P (pT l)) (L : List Pt) (hL : ∀ x ∈ L, P x) : ∀ r ∈ splitS L, ∀ x ∈ r, P x := by
  have key : ∀ (L : List Pt) (s : Sp), (∀ x ∈ L, P x) → (∀ r ∈ s.1, ∀ x ∈ r, P x) → (∀ x ∈ s.2, P x) → (∀ r ∈ (L.foldl stS s).1, ∀ x ∈ r, P x) ∧ ∀ x ∈ (L.foldl stS s).2, P x := by
    intro L
    induction L with
    | nil => intro s _ h1 h2; exact ⟨h1, h2⟩
    | cons p L ih =>
      intro s h h1 h2
      rw [List.foldl_cons]
      have h3 : (∀ r ∈ (stS s p).1, ∀ x ∈ r, P x) ∧ ∀ x ∈ (stS s p).2, P x := by
        unfold stS
        split
        · exact txS_all P hp _ _ _ h1 h2
        · refine ⟨h1, fun x hx => ?_⟩
          rcases List.mem_append.1 hx with hx | hx
          · exact h2 x hx
          · rw [List.mem_singleton.1 hx]; exact h p (by simp)
      exact ih _ (fun x hx => h x (by simp [hx])) h3.1 h3.2
  obtain ⟨h1, h2⟩ := key L ([], []) hL (fun r hr => by cases hr) (fun x hx => by cases hx)
  unfold splitS flushS
  split
  · exact h1
  · intro r hr
    rcases List.mem_append.1 hr with hr | hr
    · exact h1 r hr
    · rw [List.mem_singleton.1 hr]; exact h2
theorem RpP.rows_le {out : List FR} (h : ∀ r ∈ out, r.L ≠ []) : out.length ≤ (out.map FR.L).flatten.length := by
  induction out with
  | nil => simp
  | cons r o ih =>
    have h1 := ih fun q hq => h q (by simp [hq])
    have h2 : 0 < r.L.length := List.length_pos_iff.2 (h r (by simp))
    rw [List.map_cons, List.length_cons, List.flatten_cons, List.length_append]
    omega
theorem big_okQ {L : List Pt} (h : bigP L = false) : ∀ p ∈ L, okQ p := by
  unfold bigP at h
  simp [okP] at h
  exact fun p hp => by
    obtain ⟨⟨⟨⟨⟨_, _⟩, h1⟩, h2⟩, h3⟩, h4⟩ := h.1 p hp
    exact ⟨h1, h2, h3, h4⟩
theorem textS_len : ∀ (L : List Pt), (∀ p ∈ L, p.text.size ≤ 300) → (textS L).length ≤ L.length * 300
  | [], _ => by simp [textS]
  | p :: L, h => by
    have h1 := textS_len L (fun q hq => h q (by simp [hq]))
    have h3 := h p (by simp)
    rw [show textS (p :: L) = p.text.data.toList ++ textS L by simp [textS], List.length_append, List.length_cons, Nat.add_mul, ← Lib.size_eq]
    omega
set_option maxRecDepth 100000 in
set_option maxHeartbeats 4000000 in
theorem law_fieldSplits (A : Option Addr) (c : Nat) (L : List Pt) (hl : L.length ≤ maxLen) (hs : ∀ x ∈ L, szP x) (w : World) (h : RG encPt 6 w A L) :
    Calls Try.prog 4 #[.slice A L.length c] w fun e w' => e = .returned (.bool true) ∧ Below w.heap.size w w' := by
  have HR := hide h
  have HBG := hide (fun (w1 : World) (hb : Below w.heap.size w w1) => big12_any A c L w1 (h.below hb) (by unfold maxLen at hl; omega) (fun x hx => by have := hs x hx; unfold szP maxLen at this; omega))
  obtain ⟨n, hn⟩ : ∃ n, L.length = n := ⟨_, rfl⟩
  have HN := hide hn
  rw [hn] at hl HBG ⊢
  unfold maxLen at hl
  clear h hs hn
  go_enter Try.func4, Try.ntmps4
  go_wp2_with fail
  refine (alive12_any w).mono ?_
  rintro e w1 ⟨rfl, hb1⟩
  have HB1 := hide hb1
  clear hb1
  go_wp2_with fail
  refine (HBG.out w1 HB1.out).mono ?_
  rintro e w2 ⟨rfl, hw⟩
  subst hw
  have HBI := hide (fun (hb : bigP L = false) => (⟨big_no hb, big_okQ hb⟩ : (L.length ≤ 40 ∧ ∀ p ∈ L, p.text.size ≤ 300) ∧ ∀ p ∈ L, okQ p))
  obtain ⟨bg, hbg⟩ : ∃ b, bigP L = b := ⟨_, rfl⟩
  rw [hbg] at HBI ⊢
  clear hbg
  cases bg with
  | true =>
    go_wp2
    go_ret
    exact ⟨rfl, HB1.out⟩
  | false =>
    obtain ⟨⟨hl40, hz⟩, hq⟩ := HBI.out rfl
    have hr1 := HR.out.below HB1.out
    obtain ⟨v', w4, hrun, ho, hg, _⟩ := run_appG rowPt encPt_len encPt_one (c := c) (OwnG.nil w1 w1.heap.size) hr1 (Nat.le_refl _) (by simp; omega)
    obtain ⟨A4, c4, rfl, _, hr4, _, _⟩ := ho.slice encPt_len
    rw [List.nil_append] at hr4 hrun
    have HRUN := hide hrun
    have HOW := hide hr4
    have HB4 := hide (HB1.out.trans ((Below.of_gb (B := w1.heap.size) hg (Nat.le_refl _) (fun k e => by cases e)).mono HB1.out.size))
    have HSP := hide (fun W (hW : Below w4.heap.size w4 W) => split_any A4 c4 L W (hr4.below hW) (by omega) (fun p hp => by have := hz p hp; omega))
    have HRS := hide (fun W (hW : Below w.heap.size w W) => rsplit12_any A c L W (HR.out.below hW) (by omega) (fun p hp => by have := hz p hp; omega))
    have htl := textS_len L hz
    have HTX := hide (fun W (hW : Below w.heap.size w W) => text_any A c L W (HR.out.below hW) (by omega) (by omega))
    have HRT := hide (fun W (hW : Below w.heap.size w W) => rtext_any A c L W (HR.out.below hW) (by omega) (by omega))
    have HPT := hide (fun W (hW : Below w.heap.size w W) => pat_any A c L W (HR.out.below hW) (by omega) (fun p hp => by have := hz p hp; omega))
    have HRP := hide (fun W (hW : Below w.heap.size w W) => rpat_any A c L W (HR.out.below hW) (by omega) (fun p hp => by have := hz p hp; omega))
    have HSM := hide (fun W (hW : Below w4.heap.size w4 W) (hW2 : Below w.heap.size w W) => sameparts_any A4 A c4 c L W (hr4.below hW) (HR.out.below hW2) (by omega) hq)
    have HQS := hide (split_memP okQ (fun l => ⟨rfl, rfl, rfl, rfl⟩) L hq)
    have HSC := hide (split_cnt L hz)
    rw [HN.out] at HRUN HSP HRS HTX HRT HPT HRP HSM HSC hl40
    clear hrun ho hg hr4 hr1 htl HBG HBI hq hz
    go_wp2_with (at_builtin; (refine wpList_app_run ?_ (.const (.slice none 0 0)) (.tmp 15) ?_ ?_ ?_ ?_ HRUN.out ?_; exact rfl; exact rfl; exact rfl; exact rfl; exact rfl))
    refine (HSP.out _ (Below.refl _ _)).mono ?_
    rintro e w5 hp
    obtain ⟨o1, A5, c5, rfl, e1, g1, q1, b1⟩ := hp
    have HB5 := hide (HB4.out.trans (b1.mono HB4.out.size))
    have HB45 := hide b1
    go_wp2_with fail
    refine (HRS.out _ HB5.out).mono ?_
    rintro e w6 hp
    obtain ⟨o2, A6, c6, rfl, e2, g2, q2, b2⟩ := hp
    have HB6 := hide (HB5.out.trans (b2.mono HB5.out.size))
    have HB46 := hide (HB45.out.trans (b2.mono HB45.out.size))
    have hlo : o1.length ≤ 1000000 := by
      have h1 := RpP.rows_le (out := o1) (fun r hr => (q1 r hr).2.2)
      rw [e1] at h1
      have := HSC.out
      omega
    have HSW := hide (samewords_any A5 A6 c5 c6 o1 o2 w6 (g1.below b2) g2 (e1.trans e2.symm) hlo (fun r hr => (q1 r hr).1.below b2) (fun r hr => (q2 r hr).1) (fun r hr => by
      have hm : r.L ∈ splitS L := by rw [← e1]; exact List.mem_map.2 ⟨r, hr, rfl⟩
      have h2 := row_len hm
      have := HSC.out
      exact ⟨by omega, HQS.out _ hm⟩))
    clear e1 g1 q1 b1 e2 g2 q2 b2 hlo
    go_wp2_with fail
    refine HSW.out.mono ?_
    rintro e w7 ⟨rfl, b7⟩
    have HB7 := hide (HB6.out.trans (b7.mono HB6.out.size))
    have HB47 := hide (HB46.out.trans (b7.mono HB46.out.size))
    clear b7
    go_wp2_with fail
    refine (HTX.out _ HB7.out).mono ?_
    rintro e w8 ⟨rfl, b8⟩
    have HB8 := hide (HB7.out.trans (b8.mono HB7.out.size))
    have HB48 := hide (HB47.out.trans (b8.mono HB47.out.size))
    clear b8
    go_wp2_with fail
    refine (HRT.out _ HB8.out).mono ?_
    rintro e w9 ⟨rfl, b9⟩
    subst b9
    go_wp2_with fail
    refine (HPT.out _ HB8.out).mono ?_
    rintro e w10 ⟨rfl, b10⟩
    have HB10 := hide (HB8.out.trans (b10.mono HB8.out.size))
    have HB410 := hide (HB48.out.trans (b10.mono HB48.out.size))
    clear b10
    go_wp2_with fail
    refine (HRP.out _ HB10.out).mono ?_
    rintro e w11 ⟨rfl, b11⟩
    have HB11 := hide (HB10.out.trans (b11.mono HB10.out.size))
    have HB411 := hide (HB410.out.trans (b11.mono HB410.out.size))
    clear b11
    go_wp2_with fail
    refine (HSM.out _ HB411.out HB11.out).mono ?_
    rintro e w12 ⟨rfl, n12, rfl⟩
    go_wp2
    go_ret
    exact ⟨rfl, below_drewN HB11.out _⟩
end Go.Proofs.Ythcgnfoijemcbaa
