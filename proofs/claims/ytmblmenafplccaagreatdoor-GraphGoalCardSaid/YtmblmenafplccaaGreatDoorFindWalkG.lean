/- Walk of the finder's pattern. -/
import Derived.Test.YtmblmenafplccaaGreatDoorFindWalkE
namespace Go.Proofs.YtmblmenafplccaaGreatDoor
open Go.RowKit Go.Deep Go.Maps Ln Pth Vf
attribute [local go_sem] bt_eq

theorem first_take {target : Ln.T} : ∀ (L : List ByteArray) (k : Nat) (t : ByteArray), firstF target (L.take k) = none → L[k]? = some t → (matchT t.data.toList target).2 = false → firstF target (L.take (k + 1)) = none
  | a :: L, 0, t, _, ht, hm => by
    simp only [List.getElem?_cons_zero] at ht
    injection ht with ht
    subst ht
    simp [firstF, hm]
  | a :: L, k + 1, t, h, ht, hm => by
    rw [List.take_succ_cons, firstF] at h ⊢
    split at h
    · cases h
    · rename_i hc
      rw [if_neg hc]
      exact first_take L k t h (by simpa using ht) hm
theorem first_found {target : Ln.T} : ∀ (L : List ByteArray) (k : Nat) (t : ByteArray), firstF target (L.take k) = none → L[k]? = some t → (matchT t.data.toList target).2 = true → firstF target L = some (matchT t.data.toList target).1
  | a :: L, 0, t, _, ht, hm => by
    simp only [List.getElem?_cons_zero] at ht
    injection ht with ht
    subst ht
    rw [firstF, if_pos hm]
  | a :: L, k + 1, t, h, ht, hm => by
    rw [List.take_succ_cons, firstF] at h
    split at h
    · cases h
    · rename_i hc
      rw [firstF, if_neg hc]
      exact first_found L k t h (by simpa using ht) hm
def fillsL (L : List ByteArray) (st : Ln.T) : List ByteArray := L.map fun s => bs (fillT s.data.toList st)
theorem fills_take {L : List ByteArray} {st : Ln.T} {k : Nat} {x : ByteArray} (h : L[k]? = some x) : (fillsL L st).take (k + 1) = (fillsL L st).take k ++ [bs (fillT x.data.toList st)] := by
  unfold fillsL
  rw [List.take_add_one, List.getElem?_map, h]
  rfl
theorem fills_len (L : List ByteArray) (st : Ln.T) : (fillsL L st).length = L.length := by unfold fillsL; simp
/-- what a rule's try leaves -/
def TryP (w0 : World) (C : Cf) (g b : Nat) (kl : List ByteArray) (p : Pn) (T : Nat → Prop) (r : Option Pn) (w : World) (e : Ending) (w' : World) : Prop := e = .returned (.bool r.isSome) ∧ FIP w0 C g (some b) kl (r.getD p) T w w'
/-- the sizes that a pattern's try needs -/
structure RlSz (r : Rl) : Prop where
  t : ∀ x ∈ r.tg.2.2, x.size ≤ 10000
  n : ∀ x ∈ r.nd.2.2, x.size ≤ 10000
set_option maxRecDepth 100000 in
set_option maxHeartbeats 4000000 in
theorem pattern_any (w0 : World) (C : Cf) (g b : Nat) (kl : List ByteArray) (p : Pn) (T : Nat → Prop) (r : Rl) (w : World) (hok : CfOk C w) (h : FI w0 C g (some b) kl p T w) (hr : RlOk w0 r) (hz : RlSz r) (hl : p.needs.length ≤ 700000) :
    Calls Tryz.prog 161 #[.pointer (some ⟨g, 0, none⟩), .agg #[sv r.tg, sv r.nd, sv r.rc]] w (TryP w0 C g b kl p T (patO C.S C.cwd kl C.target r p) w) := by
  obtain ⟨⟨tA, tc, tL⟩, ⟨nA, nc, nL⟩, ⟨rA, rc, rL⟩⟩ := r
  have hb0 := h.below
  have hbs : w0.heap.size ≤ w.heap.size := hb0.size
  have HT := hide (fun W (hb : Below w.heap.size w W) => (hr.tg.below hb0).below hb)
  have HN := hide (fun W (hb : Below w.heap.size w W) => (hr.nd.below hb0).below hb)
  have HC := hide (fun W (hb : Below w.heap.size w W) => (hr.rc.below hb0).below hb)
  have ht1 := hr.t1
  have hn1 := hr.n1
  have hr1 := hr.r1
  have HSZ := hide hz
  have HH := hide h
  have HOK := hide hok
  have hR : patO C.S C.cwd kl C.target ⟨(tA, tc, tL), (nA, nc, nL), (rA, rc, rL)⟩ p = match firstF C.target tL with
    | none => none
    | some st => if thereF C.S C.cwd kl (fillsL nL st) = true then some (takesF p (fillsL nL st) rL st) else none := rfl
  obtain ⟨R, hRR⟩ : ∃ R, patO C.S C.cwd kl C.target ⟨(tA, tc, tL), (nA, nc, nL), (rA, rc, rL)⟩ p = R := ⟨_, rfl⟩
  rw [hRR] at hR ⊢
  have HR := hide hR
  obtain ⟨A6, c6, A7, c7, hg, _⟩ := h.opn
  have HG := hide hg
  have hgl := (h.tw g h.tg).2
  have htl := hr.t1
  obtain ⟨n, hn⟩ : ∃ n, tL.length = n := ⟨_, rfl⟩
  obtain ⟨m, hm⟩ : ∃ n, nL.length = n := ⟨_, rfl⟩
  obtain ⟨q, hq⟩ : ∃ n, rL.length = n := ⟨_, rfl⟩
  have HNN := hide hn
  have HMM := hide hm
  have HQQ := hide hq
  have HBX := hide ((Below.refl w.heap.size w).alloc (Nat.le_refl _) (.cells #[.slice tA n tc, .slice nA m nc, .slice rA q rc] 30))
  have HNB := hide (heapNew w (.cells #[.slice tA n tc, .slice nA m nc, .slice rA q rc] 30))
  have HLOW := hide (And.intro hr hbs)
  clear h hok hr hz hR hRR hg hb0
  simp only [sv]
  rw [hn] at ht1
  rw [hm] at hn1
  rw [hq] at hr1
  simp only [hn, hm, hq]
  clear hn hm hq htl
  have hni : (n : Int) ≤ 100000 := by omega
  have hmi : (m : Int) ≤ 100000 := by omega
  go_enter Tryz.func161, Tryz.ntmps161
  go_wp2
  obtain ⟨W, hW⟩ : ∃ W, w.alloc (.cells #[.slice tA n tc, .slice nA m nc, .slice rA q rc] 30) = W := ⟨_, rfl⟩
  rw [hW] at HBX HNB ⊢
  clear hW
  go_loopw [6, 7, 8, 9, 11, 15, 33] (fun _ _ _ _ _ v15 _ wr => ∃ k : Nat, v15 = .int .i64 k ∧ k ≤ n ∧ Hid (firstF C.target (tL.take k) = none) ∧ Below W.heap.size W wr) (fun _ _ _ _ _ v15 _ _ => n - (intOf v15).toNat)
  case atStart => exact ⟨0, rfl, by omega, rfl, Below.refl _ _⟩
  case round =>
    obtain ⟨k, rfl, hk, HFN, hb⟩ := hrel
    generalize wr = W1 at *
    have HBL := hide hb
    have HBW := hide (below_up HBX.out hb HBX.out.size)
    have HTR := hide (HT.out W1 HBW.out)
    have hgr := (HBW.out.block g hgl).trans HG.out
    have hc4 : W1.cell? ⟨g, 4, none⟩ = some (.string (bs C.target)) := cellOf hgr (j := 4) rfl
    have hnb := (hb.block w.heap.size (Array.getElem?_eq_some_iff.1 HNB.out).1).trans HNB.out
    have hd1 := cellOf' hnb (j := 1) rfl
    have hd2 := cellOf' hnb (j := 2) rfl
    clear hb hgr hnb
    by_cases hlt : k < n
    · obtain ⟨x, hx⟩ : ∃ x, tL[k]? = some x := ⟨tL[k]'(by have := HNN.out; omega), List.getElem?_eq_getElem _⟩
      obtain ⟨gs, o, rfl, hgs, hc⟩ := HTR.out k x hx
      have hxs := HSZ.out.t x (List.mem_of_getElem? hx)
      have HMA := hide (match_any x.data.toList C.target W1 (HOK.out.mx.below HBW.out) (by rw [data_len]; omega) (by have := HOK.out.t1; omega))
      rw [bs_of] at HMA
      have HX := hide hx
      have b1 : (k : Int) < (n : Int) := by omega
      obtain ⟨st, hst⟩ : ∃ s, (matchT x.data.toList C.target).1 = s := ⟨_, rfl⟩
      obtain ⟨ok, hok⟩ : ∃ s, (matchT x.data.toList C.target).2 = s := ⟨_, rfl⟩
      have hsl := matchT_len x.data.toList C.target
      have htl := HOK.out.t1
      rw [hst] at hsl HMA
      rw [hok] at HMA
      have HOO := hide hok
      have HSS := hide hst
      clear hx hok hst hxs
      cases ok with
      | false =>
        have HST := hide (first_take _ k x HFN.out HX.out HOO.out)
        go_wp2_with fail
        refine HMA.out.mono ?_
        rintro e w2 ⟨rfl, hb2⟩
        have HB2 := hide (below_up HBL.out hb2 HBL.out.size)
        clear hb2
        go_wp2
        go_roundw
        case rel => exact ⟨k + 1, by go_num, by omega, HST.out, HB2.out⟩
        case measure => simp [intOf]; omega
      | true =>
        have HFO := hide (first_found _ k x HFN.out HX.out HOO.out)
        rw [HSS.out] at HFO
        go_wp2_with fail
        refine HMA.out.mono ?_
        rintro e w2 ⟨rfl, hb2⟩
        have HB2 := hide (below_up HBW.out hb2 HBW.out.size)
        have hd12 := (hb2.cell (p := ⟨w.heap.size, 1, none⟩) (World.block_lt_of_cell? _ _ hd1)).trans hd1
        have hd22 := (hb2.cell (p := ⟨w.heap.size, 2, none⟩) (World.block_lt_of_cell? _ _ hd2)).trans hd2
        clear hb2 hd1 hd2 hc4
        go_wp2
        go_loopw [9, 11, 33] (fun v9 _ v33 wr => ∃ j : Nat, v33 = .int .i64 j ∧ j ≤ m ∧ OwnS wr w2.heap.size v9 ((fillsL nL st).take j) ∧ Below w2.heap.size w2 wr) (fun _ _ v33 _ => m - (intOf v33).toNat)
        case atStart => exact ⟨0, rfl, by omega, OwnS.nil _ _, Below.refl _ _⟩
        case round =>
          obtain ⟨j, rfl, hj, ho, hb3⟩ := hrel
          have HO := hide ho
          have HB3 := hide hb3
          have HB3W := hide (below_up HB2.out hb3 HB2.out.size)
          have HNR := hide (HN.out wr HB3W.out)
          clear ho hb3
          by_cases hlt2 : j < m
          · obtain ⟨y, hy⟩ : ∃ y, nL[j]? = some y := ⟨nL[j]'(by have := HMM.out; omega), List.getElem?_eq_getElem _⟩
            obtain ⟨gs2, o2, rfl, hgs2, hcy⟩ := HNR.out j y hy
            have hys := HSZ.out.n y (List.mem_of_getElem? hy)
            have HFI := hide (fill_any y.data.toList st wr (HOK.out.mx.below HB3W.out) (by rw [data_len]; omega) (by omega))
            rw [bs_of] at HFI
            have HTK := hide (fills_take (st := st) hy)
            obtain ⟨z, hz⟩ : ∃ z, bs (fillT y.data.toList st) = z := ⟨_, rfl⟩
            rw [hz] at HFI HTK
            have b2 : (j : Int) < (m : Int) := by omega
            have hql : ((fillsL nL st).take j).length ≤ 100000 := by rw [List.length_take]; omega
            clear hy hz hys
            go_wp2_with fail
            refine HFI.out.mono ?_
            rintro e w3 ⟨rfl, hb4⟩
            obtain ⟨v4, w4, r4, o4, g4, b4⟩ := run_appS (c := 1) (OwnS.alloc (HO.out.below' hb4) (.cells #[.string z] 9)) (sr_new w3 z) (by have := HB3.out.size; have := hb4.size; simp; omega) (by simp; omega)
            have HO4 := hide o4
            have HB4 := hide (((below_up HB3.out hb4 HB3.out.size).alloc (by have := HB3.out.size; have := hb4.size; omega) (.cells #[.string z] 9)).trans ((Below.refl w2.heap.size _).grown g4 (by have := HB3.out.size; have := hb4.size; simp; omega) (fun q hq => (World.ownsRow.lt HO.out q hq).1)))
            clear o4 g4 b4 hb4
            go_wp2_with (at_builtin; refine wpList_app_run ?_ (.tmp 37) (.tmp 41) ?_ ?_ ?_ ?_ r4 ?_; exact rfl; exact rfl; exact rfl; exact rfl; exact rfl)
            go_roundw
            case rel => exact ⟨j + 1, by go_num, by omega, by rw [HTK.out]; exact HO4.out, HB4.out⟩
            case measure => simp [intOf]; omega
          · obtain rfl : j = m := by omega
            have HTF := hide (show (fillsL nL st).take j = fillsL nL st from List.take_of_length_le (by rw [fills_len]; have := HMM.out; omega))
            rw [HTF.out] at HO
            have hfl := fills_len nL st
            rw [HMM.out] at hfl
            have hfz : ∀ s ∈ fillsL nL st, s.size ≤ 90000 := by
              intro s hs
              obtain ⟨y, hy, rfl⟩ := List.mem_map.1 hs
              have := fillT_len y.data.toList st
              have h3 := HSZ.out.n y hy
              rw [data_len] at this
              rw [bs_size]
              omega
            have HFF := hide (HFO.out)
            have hR2 : R = if thereF C.S C.cwd kl (fillsL nL st) = true then some (takesF p (fillsL nL st) rL st) else none := by
              rw [HR.out, HFO.out]
            have HWS := hide HB2.out.size
            obtain ⟨FL, hFL⟩ : ∃ l, fillsL nL st = l := ⟨_, rfl⟩
            rw [hFL] at HO hfl hfz hR2
            obtain ⟨A9, c9, rfl, _, hs9, hb9⟩ := HO.out.slice
            have HHW := hide (HH.out.step HB3W.out)
            have hok3 := HOK.out.below HB3W.out
            have HTH := hide (there_any w0 C g b kl p T A9 c9 FL wr hok3 HHW.out hs9 (by omega) hfz)
            have HS9 := hide hs9
            have HB9 := hide (fun a (e : A9 = some a) => (World.ownsRow.lt HO.out a.block (hb9 a e)).1)
            rw [hfl] at HTH ⊢
            have HFL := hide hfl
            obtain ⟨tb, htb⟩ : ∃ q, thereF C.S C.cwd kl FL = q := ⟨_, rfl⟩
            rw [htb] at HTH hR2
            have hnbr := (HB3W.out.block w.heap.size)
            clear hfz hFL hs9 hb9 hok3 hfl htb hnbr
            cases tb with
            | false =>
              have HE := hide (hR2.trans (if_neg (by simp)))
              clear hR2
              go_wp2_with fail
              refine HTH.out.mono ?_
              rintro e w4 ⟨rfl, hb4⟩
              have HB4 := hide (below_up HB3W.out hb4 HB3W.out.size)
              clear hb4
              go_wp2
              go_ret
              unfold TryP
              rw [HE.out]
              exact ⟨rfl, HH.out.toP HB4.out⟩
            | true =>
              have HE := hide (hR2.trans (if_pos rfl))
              clear hR2
              have hd2w := (HB3.out.cell (p := ⟨w.heap.size, 2, none⟩) (World.block_lt_of_cell? _ _ hd22)).trans hd22
              go_wp2_with fail
              refine HTH.out.mono ?_
              rintro e w4 ⟨rfl, hb4⟩
              have HB4 := hide (below_up HB3W.out hb4 HB3W.out.size)
              have hd24 := (hb4.cell (p := ⟨w.heap.size, 2, none⟩) (World.block_lt_of_cell? _ _ hd2w)).trans hd2w
              have HTA := hide (takes_any w0 C g (some b) kl p T A9 c9 FL rA rc rL st w4 (HH.out.step HB4.out) (HS9.out.below hb4) (fun a e _ ht => by
                have h1 := HB9.out a e
                have h2 := (HH.out.tw _ ht).2
                have h3 := HWS.out
                omega) (HC.out w4 HB4.out) (fun a e hne ht => by
                have h1 := HLOW.out.1.rc.lt e hne
                have h2 := (HH.out.tw _ ht).1
                omega) (by have := HFL.out; omega) (by have := HQQ.out; omega) (by omega))
              rw [HFL.out, HQQ.out] at HTA
              clear hb4
              go_wp2_with fail
              refine HTA.out.mono ?_
              rintro e w5 ⟨rfl, hf5⟩
              have HF5 := hide (hf5.after HB4.out)
              clear hf5
              go_wp2
              go_ret
              unfold TryP
              rw [HE.out]
              exact ⟨rfl, HF5.out⟩
    · obtain rfl : k = n := by omega
      have HE := hide (show R = none by
        have := HFN.out
        rw [List.take_of_length_le (by have := HNN.out; omega)] at this
        rw [HR.out, this])
      go_wp2
      go_ret
      unfold TryP
      rw [HE.out]
      exact ⟨rfl, HH.out.toP HBW.out⟩
end Go.Proofs.YtmblmenafplccaaGreatDoor
