/- Walk of the finder's fits. -/
import Derived.Test.YtmblmenafplccaaGreatDoorFindWalkH
namespace Go.Proofs.YtmblmenafplccaaGreatDoor
open Go.RowKit Go.Deep Go.Maps Ln Pth Vf
attribute [local go_sem] bt_eq

/-- the sizes that a finder needs -/
structure CfSz (C : Cf) : Prop where
  rl : ∀ r ∈ C.L, ∀ x ∈ r.tg.2.2, x.size ≤ 10000
  pn : ∀ r ∈ C.L, plainR r.tg.2.2 = false → ∀ x ∈ r.nd.2.2, x.size ≤ 10000
  ss : ∀ s ∈ specialR C.L suffixes, s.size ≤ 10000
  kn : (knownsF C.L).length ≤ 100000
  sp : (specialR C.L suffixes).length ≤ 100000
theorem mem_knowns {L : List Rl} {x : ByteArray} (h : x ∈ knownsF L) : ∃ r ∈ L, x ∈ r.tg.2.2 := by
  unfold knownsF at h
  obtain ⟨r, hr, hx⟩ := List.mem_flatMap.1 h
  refine ⟨r, hr, ?_⟩
  split at hx
  · exact hx
  · cases hx
theorem mem_special {L : List Rl} {name x : ByteArray} (h : x ∈ specialR L name) : ∃ r ∈ L, x ∈ r.nd.2.2 := by
  unfold specialR at h
  obtain ⟨r, hr, hx⟩ := List.mem_flatMap.1 h
  refine ⟨r, hr, ?_⟩
  split at hx
  · exact hx
  · cases hx
theorem knowns_len_take (L : List Rl) (k : Nat) : (knownsF (L.take k)).length ≤ (knownsF L).length := by
  unfold knownsF
  conv => rhs; rw [← List.take_append_drop k L, List.flatMap_append, List.length_append]
  omega
theorem fits_1 {S : St} {cwd target : Ln.T} {L : List Rl} {p q : Pn} (h : firstO (pat1 S cwd (knownsF L) target p) L = some q) : fitsF S cwd L target p = q := by
  unfold fitsF; rw [h]
theorem fits_2 {S : St} {cwd target : Ln.T} {L : List Rl} {p q : Pn} (h1 : firstO (pat1 S cwd (knownsF L) target p) L = none) (h : firstO (suf1 S cwd (knownsF L) target (specialR L suffixes) p) L = some q) : fitsF S cwd L target p = q := by
  unfold fitsF; rw [h1, h]
theorem fits_3 {S : St} {cwd target : Ln.T} {L : List Rl} {p : Pn} (h1 : firstO (pat1 S cwd (knownsF L) target p) L = none) (h : firstO (suf1 S cwd (knownsF L) target (specialR L suffixes) p) L = none) : fitsF S cwd L target p = p := by
  unfold fitsF; rw [h1, h]
theorem firstO_found {α β : Type} (f : α → Option β) (l : List α) (k : Nat) (x : α) (b : β) (h : firstO f (l.take k) = none) (hx : l[k]? = some x) (hf : f x = some b) : firstO f l = some b := by
  rw [firstO_at f l k x h hx, hf]
set_option linter.unusedSimpArgs false in
set_option maxRecDepth 100000 in
set_option maxHeartbeats 8000000 in
theorem fits_any (w0 : World) (C : Cf) (g : Nat) (kl0 : List ByteArray) (p : Pn) (T : Nat → Prop) (w : World) (hok : CfOk C w0) (hcs : CfSz C) (h : FI w0 C g none kl0 p T w) (hl : p.needs.length ≤ 700000) :
    Calls Tryz.prog 136 #[.pointer (some ⟨g, 0, none⟩)] w fun e w' => e = .returned (.tuple #[]) ∧ ∃ b, FIP w0 C g (some b) (knownsF C.L) (fitsF C.S C.cwd C.L C.target p) T w w' := by
  have hb0 := h.below
  have hbs : w0.heap.size ≤ w.heap.size := hb0.size
  have HBS := hide hbs
  have HOK := hide (fun W (hb : Below w0.heap.size w0 W) => hok.below hb)
  have HCS := hide hcs
  have HH := hide h
  have HB0 := hide hb0
  have hrl := hok.rl
  have HRL := hide hrl
  have hln := hok.ln
  obtain ⟨A6, c6, A7, c7, hg, _⟩ := h.opn
  have HG := hide hg
  have hgl := (h.tw g h.tg).2
  obtain ⟨n, hn⟩ : ∃ n, C.L.length = n := ⟨_, rfl⟩
  have HN := hide hn
  have hln : n ≤ 1000 := by omega
  have hn1 : (n : Int) ≤ 1000 := by omega
  have hd1 : w.cell? ⟨g, 1, none⟩ = some (.slice C.A n C.c) := by rw [← hn]; exact cellOf hg (j := 1) rfl
  clear hok hcs h hb0 hrl hg hn
  go_enter Tryz.func136, Tryz.ntmps136
  go_wp2
  go_loopw [2, 4, 16] (fun v2 _ v16 wr => ∃ k : Nat, v16 = .int .i64 k ∧ k ≤ n ∧ OwnS wr w.heap.size v2 (knownsF (C.L.take k)) ∧ Below w.heap.size w wr) (fun _ _ v16 _ => n - (intOf v16).toNat)
  case atStart => exact ⟨0, rfl, by omega, OwnS.nil _ _, Below.refl _ _⟩
  case round =>
    obtain ⟨k, rfl, hk, ho, hb⟩ := hrel
    have HO := hide ho
    have HB := hide hb
    have HAR := hide (HRL.out.below (below_up HB0.out hb HBS.out))
    clear ho hb hd1
    by_cases hlt : k < n
    · obtain ⟨r, hr⟩ : ∃ r, C.L[k]? = some r := ⟨C.L[k]'(by have := HN.out; omega), List.getElem?_eq_getElem _⟩
      obtain ⟨gr, o, hgo, hgg, hc⟩ := HAR.out.1 k r hr
      have hrk := HAR.out.2 r (List.mem_of_getElem? hr)
      have HRK := hide hrk
      have hc1 : wr.cell? ⟨gr, o + k * 3, none⟩ = some (sv r.tg) := by have := hc 0 _ rfl; simpa using this
      have hc2 : wr.cell? ⟨gr, o + k * 3 + 1, none⟩ = some (sv r.nd) := hc 1 _ rfl
      have hc3 : wr.cell? ⟨gr, o + k * 3 + 2, none⟩ = some (sv r.rc) := hc 2 _ rfl
      have HT := hide (knowns_take hr)
      have hlen := knowns_len_take C.L (k + 1)
      have hkn := HCS.out.kn
      rw [HT.out, List.length_append] at hlen
      have HLN := hide hlen
      have b1 : (k : Int) < (n : Int) := by omega
      have hbw : w.heap.size ≤ wr.heap.size := HB.out.size
      rw [hgo]
      clear hc hr hlen hrk
      have HPL := hide (fun W (hb : Below wr.heap.size wr W) => plain_any r W (HRK.out.below hb))
      obtain ⟨p1, hp1⟩ : ∃ b, plainR r.tg.2.2 = b := ⟨_, rfl⟩
      rw [hp1] at HPL HT HLN
      clear hp1
      unfold sv at hc1 hc2 hc3 HPL
      have hnb := heapNew wr (.cells #[.slice r.tg.1 r.tg.2.2.length r.tg.2.1, .slice r.nd.1 r.nd.2.2.length r.nd.2.1, .slice r.rc.1 r.rc.2.2.length r.rc.2.1] 30)
      have hba := (Below.refl wr.heap.size wr).alloc (Nat.le_refl _) (.cells #[.slice r.tg.1 r.tg.2.2.length r.tg.2.1, .slice r.nd.1 r.nd.2.2.length r.nd.2.1, .slice r.rc.1 r.rc.2.2.length r.rc.2.1] 30)
      have HNB := hide hnb
      have HBA := hide hba
      clear hnb hba
      go_wp2_with fail
      refine (HPL.out _ HBA.out).mono ?_
      rintro e w1 ⟨rfl, hb1⟩
      have hk1 := hb1.block wr.heap.size (Array.getElem?_eq_some_iff.1 HNB.out).1
      have hn1' := hk1.trans HNB.out
      have hd0 : w1.cell? ⟨wr.heap.size, 0, none⟩ = some (.slice r.tg.1 r.tg.2.2.length r.tg.2.1) := cellOf' hn1' (j := 0) rfl
      have HB1 := hide (below_up HBA.out hb1 HBA.out.size)
      clear hb1 hk1 hn1'
      cases p1 with
      | false =>
        have HE := hide (show knownsF (C.L.take (k + 1)) = knownsF (C.L.take k) by rw [HT.out, if_neg (by simp), List.append_nil])
        go_wp2
        go_roundw
        case rel => exact ⟨k + 1, by go_num, by omega, by rw [HE.out]; exact HO.out.below' HB1.out, below_up HB.out HB1.out hbw⟩
        case measure => simp [intOf]; omega
      | true =>
        have HE := hide (show knownsF (C.L.take (k + 1)) = knownsF (C.L.take k) ++ r.tg.2.2 by rw [HT.out, if_pos rfl])
        have hl2 : (knownsF (C.L.take k)).length + r.tg.2.2.length ≤ 1000000 := by
          have := HLN.out
          rw [if_pos rfl] at this
          omega
        obtain ⟨v', w4, r4, o4, g4, b4⟩ := run_appS (c := r.tg.2.1) (HO.out.below' HB1.out) (HRK.out.tg.below HB1.out) (by have := HB1.out.size; omega) hl2
        have HO4 := hide o4
        have HB4 := hide ((below_up HB.out HB1.out hbw).grown g4 (by have := HB1.out.size; omega) (fun q hq => (World.ownsRow.lt HO.out q hq).1))
        clear o4 g4 b4
        go_wp2_with (at_builtin; refine wpList_app_run ?_ (.tmp 22) (.tmp 24) ?_ ?_ ?_ ?_ r4 ?_; exact rfl; exact rfl; exact rfl; exact rfl; exact rfl)
        go_roundw
        case rel => exact ⟨k + 1, by go_num, by omega, by rw [HE.out]; exact HO4.out, HB4.out⟩
        case measure => simp [intOf]; omega
    · obtain rfl : n = k := by omega
      have HF := hide (show knownsF (C.L.take n) = knownsF C.L by rw [List.take_of_length_le (by have := HN.out; omega)])
      rw [HF.out] at HO
      obtain ⟨Ak, ck, rfl, _, hsk, _⟩ := HO.out.slice
      have HSE := hide (set_any Ak ck (knownsF C.L) wr hsk HCS.out.kn (fun s hs => by
        obtain ⟨r, hr, hx⟩ := mem_knowns hs
        have := HCS.out.rl r hr s hx
        omega))
      obtain ⟨kn, hkn⟩ : ∃ n, (knownsF C.L).length = n := ⟨_, rfl⟩
      rw [hkn] at HSE ⊢
      clear hsk hkn
      go_wp2_with fail
      refine HSE.out.mono ?_
      rintro e w1 ⟨b, rfl, hbk, hms, hb1⟩
      have HBX := hide (below_up HB.out hb1 HB.out.size)
      have hfi := HH.out.step HBX.out
      have hfp := hfi.known_ hms (fun ht => by
        have := (HH.out.tw b ht).2
        have := HB.out.size
        omega)
      obtain ⟨T1, hf1, hkt1, hgt1⟩ := hfp
      have hg1 := (HBX.out.block g hgl).trans HG.out
      have hz5 := freeOf hg1 5
      have hy5 : w1.cell? ⟨g, 5, none⟩ = some (.map none) := cellOf hg1 (j := 5) rfl
      have HF1 := hide hf1
      have HT1 := hide (And.intro hkt1 hgt1)
      obtain ⟨A62, c62, A72, c72, hg2, _⟩ := hf1.opn
      have hy0 := cellOf hg2 (j := 0) (v := C.mac) rfl
      have hy1 := cellOf hg2 (j := 1) (v := .slice C.A n C.c) (by rw [← HN.out]; rfl)
      have HG2 := hide hg2
      have HSP := hide (special_any C.mac C.A C.c C.L suffixes (w1.setCell ⟨g, 5, none⟩ (.map (some b))) (HRL.out.below hf1.below) (by have := HN.out; omega) (fun j => by have := special_len_take C.L suffixes j; have := HCS.out.sp; omega))
      rw [HN.out] at HSP
      clear hfi hf1 hkt1 hgt1 hg1 hg2 hms
      go_wp2_with fail
      refine HSP.out.mono ?_
      rintro e w3 ⟨⟨v5, rfl, hos⟩, hb3⟩
      have hsz3 := hb3.size
      have hf3 := HF1.out.step hb3
      have HF3 := hide hf3
      have HKW := hide (((Kp.of_below HBX.out T).trans (HT1.out.1.mono fun q hq => .inl hq)).trans ((Kp.of_below hb3 (fun k => T k ∨ w.heap.size ≤ k))))
      have HGW := hide (fun q (hq : T1 q) => (HT1.out.2 q hq).imp_right (Nat.le_trans HBX.out.size))
      obtain ⟨As, cs, rfl, _, hss, hbs5⟩ := hos.slice
      have HSL := hide (fun W (hk : Kp w3 W T1) => hk.sr hss (fun a e _ ht => by
        have h1 := (World.ownsRow.lt hos a.block (hbs5 a e)).1
        have h2 := (HF1.out.tw _ ht).2
        omega))
      have hg3 := (hb3.block g (HF1.out.tw g HF1.out.tg).2).trans HG2.out
      have hx1 : w3.cell? ⟨g, 1, none⟩ = some (.slice C.A n C.c) := by rw [← HN.out]; exact cellOf hg3 (j := 1) rfl
      have HSPZ := hide (fun s (hs : s ∈ specialR C.L suffixes) => HCS.out.ss s hs)
      have HFIN := hide (fun W q (hf : FIP w0 C g (some b) (knownsF C.L) q T1 w3 W) => hf.from_ HKW.out HGW.out)
      obtain ⟨sl, hsl⟩ : ∃ l, specialR C.L suffixes = l := ⟨_, rfl⟩
      have hspl := HCS.out.sp
      rw [hsl] at hspl HSPZ HSL ⊢
      have HSLL := hide hsl
      obtain ⟨m, hm⟩ : ∃ m, sl.length = m := ⟨_, rfl⟩
      have HM := hide hm
      rw [hm] at hspl ⊢
      clear hos hb3 hf3 hss hbs5 hg3 hsl hm hy0 hy1 hsz3
      go_wp2
      go_loopw [7, 43] (fun _ v43 wr => ∃ k : Nat, v43 = .int .i64 k ∧ k ≤ n ∧ Hid (firstO (pat1 C.S C.cwd (knownsF C.L) C.target p) (C.L.take k) = none) ∧ FIP w0 C g (some b) (knownsF C.L) p T1 w3 wr) (fun _ v43 _ => n - (intOf v43).toNat)
      case atStart => exact ⟨0, rfl, by omega, rfl, HF3.out.toP (Below.refl _ _)⟩
      case round =>
        obtain ⟨k, rfl, hk, HFN, hfp⟩ := hrel
        have HFP := hide hfp
        clear hfp hx1
        by_cases hlt : k < n
        · obtain ⟨r, hr⟩ : ∃ r, C.L[k]? = some r := ⟨C.L[k]'(by have := HN.out; omega), List.getElem?_eq_getElem _⟩
          have hrk0 := HRL.out.2 r (List.mem_of_getElem? hr)
          have hrz := HCS.out.rl r (List.mem_of_getElem? hr)
          have HRZ := hide (And.intro hrk0 hrz)
          obtain ⟨T2, f2, k2, g2⟩ := HFP.out
          have HF2 := hide f2
          have HK2 := hide (And.intro k2 g2)
          have HAR := hide (HRL.out.below f2.below)
          have HRK := hide (hrk0.below f2.below)
          obtain ⟨gr, o, hgo, hgg, hc⟩ := HAR.out.1 k r hr
          have hc1 : wr.cell? ⟨gr, o + k * 3, none⟩ = some (sv r.tg) := by have := hc 0 _ rfl; simpa using this
          have hc2 : wr.cell? ⟨gr, o + k * 3 + 1, none⟩ = some (sv r.nd) := hc 1 _ rfl
          have hc3 : wr.cell? ⟨gr, o + k * 3 + 2, none⟩ = some (sv r.rc) := hc 2 _ rfl
          have HSTEP := hide (fun q (hf : pat1 C.S C.cwd (knownsF C.L) C.target p r = some q) => firstO_found _ C.L k r q HFN.out hr hf)
          have HNEXT := hide (fun (hf : pat1 C.S C.cwd (knownsF C.L) C.target p r = none) => firstO_step _ C.L k r HFN.out hr hf)
          have b1 : (k : Int) < (n : Int) := by omega
          rw [hgo]
          have hr0 := hr
          clear hc hr hrk0 hrz f2 k2 g2
          have hnb := heapNew wr (.cells #[.slice r.tg.1 r.tg.2.2.length r.tg.2.1, .slice r.nd.1 r.nd.2.2.length r.nd.2.1, .slice r.rc.1 r.rc.2.2.length r.rc.2.1] 30)
          have hba := (Below.refl wr.heap.size wr).alloc (Nat.le_refl _) (.cells #[.slice r.tg.1 r.tg.2.2.length r.tg.2.1, .slice r.nd.1 r.nd.2.2.length r.nd.2.1, .slice r.rc.1 r.rc.2.2.length r.rc.2.1] 30)
          have HNB := hide hnb
          have HBA := hide hba
          clear hnb hba
          have HPL := hide (fun W (hb : Below wr.heap.size wr W) => plain_any r W (HRK.out.below hb))
          have HPN := hide (HCS.out.pn r (List.mem_of_getElem? hr0))
          have HPA := hide (fun (h1 : plainR r.tg.2.2 = false) W (hb : Below wr.heap.size wr W) => pattern_any w0 C g b (knownsF C.L) p T2 r W (HOK.out W (below_up HF2.out.below hb HF2.out.below.size)) (HF2.out.step hb) HRZ.out.1 ⟨HRZ.out.2, HPN.out h1⟩ hl)
          have hP : pat1 C.S C.cwd (knownsF C.L) C.target p r = if plainR r.tg.2.2 = true then none else if r.rc.2.2.length = 0 then none else patO C.S C.cwd (knownsF C.L) C.target r p := rfl
          obtain ⟨p1, hp1⟩ : ∃ b, plainR r.tg.2.2 = b := ⟨_, rfl⟩
          rw [hp1] at HPL hP HPA
          clear hr0 HPN
          obtain ⟨rq, hrq⟩ : ∃ b, r.rc.2.2.length = b := ⟨_, rfl⟩
          rw [hrq] at hP
          have HPP := hide hP
          unfold sv at hc1 hc2 hc3 HPL HPA
          simp only [hrq] at hc3 HPL HPA HNB HBA
          clear hp1 hP hrq
          go_wp2_with fail
          refine (HPL.out _ HBA.out).mono ?_
          rintro e w4 ⟨rfl, hb4⟩
          have hnb4 := (hb4.block wr.heap.size (Array.getElem?_eq_some_iff.1 HNB.out).1).trans HNB.out
          have hd0 : w4.cell? ⟨wr.heap.size, 0, none⟩ = some (.slice r.tg.1 r.tg.2.2.length r.tg.2.1) := cellOf' hnb4 (j := 0) rfl
          have hd1 : w4.cell? ⟨wr.heap.size, 1, none⟩ = some (.slice r.nd.1 r.nd.2.2.length r.nd.2.1) := cellOf' hnb4 (j := 1) rfl
          have hd2 : w4.cell? ⟨wr.heap.size, 2, none⟩ = some (.slice r.rc.1 rq r.rc.2.1) := cellOf' hnb4 (j := 2) rfl
          have HB4 := hide (below_up HBA.out hb4 HBA.out.size)
          clear hb4 hnb4
          cases p1 with
          | true =>
            have HN1 := hide (HNEXT.out (HPP.out.trans (if_pos rfl)))
            have HF4 := hide (((HF2.out.toP HB4.out)).from_ HK2.out.1 HK2.out.2)
            go_wp2
            go_roundw
            case rel => exact ⟨k + 1, by go_num, by omega, HN1.out, HF4.out⟩
            case measure => simp [intOf]; omega
          | false =>
            have h2 := HPP.out.trans (if_neg (by simp))
            by_cases c2 : rq = 0
            · have HN1 := hide (HNEXT.out (h2.trans (if_pos c2)))
              have HF4 := hide (((HF2.out.toP HB4.out)).from_ HK2.out.1 HK2.out.2)
              have d1 : decide (0 < rq) = false := by simp; omega
              clear c2 h2
              go_wp2
              go_roundw
              case rel => exact ⟨k + 1, by go_num, by omega, HN1.out, HF4.out⟩
              case measure => simp [intOf]; omega
            have h3 := h2.trans (if_neg c2)
            have H3 := hide h3
            have d1 : decide (0 < rq) = true := by simp; omega
            clear c2 h2 h3
            go_wp2_with fail
            refine (HPA.out trivial _ HB4.out).mono ?_
            rintro e w5 ⟨rfl, hf5⟩
            have hf5' := (hf5.after HB4.out).from_ HK2.out.1 HK2.out.2
            clear hf5
            obtain ⟨R, hR⟩ : ∃ R, patO C.S C.cwd (knownsF C.L) C.target r p = R := ⟨_, rfl⟩
            rw [hR] at H3 hf5' ⊢
            clear hR
            cases R with
            | none =>
              have HN1 := hide (HNEXT.out H3.out)
              have HF5 := hide (show FIP w0 C g (some b) (knownsF C.L) p T1 w3 w5 from hf5')
              clear hf5'
              simp only [Option.isSome_none]
              go_wp2
              go_roundw
              case rel => exact ⟨k + 1, by go_num, by omega, HN1.out, HF5.out⟩
              case measure => simp [intOf]; omega
            | some q =>
              have HE := hide (fits_1 (HSTEP.out q H3.out))
              have HF5 := hide (HFIN.out w5 q hf5')
              clear hf5'
              simp only [Option.isSome_some]
              go_wp2
              (try simp only [Exit.inBlock, Exit.then])
              refine bodyPost_ret (results_none rfl _ _ _) rfl ?_
              rw [HE.out]
              exact ⟨rfl, b, HF5.out⟩
        · obtain rfl : n = k := by omega
          have hnone := HFN.out
          rw [List.take_of_length_le (by have := HN.out; omega)] at hnone
          have HNONE := hide hnone
          obtain ⟨T2, f2, k2, g2⟩ := HFP.out
          obtain ⟨_, _, _, _, hg2, _⟩ := f2.opn
          have hx1 : wr.cell? ⟨g, 1, none⟩ = some (.slice C.A n C.c) := by rw [← HN.out]; exact cellOf hg2 (j := 1) rfl
          have HF2 := hide f2
          have HK2 := hide (And.intro k2 g2)
          clear hnone hg2 f2 k2 g2 HFN
          go_wp2
          go_loopw [9, 68] (fun _ v68 wr => ∃ k : Nat, v68 = .int .i64 k ∧ k ≤ n ∧ Hid (firstO (suf1 C.S C.cwd (knownsF C.L) C.target (specialR C.L suffixes) p) (C.L.take k) = none) ∧ FIP w0 C g (some b) (knownsF C.L) p T1 w3 wr) (fun _ v68 _ => n - (intOf v68).toNat)
          case atStart => exact ⟨0, rfl, by omega, rfl, HFP.out⟩
          case round =>
            obtain ⟨k, rfl, hk, HFN, hfp⟩ := hrel
            have HFP := hide hfp
            clear hfp hx1
            by_cases hlt : k < n
            · obtain ⟨r, hr⟩ : ∃ r, C.L[k]? = some r := ⟨C.L[k]'(by have := HN.out; omega), List.getElem?_eq_getElem _⟩
              have hrk0 := HRL.out.2 r (List.mem_of_getElem? hr)
              have hrz := HCS.out.rl r (List.mem_of_getElem? hr)
              have HRZ := hide (And.intro hrk0 hrz)
              obtain ⟨T2, f2, k2, g2⟩ := HFP.out
              have HF2 := hide f2
              have HK2 := hide (And.intro k2 g2)
              have HAR := hide (HRL.out.below f2.below)
              have HRK := hide (hrk0.below f2.below)
              obtain ⟨gr, o, hgo, hgg, hc⟩ := HAR.out.1 k r hr
              have hc1 : wr.cell? ⟨gr, o + k * 3, none⟩ = some (sv r.tg) := by have := hc 0 _ rfl; simpa using this
              have hc2 : wr.cell? ⟨gr, o + k * 3 + 1, none⟩ = some (sv r.nd) := hc 1 _ rfl
              have hc3 : wr.cell? ⟨gr, o + k * 3 + 2, none⟩ = some (sv r.rc) := hc 2 _ rfl
              have HSTEP := hide (fun q (hf : suf1 C.S C.cwd (knownsF C.L) C.target (specialR C.L suffixes) p r = some q) => firstO_found _ C.L k r q HFN.out hr hf)
              have HNEXT := hide (fun (hf : suf1 C.S C.cwd (knownsF C.L) C.target (specialR C.L suffixes) p r = none) => firstO_step _ C.L k r HFN.out hr hf)
              have b1 : (k : Int) < (n : Int) := by omega
              rw [hgo]
              clear hc hr hrk0 hrz f2 k2 g2
              have hnb := heapNew wr (.cells #[.slice r.tg.1 r.tg.2.2.length r.tg.2.1, .slice r.nd.1 r.nd.2.2.length r.nd.2.1, .slice r.rc.1 r.rc.2.2.length r.rc.2.1] 30)
              have hba := (Below.refl wr.heap.size wr).alloc (Nat.le_refl _) (.cells #[.slice r.tg.1 r.tg.2.2.length r.tg.2.1, .slice r.nd.1 r.nd.2.2.length r.nd.2.1, .slice r.rc.1 r.rc.2.2.length r.rc.2.1] 30)
              have HNB := hide hnb
              have HBA := hide hba
              clear hnb hba
              have HSU := hide (fun W (hb : Below wr.heap.size wr W) => suffix_any w0 C g b (knownsF C.L) p T2 r As cs sl W (HOK.out W (below_up HF2.out.below hb HF2.out.below.size)) (HF2.out.step hb) HRZ.out.1 HRZ.out.2 ((HSL.out wr HK2.out.1).below hb) HSPZ.out (by have := HM.out; omega) hl)
              rw [HM.out] at HSU
              have hP : suf1 C.S C.cwd (knownsF C.L) C.target (specialR C.L suffixes) p r = if r.rc.2.2.length = 0 then none else sufO C.S C.cwd (knownsF C.L) C.target (specialR C.L suffixes) r p := rfl
              rw [HSLL.out] at hP HSTEP HNEXT
              obtain ⟨rq, hrq⟩ : ∃ b, r.rc.2.2.length = b := ⟨_, rfl⟩
              rw [hrq] at hP
              have HPP := hide hP
              unfold sv at hc1 hc2 hc3 HSU
              simp only [hrq] at hc3 HSU HNB HBA
              have hd2 : (wr.alloc (.cells #[.slice r.tg.1 r.tg.2.2.length r.tg.2.1, .slice r.nd.1 r.nd.2.2.length r.nd.2.1, .slice r.rc.1 rq r.rc.2.1] 30)).cell? ⟨wr.heap.size, 2, none⟩ = some (.slice r.rc.1 rq r.rc.2.1) := cellOf' HNB.out (j := 2) rfl
              clear hP hrq
              by_cases c2 : rq = 0
              · have HN1 := hide (HNEXT.out (HPP.out.trans (if_pos c2)))
                have HF4 := hide (((HF2.out.toP HBA.out)).from_ HK2.out.1 HK2.out.2)
                have d1 : decide (0 < rq) = false := by simp; omega
                clear c2
                go_wp2
                go_roundw
                case rel => exact ⟨k + 1, by go_num, by omega, by rw [HSLL.out]; exact HN1.out, HF4.out⟩
                case measure => simp [intOf]; omega
              have H3 := hide (HPP.out.trans (if_neg c2))
              have d1 : decide (0 < rq) = true := by simp; omega
              clear c2
              go_wp2_with fail
              refine (HSU.out _ HBA.out).mono ?_
              rintro e w5 ⟨rfl, hf5⟩
              have hf5' := (hf5.after HBA.out).from_ HK2.out.1 HK2.out.2
              clear hf5
              obtain ⟨R, hR⟩ : ∃ R, sufO C.S C.cwd (knownsF C.L) C.target sl r p = R := ⟨_, rfl⟩
              rw [hR] at H3 hf5' ⊢
              clear hR
              cases R with
              | none =>
                have HN1 := hide (HNEXT.out H3.out)
                have HF5 := hide (show FIP w0 C g (some b) (knownsF C.L) p T1 w3 w5 from hf5')
                clear hf5'
                simp only [Option.isSome_none]
                go_wp2
                go_roundw
                case rel => exact ⟨k + 1, by go_num, by omega, by rw [HSLL.out]; exact HN1.out, HF5.out⟩
                case measure => simp [intOf]; omega
              | some q =>
                have HE := hide (fits_2 HNONE.out (by rw [HSLL.out]; exact HSTEP.out q H3.out))
                have HF5 := hide (HFIN.out w5 q hf5')
                clear hf5'
                simp only [Option.isSome_some]
                go_wp2
                (try simp only [Exit.inBlock, Exit.then])
                refine bodyPost_ret (results_none rfl _ _ _) rfl ?_
                rw [HE.out]
                exact ⟨rfl, b, HF5.out⟩
            · obtain rfl : n = k := by omega
              have hnone := HFN.out
              rw [List.take_of_length_le (by have := HN.out; omega)] at hnone
              have HE := hide (fits_3 HNONE.out hnone)
              have HF5 := hide (HFIN.out wr p HFP.out)
              clear hnone
              go_wp2
              go_end0
              rw [HE.out]
              exact ⟨rfl, b, HF5.out⟩
end Go.Proofs.YtmblmenafplccaaGreatDoor
