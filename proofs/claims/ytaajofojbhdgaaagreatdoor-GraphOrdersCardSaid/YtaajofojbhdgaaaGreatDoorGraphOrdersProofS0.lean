/- Walks and plain facts that the claim uses. -/
import Derived.Test.YtaajofojbhdgaaaGreatDoorP22x6
set_option maxRecDepth 100000
set_option maxHeartbeats 16000000
set_option linter.unusedSimpArgs false
set_option linter.unusedVariables false
namespace Go.Proofs.YtaajofojbhdgaaaGreatDoor
section
open Go.RowKit Go.Deep Go.Maps Ln Pth Vf
attribute [local go_sem] bt_eq
def gdT (s : ByteArray) : Bool := !Lib.hasPrefix s.data.toList [46] || decide ((47 : UInt8) ∈ s.data.toList)
def goal1 (r : Rl) : Option ByteArray := match r.tg.2.2 with
 | [] => none
 | t :: l => if (t :: l).any isP = true then none else if gdT t = true then some t else none
def goalO : List Rl → Option ByteArray
 | [] => none
 | r :: L => match goal1 r with
   | some t => some t
   | none => goalO L
theorem goalO_drop {L : List Rl} {k : Nat} {r : Rl} (h : L[k]? = some r) : goalO (L.drop k) = match goal1 r with
   | some t => some t
   | none => goalO (L.drop (k + 1)) := by
 obtain ⟨h1, h2⟩ := List.getElem?_eq_some_iff.1 h
 rw [List.drop_eq_getElem_cons h1, h2, goalO]
def gR (o : Option ByteArray) : Value := match o with
 | some t => .tuple #[.string t, .bool true]
 | none => .tuple #[.string ⟨#[]⟩, .bool false]
theorem goal1_any (s : ByteArray) (w : World) : Calls Tryz.prog 47 #[.string s] w fun e w' => e = .returned (.bool (isP s)) ∧ w = w' := by
 have h := Tryz.strings_Contains_one s 37 w
 rw [show decide (0 ≤ Lib.indexByte s.data.toList 37) = isP s from decide_eq_decide.2 (ixb_mem 37 _)] at h
 have H := hide h
 clear h
 generalize isP s = b at *
 go_enter Tryz.func47, Tryz.ntmps47
 go_wp2_with fail
 refine H.out.mono ?_
 rintro e w' ⟨rfl, rfl⟩
 go_wp2
 go_ret
 exact ⟨rfl, rfl⟩
theorem ggoal_any (mac : Value) (A : Option Addr) (c : Nat) (L : List Rl) (w : World) (hA : RLS w A L) (hl : L.length ≤ 1000) :
   Calls Tryz.prog 25 #[.agg #[mac, .slice A L.length c]] w fun e w' => e = .returned (gR (goalO L)) ∧ Below w.heap.size w w' := by
 have HA := hide hA
 obtain ⟨n, hn⟩ : ∃ n, L.length = n := ⟨_, rfl⟩
 have HN := hide hn
 rw [hn] at hl ⊢
 clear hn hA
 have hn1 : (n : Int) ≤ 1000 := by omega
 go_enter Tryz.func25, Tryz.ntmps25
 go_wp2
 have HB0 := hide ((Below.refl w.heap.size w).alloc (Nat.le_refl _) (.cells #[mac, .slice A n c] 25))
 generalize w.alloc (.cells #[mac, .slice A n c] 25) = W at HB0 ⊢
 go_loopw [2, 3, 5, 6, 10] (fun _ _ _ _ v10 wr => ∃ k : Nat, v10 = .int .i64 k ∧ k ≤ n ∧ Hid (goalO (L.drop k) = goalO L) ∧ Below w.heap.size w wr) (fun _ _ _ _ v10 _ => n - (intOf v10).toNat)
 case atStart => exact ⟨0, rfl, by omega, rfl, HB0.out⟩
 case round =>
   obtain ⟨k, rfl, hk, HG, hb⟩ := hrel
   have HB := hide hb
   have HAR := hide (HA.out.below hb)
   clear hb
   by_cases hlt : k < n
   · obtain ⟨r, hr⟩ : ∃ r, L[k]? = some r := ⟨L[k]'(by have := HN.out; omega), gE _⟩
     obtain ⟨g, o, rfl, hg, hc⟩ := HAR.out.1 k r hr
     have HRK := hide (HAR.out.2 r (List.mem_of_getElem? hr))
     have hc1 : wr.cell? ⟨g, o + k * 3, none⟩ = some (sv r.tg) := by have := hc 0 _ rfl; simpa using this
     have hc2 : wr.cell? ⟨g, o + k * 3 + 1, none⟩ = some (sv r.nd) := hc 1 _ rfl
     have hc3 : wr.cell? ⟨g, o + k * 3 + 2, none⟩ = some (sv r.rc) := hc 2 _ rfl
     have HD := hide (HG.out.symm.trans (goalO_drop hr))
     have b1 : (k : Int) < (n : Int) := by omega
     obtain ⟨x1, x2, x3, hsn⟩ : ∃ A n c, sv r.nd = .slice A n c := ⟨_, _, _, rfl⟩
     obtain ⟨y1, y2, y3, hsr⟩ : ∃ A n c, sv r.rc = .slice A n c := ⟨_, _, _, rfl⟩
     rw [hsn] at hc2
     rw [hsr] at hc3
     clear hc hr
     have hbr := HB.out.alloc HB.out.size (.cells #[sv r.tg, .slice x1 x2 x3, .slice y1 y2 y3] 63)
     have HBR := hide hbr
     have hbx := (Below.refl wr.heap.size wr).alloc (Nat.le_refl _) (.cells #[sv r.tg, .slice x1 x2 x3, .slice y1 y2 y3] 63)
     have hnb := heapNew wr (.cells #[sv r.tg, .slice x1 x2 x3, .slice y1 y2 y3] 63)
     have hbw := below_up HB.out hbx HB.out.size
     have HTG := hide (HRK.out.tg.below hbx)
     have hlt1 := HRK.out.t1
     have hg1 : goal1 r = match r.tg.2.2 with
       | [] => none
       | t :: l => if (t :: l).any isP = true then none else if gdT t = true then some t else none := rfl
     obtain ⟨⟨At, ct, Lt⟩, hrt⟩ : ∃ x : SRow, r.tg = x := ⟨_, rfl⟩
     rw [hrt] at hc1 hbr hbx hnb HBR HTG hlt1 hg1 hbw
     dsimp only at HTG hlt1 hg1
     clear HRK hrt hsn hsr
     cases Lt with
     | nil =>
       have HE := hide (show goalO (L.drop (k + 1)) = goalO L by rw [HD.out, hg1])
       have hl0 : sv (At, ct, ([] : List ByteArray)) = .slice At 0 ct := rfl
       rw [hl0] at hc1 HBR
       clear hg1 HD hbr hbx hnb hbw
       go_wp2
       go_roundw
       case rel => exact ⟨k + 1, by go_num, by omega, HE.out, HBR.out⟩
       case measure => simp [intOf]; omega
     | cons t l =>
       dsimp only at hg1
       obtain ⟨gt, ot, rfl, hgt, hct⟩ := HTG.out 0 t rfl
       rw [Nat.add_zero] at hct
       have HCF := hide (contf_any isP 47 #[] (fun _ _ => by kernel_rfl) (some ⟨gt, ot, none⟩) ct (t :: l) (wr.alloc (.cells #[sv (some ⟨gt, ot, none⟩, ct, t :: l), .slice x1 x2 x3, .slice y1 y2 y3] 63)) (by omega) HTG.out (fun W' x _ hb' => (goal1_any x W').mono (fun e w' ⟨h1, h2⟩ => ⟨h1, h2 ▸ hb'⟩)))
       have hl0 : sv (some (⟨gt, ot, none⟩ : Addr), ct, t :: l) = .slice (some ⟨gt, ot, none⟩) (l.length + 1) ct := rfl
       rw [hl0] at hc1 HBR hnb HCF hct hbx
       simp only [List.length_cons] at HCF
       obtain ⟨m, hm⟩ : ∃ m, l.length = m := ⟨_, rfl⟩
       rw [hm] at hc1 HBR hnb HCF hct hbx
       obtain ⟨pb, hpb⟩ : ∃ b, (t :: l).any isP = b := ⟨_, rfl⟩
       rw [hpb] at HCF
       have hm0 : ((m : Int) + 1 == 0) = false := by simp; omega
       have hm1 : (0 : Int) < (m : Int) + 1 := by omega
       cases pb with
       | true =>
         have HE := hide (show goalO (L.drop (k + 1)) = goalO L by rw [HD.out, hg1, hpb, if_pos rfl])
         have HBR2 := hide (HBR.out)
         clear hg1 HD hbr hbx hnb hbw hm hct hpb HTG
         go_wp2_with fail
         refine HCF.out.mono ?_
         rintro e w2 ⟨rfl, hb2⟩
         have HB2 := hide (below_up HBR.out hb2 HBR.out.size)
         clear hb2
         go_wp2
         go_roundw
         case rel => exact ⟨k + 1, by go_num, by omega, HE.out, HB2.out⟩
         case measure => simp [intOf]; omega
       | false =>
         rw [hpb, if_neg (by simp)] at hg1
         have hpf := Tryz.strings_HasPrefix t ⟨#[46]⟩
         rw [show (⟨#[46]⟩ : ByteArray).data.toList = [46] from rfl] at hpf
         have hcn := Tryz.strings_Contains_one t 47
         rw [show decide (0 ≤ Lib.indexByte t.data.toList 47) = decide ((47 : UInt8) ∈ t.data.toList) from decide_eq_decide.2 (ixb_mem 47 _)] at hcn
         have hgd : gdT t = (!Lib.hasPrefix t.data.toList [46] || decide ((47 : UInt8) ∈ t.data.toList)) := rfl
         obtain ⟨hp, hhp⟩ : ∃ b, Lib.hasPrefix t.data.toList [46] = b := ⟨_, rfl⟩
         obtain ⟨cb, hcb⟩ : ∃ b, decide ((47 : UInt8) ∈ t.data.toList) = b := ⟨_, rfl⟩
         rw [hhp] at hpf hgd
         rw [hcb] at hcn hgd
         have HPF := hide hpf
         have HCN := hide hcn
         have HG1 := hide hg1
         have HGD := hide hgd
         have HNB := hide hnb
         have HCT := hide hct
         clear hg1 hgd hpf hcn hbr hbw hm hpb HTG hhp hcb hnb hct hbx
         go_wp2_with fail
         refine HCF.out.mono ?_
         rintro e w2 ⟨rfl, hb2⟩
         have HB2 := hide (below_up HBR.out hb2 HBR.out.size)
         have hn0 := cellOf ((hb2.block wr.heap.size (by simp)).trans HNB.out) (j := 0) (v := .slice (some ⟨gt, ot, none⟩) (m + 1) ct) rfl
         have hct := (hb2.cell (p := ⟨gt, ot, none⟩) (by simpa using hgt)).trans HCT.out
         clear hb2
         go_wp2_with fail
         refine (HPF.out w2).mono ?_
         rintro e w' ⟨rfl, hw'⟩
         obtain rfl := hw'.symm
         cases hp with
         | false =>
           have HE := hide (show goalO L = some t by rw [HD.out, HG1.out, HGD.out]; rfl)
           go_wp2
           go_ret2
           rw [HE.out]
           exact ⟨rfl, HB2.out⟩
         | true =>
           go_wp2_with fail
           refine (HCN.out w2).mono ?_
           rintro e w' ⟨rfl, hw'⟩
           obtain rfl := hw'.symm
           cases cb with
           | true =>
             have HE := hide (show goalO L = some t by rw [HD.out, HG1.out, HGD.out]; rfl)
             go_wp2
             go_ret2
             rw [HE.out]
             exact ⟨rfl, HB2.out⟩
           | false =>
             have HE := hide (show goalO (L.drop (k + 1)) = goalO L by rw [HD.out, HG1.out, HGD.out]; rfl)
             go_wp2
             go_roundw
             case rel => exact ⟨k + 1, by go_num, by omega, HE.out, HB2.out⟩
             case measure => simp [intOf]; omega
   · obtain rfl : n = k := by omega
     have HE := hide (show goalO L = none by
       have := HG.out
       rw [List.drop_of_length_le (by have := HN.out; omega)] at this
       exact this.symm)
     go_wp2
     go_ret2
     rw [HE.out]
     exact ⟨rfl, HB.out⟩
end
section
open Go.RowKit Go.Deep Go.Maps Ln Pth Vf
end
section
open Go.RowKit Go.Deep Go.Maps Ln Pth Vf
attribute [local go_sem] bt_eq
theorem goal1_nil (A : Option Addr) (c : Nat) (nd rc : SRow) : goal1 ⟨(A, c, []), nd, rc⟩ = none := rfl
theorem goal1_consE (A : Option Addr) (c : Nat) (t : ByteArray) (l : List ByteArray) (nd rc : SRow) : goal1 ⟨(A, c, t :: l), nd, rc⟩ = if (t :: l).any isP = true then none else if gdT t = true then some t else none := rfl
theorem rgoal_any (mac : Value) (A : Option Addr) (c : Nat) (L : List Rl) (w : World) (hA : RLS w A L) (hl : L.length ≤ 1000) (hz : ∀ r ∈ L, ∀ s ∈ r.tg.2.2, s.size ≤ 800000) :
   Calls Tryz.prog 26 #[.agg #[mac, .slice A L.length c]] w fun e w' => e = .returned (gR (goalO L)) ∧ Below w.heap.size w w' := by
 have HA := hide hA
 have HZ := hide hz
 obtain ⟨n, hn⟩ : ∃ n, L.length = n := ⟨_, rfl⟩
 have HN := hide hn
 rw [hn] at hl ⊢
 clear hn hA hz
 have hn1 : (n : Int) ≤ 1000 := by omega
 go_enter Tryz.func26, Tryz.ntmps26
 go_wp2
 have HB0 := hide ((Below.refl w.heap.size w).alloc (Nat.le_refl _) (.cells #[mac, .slice A n c] 25))
 have HNM := hide (heapNew w (.cells #[mac, .slice A n c] 25))
 generalize w.alloc (.cells #[mac, .slice A n c] 25) = W at HB0 HNM ⊢
 go_loopw [4, 5, 6] (fun v4 _ _ wr => ∃ k : Nat, v4 = .int .i64 k ∧ k ≤ n ∧ Hid (goalO (L.drop k) = goalO L) ∧ Below w.heap.size w wr ∧ wr.heap[w.heap.size]? = some (.cells #[mac, .slice A n c] 25)) (fun v4 _ _ _ => n - (intOf v4).toNat)
 case atStart => exact ⟨0, rfl, by omega, rfl, HB0.out, HNM.out⟩
 case round =>
   obtain ⟨k, rfl, hk, HG, hb, hnm⟩ := hrel
   have HB := hide hb
   have HNW := hide hnm
   have hm1 := cellOf hnm (j := 1) (v := .slice A n c) rfl
   have HAR := hide (HA.out.below hb)
   clear hb hnm
   by_cases hlt : k < n
   · obtain ⟨r, hr⟩ : ∃ r, L[k]? = some r := ⟨L[k]'(by have := HN.out; omega), gE _⟩
     obtain ⟨g, o, rfl, hg, hc⟩ := HAR.out.1 k r hr
     have HRK := hide (HAR.out.2 r (List.mem_of_getElem? hr))
     have hzr := HZ.out r (List.mem_of_getElem? hr)
     have hc1 : wr.cell? ⟨g, o + k * 3, none⟩ = some (sv r.tg) := by have := hc 0 _ rfl; simpa using this
     have hc2 : wr.cell? ⟨g, o + k * 3 + 1, none⟩ = some (sv r.nd) := hc 1 _ rfl
     have hc3 : wr.cell? ⟨g, o + k * 3 + 2, none⟩ = some (sv r.rc) := hc 2 _ rfl
     have HD := hide (HG.out.symm.trans (goalO_drop hr))
     have b1 : (k : Int) < (n : Int) := by omega
     obtain ⟨⟨ta, tc, tl⟩, ⟨na, nc, nl⟩, ⟨ra, rc, rl⟩⟩ := r
     unfold sv at hc1 hc2 hc3
     dsimp only at hc1 hc2 hc3 hzr
     obtain ⟨O, hO⟩ : ∃ O : Obj, Obj.cells #[.slice ta tl.length tc, .slice na nl.length nc, .slice ra rl.length rc] 63 = O := ⟨_, rfl⟩
     have hbx := (Below.refl wr.heap.size wr).alloc (Nat.le_refl _) O
     have HBX := hide hbx
     have hnb := heapNew wr O
     have HNB := hide hnb
     have HPL := hide (fun Z (hb : Below wr.heap.size wr Z) => rplain_any ⟨(ta, tc, tl), (na, nc, nl), (ra, rc, rl)⟩ Z (HRK.out.below hb) hzr)
     unfold sv at HPL
     dsimp only at HPL
     have HTG := hide (fun Z (hb : Below wr.heap.size wr Z) => HRK.out.tg.below hb)
     dsimp only at HTG
     have hlt1 := HRK.out.t1
     dsimp only at hlt1
     have hgw : w.heap.size < wr.heap.size := (Array.getElem?_eq_some_iff.1 HNW.out).1
     have HNX := hide (fun Z (hb : Below wr.heap.size wr Z) => (hb.block w.heap.size hgw).trans HNW.out)
     subst hO
     clear hc hr hnb hgw HRK
     cases tl with
     | nil =>
       have HE := hide (show goalO (L.drop (k + 1)) = goalO L by rw [HD.out, goal1_nil])
       rw [show plainR [] = true from rfl] at HPL
       simp only [List.length_nil] at *
       clear HD hbx
       go_wp2_with fail
       refine (HPL.out _ HBX.out).mono ?_
       rintro e w2 ⟨rfl, hb2⟩
       have hn0 := cellOf ((hb2.block wr.heap.size (by simp)).trans HNB.out) (j := 0) (v := .slice ta 0 tc) rfl
       have HBW := hide (below_up HBX.out hb2 HBX.out.size)
       clear hb2
       go_wp2
       go_roundw
       case rel => exact ⟨k + 1, by go_num, by omega, HE.out, below_up HB.out HBW.out HB.out.size, HNX.out _ HBW.out⟩
       case measure => simp [intOf]; omega
     | cons t l =>
       rw [goal1_consE] at HD
       have htz := hzr t (by simp)
       obtain ⟨gt, ot, rfl, hgt, hct⟩ := HTG.out wr (Below.refl _ _) 0 t rfl
       rw [Nat.add_zero] at hct
       have HCT := hide hct
       rw [List.length_cons] at *
       obtain ⟨m, hm⟩ : ∃ m, l.length = m := ⟨_, rfl⟩
       try rw [hm] at HNB
       try rw [hm] at HBX
       try rw [hm] at HPL
       try rw [hm] at hc1
       try rw [hm] at hlt1
       obtain ⟨pb, hpb⟩ : ∃ b, plainR (t :: l) = b := ⟨_, rfl⟩
       rw [hpb] at HPL
       have hany : (t :: l).any isP = !pb := by rw [← hpb]; unfold plainR; rw [Bool.not_not]
       rw [hany] at HD
       have hm0 : ((m : Int) + 1 == 0) = false := by simp; omega
       have hm1 : (0 : Int) < (m : Int) + 1 := by omega
       clear hany hbx hm hpb hct
       cases pb with
       | false =>
         have HE := hide (show goalO (L.drop (k + 1)) = goalO L by rw [HD.out]; rfl)
         clear HD
         go_wp2_with fail
         refine (HPL.out _ HBX.out).mono ?_
         rintro e w2 ⟨rfl, hb2⟩
         have HBW := hide (below_up HBX.out hb2 HBX.out.size)
         clear hb2
         go_wp2
         go_roundw
         case rel => exact ⟨k + 1, by go_num, by omega, HE.out, below_up HB.out HBW.out HB.out.size, HNX.out _ HBW.out⟩
         case measure => simp [intOf]; omega
       | true =>
         rw [show (if (!true) = true then none else if gdT t = true then some t else none) = if gdT t = true then some t else none from rfl] at HD
         have HPF := hide (fun Z => rbegins_any t ⟨#[46]⟩ Z)
         have HAT := hide (fun Z => rat0_any t.data.toList 47 Z (by rw [data_len]; omega))
         have hgd : gdT t = (!Lib.hasPrefix t.data.toList [46] || decide ((47 : UInt8) ∈ t.data.toList)) := rfl
         have hix : decide ((47 : UInt8) ∈ t.data.toList) = decide (0 ≤ Lib.indexByte t.data.toList 47) := (decide_eq_decide.2 (ixb_mem 47 _)).symm
         have hge := ixb_ge 47 t.data.toList
         rw [hix] at hgd
         rw [bs_of] at HAT
         rw [show (⟨#[46]⟩ : ByteArray).data.toList = [46] from rfl] at HPF
         obtain ⟨hp, hhp⟩ : ∃ b, Lib.hasPrefix t.data.toList [46] = b := ⟨_, rfl⟩
         obtain ⟨q, hq⟩ : ∃ q, Lib.indexByte t.data.toList 47 = q := ⟨_, rfl⟩
         rw [hhp] at HPF hgd
         rw [hq] at HAT hgd hge
         have HGD := hide hgd
         clear hgd hix hhp hq
         go_wp2_with fail
         refine (HPL.out _ HBX.out).mono ?_
         rintro e w2 ⟨rfl, hb2⟩
         have HBW := hide (below_up HBX.out hb2 HBX.out.size)
         have hn0 := cellOf ((hb2.block wr.heap.size (by simp)).trans HNB.out) (j := 0) (v := .slice (some ⟨gt, ot, none⟩) (m + 1) tc) rfl
         have hct2 := (HBW.out.cell (p := ⟨gt, ot, none⟩) hgt).trans HCT.out
         clear hb2
         go_wp2_with fail
         refine (HPF.out w2).mono ?_
         rintro e w' ⟨rfl, hw'⟩
         obtain rfl := hw'
         cases hp with
         | false =>
           have HE := hide (show goalO L = some t by rw [HD.out, HGD.out]; rfl)
           go_wp2
           go_ret2
           rw [HE.out]
           exact ⟨rfl, below_up HB.out HBW.out HB.out.size⟩
         | true =>
           go_wp2_with fail
           refine (HAT.out w2).mono ?_
           rintro e w' ⟨rfl, hw'⟩
           obtain rfl := hw'
           by_cases hq0 : 0 ≤ q
           · have HE := hide (show goalO L = some t by rw [HD.out, HGD.out, decide_eq_true hq0]; rfl)
             go_wp2
             go_ret2
             rw [HE.out]
             exact ⟨rfl, below_up HB.out HBW.out HB.out.size⟩
           · have HE := hide (show goalO (L.drop (k + 1)) = goalO L by rw [HD.out, HGD.out, decide_eq_false hq0]; rfl)
             obtain rfl : q = -1 := by omega
             go_wp2
             go_roundw
             case rel => exact ⟨k + 1, by go_num, by omega, HE.out, below_up HB.out HBW.out HB.out.size, HNX.out _ HBW.out⟩
             case measure => simp [intOf]; omega
   · obtain rfl : n = k := by omega
     have HE := hide (show goalO L = none by
       have := HG.out
       rw [List.drop_of_length_le (by have := HN.out; omega)] at this
       exact this.symm)
     go_wp2
     go_ret2
     rw [HE.out]
     exact ⟨rfl, HB.out⟩
end
section
open Go.RowKit Go.Deep Go.Maps Ln Pth Vf
attribute [local go_sem] bt_eq
theorem law_graphOrders (K : Nat) (hK : K ≤ 140737488355328) (X : MkV) (A : Option Addr) (c : Nat) (L : List Ac4) (cwd : ByteArray) (SA : Option Addr) (sc : Nat) (sl : List ByteArray)
   (m0 : L.length ≤ maxLen) (s0 : ∀ x ∈ L, szA x) (zc : cwd.size ≤ K) (mS : sl.length ≤ maxLen) (zS : ∀ x ∈ sl, x.size ≤ K)
   (W : World) (hm : MX W) (hX : MkIn K W X) (hA : AR4 W A L) (hS : SR W SA sl) :
   Calls Tryz.prog 6 #[.agg #[X.mv, X.rv], .slice A L.length c, .string cwd, .slice SA sl.length sc] W fun e w' => e = .returned (.bool true) ∧ Below W.heap.size W w' := by
 have HBM := hide (fun Z (hb : Below W.heap.size W Z) => bigM_any K (by omega) X Z (hX.below hb))
 have HBG := hide (fun Z (hb : Below W.heap.size W Z) => big_any A c L Z (hA.below hb).1 m0 s0)
 have HTR := hide (fun (h : bigF L = false) Z (hb : Below W.heap.size W Z) => trees_any A c L Z (hm.below hb) (hA.below hb) h)
 have HAL := hide (fun Z (hb : Below W.heap.size W Z) => alive22_any Z (hm.below hb))
 have HM := hide hm
 have HX := hide hX
 have HSS := hide hS
 have HZS := hide zS
 have mS1 : sl.length ≤ 9223372036854775807 := mS
 have m01 : L.length ≤ 9223372036854775807 := m0
 have zc1 : cwd.size ≤ 140737488355328 := Nat.le_trans zc hK
 obtain ⟨ma, mc, ml, ra, rc, M⟩ := X
 simp only at HBM
 have HRR := hide (show RLI K W ra M from HX.out.rr)
 unfold MkV.mv MkV.rv at HBM ⊢
 simp only at HBM ⊢
 obtain ⟨mn, hmn⟩ : ∃ n, ml.length = n := ⟨_, rfl⟩
 obtain ⟨rn, hrn⟩ : ∃ n, M.length = n := ⟨_, rfl⟩
 obtain ⟨an, han⟩ : ∃ n, L.length = n := ⟨_, rfl⟩
 obtain ⟨nn, hnn⟩ : ∃ n, sl.length = n := ⟨_, rfl⟩
 have HRN := hide hrn
 have HNN := hide hnn
 rw [hmn, hrn] at HBM
 rw [han] at HBG HTR
 rw [hmn, hrn, han, hnn]
 rw [han] at m01
 rw [hnn] at mS1
 have HSM := hide (fun (h : bigM ml M = false) => bigM_no h)
 obtain ⟨bm, hbm⟩ : ∃ b, bigM ml M = b := ⟨_, rfl⟩
 obtain ⟨bf, hbf⟩ : ∃ b, bigF L = b := ⟨_, rfl⟩
 rw [hbm] at HBM HSM
 rw [hbf] at HBG HTR
 clear hm hX hA hS zS m0 s0 zc mS hmn hrn han hnn hbm hbf HX
 have HB0 := hide ((Below.refl W.heap.size W).alloc (Nat.le_refl _) (.cells #[.slice ma mn mc, .slice ra rn rc] 25))
 have HNB := hide (heapNew W (.cells #[.slice ma mn mc, .slice ra rn rc] 25))
 go_enter Tryz.func6, Tryz.ntmps6
 go_wp2_with fail
 refine (HAL.out _ HB0.out).mono ?_
 rintro e w1 ⟨rfl, hb1⟩
 have hh1 := (hb1.block W.heap.size (by simp)).trans HNB.out
 have hd0 := cellOf' hh1 (j := 0) rfl
 have hd1 := cellOf' hh1 (j := 1) rfl
 have HH1 := hide hh1
 have HB1 := hide (below_up HB0.out hb1 HB0.out.size)
 clear hb1 hh1
 go_wp2_with fail
 refine (HBM.out _ HB1.out).mono ?_
 rintro e w2 ⟨rfl, hb2⟩
 have hlw := (Array.getElem?_eq_some_iff.1 HH1.out).1
 have hh2 := (hb2.block W.heap.size hlw).trans HH1.out
 have HH2 := hide hh2
 have HB2 := hide (below_up HB1.out hb2 HB1.out.size)
 clear hb2 hh2 hlw hd0 hd1
 cases bm with
 | true =>
   go_wp2
   go_ret
   exact ⟨rfl, HB2.out⟩
 | false =>
 have hsm := HSM.out rfl
 go_wp2_with fail
 refine (HBG.out _ HB2.out).mono ?_
 rintro e w' ⟨rfl, rfl⟩
 cases bf with
 | true =>
   go_wp2
   go_ret
   exact ⟨rfl, HB2.out⟩
 | false =>
 by_cases g1 : 20 < an
 · have q1 : decide ((20 : Int) < (an : Int)) = true := by simp; omega
   have r1 : decide (20 < an) = true := by simpa using g1
   clear g1
   go_wp2
   go_ret
   exact ⟨rfl, HB2.out⟩
 have q1 : decide ((20 : Int) < (an : Int)) = false := by simp; omega
 have r1 : decide (20 < an) = false := by simpa using g1
 by_cases g2 : 60 < cwd.size
 · have q2 : decide ((60 : Int) < (cwd.size : Int)) = true := by simp; omega
   have r2 : decide (60 < cwd.size) = true := by simpa using g2
   clear g2
   go_wp2
   go_ret
   exact ⟨rfl, HB2.out⟩
 have q2 : decide ((60 : Int) < (cwd.size : Int)) = false := by simp; omega
 have r2 : decide (60 < cwd.size) = false := by simpa using g2
 by_cases g3 : 10 < nn
 · have q3 : decide ((10 : Int) < (nn : Int)) = true := by simp; omega
   have r3 : decide (10 < nn) = true := by simpa using g3
   clear g3
   go_wp2
   go_ret
   exact ⟨rfl, HB2.out⟩
 have q3 : decide ((10 : Int) < (nn : Int)) = false := by simp; omega
 have r3 : decide (10 < nn) = false := by simpa using g3
 have HSW := hide (HSS.out.below HB2.out)
 have hni : (nn : Int) ≤ 100 := by omega
 go_wp2
 go_loop [11] (fun v11 => ∃ k : Nat, v11 = .int .i64 k ∧ k ≤ nn ∧ Hid (∀ (j : Nat) (x : ByteArray), j < k → sl[j]? = some x → x.size ≤ 60)) (fun v11 => nn - (intOf v11).toNat)
 case atStart => exact ⟨0, rfl, by omega, hide (fun j x hj => by omega)⟩
 case round =>
 obtain ⟨k, rfl, hk, HZK⟩ := hrel
 by_cases hlt : k < nn
 · obtain ⟨x, hx⟩ : ∃ x, sl[k]? = some x := ⟨sl[k]'(by have := HNN.out; omega), gE _⟩
   obtain ⟨g, o, rfl, hg, c0⟩ := HSW.out k x hx
   have hxm : x.size ≤ 140737488355328 := Nat.le_trans (HZS.out x (List.mem_of_getElem? hx)) hK
   have b1 : (k : Int) < (nn : Int) := by omega
   by_cases h60 : 60 < x.size
   · have t1 : decide ((60 : Int) < (x.size : Int)) = true := by simp; omega
     have t1' : decide (60 < x.size) = true := by simpa using h60
     clear h60 hx
     go_wp2
     go_ret
     exact ⟨rfl, HB2.out⟩
   · have t1 : decide ((60 : Int) < (x.size : Int)) = false := by simp; omega
     have t1' : decide (60 < x.size) = false := by simpa using h60
     have HZ2 := hide (show ∀ (j : Nat) (y : ByteArray), j < k + 1 → sl[j]? = some y → y.size ≤ 60 from fun j y hj hy => by
       by_cases e : j = k
       · subst e
         rw [hx] at hy
         injection hy with hy
         rw [← hy]
         omega
       · exact HZK.out j y (by omega) hy)
     clear h60 hx
     go_wp2
     go_round
     case rel => exact ⟨k + 1, by go_num, by omega, HZ2⟩
     case measure => simp [intOf]; omega
 obtain rfl : k = nn := by omega
 have hz60 : ∀ x ∈ sl, x.size ≤ 60 := fun x hx => by
   obtain ⟨j, hj⟩ := List.getElem?_of_mem hx
   exact HZK.out j x (by have := (List.getElem?_eq_some_iff.1 hj).1; have := HNN.out; omega) hj
 have HT1 := hide (HTR.out (by first | trivial | rfl) _ HB2.out)
 go_wp2_with fail
 refine HT1.out.mono ?_
 rintro e w3 ⟨f, r, rfl, hi⟩
 have hbi := hi.below
 have hb3 := below_up HB2.out hbi HB2.out.size
 have hlw := (Array.getElem?_eq_some_iff.1 HH2.out).1
 have hh3 := (hbi.block W.heap.size hlw).trans HH2.out
 have hl3 := (Array.getElem?_eq_some_iff.1 hh3).1
 have hvs := Two.vs hi
 have hrs : Hs (RS r (treeS L)) w3 := hi.fst.snd.hs
 have HB3 := hide hb3
 have hgd := treeS_good L
 have hsl : (treeS L).m.length ≤ 1000000 := by have := hgd.wf.nodes; have := hgd.nodes; omega
 have hcl : cwd.data.toList.length ≤ 60 := by rw [data_len]; omega
 have hrl := fun Z (hb : Below w3.heap.size w3 Z) => hsm.rls (HRR.out.below (below_up hb3 hb hb3.size))
 have hml : M.length ≤ 1000 := by have := hsm.rules; omega
 have htz : ∀ x ∈ M, ∀ s ∈ x.tg.2.2, s.size ≤ 800000 := fun x hx s hs => Nat.le_trans (hsm.tgz x hx s hs) (by omega)
 have hgh := fun Z (hb : Below w3.heap.size w3 Z) => gh_small (mac := .slice ma mn mc) (c := rc) (Z := 60) (by omega) hsm (hrl Z hb) (hvs.below (VS.fr f _) hb) (HM.out.below (below_up hb3 hb hb3.size)) hcl
 have hrg := fun Z (hb : Below w3.heap.size w3 Z) => rgh_small (mac := .slice ma mn mc) (c := rc) (Z := 60) (by omega) hsm (hrl Z hb) (hrs.below (RS.fr r _) hb) hsl hcl
 simp only [bs_of] at hgh hrg
 have hsw3 := HSS.out.below hb3
 have hnl : sl.length ≤ 1000000 := by have := HNN.out; omega
 have hgz : ∀ x ∈ sl, ∀ m, gdZ 60 m x := fun x hx m => by have := hz60 x hx; unfold gdZ; omega
 have HO := hide (fun Z (hb : Below w3.heap.size w3 Z) => (order_any (.slice ma mn mc) (.slice ra M.length rc) f cwd _ _ _ SA sc sl Z (hgh Z hb) (hsw3.below hb) hnl hgz).mono fun e w' h => OrP.z h)
 have HRO := hide (fun Z (hb : Below w3.heap.size w3 Z) => (rorder_any ⟨.slice ma mn mc, ra, M.length, rc, r, cwd⟩ _ _ _ SA sc sl Z (hrg Z hb) (hsw3.below hb) hnl hgz).mono fun e w' h => ROrP.z h)
 have HRC := hide (fun Z (hb : Below w3.heap.size w3 Z) => reach_any (.slice ma mn mc) (.slice ra M.length rc) f cwd _ _ _ SA sc sl Z (hgh Z hb) (hsw3.below hb) hnl hgz (fun m x _ _ => Nat.le_trans (need_small hsm x).2 (by omega)))
 have HRR2 := hide (fun Z (hb : Below w3.heap.size w3 Z) => rreach_any ⟨.slice ma mn mc, ra, M.length, rc, r, cwd⟩ _ _ _ SA sc sl Z (hrg Z hb) (hsw3.below hb) hnl hgz)
 have HGO := hide (fun Z (hb : Below w3.heap.size w3 Z) => ggoal_any (.slice ma mn mc) ra rc M Z (hrl Z hb) hml)
 have HRG := hide (fun Z (hb : Below w3.heap.size w3 Z) => rgoal_any (.slice ma mn mc) ra rc M Z (hrl Z hb) hml htz)
 obtain ⟨gs, gb, hgg⟩ : ∃ s b, gR (goalO M) = .tuple #[.string s, .bool b] := by
   cases goalO M with
   | none => exact ⟨_, _, rfl⟩
   | some t => exact ⟨_, _, rfl⟩
 have hzok := foldW_ok (P := plP (treeS L) cwd.data.toList M) (is := isP22 (treeS L) cwd.data.toList) (stop := true) sl wk0 WkOk.start
 have hol : ∀ z : Wk, WkOk z → (ordL z).length ≤ 100000 := fun z hz => by
   have h1 := hz.cnt
   have h2 := hz.seen
   unfold ordL
   split
   · omega
   · simp
 have hrl2 : (putsF (seenA (plP (treeS L) cwd.data.toList M) sl [])).length ≤ 100000 := Nat.le_trans (puts_len _) (Nat.le_trans (seenA_len _) (by omega))
 obtain ⟨z, hz⟩ : ∃ z, sl.foldl (fun s x => meetW (plP (treeS L) cwd.data.toList M) (isP22 (treeS L) cwd.data.toList) true x s) wk0 = z := ⟨_, rfl⟩
 obtain ⟨R, hR⟩ : ∃ R, putsF (seenA (plP (treeS L) cwd.data.toList M) sl []) = R := ⟨_, rfl⟩
 rw [hz] at HO HRO hzok
 rw [hR] at HRC HRR2 hrl2
 have hzl := hol z hzok
 rw [hgg] at HGO HRG
 rw [HNN.out] at HO HRO HRC HRR2
 rw [HRN.out] at HO HRO HRC HRR2 HGO HRG
 unfold OrZ at HO HRO
 unfold RchP at HRC HRR2
 obtain ⟨zl, hzl2⟩ : ∃ l, ordL z = l := ⟨_, rfl⟩
 obtain ⟨ze, hze⟩ : ∃ l, z.e = l := ⟨_, rfl⟩
 rw [hzl2, hze] at HO HRO
 rw [hzl2] at hzl
 have HSA := hide (fun P1 c1 P2 c2 Z (h1 : SR Z P1 zl) (h2 : SR Z P2 zl) => (same_any P1 P2 c1 c2 zl zl Z h1 h2 hzl).mono fun e w' ⟨h3, h4⟩ => (⟨h3.trans (by rw [decide_eq_true rfl]), h4⟩ : e = Ending.returned (.bool true) ∧ Drew Z w'))
 have HSR := hide (fun P1 c1 P2 c2 Z (h1 : SR Z P1 R) (h2 : SR Z P2 R) => (same_any P1 P2 c1 c2 R R Z h1 h2 hrl2).mono fun e w' ⟨h3, h4⟩ => (⟨h3.trans (by rw [decide_eq_true rfl]), h4⟩ : e = Ending.returned (.bool true) ∧ Drew Z w'))
 obtain ⟨zn, hzn⟩ : ∃ n, zl.length = n := ⟨_, rfl⟩
 obtain ⟨Rn, hRn⟩ : ∃ n, R.length = n := ⟨_, rfl⟩
 rw [hzn] at HO HRO HSA
 rw [hRn] at HRC HRR2 HSR
 have hq := fun (Z : World) (hb : Below w3.heap.size w3 Z) => show (fun Z => Z.cell? ⟨W.heap.size, 0, none⟩ = some (.slice ma mn mc) ∧ Z.cell? ⟨W.heap.size, 1, none⟩ = some (.slice ra rn rc)) Z from ⟨(hb.cell (p := ⟨W.heap.size, 0, none⟩) hl3).trans (cellOf' hh3 (j := 0) rfl), (hb.cell (p := ⟨W.heap.size, 1, none⟩) hl3).trans (cellOf' hh3 (j := 1) rfl)⟩
 have HQ := hide hq
 obtain ⟨hd0, hd1⟩ := hq w3 (Below.refl _ _)
 clear hq hi hbi hb3 hh3 hgd hsl hcl hrl hml htz hgh hrg hsw3 hnl hgz hgg hzok hol hrl2 hz hR hzl hzl2 hze hzn hRn hsm hlw hvs hrs q1 q2 q3 r1 r2 r3 g1 g2 g3 hz60 hl3
 go_wp2_with fail
 refine (HO.out _ (Below.refl _ _)).mono ?_
 rintro e w4 ⟨P1, c1, rfl, hs4, hb4⟩
 have HS4 := hide hs4
 have HB4 := hide hb4
 obtain ⟨hd0, hd1⟩ := HQ.out _ hb4
 clear hs4 hb4
 go_wp2_with fail
 refine (HRO.out _ HB4.out).mono ?_
 rintro e w5 ⟨P2, c2, rfl, hs5, hb5⟩
 have HS5 := hide hs5
 have HS45 := hide (HS4.out.below hb5)
 have HB5 := hide (below_up HB4.out hb5 HB4.out.size)
 obtain ⟨hd0, hd1⟩ := HQ.out _ HB5.out
 clear hs5 hb5
 go_wp2_with fail
 refine (HGO.out _ HB5.out).mono ?_
 rintro e w6 ⟨rfl, hb6⟩
 have HB6 := hide (below_up HB5.out hb6 HB5.out.size)
 have HS6a := hide (HS45.out.below hb6)
 have HS6b := hide (HS5.out.below hb6)
 obtain ⟨hd0, hd1⟩ := HQ.out _ HB6.out
 clear hb6
 go_wp2_with fail
 refine (HRG.out _ HB6.out).mono ?_
 rintro e w7 ⟨rfl, hb7⟩
 have HB7 := hide (below_up HB6.out hb7 HB6.out.size)
 have HS7a := hide (HS6a.out.below hb7)
 have HS7b := hide (HS6b.out.below hb7)
 have HNU := hide (num22_any (ze : Int))
 clear hb7 hd0 hd1
 have hd2 := HQ.out _ HB7.out
 have HB7d := hide (Below.refl w7.heap.size w7).drew
 have HS8a := hide (HS7a.out.below HB7d.out)
 have HS8b := hide (HS7b.out.below HB7d.out)
 have HB8 := hide (below_up HB7.out HB7d.out HB7.out.size)
 clear hd2
 go_wp2_with fail
 refine wp_region_held_drew (S := (fun Z => Z.cell? ⟨W.heap.size, 0, none⟩ = some (.slice ma mn mc) ∧ Z.cell? ⟨W.heap.size, 1, none⟩ = some (.slice ra rn rc))) (by kernel_rfl) (HQ.out _ HB8.out) (fun hHeld => ?_)
 refine tq (i := 0) (v := ?vT0) rfl rfl (by kernel_rfl) (fun _ _ _ h => h) ?yT0 (by assumption) ?rT0
 case yT0 => intro w h; (try dsimp only at h); go_simp; try with_reducible rfl
 try simp only [sA, sB, sC]
 refine tq (i := 2) (v := ?vT2) rfl rfl (by kernel_rfl) (fun _ _ _ h => h) ?yT2 (by assumption) ?rT2
 case yT2 => intro w h; (try dsimp only at h); go_simp; try with_reducible rfl
 try simp only [sA, sB, sC]
 refine rq (k := 1) rfl (by kernel_rfl) (by kernel_rfl) (fun K hK => ?_)
 go_simp
 refine (HNU.out _).mono ?_
 rintro e wn ⟨rfl, hwn⟩
 obtain rfl := hwn
 refine hK.out _ _ (HQ.out _ HB8.out) (fun _ => ?_)
 clear hK K
 try simp only [Act.put, sA, sB, sC]
 refine tq (i := 3) (v := ?vT3) rfl rfl (by kernel_rfl) (fun _ _ _ h => h) ?yT3 (by assumption) ?rT3
 case yT3 => intro w h; (try dsimp only at h); go_simp; try with_reducible rfl
 try simp only [sA, sB, sC]
 refine tq (i := 4) (v := ?vT4) rfl rfl (by kernel_rfl) (fun _ _ _ h => h) ?yT4 (by assumption) ?rT4
 case yT4 => intro w h; (try dsimp only at h); go_simp; try with_reducible rfl
 try simp only [sA, sB, sC]
 refine tq (i := 5) (v := ?vT5) rfl rfl (by kernel_rfl) (fun _ _ _ h => h) ?yT5 (by assumption) ?rT5
 case yT5 => intro w h; (try dsimp only at h); go_simp; try with_reducible rfl
 try simp only [sA, sB, sC]
 refine tq (i := 6) (v := ?vT6) rfl rfl (by kernel_rfl) (fun _ _ _ h => h) ?yT6 (by assumption) ?rT6
 case yT6 => intro w h; (try dsimp only at h); go_simp; try with_reducible rfl
 try simp only [sA, sB, sC]
 refine rq (k := 7) rfl (by kernel_rfl) (by kernel_rfl) (fun K hK => ?_)
 go_simp
 refine (HSA.out P1 c1 P2 c2 _ HS8a.out HS8b.out).mono ?_
 rintro e w9 ⟨rfl, hd9⟩
 have HB9 := hide (below_up HB8.out hd9.below HB8.out.size)
 clear hd9
 refine hK.out _ _ (HQ.out _ HB9.out) (fun _ => ?_)
 clear hK K
 try simp only [Act.put, sA, sB, sC]
 refine tq (i := 8) (v := ?vT8) rfl rfl (by kernel_rfl) (fun _ _ _ h => h) ?yT8 (by assumption) ?rT8
 case yT8 => intro w h; (try dsimp only at h); go_simp; try with_reducible rfl
 try simp only [sA, sB, sC]
 refine tq (i := 9) (v := ?vT9) rfl rfl (by kernel_rfl) (fun _ _ _ h => h) ?yT9 (by assumption) ?rT9
 case yT9 => intro w h; (try dsimp only at h); go_simp; try with_reducible rfl
 try simp only [sA, sB, sC]
 refine tq (i := 10) (v := ?vT10) rfl rfl (by kernel_rfl) (fun _ _ _ h => h) ?yT10 (by assumption) ?rT10
 case yT10 => intro w h; (try dsimp only at h); go_simp; try with_reducible rfl
 try simp only [sA, sB, sC]
 refine tq (i := 11) (v := ?vT11) rfl rfl (by kernel_rfl) (fun _ _ _ h => h) ?yT11 (by assumption) ?rT11
 case yT11 => intro w h; (try dsimp only at h); go_simp; try with_reducible rfl
 try simp only [sA, sB, sC]
 refine tq (i := 12) (v := ?vT12) rfl rfl (by kernel_rfl) (fun _ _ _ h => h) ?yT12 (by assumption) ?rT12
 case yT12 => intro w h; (try dsimp only at h); go_simp; try with_reducible rfl
 try simp only [sA, sB, sC]
 refine tq (i := 13) (v := ?vT13) rfl rfl (by kernel_rfl) (fun _ _ _ h => h) ?yT13 (by assumption) ?rT13
 case yT13 => intro w h; (try dsimp only at h); go_simp; try with_reducible rfl
 try simp only [sA, sB, sC]
 refine tq (i := 14) (v := ?vT14) rfl rfl (by kernel_rfl) (fun _ _ _ h => h) ?yT14 (by assumption) ?rT14
 case yT14 => intro w h; (try dsimp only at h); go_simp; try with_reducible rfl
 try simp only [sA, sB, sC]
 refine tq (i := 15) (v := ?vT15) rfl rfl (by kernel_rfl) (fun _ _ _ h => h) ?yT15 (by assumption) ?rT15
 case yT15 => intro w h; (try dsimp only at h); go_simp; try with_reducible rfl
 try simp only [sA, sB, sC]
 refine tq (i := 16) (v := ?vT16) rfl rfl (by kernel_rfl) (fun _ _ _ h => h) ?yT16 (by assumption) ?rT16
 case yT16 => intro w h; (try dsimp only at h); go_simp; try with_reducible rfl
 try simp only [sA, sB, sC]
 refine tq (i := 17) (v := ?vT17) rfl rfl (by kernel_rfl) (fun _ _ _ h => h) ?yT17 (by assumption) ?rT17
 case yT17 => intro w h; (try dsimp only at h); go_simp; try with_reducible rfl
 try simp only [sA, sB, sC]
 refine tq (i := 18) (v := ?vT18) rfl rfl (by kernel_rfl) (fun _ _ _ h => h) ?yT18 (by assumption) ?rT18
 case yT18 => intro w h; (try dsimp only at h); go_simp; try with_reducible rfl
 try simp only [sA, sB, sC]
 refine tq (i := 19) (v := ?vT19) rfl rfl (by kernel_rfl) (fun _ _ _ h => h) ?yT19 (by assumption) ?rT19
 case yT19 => intro w h; (try dsimp only at h); go_simp; try with_reducible rfl
 try simp only [sA, sB, sC]
 refine tq (i := 20) (v := ?vT20) rfl rfl (by kernel_rfl) (fun _ _ _ h => h) ?yT20 (by assumption) ?rT20
 case yT20 => intro w h; (try dsimp only at h); go_simp; try with_reducible rfl
 try simp only [sA, sB, sC]
 refine tq (i := 21) (v := ?vT21) rfl rfl (by kernel_rfl) (fun _ _ _ h => h) ?yT21 (by assumption) ?rT21
 case yT21 => intro w h; (try dsimp only at h); go_simp; try with_reducible rfl
 try simp only [sA, sB, sC]
 refine tq (i := 22) (v := ?vT22) rfl rfl (by kernel_rfl) (fun _ _ _ h => h) ?yT22 (by assumption) ?rT22
 case yT22 => intro w h; (try dsimp only at h); go_simp; try with_reducible rfl
 try simp only [sA, sB, sC]
 refine tq (i := 23) (v := ?vT23) rfl rfl (by kernel_rfl) (fun _ _ _ h => h) ?yT23 (by assumption) ?rT23
 case yT23 => intro w h; (try dsimp only at h); go_simp; try with_reducible rfl
 try simp only [sA, sB, sC]
 refine tq (i := 25) (v := ?vT25) rfl rfl (by kernel_rfl) (fun _ _ _ h => h) ?yT25 (by assumption) ?rT25
 case yT25 => intro w h; (try dsimp only at h); go_simp; try with_reducible rfl
 try simp only [sA, sB, sC]
 refine tq (i := 26) (v := ?vT26) rfl rfl (by kernel_rfl) (fun _ _ _ h => h) ?yT26 (by assumption) ?rT26
 case yT26 => intro w h; (try dsimp only at h); go_simp; try with_reducible rfl
 try simp only [sA, sB, sC]
 refine tq (i := 27) (v := ?vT27) rfl rfl (by kernel_rfl) (fun _ _ _ h => h) ?yT27 (by assumption) ?rT27
 case yT27 => intro w h; (try dsimp only at h); go_simp; try with_reducible rfl
 try simp only [sA, sB, sC]
 refine tq (i := 28) (v := ?vT28) rfl rfl (by kernel_rfl) (fun _ _ _ h => h) ?yT28 (by assumption) ?rT28
 case yT28 => intro w h; (try dsimp only at h); go_simp; try with_reducible rfl
 try simp only [sA, sB, sC]
 refine rq (k := 24) rfl (by kernel_rfl) (by kernel_rfl) (fun K hK => ?_)
 go_simp
 refine (HRC.out w9 HB9.out).mono ?_
 rintro e wa ⟨Pa, ca, rfl, hsa, _, hba⟩
 have HSA1 := hide hsa
 have HBA := hide (below_up HB9.out hba HB9.out.size)
 clear hba hsa
 refine hK.out _ _ (HQ.out _ HBA.out) (fun _ => ?_)
 clear hK K
 try simp only [Act.put, sA, sB, sC]
 refine rq (k := 29) rfl (by kernel_rfl) (by kernel_rfl) (fun K hK => ?_)
 go_simp
 refine (HRR2.out wa HBA.out).mono ?_
 rintro e wb ⟨Pb, cb, rfl, hsb, _, hbb⟩
 have HSB1 := hide hsb
 have HSA2 := hide (HSA1.out.below hbb)
 have HBB := hide (below_up HBA.out hbb HBA.out.size)
 clear hbb hsb
 refine hK.out _ _ (HQ.out _ HBB.out) (fun _ => ?_)
 clear hK K
 try simp only [Act.put, sA, sB, sC]
 refine rq (k := 30) rfl (by kernel_rfl) (by kernel_rfl) (fun K hK => ?_)
 go_simp
 refine (HSR.out Pa ca Pb cb wb HSA2.out HSB1.out).mono ?_
 rintro e wc ⟨rfl, hdc⟩
 have HBC := hide (below_up HBB.out hdc.below HBB.out.size)
 clear hdc
 refine hK.out _ _ (HQ.out _ HBC.out) (fun _ => ?_)
 clear hK K
 try simp only [Act.put, sA, sB, sC]
 refine tq (i := 31) (v := ?vT31) rfl rfl (by kernel_rfl) (fun _ _ _ h => h) ?yT31 (by assumption) ?rT31
 case yT31 => intro w h; (try dsimp only at h); go_simp; try with_reducible rfl
 try simp only [sA, sB, sC]
 refine tq (i := 32) (v := ?vT32) rfl rfl (by kernel_rfl) (fun _ _ _ h => h) ?yT32 (by assumption) ?rT32
 case yT32 => intro w h; (try dsimp only at h); go_simp; try with_reducible rfl
 try simp only [sA, sB, sC]
 refine wpAnyH_done (by kernel_rfl) ?_ _
 go_wp2
 go_ret
 exact ⟨rfl, below_up HB3.out HBC.out HB3.out.size⟩
end
end Go.Proofs.YtaajofojbhdgaaaGreatDoor
