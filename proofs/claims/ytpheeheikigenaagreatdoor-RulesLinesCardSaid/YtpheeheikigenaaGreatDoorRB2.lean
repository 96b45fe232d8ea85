/- Walks and plain facts that the claim uses. -/
import Derived.Test.YtpheeheikigenaaGreatDoorRB1
import Derived.Deep.LoopGhost
import Derived.Recover
import Derived.Laws.Pointers
import Derived.RegionTactic
import Derived.Outline
import Derived.WideLaws
import Derived.Maps.RangeWalk
import Derived.Lib.Replace
import Derived.BigQuiet
set_option maxRecDepth 100000
set_option maxHeartbeats 16000000
set_option linter.unusedSimpArgs false
set_option linter.unusedVariables false
namespace Go.Proofs.YtpheeheikigenaaGreatDoor
section
open Go.RowKit Go.Deep Ln Mc
attribute [local go_sem] bt_eq
theorem refD_len {auto l : Mp} {d : Nat} (ha : ∀ x ∈ auto, x.2.length ≤ 900000) {opn : List T} {s : T} {n : Nat} {y : T} {r : Nat} (h : refD auto l d opn s n = .ok (y, r)) : y.length ≤ 4000000000000 := by
 cases d with
 | zero => cases h
 | succ d =>
   have h : refF auto l (textF auto l d) opn s n = .ok (y, r) := h
   unfold refF at h
   split at h
   · cases h
   · rename_i t r1 h1
     have h2 := textF_len h1
     split at h
     · split at h
       · cases h
       · rename_i v r2 h3
         injection h with h; injection h with h4 h5
         have h6 := valueF_len ha h3
         have h7 := (cut_len (Lib.cut t [58]).2.1 61).2
         have h8 := (cut_len t 58).2
         rw [← h4]
         exact swapF_len h6 (by omega)
     · have := valueF_len ha h
       omega
theorem oneF_len {ref : T → Nat → R} (hr : ∀ s n y r, ref s n = .ok (y, r) → y.length ≤ 4000000000000) {s : T} {refs : Nat} {y : T} {k r : Nat} (h : oneF ref s refs = .ok (y, k, r)) : y.length ≤ 4000000000000 := by
 unfold oneF at h
 split at h
 · injection h with h; injection h with h1 h2; rw [← h1]; simp
 · rename_i c t
   split at h
   · injection h with h; injection h with h1 h2; rw [← h1]; simp
   · split at h
     · cases h
     · have key : ∀ {u : T} {m : Nat}, (match ref u (refs + 1) with | .error e => (.error e : Except Nat (T × Nat × Nat)) | .ok (y, r) => .ok (y, m, r)) = .ok (y, k, r) → y.length ≤ 4000000000000 := fun {u m} h => by
         split at h
         · cases h
         · rename_i y' r' h'
           injection h with h; injection h with h1 h2
           rw [← h1]
           exact hr _ _ _ _ h'
       split at h
       · split at h
         · cases h
         · exact key h
       · split at h
         · split at h
           · cases h
           · exact key h
         · exact key h
theorem kp_of_low {w w' : World} {b : Nat} (h : Below b w w') : Kp w w' (fun k => b ≤ k) := ⟨h.os, h.tape, h.output, h.size, fun k hk hn => h.block k (by omega)⟩
theorem ws_step {w0 W : World} {cs : List Cl} {gx gb : Nat} {P' : Nat → Prop} {out : T} (hO : OI w0 ety gx cs P' W) (hB : Bld gb gb out W) (hD : ∀ k, bldT gb W k → ¬ P' k) (hw0 : w0.heap.size ≤ gb) (y : T) (hl : out.length + y.length ≤ 140737488355328) :
   Calls Tryz.prog 65 #[.pointer (some ⟨gb, 0, none⟩), .string (bs y)] W fun e w' => e = .returned (.tuple #[.int .i64 y.length, .nilIface]) ∧ OI w0 ety gx cs P' w' ∧ Bld gb gb (out ++ y) w' ∧ (∀ k, bldT gb w' k → ¬ P' k) ∧ Kp W w' (fun k => gb ≤ k) := by
 have hlt := (hB.lt gb (.inl rfl)).2
 refine (writeStrQ_any gb gb out (bs y) W hB (by rw [bs_size]; exact hl) (by omega)).mono ?_
 rintro e w' ⟨h1, h2, h3, h4, h5⟩
 rw [bs_list] at h2
 rw [bs_size] at h1
 refine ⟨h1, hO.kp h4 (fun k e q => hD k q e) (h4.below hO.below (Nat.le_refl _) fun k q => by have := (hB.lt k q).1; omega), h2, fun k q => ?_, h4.mono fun k q => (hB.lt k q).1⟩
 rcases h5 k q with z | z
 · exact hD k z
 · intro e
   have := (hO.tw k e).2
   omega
theorem mtext_any (w0 : World) (C : Xc) (hC : XOk w0 C) (gx d : Nat) (hR : ∀ opn : List T, opn.length + d ≤ 40 → RCon w0 C gx opn ((40 : Int) - (d : Nat)) (refD C.a C.l d opn)) : TCon w0 C gx d := by
 intro opn s refs P w h ho hd hs hr
 have hRC := hR opn ho
 have HF := hide (textF_eq C.a C.l d opn s refs)
 obtain ⟨R0, hR0⟩ : ∃ R, textF C.a C.l d opn s refs = R := ⟨_, rfl⟩
 rw [hR0] at HF ⊢
 have hsz : (bs s).size = s.length := bs_size s
 by_cases hbig : 16384 < s.length
 · have hi : (16384 : Int) < (s.length : Int) := by omega
   have HF2 := hide (HF.out.trans (if_pos hbig))
   have HI := hide h
   clear h hR hRC hR0 hbig
   go_enter Tryz.func247, Tryz.ntmps247
   go_wp2_with fail
   refine (mfail_any 3 _).mono ?_
   rintro e w' ⟨rfl, rfl⟩
   refine ⟨rfl, ?_⟩
   rw [HF2.out]
   exact ⟨rfl, opn, _, _, OIP.self HI.out⟩
 have hi : ¬ (16384 : Int) < (s.length : Int) := by omega
 have HF2 := hide (HF.out.trans (if_neg hbig))
 have HRC := hide hRC
 have HC := hide hC
 have HP := hide (fun k (e : P k) => (h.tw k e).2)
 have hbel := (Below.refl w.heap.size w).alloc (Nat.le_refl _) (.cells #[.pointer none, .slice none 0 0] 122)
 have HI1 := hide (h.step hbel)
 have HB1 := hide (Bld.fresh w)
 have HBT := hide (show ∀ k, bldT w.heap.size (w.alloc (.cells #[.pointer none, .slice none 0 0] 122)) k → k = w.heap.size from fun k e => by
   rcases e with e | ⟨v, h1, h2⟩
   · exact e
   · have hc : (w.alloc (.cells #[.pointer none, .slice none 0 0] 122)).cell? ⟨w.heap.size, 1, none⟩ = some (.slice none 0 0) := cellOf (heapNew w _) rfl
     rw [hc] at h1
     injection h1 with h1
     subst h1
     simp [Value.ownBlock] at h2)
 have HBE := hide hbel
 have hz := Nat.le_of_not_lt hbig
 have HSL := hide (show ∀ k, P k → w0.heap.size ≤ k from fun k e => (h.tw k e).1)
 have HW0 := hide h.below
 clear h hR hRC hR0 hbig hbel HF
 go_enter Tryz.func247, Tryz.ntmps247
 go_wp2
 go_loopg [1, 6, 7, 8, 9, 10] s.length (fun g1 v1 _ _ _ _ _ wr => ∃ (q out : T) (n : Nat) (P' : Nat → Prop), v1 = .string (bs q) ∧ g1 = q.length ∧ q.length ≤ 16384 ∧ out.length ≤ 16384 ∧ n ≤ 10000 ∧ Hid (scanF (oneF (refD C.a C.l d opn)) q 0 out n = R0) ∧ Hid (OI w0 ety gx (xcs C opn ((40 : Int) - (d : Nat)) n) P' wr) ∧ Hid (Bld w.heap.size w.heap.size out wr) ∧ Hid (∀ k, bldT w.heap.size wr k → ¬ P' k) ∧ Hid (Kp w wr P) ∧ Hid (∀ k, P' k → P k ∨ w.heap.size ≤ k))
 case atStart => exact ⟨s, [], refs, P, rfl, rfl, hz, by simp, hr, hide HF2.out.symm, HI1, HB1, hide (fun k e q => by have := HBT.out k e; have := HP.out k q; omega), hide (Kp.of_below HBE.out P), hide (fun k e => .inl e)⟩
 case round =>
   obtain ⟨wo, hwo⟩ : ∃ Z, Z = wr := ⟨_, rfl⟩
   subst hwo
   obtain ⟨q, out, n, P', rfl, hg1, hq, hout, hn, HSC, HI, HBD, HDJ, HKP, HGR⟩ := hrel
   have hmx := HC.out.mx.below HI.out.below
   have HCT := hide (cutc_any q 36 wo hmx (by omega))
   have hw0 : w0.heap.size ≤ w.heap.size := HW0.out.size
   rcases cut_at q 36 with ⟨hno, hce⟩ | ⟨a, b, hqe, hna, hce⟩
   · rw [hce] at HCT
     have hsf := scan_front (oneF (refD C.a C.l d opn)) [] n q out (fun c hc e => hno (e ▸ hc)) hout
     rw [List.append_nil, HSC.out] at hsf
     have HSF := hide hsf
     clear hsf hno hce hg1
     go_wp2_with fail
     refine HCT.out.mono ?_
     rintro e w1 ⟨rfl, hb1⟩
     have hbk := HBD.out.kp (Kp.of_below hb1 (fun _ => False)) (fun _ _ h => h)
     have HWS := hide (ws_step (out := out) (HI.out.step hb1) hbk.1 (fun k e => HDJ.out k (hbk.2 k e)) hw0 q (by omega))
     have HKP1 := hide (HKP.out.trans ((Kp.of_below hb1 P).mono fun k e => .inl e))
     clear hb1 hbk
     go_wp2_with fail
     refine HWS.out.mono ?_
     rintro e w2 ⟨rfl, hi2, hb2, hd2, hk2⟩
     have HI2 := hide hi2
     have HB2 := hide hb2
     have HKP2 := hide (HKP1.out.trans (hk2.mono fun k e => .inr e))
     have HLN := hide (fun W (h : Bld w.heap.size w.heap.size (out ++ q) W) => bldLen_any w.heap.size w.heap.size (out ++ q) W h)
     have HD2 := hide hd2
     obtain ⟨m, hm⟩ : ∃ m, (out ++ q).length = m := ⟨_, rfl⟩
     rw [hm] at HLN
     rw [List.length_append] at hm
     clear hi2 hb2 hd2 hk2
     go_wp2_with fail
     refine (HLN.out _ HB2.out).mono ?_
     rintro e w3 ⟨rfl, rfl⟩
     by_cases hov : 16384 < m
     · have q1 : (16384 : Int) < (m : Int) := by omega
       have HRR := hide (HSF.out.trans (if_pos (by omega)))
       go_wp2_with fail
       refine (mfail_any 3 _).mono ?_
       rintro e w' ⟨rfl, rfl⟩
       refine ⟨rfl, ?_⟩
       rw [HRR.out]
       exact ⟨rfl, opn, _, _, P', HI2.out, HKP2.out, HGR.out⟩
     have q1 : ¬ (16384 : Int) < (m : Int) := by omega
     have HRR := hide (show R0 = .ok (out ++ q, n) from HSF.out.trans (if_neg (by omega)))
     have HST := hide (Tryz.Builder_String_any_k w.heap.size w.heap.size (out ++ q) w2 (Lib.IsBuilderF.of HB2.out) (by have := (HB2.out.lt _ (.inl rfl)).2; omega))
     clear hov
     go_wp2_with fail
     refine HST.out.mono ?_
     rintro e w3 ⟨rfl, _, hb3, ho3⟩
     have HFI := hide (show OIP w0 ety gx (xcs C opn ((40 : Int) - (d : Nat)) n) P w w3 from ⟨P', HI2.out.others ho3 (HD2.out _ (.inl rfl)) (by decide) (fun c hc t n len vals e => by
       subst e
       simp [xcs, Cl.s] at hc
       rw [hc.1]; decide) hb3.size ((kp_of_low hb3).below HI2.out.below (Nat.le_refl _) fun k e => by omega), HKP2.out.trans ((kp_of_low hb3).mono fun k e => .inr e), HGR.out⟩)
     clear hb3 ho3
     go_wp2
     go_ret
     rw [HRR.out]
     exact ⟨rfl, HFI.out⟩
   · rw [hce] at HCT
     have hsf := scan_front (oneF (refD C.a C.l d opn)) (36 :: b) n a out hna hout
     rw [← hqe, HSC.out] at hsf
     have hql : q.length = a.length + (b.length + 1) := by rw [hqe]; simp
     have HSF := hide hsf
     clear hsf hna hce hqe
     go_wp2_with fail
     refine HCT.out.mono ?_
     rintro e w1 ⟨rfl, hb1⟩
     have hbk := HBD.out.kp (Kp.of_below hb1 (fun _ => False)) (fun _ _ h => h)
     have HWS := hide (ws_step (out := out) (HI.out.step hb1) hbk.1 (fun k e => HDJ.out k (hbk.2 k e)) hw0 a (by omega))
     have HKP1 := hide (HKP.out.trans ((Kp.of_below hb1 P).mono fun k e => .inl e))
     clear hb1 hbk
     go_wp2_with fail
     refine HWS.out.mono ?_
     rintro e w2 ⟨rfl, hi2, hb2, hd2, hk2⟩
     have HI2 := hide hi2
     have HB2 := hide hb2
     have HKP2 := hide (HKP1.out.trans (hk2.mono fun k e => .inr e))
     have HLN := hide (fun W (h : Bld w.heap.size w.heap.size (out ++ a) W) => bldLen_any w.heap.size w.heap.size (out ++ a) W h)
     have HD2 := hide hd2
     obtain ⟨m, hm⟩ : ∃ m, (out ++ a).length = m := ⟨_, rfl⟩
     rw [hm] at HLN
     have HM := hide hm
     rw [List.length_append] at hm
     clear hi2 hb2 hd2 hk2
     go_wp2_with fail
     refine (HLN.out _ HB2.out).mono ?_
     rintro e w3 ⟨rfl, rfl⟩
     by_cases hov : 16384 < m
     · have q0 : ¬ (m : Int) ≤ 16384 := by omega
       have q1 : (16384 : Int) < (m : Int) := by omega
       have HRR := hide (HSF.out.trans (if_pos (by omega)))
       go_wp2_with fail
       refine (HLN.out _ HB2.out).mono ?_
       rintro e w3 ⟨rfl, rfl⟩
       go_wp2_with fail
       refine (mfail_any 3 _).mono ?_
       rintro e w' ⟨rfl, rfl⟩
       refine ⟨rfl, ?_⟩
       rw [HRR.out]
       exact ⟨rfl, opn, _, _, P', HI2.out, HKP2.out, HGR.out⟩
     have q0 : (m : Int) ≤ 16384 := by omega
     have HRR := hide (show R0 = scanF (oneF (refD C.a C.l d opn)) (36 :: b) 0 (out ++ a) n from HSF.out.trans (if_neg (by omega)))
     have HON := hide (mone_any w0 C gx opn ((40 : Int) - (d : Nat)) (refD C.a C.l d opn) HRC.out b n P' w2 HI2.out (by omega) hn)
     have HR2 := hide (show R0 = (match oneF (refD C.a C.l d opn) b n with | .error e => .error e | .ok (y, k, r') => if 16384 < ((out ++ a) ++ y).length then .error 3 else scanF (oneF (refD C.a C.l d opn)) (b.drop k) 0 ((out ++ a) ++ y) r') from HRR.out.trans (scan_one _ _ _ _))
     obtain ⟨r, hr2⟩ : ∃ r, oneF (refD C.a C.l d opn) b n = r := ⟨_, rfl⟩
     rw [hr2] at HON HR2
     have HOR := hide hr2
     clear hov hr2
     go_wp2_with fail
     refine HON.out.mono ?_
     rintro e w3 hend
     cases r with
     | error c =>
       obtain ⟨rfl, o', d', r', hop⟩ := hend
       have HFI := hide (oip_go HKP2.out HGR.out hop)
       have HR3 := hide (show R0 = .error c from HR2.out)
       refine ⟨rfl, ?_⟩
       rw [HR3.out]
       exact ⟨rfl, o', _, _, HFI.out⟩
     | ok z =>
       obtain ⟨y, k, n'⟩ := z
       obtain ⟨rfl, P2, hi3, hk3, hg3⟩ := hend
       have hi3' : OI w0 ety gx (xcs C opn ((40 : Int) - (d : Nat)) n') P2 w3 := hi3
       have hbk := HB2.out.kp hk3 HD2.out
       have hd3 : ∀ j, bldT w.heap.size w3 j → ¬ P2 j := fun j e z => by
         have h1 := hbk.2 j e
         rcases hg3 j z with y1 | y1
         · exact HD2.out j h1 y1
         · have := (HB2.out.lt j h1).2; omega
       have hyl := oneF_len (fun s n y r h => refD_len HC.out.az h) HOR.out
       have hkb := oneF_le HOR.out
       have hn' := one_refs (fun t n y r hn h => refD_refs hn h) HOR.out hn
       have HWS2 := hide (ws_step (out := out ++ a) hi3' hbk.1 hd3 hw0 y (by rw [HM.out]; omega))
       have HKP3 := hide (HKP2.out.trans (hk3.mono fun j e => HGR.out j e))
       have HGR3 := hide (fun j (e : P2 j) => show P j ∨ w.heap.size ≤ j from by
         rcases hg3 j e with z | z
         · exact HGR.out j z
         · exact .inr (Nat.le_trans HKP2.out.size z))
       have HR3 := hide (show R0 = if 16384 < ((out ++ a) ++ y).length then .error 3 else scanF (oneF (refD C.a C.l d opn)) (b.drop k) 0 ((out ++ a) ++ y) n' from HR2.out)
       have HLN2 := hide (fun W (h : Bld w.heap.size w.heap.size ((out ++ a) ++ y) W) => bldLen_any w.heap.size w.heap.size ((out ++ a) ++ y) W h)
       obtain ⟨m2, hm2⟩ : ∃ m, ((out ++ a) ++ y).length = m := ⟨_, rfl⟩
       rw [hm2] at HLN2 HR3
       have HM2 := hide hm2
       have zb : (bs b).size = b.length := bs_size b
       have hkbi : (k : Int) ≤ (b.length : Int) := by omega
       have HEX := hide (show (bs b).extract k b.length = bs (b.drop k) by rw [ext_bs, List.take_of_length_le (by simp)])
       clear hi3 hi3' hk3 hg3 hbk hd3 hm2
       go_wp2_with fail
       refine HWS2.out.mono ?_
       rintro e w4 ⟨rfl, hi4, hb4, hd4, hk4⟩
       have HI4 := hide hi4
       have HB4 := hide hb4
       have HD4 := hide hd4
       have HKP4 := hide (HKP3.out.trans (hk4.mono fun k e => .inr e))
       clear hi4 hb4 hd4 hk4
       go_wp2_with fail
       refine (HLN2.out _ HB4.out).mono ?_
       rintro e w5 ⟨rfl, rfl⟩
       by_cases hov2 : 16384 < m2
       · have q2 : (16384 : Int) < (m2 : Int) := by omega
         have HR4 := hide (HR3.out.trans (if_pos hov2))
         go_wp2_with fail
         refine (mfail_any 3 _).mono ?_
         rintro e w' ⟨rfl, rfl⟩
         refine ⟨rfl, ?_⟩
         rw [HR4.out]
         exact ⟨rfl, opn, _, _, P2, HI4.out, HKP4.out, HGR3.out⟩
       have q2 : ¬ (16384 : Int) < (m2 : Int) := by omega
       have HR4 := hide (HR3.out.trans (if_neg hov2))
       clear hov2
       go_wp2
       rw [HEX.out]
       go_roundg (b.drop k).length
       case measure => rw [List.length_drop]; omega
       case rel => exact ⟨b.drop k, (out ++ a) ++ y, n', P2, rfl, rfl, by rw [List.length_drop]; omega, by rw [HM2.out]; omega, hn', hide HR4.out.symm, HI4, HB4, HD4, HKP4, HGR3⟩
end
section
open Go.RowKit Go.Deep Ln Mc
theorem text_all (w0 : World) (C : Xc) (hC : XOk w0 C) (gx : Nat) : ∀ d, TCon w0 C gx d
 | 0 => mtext_any w0 C hC gx 0 fun opn ho s refs P w h hs hr => mref_any w0 C hC gx 0 (fun d' e => by omega) opn s refs P w h ho (by omega) hs hr
 | d + 1 => mtext_any w0 C hC gx (d + 1) fun opn ho s refs P w h hs hr => mref_any w0 C hC gx (d + 1) (fun d' e => by
     have e2 : d = d' := by omega
     exact e2 ▸ text_all w0 C hC gx d) opn s refs P w h ho (by omega) hs hr
theorem massert_wrong (c : Int) (w : World) : (Instr.typeAssert (.iface 268 (.agg #[.int .i64 c])) 20 268 true).run Tryz.prog w = .ok (.tuple #[.agg #[.int .i64 c], .bool true]) w := by kernel_rfl
theorem mwp_named {P : Program} {c : Code} {Q : Exit → Act → World → Prop} {a : Act} {w : World} (h : ∀ Q' : Exit → Act → World → Prop, (∀ e a w, Q e a w → Q' e a w) → c.wp P Q' a w) : c.wp P Q a w := h Q fun _ _ _ h => h
theorem mcatch_panicking (p q : Nat) (x : ByteArray) (y : Int) (c : Nat) (w : World) (hp : w.cell? ⟨p, 0, none⟩ = some (.string x)) (hq : w.cell? ⟨q, 0, none⟩ = some (.int .i64 y)) (zp : w.frozen? ⟨p, 0, none⟩ = false) (zq : w.frozen? ⟨q, 0, none⟩ = false) (hpq : p ≠ q) :
   CallsD Tryz.prog 246 #[.pointer (some ⟨p, 0, none⟩), .pointer (some ⟨q, 0, none⟩)] (.panicking (pwm c)) w fun e u' w' =>
     e = .returned (.tuple #[]) ∧ u' = .panicking [{ v := .iface 268 (.agg #[.int .i64 c]), recovered := true }] ∧ w'.cell? ⟨p, 0, none⟩ = some (.string ⟨#[]⟩) ∧ w'.cell? ⟨q, 0, none⟩ = some (.int .i64 c) ∧ Below (min p q) w w' := by
 refine callsD_of_wpS Tryz.func246 rfl fun c₀ cs hu => ?_
 apply wpS_seq
 apply wpS_region
 simp [wpOpsS, go_sem, recoverD, hu, pwm, Tryz.ntmps246, Exit.thenS]
 refine wpS_of_wp (mwp_named fun Q hQ => ?_)
 have HQ := hide hQ
 have hta := fun w => massert_wrong c w
 have hneq := run_neq_held_nil (P := Tryz.prog) w 20 268 (.agg #[.int .i64 c]) (by kernel_rfl)
 clear hQ hu
 rw [show ((#[.pointer (some ⟨p, 0, none⟩), .pointer (some ⟨q, 0, none⟩)] : Array Value) ++ ((Array.replicate 16 undef).setIfInBounds 3 (.iface 268 (.agg #[.int .i64 c]))).setIfInBounds 0 (.iface 268 (.agg #[.int .i64 c]))) = #[.pointer (some ⟨p, 0, none⟩), .pointer (some ⟨q, 0, none⟩), .iface 268 (.agg #[.int .i64 c]), undef, undef, .iface 268 (.agg #[.int .i64 c]), undef, undef, undef, undef, undef, undef, undef, undef, undef, undef, undef, undef] from rfl]
 have hpl := World.block_lt_of_cell? w _ hp
 have hql := World.block_lt_of_cell? w _ hq
 simp only at hpl hql
 have hpn : ¬ p = w.heap.size := by omega
 have hqn : ¬ q = w.heap.size := by omega
 go_wp2
 go_region
 all_goals
   refine HQ.out _ _ _ ⟨rfl, _, rfl, .tuple #[], by simp [results, Tryz.results246, go_sem], rfl, rfl, ?_, ?_, ?_⟩
   · go_light
     simp [go_sem, *]
   · go_light
     simp [go_sem, *]
   · go_light
     exact ((((Below.refl _ _).setCell (Nat.min_le_left p q) _).setCell (Nat.min_le_right p q) _).alloc (by simp; omega) _).drew
theorem mcatch_idle (p q : Nat) (w : World) :
   CallsD Tryz.prog 246 #[.pointer (some ⟨p, 0, none⟩), .pointer (some ⟨q, 0, none⟩)] .returning w fun e u' w' => e = .returned (.tuple #[]) ∧ u' = .returning ∧ w = w' := by
 refine callsD_of_wpS Tryz.func246 rfl fun c₀ cs hu => ?_
 apply wpS_seq
 apply wpS_region
 simp [wpOpsS, go_sem, recoverD, hu, Tryz.ntmps246, Exit.thenS]
 refine wpS_of_wp (mwp_named fun Q hQ => ?_)
 have HQ := hide hQ
 have hneq := run_neq_nil_nil (P := Tryz.prog) w 20 (by kernel_rfl)
 have HU := hide hu
 clear hQ hu
 rw [show ((#[.pointer (some ⟨p, 0, none⟩), .pointer (some ⟨q, 0, none⟩)] : Array Value) ++ ((Array.replicate 16 undef).setIfInBounds 3 .nilIface).setIfInBounds 0 .nilIface) = #[.pointer (some ⟨p, 0, none⟩), .pointer (some ⟨q, 0, none⟩), .nilIface, undef, undef, .nilIface, undef, undef, undef, undef, undef, undef, undef, undef, undef, undef, undef, undef] from rfl]
 go_wp2
 refine HQ.out _ _ _ ⟨rfl, .returning, ?_, .tuple #[], by simp [results, Tryz.results246, go_sem], rfl, rfl, rfl⟩
 have := HU.out
 go_light
 cases c₀
 simp_all
theorem expand_any (s : T) (C : Xc) (w : World) (hC : XOk w C) (hs : s.length ≤ 9223372036854775807) :
   Calls Tryz.prog 193 #[.string (bs s), .slice C.lA C.l.length C.lc, .slice C.aA C.a.length C.ac] w fun e w' => e = .returned (.tuple #[.string (bs (expF C.a C.l s).1), .int .i64 (expF C.a C.l s).2]) ∧ Below w.heap.size w w' := by
 have hmf : ∀ (fn : Fn) (first cap : Array Value) (w : World), (Instr.makeFunc fn first cap).run Tryz.prog w = .ok (.func fn first cap) w := fun _ _ _ _ => rfl
 have hb2 : Below w.heap.size w ((w.alloc (.cells #[.string ⟨#[]⟩] 9)).alloc (.cells #[.int .i64 0] 29)) := ((Below.refl _ _).alloc (Nat.le_refl _) _).alloc (by simp) _
 have hoi := (OI.made (w0 := w) (ty := ety) (vs := [.slice C.lA C.l.length C.lc, .slice C.aA C.a.length C.ac, .slice none 0 0, .int .i64 0, .int .i64 0]) hb2).nilR (j := 2) rfl 9 1
 have hcs : (([.slice C.lA C.l.length C.lc, .slice C.aA C.a.length C.ac, .slice none 0 0, .int .i64 0, .int .i64 0] : List Value).map Cl.v).set 2 (.r 9 1 0 []) = xcs C [] ((40 : Int) - (40 : Nat)) (0 : Nat) := rfl
 rw [hcs] at hoi
 have hz : ((w.alloc (.cells #[.string ⟨#[]⟩] 9)).alloc (.cells #[.int .i64 0] 29)).heap.size = w.heap.size + 2 := by simp
 rw [hz] at hoi
 have HTX := hide (text_all w C hC (w.heap.size + 2) 40 [] s 0 _ _ hoi (by simp) (by omega) hs (by omega))
 obtain ⟨r, hr⟩ : ∃ r, textF C.a C.l 40 [] s 0 = r := ⟨_, rfl⟩
 rw [hr] at HTX
 have HEF := hide (show expF C.a C.l s = expR r by unfold expF; rw [hr])
 have hp0 : ((w.alloc (.cells #[.string ⟨#[]⟩] 9)).alloc (.cells #[.int .i64 0] 29)).cell? ⟨w.heap.size, 0, none⟩ = some (.string ⟨#[]⟩) := by simp [go_sem]
 have hq0 : ((w.alloc (.cells #[.string ⟨#[]⟩] 9)).alloc (.cells #[.int .i64 0] 29)).cell? ⟨w.heap.size + 1, 0, none⟩ = some (.int .i64 0) := by simp [go_sem]
 have zp0 : ((w.alloc (.cells #[.string ⟨#[]⟩] 9)).alloc (.cells #[.int .i64 0] 29)).frozen? ⟨w.heap.size, 0, none⟩ = false := by simp [go_sem]
 have zq0 : ((w.alloc (.cells #[.string ⟨#[]⟩] 9)).alloc (.cells #[.int .i64 0] 29)).frozen? ⟨w.heap.size + 1, 0, none⟩ = false := by simp [go_sem]
 obtain ⟨wb, hwb⟩ : ∃ W, (w.alloc (.cells #[.string ⟨#[]⟩] 9)).alloc (.cells #[.int .i64 0] 29) = W := ⟨_, rfl⟩
 rw [hwb] at HTX hp0 hq0 zp0 zq0 hb2 hz
 have HWB := hide hwb
 have HB2 := hide hb2
 have hb3 : Below wb.heap.size wb (wb.alloc (.cells ([.slice C.lA C.l.length C.lc, .slice C.aA C.a.length C.ac, .slice none 0 0, .int .i64 0, .int .i64 0] : List Value).toArray ety)) := (Below.refl _ _).alloc (Nat.le_refl _) _
 obtain ⟨wx, hwx⟩ : ∃ W, wb.alloc (.cells ([.slice C.lA C.l.length C.lc, .slice C.aA C.a.length C.ac, .slice none 0 0, .int .i64 0, .int .i64 0] : List Value).toArray ety) = W := ⟨_, rfl⟩
 rw [hwx] at HTX hb3
 have HWX := hide hwx
 have hblk : ∀ (k : Nat), k < w.heap.size + 2 → ∀ (W : World), Kp wx W (fun k => k = w.heap.size + 2) → W.heap[k]? = wb.heap[k]? := fun k hk W hkp => (hkp.block k (by have := hb3.size; omega) (by omega)).trans (hb3.block k (by omega))
 have HBK := hide hblk
 have HB3 := hide (HB2.out.trans (hb3.mono HB2.out.size))
 clear hoi hcs hr hC hb2 hb3 hwb hwx hblk
 go_enter_defers Tryz.func193, Tryz.ntmps193
 go_wp2_with fail
 rw [HWB.out]
 rw [show wb.alloc (.cells #[.slice C.lA C.l.length C.lc, .slice C.aA C.a.length C.ac, .slice none 0 0, .int .i64 0, .int .i64 0] ety) = wx from HWX.out]
 refine HTX.out.mono ?_
 rintro e w2 hend
 cases r with
 | error c =>
   obtain ⟨rfl, o', d', r', P2, hoi2, hk2, hg2⟩ := hend
   have hp2 := (World.cell?_of_block (a := ⟨w.heap.size, 0, none⟩) (HBK.out w.heap.size (by omega) _ hk2)).trans hp0
   have hq2 := (World.cell?_of_block (a := ⟨w.heap.size + 1, 0, none⟩) (HBK.out (w.heap.size + 1) (by omega) _ hk2)).trans hq0
   have zp2 := (World.frozen?_of_block (a := ⟨w.heap.size, 0, none⟩) (HBK.out w.heap.size (by omega) _ hk2)).trans zp0
   have zq2 := (World.frozen?_of_block (a := ⟨w.heap.size + 1, 0, none⟩) (HBK.out (w.heap.size + 1) (by omega) _ hk2)).trans zq0
   have HBF := hide hoi2.below
   clear hoi2 hk2 hg2
   refine leaves_cons (f := 246) (args := #[.pointer (some ⟨w.heap.size, 0, none⟩), .pointer (some ⟨w.heap.size + 1, 0, none⟩)]) (by simp) (by simp [go_sem]) ?_
   refine (mcatch_panicking w.heap.size (w.heap.size + 1) _ _ c w2 hp2 hq2 zp2 zq2 (by omega)).mono ?_
   rintro e u' w3 ⟨rfl, rfl, hp3, hq3, hb3⟩
   simp [Leaves, settle, results, Tryz.results193, go_sem, hp3, hq3]
   refine ⟨by rw [HEF.out]; exact ⟨rfl, rfl⟩, HBF.out.trans (hb3.mono (by omega))⟩
 | ok x =>
   obtain ⟨t, n⟩ := x
   obtain ⟨rfl, P2, hoi2, hk2, hg2⟩ := hend
   have hp2 := (World.cell?_of_block (a := ⟨w.heap.size, 0, none⟩) (HBK.out w.heap.size (by omega) _ hk2)).trans hp0
   have hq2 := (World.cell?_of_block (a := ⟨w.heap.size + 1, 0, none⟩) (HBK.out (w.heap.size + 1) (by omega) _ hk2)).trans hq0
   have zp2 := (World.frozen?_of_block (a := ⟨w.heap.size, 0, none⟩) (HBK.out w.heap.size (by omega) _ hk2)).trans zp0
   have zq2 := (World.frozen?_of_block (a := ⟨w.heap.size + 1, 0, none⟩) (HBK.out (w.heap.size + 1) (by omega) _ hk2)).trans zq0
   have HBF := hide hoi2.below
   clear hoi2 hk2 hg2 HBK
   go_wp2
   refine leaves_cons (f := 246) (args := #[.pointer (some ⟨w.heap.size, 0, none⟩), .pointer (some ⟨w.heap.size + 1, 0, none⟩)]) (by simp) (by simp [go_sem]) ?_
   refine (mcatch_idle w.heap.size (w.heap.size + 1) _).mono ?_
   rintro e u' w4 ⟨rfl, rfl, rfl⟩
   simp [Leaves, settle, results, Tryz.results193, go_sem, hp2, hq2]
   exact ⟨by rw [HEF.out]; exact ⟨rfl, rfl⟩, (HBF.out.setCell (show w.heap.size ≤ w.heap.size by omega) _).setCell (show w.heap.size ≤ w.heap.size + 1 by omega) _⟩
end
section
open Go.RowKit Go.Deep
def Step (A A' : Asn) (w w' : World) : Prop := ∀ T, A T w → (∀ k, T k → k < w.heap.size) → ∃ T', A' T' w' ∧ Grow w w' T T' ∧ Kp w w' T
theorem Step.right {A A' X : Asn} {w w' : World} (h : Step A A' w w') (hX : Fr X) : Step (starA X A) (starA X A') w w' := by
 rintro T ⟨T1, T2, a, b, s1, s2, d⟩ hT
 obtain ⟨T2', q, g, hk⟩ := h T2 b (fun k hk => hT k (s2 k hk))
 refine ⟨fun k => T1 k ∨ T2' k, ⟨T1, T2', hX _ _ _ a (fun k h1 => hk.block k (hT k (s1 k h1)) (fun h2 => d k h1 h2)) hk.size, q, fun k h => .inl h, fun k h => .inr h, fun k h1 h2 => ?_⟩, fun k h1 => ?_, hk.mono s2⟩
 · rcases (g k h2).1 with h | h
   · exact d k h1 h
   · have := hT k (s1 k h1); omega
 · rcases h1 with h1 | h2
   · exact ⟨.inl (s1 k h1), Nat.lt_of_lt_of_le (hT k (s1 k h1)) hk.size⟩
   · exact ⟨(g k h2).1.imp_left (s2 k), (g k h2).2⟩
theorem Inv.to {A A' : Asn} {B : Nat} {w0 w w' : World} (h : Inv A B w0 w) (hB : B ≤ w0.heap.size) (hs : Step A A' w w') : Inv A' B w0 w' := by
 obtain ⟨T, a, ht, hb⟩ := h
 obtain ⟨T', q, g, hk⟩ := hs T a (fun k hk => (ht k hk).2)
 refine ⟨T', q, fun k h1 => ⟨?_, (g k h1).2⟩, hk.below hb hB (fun k h1 => (ht k h1).1)⟩
 rcases (g k h1).1 with h | h
 · exact (ht k h).1
 · have := hb.size; omega
section
variable {α : Type} (enc : α → List Value) (n : Nat) (E : TypeId)
def OG (base : Nat) (v : Value) (L : List α) : Asn := fun T w => OwnG enc n E w base v L ∧ ∀ k, v.ownBlock = some k → T k
theorem OG.fr (base : Nat) (v : Value) (L : List α) : Fr (OG enc n E base v L) := by
 rintro T w w' ⟨h1, h2⟩ hb hs
 refine ⟨?_, h2⟩
 refine ⟨h1.1, ?_⟩
 rcases h1.2 with h | ⟨g, cap, cur, rfl, hg, hh, r⟩
 · exact .inl h
 · exact .inr ⟨g, cap, cur, rfl, hg, (hb g (h2 g rfl)).trans hh, r⟩
theorem OG.nil (base : Nat) : ∀ w, OG enc n E base (.slice none 0 0) ([] : List α) (fun _ => False) w := fun w => ⟨OwnG.nil w base, fun k h => by cases h⟩
variable {enc n E}
theorem OG.own {base : Nat} {v : Value} {L : List α} {B : Nat} {w0 w : World} (h : Inv (OG enc n E base v L) B w0 w) : OwnG enc n E w base v L := by
 obtain ⟨T, ⟨h1, _⟩, _⟩ := h; exact h1
theorem OG.app {base : Nat} {v : Value} {L N : List α} {w w' : World} {v' : Value}
   (hrun : OwnG enc n E w' base v' (L ++ N)) (hg : w.grownBy w' v.ownBlock) (ho : v'.ownBlock = v.ownBlock ∨ v'.ownBlock = some w.heap.size) : Step (OG enc n E base v L) (OG enc n E base v' (L ++ N)) w w' := by
 rintro T ⟨h1, h2⟩ hT
 refine ⟨fun k => T k ∨ v'.ownBlock = some k, ⟨hrun, fun k hk => .inr hk⟩, fun k hk => ?_, ⟨hg.os, hg.tape, hg.output, hg.size, fun k hk hne => hg.block k hk (fun e => hne (h2 k e.symm))⟩⟩
 rcases hk with hk | hk
 · exact ⟨.inl hk, Nat.lt_of_lt_of_le (hT k hk) hg.size⟩
 · refine ⟨?_, (hrun.lt k hk).2⟩
   rcases ho with e | e
   · exact .inl (h2 k (by rw [← e]; exact hk))
   · rw [e] at hk; injection hk with hk; exact .inr (by omega)
theorem OG.push {P : Program} {S : TypeId} (R : RowT P S E n) (he : ∀ x, (enc x).length = n) (h1c : ∀ x, ∀ u ∈ enc x, u.oneCell' = true) {X : Asn} (hX : Fr X) {base B : Nat} {w0 w : World} {v : Value} {L : List α} (h : Inv (starA X (OG enc n E base v L)) B w0 w) (hB : B ≤ w0.heap.size) (hbase : base ≤ w.heap.size) (hl : L.length ≤ 900000) (x : α) (cs : Array Value) (hcs : cs = (enc x).toArray) :
   ∃ v' w', (Builtin.append_ #[S, S] S #[v, .slice (some ⟨w.heap.size, 0, none⟩) 1 1]).run P (w.alloc (.cells cs E)) = .ok v' w' ∧ Inv (starA X (OG enc n E base v' (L ++ [x]))) B w0 w' := by
 subst hcs
 have ho := OG.own h.snd
 obtain ⟨v', w', hrun, h2, h3, h4⟩ := run_appG R he h1c (c := 1) (ho.alloc (.cells (enc x).toArray E)) (rg_new w x E) (by simp; omega) (by simp; omega)
 refine ⟨v', w', hrun, ?_⟩
 have hi := h.step (hX.star (OG.fr enc n E base v L)) (((Below.refl _ _).alloc (Nat.le_refl _) (.cells (enc x).toArray E))) hB
 exact hi.to hB ((OG.app h2 h3 h4).right hX)
end
end
section
open Go.RowKit Go.Deep Ln
attribute [local go_sem] bt_eq
theorem spl_sum (c : UInt8) : ∀ l : T, sumL (spl c l) = l.length + 1
 | [] => rfl
 | b :: l => by
   by_cases h : b = c
   · rw [spl, if_pos h, sumL, spl_sum c l]; simp; omega
   · obtain ⟨x, t, h1, h2⟩ := spl_cons_ne h l
     have := spl_sum c l
     rw [h1, sumL] at this
     rw [h2, sumL]
     simp only [List.length_cons]
     omega
theorem spl_len (c : UInt8) (l : T) : (spl c l).length ≤ l.length + 1 := by
 have h := spl_sum c l
 have : ∀ L : List T, L.length ≤ sumL L := by
   intro L
   induction L with
   | nil => exact Nat.le_refl _
   | cons x L ih => rw [sumL, List.length_cons]; omega
 have := this (spl c l)
 omega
theorem sumL_le_drop (L : List T) (k : Nat) : sumL (L.drop k) ≤ sumL L := by
 induction L generalizing k with
 | nil => simp [sumL]
 | cons x L ih =>
   cases k with
   | zero => exact Nat.le_refl _
   | succ k => rw [List.drop_succ_cons, sumL]; have := ih k; omega
theorem sumL_take (L : List T) (k : Nat) : sumL (L.take k) ≤ sumL L := by
 induction L generalizing k with
 | nil => simp [sumL]
 | cons x L ih =>
   cases k with
   | zero => simp [sumL]
   | succ k => rw [List.take_succ_cons, sumL, sumL]; have := ih k; omega
def encL (x : Line) : List Value := [.bool x.1, .string (bs x.2)]
theorem encL_len (x : Line) : (encL x).length = 2 := rfl
theorem encL_one (x : Line) : ∀ u ∈ encL x, u.oneCell' = true := by
 intro u hu
 simp [encL] at hu
 rcases hu with rfl | rfl <;> rfl
def rowL : RowT Tryz.prog 138 143 2 := { z := .agg #[.bool false, .string ⟨#[]⟩], bytes := 24, und := Tryz.underlying138, info := by kernel_rfl, zlen := rfl, pos := by omega, sb := by omega }
abbrev OL (base : Nat) (v : Value) (L : List Line) : Asn := OG encL 2 143 base v L
def curV (L : List T) (j : Nat) : Value × Value := match L[j]? with
 | some x => (.string (bs x), .bool true)
 | none => (.string (bs []), .bool false)
theorem curV_some {L : List T} {j : Nat} {x : T} (h : L[j]? = some x) : curV L j = (.string (bs x), .bool true) := by unfold curV; rw [h]
theorem curV_none {L : List T} {j : Nat} (h : L.length ≤ j) : curV L j = (.string (bs []), .bool false) := by unfold curV; rw [List.getElem?_eq_none h]
theorem cut_tab (x : T) : Lib.hasPrefix x [9] = decide (x.headD 0 = 9) ∧ (x.headD 0 = 9 → Lib.trimPrefix x [9] = x.tail) := by
 cases x with
 | nil => exact ⟨by decide, fun h => by revert h; decide⟩
 | cons c x =>
   refine ⟨?_, fun h => ?_⟩
   · rw [Bool.eq_iff_iff, decide_eq_true_iff]
     simp [Lib.hasPrefix, List.isPrefixOf]
     exact ⟨fun h => h.symm, fun h => h.symm⟩
   · obtain rfl : c = 9 := h
     rfl
end
section
open Go.RowKit Go.Deep Ln
attribute [local go_sem] bt_eq
theorem LS.new {g : Nat} (L : List ByteArray) (t : TypeId) : ∀ T w, Blk g (.cells (L.map Value.string).toArray t) T w → LS (some ⟨g, 0, none⟩) L T w := by
 rintro T w ⟨h1, h2⟩
 refine ⟨fun k s hk => ⟨g, 0, rfl, (Array.getElem?_eq_some_iff.1 h2).1, ?_⟩, fun a e => by injection e with e; subst e; exact h1⟩
 simp [World.cell?, h2, hk]
theorem RDL.new {g : Nat} (A : Option Addr) (n c i : Nat) (t : TypeId) : ∀ T w, Blk g (.cells #[.slice A n c, .int .i64 i] t) T w → RDL g A n c i T w := by
 rintro T w ⟨h1, h2⟩
 exact ⟨h1, by simp [World.cell?, h2], by simp [World.cell?, h2], by simp [World.frozen?, h2], by simp [World.frozen?, h2]⟩
theorem Inv.nilOG {A : Asn} (hA : Fr A) {B : Nat} {w0 w : World} (h : Inv A B w0 w) (hB : B ≤ w0.heap.size) (base : Nat) : Inv (starA A (OL base (.slice none 0 0) [])) B w0 w :=
 h.add hA (Below.refl _ _) hB (OG.nil encL 2 143 base w) (fun _ hk => hk.elim)
theorem nxt_cur (L : List T) (j : Nat) : nxt (L.map bs) j = .tuple #[(curV L j).1, (curV L j).2] := by
 unfold nxt curV
 rw [List.getElem?_map]
 cases L[j]? <;> rfl
theorem last_is {P : List T} {pn : Nat} {x : T} (h : P.length = pn + 1) (hx : P[pn]? = some x) : P.getLastD [] = x := by
 rw [List.getLastD_eq_getLast?, List.getLast?_eq_getElem?, h, Nat.add_sub_cancel, hx]; rfl
theorem empty_bs {x : T} : (bs x).toList.isEmpty = x.isEmpty := by rw [bs_toList]
theorem othF_out : ∀ rest s, (othF rest s).1.length ≤ s.length + sumL rest
 | [], s => by
   rw [othF]
   by_cases h : oddB s = true
   · rw [if_pos h]
     have := List.length_pos_iff.2 (odd_ne h)
     have h2 := trimR_len s.dropLast
     rw [List.length_dropLast] at h2
     unfold front
     simp only [List.length_append, List.length_cons, List.length_nil]
     omega
   · rw [if_neg h]; show s.length ≤ _; omega
 | n :: rest, s => by
   rw [othF]
   by_cases h : oddB s = true
   · rw [if_pos h]
     have := List.length_pos_iff.2 (odd_ne h)
     have h2 := trimR_len s.dropLast
     rw [List.length_dropLast] at h2
     have h3 := othF_out rest (front s ++ trimL n)
     have h4 := trimL_len n
     rw [sumL]
     unfold front at h3 ⊢
     simp only [List.length_append, List.length_cons, List.length_nil] at h3
     omega
   · rw [if_neg h, sumL]; show s.length ≤ _; omega
theorem LS.take {A : Option Addr} {L : List ByteArray} (k : Nat) : ∀ T w, LS A L T w → LS A (L.take k) T w := fun _ _ ⟨h1, h2⟩ => ⟨h1.take k, h2⟩
def ReadPostP (l : T) (w : World) (e : Ending) (w' : World) : Prop := (∃ A c, e = .returned (.tuple #[.slice A (readF l).1.length c, .int .i64 (readF l).2]) ∧ (readF l).1.length ≤ c ∧ RG encL 2 w' A (readF l).1 ∧ ∀ a, A = some a → w.heap.size ≤ a.block) ∧ Below w.heap.size w w'
theorem readp_any (l : T) (w : World) (hm : MX w) (hz : (bs l).size ≤ 9223372036854775807) : Calls Tryz.prog 83 #[.string (bs l)] w (ReadPostP l w) := by
 have hzl : (bs l).size = l.length := bs_size l
 by_cases c1 : 16384 < (bs l).size
 · have hd : (16384 : Int) < ((bs l).size : Int) := by omega
   have HR := hide (show readF l = ([], 3) from if_pos (by omega))
   clear hzl c1
   generalize bs l = s at *
   go_enter Tryz.func83, Tryz.ntmps83
   go_wp2
   go_ret2
   unfold ReadPostP
   rw [HR.out]
   exact ⟨⟨none, 0, rfl, Nat.le_refl _, RG.nil _ _, fun a e => by cases e⟩, Below.refl _ _⟩
 have hd : ((bs l).size : Int) ≤ 16384 := by omega
 have hl16 : l.length ≤ 16384 := by omega
 have HIX0 := fun W => Tryz.strings_IndexByte (bs l) 0 W
 rw [bs_list, show (Int.toNat 0).toUInt8 = 0 from rfl] at HIX0
 have HIX := hide (fun W => (HIX0 W).mono fun e w' ⟨h1, h2⟩ => (⟨h1, h2.symm⟩ : _ ∧ W = w'))
 clear HIX0
 by_cases c2 : (0 : UInt8) ∈ l
 · have HR := hide (show readF l = ([], 2) by unfold readF; rw [if_neg (by omega), if_pos c2])
   have h0 := (ixb_mem 0 l).2 c2
   have h0d : decide (Lib.indexByte l 0 ≥ 0) = true := by simpa using h0
   clear hzl c1 c2
   generalize bs l = s at *
   generalize Lib.indexByte l 0 = ix at *
   go_enter Tryz.func83, Tryz.ntmps83
   go_wp2_with fail
   refine (HIX.out _).mono ?_
   rintro e w' ⟨rfl, rfl⟩
   go_wp2
   go_ret2
   unfold ReadPostP
   rw [HR.out]
   exact ⟨⟨none, 0, rfl, Nat.le_refl _, RG.nil _ _, fun a e => by cases e⟩, Below.refl _ _⟩
 have h0 : Lib.indexByte l 0 < 0 := by have := mt (ixb_mem 0 l).1 c2; omega
 have h0d : decide (Lib.indexByte l 0 ≥ 0) = false := by simp; omega
 obtain ⟨mx, hmx⟩ := hm
 have HSP := hide (fun W (h : W.cell? ⟨0, 0, none⟩ = some (.int .i64 mx)) => Tryz.strings_Split (bs l) ⟨#[10]⟩ mx W (by omega) h (by decide))
 have hcnt : Lib.countB (bs l) ⟨#[10]⟩ + 1 = (spl 10 l).length := by
   have := congrArg List.length (split_bs 10 l)
   rw [List.length_map, Lib.splitB_all _ (by decide) 0 _ _ rfl] at this
   exact this
 rw [hcnt, split_bs] at HSP
 have hR : readF l = (linesA (cutL l), 0) := by unfold readF; rw [if_neg (by omega), if_neg c2]
 have hsum := spl_sum 10 l
 have hpl := spl_len 10 l
 have hpn := spl_ne 10 l
 obtain ⟨P, hP⟩ : ∃ P, spl 10 l = P := ⟨_, rfl⟩
 have hcut : cutL l = if P.getLastD [] = [] then P.dropLast else P := by unfold cutL; rw [hP]
 rw [hP] at HSP hsum hpl hpn
 obtain ⟨pn, hpn2⟩ : ∃ pn, P.length = pn + 1 := ⟨P.length - 1, by have := List.length_pos_iff.2 hpn; omega⟩
 have HCUT := hide hcut
 have HR := hide hR
 have HPL := hide hpn2
 rw [hpn2] at HSP hpl
 clear hcut hR hP hcnt hpn hpn2 c1 c2 hzl
 have hpn3 : (pn : Int) ≤ 16384 := by omega
 go_enter Tryz.func83, Tryz.ntmps83
 go_wp2_with fail
 refine (HIX.out _).mono ?_
 rintro e w' ⟨rfl, rfl⟩
 generalize Lib.indexByte l 0 = ix at *
 go_wp2_with fail
 refine (HSP.out w hmx).mono ?_
 rintro e w1 ⟨rfl, rfl⟩
 have hi0 := ((Inv.first w (.cells ((P.map bs).map Value.string).toArray 9)).new (Blk.fr _ _) (.cells #[.slice (some ⟨w.heap.size, 0, none⟩) (pn + 1) (pn + 1), .int .i64 0] 190) (Nat.le_refl _)).mono (star_mono (LS.new (P.map bs) _) (RDL.new (some ⟨w.heap.size, 0, none⟩) (pn + 1) (pn + 1) 0 _))
 simp only [World.size_alloc] at hi0
 have HI0 := hide hi0
 have hi1 := ((Inv.first w (.cells ((P.map bs).map Value.string).toArray 9)).new (Blk.fr _ _) (.cells #[.slice (some ⟨w.heap.size, 0, none⟩) pn (pn + 1), .int .i64 0] 190) (Nat.le_refl _)).mono (star_mono (LS.new (P.map bs) _) (RDL.new (some ⟨w.heap.size, 0, none⟩) pn (pn + 1) 0 _))
 simp only [World.size_alloc] at hi1
 have HI1 := hide hi1
 obtain ⟨x, hx⟩ : ∃ x, P[pn]? = some x := ⟨P[pn]'(by have := HPL.out; omega), gE _⟩
 have hcx : (w.alloc (.cells ((P.map bs).map Value.string).toArray 9)).cell? ⟨w.heap.size, pn, none⟩ = some (.string (bs x)) := by
   rw [World.cell?_alloc_at _ _ _ _ rfl]
   simp [hx]
 have hp1 : ((P.map bs).map Value.string)[pn]? = some (.string (bs x)) := by simp [hx]
 have hp2 : ((P.map bs).map Value.string).toArray[pn]? = some (.string (bs x)) := by simp [hx]
 have hlast := last_is HPL.out hx
 have HS := hide hsum
 clear hx hsum hi0 hi1
 generalize (P.map bs).map Value.string = PV at *
 cases x with
 | nil =>
   have hem : (bs []).toList.isEmpty = true := by rw [empty_bs]; rfl
   obtain ⟨L, hLd⟩ : ∃ L, P.dropLast = L := ⟨_, rfl⟩
   have HRL := hide (show readF l = (linesA L, 0) by rw [HR.out, HCUT.out, if_pos hlast, hLd])
   obtain ⟨nL, hL⟩ : ∃ nL, L.length = nL := ⟨_, rfl⟩
   have hnL : nL = pn := by rw [← hL, ← hLd, List.length_dropLast, HPL.out]; omega
   have hsL : sumL L ≤ 16385 := by rw [← hLd, List.dropLast_eq_take]; have := sumL_take P (P.length - 1); have := HS.out; omega
   have hLb : (P.map bs).take pn = L.map bs := by rw [← hLd, List.dropLast_eq_take, HPL.out, Nat.add_sub_cancel, List.map_take]
   have hir0 := HI1.out.mono (star_mono (LS.take pn) (fun _ _ h => h))
   rw [hLb] at hir0
   have hir := hir0.nilOG ((LS.fr _ _).star (RDL.fr _ _ _ _ _)) (Nat.le_refl _) w.heap.size
   clear hir0 hLb
   have HIR := hide (hir.mono (A' := RI (some ⟨w.heap.size, 0, none⟩) L (w.heap.size + 1) (pn + 1) 0 (OL w.heap.size (.slice none 0 0) [])) (fun T w' h => by
     show (starA (starA _ (RDL _ _ L.length _ _)) _) T w'
     rw [hL, hnL]
     exact h))
   clear hir HI0 HI1
   obtain ⟨R, hRR⟩ : ∃ R, linesA L = R := ⟨_, rfl⟩
   have HRR := hide (show [] ++ linesA (L.drop 0) = R by rw [← hRR]; rfl)
   rw [hRR] at HRL
   have hnb : nL ≤ 16385 := by omega
   have hnc : nL ≤ pn + 1 := by omega
   clear hRR hLd HR HCUT HPL HS hlast hnL
   go_wp2_with fail
   have HLN := hide hL
   have HF0 := hide (fun v a => OG.fr encL 2 143 w.heap.size v a)
   have HFX := hide (fun i => (LS.fr (some ⟨w.heap.size, 0, none⟩) (L.map bs)).star (RDL.fr (w.heap.size + 1) (some ⟨w.heap.size, 0, none⟩) L.length (pn + 1) i))
   have HNX := hide (fun W v a j (hj : j ≤ nL) (h : Inv (RI (some ⟨w.heap.size, 0, none⟩) L (w.heap.size + 1) (pn + 1) j (OL w.heap.size v a)) w.heap.size w W) => next_I (HF0.out v a) h (Nat.le_refl _) (by have := HLN.out; omega) (by have := HLN.out; omega) (by have := HLN.out; omega) (by omega))
   refine (HNX.out _ _ _ 0 (Nat.zero_le _) HIR.out).mono ?_
   rintro e w2 ⟨rfl, hi⟩
   rw [nxt_cur]
   rw [HLN.out] at hi
   have HI := hide hi
   clear hi HIR
   go_wp2_with fail
   go_loopg [6, 7, 8] nL (fun q v6 v7 v8 wr => ∃ (j : Nat) (a : List Line), q = nL - j ∧ j ≤ nL ∧ v7 = (curV L j).1 ∧ v8 = (curV L j).2 ∧ Hid (a ++ linesA (L.drop j) = R) ∧ a.length ≤ j ∧ Inv (RI (some ⟨w.heap.size, 0, none⟩) L (w.heap.size + 1) (pn + 1) (if j < nL then j + 1 else j) (OL w.heap.size v6 a)) w.heap.size w wr)
   case atStart => exact ⟨0, [], rfl, Nat.zero_le _, rfl, rfl, HRR, Nat.le_refl _, HI.out⟩
   case round =>
     obtain ⟨j, a, hq, hj, rfl, rfl, HA, hal, hi⟩ := hrel
     have HI2 := hide hi
     clear hi HI
     by_cases hlt : j < nL
     · obtain ⟨y, hy⟩ : ∃ y, L[j]? = some y := ⟨L[j]'(by have := HLN.out; omega), gE _⟩
       rw [curV_some hy]
       rw [if_pos hlt] at HI2
       have HCP := hide (fun W => (Tryz.strings_CutPrefix (bs y) ⟨#[9]⟩ W).mono fun e w' ⟨h1, h2⟩ => (⟨h1, h2.symm⟩ : _ ∧ W = w'))
       rw [bs_list, show (⟨#[9]⟩ : ByteArray).data.toList = [9] from rfl, (cut_tab y).1] at HCP
       have hsd : sumL (L.drop j) ≤ 16385 := Nat.le_trans (sumL_le_drop L j) hsL
       have hsy := sumL_drop hy
       have hya : y.length + sumL (L.drop (j + 1)) ≤ 900000 := by omega
       have HAC := hide (show a ++ (if y.headD 0 = 9 then (true, (recF (L.drop (j + 1)) y.tail y.tail).1) :: linesA (recF (L.drop (j + 1)) y.tail y.tail).2
           else (if plainF (othF (L.drop (j + 1)) y).1 = [] then [] else [(false, plainF (othF (L.drop (j + 1)) y).1)]) ++ linesA (othF (L.drop (j + 1)) y).2) = R by rw [← HA.out, drop_cons hy, linesA_cons])
       have HLN2 := hide (show L.length ≤ pn + 1 by have := HLN.out; omega)
       have HLN3 := hide (show j + 1 ≤ L.length by have := HLN.out; omega)
       clear hsd hsy hy
       dsimp only
       by_cases h9 : y.headD 0 = 9
       · rw [(cut_tab y).2 h9, decide_eq_true h9] at HCP
         rw [if_pos h9] at HAC
         have hyt : y.tail.length + sumL (L.drop (j + 1)) ≤ 900000 := by rw [List.length_tail]; omega
         have HRC := hide (recipe_I (HF0.out _ _) HI2.out (Nat.le_refl _) HLN3.out HLN2.out (by omega) (by omega) y.tail hyt)
         generalize recF (L.drop (j + 1)) y.tail y.tail = rc at HRC HAC
         rw [show (⟨y.tail.toArray⟩ : ByteArray) = bs y.tail from rfl] at HCP
         generalize y.tail = yt at HCP HRC
         clear h9 hya hyt
         go_wp2_with fail
         refine (HCP.out _).mono ?_
         rintro e w' ⟨rfl, rfl⟩
         go_wp2_with fail
         refine HRC.out.mono ?_
         rintro e w3 ⟨i', hi1, hi2, hi3, rfl, hi4⟩
         have hi2' : i' ≤ nL := by have := HLN.out; omega
         obtain ⟨v4, w4, r4, hi5⟩ := OG.push rowL encL_len encL_one (HFX.out i') hi4 (Nat.le_refl _) hi4.below.size (by omega) (true, rc.1) #[.bool true, .string (bs rc.1)] rfl
         have HI4 := hide hi5
         have HA4 := hide (show (a ++ [(true, rc.1)]) ++ linesA (L.drop i') = R by rw [← HAC.out, hi3]; simp)
         have hal4 : (a ++ [(true, rc.1)]).length ≤ i' := by simp only [List.length_append, List.length_cons, List.length_nil]; omega
         clear hi3 hi4 hi5 HI2
         go_wp2_with (at_builtin; refine wpList_app_run ?_ (.tmp 62) (.tmp 67) ?_ ?_ ?_ ?_ r4 ?_; exact rfl; exact rfl; exact rfl; exact rfl; exact rfl)
         refine (HNX.out _ _ _ i' hi2' HI4.out).mono ?_
         rintro e w5 ⟨rfl, hi6⟩
         rw [nxt_cur]
         rw [HLN.out] at hi6
         have HI6 := hide hi6
         clear hi6 HI4
         go_wp2_with fail
         go_roundg (nL - i')
         case rel => exact ⟨i', _, rfl, hi2', rfl, rfl, HA4, hal4, HI6.out⟩
         case measure => omega
       · rw [decide_eq_false h9] at HCP
         rw [if_neg h9] at HAC
         have hob := othF_out (L.drop (j + 1)) y
         have HOT := hide (other_I (HF0.out _ _) HI2.out (Nat.le_refl _) HLN3.out HLN2.out (by omega) (by omega) y hya)
         generalize othF (L.drop (j + 1)) y = rc at HOT HAC hob
         have HPN := hide (fun W => plain_any rc.1 W (by omega))
         generalize (⟨(Lib.trimPrefix y [9]).toArray⟩ : ByteArray) = tp at HCP
         have hne1 : plainF rc.1 = [] → (bs (plainF rc.1)).toList.isEmpty = true := fun h => by rw [h, empty_bs]; rfl
         have hne2 : plainF rc.1 ≠ [] → (bs (plainF rc.1)).toList.isEmpty = false := fun h => by
           rw [empty_bs]
           cases hp : plainF rc.1 with
           | nil => exact absurd hp h
           | cons _ _ => rfl
         generalize plainF rc.1 = pf at HPN HAC hne1 hne2
         clear h9 hya hob
         by_cases hpf : pf = []
         · have hem2 := hne1 hpf
           rw [if_pos hpf, List.nil_append] at HAC
           clear hne1 hne2 hpf
           go_wp2_with fail
           refine (HCP.out _).mono ?_
           rintro e w' ⟨rfl, rfl⟩
           go_wp2_with fail
           refine HOT.out.mono ?_
           rintro e w3 ⟨i', hi1, hi2, hi3, rfl, hi4⟩
           have hi2' : i' ≤ nL := by have := HLN.out; omega
           have HI4 := hide hi4
           have HA4 := hide (show a ++ linesA (L.drop i') = R by rw [← HAC.out, hi3])
           have hal4 : a.length ≤ i' := by omega
           clear hi3 hi4 HI2
           go_wp2_with fail
           refine (HPN.out _).mono ?_
           rintro e w4 ⟨rfl, hb4⟩
           have HI5 := hide (HI4.out.step (RI.fr (HF0.out _ _)) hb4 (Nat.le_refl _))
           clear hb4
           go_wp2_with fail
           refine (HNX.out _ _ _ i' hi2' HI5.out).mono ?_
           rintro e w5 ⟨rfl, hi6⟩
           rw [nxt_cur]
           rw [HLN.out] at hi6
           have HI6 := hide hi6
           clear hi6 HI4 HI5
           go_wp2_with fail
           go_roundg (nL - i')
           case rel => exact ⟨i', _, rfl, hi2', rfl, rfl, HA4, hal4, HI6.out⟩
           case measure => omega
         · have hem2 := hne2 hpf
           rw [if_neg hpf] at HAC
           clear hne1 hne2 hpf
           go_wp2_with fail
           refine (HCP.out _).mono ?_
           rintro e w' ⟨rfl, rfl⟩
           go_wp2_with fail
           refine HOT.out.mono ?_
           rintro e w3 ⟨i', hi1, hi2, hi3, rfl, hi4⟩
           have hi2' : i' ≤ nL := by have := HLN.out; omega
           have HI4 := hide hi4
           have HA4 := hide (show (a ++ [(false, pf)]) ++ linesA (L.drop i') = R by rw [← HAC.out, hi3]; simp)
           have hal4 : (a ++ [(false, pf)]).length ≤ i' := by simp only [List.length_append, List.length_cons, List.length_nil]; omega
           clear hi3 hi4 HI2
           go_wp2_with fail
           refine (HPN.out _).mono ?_
           rintro e w4 ⟨rfl, hb4⟩
           have hi5 := HI4.out.step (RI.fr (HF0.out _ _)) hb4 (Nat.le_refl _)
           obtain ⟨v5, w6, r4, hi7⟩ := OG.push rowL encL_len encL_one (HFX.out i') hi5 (Nat.le_refl _) hi5.below.size (by omega) (false, pf) #[.bool false, .string (bs pf)] rfl
           have HI5 := hide hi7
           clear hb4 hi5 hi7
           go_wp2_with (at_builtin; refine wpList_app_run ?_ (.tmp 75) (.tmp 78) ?_ ?_ ?_ ?_ r4 ?_; exact rfl; exact rfl; exact rfl; exact rfl; exact rfl)
           refine (HNX.out _ _ _ i' hi2' HI5.out).mono ?_
           rintro e w7 ⟨rfl, hi6⟩
           rw [nxt_cur]
           rw [HLN.out] at hi6
           have HI6 := hide hi6
           clear hi6 HI4 HI5
           go_wp2_with fail
           go_roundg (nL - i')
           case rel => exact ⟨i', _, rfl, hi2', rfl, rfl, HA4, hal4, HI6.out⟩
           case measure => omega
     · obtain rfl : j = nL := by omega
       rw [curV_none (by have := HLN.out; omega)]
       rw [if_neg hlt] at HI2
       have hfin : a = R := by
         have := HA.out
         rw [List.drop_of_length_le (by have := HLN.out; omega)] at this
         rw [← this]; simp [linesA_nil]
       subst hfin
       have hown := OG.own HI2.out.snd
       have hlt := hown.lt
       obtain ⟨A3, c3, rfl, hc3, hr3, hob, _⟩ := hown.slice encL_len
       have HR3 := hide hr3
       have HOB := hide (fun a e => (hlt _ (hob a e)).1)
       clear hown hlt hob
       dsimp only
       go_wp2_with fail
       go_ret2
       unfold ReadPostP
       rw [HRL.out]
       exact ⟨⟨A3, c3, rfl, hc3, HR3.out, HOB.out⟩, HI2.out.below⟩
 | cons x0 x =>
   have hem : (bs (x0 :: x)).toList.isEmpty = false := by rw [empty_bs]; rfl
   obtain ⟨L, hLd⟩ : ∃ L, P = L := ⟨_, rfl⟩
   have HRL := hide (show readF l = (linesA L, 0) by rw [HR.out, HCUT.out, hlast, if_neg (by simp), hLd])
   obtain ⟨nL, hL⟩ : ∃ nL, L.length = nL := ⟨_, rfl⟩
   have hnL : nL = pn + 1 := by rw [← hL, ← hLd, HPL.out]
   have hsL : sumL L ≤ 16385 := by rw [← hLd]; have := HS.out; omega
   rw [hLd] at HI0
   have hir := HI0.out.nilOG ((LS.fr _ _).star (RDL.fr _ _ _ _ _)) (Nat.le_refl _) w.heap.size
   have HIR := hide (hir.mono (A' := RI (some ⟨w.heap.size, 0, none⟩) L (w.heap.size + 1) (pn + 1) 0 (OL w.heap.size (.slice none 0 0) [])) (fun T w' h => by
     show (starA (starA _ (RDL _ _ L.length _ _)) _) T w'
     rw [hL, hnL]
     exact h))
   clear hir HI0 HI1
   obtain ⟨R, hRR⟩ : ∃ R, linesA L = R := ⟨_, rfl⟩
   have HRR := hide (show [] ++ linesA (L.drop 0) = R by rw [← hRR]; rfl)
   rw [hRR] at HRL
   have hnb : nL ≤ 16385 := by omega
   have hnc : nL ≤ pn + 1 := by omega
   clear hRR hLd HR HCUT HPL HS hlast hnL
   go_wp2_with fail
   have HLN := hide hL
   have HF0 := hide (fun v a => OG.fr encL 2 143 w.heap.size v a)
   have HFX := hide (fun i => (LS.fr (some ⟨w.heap.size, 0, none⟩) (L.map bs)).star (RDL.fr (w.heap.size + 1) (some ⟨w.heap.size, 0, none⟩) L.length (pn + 1) i))
   have HNX := hide (fun W v a j (hj : j ≤ nL) (h : Inv (RI (some ⟨w.heap.size, 0, none⟩) L (w.heap.size + 1) (pn + 1) j (OL w.heap.size v a)) w.heap.size w W) => next_I (HF0.out v a) h (Nat.le_refl _) (by have := HLN.out; omega) (by have := HLN.out; omega) (by have := HLN.out; omega) (by omega))
   refine (HNX.out _ _ _ 0 (Nat.zero_le _) HIR.out).mono ?_
   rintro e w2 ⟨rfl, hi⟩
   rw [nxt_cur]
   rw [HLN.out] at hi
   have HI := hide hi
   clear hi HIR
   go_wp2_with fail
   go_loopg [6, 7, 8] nL (fun q v6 v7 v8 wr => ∃ (j : Nat) (a : List Line), q = nL - j ∧ j ≤ nL ∧ v7 = (curV L j).1 ∧ v8 = (curV L j).2 ∧ Hid (a ++ linesA (L.drop j) = R) ∧ a.length ≤ j ∧ Inv (RI (some ⟨w.heap.size, 0, none⟩) L (w.heap.size + 1) (pn + 1) (if j < nL then j + 1 else j) (OL w.heap.size v6 a)) w.heap.size w wr)
   case atStart => exact ⟨0, [], rfl, Nat.zero_le _, rfl, rfl, HRR, Nat.le_refl _, HI.out⟩
   case round =>
     obtain ⟨j, a, hq, hj, rfl, rfl, HA, hal, hi⟩ := hrel
     have HI2 := hide hi
     clear hi HI
     by_cases hlt : j < nL
     · obtain ⟨y, hy⟩ : ∃ y, L[j]? = some y := ⟨L[j]'(by have := HLN.out; omega), gE _⟩
       rw [curV_some hy]
       rw [if_pos hlt] at HI2
       have HCP := hide (fun W => (Tryz.strings_CutPrefix (bs y) ⟨#[9]⟩ W).mono fun e w' ⟨h1, h2⟩ => (⟨h1, h2.symm⟩ : _ ∧ W = w'))
       rw [bs_list, show (⟨#[9]⟩ : ByteArray).data.toList = [9] from rfl, (cut_tab y).1] at HCP
       have hsd : sumL (L.drop j) ≤ 16385 := Nat.le_trans (sumL_le_drop L j) hsL
       have hsy := sumL_drop hy
       have hya : y.length + sumL (L.drop (j + 1)) ≤ 900000 := by omega
       have HAC := hide (show a ++ (if y.headD 0 = 9 then (true, (recF (L.drop (j + 1)) y.tail y.tail).1) :: linesA (recF (L.drop (j + 1)) y.tail y.tail).2
           else (if plainF (othF (L.drop (j + 1)) y).1 = [] then [] else [(false, plainF (othF (L.drop (j + 1)) y).1)]) ++ linesA (othF (L.drop (j + 1)) y).2) = R by rw [← HA.out, drop_cons hy, linesA_cons])
       have HLN2 := hide (show L.length ≤ pn + 1 by have := HLN.out; omega)
       have HLN3 := hide (show j + 1 ≤ L.length by have := HLN.out; omega)
       clear hsd hsy hy
       dsimp only
       by_cases h9 : y.headD 0 = 9
       · rw [(cut_tab y).2 h9, decide_eq_true h9] at HCP
         rw [if_pos h9] at HAC
         have hyt : y.tail.length + sumL (L.drop (j + 1)) ≤ 900000 := by rw [List.length_tail]; omega
         have HRC := hide (recipe_I (HF0.out _ _) HI2.out (Nat.le_refl _) HLN3.out HLN2.out (by omega) (by omega) y.tail hyt)
         generalize recF (L.drop (j + 1)) y.tail y.tail = rc at HRC HAC
         rw [show (⟨y.tail.toArray⟩ : ByteArray) = bs y.tail from rfl] at HCP
         generalize y.tail = yt at HCP HRC
         clear h9 hya hyt
         go_wp2_with fail
         refine (HCP.out _).mono ?_
         rintro e w' ⟨rfl, rfl⟩
         go_wp2_with fail
         refine HRC.out.mono ?_
         rintro e w3 ⟨i', hi1, hi2, hi3, rfl, hi4⟩
         have hi2' : i' ≤ nL := by have := HLN.out; omega
         obtain ⟨v4, w4, r4, hi5⟩ := OG.push rowL encL_len encL_one (HFX.out i') hi4 (Nat.le_refl _) hi4.below.size (by omega) (true, rc.1) #[.bool true, .string (bs rc.1)] rfl
         have HI4 := hide hi5
         have HA4 := hide (show (a ++ [(true, rc.1)]) ++ linesA (L.drop i') = R by rw [← HAC.out, hi3]; simp)
         have hal4 : (a ++ [(true, rc.1)]).length ≤ i' := by simp only [List.length_append, List.length_cons, List.length_nil]; omega
         clear hi3 hi4 hi5 HI2
         go_wp2_with (at_builtin; refine wpList_app_run ?_ (.tmp 62) (.tmp 67) ?_ ?_ ?_ ?_ r4 ?_; exact rfl; exact rfl; exact rfl; exact rfl; exact rfl)
         refine (HNX.out _ _ _ i' hi2' HI4.out).mono ?_
         rintro e w5 ⟨rfl, hi6⟩
         rw [nxt_cur]
         rw [HLN.out] at hi6
         have HI6 := hide hi6
         clear hi6 HI4
         go_wp2_with fail
         go_roundg (nL - i')
         case rel => exact ⟨i', _, rfl, hi2', rfl, rfl, HA4, hal4, HI6.out⟩
         case measure => omega
       · rw [decide_eq_false h9] at HCP
         rw [if_neg h9] at HAC
         have hob := othF_out (L.drop (j + 1)) y
         have HOT := hide (other_I (HF0.out _ _) HI2.out (Nat.le_refl _) HLN3.out HLN2.out (by omega) (by omega) y hya)
         generalize othF (L.drop (j + 1)) y = rc at HOT HAC hob
         have HPN := hide (fun W => plain_any rc.1 W (by omega))
         generalize (⟨(Lib.trimPrefix y [9]).toArray⟩ : ByteArray) = tp at HCP
         have hne1 : plainF rc.1 = [] → (bs (plainF rc.1)).toList.isEmpty = true := fun h => by rw [h, empty_bs]; rfl
         have hne2 : plainF rc.1 ≠ [] → (bs (plainF rc.1)).toList.isEmpty = false := fun h => by
           rw [empty_bs]
           cases hp : plainF rc.1 with
           | nil => exact absurd hp h
           | cons _ _ => rfl
         generalize plainF rc.1 = pf at HPN HAC hne1 hne2
         clear h9 hya hob
         by_cases hpf : pf = []
         · have hem2 := hne1 hpf
           rw [if_pos hpf, List.nil_append] at HAC
           clear hne1 hne2 hpf
           go_wp2_with fail
           refine (HCP.out _).mono ?_
           rintro e w' ⟨rfl, rfl⟩
           go_wp2_with fail
           refine HOT.out.mono ?_
           rintro e w3 ⟨i', hi1, hi2, hi3, rfl, hi4⟩
           have hi2' : i' ≤ nL := by have := HLN.out; omega
           have HI4 := hide hi4
           have HA4 := hide (show a ++ linesA (L.drop i') = R by rw [← HAC.out, hi3])
           have hal4 : a.length ≤ i' := by omega
           clear hi3 hi4 HI2
           go_wp2_with fail
           refine (HPN.out _).mono ?_
           rintro e w4 ⟨rfl, hb4⟩
           have HI5 := hide (HI4.out.step (RI.fr (HF0.out _ _)) hb4 (Nat.le_refl _))
           clear hb4
           go_wp2_with fail
           refine (HNX.out _ _ _ i' hi2' HI5.out).mono ?_
           rintro e w5 ⟨rfl, hi6⟩
           rw [nxt_cur]
           rw [HLN.out] at hi6
           have HI6 := hide hi6
           clear hi6 HI4 HI5
           go_wp2_with fail
           go_roundg (nL - i')
           case rel => exact ⟨i', _, rfl, hi2', rfl, rfl, HA4, hal4, HI6.out⟩
           case measure => omega
         · have hem2 := hne2 hpf
           rw [if_neg hpf] at HAC
           clear hne1 hne2 hpf
           go_wp2_with fail
           refine (HCP.out _).mono ?_
           rintro e w' ⟨rfl, rfl⟩
           go_wp2_with fail
           refine HOT.out.mono ?_
           rintro e w3 ⟨i', hi1, hi2, hi3, rfl, hi4⟩
           have hi2' : i' ≤ nL := by have := HLN.out; omega
           have HI4 := hide hi4
           have HA4 := hide (show (a ++ [(false, pf)]) ++ linesA (L.drop i') = R by rw [← HAC.out, hi3]; simp)
           have hal4 : (a ++ [(false, pf)]).length ≤ i' := by simp only [List.length_append, List.length_cons, List.length_nil]; omega
           clear hi3 hi4 HI2
           go_wp2_with fail
           refine (HPN.out _).mono ?_
           rintro e w4 ⟨rfl, hb4⟩
           have hi5 := HI4.out.step (RI.fr (HF0.out _ _)) hb4 (Nat.le_refl _)
           obtain ⟨v5, w6, r4, hi7⟩ := OG.push rowL encL_len encL_one (HFX.out i') hi5 (Nat.le_refl _) hi5.below.size (by omega) (false, pf) #[.bool false, .string (bs pf)] rfl
           have HI5 := hide hi7
           clear hb4 hi5 hi7
           go_wp2_with (at_builtin; refine wpList_app_run ?_ (.tmp 75) (.tmp 78) ?_ ?_ ?_ ?_ r4 ?_; exact rfl; exact rfl; exact rfl; exact rfl; exact rfl)
           refine (HNX.out _ _ _ i' hi2' HI5.out).mono ?_
           rintro e w7 ⟨rfl, hi6⟩
           rw [nxt_cur]
           rw [HLN.out] at hi6
           have HI6 := hide hi6
           clear hi6 HI4 HI5
           go_wp2_with fail
           go_roundg (nL - i')
           case rel => exact ⟨i', _, rfl, hi2', rfl, rfl, HA4, hal4, HI6.out⟩
           case measure => omega
     · obtain rfl : j = nL := by omega
       rw [curV_none (by have := HLN.out; omega)]
       rw [if_neg hlt] at HI2
       have hfin : a = R := by
         have := HA.out
         rw [List.drop_of_length_le (by have := HLN.out; omega)] at this
         rw [← this]; simp [linesA_nil]
       subst hfin
       have hown := OG.own HI2.out.snd
       have hlt := hown.lt
       obtain ⟨A3, c3, rfl, hc3, hr3, hob, _⟩ := hown.slice encL_len
       have HR3 := hide hr3
       have HOB := hide (fun a e => (hlt _ (hob a e)).1)
       clear hown hlt hob
       dsimp only
       go_wp2_with fail
       go_ret2
       unfold ReadPostP
       rw [HRL.out]
       exact ⟨⟨A3, c3, rfl, hc3, HR3.out, HOB.out⟩, HI2.out.below⟩
end
section
open Go.RowKit Go.Deep Go.Maps Ln Pth Vf Rd Mc
attribute [local go_sem] bt_eq
def pwr (c : Nat) : List PanicEntry := [{ v := .iface 82 (.agg #[.int .i64 c]), recovered := false }]
theorem must0_any (w : World) : Calls Tryz.prog 84 #[.int .i64 0] w fun e w' => e = .returned (.tuple #[]) ∧ w = w' := by
 go_enter Tryz.func84, Tryz.ntmps84
 go_wp2
 go_end0
 exact ⟨rfl, rfl⟩
theorem mustE_any (c : Nat) (hc : c ≠ 0) (w : World) : Calls Tryz.prog 84 #[.int .i64 c] w fun e w' => e = .panicked (pwr c) ∧ w = w' := by
 have h1 : (((c : Nat) : Int) == 0) = false := by simp only [beq_eq_false_iff_ne]; omega
 have h2 : (((c : Nat) : Int) != 0) = true := by simp only [bne_iff_ne, ne_eq]; omega
 go_enter Tryz.func84, Tryz.ntmps84
 go_wp2
 exact ⟨rfl, rfl, rfl⟩
theorem passF_nil (o x : UInt8) (n : Nat) : passF o x n [] = 0 := by cases n <;> rfl
theorem passF_zero (o x : UInt8) (l : T) : passF o x 0 l = 0 := by cases l <;> rfl
theorem passF_cons (o x : UInt8) (n : Nat) (c : UInt8) (t : T) : passF o x (n + 1) (c :: t) = 1 + passF o x (if c = o then n + 2 else if c = x then n else n + 1) t := rfl
theorem pass_any (l : T) (i : Nat) (o x : UInt8) (w : World) (hl : l.length ≤ 1000000) (hi : i ≤ 1000000) :
   Calls Tryz.prog 198 #[.string (bs l), .int .i64 i, .int .u8 o.toNat, .int .u8 x.toNat] w fun e w' => e = .returned (.int .i64 ((i + passF o x 1 (l.drop i) : Nat) : Int)) ∧ w = w' := by
 obtain ⟨n, hn⟩ : ∃ n, l.length = n := ⟨_, rfl⟩
 have HN := hide hn
 have hsz : (bs l).size = n := by rw [bs_size, hn]
 obtain ⟨r, hr⟩ : ∃ r, i + passF o x 1 (l.drop i) = r := ⟨_, rfl⟩
 have HR := hide hr
 obtain ⟨on, hon⟩ : ∃ m, o.toNat = m := ⟨_, rfl⟩
 obtain ⟨xn, hxn⟩ : ∃ m, x.toNat = m := ⟨_, rfl⟩
 have HO := hide hon
 have HX := hide hxn
 rw [hr, hon, hxn]
 rw [hn] at hl
 clear hn hr hon hxn
 go_enter Tryz.func198, Tryz.ntmps198
 go_wp2
 go_loopw [1, 9] (fun v1 v9 wr => ∃ k m : Nat, v1 = .int .i64 k ∧ v9 = .int .i64 m ∧ k ≤ 1000000 ∧ m ≤ k + 1 ∧ Hid (k + passF o x m (l.drop k) = r) ∧ w = wr) (fun v1 _ _ => 1000001 - (intOf v1).toNat)
 case atStart => exact ⟨i, 1, rfl, rfl, hi, by omega, HR, rfl⟩
 case round =>
   obtain ⟨k, m, rfl, rfl, hk, hmk, HC, rfl⟩ := hrel
   by_cases hlt : k < n
   case neg =>
     have hrn : k = r := by
       have := HC.out
       rw [List.drop_of_length_le (by have := HN.out; omega), passF_nil] at this
       omega
     have b1 : ¬ (k : Int) < (n : Int) := by omega
     subst hrn
     clear HC HR
     go_wp2
     go_ret
     exact ⟨rfl, rfl⟩
   have b1 : (k : Int) < (n : Int) := by omega
   cases m with
   | zero =>
     have hrn : k = r := by have := HC.out; rw [passF_zero] at this; omega
     subst hrn
     clear HC HR
     go_wp2
     go_ret
     exact ⟨rfl, rfl⟩
   | succ m =>
     have b2 : (0 : Int) < ((m + 1 : Nat) : Int) := by omega
     have hkl : k < l.length := by have := HN.out; omega
     obtain ⟨c, hc⟩ : ∃ c, l[k]? = some c := ⟨l[k]'hkl, gE _⟩
     have hdc : l.drop k = c :: l.drop (k + 1) := by
       rw [List.drop_eq_getElem_cons hkl]
       rw [List.getElem?_eq_getElem hkl] at hc
       injection hc with hc
       rw [hc]
     have hb : bt (bs l) k = c.toNat := by
       rw [← bt_eq (bs l) k (by omega)]
       rw [List.getElem?_eq_getElem hkl] at hc
       injection hc with hc
       rw [← hc]
       rfl
     have hst := HC.out
     rw [hdc, passF_cons] at hst
     have eo : c = o ↔ c.toNat = on := by rw [← HO.out]; exact UInt8.toNat_inj.symm
     have ex : c = x ↔ c.toNat = xn := by rw [← HX.out]; exact UInt8.toNat_inj.symm
     rw [← hb] at eo ex
     have HST := hide hst
     clear hst hdc hc hb
     by_cases h1 : c = o
     · have q1 : (((bt (bs l) k : Nat) : Int) == (on : Int)) = true := by simp only [beq_iff_eq]; have := eo.1 h1; omega
       have HC2 := hide (show k + 1 + passF o x (m + 2) (l.drop (k + 1)) = r by have := HST.out; rw [if_pos h1] at this; omega)
       clear eo ex h1
       go_wp2
       exact ⟨⟨k + 1, m + 2, by go_num, by go_num, by omega, by omega, HC2, trivial⟩, by simp [intOf]; omega⟩
     have q1 : (((bt (bs l) k : Nat) : Int) == (on : Int)) = false := by simp only [beq_eq_false_iff_ne]; intro h; exact h1 (eo.2 (by omega))
     by_cases h2 : c = x
     · have q2 : (((bt (bs l) k : Nat) : Int) == (xn : Int)) = true := by simp only [beq_iff_eq]; have := ex.1 h2; omega
       have HC2 := hide (show k + 1 + passF o x m (l.drop (k + 1)) = r by have := HST.out; rw [if_neg h1, if_pos h2] at this; omega)
       clear eo ex h1 h2
       go_wp2
       exact ⟨⟨k + 1, m, by go_num, by go_num, by omega, by omega, HC2, trivial⟩, by simp [intOf]; omega⟩
     · have q2 : (((bt (bs l) k : Nat) : Int) == (xn : Int)) = false := by simp only [beq_eq_false_iff_ne]; intro h; exact h2 (ex.2 (by omega))
       have HC2 := hide (show k + 1 + passF o x (m + 1) (l.drop (k + 1)) = r by have := HST.out; rw [if_neg h1, if_neg h2] at this; omega)
       clear eo ex h1 h2
       go_wp2
       exact ⟨⟨k + 1, m + 1, by go_num, by go_num, by omega, by omega, HC2, trivial⟩, by simp [intOf]; omega⟩
def pcB (s : ByteArray) : Bool := !isP s
theorem mixed1_any (s : ByteArray) (w : World) : Calls Tryz.prog 201 #[.string s] w fun e w' => e = .returned (.bool (pcB s)) ∧ w = w' := by
 have HS := hide (stemIs_any s w)
 have HP := hide (show pcB s = !isP s from rfl)
 obtain ⟨b, hb⟩ : ∃ b, isP s = b := ⟨_, rfl⟩
 rw [hb] at HS HP
 clear hb
 go_enter Tryz.func201, Tryz.ntmps201
 go_wp2_with fail
 refine HS.out.mono ?_
 rintro e w' ⟨rfl, rfl⟩
 go_wp2
 go_ret
 rw [HP.out]
 exact ⟨rfl, rfl⟩
theorem mix_eq (L : List T) : ((L.map bs).any isP && (L.map bs).any pcB) = mixF L := by
 unfold mixF
 rw [List.any_map, List.any_map]
 have e1 : (isP ∘ bs) = pc := funext fun t => by simp [isP, pc, bs_list]
 have e2 : (pcB ∘ bs) = fun t => !pc t := funext fun t => by simp [pcB, isP, pc, bs_list]
 rw [e1, e2]
theorem mixed_any (A : Option Addr) (c : Nat) (L : List T) (w : World) (hA : SR w A (L.map bs)) (hl : L.length ≤ 1000000) : Calls Tryz.prog 148 #[.slice A L.length c] w fun e w' => e = .returned (.bool (mixF L)) ∧ Below w.heap.size w w' := by
 have HA := hide (fun W (hb : Below w.heap.size w W) => contf_any isP 200 #[] (fun _ _ => by kernel_rfl) A c (L.map bs) W (by rw [List.length_map]; omega) (hA.below hb) (fun W' x _ hb' => (stemIs_any x W').mono (fun e w' ⟨h1, h2⟩ => ⟨h1, h2 ▸ hb'⟩)))
 have HB := hide (fun W (hb : Below w.heap.size w W) => contf_any pcB 201 #[] (fun _ _ => by kernel_rfl) A c (L.map bs) W (by rw [List.length_map]; omega) (hA.below hb) (fun W' x _ hb' => (mixed1_any x W').mono (fun e w' ⟨h1, h2⟩ => ⟨h1, h2 ▸ hb'⟩)))
 have HM := hide (mix_eq L)
 rw [List.length_map] at HA HB
 obtain ⟨n, hn⟩ : ∃ n, L.length = n := ⟨_, rfl⟩
 rw [hn] at HA HB ⊢
 obtain ⟨a, ha⟩ : ∃ b, (L.map bs).any isP = b := ⟨_, rfl⟩
 obtain ⟨b, hb⟩ : ∃ b, (L.map bs).any pcB = b := ⟨_, rfl⟩
 obtain ⟨m, hm⟩ : ∃ b, mixF L = b := ⟨_, rfl⟩
 rw [ha] at HA HM
 rw [hb] at HB HM
 rw [hm] at HM ⊢
 clear hA hl hn ha hb hm
 go_enter Tryz.func148, Tryz.ntmps148
 go_wp2_with fail
 refine (HA.out _ (Below.refl _ _)).mono ?_
 rintro e w2 ⟨rfl, hb2⟩
 have HB2 := hide hb2
 clear hb2
 cases a with
 | false =>
   go_wp2
   go_ret
   rw [← HM.out]
   exact ⟨rfl, HB2.out⟩
 | true =>
   go_wp2_with fail
   refine (HB.out _ HB2.out).mono ?_
   rintro e w3 ⟨rfl, hb3⟩
   have HB3 := hide (HB2.out.trans (hb3.mono HB2.out.size))
   clear hb3
   go_wp2
   go_ret
   rw [← HM.out]
   exact ⟨rfl, HB3.out⟩
end
section
open Go.RowKit Go.Deep Go.Maps Ln Pth Vf Rd Mc
attribute [local go_sem] bt_eq
abbrev SRng (w : World) (b r : Nat) (P : KV ByteArray) (left : Lit → Bool) (cnt : Nat) : Prop := w.ranges Tryz.prog 9 hB b r P.length (datG fS P) left cnt
theorem pairs_any (w0 : World) (C : Rk) (g : Nat) (s : Sx) (deep : Int) (S : Nat → Prop) (w : World) (h : RD w0 C g s deep S w) (hl : s.mac.length ≤ 10000) :
   Calls Tryz.prog 38 #[.pointer (some ⟨g, 0, none⟩)] w fun e w' => (∃ A c, e = .returned (.slice A s.mac.length c) ∧ PR w' A s.mac) ∧ Below w.heap.size w w' := by
 obtain ⟨A9, c9, _, _, hc2, _⟩ := h.cells
 have HM := hide h.mac
 have HR := hide h.rise
 obtain ⟨P, hP⟩ : ∃ P, s.mac = P := ⟨_, rfl⟩
 rw [hP] at HM HR hl ⊢
 obtain ⟨b, hb⟩ : ∃ b, C.bm = b := ⟨_, rfl⟩
 rw [hb] at hc2 HM
 have hbl := HM.out.lt
 clear h hP hb
 go_enter Tryz.func38, Tryz.ntmps38
 go_wp2_with (at_range; refine wpList_range_own _ rfl _ 76 rfl 9 9 bkeyed Tryz.underlying76 hB b P.length (datG fS P) rfl HM.out ?_; intro w0 hrg0 hg0 hs0)
 have hb0 : Below w.heap.size w w0 := ⟨hg0.os, hg0.tape, hg0.output, hg0.size, fun k hk => hg0.block k hk (by simp)⟩
 have HB0 := hide hb0
 have HG0 := hide hrg0
 have HCS := hide (collS_start P)
 clear hb0 hg0 hrg0
 obtain ⟨r, hr⟩ : ∃ r, w.heap.size = r := ⟨_, rfl⟩
 rw [hr] at HG0 hbl hs0 ⊢
 have HRR := hide hr
 clear hr
 go_frame
 go_loopw [3, 4, 5] (fun v3 _ _ wr => ∃ (acc : List Pr) (left : Lit → Bool) (cnt : Nat), SRng wr b r P left cnt ∧ OwnP wr (r + 1) v3 acc ∧ Hid (acc.Perm (collS P left)) ∧ r + 1 ≤ wr.heap.size ∧ Below r w wr) (fun _ _ _ wr => wr.rangeLeft b r)
 case atStart => exact ⟨[], _, _, HG0.out, OwnP.nil _ _, by show List.Perm _ _; rw [HCS.out], by omega, by rw [← HRR.out]; exact HB0.out⟩
 case round =>
   obtain ⟨acc, left, cnt, hrg, ho, HP, hsz, hbw⟩ := hrel
   have HRG := hide hrg
   have HO := hide ho
   have HBW := hide hbw
   clear hrg ho hbw
   go_wp2_with (at_next; refine wpList_next_ranges _ rfl _ rfl 9 bkeyed hB Value.string (fun v : Value => v) (fun key kl h => by obtain ⟨s, h1, _⟩ := Go.WideMaps.string_of_keyOf Tryz.underlying9 h; exact ⟨s, h1⟩) (fun v y _ => ⟨v, rfl⟩) b r P.length (datG fS P) left cnt rfl HRG.out ?_ ?_)
   · intro hc0 hl0
     have hpm := HP.out
     rw [collS_end P hl0] at hpm
     have HSO := hide (sortPairs_any HO.out hpm HR.out (by have := hpm.length_eq; omega))
     clear HRG HP hpm hl0 hc0
     go_wp2_with fail
     refine HSO.out.mono ?_
     rintro e w2 ⟨rfl, ho2, hg2⟩
     obtain ⟨A2, c2, rfl, _, hp2, _⟩ := ho2.slice
     have HP2 := hide hp2
     have HB2 := hide (HBW.out.grown hg2 (by omega) (fun k hk => by have := (World.ownsRow.lt HO.out k hk).1; omega))
     clear ho2 hg2 hp2
     go_wp2
     go_ret
     exact ⟨⟨A2, c2, rfl, HP2.out⟩, by have := HRR.out; rw [this]; exact HB2.out⟩
   · intro x c kl y1 y2 w1 cnt1 hkey hlk hv hat hrg1 hlt hgr1 hsz1 hen
     obtain ⟨rfl, val, hgv, hyv⟩ := keyS_in (y := (y1, y2)) hkey hat
     obtain rfl : c = .string val := by
       unfold hB at hv
       injection hv with hv
       injection hv with hv1 hv2
       rw [show y1 = fS val from hyv] at hv1
       unfold fS at hv1
       injection hv1
     have hxin : (x, val) ∈ P := getG_mem hgv
     have hgs : goneS left x = false := by unfold goneS; rw [hlk]; rfl
     have HST := hide (collS_step HR.out hxin (q := goneS left) (q' := goneS (fun z => left z && !z.sameKey (kLit x))) (fun k => goneS_step left x k) hgs)
     have HR1 := hide hrg1
     have HO1 := hide (HO.out.kept hgr1 (.inr (fun e => by have := (World.ownsRow.lt HO.out r e).1; omega)))
     have hb1 : Below r w w1 := HBW.out.grown hgr1 (by omega) (fun k hk => by injection hk with hk; omega)
     have HB1 := hide hb1
     have HCN := hide (show wr.rangeLeft b r = cnt from HRG.out.left_eq)
     have hxl : acc.length ≤ 10000 := by
       have := HP.out.length_eq
       have := collS_len P left
       omega
     have hs1a : r + 1 ≤ w1.heap.size := by omega
     have HE := hide (show (acc ++ [(x, val)]).Perm (collS P (fun z => left z && !z.sameKey (kLit x))) from (HP.out.append (List.Perm.refl [(x, val)])).trans HST.out.symm)
     obtain ⟨v4, w4, r4, o4, g4, b4⟩ := run_appP (c := 1) (OwnP.alloc HO1.out (.cells #[.string x, .string val] 42)) (pr_new w1 x val) (by simp; omega) (by simp; omega)
     have HO4 := hide o4
     have HR4 := hide ((HR1.out.alloc (.cells #[.string x, .string val] 42)).kept g4 (fun e => by have := (World.ownsRow.lt HO.out b e.symm).1; omega) (fun e => by have := (World.ownsRow.lt HO.out r e.symm).1; omega))
     have HB4 := hide ((HB1.out.alloc (by omega) (.cells #[.string x, .string val] 42)).grown g4 (by simp; omega) (fun k hk => by have := (World.ownsRow.lt HO.out k hk).1; omega))
     have hz4 : r + 1 ≤ w4.heap.size := by have := g4.size; simp at this; omega
     have HEN := hide hen
     clear o4 g4 b4 hkey hlk hv hat hrg1 hgr1 hb1 hxin hgs hsz1 hgv hyv
     go_wp2_with (at_builtin; refine wpList_app_run ?_ (.tmp 16) (.tmp 20) ?_ ?_ ?_ ?_ r4 ?_; exact rfl; exact rfl; exact rfl; exact rfl; exact rfl)
     go_roundw
     case rel => exact ⟨acc ++ [(x, val)], _, cnt1, HR4.out, HO4.out, HE.out, hz4, HB4.out⟩
     case measure => rw [HR4.out.left_eq, HCN.out]; exact hlt
theorem mpOf_pr (P : KV ByteArray) : (mpOf P).map prB = P := by
 unfold mpOf
 rw [List.map_map]
 conv => rhs; rw [← List.map_id P]
 refine List.map_congr_left fun x _ => ?_
 show (bs x.1.data.toList, bs x.2.data.toList) = x
 rw [bs_of, bs_of]
theorem expanded_any (w0 : World) (C : Rk) (g : Nat) (s : Sx) (deep : Int) (S : Nat → Prop) (w : World) (h : RD w0 C g s deep S w) (hm : MX w0) (hl : s.mac.length ≤ 10000) (hz : ∀ x ∈ s.mac, x.2.size ≤ 9223372036854775807) (t : T) (ht : t.length ≤ 9223372036854775807) :
   Calls Tryz.prog 141 #[.pointer (some ⟨g, 0, none⟩), .string (bs t)] w fun e w' => (match expS s.mac t with | .error c => c ≠ 0 ∧ e = .panicked (pwr c) | .ok x => e = .returned (.string (bs x))) ∧ Below w.heap.size w w' := by
 have HP := hide (pairs_any w0 C g s deep S w h hl)
 have HMX := hide (hm.below h.below)
 have HE := hide (fun W A c (hb : Below w.heap.size w W) (hp : PR W A s.mac) => expand_any t ⟨A, c, mpOf s.mac, none, 0, []⟩ W ⟨by rw [mpOf_pr]; exact hp, PR.nil _ _, by unfold mpOf; rw [List.length_map]; omega, by simp, fun x hx => by
   unfold mpOf at hx
   obtain ⟨y, hy, rfl⟩ := List.mem_map.1 hx
   have := hz y hy
   rw [← data_len] at this
   exact this, by simp, (hm.below h.below).below hb⟩ ht)
 have HLN := hide (show (mpOf s.mac).length = s.mac.length by unfold mpOf; simp)
 have HX := hide (show expS s.mac t = if (expF [] (mpOf s.mac) t).2 = 0 then .ok (expF [] (mpOf s.mac) t).1 else .error (expF [] (mpOf s.mac) t).2 from rfl)
 obtain ⟨x, hx⟩ : ∃ x, (expF [] (mpOf s.mac) t).1 = x := ⟨_, rfl⟩
 obtain ⟨c0, hc0⟩ : ∃ x, (expF [] (mpOf s.mac) t).2 = x := ⟨_, rfl⟩
 dsimp only at HE
 rw [HLN.out] at HE
 rw [hx, hc0] at HE HX
 rw [HX.out]
 clear h hm hz hx hc0 HX HLN
 by_cases he : c0 = 0
 · subst he
   rw [if_pos rfl]
   go_enter Tryz.func141, Tryz.ntmps141
   go_wp2_with fail
   refine HP.out.mono ?_
   rintro e w1 ⟨⟨A, c, rfl, hp⟩, hb1⟩
   have HB1 := hide hb1
   have HE1 := hide (HE.out w1 A c hb1 hp)
   clear hp hb1
   go_wp2_with fail
   refine HE1.out.mono ?_
   rintro e w2 ⟨rfl, hb2⟩
   have HB2 := hide (HB1.out.trans (hb2.mono HB1.out.size))
   clear hb2
   go_wp2_with fail
   refine (must0_any _).mono ?_
   rintro e w3 ⟨rfl, rfl⟩
   go_wp2
   go_ret
   exact ⟨rfl, HB2.out⟩
 · rw [if_neg he]
   go_enter Tryz.func141, Tryz.ntmps141
   go_wp2_with fail
   refine HP.out.mono ?_
   rintro e w1 ⟨⟨A, c, rfl, hp⟩, hb1⟩
   have HB1 := hide hb1
   have HE1 := hide (HE.out w1 A c hb1 hp)
   clear hp hb1
   go_wp2_with fail
   refine HE1.out.mono ?_
   rintro e w2 ⟨rfl, hb2⟩
   have HB2 := hide (HB1.out.trans (hb2.mono HB1.out.size))
   clear hb2
   go_wp2_with fail
   refine (mustE_any c0 he _).mono ?_
   rintro e w3 ⟨rfl, rfl⟩
   exact ⟨rfl, ⟨he, rfl⟩, HB2.out⟩
end
section
open Go.RowKit Go.Deep Go.Maps Ln Pth Vf Rd Mc
attribute [local go_sem] bt_eq
theorem cutF_skip : ∀ (k : Nat) (t acc : T), cutF t k acc = cutF (t.drop k) 0 (acc ++ t.take k)
 | 0, t, acc => by simp
 | k + 1, [], acc => by simp [cutF]
 | k + 1, c :: t, acc => by
   rw [cutF, cutF_skip k t (acc ++ [c]), List.drop_succ_cons, List.take_succ_cons]
   simp
theorem passF_len (o x : UInt8) : ∀ (n : Nat) (l : T), passF o x n l ≤ l.length
 | n, [] => by rw [passF_nil]; simp
 | 0, c :: l => by rw [passF_zero]; simp
 | n + 1, c :: l => by
   have := passF_len o x (if c = o then n + 2 else if c = x then n else n + 1) l
   rw [passF_cons, List.length_cons]
   omega
theorem cutF_cons0 (c : UInt8) (t acc : T) : cutF (c :: t) 0 acc =
   if c = 36 then cutF t (match t with | [] => 0 | d :: u => if d = 40 then 1 + passF 40 41 1 u else if d = 123 then 1 + passF 123 125 1 u else 1) (acc ++ [c])
   else if c = 59 then (acc, trimL t, true) else cutF t 0 (acc ++ [c]) := rfl
theorem cut_next (l : T) (k j : Nat) (hk : k ≤ j) (h : cutF (l.drop (k + 1)) (j - (k + 1)) (l.take (k + 1)) = cutF (l.drop (k + 1)) (j - (k + 1)) (l.take (k + 1))) (hj : k + 1 ≤ j) : cutF (l.drop (k + 1)) (j - (k + 1)) (l.take (k + 1)) = cutF (l.drop j) 0 (l.take j) := by
 rw [cutF_skip, List.drop_drop, show k + 1 + (j - (k + 1)) = j by omega]
 congr 1
 conv => rhs; rw [show j = (k + 1) + (j - (k + 1)) by omega, List.take_add]
theorem rlcut_any (l : T) (w : World) (hl : l.length ≤ 900000) :
   Calls Tryz.prog 146 #[.string (bs l)] w fun e w' => e = .returned (.tuple #[.string (bs (cutF l 0 []).1), .string (bs (cutF l 0 []).2.1), .bool (cutF l 0 []).2.2]) ∧ Below w.heap.size w w' := by
 obtain ⟨n, hn⟩ : ∃ n, l.length = n := ⟨_, rfl⟩
 have HN := hide hn
 have hsz : (bs l).size = n := by rw [bs_size, hn]
 obtain ⟨R, hR⟩ : ∃ R, cutF l 0 [] = R := ⟨_, rfl⟩
 have HR := hide hR
 rw [hR]
 rw [hn] at hl
 clear hn hR
 go_enter Tryz.func146, Tryz.ntmps146
 go_wp2
 go_loopw [5, 6] (fun v5 _ wr => ∃ k : Nat, v5 = .int .i64 k ∧ k ≤ n ∧ Hid (cutF (l.drop k) 0 (l.take k) = R) ∧ w = wr) (fun v5 _ _ => n - (intOf v5).toNat)
 case atStart => exact ⟨0, rfl, by omega, hide (by simpa using HR.out), rfl⟩
 case round =>
   obtain ⟨k, rfl, hk, HC, rfl⟩ := hrel
   by_cases hlt : k < n
   case neg =>
     obtain rfl : k = n := by omega
     have HE := hide (show R = (l, [], false) by
       rw [← HC.out, List.drop_of_length_le (by have := HN.out; omega), List.take_of_length_le (by have := HN.out; omega)]
       rfl)
     go_wp2
     go_ret3
     rw [HE.out]
     exact ⟨rfl, Below.refl _ _⟩
   have b1 : (k : Int) < (n : Int) := by omega
   have hkl : k < l.length := by have := HN.out; omega
   obtain ⟨c, hc⟩ : ∃ c, l[k]? = some c := ⟨l[k]'hkl, gE _⟩
   have hdc : l.drop k = c :: l.drop (k + 1) := by
     rw [List.drop_eq_getElem_cons hkl]
     rw [List.getElem?_eq_getElem hkl] at hc
     injection hc with hc
     rw [hc]
   have htk : l.take (k + 1) = l.take k ++ [c] := by rw [List.take_add_one, hc]; rfl
   have hb : bt (bs l) k = c.toNat := by
     rw [← bt_eq (bs l) k (by omega)]
     rw [List.getElem?_eq_getElem hkl] at hc
     injection hc with hc
     rw [← hc]
     rfl
   have hst := HC.out
   rw [hdc, cutF_cons0, ← htk] at hst
   have HST := hide hst
   have HDC := hide hdc
   have ec : ∀ d : UInt8, c = d ↔ c.toNat = d.toNat := fun d => UInt8.toNat_inj.symm
   have e36 := ec 36
   have e59 := ec 59
   have n36 : (36 : UInt8).toNat = 36 := rfl
   have n59 : (59 : UInt8).toNat = 59 := rfl
   rw [← hb] at e36 e59
   have HJ := hide (fun (j : Nat) (hj : k + 1 ≤ j) => cut_next l k j (by omega) rfl hj)
   obtain ⟨mn, hmn⟩ : ∃ m : Nat, min (k + 2) n = m := ⟨_, rfl⟩
   have hmn1 : k + 1 ≤ mn := by omega
   have hmn2 : mn ≤ n := by omega
   have hmi : min ((k : Int) + 2) (n : Int) = (mn : Int) := by omega
   have HTW := hide (show (bs l).extract k mn = bs ((c :: l.drop (k + 1)).take (mn - k)) by rw [ext_bs, HDC.out])
   have hbi : ∀ m : Nat, (((c.toNat : Nat) : Int) == (m : Int)) = decide (c.toNat = m) := fun m => by
     rw [Bool.eq_iff_iff, beq_iff_eq, decide_eq_true_iff]; omega
   have hdt0 : l.drop (k + 1) = [] ∨ ∃ d u, l.drop (k + 1) = d :: u := by
     cases l.drop (k + 1) with
     | nil => exact .inl rfl
     | cons d u => exact .inr ⟨d, u, rfl⟩
   have hdl : (l.drop (k + 1)).length = n - (k + 1) := by rw [List.length_drop, HN.out]
   rw [hb] at e36 e59
   clear hst hdc hc htk ec
   have HTL := hide (show ((bs l).extract k mn).toList = (c :: l.drop (k + 1)).take (mn - k) by rw [HTW.out, bs_toList])
   by_cases h36 : c = 36
   case neg =>
     have t1 : (((bs l).extract k mn).toList == [36, 40]) = false := by
       rw [HTL.out, show mn - k = (mn - (k + 1)) + 1 by omega, List.take_succ_cons]
       simp [h36]
     have t2 : (((bs l).extract k mn).toList == [36, 123]) = false := by
       rw [HTL.out, show mn - k = (mn - (k + 1)) + 1 by omega, List.take_succ_cons]
       simp [h36]
     have q1 : (((c.toNat : Nat) : Int) == 36) = false := by
       have := hbi 36
       rw [decide_eq_false (fun e => h36 (e36.2 (by omega)))] at this
       exact this
     by_cases h59 : c = 59
     · have q2 : (((c.toNat : Nat) : Int) == 59) = true := by
         have := hbi 59
         rw [decide_eq_true (show c.toNat = 59 by have := e59.1 h59; omega)] at this
         exact this
       have HE := hide (show R = (l.take k, trimL (l.drop (k + 1)), true) by
         rw [← HC.out, HDC.out, cutF_cons0, if_neg h36, if_pos h59])
       have HTR := hide (fun W => Tryz.strings_TrimLeft_laid (bs (l.drop (k + 1))) ⟨#[32, 9]⟩ W (by decide) blanks_ascii)
       rw [show (⟨(Lib.trimLeftS (bs (l.drop (k + 1))).data.toList (⟨#[32, 9]⟩ : ByteArray).data.toList).toArray⟩ : ByteArray) = bs (trimL (l.drop (k + 1))) from by rw [bs_list, show (⟨#[32, 9]⟩ : ByteArray).data.toList = [32, 9] from rfl, trimL_lib]; rfl] at HTR
       have HX1 := hide (show (bs l).extract 0 k = bs (l.take k) by rw [ext_bs]; simp)
       have HX2 := hide (show (bs l).extract (k + 1) n = bs (l.drop (k + 1)) by rw [ext_bs, List.take_of_length_le (by rw [hdl]; omega)])
       have b6 : (k : Int) + 1 ≤ (n : Int) := by omega
       have b7 : (0 : Int) ≤ (k : Int) + 1 := by omega
       have b8 : (k : Int) ≤ (n : Int) := by omega
       have b10 : IntKind.i64.wrap ((k : Int) + 1) = (k : Int) + 1 := by rw [IntKind.wrap_i64]; omega
       clear h36 h59 e36 e59 HJ HST HDC hbi hdt0 hdl
       go_wp2_with fail
       go_region_held3 (fun _ => True)
         (exact trivial)
         ((go_at_call 139; rw [HX2.out]; refine (HTR.out _).mono ?_; rintro e w5 ⟨rfl, hb5⟩; have HB5 := hide hb5; clear hb5))
       rename_i hHeld
       clear hHeld
       go_wp2
       go_ret3
       rw [HE.out, HX1.out]
       exact ⟨rfl, (Below.refl w.heap.size w).drew.trans (HB5.out.mono (Nat.le_refl _))⟩
     · have q2 : (((c.toNat : Nat) : Int) == 59) = false := by
         have := hbi 59
         rw [decide_eq_false (fun e => h59 (e59.2 (by omega)))] at this
         exact this
       have HC2 := hide (show cutF (l.drop (k + 1)) 0 (l.take (k + 1)) = R by
         have h1 := HST.out
         rw [if_neg h36, if_neg h59] at h1
         exact h1)
       clear h36 h59 e36 e59 HJ HST HDC hbi hdt0 hdl
       go_wp2
       exact ⟨⟨k + 1, by go_num, by omega, HC2, trivial⟩, by simp [intOf]; omega⟩
   have q1 : (((c.toNat : Nat) : Int) == 36) = true := by
     have := hbi 36
     rw [decide_eq_true (show c.toNat = 36 by have := e36.1 h36; omega)] at this
     exact this
   rcases hdt0 with hdt | ⟨d, u, hdt⟩
   · have hmk : mn = k + 1 := by rw [hdt] at hdl; simp at hdl; omega
     have t1 : (((bs l).extract k mn).toList == [36, 40]) = false := by rw [HTL.out, hdt, hmk, show k + 1 - k = 1 by omega]; simp
     have t2 : (((bs l).extract k mn).toList == [36, 123]) = false := by rw [HTL.out, hdt, hmk, show k + 1 - k = 1 by omega]; simp
     have hex : ((bs l).extract k mn).size = 1 := by rw [ByteArray.size_extract]; omega
     have HC2 := hide (show cutF (l.drop (k + 1)) 0 (l.take (k + 1)) = R by
       have h1 := HST.out
       rw [if_pos h36, hdt] at h1
       rw [hdt]
       exact h1)
     have hkn : n = k + 1 := by omega
     have HKN := hide hkn
     clear h36 e36 e59 HJ HST HDC hbi hdt hdl hmk hkn
     go_wp2
     exact ⟨⟨k + 1, by go_num, by omega, HC2, trivial⟩, by simp [intOf]; omega⟩
   · have hmk : mn = k + 2 := by
       have := congrArg List.length hdt
       rw [hdl] at this
       simp at this
       omega
     have hkn2 : k + 2 ≤ n := by omega
     have htl2 : ((bs l).extract k mn).toList = [36, d] := by rw [HTL.out, hdt, hmk, show k + 2 - k = 2 by omega, h36]; rfl
     have HT2 := hide htl2
     have hex : ((bs l).extract k mn).size = 2 := by rw [ByteArray.size_extract]; omega
     have HMK := hide hmk
     clear htl2 HTL hmk hmn hmi
     have hmi : min ((k : Int) + 2) (n : Int) = (mn : Int) := by have := HMK.out; omega
     by_cases d40 : d = 40
     · have t1 : (((bs l).extract k mn).toList == [36, 40]) = true := by rw [HT2.out, d40]; rfl
       have HP := hide (pass_any l (k + 2) 40 41 w (by have := HN.out; omega) (by omega))
       rw [show ((40 : UInt8).toNat : Nat) = 40 from rfl, show ((41 : UInt8).toNat : Nat) = 41 from rfl] at HP
       have hpl := passF_len 40 41 1 (l.drop (k + 2))
       rw [List.length_drop, HN.out] at hpl
       have hdu : l.drop (k + 2) = u := by rw [show k + 2 = k + 1 + 1 by omega, ← List.drop_drop, hdt]; rfl
       obtain ⟨pn, hpn⟩ : ∃ m, passF 40 41 1 (l.drop (k + 2)) = m := ⟨_, rfl⟩
       rw [hpn] at HP hpl
       rw [show ((k + 2 : Nat) : Int) = (k : Int) + 2 by omega] at HP
       have HC2 := hide (show cutF (l.drop (k + 2 + pn)) 0 (l.take (k + 2 + pn)) = R by
         have h1 := HST.out
         rw [if_pos h36] at h1
         rw [← HJ.out (k + 2 + pn) (by omega), show k + 2 + pn - (k + 1) = 1 + pn by omega, ← h1]
         rw [hdu] at hpn
         simp only [hdt, d40, if_true, hpn])
       clear hpn h36 e36 e59 HJ HST HDC hbi hdl hdt hdu
       go_wp2_with fail
       refine HP.out.mono ?_
       rintro e w' ⟨rfl, rfl⟩
       go_wp2
       exact ⟨⟨k + 2 + pn, by go_num, by omega, HC2, trivial⟩, by simp [intOf]; omega⟩
     have t1 : (((bs l).extract k mn).toList == [36, 40]) = false := by rw [HT2.out]; simpa using d40
     by_cases d123 : d = 123
     · have t2 : (((bs l).extract k mn).toList == [36, 123]) = true := by rw [HT2.out, d123]; rfl
       have HP := hide (pass_any l (k + 2) 123 125 w (by have := HN.out; omega) (by omega))
       rw [show ((123 : UInt8).toNat : Nat) = 123 from rfl, show ((125 : UInt8).toNat : Nat) = 125 from rfl] at HP
       have hpl := passF_len 123 125 1 (l.drop (k + 2))
       rw [List.length_drop, HN.out] at hpl
       have hdu : l.drop (k + 2) = u := by rw [show k + 2 = k + 1 + 1 by omega, ← List.drop_drop, hdt]; rfl
       obtain ⟨pn, hpn⟩ : ∃ m, passF 123 125 1 (l.drop (k + 2)) = m := ⟨_, rfl⟩
       rw [hpn] at HP hpl
       rw [show ((k + 2 : Nat) : Int) = (k : Int) + 2 by omega] at HP
       have HC2 := hide (show cutF (l.drop (k + 2 + pn)) 0 (l.take (k + 2 + pn)) = R by
         have h1 := HST.out
         rw [if_pos h36] at h1
         rw [← HJ.out (k + 2 + pn) (by omega), show k + 2 + pn - (k + 1) = 1 + pn by omega, ← h1]
         rw [hdu] at hpn
         simp only [hdt, d123, show ¬ ((123 : UInt8) = 40) by decide, if_false, if_true, hpn])
       clear hpn h36 e36 e59 HJ HST HDC hbi hdl hdt hdu
       go_wp2_with fail
       refine HP.out.mono ?_
       rintro e w' ⟨rfl, rfl⟩
       go_wp2
       exact ⟨⟨k + 2 + pn, by go_num, by omega, HC2, trivial⟩, by simp [intOf]; omega⟩
     have t2 : (((bs l).extract k mn).toList == [36, 123]) = false := by rw [HT2.out]; simpa using d123
     have HC2 := hide (show cutF (l.drop (k + 2)) 0 (l.take (k + 2)) = R by
       have h1 := HST.out
       rw [if_pos h36] at h1
       rw [← HJ.out (k + 2) (by omega), show k + 2 - (k + 1) = 1 by omega, ← h1]
       simp only [hdt, d40, d123, if_false])
     clear h36 e36 e59 HJ HST HDC hbi hdl hdt d40 d123
     go_wp2
     exact ⟨⟨k + 2, by go_num, by omega, HC2, trivial⟩, by simp [intOf]; omega⟩
end
section
open Go.RowKit Go.Deep Go.Maps Ln Pth Vf Rd Mc
attribute [local go_sem] bt_eq
theorem nameF_one (c : UInt8) : nameF [c] = nameC c := by unfold nameF; simp
theorem tw_len (p : UInt8 → Bool) (l : T) (k : Nat) (h1 : (l.take k).all p = true) (hk : k ≤ l.length) (h2 : ∀ c, l[k]? = some c → p c = false) : l.takeWhile p = l.take k ∧ l.dropWhile p = l.drop k := by
 induction l generalizing k with
 | nil => simp
 | cons a l ih =>
   cases k with
   | zero =>
     have := h2 a rfl
     simp [this]
   | succ k =>
     rw [List.take_succ_cons, List.all_cons, Bool.and_eq_true] at h1
     have := ih k h1.2 (by simpa using hk) (fun c hc => h2 c (by simpa using hc))
     rw [List.takeWhile_cons, List.dropWhile_cons, h1.1]
     simp [this.1, this.2]
theorem rfreeOf {w : World} {g : Nat} {cs : Array Value} {t : TypeId} (h : w.heap[g]? = some (.cells cs t)) (j : Nat) : w.frozen? ⟨g, j, none⟩ = false := by simp [World.frozen?, h]
theorem store3 {W : World} {gp : Nat} {a0 a1 a2 : Value} {t : TypeId} (h : W.heap[gp]? = some (.cells #[a0, a1, a2] t)) (v0 v1 v2 : Value) :
   (W.cell? ⟨gp, 0, none⟩ = some a0 ∧ W.frozen? ⟨gp, 0, none⟩ = false ∧ (W.setCell ⟨gp, 0, none⟩ v0).cell? ⟨gp, 1, none⟩ = some a1 ∧ (W.setCell ⟨gp, 0, none⟩ v0).frozen? ⟨gp, 1, none⟩ = false ∧
     ((W.setCell ⟨gp, 0, none⟩ v0).setCell ⟨gp, 1, none⟩ v1).cell? ⟨gp, 2, none⟩ = some a2 ∧ ((W.setCell ⟨gp, 0, none⟩ v0).setCell ⟨gp, 1, none⟩ v1).frozen? ⟨gp, 2, none⟩ = false) ∧
   (((W.setCell ⟨gp, 0, none⟩ v0).setCell ⟨gp, 1, none⟩ v1).setCell ⟨gp, 2, none⟩ v2).heap[gp]? = some (.cells #[v0, v1, v2] t) ∧ Kp W (((W.setCell ⟨gp, 0, none⟩ v0).setCell ⟨gp, 1, none⟩ v1).setCell ⟨gp, 2, none⟩ v2) (fun k => k = gp) := by
 have h1 : (W.setCell ⟨gp, 0, none⟩ v0).heap[gp]? = some (.cells #[v0, a1, a2] t) := by rw [rsetA h]; rfl
 have h2 : ((W.setCell ⟨gp, 0, none⟩ v0).setCell ⟨gp, 1, none⟩ v1).heap[gp]? = some (.cells #[v0, v1, a2] t) := by rw [rsetA h1]; rfl
 have h3 : (((W.setCell ⟨gp, 0, none⟩ v0).setCell ⟨gp, 1, none⟩ v1).setCell ⟨gp, 2, none⟩ v2).heap[gp]? = some (.cells #[v0, v1, v2] t) := by rw [rsetA h2]; rfl
 refine ⟨⟨cellOf h (j := 0) rfl, rfreeOf h 0, cellOf h1 (j := 1) rfl, rfreeOf h1 1, cellOf h2 (j := 2) rfl, rfreeOf h2 2⟩, h3, ?_⟩
 exact rkp_set.trans ((rkp_set.trans (rkp_set.mono fun k e => .inl e)).mono fun k e => .inl e)
theorem ret_defs {a : Act} {W : World} {gp : Nat} {v0 v1 v2 : Value} {b : Bool} (hr : W.heap[gp]? = some (.cells #[v0, v1, v2] 145)) (h2 : a.tmps.getD 2 undef = .pointer (some ⟨gp, 0, none⟩)) (h3 : a.tmps.getD 3 undef = .bool b) :
   (results Tryz.f85 a.tmps).run Tryz.prog W = .ok (.tuple #[.agg #[v0, v1, v2], .bool b]) W := by
 have c0 : W.cell? ⟨gp, 0, none⟩ = some v0 := cellOf hr (j := 0) rfl
 have c1 : W.cell? ⟨gp, 1, none⟩ = some v1 := cellOf hr (j := 1) rfl
 have c2 : W.cell? ⟨gp, 2, none⟩ = some v2 := cellOf hr (j := 2) rfl
 simp only [results, Tryz.results85]
 simp only [Array.getD_eq_getD_getElem?] at h2 h3
 simp [go_sem, h2, h3, c0, c1, c2]
def encD (d : T × T × T) : Value := .agg #[.string (bs d.1), .string (bs d.2.1), .string (bs d.2.2)]
def DefPost (l : T) (w : World) (e : Ending) (w' : World) : Prop := (match defsF l with | some d => e = .returned (.tuple #[encD d, .bool true]) | none => e = .returned (.tuple #[.agg #[.string ⟨#[]⟩, .string ⟨#[]⟩, .string ⟨#[]⟩], .bool false])) ∧ Below w.heap.size w w'
theorem defines_any (l : T) (w : World) (hl : l.length ≤ 900000) : Calls Tryz.prog 85 #[.string (bs l)] w (DefPost l w) := by
 obtain ⟨n, hn⟩ : ∃ n, l.length = n := ⟨_, rfl⟩
 have HN := hide hn
 have hsz : (bs l).size = n := by rw [bs_size, hn]
 rw [hn] at hl
 have HB0 := hide (show Below w.heap.size w (w.alloc (.cells #[.string ⟨#[]⟩, .string ⟨#[]⟩, .string ⟨#[]⟩] 145)) from (Below.refl _ _).alloc (Nat.le_refl _) _)
 have HG0 := hide (heapNew w (.cells #[.string ⟨#[]⟩, .string ⟨#[]⟩, .string ⟨#[]⟩] 145))
 have HZ0 := hide (show (w.alloc (.cells #[.string ⟨#[]⟩, .string ⟨#[]⟩, .string ⟨#[]⟩] 145)).heap.size = w.heap.size + 1 by simp)
 clear hn
 go_enter Tryz.func85, Tryz.ntmps85
 go_wp2
 obtain ⟨wb, hwb⟩ : ∃ W, w.alloc (.cells #[.string ⟨#[]⟩, .string ⟨#[]⟩, .string ⟨#[]⟩] 145) = W := ⟨_, rfl⟩
 rw [hwb] at HB0 HG0 HZ0 ⊢
 clear hwb
 go_loopw [4] (fun v4 wr => ∃ k : Nat, v4 = .int .i64 k ∧ k ≤ n ∧ Hid ((l.take k).all nameC = true) ∧ Hid (Below wb.heap.size wb wr)) (fun v4 _ => n - (intOf v4).toNat)
 case atStart => exact ⟨0, rfl, by omega, hide rfl, hide (Below.refl _ _)⟩
 case round =>
   obtain ⟨wo, hwo⟩ : ∃ Z, Z = wr := ⟨_, rfl⟩
   subst hwo
   obtain ⟨k, rfl, hk, HA, HB⟩ := hrel
   have HBW := hide (HB0.out.trans (HB.out.mono HB0.out.size))
   have hcase : (k < n ∧ ∃ c, l[k]? = some c ∧ nameC c = true) ∨ (∀ c, l[k]? = some c → nameC c = false) := by
     by_cases hlt : k < n
     · have hkl : k < l.length := by have := HN.out; omega
       cases hnc : nameC l[k] with
       | true => exact .inl ⟨hlt, l[k], List.getElem?_eq_getElem hkl, hnc⟩
       | false => exact .inr fun c hc => by rw [List.getElem?_eq_getElem hkl] at hc; injection hc with hc; rw [← hc]; exact hnc
     · exact .inr fun c hc => by have := (List.getElem?_eq_some_iff.1 hc).1; have := HN.out; omega
   rcases hcase with ⟨hlt, c, hc, hnc⟩ | hno
   · have b1 : (k : Int) < (n : Int) := by omega
     have b2 : (k : Int) + 1 ≤ (n : Int) := by omega
     have hkl : k < l.length := by have := HN.out; omega
     have HEX := hide (show (bs l).extract k (k + 1) = bs [c] by
       rw [ext_bs, show k + 1 - k = 1 by omega, List.drop_eq_getElem_cons hkl]
       rw [List.getElem?_eq_getElem hkl] at hc
       injection hc with hc
       rw [hc]; rfl)
     have HNM := hide (mname_any [c] wo (by simp))
     rw [nameF_one, hnc] at HNM
     have HA2 := hide (show (l.take (k + 1)).all nameC = true by rw [List.take_add_one, hc, List.all_append, HA.out]; simp [hnc])
     clear hc hnc
     go_wp2_with fail
     rw [HEX.out]
     refine HNM.out.mono ?_
     rintro e w2 ⟨rfl, hb2⟩
     have HB2 := hide (HB.out.trans (hb2.mono HB.out.size))
     clear hb2
     go_wp2
     exact ⟨⟨k + 1, by go_num, by omega, HA2, HB2⟩, by simp [intOf]; omega⟩
   obtain ⟨htw, hdw⟩ := tw_len nameC l k HA.out (by have := HN.out; omega) hno
   have HDF := hide (show defsF l = if nameF (l.take k) then (opF (trimL (l.drop k)) opsL).map fun x => (l.take k, x.1, x.2) else none by unfold defsF; rw [htw, hdw])
   have HX1 := hide (show (bs l).extract 0 k = bs (l.take k) by rw [ext_bs]; simp)
   have HX2 := hide (show (bs l).extract k n = bs (l.drop k) by rw [ext_bs, List.take_of_length_le (by rw [List.length_drop, HN.out]; omega)])
   have HTR := hide (fun (t : T) W => show Calls Tryz.prog 139 #[.string (bs t), .string ⟨#[32, 9]⟩] W (fun e w' => e = .returned (.string (bs (trimL t))) ∧ Below W.heap.size W w') from by
     have := Tryz.strings_TrimLeft_laid (bs t) ⟨#[32, 9]⟩ W (by decide) blanks_ascii
     rw [show (⟨(Lib.trimLeftS (bs t).data.toList (⟨#[32, 9]⟩ : ByteArray).data.toList).toArray⟩ : ByteArray) = bs (trimL t) from by rw [bs_list, show (⟨#[32, 9]⟩ : ByteArray).data.toList = [32, 9] from rfl, trimL_lib]; rfl] at this
     exact this)
   have htl : (l.take k).length ≤ 1000000 := by rw [List.length_take]; omega
   have HNM2 := hide (fun W => mname_any (l.take k) W htl)
   have b8 : (k : Int) ≤ (n : Int) := by omega
   have b9 : (0 : Int) ≤ (k : Int) := by omega
   clear htl htw hdw
   by_cases hlt : k < n
   · have b1 : (k : Int) < (n : Int) := by omega
     have b2 : (k : Int) + 1 ≤ (n : Int) := by omega
     have hkl : k < l.length := by have := HN.out; omega
     obtain ⟨c, hc⟩ : ∃ c, l[k]? = some c := ⟨l[k]'hkl, gE _⟩
     have hnc := hno c hc
     have HEX := hide (show (bs l).extract k (k + 1) = bs [c] by
       rw [ext_bs, show k + 1 - k = 1 by omega, List.drop_eq_getElem_cons hkl]
       rw [List.getElem?_eq_getElem hkl] at hc
       injection hc with hc
       rw [hc]; rfl)
     have HNM := hide (mname_any [c] wo (by simp))
     rw [nameF_one, hnc] at HNM
     clear hc hnc hno
     go_wp2_with fail
     rw [HEX.out]
     refine HNM.out.mono ?_
     rintro e w2 ⟨rfl, hb2⟩
     have HB2 := hide (HB.out.trans (hb2.mono HB.out.size))
     clear hb2
     go_wp2_with fail
     go_region_held3 (fun _ => True)
       (exact trivial)
       ((go_at_call 139; rw [HX2.out]; refine (HTR.out _ _).mono ?_; rintro e w3 ⟨rfl, hb3⟩; have HB3 := hide hb3; clear hb3))
     rename_i hHeld
     clear hHeld
     have HB4 := hide (HB2.out.trans (((Below.refl w2.heap.size w2).drew.trans (HB3.out.mono (Nat.le_refl _))).mono HB2.out.size))
     clear HB3
     go_wp2_with fail
     rw [HX1.out]
     obtain ⟨nm, hnm⟩ : ∃ t, l.take k = t := ⟨_, rfl⟩
     obtain ⟨rs, hrs⟩ : ∃ t, trimL (l.drop k) = t := ⟨_, rfl⟩
     rw [hnm] at HDF HNM2 ⊢
     rw [hrs] at HDF ⊢
     clear hnm hrs HX2
     refine (HNM2.out _).mono ?_
     rintro e w4 ⟨rfl, hb4⟩
     have HB5 := hide (HB4.out.trans (hb4.mono HB4.out.size))
     have HBF := hide (HB0.out.trans (HB5.out.mono HB0.out.size))
     have hgd := (HB5.out.block w.heap.size (by have := HZ0.out; omega)).trans HG0.out
     have hz1 : w.heap.size < w4.heap.size := by have := HZ0.out; have := HB5.out.size; omega
     obtain ⟨nb, hnb⟩ : ∃ b, nameF nm = b := ⟨_, rfl⟩
     rw [hnb] at HDF ⊢
     clear hb4 HB4 hnb
     cases nb with
     | false =>
       obtain ⟨⟨q1, q2, q3, q4, q5, q6⟩, hgf, hkp⟩ := store3 hgd (.string ⟨#[]⟩) (.string ⟨#[]⟩) (.string ⟨#[]⟩)
       have HGF := hide hgf
       have HBG := hide (hkp.below HBF.out (Nat.le_refl _) (fun k e => by omega))
       have HDN := hide (show defsF l = none by rw [HDF.out, if_neg (by simp)])
       clear hgf hkp hgd
       go_wp2
       refine bodyPost_ret (ret_defs HGF.out rfl rfl) rfl ?_
       unfold DefPost
       rw [HDN.out]
       exact ⟨rfl, HBG.out⟩
     | true =>
       have HDN := hide (show defsF l = (opF rs opsL).map fun x => (nm, x.1, x.2) by rw [HDF.out, if_pos rfl])
       have HOPS := hide (show ∀ j, (hj : j < 5) → (w4.alloc (.cells #[.string ⟨#[58, 58, 61]⟩, .string ⟨#[58, 61]⟩, .string ⟨#[43, 61]⟩, .string ⟨#[63, 61]⟩, .string ⟨#[61]⟩] 9)).cell? ⟨w4.heap.size, j, none⟩ = some (.string (bs opsL[j])) from fun j hj => by
         have hj5 : j = 0 ∨ j = 1 ∨ j = 2 ∨ j = 3 ∨ j = 4 := by omega
         rcases hj5 with rfl | rfl | rfl | rfl | rfl <;> exact cellOf (heapNew w4 _) rfl)
       have hba : Below w4.heap.size w4 (w4.alloc (.cells #[.string ⟨#[58, 58, 61]⟩, .string ⟨#[58, 61]⟩, .string ⟨#[43, 61]⟩, .string ⟨#[63, 61]⟩, .string ⟨#[61]⟩] 9)) := (Below.refl _ _).alloc (Nat.le_refl _) _
       obtain ⟨g5, hg5⟩ : ∃ g, w4.heap.size = g := ⟨_, rfl⟩
       obtain ⟨w5, hw5⟩ : ∃ W, w4.alloc (.cells #[.string ⟨#[58, 58, 61]⟩, .string ⟨#[58, 61]⟩, .string ⟨#[43, 61]⟩, .string ⟨#[63, 61]⟩, .string ⟨#[61]⟩] 9) = W := ⟨_, rfl⟩
       rw [hw5] at HOPS hba
       rw [hg5] at HOPS
       have hgd5 := (hba.block w.heap.size hz1).trans hgd
       have HB6 := hide (HBF.out.trans (hba.mono HBF.out.size))
       have HW5 := hide hw5
       have HG5 := hide hg5
       clear hba hw5 hg5 hgd HNM2
       go_wp2
       rw [HW5.out, HG5.out]
       go_loopw [8, 9, 10, 38] (fun _ _ _ v38 wr => ∃ j : Nat, v38 = .int .i64 j ∧ j ≤ 5 ∧ Hid (opF rs (opsL.drop j) = opF rs opsL) ∧ w5 = wr) (fun _ _ _ v38 _ => 5 - (intOf v38).toNat)
       case atStart => exact ⟨0, rfl, by omega, hide rfl, rfl⟩
       case round =>
         obtain ⟨j, rfl, hj, HOP, rfl⟩ := hrel
         by_cases hj5 : j < 5
         case neg =>
           obtain rfl : j = 5 := by omega
           obtain ⟨⟨q1, q2, q3, q4, q5, q6⟩, hgf, hkp⟩ := store3 hgd5 (.string ⟨#[]⟩) (.string ⟨#[]⟩) (.string ⟨#[]⟩)
           have HGF := hide hgf
           have HBG := hide (hkp.below HB6.out (Nat.le_refl _) (fun k e => by omega))
           have HDE := hide (show defsF l = none by rw [HDN.out, ← HOP.out]; rfl)
           clear hgf hkp hgd5
           go_wp2
           refine bodyPost_ret (ret_defs HGF.out rfl rfl) rfl ?_
           unfold DefPost
           rw [HDE.out]
           exact ⟨rfl, HBG.out⟩
         have hcj := HOPS.out j hj5
         have hdj : opsL.drop j = opsL[j] :: opsL.drop (j + 1) := List.drop_eq_getElem_cons hj5
         have hoz : (opsL[j]).length ≤ 3 := by
           have hj6 : j = 0 ∨ j = 1 ∨ j = 2 ∨ j = 3 ∨ j = 4 := by omega
           rcases hj6 with rfl | rfl | rfl | rfl | rfl <;> simp [opsL]
         have hst := HOP.out
         rw [hdj, opF] at hst
         obtain ⟨o, ho⟩ : ∃ t, opsL[j] = t := ⟨_, rfl⟩
         rw [ho] at hst hcj hoz
         have HST := hide hst
         have HCP := hide (Tryz.strings_CutPrefix (bs rs) (bs o) w5)
         rw [bs_list, bs_list] at HCP
         have bj : (j : Int) < 5 := by omega
         have hbj : ((j : Nat) : Int) < ((5 : Nat) : Int) := by omega
         clear hst hdj ho
         cases hpf : Lib.hasPrefix rs o with
         | false =>
           have HO2 := hide (show opF rs (opsL.drop (j + 1)) = opF rs opsL by have := HST.out; rw [if_neg (by rw [hpf]; simp)] at this; exact this)
           rw [hpf] at HCP
           clear hpf
           go_wp2_with fail
           refine HCP.out.mono ?_
           rintro e w' ⟨rfl, rfl⟩
           go_wp2
           exact ⟨⟨j + 1, by go_num, by omega, HO2, trivial⟩, by simp [intOf]; omega⟩
         | true =>
           have HO2 := hide (show opF rs opsL = some (o, trimL (rs.drop o.length)) by have := HST.out; rw [if_pos hpf] at this; exact this.symm)
           have htp : Lib.trimPrefix rs o = rs.drop o.length := by unfold Lib.trimPrefix; rw [if_pos (by simpa [Lib.hasPrefix] using hpf)]
           rw [hpf, htp] at HCP
           have HDE := hide (show defsF l = some (nm, o, trimL (rs.drop o.length)) by rw [HDN.out, HO2.out]; rfl)
           clear hpf htp
           go_wp2_with fail
           refine HCP.out.mono ?_
           rintro e w' ⟨rfl, rfl⟩
           go_wp2_with fail
           refine (HTR.out (rs.drop o.length) _).mono ?_
           rintro e w6 ⟨rfl, hb6⟩
           have hgd6 := (hb6.block w.heap.size (by have := HB6.out.size; have := HG5.out; have := HW5.out; rw [← HW5.out]; simp; omega)).trans hgd5
           obtain ⟨⟨q1, q2, q3, q4, q5, q6⟩, hgf, hkp⟩ := store3 hgd6 (.string (bs nm)) (.string (bs o)) (.string (bs (trimL (rs.drop o.length))))
           have HGF := hide hgf
           have HB7 := hide (HB6.out.trans (hb6.mono HB6.out.size))
           have HBG := hide (hkp.below HB7.out (Nat.le_refl _) (fun k e => by omega))
           clear hgf hkp hgd6 hgd5 hb6
           go_wp2
           refine bodyPost_ret (ret_defs HGF.out rfl rfl) rfl ?_
           unfold DefPost
           rw [HDE.out]
           exact ⟨rfl, HBG.out⟩
   · obtain rfl : k = n := by omega
     have b1 : ¬ (k : Int) < (k : Int) := by omega
     obtain ⟨w2, hw2⟩ : ∃ W, wo = W := ⟨_, rfl⟩
     have HB2 := hide (show Below wb.heap.size wb w2 from hw2 ▸ HB.out)
     rw [hw2]
     have HX5 := hide (show ByteArray.empty = bs (l.drop k) by rw [List.drop_of_length_le (by have := HN.out; omega)]; rfl)
     clear hw2 hno
     go_wp2_with fail
     go_region_held3 (fun _ => True)
       (exact trivial)
       ((go_at_call 139; rw [HX5.out]; refine (HTR.out _ _).mono ?_; rintro e w3 ⟨rfl, hb3⟩; have HB3 := hide hb3; clear hb3))
     rename_i hHeld
     clear hHeld
     have HB4 := hide (HB2.out.trans (((Below.refl w2.heap.size w2).drew.trans (HB3.out.mono (Nat.le_refl _))).mono HB2.out.size))
     clear HB3
     go_wp2_with fail
     rw [HX1.out]
     obtain ⟨nm, hnm⟩ : ∃ t, l.take k = t := ⟨_, rfl⟩
     obtain ⟨rs, hrs⟩ : ∃ t, trimL (l.drop k) = t := ⟨_, rfl⟩
     rw [hnm] at HDF HNM2 ⊢
     rw [hrs] at HDF ⊢
     clear hnm hrs HX2 HX5
     refine (HNM2.out _).mono ?_
     rintro e w4 ⟨rfl, hb4⟩
     have HB5 := hide (HB4.out.trans (hb4.mono HB4.out.size))
     have HBF := hide (HB0.out.trans (HB5.out.mono HB0.out.size))
     have hgd := (HB5.out.block w.heap.size (by have := HZ0.out; omega)).trans HG0.out
     have hz1 : w.heap.size < w4.heap.size := by have := HZ0.out; have := HB5.out.size; omega
     obtain ⟨nb, hnb⟩ : ∃ b, nameF nm = b := ⟨_, rfl⟩
     rw [hnb] at HDF ⊢
     clear hb4 HB4 hnb
     cases nb with
     | false =>
       obtain ⟨⟨q1, q2, q3, q4, q5, q6⟩, hgf, hkp⟩ := store3 hgd (.string ⟨#[]⟩) (.string ⟨#[]⟩) (.string ⟨#[]⟩)
       have HGF := hide hgf
       have HBG := hide (hkp.below HBF.out (Nat.le_refl _) (fun k e => by omega))
       have HDN := hide (show defsF l = none by rw [HDF.out, if_neg (by simp)])
       clear hgf hkp hgd
       go_wp2
       refine bodyPost_ret (ret_defs HGF.out rfl rfl) rfl ?_
       unfold DefPost
       rw [HDN.out]
       exact ⟨rfl, HBG.out⟩
     | true =>
       have HDN := hide (show defsF l = (opF rs opsL).map fun x => (nm, x.1, x.2) by rw [HDF.out, if_pos rfl])
       have HOPS := hide (show ∀ j, (hj : j < 5) → (w4.alloc (.cells #[.string ⟨#[58, 58, 61]⟩, .string ⟨#[58, 61]⟩, .string ⟨#[43, 61]⟩, .string ⟨#[63, 61]⟩, .string ⟨#[61]⟩] 9)).cell? ⟨w4.heap.size, j, none⟩ = some (.string (bs opsL[j])) from fun j hj => by
         have hj5 : j = 0 ∨ j = 1 ∨ j = 2 ∨ j = 3 ∨ j = 4 := by omega
         rcases hj5 with rfl | rfl | rfl | rfl | rfl <;> exact cellOf (heapNew w4 _) rfl)
       have hba : Below w4.heap.size w4 (w4.alloc (.cells #[.string ⟨#[58, 58, 61]⟩, .string ⟨#[58, 61]⟩, .string ⟨#[43, 61]⟩, .string ⟨#[63, 61]⟩, .string ⟨#[61]⟩] 9)) := (Below.refl _ _).alloc (Nat.le_refl _) _
       obtain ⟨g5, hg5⟩ : ∃ g, w4.heap.size = g := ⟨_, rfl⟩
       obtain ⟨w5, hw5⟩ : ∃ W, w4.alloc (.cells #[.string ⟨#[58, 58, 61]⟩, .string ⟨#[58, 61]⟩, .string ⟨#[43, 61]⟩, .string ⟨#[63, 61]⟩, .string ⟨#[61]⟩] 9) = W := ⟨_, rfl⟩
       rw [hw5] at HOPS hba
       rw [hg5] at HOPS
       have hgd5 := (hba.block w.heap.size hz1).trans hgd
       have HB6 := hide (HBF.out.trans (hba.mono HBF.out.size))
       have HW5 := hide hw5
       have HG5 := hide hg5
       clear hba hw5 hg5 hgd HNM2
       go_wp2
       rw [HW5.out, HG5.out]
       go_loopw [8, 9, 10, 38] (fun _ _ _ v38 wr => ∃ j : Nat, v38 = .int .i64 j ∧ j ≤ 5 ∧ Hid (opF rs (opsL.drop j) = opF rs opsL) ∧ w5 = wr) (fun _ _ _ v38 _ => 5 - (intOf v38).toNat)
       case atStart => exact ⟨0, rfl, by omega, hide rfl, rfl⟩
       case round =>
         obtain ⟨j, rfl, hj, HOP, rfl⟩ := hrel
         by_cases hj5 : j < 5
         case neg =>
           obtain rfl : j = 5 := by omega
           obtain ⟨⟨q1, q2, q3, q4, q5, q6⟩, hgf, hkp⟩ := store3 hgd5 (.string ⟨#[]⟩) (.string ⟨#[]⟩) (.string ⟨#[]⟩)
           have HGF := hide hgf
           have HBG := hide (hkp.below HB6.out (Nat.le_refl _) (fun k e => by omega))
           have HDE := hide (show defsF l = none by rw [HDN.out, ← HOP.out]; rfl)
           clear hgf hkp hgd5
           go_wp2
           refine bodyPost_ret (ret_defs HGF.out rfl rfl) rfl ?_
           unfold DefPost
           rw [HDE.out]
           exact ⟨rfl, HBG.out⟩
         have hcj := HOPS.out j hj5
         have hdj : opsL.drop j = opsL[j] :: opsL.drop (j + 1) := List.drop_eq_getElem_cons hj5
         have hoz : (opsL[j]).length ≤ 3 := by
           have hj6 : j = 0 ∨ j = 1 ∨ j = 2 ∨ j = 3 ∨ j = 4 := by omega
           rcases hj6 with rfl | rfl | rfl | rfl | rfl <;> simp [opsL]
         have hst := HOP.out
         rw [hdj, opF] at hst
         obtain ⟨o, ho⟩ : ∃ t, opsL[j] = t := ⟨_, rfl⟩
         rw [ho] at hst hcj hoz
         have HST := hide hst
         have HCP := hide (Tryz.strings_CutPrefix (bs rs) (bs o) w5)
         rw [bs_list, bs_list] at HCP
         have bj : (j : Int) < 5 := by omega
         have hbj : ((j : Nat) : Int) < ((5 : Nat) : Int) := by omega
         clear hst hdj ho
         cases hpf : Lib.hasPrefix rs o with
         | false =>
           have HO2 := hide (show opF rs (opsL.drop (j + 1)) = opF rs opsL by have := HST.out; rw [if_neg (by rw [hpf]; simp)] at this; exact this)
           rw [hpf] at HCP
           clear hpf
           go_wp2_with fail
           refine HCP.out.mono ?_
           rintro e w' ⟨rfl, rfl⟩
           go_wp2
           exact ⟨⟨j + 1, by go_num, by omega, HO2, trivial⟩, by simp [intOf]; omega⟩
         | true =>
           have HO2 := hide (show opF rs opsL = some (o, trimL (rs.drop o.length)) by have := HST.out; rw [if_pos hpf] at this; exact this.symm)
           have htp : Lib.trimPrefix rs o = rs.drop o.length := by unfold Lib.trimPrefix; rw [if_pos (by simpa [Lib.hasPrefix] using hpf)]
           rw [hpf, htp] at HCP
           have HDE := hide (show defsF l = some (nm, o, trimL (rs.drop o.length)) by rw [HDN.out, HO2.out]; rfl)
           clear hpf htp
           go_wp2_with fail
           refine HCP.out.mono ?_
           rintro e w' ⟨rfl, rfl⟩
           go_wp2_with fail
           refine (HTR.out (rs.drop o.length) _).mono ?_
           rintro e w6 ⟨rfl, hb6⟩
           have hgd6 := (hb6.block w.heap.size (by have := HB6.out.size; have := HG5.out; have := HW5.out; rw [← HW5.out]; simp; omega)).trans hgd5
           obtain ⟨⟨q1, q2, q3, q4, q5, q6⟩, hgf, hkp⟩ := store3 hgd6 (.string (bs nm)) (.string (bs o)) (.string (bs (trimL (rs.drop o.length))))
           have HGF := hide hgf
           have HB7 := hide (HB6.out.trans (hb6.mono HB6.out.size))
           have HBG := hide (hkp.below HB7.out (Nat.le_refl _) (fun k e => by omega))
           clear hgf hkp hgd6 hgd5 hb6
           go_wp2
           refine bodyPost_ret (ret_defs HGF.out rfl rfl) rfl ?_
           unfold DefPost
           rw [HDE.out]
           exact ⟨rfl, HBG.out⟩
end
section
open Go.RowKit Go.Deep Ln Rd Mc
theorem dbl_app (a b : T) : dbl (a ++ b) = dbl a ++ dbl b := by simp [dbl]
theorem dbl_none : ∀ {a : T}, (∀ d ∈ a, d ≠ 36) → dbl a = a
 | [], _ => rfl
 | c :: a, h => by
   have e : dbl (c :: a) = (if c = 36 then [36, 36] else [c]) ++ dbl a := rfl
   rw [e, if_neg (h c (by simp)), dbl_none fun d hd => h d (by simp [hd])]
   rfl
theorem repl_from : ∀ (f : Nat) (s : T), s.length ≤ f → Lib.replaceK [36] [36, 36] (Lib.countFrom [36] f s) s = dbl s ∧ Lib.countFrom [36] f s ≤ s.length
 | 0, s, h => by
   have : s = [] := List.eq_nil_of_length_eq_zero (by omega)
   subst this
   exact ⟨rfl, Nat.le_refl _⟩
 | f + 1, s, h => by
   have hix : Lib.index s [36] = Lib.indexByte s 36 := Lib.index_one s 36
   rcases ixb_at 36 s with ⟨h1, h2⟩ | ⟨a, b, h1, h2, h3⟩
   · have hc : Lib.countFrom [36] (f + 1) s = 0 := by rw [Lib.countFrom, hix, h2]; rfl
     rw [hc]
     refine ⟨?_, Nat.zero_le _⟩
     rw [dbl_none fun d hd e => h1 (e ▸ hd)]
     rfl
   · have hi : Lib.index s [36] = (a.length : Int) := hix.trans h3
     have hne : ¬ (Lib.index s [36] == -1) = true := by rw [hi]; simp
     have hdr : s.drop ((Lib.index s [36]).toNat + [(36 : UInt8)].length) = b := by
       rw [hi, Int.toNat_natCast, h1]
       simp
     have hbl : b.length ≤ f := by have := congrArg List.length h1; simp at this; omega
     obtain ⟨i1, i2⟩ := repl_from f b hbl
     have hc : Lib.countFrom [36] (f + 1) s = 1 + Lib.countFrom [36] f b := by rw [Lib.countFrom, if_neg hne, hdr]
     rw [hc, Nat.add_comm]
     have hdr2 : s.drop (a.length + [(36 : UInt8)].length) = b := by rw [h1]; simp
     refine ⟨?_, ?_⟩
     · rw [Lib.replaceK_hit [36] [36, 36] _ s a.length hi, hdr2, i1]
       have e : dbl s = dbl a ++ [36, 36] ++ dbl b := by
         rw [h1, dbl_app]
         show dbl a ++ ([36, 36] ++ dbl b) = _
         simp
       rw [e, dbl_none h2, h1]
       simp
     · have := congrArg List.length h1
       simp at this
       omega
theorem repl_dbl (s : T) : Lib.replaceAll s [36] [36, 36] = dbl s ∧ Lib.count s [36] ≤ s.length + 1 := by
 have hc : Lib.count s [36] = Lib.countFrom [36] (s.length + 1) s := rfl
 obtain ⟨h1, h2⟩ := repl_from (s.length + 1) s (by omega)
 refine ⟨?_, by rw [hc]; omega⟩
 unfold Lib.replaceAll Lib.replace Lib.replaceNum
 rw [if_neg (by decide), if_pos (.inl (by decide)), hc]
 exact h1
theorem replAll_any (t : T) (w : World) (hm : MX w) (ht : t.length ≤ 100000000) : Calls Tryz.prog 140 #[.string (bs t), .string ⟨#[36]⟩, .string ⟨#[36, 36]⟩] w fun e w' => e = .returned (.string (bs (dbl t))) ∧ Below w.heap.size w w' := by
 obtain ⟨m, hm⟩ := hm
 obtain ⟨h1, h2⟩ := repl_dbl t
 refine (Tryz.strings_ReplaceAll (bs t) ⟨#[36]⟩ ⟨#[36, 36]⟩ m w (by rw [bs_size]; omega) hm (by decide) ?_).mono ?_
 · have : Lib.countB (bs t) ⟨#[36]⟩ = Lib.count t [36] := by unfold Lib.countB; rw [bs_list]
   rw [this, bs_size]
   show t.length + Lib.count t [36] * 2 ≤ _
   omega
 · rintro e w' ⟨he, hb⟩
   refine ⟨?_, hb⟩
   rw [he, bs_list]
   show Ending.returned (.string ⟨(Lib.replaceAll t [36] [36, 36]).toArray⟩) = _
   rw [h1]
   rfl
end
section
open Go.RowKit Go.Deep Go.Maps Ln Pth Vf Rd Mc
theorem valS_none : valS none = .string ⟨#[]⟩ := rfl
theorem valS_some (u : ByteArray) : valS (some u) = .string u := rfl
attribute [local go_sem] bt_eq valS_none valS_some
def XE (w0 : World) (C : Rk) (g : Nat) (deep : Int) (S : Nat → Prop) (w : World) (r : Except Nat Sx) (e : Ending) (w' : World) : Prop := match r with
 | .error c => e = .panicked (pwr c) ∧ ∃ s' d', RDP w0 C g s' d' S w w'
 | .ok s' => e = .returned (.tuple #[]) ∧ RDP w0 C g s' deep S w w'
theorem giv_look {L : List T} {n : T} : Lib.containsS (L.map bs) (bs n) = decide (n ∈ L) := by
 rw [Bool.eq_iff_iff, Lib.containsS_iff, decide_eq_true_iff, List.mem_map]
 exact ⟨fun ⟨x, hx, e⟩ => bs_inj e ▸ hx, fun h => ⟨n, h, rfl⟩⟩
theorem define_any (w0 : World) (C : Rk) (g : Nat) (s : Sx) (deep : Int) (S : Nat → Prop) (w : World) (h : RD w0 C g s deep S w) (hm : MX w0) (k : Nat) (hk : k ≤ 10000000) (hbd : Bd s k) (n o v : T) (hn : n.length ≤ 60) (ho : o ∈ opsL) (hv : v.length ≤ 16384) :
   Calls Tryz.prog 86 #[.pointer (some ⟨g, 0, none⟩), encD (n, o, v)] w (XE w0 C g deep S w (defineF s n o v)) := by
 have hba := (Below.refl w.heap.size w).alloc (Nat.le_refl _) (.cells #[.string (bs n), .string (bs o), .string (bs v)] 145)
 have hgd := heapNew w (.cells #[.string (bs n), .string (bs o), .string (bs v)] 145)
 have hI := h.step hba
 have HB := hide hba
 have HGD := hide hgd
 obtain ⟨A9, c9, _, _, hc2, hc3, _, _, _, _⟩ := hI.cells
 have hd0 := cellOf hgd (j := 0) rfl
 have hd1 := cellOf hgd (j := 1) rfl
 have hd2 := cellOf hgd (j := 2) rfl
 have hns : (bs n).size ≤ 9223372036854775807 := by rw [bs_size]; omega
 have hlk := slook2 (w := (w.alloc (.cells #[.string (bs n), .string (bs o), .string (bs v)] 145)).drew) (hI.mac.of rfl) hns
 have HI := hide hI
 have HBD := hide hbd
 have HMX := hide hm
 have HDF := hide (show defineF s n o v = if n ∈ s.giv ∨ (o = [63, 61] ∧ (getG s.mac (bs n)).isSome = true) then .ok s else match valV s.mac n o v with | .error e => .error e | .ok t => if (getG s.mac (bs n)).isSome = false ∧ 200 ≤ s.mac.length then .error 3 else .ok { s with mac := putG (bs n, bs t) s.mac } from rfl)
 obtain ⟨R, hR⟩ : ∃ R, defineF s n o v = R := ⟨_, rfl⟩
 rw [hR] at HDF ⊢
 obtain ⟨gv, hgv⟩ : ∃ z, getG s.mac (bs n) = z := ⟨_, rfl⟩
 rw [hgv] at hlk HDF
 have HGV := hide hgv
 clear h hba hI hm hbd hR hgd hgv
 go_enter Tryz.func86, Tryz.ntmps86
 unfold encD
 go_wp2_with fail
 go_region
 obtain ⟨w1, hw1⟩ : ∃ W, w.alloc (.cells #[.string (bs n), .string (bs o), .string (bs v)] 145) = W := ⟨_, rfl⟩
 rw [hw1] at HI HGD HB hd0 hd1 hd2 hc2 hc3 ⊢
 obtain ⟨w2, hw2⟩ : ∃ W, w1.drew = W := ⟨_, rfl⟩
 have hb2 : Below w1.heap.size w1 w2 := hw2 ▸ (Below.refl _ _).drew
 have hI2 := HI.out.step hb2
 have HI2 := hide hI2
 have HB2 := hide (HB.out.trans (hb2.mono HB.out.size))
 have hlw : w.heap.size < w1.heap.size := by rw [← hw1]; simp
 have hgd2 := (hb2.block _ hlw).trans HGD.out
 obtain ⟨gd, hgd⟩ : ∃ z, w.heap.size = z := ⟨_, rfl⟩
 rw [hgd] at hgd2 hd0 hd1 hd2 hlw ⊢
 have HGD2 := hide hgd2
 have HGE := hide hgd
 have HGL0 := hide (Nat.lt_of_lt_of_le hlw hb2.size)
 clear hlk hw1 hd0 hd1 hd2 hc2 hc3
 obtain ⟨A8, c8, _, _, hc2, hc3, _, _, _, hfz⟩ := hI2.cells
 have hd0 := cellOf hgd2 (j := 0) rfl
 have hd1 := cellOf hgd2 (j := 1) rfl
 have hd2 := cellOf hgd2 (j := 2) rfl
 have hgl := (show MSet w2.drew C.bg (s.giv.map bs) from hI2.giv.of rfl).look (s := bs n) hns
 rw [giv_look] at hgl
 rw [hw2]
 clear hw2 hb2 hgd hgd2 hI2 HI HB HGD
 by_cases hgi : n ∈ s.giv
 · rw [decide_eq_true hgi] at hgl
   have HR := hide (show R = .ok s from HDF.out.trans (if_pos (.inl hgi)))
   clear hgi
   go_wp2_with fail
   go_region
   go_wp2
   go_end0
   rw [HR.out]
   exact ⟨rfl, RDP.after HB2.out (HI2.out.toP (below_drewN (Below.refl _ _) _))⟩
 rw [decide_eq_false hgi] at hgl
 have HNG := hide hgi
 clear hgi
 obtain ⟨O, hO⟩ : ∃ z, bs o = z := ⟨_, rfl⟩
 rw [hO] at hd1
 have HO := hide hO
 have HNS := hide hns
 have HI3 := hide (HI2.out.step ((Below.refl _ w2).drew))
 have HBW := hide (HB2.out.drew)
 unfold opsL at ho
 simp only [List.mem_cons, List.not_mem_nil, or_false] at ho
 rcases ho with ho | ho | ho | ho | ho
 · have hO2 : O = ⟨#[58, 58, 61]⟩ := by rw [← hO, ho]; rfl
   subst hO2
   have HEX := hide (fun W (hi : RD w0 C g s deep S W) => expanded_any w0 C g s deep S W hi HMX.out (Nat.le_trans HBD.out.cnt (by decide)) (fun x hx => by have := HBD.out.mac x hx; omega) v (by omega))
   have hgo : ¬ (n ∈ s.giv ∨ (o = [63, 61] ∧ gv.isSome = true)) := by rw [ho]; rintro (h | ⟨h, _⟩); exact HNG.out h; exact absurd h (by decide)
   have hvo : valV s.mac n o v = (match expS s.mac v with | .error e => .error e | .ok t => .ok (dbl t)) := by rw [valV, if_pos (by rw [ho]; decide)]; rfl
   have HVE := hide (show ∀ c, expS s.mac v = .error c → R = .error c from fun c hc => by
     refine HDF.out.trans ?_
     rw [if_neg hgo, hvo, hc])
   have HVO := hide (show ∀ t, expS s.mac v = .ok t → R = if gv.isSome = false ∧ 200 ≤ s.mac.length then .error 3 else .ok { s with mac := putG (bs n, bs (dbl t)) s.mac } from fun t ht => by
     refine HDF.out.trans ?_
     rw [if_neg hgo, hvo, ht])
   clear hgo hvo
   obtain ⟨ex, hex⟩ : ∃ z, expS s.mac v = z := ⟨_, rfl⟩
   have HXL := hide (fun t (h : ex = .ok t) => expS_len (hex.trans h))
   rw [hex] at HVE HVO HEX
   clear hex ho hO
   cases gv with
   | none =>
     go_wp2_with fail
     go_region
     have hg2 : w2.drew.cell? ⟨g, 2, none⟩ = some (.map (some C.bm)) := hc2
     have hg0 : w2.drew.cell? ⟨gd, 0, none⟩ = some (.string (bs n)) := hd0
     have hg1 : w2.drew.cell? ⟨gd, 1, none⟩ = some _ := hd1
     have hg3 : w2.drew.cell? ⟨gd, 2, none⟩ = some _ := hd2
     clear hc2 hc3 hd0 hd1 hd2 hgl hfz
     have HGL := hide (show gd < w2.drew.heap.size from HGL0.out)
     obtain ⟨W, hW⟩ : ∃ W, w2.drew = W := ⟨_, rfl⟩
     rw [hW] at hg0 hg1 hg2 hg3 HI3 HBW HGL ⊢
     clear hW HI2 HB2 HGD2
     go_wp2_with fail
     refine (HEX.out _ HI3.out).mono ?_
     rcases ex with c | t
     · rintro e w5 ⟨⟨hc0, rfl⟩, hb5⟩
       refine ⟨rfl, ?_⟩
       rw [HVE.out c rfl]
       exact ⟨rfl, s, deep, RDP.after HBW.out (HI3.out.toP hb5)⟩
     rintro e w5 ⟨rfl, hb5⟩
     have htl := HXL.out t rfl
     have HB5 := hide hb5
     have HRA := hide (replAll_any t w5 (HMX.out.below (HI3.out.step hb5).below) (by omega))
     have HV1 := hide (HVO.out t rfl)
     clear hb5 htl
     go_wp2_with fail
     refine HRA.out.mono ?_
     rintro e w6 ⟨rfl, hb6⟩
     have hb36 := HB5.out.trans (hb6.mono HB5.out.size)
     have hg0' := (hb36.cell (p := ⟨gd, 0, none⟩) HGL.out).trans hg0
     have hg2' := (hb36.cell (p := ⟨g, 2, none⟩) HI3.out.lt).trans hg2
     have HI3' := hide (HI3.out.step hb36)
     have HBW' := hide (HBW.out.trans (hb36.mono HBW.out.size))
     clear hg0 hg1 hg2 hg3 HI3 HBW HGL hb6 hb36 HB5 HRA
     obtain ⟨W, rfl⟩ : ∃ W, W = w6 := ⟨_, rfl⟩
     have HI3 := HI3'
     have HBW := HBW'
     have hg0 := hg0'
     have hg2 := hg2'
     clear HI3' HBW' hg0' hg2'
     obtain ⟨x, hx⟩ : ∃ x, x = dbl t := ⟨_, rfl⟩
     rw [← hx] at HV1 ⊢
     have HV := HV1
     clear HV1 hx
     by_cases hc : 200 ≤ s.mac.length
     · have HR := hide (HV.out.trans (if_pos ⟨rfl, hc⟩))
       have hlen := slenS (w := W) (HI3.out.mac.of rfl) 3
       have hdec : decide (((200 : Int)) ≤ (s.mac.length : Int)) = true := decide_eq_true (by omega)
       clear hc
       go_wp2_with fail
       refine (mustE_any 3 (by decide) _).mono ?_
       rintro e w3 ⟨rfl, rfl⟩
       refine ⟨rfl, ?_⟩
       rw [HR.out]
       exact ⟨rfl, s, deep, RDP.after HBW.out (HI3.out.toP (Below.refl _ _))⟩
     · have HR := hide (HV.out.trans (if_neg fun h => hc h.2))
       have hlen := slenS (w := W) (HI3.out.mac.of rfl) 3
       have hdec : decide (((200 : Int)) ≤ (s.mac.length : Int)) = false := decide_eq_false (by omega)
       obtain ⟨w9, hst, hms, hkp, hsz⟩ := sstoreS (w := W.drew) (HI3.out.mac.of rfl) HI3.out.rise (by omega) (s := bs n) HNS.out (bs x)
       have HEND := hide (RDP.after HBW.out (RDP.go (S := S) (S' := S) (Kp.of_below (below_drewN (Below.refl _ W) 1) S) (fun _ e => .inl e) ((⟨S, (HI3.out.step (below_drewN (Below.refl _ W) 1)).macS hms (HI3.out.rise.put _) hkp hsz, hkp.mono fun k e => e ▸ HI3.out.sm, fun _ e => .inl e⟩ : RDP w0 C g { s with mac := putG (bs n, bs x) s.mac } deep S W.drew w9))))
       clear hc hms hkp hsz
       go_wp2_with fail
       go_region
       go_wp2
       go_end0
       rw [HR.out]
       exact ⟨rfl, HEND.out⟩
   | some u =>
     go_wp2_with fail
     go_region
     have hg2 : w2.drew.cell? ⟨g, 2, none⟩ = some (.map (some C.bm)) := hc2
     have hg0 : w2.drew.cell? ⟨gd, 0, none⟩ = some (.string (bs n)) := hd0
     have hg1 : w2.drew.cell? ⟨gd, 1, none⟩ = some _ := hd1
     have hg3 : w2.drew.cell? ⟨gd, 2, none⟩ = some _ := hd2
     clear hc2 hc3 hd0 hd1 hd2 hgl hfz
     have HGL := hide (show gd < w2.drew.heap.size from HGL0.out)
     obtain ⟨W, hW⟩ : ∃ W, w2.drew = W := ⟨_, rfl⟩
     rw [hW] at hg0 hg1 hg2 hg3 HI3 HBW HGL ⊢
     clear hW HI2 HB2 HGD2
     go_wp2_with fail
     refine (HEX.out _ HI3.out).mono ?_
     rcases ex with c | t
     · rintro e w5 ⟨⟨hc0, rfl⟩, hb5⟩
       refine ⟨rfl, ?_⟩
       rw [HVE.out c rfl]
       exact ⟨rfl, s, deep, RDP.after HBW.out (HI3.out.toP hb5)⟩
     rintro e w5 ⟨rfl, hb5⟩
     have htl := HXL.out t rfl
     have HB5 := hide hb5
     have HRA := hide (replAll_any t w5 (HMX.out.below (HI3.out.step hb5).below) (by omega))
     have HV1 := hide (HVO.out t rfl)
     clear hb5 htl
     go_wp2_with fail
     refine HRA.out.mono ?_
     rintro e w6 ⟨rfl, hb6⟩
     have hb36 := HB5.out.trans (hb6.mono HB5.out.size)
     have hg0' := (hb36.cell (p := ⟨gd, 0, none⟩) HGL.out).trans hg0
     have hg2' := (hb36.cell (p := ⟨g, 2, none⟩) HI3.out.lt).trans hg2
     have HI3' := hide (HI3.out.step hb36)
     have HBW' := hide (HBW.out.trans (hb36.mono HBW.out.size))
     clear hg0 hg1 hg2 hg3 HI3 HBW HGL hb6 hb36 HB5 HRA
     obtain ⟨W, rfl⟩ : ∃ W, W = w6 := ⟨_, rfl⟩
     have HI3 := HI3'
     have HBW := HBW'
     have hg0 := hg0'
     have hg2 := hg2'
     clear HI3' HBW' hg0' hg2'
     obtain ⟨x, hx⟩ : ∃ x, x = dbl t := ⟨_, rfl⟩
     rw [← hx] at HV1 ⊢
     have HV := HV1
     clear HV1 hx
     have HR := hide (HV.out.trans (if_neg fun h => absurd h.1 (by simp)))
     obtain ⟨w9, hst, hms, hkp, hsz⟩ := sstoreS (w := W.drew) (HI3.out.mac.of rfl) HI3.out.rise (Nat.le_trans HBD.out.cnt (by decide)) (s := bs n) HNS.out (bs x)
     have HEND := hide (RDP.after HBW.out (RDP.go (S := S) (S' := S) (Kp.of_below (below_drewN (Below.refl _ W) 1) S) (fun _ e => .inl e) ((⟨S, (HI3.out.step (below_drewN (Below.refl _ W) 1)).macS hms (HI3.out.rise.put _) hkp hsz, hkp.mono fun k e => e ▸ HI3.out.sm, fun _ e => .inl e⟩ : RDP w0 C g { s with mac := putG (bs n, bs x) s.mac } deep S W.drew w9))))
     clear hms hkp hsz
     go_wp2_with fail
     go_region
     go_wp2
     go_end0
     rw [HR.out]
     exact ⟨rfl, HEND.out⟩
 · have hO2 : O = ⟨#[58, 61]⟩ := by rw [← hO, ho]; rfl
   subst hO2
   have HEX := hide (fun W (hi : RD w0 C g s deep S W) => expanded_any w0 C g s deep S W hi HMX.out (Nat.le_trans HBD.out.cnt (by decide)) (fun x hx => by have := HBD.out.mac x hx; omega) v (by omega))
   have hgo : ¬ (n ∈ s.giv ∨ (o = [63, 61] ∧ gv.isSome = true)) := by rw [ho]; rintro (h | ⟨h, _⟩); exact HNG.out h; exact absurd h (by decide)
   have hvo : valV s.mac n o v = (match expS s.mac v with | .error e => .error e | .ok t => .ok (dbl t)) := by rw [valV, if_pos (by rw [ho]; decide)]; rfl
   have HVE := hide (show ∀ c, expS s.mac v = .error c → R = .error c from fun c hc => by
     refine HDF.out.trans ?_
     rw [if_neg hgo, hvo, hc])
   have HVO := hide (show ∀ t, expS s.mac v = .ok t → R = if gv.isSome = false ∧ 200 ≤ s.mac.length then .error 3 else .ok { s with mac := putG (bs n, bs (dbl t)) s.mac } from fun t ht => by
     refine HDF.out.trans ?_
     rw [if_neg hgo, hvo, ht])
   clear hgo hvo
   obtain ⟨ex, hex⟩ : ∃ z, expS s.mac v = z := ⟨_, rfl⟩
   have HXL := hide (fun t (h : ex = .ok t) => expS_len (hex.trans h))
   rw [hex] at HVE HVO HEX
   clear hex ho hO
   cases gv with
   | none =>
     go_wp2_with fail
     go_region
     have hg2 : w2.drew.cell? ⟨g, 2, none⟩ = some (.map (some C.bm)) := hc2
     have hg0 : w2.drew.cell? ⟨gd, 0, none⟩ = some (.string (bs n)) := hd0
     have hg1 : w2.drew.cell? ⟨gd, 1, none⟩ = some _ := hd1
     have hg3 : w2.drew.cell? ⟨gd, 2, none⟩ = some _ := hd2
     clear hc2 hc3 hd0 hd1 hd2 hgl hfz
     have HGL := hide (show gd < w2.drew.heap.size from HGL0.out)
     obtain ⟨W, hW⟩ : ∃ W, w2.drew = W := ⟨_, rfl⟩
     rw [hW] at hg0 hg1 hg2 hg3 HI3 HBW HGL ⊢
     clear hW HI2 HB2 HGD2
     go_wp2_with fail
     refine (HEX.out _ HI3.out).mono ?_
     rcases ex with c | t
     · rintro e w5 ⟨⟨hc0, rfl⟩, hb5⟩
       refine ⟨rfl, ?_⟩
       rw [HVE.out c rfl]
       exact ⟨rfl, s, deep, RDP.after HBW.out (HI3.out.toP hb5)⟩
     rintro e w5 ⟨rfl, hb5⟩
     have htl := HXL.out t rfl
     have HB5 := hide hb5
     have HRA := hide (replAll_any t w5 (HMX.out.below (HI3.out.step hb5).below) (by omega))
     have HV1 := hide (HVO.out t rfl)
     clear hb5 htl
     go_wp2_with fail
     refine HRA.out.mono ?_
     rintro e w6 ⟨rfl, hb6⟩
     have hb36 := HB5.out.trans (hb6.mono HB5.out.size)
     have hg0' := (hb36.cell (p := ⟨gd, 0, none⟩) HGL.out).trans hg0
     have hg2' := (hb36.cell (p := ⟨g, 2, none⟩) HI3.out.lt).trans hg2
     have HI3' := hide (HI3.out.step hb36)
     have HBW' := hide (HBW.out.trans (hb36.mono HBW.out.size))
     clear hg0 hg1 hg2 hg3 HI3 HBW HGL hb6 hb36 HB5 HRA
     obtain ⟨W, rfl⟩ : ∃ W, W = w6 := ⟨_, rfl⟩
     have HI3 := HI3'
     have HBW := HBW'
     have hg0 := hg0'
     have hg2 := hg2'
     clear HI3' HBW' hg0' hg2'
     obtain ⟨x, hx⟩ : ∃ x, x = dbl t := ⟨_, rfl⟩
     rw [← hx] at HV1 ⊢
     have HV := HV1
     clear HV1 hx
     by_cases hc : 200 ≤ s.mac.length
     · have HR := hide (HV.out.trans (if_pos ⟨rfl, hc⟩))
       have hlen := slenS (w := W) (HI3.out.mac.of rfl) 3
       have hdec : decide (((200 : Int)) ≤ (s.mac.length : Int)) = true := decide_eq_true (by omega)
       clear hc
       go_wp2_with fail
       refine (mustE_any 3 (by decide) _).mono ?_
       rintro e w3 ⟨rfl, rfl⟩
       refine ⟨rfl, ?_⟩
       rw [HR.out]
       exact ⟨rfl, s, deep, RDP.after HBW.out (HI3.out.toP (Below.refl _ _))⟩
     · have HR := hide (HV.out.trans (if_neg fun h => hc h.2))
       have hlen := slenS (w := W) (HI3.out.mac.of rfl) 3
       have hdec : decide (((200 : Int)) ≤ (s.mac.length : Int)) = false := decide_eq_false (by omega)
       obtain ⟨w9, hst, hms, hkp, hsz⟩ := sstoreS (w := W.drew) (HI3.out.mac.of rfl) HI3.out.rise (by omega) (s := bs n) HNS.out (bs x)
       have HEND := hide (RDP.after HBW.out (RDP.go (S := S) (S' := S) (Kp.of_below (below_drewN (Below.refl _ W) 1) S) (fun _ e => .inl e) ((⟨S, (HI3.out.step (below_drewN (Below.refl _ W) 1)).macS hms (HI3.out.rise.put _) hkp hsz, hkp.mono fun k e => e ▸ HI3.out.sm, fun _ e => .inl e⟩ : RDP w0 C g { s with mac := putG (bs n, bs x) s.mac } deep S W.drew w9))))
       clear hc hms hkp hsz
       go_wp2_with fail
       go_region
       go_wp2
       go_end0
       rw [HR.out]
       exact ⟨rfl, HEND.out⟩
   | some u =>
     go_wp2_with fail
     go_region
     have hg2 : w2.drew.cell? ⟨g, 2, none⟩ = some (.map (some C.bm)) := hc2
     have hg0 : w2.drew.cell? ⟨gd, 0, none⟩ = some (.string (bs n)) := hd0
     have hg1 : w2.drew.cell? ⟨gd, 1, none⟩ = some _ := hd1
     have hg3 : w2.drew.cell? ⟨gd, 2, none⟩ = some _ := hd2
     clear hc2 hc3 hd0 hd1 hd2 hgl hfz
     have HGL := hide (show gd < w2.drew.heap.size from HGL0.out)
     obtain ⟨W, hW⟩ : ∃ W, w2.drew = W := ⟨_, rfl⟩
     rw [hW] at hg0 hg1 hg2 hg3 HI3 HBW HGL ⊢
     clear hW HI2 HB2 HGD2
     go_wp2_with fail
     refine (HEX.out _ HI3.out).mono ?_
     rcases ex with c | t
     · rintro e w5 ⟨⟨hc0, rfl⟩, hb5⟩
       refine ⟨rfl, ?_⟩
       rw [HVE.out c rfl]
       exact ⟨rfl, s, deep, RDP.after HBW.out (HI3.out.toP hb5)⟩
     rintro e w5 ⟨rfl, hb5⟩
     have htl := HXL.out t rfl
     have HB5 := hide hb5
     have HRA := hide (replAll_any t w5 (HMX.out.below (HI3.out.step hb5).below) (by omega))
     have HV1 := hide (HVO.out t rfl)
     clear hb5 htl
     go_wp2_with fail
     refine HRA.out.mono ?_
     rintro e w6 ⟨rfl, hb6⟩
     have hb36 := HB5.out.trans (hb6.mono HB5.out.size)
     have hg0' := (hb36.cell (p := ⟨gd, 0, none⟩) HGL.out).trans hg0
     have hg2' := (hb36.cell (p := ⟨g, 2, none⟩) HI3.out.lt).trans hg2
     have HI3' := hide (HI3.out.step hb36)
     have HBW' := hide (HBW.out.trans (hb36.mono HBW.out.size))
     clear hg0 hg1 hg2 hg3 HI3 HBW HGL hb6 hb36 HB5 HRA
     obtain ⟨W, rfl⟩ : ∃ W, W = w6 := ⟨_, rfl⟩
     have HI3 := HI3'
     have HBW := HBW'
     have hg0 := hg0'
     have hg2 := hg2'
     clear HI3' HBW' hg0' hg2'
     obtain ⟨x, hx⟩ : ∃ x, x = dbl t := ⟨_, rfl⟩
     rw [← hx] at HV1 ⊢
     have HV := HV1
     clear HV1 hx
     have HR := hide (HV.out.trans (if_neg fun h => absurd h.1 (by simp)))
     obtain ⟨w9, hst, hms, hkp, hsz⟩ := sstoreS (w := W.drew) (HI3.out.mac.of rfl) HI3.out.rise (Nat.le_trans HBD.out.cnt (by decide)) (s := bs n) HNS.out (bs x)
     have HEND := hide (RDP.after HBW.out (RDP.go (S := S) (S' := S) (Kp.of_below (below_drewN (Below.refl _ W) 1) S) (fun _ e => .inl e) ((⟨S, (HI3.out.step (below_drewN (Below.refl _ W) 1)).macS hms (HI3.out.rise.put _) hkp hsz, hkp.mono fun k e => e ▸ HI3.out.sm, fun _ e => .inl e⟩ : RDP w0 C g { s with mac := putG (bs n, bs x) s.mac } deep S W.drew w9))))
     clear hms hkp hsz
     go_wp2_with fail
     go_region
     go_wp2
     go_end0
     rw [HR.out]
     exact ⟨rfl, HEND.out⟩
 · have hO2 : O = ⟨#[43, 61]⟩ := by rw [← hO, ho]; rfl
   subst hO2
   cases gv with
   | none =>
     obtain ⟨x, hx⟩ : ∃ x, x = v := ⟨_, rfl⟩
     have HV := hide (show R = if (none : Option ByteArray).isSome = false ∧ 200 ≤ s.mac.length then .error 3 else .ok { s with mac := putG (bs n, bs x) s.mac } from by
       refine HDF.out.trans ?_
       rw [if_neg (by rw [ho]; rintro (h | ⟨h, _⟩); exact HNG.out h; exact absurd h (by decide)), valV, if_neg (by rw [ho]; decide), if_neg (by rintro ⟨_, h⟩; apply h; unfold oldV; rw [HGV.out]), hx])
     clear ho hO
     subst hx
     go_wp2_with fail
     go_region
     have hg2 : w2.drew.cell? ⟨g, 2, none⟩ = some (.map (some C.bm)) := hc2
     have hg0 : w2.drew.cell? ⟨gd, 0, none⟩ = some (.string (bs n)) := hd0
     have hg1 : w2.drew.cell? ⟨gd, 1, none⟩ = some _ := hd1
     have hg3 : w2.drew.cell? ⟨gd, 2, none⟩ = some _ := hd2
     clear hc2 hc3 hd0 hd1 hd2 hgl hfz
     have HGL := hide (show gd < w2.drew.heap.size from HGL0.out)
     obtain ⟨W, hW⟩ : ∃ W, w2.drew = W := ⟨_, rfl⟩
     rw [hW] at hg0 hg1 hg2 hg3 HI3 HBW HGL ⊢
     clear hW HI2 HB2 HGD2
     by_cases hc : 200 ≤ s.mac.length
     · have HR := hide (HV.out.trans (if_pos ⟨rfl, hc⟩))
       have hlen := slenS (w := W) (HI3.out.mac.of rfl) 3
       have hdec : decide (((200 : Int)) ≤ (s.mac.length : Int)) = true := decide_eq_true (by omega)
       clear hc
       go_wp2_with fail
       refine (mustE_any 3 (by decide) _).mono ?_
       rintro e w3 ⟨rfl, rfl⟩
       refine ⟨rfl, ?_⟩
       rw [HR.out]
       exact ⟨rfl, s, deep, RDP.after HBW.out (HI3.out.toP (Below.refl _ _))⟩
     · have HR := hide (HV.out.trans (if_neg fun h => hc h.2))
       have hlen := slenS (w := W) (HI3.out.mac.of rfl) 3
       have hdec : decide (((200 : Int)) ≤ (s.mac.length : Int)) = false := decide_eq_false (by omega)
       obtain ⟨w9, hst, hms, hkp, hsz⟩ := sstoreS (w := W.drew) (HI3.out.mac.of rfl) HI3.out.rise (by omega) (s := bs n) HNS.out (bs x)
       have HEND := hide (RDP.after HBW.out (RDP.go (S := S) (S' := S) (Kp.of_below (below_drewN (Below.refl _ W) 1) S) (fun _ e => .inl e) ((⟨S, (HI3.out.step (below_drewN (Below.refl _ W) 1)).macS hms (HI3.out.rise.put _) hkp hsz, hkp.mono fun k e => e ▸ HI3.out.sm, fun _ e => .inl e⟩ : RDP w0 C g { s with mac := putG (bs n, bs x) s.mac } deep S W.drew w9))))
       clear hc hms hkp hsz
       go_wp2_with fail
       go_region
       go_wp2
       go_end0
       rw [HR.out]
       exact ⟨rfl, HEND.out⟩
   | some u =>
     obtain ⟨t, rfl⟩ : ∃ t, u = bs t := ⟨u.data.toList, rfl⟩
     have hold : oldV s.mac n = t := by unfold oldV; rw [HGV.out]; rfl
     by_cases he : t = []
     · subst he
       obtain ⟨x, hx⟩ : ∃ x, x = v := ⟨_, rfl⟩
       have HV := hide (show R = if (some (bs [])).isSome = false ∧ 200 ≤ s.mac.length then .error 3 else .ok { s with mac := putG (bs n, bs x) s.mac } from by
         refine HDF.out.trans ?_
         rw [if_neg (by rw [ho]; rintro (h | ⟨h, _⟩); exact HNG.out h; exact absurd h (by decide)), valV, if_neg (by rw [ho]; decide), if_neg (by rintro ⟨_, h⟩; exact h hold), hx])
       clear ho hO hold
       subst hx
       have hb0 : bs [] = ⟨#[]⟩ := rfl
       rw [hb0]
       go_wp2_with fail
       go_region
       have hg2 : w2.drew.cell? ⟨g, 2, none⟩ = some (.map (some C.bm)) := hc2
       have hg0 : w2.drew.cell? ⟨gd, 0, none⟩ = some (.string (bs n)) := hd0
       have hg1 : w2.drew.cell? ⟨gd, 1, none⟩ = some _ := hd1
       have hg3 : w2.drew.cell? ⟨gd, 2, none⟩ = some _ := hd2
       clear hc2 hc3 hd0 hd1 hd2 hgl hfz
       have HGL := hide (show gd < w2.drew.heap.size from HGL0.out)
       obtain ⟨W, hW⟩ : ∃ W, w2.drew = W := ⟨_, rfl⟩
       rw [hW] at hg0 hg1 hg2 hg3 HI3 HBW HGL ⊢
       clear hW HI2 HB2 HGD2
       have HR := hide (HV.out.trans (if_neg fun h => absurd h.1 (by simp)))
       obtain ⟨w9, hst, hms, hkp, hsz⟩ := sstoreS (w := W.drew) (HI3.out.mac.of rfl) HI3.out.rise (Nat.le_trans HBD.out.cnt (by decide)) (s := bs n) HNS.out (bs x)
       have HEND := hide (RDP.after HBW.out (RDP.go (S := S) (S' := S) (Kp.of_below (below_drewN (Below.refl _ W) 1) S) (fun _ e => .inl e) ((⟨S, (HI3.out.step (below_drewN (Below.refl _ W) 1)).macS hms (HI3.out.rise.put _) hkp hsz, hkp.mono fun k e => e ▸ HI3.out.sm, fun _ e => .inl e⟩ : RDP w0 C g { s with mac := putG (bs n, bs x) s.mac } deep S W.drew w9))))
       clear hms hkp hsz
       go_wp2_with fail
       go_region
       go_wp2
       go_end0
       rw [HR.out]
       exact ⟨rfl, HEND.out⟩
     · obtain ⟨x, hx⟩ : ∃ x, x = t ++ 32 :: v := ⟨_, rfl⟩
       have HV := hide (show R = if (some (bs t)).isSome = false ∧ 200 ≤ s.mac.length then .error 3 else .ok { s with mac := putG (bs n, bs x) s.mac } from by
         refine HDF.out.trans ?_
         rw [if_neg (by rw [ho]; rintro (h | ⟨h, _⟩); exact HNG.out h; exact absurd h (by decide)), valV, if_neg (by rw [ho]; decide), if_pos ⟨ho, by rw [hold]; exact he⟩, hold, hx])
       have hsz : (bs t).size ≤ 40000 * (k + 1) := HBD.out.mac _ (getG_mem HGV.out)
       have hl1 : ¬ 9223372036854775807 < (bs t).size + 1 := by omega
       have hl2 : ¬ 9223372036854775807 < (bs t).size + 1 + (bs v).size := by rw [bs_size v]; omega
       have hem : (bs t).toList.isEmpty = false := by rw [ByteArray.toList_eq, bs_list]; simpa using he
       have hcat : bs t ++ (⟨#[32]⟩ : ByteArray) ++ bs v = bs x := by rw [hx]; apply ByteArray.ext; simp [bs, ByteArray.data_append]
       clear ho hO hold hx hsz
       go_wp2_with fail
       go_region
       have hg2 : w2.drew.cell? ⟨g, 2, none⟩ = some (.map (some C.bm)) := hc2
       have hg0 : w2.drew.cell? ⟨gd, 0, none⟩ = some (.string (bs n)) := hd0
       have hg1 : w2.drew.cell? ⟨gd, 1, none⟩ = some _ := hd1
       have hg3 : w2.drew.cell? ⟨gd, 2, none⟩ = some _ := hd2
       clear hc2 hc3 hd0 hd1 hd2 hgl hfz
       have HGL := hide (show gd < w2.drew.heap.size from HGL0.out)
       obtain ⟨W, hW⟩ : ∃ W, w2.drew = W := ⟨_, rfl⟩
       rw [hW] at hg0 hg1 hg2 hg3 HI3 HBW HGL ⊢
       clear hW HI2 HB2 HGD2
       have HR := hide (HV.out.trans (if_neg fun h => absurd h.1 (by simp)))
       obtain ⟨w9, hst, hms, hkp, hsz⟩ := sstoreS (w := W.drew) (HI3.out.mac.of rfl) HI3.out.rise (Nat.le_trans HBD.out.cnt (by decide)) (s := bs n) HNS.out (bs x)
       have HEND := hide (RDP.after HBW.out (RDP.go (S := S) (S' := S) (Kp.of_below (below_drewN (Below.refl _ W) 1) S) (fun _ e => .inl e) ((⟨S, (HI3.out.step (below_drewN (Below.refl _ W) 1)).macS hms (HI3.out.rise.put _) hkp hsz, hkp.mono fun k e => e ▸ HI3.out.sm, fun _ e => .inl e⟩ : RDP w0 C g { s with mac := putG (bs n, bs x) s.mac } deep S W.drew w9))))
       clear hms hkp hsz
       go_wp2_with fail
       go_region
       go_wp2
       go_end0
       rw [HR.out]
       exact ⟨rfl, HEND.out⟩
 · have hO2 : O = ⟨#[63, 61]⟩ := by rw [← hO, ho]; rfl
   subst hO2
   cases gv with
   | none =>
     obtain ⟨x, hx⟩ : ∃ x, x = v := ⟨_, rfl⟩
     have HV := hide (show R = if (none : Option ByteArray).isSome = false ∧ 200 ≤ s.mac.length then .error 3 else .ok { s with mac := putG (bs n, bs x) s.mac } from by
       refine HDF.out.trans ?_
       rw [if_neg (by rintro (h | ⟨_, h⟩); exact HNG.out h; exact absurd h (by simp)), valV, if_neg (by rw [ho]; decide), if_neg (by rw [ho]; rintro ⟨h, _⟩; exact absurd h (by decide)), hx])
     clear ho hO
     subst hx
     go_wp2_with fail
     go_region
     have hg2 : w2.drew.cell? ⟨g, 2, none⟩ = some (.map (some C.bm)) := hc2
     have hg0 : w2.drew.cell? ⟨gd, 0, none⟩ = some (.string (bs n)) := hd0
     have hg1 : w2.drew.cell? ⟨gd, 1, none⟩ = some _ := hd1
     have hg3 : w2.drew.cell? ⟨gd, 2, none⟩ = some _ := hd2
     clear hc2 hc3 hd0 hd1 hd2 hgl hfz
     have HGL := hide (show gd < w2.drew.heap.size from HGL0.out)
     obtain ⟨W, hW⟩ : ∃ W, w2.drew = W := ⟨_, rfl⟩
     rw [hW] at hg0 hg1 hg2 hg3 HI3 HBW HGL ⊢
     clear hW HI2 HB2 HGD2
     by_cases hc : 200 ≤ s.mac.length
     · have HR := hide (HV.out.trans (if_pos ⟨rfl, hc⟩))
       have hlen := slenS (w := W) (HI3.out.mac.of rfl) 3
       have hdec : decide (((200 : Int)) ≤ (s.mac.length : Int)) = true := decide_eq_true (by omega)
       clear hc
       go_wp2_with fail
       refine (mustE_any 3 (by decide) _).mono ?_
       rintro e w3 ⟨rfl, rfl⟩
       refine ⟨rfl, ?_⟩
       rw [HR.out]
       exact ⟨rfl, s, deep, RDP.after HBW.out (HI3.out.toP (Below.refl _ _))⟩
     · have HR := hide (HV.out.trans (if_neg fun h => hc h.2))
       have hlen := slenS (w := W) (HI3.out.mac.of rfl) 3
       have hdec : decide (((200 : Int)) ≤ (s.mac.length : Int)) = false := decide_eq_false (by omega)
       obtain ⟨w9, hst, hms, hkp, hsz⟩ := sstoreS (w := W.drew) (HI3.out.mac.of rfl) HI3.out.rise (by omega) (s := bs n) HNS.out (bs x)
       have HEND := hide (RDP.after HBW.out (RDP.go (S := S) (S' := S) (Kp.of_below (below_drewN (Below.refl _ W) 1) S) (fun _ e => .inl e) ((⟨S, (HI3.out.step (below_drewN (Below.refl _ W) 1)).macS hms (HI3.out.rise.put _) hkp hsz, hkp.mono fun k e => e ▸ HI3.out.sm, fun _ e => .inl e⟩ : RDP w0 C g { s with mac := putG (bs n, bs x) s.mac } deep S W.drew w9))))
       clear hc hms hkp hsz
       go_wp2_with fail
       go_region
       go_wp2
       go_end0
       rw [HR.out]
       exact ⟨rfl, HEND.out⟩
   | some u =>
     have HR := hide (show R = .ok s from HDF.out.trans (if_pos (.inr ⟨ho, rfl⟩)))
     clear ho hO
     go_wp2_with fail
     go_region
     go_wp2
     go_end0
     rw [HR.out]
     exact ⟨rfl, RDP.after HB2.out (HI2.out.toP (below_drewN (Below.refl _ _) _))⟩
 · have hO2 : O = ⟨#[61]⟩ := by rw [← hO, ho]; rfl
   subst hO2
   obtain ⟨x, hx⟩ : ∃ x, x = v := ⟨_, rfl⟩
   have HV := hide (show R = if gv.isSome = false ∧ 200 ≤ s.mac.length then .error 3 else .ok { s with mac := putG (bs n, bs x) s.mac } from by
     refine HDF.out.trans ?_
     rw [if_neg (by rw [ho]; rintro (h | ⟨h, _⟩); exact HNG.out h; exact absurd h (by decide)), valV, if_neg (by rw [ho]; decide), if_neg (by rw [ho]; rintro ⟨h, _⟩; exact absurd h (by decide)), hx])
   clear ho hO
   subst hx
   cases gv with
   | none =>
     go_wp2_with fail
     go_region
     have hg2 : w2.drew.cell? ⟨g, 2, none⟩ = some (.map (some C.bm)) := hc2
     have hg0 : w2.drew.cell? ⟨gd, 0, none⟩ = some (.string (bs n)) := hd0
     have hg1 : w2.drew.cell? ⟨gd, 1, none⟩ = some _ := hd1
     have hg3 : w2.drew.cell? ⟨gd, 2, none⟩ = some _ := hd2
     clear hc2 hc3 hd0 hd1 hd2 hgl hfz
     have HGL := hide (show gd < w2.drew.heap.size from HGL0.out)
     obtain ⟨W, hW⟩ : ∃ W, w2.drew = W := ⟨_, rfl⟩
     rw [hW] at hg0 hg1 hg2 hg3 HI3 HBW HGL ⊢
     clear hW HI2 HB2 HGD2
     by_cases hc : 200 ≤ s.mac.length
     · have HR := hide (HV.out.trans (if_pos ⟨rfl, hc⟩))
       have hlen := slenS (w := W) (HI3.out.mac.of rfl) 3
       have hdec : decide (((200 : Int)) ≤ (s.mac.length : Int)) = true := decide_eq_true (by omega)
       clear hc
       go_wp2_with fail
       refine (mustE_any 3 (by decide) _).mono ?_
       rintro e w3 ⟨rfl, rfl⟩
       refine ⟨rfl, ?_⟩
       rw [HR.out]
       exact ⟨rfl, s, deep, RDP.after HBW.out (HI3.out.toP (Below.refl _ _))⟩
     · have HR := hide (HV.out.trans (if_neg fun h => hc h.2))
       have hlen := slenS (w := W) (HI3.out.mac.of rfl) 3
       have hdec : decide (((200 : Int)) ≤ (s.mac.length : Int)) = false := decide_eq_false (by omega)
       obtain ⟨w9, hst, hms, hkp, hsz⟩ := sstoreS (w := W.drew) (HI3.out.mac.of rfl) HI3.out.rise (by omega) (s := bs n) HNS.out (bs x)
       have HEND := hide (RDP.after HBW.out (RDP.go (S := S) (S' := S) (Kp.of_below (below_drewN (Below.refl _ W) 1) S) (fun _ e => .inl e) ((⟨S, (HI3.out.step (below_drewN (Below.refl _ W) 1)).macS hms (HI3.out.rise.put _) hkp hsz, hkp.mono fun k e => e ▸ HI3.out.sm, fun _ e => .inl e⟩ : RDP w0 C g { s with mac := putG (bs n, bs x) s.mac } deep S W.drew w9))))
       clear hc hms hkp hsz
       go_wp2_with fail
       go_region
       go_wp2
       go_end0
       rw [HR.out]
       exact ⟨rfl, HEND.out⟩
   | some u =>
     go_wp2_with fail
     go_region
     have hg2 : w2.drew.cell? ⟨g, 2, none⟩ = some (.map (some C.bm)) := hc2
     have hg0 : w2.drew.cell? ⟨gd, 0, none⟩ = some (.string (bs n)) := hd0
     have hg1 : w2.drew.cell? ⟨gd, 1, none⟩ = some _ := hd1
     have hg3 : w2.drew.cell? ⟨gd, 2, none⟩ = some _ := hd2
     clear hc2 hc3 hd0 hd1 hd2 hgl hfz
     have HGL := hide (show gd < w2.drew.heap.size from HGL0.out)
     obtain ⟨W, hW⟩ : ∃ W, w2.drew = W := ⟨_, rfl⟩
     rw [hW] at hg0 hg1 hg2 hg3 HI3 HBW HGL ⊢
     clear hW HI2 HB2 HGD2
     have HR := hide (HV.out.trans (if_neg fun h => absurd h.1 (by simp)))
     obtain ⟨w9, hst, hms, hkp, hsz⟩ := sstoreS (w := W.drew) (HI3.out.mac.of rfl) HI3.out.rise (Nat.le_trans HBD.out.cnt (by decide)) (s := bs n) HNS.out (bs x)
     have HEND := hide (RDP.after HBW.out (RDP.go (S := S) (S' := S) (Kp.of_below (below_drewN (Below.refl _ W) 1) S) (fun _ e => .inl e) ((⟨S, (HI3.out.step (below_drewN (Below.refl _ W) 1)).macS hms (HI3.out.rise.put _) hkp hsz, hkp.mono fun k e => e ▸ HI3.out.sm, fun _ e => .inl e⟩ : RDP w0 C g { s with mac := putG (bs n, bs x) s.mac } deep S W.drew w9))))
     clear hms hkp hsz
     go_wp2_with fail
     go_region
     go_wp2
     go_end0
     rw [HR.out]
     exact ⟨rfl, HEND.out⟩
end
section
open Go.RowKit Go.Deep Go.Maps Ln Pth Vf Rd Mc
attribute [local go_sem] bt_eq
theorem cutF_len : ∀ (l : T) (k : Nat) (acc : T), (cutF l k acc).1.length ≤ acc.length + l.length
 | [], k, acc => by unfold cutF; simp
 | c :: t, k + 1, acc => by
   rw [cutF]
   refine Nat.le_trans (cutF_len t k _) ?_
   simp; omega
 | c :: t, 0, acc => by
   rw [cutF_cons0]
   split
   · refine Nat.le_trans (cutF_len t _ _) ?_
     simp; omega
   · split
     · simp
     · refine Nat.le_trans (cutF_len t _ _) ?_
       simp; omega
theorem cut_len (p : T) (c : UInt8) : (Lib.cut p [c]).1.length ≤ p.length ∧ (Lib.cut p [c]).2.1.length ≤ p.length := by
 rcases cut_at p c with ⟨_, h⟩ | ⟨a, b, h1, _, h⟩
 · rw [h]; simp
 · rw [h, h1]; simp; omega
theorem rcont_any (t : T) (c : UInt8) (w : World) : Calls Tryz.prog 101 #[.string (bs t), .string ⟨#[c]⟩] w fun e w' => e = .returned (.bool (decide (c ∈ t))) ∧ w = w' := by
 have h := Tryz.strings_Contains_one (bs t) c w
 rw [show decide (0 ≤ Lib.indexByte (bs t).data.toList c) = decide (c ∈ t) from decide_eq_decide.2 (by rw [bs_list]; exact ixb_mem c t)] at h
 exact h.mono fun _ _ h => ⟨h.1, h.2.symm⟩
theorem rowN_own {w : World} {base g : Nat} {L : List T} {N : Nat → Prop} (h : OwnS w base (.slice (some ⟨g, 0, none⟩) L.length L.length) (L.map bs)) (hx : base ≤ g → N g) : RowN w N (some ⟨g, 0, none⟩, L.length, L.map bs) := by
 obtain ⟨A, c, e, _, hs, _⟩ := h.slice
 injection e with e1 e2 e3
 rw [← e1] at hs
 refine ⟨hs, by simp, fun a ha _ => ?_⟩
 injection ha with ha
 rw [← ha]
 exact hx (h.lt g rfl).1
theorem rule_any (w0 : World) (C : Rk) (g : Nat) (s : Sx) (deep : Int) (S : Nat → Prop) (w : World) (h : RD w0 C g s deep S w) (hm : MX w0) (k : Nat) (hk : k ≤ 10000000) (hbd : Bd s k) (t : T) (ht : t.length ≤ 16384) :
   Calls Tryz.prog 90 #[.pointer (some ⟨g, 0, none⟩), .string (bs t)] w (XE w0 C g deep S w (ruleF s t)) := by
 have HC := hide (rlcut_any t w (by omega))
 have hcl : (cutF t 0 []).1.length ≤ 16384 := by have := cutF_len t 0 []; simp at this; omega
 have HDF := hide (show ruleF s t = (match expS s.mac (cutF t 0 []).1 with
 | .error e => .error e
 | .ok x =>
   if (Lib.cut x [58]).2.2 = false ∨ (58 : UInt8) ∈ (Lib.cut x [58]).2.1 ∨ wordsF (Lib.cut x [58]).1 [] = [] ∨ mixF (wordsF (Lib.cut x [58]).1 []) = true then .error 2
   else if 300 ≤ s.rules.length ∨ 200 < (wordsF (Lib.cut x [58]).1 []).length ∨ 200 < (wordsF (Lib.cut x [58]).2.1 []).length then .error 3
   else .ok { s with rules := s.rules ++ [⟨wordsF (Lib.cut x [58]).1 [], wordsF (Lib.cut x [58]).2.1 [], if (cutF t 0 []).2.2 then [(cutF t 0 []).2.1] else []⟩] }) from rfl)
 obtain ⟨R, hR⟩ : ∃ R, ruleF s t = R := ⟨_, rfl⟩
 obtain ⟨hd, hhd⟩ : ∃ z, (cutF t 0 []).1 = z := ⟨_, rfl⟩
 obtain ⟨rc, hrc⟩ : ∃ z, (cutF t 0 []).2.1 = z := ⟨_, rfl⟩
 obtain ⟨rk, hrk⟩ : ∃ z, (cutF t 0 []).2.2 = z := ⟨_, rfl⟩
 rw [hR] at HDF ⊢
 rw [hhd, hrc, hrk] at HDF HC
 rw [hhd] at hcl
 have HEX := hide (fun W (hi : RD w0 C g s deep S W) => expanded_any w0 C g s deep S W hi hm (Nat.le_trans hbd.cnt (by decide)) (fun x hx => by have := hbd.mac x hx; omega) hd (by omega))
 obtain ⟨ex, hex⟩ : ∃ z, expS s.mac hd = z := ⟨_, rfl⟩
 have HXL := hide (fun t (h : ex = .ok t) => expS_len (hex.trans h))
 rw [hex] at HDF HEX
 have HI := hide h
 have HBD := hide hbd
 have HMX := hide hm
 clear h hm hbd hR hhd hrc hrk hex hcl
 go_enter Tryz.func90, Tryz.ntmps90
 go_wp2_with fail
 refine HC.out.mono ?_
 rintro e w1 ⟨rfl, hb1⟩
 have HI1 := hide (HI.out.step hb1)
 have HB1 := hide hb1
 clear hb1 HC
 go_wp2_with fail
 refine (HEX.out _ HI1.out).mono ?_
 clear HEX
 rcases ex with c | x
 · rintro e w5 ⟨⟨hc0, rfl⟩, hb5⟩
   refine ⟨rfl, ?_⟩
   rw [HDF.out]
   exact ⟨rfl, s, deep, RDP.after HB1.out (HI1.out.toP hb5)⟩
 rintro e w2 ⟨rfl, hb2⟩
 have hxl := HXL.out x rfl
 have HI2 := hide (HI1.out.step hb2)
 have HB2 := hide (HB1.out.trans (hb2.mono HB1.out.size))
 clear hb2 HI1 HB1 HXL
 have HCU := hide (cutc_any x 58 w2 (HMX.out.below HI2.out.below) (by omega))
 obtain ⟨hcl1, hcl2⟩ := cut_len x 58
 have HDF := hide (show R = if (Lib.cut x [58]).2.2 = false ∨ (58 : UInt8) ∈ (Lib.cut x [58]).2.1 ∨ wordsF (Lib.cut x [58]).1 [] = [] ∨ mixF (wordsF (Lib.cut x [58]).1 []) = true then .error 2
   else if 300 ≤ s.rules.length ∨ 200 < (wordsF (Lib.cut x [58]).1 []).length ∨ 200 < (wordsF (Lib.cut x [58]).2.1 []).length then .error 3
   else .ok { s with rules := s.rules ++ [⟨wordsF (Lib.cut x [58]).1 [], wordsF (Lib.cut x [58]).2.1 [], if rk then [rc] else []⟩] } from HDF.out)
 obtain ⟨cl, hcl⟩ : ∃ z, (Lib.cut x [58]).1 = z := ⟨_, rfl⟩
 obtain ⟨cr, hcr⟩ : ∃ z, (Lib.cut x [58]).2.1 = z := ⟨_, rfl⟩
 obtain ⟨ck, hck⟩ : ∃ z, (Lib.cut x [58]).2.2 = z := ⟨_, rfl⟩
 rw [hcl, hcr, hck] at HDF HCU
 rw [hcl] at hcl1
 rw [hcr] at hcl2
 have HWL := hide (fun W => mwords_any cl W (by omega))
 have HWR := hide (fun W => mwords_any cr W (by omega))
 have HCN := hide (fun W => rcont_any cr 58 W)
 have hLl : (wordsF cl []).length ≤ 1000000 := by have := (wordsF_le cl []).1; omega
 have hMl : (wordsF cr []).length ≤ 1000000 := by have := (wordsF_le cr []).1; omega
 obtain ⟨L, hL⟩ : ∃ z, wordsF cl [] = z := ⟨_, rfl⟩
 obtain ⟨M, hM⟩ : ∃ z, wordsF cr [] = z := ⟨_, rfl⟩
 obtain ⟨cn, hcn⟩ : ∃ z, decide ((58 : UInt8) ∈ cr) = z := ⟨_, rfl⟩
 rw [hL] at HDF HWL hLl
 rw [hM] at HDF HWR hMl
 rw [hcn] at HCN
 have HCQ := hide (show (58 : UInt8) ∈ cr ↔ cn = true by rw [← hcn, decide_eq_true_iff])
 have HLL := hide hLl
 have HML := hide hMl
 clear hcl hcr hck hcl1 hcl2 hxl hL hM hcn hLl hMl
 go_wp2_with fail
 refine HCU.out.mono ?_
 rintro e w3 ⟨rfl, hb3⟩
 have HI3 := hide (HI2.out.step hb3)
 have HB3 := hide (HB2.out.trans (hb3.mono HB2.out.size))
 clear hb3 HI2 HB2 HCU
 go_wp2_with fail
 refine (HWL.out w3).mono ?_
 rintro e w4 ⟨gl, rfl, hol, hb4⟩
 have HI4 := hide (HI3.out.step hb4)
 have HB4 := hide (HB3.out.trans (hb4.mono HB3.out.size))
 have HOL := hide (hol.base HB3.out.size)
 clear hol hb4 HI3 HB3 HWL
 go_wp2_with fail
 refine (HWR.out w4).mono ?_
 rintro e w5 ⟨gr, rfl, hor, hb5⟩
 have HI5 := hide (HI4.out.step hb5)
 have HB5 := hide (HB4.out.trans (hb5.mono HB4.out.size))
 have HOR := hide (hor.base HB4.out.size)
 have HOL := hide (HOL.out.below' hb5)
 clear hor hb5 HI4 HB4 HWR
 have hba := (Below.refl w5.heap.size w5).alloc (Nat.le_refl _) (.cells #[.slice (some ⟨gl, 0, none⟩) L.length L.length, .slice (some ⟨gr, 0, none⟩) M.length M.length, .slice none 0 0] 38)
 have hgx := heapNew w5 (.cells #[.slice (some ⟨gl, 0, none⟩) L.length L.length, .slice (some ⟨gr, 0, none⟩) M.length M.length, .slice none 0 0] 38)
 have hgz : (w5.alloc (.cells #[.slice (some ⟨gl, 0, none⟩) L.length L.length, .slice (some ⟨gr, 0, none⟩) M.length M.length, .slice none 0 0] 38)).heap.size = w5.heap.size + 1 := by simp
 have HI6 := hide (HI5.out.step hba)
 have HB6 := hide (HB5.out.trans (hba.mono HB5.out.size))
 have HOL6 := hide (HOL.out.below' hba)
 have HOR6 := hide (HOR.out.below' hba)
 have HGX := hide hgx
 have HGZ := hide hgz
 have HB56 := hide hba
 have HGLX0 := hide (And.intro (HOL.out.lt gl rfl).2 (HOR.out.lt gr rfl).2)
 clear hba hgx hgz HI5 HOL HOR
 have hsl : ∀ W, Below w5.heap.size w5 W → True := fun _ _ => trivial
 clear hsl
 obtain ⟨lz, hlz⟩ : ∃ z, (wordsF ([] : T) []).length = z := ⟨_, rfl⟩
 clear hlz lz
 cases ck with
 | false =>
   have HR := hide (HDF.out.trans (if_pos (.inl rfl)))
   go_wp2_with fail
   refine (mustE_any 2 (by decide) _).mono ?_
   rintro e w9 ⟨rfl, rfl⟩
   refine ⟨rfl, ?_⟩
   rw [HR.out]
   exact ⟨rfl, s, deep, RDP.after HB6.out (HI6.out.toP (Below.refl _ _))⟩
 | true =>
   cases cn with
   | true =>
     have HR := hide (HDF.out.trans (if_pos (.inr (.inl (HCQ.out.2 rfl)))))
     go_wp2_with fail
     refine (HCN.out _).mono ?_
     rintro e w6 ⟨rfl, rfl⟩
     go_wp2_with fail
     refine (mustE_any 2 (by decide) _).mono ?_
     rintro e w9 ⟨rfl, rfl⟩
     refine ⟨rfl, ?_⟩
     rw [HR.out]
     exact ⟨rfl, s, deep, RDP.after HB6.out (HI6.out.toP (Below.refl _ _))⟩
   | false =>
     have hcn : ¬ (58 : UInt8) ∈ cr := fun h => absurd (HCQ.out.1 h) (by simp)
     by_cases hL : L = []
     · have HR := hide (HDF.out.trans (if_pos (.inr (.inr (.inl hL)))))
       have hl0 : ((L.length : Int) == 0) = true := by rw [hL]; rfl
       clear hcn hL
       go_wp2_with fail
       refine (HCN.out _).mono ?_
       rintro e w6 ⟨rfl, rfl⟩
       go_wp2_with fail
       refine (mustE_any 2 (by decide) _).mono ?_
       rintro e w9 ⟨rfl, rfl⟩
       refine ⟨rfl, ?_⟩
       rw [HR.out]
       exact ⟨rfl, s, deep, RDP.after HB6.out (HI6.out.toP (Below.refl _ _))⟩
     have hl0 : ((L.length : Int) == 0) = false := by
       have := List.length_pos_iff.2 hL
       simp; omega
     obtain ⟨mx, hmx⟩ : ∃ z, mixF L = z := ⟨_, rfl⟩
     have HMM := hide (mixed_any (some ⟨gl, 0, none⟩) L.length L _ (by obtain ⟨A, c, e, _, hs, _⟩ := HOL6.out.slice; injection e with e1 e2 e3; rw [← e1] at hs; exact hs) HLL.out)
     rw [hmx] at HMM
     cases mx with
     | true =>
       have HR := hide (HDF.out.trans (if_pos (.inr (.inr (.inr hmx)))))
       clear hcn hL hmx
       go_wp2_with fail
       refine (HCN.out _).mono ?_
       rintro e w6 ⟨rfl, rfl⟩
       go_wp2_with fail
       refine HMM.out.mono ?_
       rintro e w7 ⟨rfl, hb7⟩
       have HI6 := hide (HI6.out.step hb7)
       have HB6 := hide (HB6.out.trans (hb7.mono HB6.out.size))
       clear hb7
       go_wp2_with fail
       refine (mustE_any 2 (by decide) _).mono ?_
       rintro e w9 ⟨rfl, rfl⟩
       refine ⟨rfl, ?_⟩
       rw [HR.out]
       exact ⟨rfl, s, deep, RDP.after HB6.out (HI6.out.toP (Below.refl _ _))⟩
     | false =>
       have HDG := hide (HDF.out.trans (if_neg (by rintro (h | h | h | h); exact absurd h (by simp); exact hcn h; exact hL h; rw [hmx] at h; exact absurd h (by simp))))
       clear hcn hL hmx
       go_wp2_with fail
       refine (HCN.out _).mono ?_
       rintro e w6 ⟨rfl, rfl⟩
       go_wp2_with fail
       refine HMM.out.mono ?_
       rintro e w7 ⟨rfl, hb7⟩
       obtain ⟨gx, hgx⟩ : ∃ z, w5.heap.size = z := ⟨_, rfl⟩
       have hgx7 := (hb7.block gx (by rw [HGZ.out]; omega)).trans (hgx ▸ HGX.out)
       have HI7 := hide (HI6.out.step hb7)
       have HB7 := hide (HB6.out.trans (hb7.mono HB6.out.size))
       have HOL7 := hide (HOL6.out.below' hb7)
       have HOR7 := hide (HOR6.out.below' hb7)
       have hgxl : gx < w7.heap.size := Nat.lt_of_lt_of_le (by rw [HGZ.out]; omega) hb7.size
       have HGLX := hide (show gl < gx ∧ gr < gx from hgx ▸ HGLX0.out)
       clear HGLX0
       have hgxw : w.heap.size ≤ gx := by rw [← hgx]; exact HB5.out.size
       rw [hgx]
       have hx0 := cellOf hgx7 (j := 0) rfl
       have hx1 := cellOf hgx7 (j := 1) rfl
       have hx2 := cellOf hgx7 (j := 2) rfl
       have HGXL := hide hgxl
       have HGXW := hide hgxw
       have HGX7 := hide hgx7
       clear hb7 HI6 HB6 HOL6 HOR6 HGX HGZ HB56 hgx hgxl hgxw hgx7 HMM HCN HB5
       obtain ⟨A9, c9, _, _, _, _, hc4, _, _, hfz⟩ := HI7.out.cells
       by_cases h3 : 300 ≤ s.rules.length
       · have HR := hide (HDG.out.trans (if_pos (.inl h3)))
         have hd3 : decide ((300 : Int) ≤ (s.rules.length : Int)) = true := decide_eq_true (by omega)
         clear h3
         go_wp2_with fail
         refine (mustE_any 3 (by decide) _).mono ?_
         rintro e w9 ⟨rfl, rfl⟩
         refine ⟨rfl, ?_⟩
         rw [HR.out]
         exact ⟨rfl, s, deep, RDP.after HB7.out (HI7.out.toP (Below.refl _ _))⟩
       have hd3 : decide ((300 : Int) ≤ (s.rules.length : Int)) = false := decide_eq_false (by omega)
       by_cases h4 : 200 < L.length ∨ 200 < M.length
       · have HR := hide (HDG.out.trans (if_pos (.inr h4)))
         clear h3
         go_wp2_with fail
         refine (mustE_any 3 (by decide) _).mono ?_
         rintro e w9 ⟨rfl, rfl⟩
         refine ⟨rfl, ?_⟩
         rw [HR.out]
         exact ⟨rfl, s, deep, RDP.after HB7.out (HI7.out.toP (Below.refl _ _))⟩
       have HR := hide (HDG.out.trans (if_neg (fun h => h.elim h3 h4)))
       have hxf : ∀ j, w7.frozen? ⟨gx, j, none⟩ = false := fun j => by simp [World.frozen?, HGX7.out]
       cases rk with
       | false =>
         obtain ⟨A4, c4, w8, e1, e2, e3, e4⟩ := HI.out.addRule (w := w7.drew) (HB7.out.drew) ⟨(some ⟨gl, 0, none⟩, L.length, L.map bs), (some ⟨gr, 0, none⟩, M.length, M.map bs), (none, 0, [])⟩ ⟨L, M, []⟩ rfl
           (rowN_own HOL7.out fun h => ⟨h, by simp [sv, Value.ownBlock]⟩) (rowN_own HOR7.out fun h => ⟨h, by simp [sv, Value.ownBlock]⟩) (OwnS.nil _ _) (by have := HBD.out.rl; omega) hc4
         have HEND := hide e4
         have hmle : max (L.length : Int) (M.length : Int) ≤ 200 := by omega
         clear e4 h3 h4
         dsimp only [sv, List.length_nil] at e1
         rw [List.length_map, List.length_map] at e1
         have hb9 := ((Below.refl w7.heap.size w7).alloc (Nat.le_refl _) (.cells #[.slice (some ⟨gl, 0, none⟩) L.length L.length, .slice (some ⟨gr, 0, none⟩) M.length M.length, .slice none 0 0] 38)).drew
         have hc9 := (hb9.cell (p := ⟨g, 4, none⟩) HI7.out.lt).trans hc4
         have f1 : (Builtin.append_ #[26, 26] 26 #[.slice A9 s.rules.length c9, .slice (some ⟨w7.heap.size, 0, none⟩) 1 1]).run Tryz.prog (w7.alloc (.cells #[.slice (some ⟨gl, 0, none⟩) L.length L.length, .slice (some ⟨gr, 0, none⟩) M.length M.length, .slice none 0 0] 38)).drew = .ok (.slice A4 (s.rules.length + 1) c4) w8 := e1
         clear hb9 e1
         go_wp2_with fail
         refine wp_region_held_drew (S := (fun _ => True)) (by kernel_rfl) trivial (fun hHeld => ?_)
         refine tq (i := 0) (v := ?v0) rfl rfl (by kernel_rfl) (fun _ _ _ h => h) ?y0 (by assumption) ?r0
         case y0 => intro w h; (try dsimp only at h); go_simp; try with_reducible rfl
         try simp only [sA, sB, sC]
         refine tq (i := 1) (v := ?v1) rfl rfl (by kernel_rfl) (fun _ _ _ h => h) ?y1 (by assumption) ?r1
         case y1 => intro w h; (try dsimp only at h); go_simp; try with_reducible rfl
         try simp only [sA, sB, sC]
         refine tq (i := 2) (v := ?v2) rfl rfl (by kernel_rfl) (fun _ _ _ h => h) ?y2 (by assumption) ?r2
         case y2 => intro w h; (try dsimp only at h); go_simp; try with_reducible rfl
         try simp only [sA, sB, sC]
         refine tq (i := 3) (v := ?v3) rfl rfl (by kernel_rfl) (fun _ _ _ h => h) ?y3 (by assumption) ?r3
         case y3 => intro w h; (try dsimp only at h); go_simp; try with_reducible rfl
         try simp only [sA, sB, sC]
         refine wpAnyH_ready (rs := [4, 5]) (by kernel_rfl) (by simp) ?_
         refine AllReadyH.cons (o := _) rfl (fun K hK => ?_) (AllReadyH.cons (o := _) rfl (fun K hK => ?_) AllReadyH.nil)
         · rw [if_pos (by kernel_rfl)]
           go_simp
           refine hK.out _ _ trivial (fun _ => ?_)
           clear hK K
           try simp only [Act.put, sA, sB, sC]
           refine rq (k := 5) rfl (by kernel_rfl) (by kernel_rfl) (fun K hK => ?_)
           go_simp
           refine hK.out _ _ trivial (fun _ => ?_)
           clear hK K
           try simp only [Act.put, sA, sB, sC]
           refine rq (k := 6) rfl (by kernel_rfl) (by kernel_rfl) (fun K hK => ?_)
           go_simp
           refine hK.out _ _ trivial (fun _ => ?_)
           clear hK K
           try simp only [Act.put, sA, sB, sC]
           refine wpAnyH_ready (rs := [7]) (by kernel_rfl) (by simp) ?_
           refine AllReadyH.cons (o := _) rfl (fun K hK => ?_) AllReadyH.nil
           refine step_app_run rfl _ _ rfl rfl rfl rfl f1 ?_
           refine hK.out _ _ trivial (fun _ => ?_)
           clear hK K
           try simp only [Act.put, sA, sB, sC]
           refine tq (i := 8) (v := ?vRA8) rfl rfl (by kernel_rfl) (fun _ _ _ h => h) ?yRA8 (by assumption) ?rRA8
           case yRA8 => intro w h; (try dsimp only at h); go_simp; try with_reducible rfl
           try simp only [sA, sB, sC]
           refine tq (i := 9) (v := ?vRA9) rfl rfl (by kernel_rfl) (fun _ _ _ h => h) ?yRA9 (by assumption) ?rRA9
           case yRA9 => intro w h; (try dsimp only at h); go_simp; try with_reducible rfl
           try simp only [sA, sB, sC]
           refine rq (k := 10) rfl (by kernel_rfl) (by kernel_rfl) (fun K hK => ?_)
           go_simp
           refine hK.out _ _ trivial (fun _ => ?_)
           clear hK K
           try simp only [Act.put, sA, sB, sC]
           refine wpAnyH_done (by kernel_rfl) ?_ _
           go_wp2
           go_end0
           rw [HR.out]
           exact ⟨rfl, HEND.out⟩
         · rw [if_pos (by kernel_rfl)]
           go_simp
           refine hK.out _ _ trivial (fun _ => ?_)
           clear hK K
           try simp only [Act.put, sA, sB, sC]
           refine wpAnyH_ready (rs := [4, 6]) (by kernel_rfl) (by simp) ?_
           refine AllReadyH.cons (o := _) rfl (fun K hK => ?_) (AllReadyH.cons (o := _) rfl (fun K hK => ?_) AllReadyH.nil)
           · rw [if_pos (by kernel_rfl)]
             go_simp
             refine hK.out _ _ trivial (fun _ => ?_)
             clear hK K
             try simp only [Act.put, sA, sB, sC]
             refine rq (k := 6) rfl (by kernel_rfl) (by kernel_rfl) (fun K hK => ?_)
             go_simp
             refine hK.out _ _ trivial (fun _ => ?_)
             clear hK K
             try simp only [Act.put, sA, sB, sC]
             refine wpAnyH_ready (rs := [7]) (by kernel_rfl) (by simp) ?_
             refine AllReadyH.cons (o := _) rfl (fun K hK => ?_) AllReadyH.nil
             refine step_app_run rfl _ _ rfl rfl rfl rfl f1 ?_
             refine hK.out _ _ trivial (fun _ => ?_)
             clear hK K
             try simp only [Act.put, sA, sB, sC]
             refine tq (i := 8) (v := ?vRB8) rfl rfl (by kernel_rfl) (fun _ _ _ h => h) ?yRB8 (by assumption) ?rRB8
             case yRB8 => intro w h; (try dsimp only at h); go_simp; try with_reducible rfl
             try simp only [sA, sB, sC]
             refine tq (i := 9) (v := ?vRB9) rfl rfl (by kernel_rfl) (fun _ _ _ h => h) ?yRB9 (by assumption) ?rRB9
             case yRB9 => intro w h; (try dsimp only at h); go_simp; try with_reducible rfl
             try simp only [sA, sB, sC]
             refine rq (k := 10) rfl (by kernel_rfl) (by kernel_rfl) (fun K hK => ?_)
             go_simp
             refine hK.out _ _ trivial (fun _ => ?_)
             clear hK K
             try simp only [Act.put, sA, sB, sC]
             refine wpAnyH_done (by kernel_rfl) ?_ _
             go_wp2
             go_end0
             rw [HR.out]
             exact ⟨rfl, HEND.out⟩
           · rw [if_pos (by kernel_rfl)]
             go_simp
             refine hK.out _ _ trivial (fun _ => ?_)
             clear hK K
             try simp only [Act.put, sA, sB, sC]
             refine rq (k := 4) rfl (by kernel_rfl) (by kernel_rfl) (fun K hK => ?_)
             go_simp
             refine hK.out _ _ trivial (fun _ => ?_)
             clear hK K
             try simp only [Act.put, sA, sB, sC]
             refine wpAnyH_ready (rs := [7]) (by kernel_rfl) (by simp) ?_
             refine AllReadyH.cons (o := _) rfl (fun K hK => ?_) AllReadyH.nil
             refine step_app_run rfl _ _ rfl rfl rfl rfl f1 ?_
             refine hK.out _ _ trivial (fun _ => ?_)
             clear hK K
             try simp only [Act.put, sA, sB, sC]
             refine tq (i := 8) (v := ?vRC8) rfl rfl (by kernel_rfl) (fun _ _ _ h => h) ?yRC8 (by assumption) ?rRC8
             case yRC8 => intro w h; (try dsimp only at h); go_simp; try with_reducible rfl
             try simp only [sA, sB, sC]
             refine tq (i := 9) (v := ?vRC9) rfl rfl (by kernel_rfl) (fun _ _ _ h => h) ?yRC9 (by assumption) ?rRC9
             case yRC9 => intro w h; (try dsimp only at h); go_simp; try with_reducible rfl
             try simp only [sA, sB, sC]
             refine rq (k := 10) rfl (by kernel_rfl) (by kernel_rfl) (fun K hK => ?_)
             go_simp
             refine hK.out _ _ trivial (fun _ => ?_)
             clear hK K
             try simp only [Act.put, sA, sB, sC]
             refine wpAnyH_done (by kernel_rfl) ?_ _
             go_wp2
             go_end0
             rw [HR.out]
             exact ⟨rfl, HEND.out⟩
       | true =>
         have hmle : max (L.length : Int) (M.length : Int) ≤ 200 := by omega
         have hb8 := (Below.refl w7.heap.size w7).alloc (Nat.le_refl _) (.cells #[.string (bs rc)] 9)
         have hxr := hb8.block gx HGXL.out
         have hn8 : OwnS (w7.alloc (.cells #[.string (bs rc)] 9)) w7.heap.size (.slice (some ⟨w7.heap.size, 0, none⟩) 1 1) [bs rc] := OwnS.newL w7 [bs rc] (Nat.le_refl _) (by simp)
         have hol8 := HOL7.out.below' hb8
         have hor8 := HOR7.out.below' hb8
         have hc8 := (hb8.cell (p := ⟨g, 4, none⟩) HI7.out.lt).trans hc4
         have hB8 := HB7.out.trans (hb8.mono HB7.out.size)
         have HW8 := hide (Nat.le_trans HGXW.out (Nat.le_of_lt HGXL.out))
         obtain ⟨n8, hn8z⟩ : ∃ z, w7.heap.size = z := ⟨_, rfl⟩
         obtain ⟨w8, hw8⟩ : ∃ z, w7.alloc (.cells #[.string (bs rc)] 9) = z := ⟨_, rfl⟩
         rw [hn8z, hw8] at hn8
         rw [hw8] at hxr hol8 hor8 hc8 hB8
         rw [hn8z] at HW8
         have hx8 := hxr.trans HGX7.out
         have hgne : g ≠ gx := fun e => by have := HGXW.out; have := HI.out.lt; omega
         have hk9 : Kp w8 (w8.setCell ⟨gx, 2, none⟩ (.slice (some ⟨n8, 0, none⟩) 1 1)) (fun k => k = gx) := objKp
         have hx9 := rsetA (j := 2) hx8 (.slice (some ⟨n8, 0, none⟩) 1 1)
         have hB9 := hB8.setCell (p := ⟨gx, 2, none⟩) HGXW.out (.slice (some ⟨n8, 0, none⟩) 1 1)
         have hn8g : gx < n8 := by have := HGXL.out; omega
         have hne8 : n8 ≠ gx := by omega
         have hz8 : w7.heap.size < w8.heap.size := by rw [← hw8]; simp
         obtain ⟨w9, hw9⟩ : ∃ z, w8.setCell ⟨gx, 2, none⟩ (.slice (some ⟨n8, 0, none⟩) 1 1) = z := ⟨_, rfl⟩
         rw [hw9] at hk9 hx9 hB9
         have hol9 : OwnS w9 _ _ _ := ownsRow_of hol8 fun k e => hk9.block k (hol8.lt k e).2 (fun q => by obtain rfl := Option.some.inj e; have q' : gl = gx := q; have := HGLX.out.1; omega)
         have hor9 : OwnS w9 _ _ _ := ownsRow_of hor8 fun k e => hk9.block k (hor8.lt k e).2 (fun q => by obtain rfl := Option.some.inj e; have q' : gr = gx := q; have := HGLX.out.2; omega)
         have hn9 : OwnS w9 _ _ _ := ownsRow_of hn8 fun k e => hk9.block k (hn8.lt k e).2 (fun q => by obtain rfl := Option.some.inj e; exact hne8 q)
         have hgl9 : g < w8.heap.size := by have := HI7.out.lt; omega
         have hc9 : w9.cell? ⟨g, 4, none⟩ = _ := (World.cell?_of_block (a := ⟨g, 4, none⟩) (hk9.block g hgl9 hgne)).trans hc8
         obtain ⟨A4, c4, w5', e1, e2, e3, e4⟩ := HI.out.addRule (w := w9.drew) (hB9.drew) ⟨(some ⟨gl, 0, none⟩, L.length, L.map bs), (some ⟨gr, 0, none⟩, M.length, M.map bs), (some ⟨n8, 0, none⟩, 1, [bs rc])⟩ ⟨L, M, [rc]⟩ rfl
           (rowN_own hol9 fun h => ⟨h, by simp [sv, Value.ownBlock]; have := HGLX.out.1; omega⟩) (rowN_own hor9 fun h => ⟨h, by simp [sv, Value.ownBlock]; have := HGLX.out.2; omega⟩) (hn9.base HW8.out) (by have := HBD.out.rl; omega) hc9
         have HEND := hide e4
         clear e4 h3 h4
         dsimp only [sv, List.length_cons, List.length_nil] at e1
         rw [List.length_map, List.length_map] at e1
         have hy0 := cellOf hx9 (j := 0) rfl
         have hy1 := cellOf hx9 (j := 1) rfl
         have hy2 := cellOf hx9 (j := 2) rfl
         have hgl9' : g < w9.heap.size := Nat.lt_of_lt_of_le hgl9 hk9.size
         have hx82 := cellOf hx8 (j := 2) rfl
         have hxf8 : w8.frozen? ⟨gx, 2, none⟩ = false := by simp [World.frozen?, hx8]
         have hba9 := ((Below.refl w9.heap.size w9).alloc (Nat.le_refl _) (.cells #[.slice (some ⟨gl, 0, none⟩) L.length L.length, .slice (some ⟨gr, 0, none⟩) M.length M.length, .slice (some ⟨n8, 0, none⟩) 1 1] 38)).drew
         have hcz := (hba9.cell (p := ⟨g, 4, none⟩) hgl9').trans hc9
         have f1 : (Builtin.append_ #[26, 26] 26 #[.slice A9 s.rules.length c9, .slice (some ⟨w9.heap.size, 0, none⟩) 1 1]).run Tryz.prog (w9.alloc (.cells #[.slice (some ⟨gl, 0, none⟩) L.length L.length, .slice (some ⟨gr, 0, none⟩) M.length M.length, .slice (some ⟨n8, 0, none⟩) 1 1] 38)).drew = .ok (.slice A4 (s.rules.length + 1) c4) w5' := e1
         clear hB8 hol8 hor8 hn8 hxr hx8 hk9 hB9 hol9 hor9 hn9 hx9 hz8 hba9 e1 hx2
         go_wp2_with fail
         refine wp_region_held_drew (S := (fun _ => True)) (by kernel_rfl) trivial (fun hHeld => ?_)
         refine tq (i := 0) (v := ?vZ0) rfl rfl (by kernel_rfl) (fun _ _ _ h => h) ?yZ0 (by assumption) ?rZ0
         case yZ0 => intro w h; (try dsimp only at h); go_simp; try with_reducible rfl
         try simp only [sA, sB, sC]
         refine tq (i := 1) (v := ?vZ1) rfl rfl (by kernel_rfl) (fun _ _ _ h => h) ?yZ1 (by assumption) ?rZ1
         case yZ1 => intro w h; (try dsimp only at h); go_simp; try with_reducible rfl
         try simp only [sA, sB, sC]
         refine tq (i := 2) (v := ?vZ2) rfl rfl (by kernel_rfl) (fun _ _ _ h => h) ?yZ2 (by assumption) ?rZ2
         case yZ2 => intro w h; (try dsimp only at h); go_simp; try with_reducible rfl
         try simp only [sA, sB, sC]
         refine tq (i := 3) (v := ?vZ3) rfl rfl (by kernel_rfl) (fun _ _ _ h => h) ?yZ3 (by assumption) ?rZ3
         case yZ3 => intro w h; (try dsimp only at h); go_simp; try with_reducible rfl
         try simp only [sA, sB, sC]
         refine wpAnyH_ready (rs := [4, 5]) (by kernel_rfl) (by simp) ?_
         refine AllReadyH.cons (o := _) rfl (fun K hK => ?_) (AllReadyH.cons (o := _) rfl (fun K hK => ?_) AllReadyH.nil)
         · rw [if_pos (by kernel_rfl)]
           go_simp
           refine hK.out _ _ trivial (fun _ => ?_)
           clear hK K
           try simp only [Act.put, sA, sB, sC]
           refine rq (k := 5) rfl (by kernel_rfl) (by kernel_rfl) (fun K hK => ?_)
           go_simp
           refine hK.out _ _ trivial (fun _ => ?_)
           clear hK K
           try simp only [Act.put, sA, sB, sC]
           refine rq (k := 6) rfl (by kernel_rfl) (by kernel_rfl) (fun K hK => ?_)
           go_simp
           refine hK.out _ _ trivial (fun _ => ?_)
           clear hK K
           try simp only [Act.put, sA, sB, sC]
           refine wpAnyH_ready (rs := [7]) (by kernel_rfl) (by simp) ?_
           refine AllReadyH.cons (o := _) rfl (fun K hK => ?_) AllReadyH.nil
           refine step_app_run rfl _ _ rfl rfl rfl rfl f1 ?_
           refine hK.out _ _ trivial (fun _ => ?_)
           clear hK K
           try simp only [Act.put, sA, sB, sC]
           refine tq (i := 8) (v := ?vZRA8) rfl rfl (by kernel_rfl) (fun _ _ _ h => h) ?yZRA8 (by assumption) ?rZRA8
           case yZRA8 => intro w h; (try dsimp only at h); go_simp; try with_reducible rfl
           try simp only [sA, sB, sC]
           refine tq (i := 9) (v := ?vZRA9) rfl rfl (by kernel_rfl) (fun _ _ _ h => h) ?yZRA9 (by assumption) ?rZRA9
           case yZRA9 => intro w h; (try dsimp only at h); go_simp; try with_reducible rfl
           try simp only [sA, sB, sC]
           refine rq (k := 10) rfl (by kernel_rfl) (by kernel_rfl) (fun K hK => ?_)
           go_simp
           refine hK.out _ _ trivial (fun _ => ?_)
           clear hK K
           try simp only [Act.put, sA, sB, sC]
           refine wpAnyH_done (by kernel_rfl) ?_ _
           go_wp2
           go_end0
           rw [HR.out]
           exact ⟨rfl, HEND.out⟩
         · rw [if_pos (by kernel_rfl)]
           go_simp
           refine hK.out _ _ trivial (fun _ => ?_)
           clear hK K
           try simp only [Act.put, sA, sB, sC]
           refine wpAnyH_ready (rs := [4, 6]) (by kernel_rfl) (by simp) ?_
           refine AllReadyH.cons (o := _) rfl (fun K hK => ?_) (AllReadyH.cons (o := _) rfl (fun K hK => ?_) AllReadyH.nil)
           · rw [if_pos (by kernel_rfl)]
             go_simp
             refine hK.out _ _ trivial (fun _ => ?_)
             clear hK K
             try simp only [Act.put, sA, sB, sC]
             refine rq (k := 6) rfl (by kernel_rfl) (by kernel_rfl) (fun K hK => ?_)
             go_simp
             refine hK.out _ _ trivial (fun _ => ?_)
             clear hK K
             try simp only [Act.put, sA, sB, sC]
             refine wpAnyH_ready (rs := [7]) (by kernel_rfl) (by simp) ?_
             refine AllReadyH.cons (o := _) rfl (fun K hK => ?_) AllReadyH.nil
             refine step_app_run rfl _ _ rfl rfl rfl rfl f1 ?_
             refine hK.out _ _ trivial (fun _ => ?_)
             clear hK K
             try simp only [Act.put, sA, sB, sC]
             refine tq (i := 8) (v := ?vZRB8) rfl rfl (by kernel_rfl) (fun _ _ _ h => h) ?yZRB8 (by assumption) ?rZRB8
             case yZRB8 => intro w h; (try dsimp only at h); go_simp; try with_reducible rfl
             try simp only [sA, sB, sC]
             refine tq (i := 9) (v := ?vZRB9) rfl rfl (by kernel_rfl) (fun _ _ _ h => h) ?yZRB9 (by assumption) ?rZRB9
             case yZRB9 => intro w h; (try dsimp only at h); go_simp; try with_reducible rfl
             try simp only [sA, sB, sC]
             refine rq (k := 10) rfl (by kernel_rfl) (by kernel_rfl) (fun K hK => ?_)
             go_simp
             refine hK.out _ _ trivial (fun _ => ?_)
             clear hK K
             try simp only [Act.put, sA, sB, sC]
             refine wpAnyH_done (by kernel_rfl) ?_ _
             go_wp2
             go_end0
             rw [HR.out]
             exact ⟨rfl, HEND.out⟩
           · rw [if_pos (by kernel_rfl)]
             go_simp
             refine hK.out _ _ trivial (fun _ => ?_)
             clear hK K
             try simp only [Act.put, sA, sB, sC]
             refine rq (k := 4) rfl (by kernel_rfl) (by kernel_rfl) (fun K hK => ?_)
             go_simp
             refine hK.out _ _ trivial (fun _ => ?_)
             clear hK K
             try simp only [Act.put, sA, sB, sC]
             refine wpAnyH_ready (rs := [7]) (by kernel_rfl) (by simp) ?_
             refine AllReadyH.cons (o := _) rfl (fun K hK => ?_) AllReadyH.nil
             refine step_app_run rfl _ _ rfl rfl rfl rfl f1 ?_
             refine hK.out _ _ trivial (fun _ => ?_)
             clear hK K
             try simp only [Act.put, sA, sB, sC]
             refine tq (i := 8) (v := ?vZRC8) rfl rfl (by kernel_rfl) (fun _ _ _ h => h) ?yZRC8 (by assumption) ?rZRC8
             case yZRC8 => intro w h; (try dsimp only at h); go_simp; try with_reducible rfl
             try simp only [sA, sB, sC]
             refine tq (i := 9) (v := ?vZRC9) rfl rfl (by kernel_rfl) (fun _ _ _ h => h) ?yZRC9 (by assumption) ?rZRC9
             case yZRC9 => intro w h; (try dsimp only at h); go_simp; try with_reducible rfl
             try simp only [sA, sB, sC]
             refine rq (k := 10) rfl (by kernel_rfl) (by kernel_rfl) (fun K hK => ?_)
             go_simp
             refine hK.out _ _ trivial (fun _ => ?_)
             clear hK K
             try simp only [Act.put, sA, sB, sC]
             refine wpAnyH_done (by kernel_rfl) ?_ _
             go_wp2
             go_end0
             rw [HR.out]
             exact ⟨rfl, HEND.out⟩
end
end Go.Proofs.YtpheeheikigenaaGreatDoor
namespace Go.Proofs.YtpheeheikigenaaGreatDoor
namespace Rd
open Go.RowKit Ln Pth Vf Mc
def wt : List T → Nat
 | [] => 0
 | l :: r => l.length + 1 + wt r
theorem wt_spl (c : UInt8) : ∀ l : T, wt (spl c l) = l.length + 1 ∧ spl c l ≠ []
 | [] => by simp [spl, wt]
 | b :: l => by
   obtain ⟨ih, hn⟩ := wt_spl c l
   rw [spl]
   split
   · simp only [wt, List.length_nil, List.length_cons, ih]
     exact ⟨by omega, by simp⟩
   · split
     · rename_i hs
       exact absurd hs hn
     · rename_i h t hs
       rw [hs] at ih
       simp only [wt, List.length_cons] at ih ⊢
       exact ⟨by omega, by simp⟩
theorem wt_drop : ∀ L : List T, wt L.dropLast ≤ wt L
 | [] => Nat.le_refl _
 | [a] => by simp [wt]
 | a :: b :: L => by
   have := wt_drop (b :: L)
   rw [List.dropLast_cons_cons]
   simp only [wt] at this ⊢
   omega
theorem trimR_len (l : T) : (trimR l).length ≤ l.length := by
 unfold trimR
 rw [List.length_reverse]
 refine Nat.le_trans (List.dropWhile_sublist _).length_le ?_
 simp
theorem comm_len : ∀ l : T, (comm l).length ≤ l.length
 | [] => Nat.le_refl _
 | [c] => by rw [comm]; split <;> simp
 | c :: d :: l => by
   have h1 := comm_len l
   have h2 := comm_len (d :: l)
   rw [comm]
   split
   · simp; omega
   · split
     · simp
     · simp at h2 ⊢; omega
theorem plainF_len (l : T) : (plainF l).length ≤ l.length := by
 unfold plainF
 have h1 := trimL_len (trimR (comm l))
 have h2 := trimR_len (comm l)
 have h3 := comm_len l
 omega
theorem front_len {s : T} (h : s ≠ []) : (front s).length ≤ s.length := by
 unfold front
 have := trimR_len s.dropLast
 have := List.length_pos_iff.2 h
 rw [List.length_append, List.length_singleton]
 rw [List.length_dropLast] at *
 omega
theorem othF_wt : ∀ (rest : List T) (s : T), (othF rest s).1.length ≤ s.length + wt rest ∧ wt (othF rest s).2 ≤ wt rest
 | [], s => by
   rw [othF]
   refine ⟨?_, Nat.le_refl _⟩
   split
   · rename_i h
     have := front_len (s := s) (by rintro rfl; exact absurd h (by decide))
     dsimp only; omega
   · dsimp only; omega
 | n :: rest, s => by
   rw [othF]
   split
   · rename_i h
     have h1 := front_len (s := s) (by rintro rfl; exact absurd h (by decide))
     have h2 := othF_wt rest (front s ++ trimL n)
     have h3 := trimL_len n
     rw [List.length_append] at h2
     simp only [wt]
     exact ⟨by omega, by omega⟩
   · exact ⟨by dsimp only; omega, Nat.le_refl _⟩
theorem recF_wt : ∀ (rest : List T) (s acc : T), (recF rest s acc).1.length ≤ acc.length + wt rest ∧ wt (recF rest s acc).2 ≤ wt rest
 | [], s, acc => by rw [recF]; exact ⟨by dsimp only; omega, Nat.le_refl _⟩
 | n :: rest, s, acc => by
   rw [recF]
   split
   · have h2 := recF_wt rest (dropTab n) (acc ++ 10 :: dropTab n)
     have h3 : (dropTab n).length ≤ n.length := by unfold dropTab; split <;> simp
     rw [List.length_append, List.length_cons] at h2
     simp only [wt]
     exact ⟨by omega, by omega⟩
   · exact ⟨by dsimp only; omega, Nat.le_refl _⟩
theorem linesF_sz : ∀ (f : Nat) (L : List T) (b : Nat), wt L ≤ b + 1 → ∀ x ∈ linesF f L, x.2.length ≤ b
 | 0, L, b, _, x, hx => by cases L <;> simp [linesF] at hx
 | f + 1, [], b, _, x, hx => by simp [linesF] at hx
 | f + 1, l :: rest, b, h, x, hx => by
   rw [linesF] at hx
   simp only [wt] at h
   split at hx
   · rcases List.mem_cons.1 hx with rfl | hx
     · have := (recF_wt rest l.tail l.tail).1
       dsimp only
       rw [List.length_tail] at this
       omega
     · exact linesF_sz f _ b (Nat.le_trans (recF_wt rest l.tail l.tail).2 (by omega)) x hx
   · rcases List.mem_append.1 hx with hx | hx
     · split at hx
       · simp at hx
       · rw [List.mem_singleton] at hx
         rw [hx]
         have := (othF_wt rest l).1
         have := plainF_len (othF rest l).1
         dsimp only
         omega
     · exact linesF_sz f _ b (Nat.le_trans (othF_wt rest l).2 (by omega)) x hx
theorem linesF_cnt : ∀ (f : Nat) (L : List T), (linesF f L).length ≤ L.length
 | 0, L => by cases L <;> simp [linesF]
 | f + 1, [] => by simp [linesF]
 | f + 1, l :: rest => by
   rw [linesF]
   split
   · have h1 := linesF_cnt f (recF rest l.tail l.tail).2
     have h2 := recF_len rest l.tail l.tail
     simp only [List.length_cons]
     omega
   · have h1 := linesF_cnt f (othF rest l).2
     have h2 := othF_len rest l
     rw [List.length_append]
     simp only [List.length_cons]
     split <;> simp <;> omega
theorem wt_cnt : ∀ L : List T, L.length ≤ wt L
 | [] => Nat.le_refl _
 | l :: r => by have := wt_cnt r; simp only [wt, List.length_cons]; omega
theorem readF_sz (t : T) : (readF t).1.length ≤ 16385 ∧ ∀ x ∈ (readF t).1, x.2.length ≤ 16384 := by
 unfold readF
 split
 · simp
 · split
   · simp
   · rename_i h1 h2
     have hw : wt (cutL t) ≤ 16384 + 1 := by
       unfold cutL
       have := (wt_spl 10 t).1
       have := wt_drop (spl 10 t)
       split <;> omega
     exact ⟨Nat.le_trans (linesF_cnt _ _) (Nat.le_trans (wt_cnt _) hw), linesF_sz _ _ _ hw⟩
end Rd
end Go.Proofs.YtpheeheikigenaaGreatDoor
namespace Go.Proofs.YtpheeheikigenaaGreatDoor
section
open Go.RowKit Go.Deep Go.Maps Ln Pth Vf Rd Mc
theorem absF_lenC (cwd p : T) : (absF cwd p).1.length ≤ 200 := by
 rcases absF_cases cwd p with ⟨l, g, e, _⟩ | ⟨e, _⟩
 · rw [e]; exact g.len
 · rw [e]; simp
def TextC (w0 : World) (C : Rk) (g : Nat) (fs : St) (d : Nat) : Prop := ∀ (s : Sx) (S : Nat → Prop) (w : World) (k : Nat) (t : T), RD w0 C g s ((10 : Int) - (d : Nat)) S w → Bd s k → Qs s k + 16385 ≤ 2000000 → t.length ≤ 9000000000000000000 →
 Calls Tryz.prog 37 #[.pointer (some ⟨g, 0, none⟩), .string (bs t)] w (XE w0 C g ((10 : Int) - (d : Nat)) S w (textR fs C.cwd d s t))
structure RF (w0 : World) (C : Rk) (fs : St) : Prop where
 mx : MX w0
 hs : Hs (VS C.gf fs) w0
 wf : WfS fs
 cwd : C.cwd.length ≤ 6600000
theorem Qs_le {s : Sx} {k : Nat} (h : Qs s k ≤ 2000000) : k ≤ 2000000 := by unfold Qs at h; omega
theorem keeps_text (fs : St) (cwd : T) : ∀ d : Nat, Keeps (textR fs cwd d) := by
 intro d
 induction d with
 | zero =>
   intro s k t s' hb e
   rw [textR_eq] at e
   unfold bodyR at e
   split at e
   · cases e
   · have hl := readF_sz t
     obtain ⟨k', b, q, f⟩ := fold_bd fs cwd (rec := none) (fun f h => by cases h) _ _ _ _ hl.2 hb e
     exact ⟨k', b, by have := hl.1; omega, f⟩
 | succ d ih =>
   intro s k t s' hb e
   rw [textR_eq] at e
   unfold bodyR at e
   split at e
   · cases e
   · have hl := readF_sz t
     obtain ⟨k', b, q, f⟩ := fold_bd fs cwd (rec := some (textR fs cwd d)) (fun f h => by cases h; exact ih) _ _ _ _ hl.2 hb e
     exact ⟨k', b, by have := hl.1; omega, f⟩
theorem word_at {w w' : World} {base gl : Nat} {L : List T} {S : Nat → Prop} (h : OwnS w base (.slice (some ⟨gl, 0, none⟩) L.length L.length) (L.map bs)) (hk : Kp w w' S) (hS : ∀ q, S q → q < base) {i : Nat} {x : T} (hx : L[i]? = some x) : w'.cell? ⟨gl, i, none⟩ = some (.string (bs x)) := by
 have hl := h.lt gl rfl
 have h' : OwnS w' base _ _ := ownsRow_of h fun k e => hk.block k (h.lt k e).2 (fun q => by have := hS k q; have := (h.lt k e).1; omega)
 obtain ⟨A, c, e, _, hs, _⟩ := h'.slice
 injection e with e1 e2 e3
 rw [← e1] at hs
 obtain ⟨g', o', e', _, hc⟩ := hs i (bs x) (by rw [List.getElem?_map, hx]; rfl)
 injection e' with e'
 injection e' with e4 e5
 subst e4 e5
 simpa using hc
theorem include_any (w0 : World) (C : Rk) (g : Nat) (fs : St) (d : Nat) (hf : RF w0 C fs) (HT : ∀ d', d = d' + 1 → TextC w0 C g fs d') (hd : d ≤ 10) (s : Sx) (S : Nat → Prop) (w : World) (h : RD w0 C g s ((10 : Int) - (d : Nat)) S w) (k : Nat) (hbd : Bd s k) (hq : Qs s k ≤ 2000000) (t : T) (ht : t.length ≤ 16384) :
   Calls Tryz.prog 89 #[.pointer (some ⟨g, 0, none⟩), .string (bs t)] w (XE w0 C g ((10 : Int) - (d : Nat)) S w (match expS s.mac t with | .error e => .error e | .ok x => inclF fs C.cwd (recR fs C.cwd d) (wordsF x []) s)) := by
 have hkk := Qs_le hq
 have HEX := hide (expanded_any w0 C g s _ S w h hf.mx (Nat.le_trans hbd.cnt (by decide)) (fun x hx => by have := hbd.mac x hx; omega) t (by omega))
 obtain ⟨ex, hex⟩ : ∃ z, expS s.mac t = z := ⟨_, rfl⟩
 have HXL := hide (fun t (h : ex = .ok t) => expS_len (hex.trans h))
 rw [hex] at HEX ⊢
 obtain ⟨R, hR⟩ : ∃ z, (match ex with | .error e => (.error e : Except Nat Sx) | .ok x => inclF fs C.cwd (recR fs C.cwd d) (wordsF x []) s) = z := ⟨_, rfl⟩
 rw [hR]
 have HR := hide hR
 clear hR
 obtain ⟨dp, hdp⟩ : ∃ z, (10 : Int) - (d : Nat) = z := ⟨_, rfl⟩
 have HDP := hide hdp
 have HT := hide HT
 rw [hdp] at h ⊢
 have HI := hide h
 have HF := hide hf
 have HBQ := hide (And.intro hbd hq)
 clear h hf hbd hq hex hdp hkk
 go_enter Tryz.func89, Tryz.ntmps89
 go_wp2_with fail
 refine HEX.out.mono ?_
 clear HEX
 rcases ex with c | x
 · rintro e w5 ⟨⟨hc0, rfl⟩, hb5⟩
   refine ⟨rfl, ?_⟩
   rw [← show Except.error c = R from HR.out]
   exact ⟨rfl, s, dp, HI.out.toP hb5⟩
 rintro e w1 ⟨rfl, hb1⟩
 have hxl := HXL.out x rfl
 have HI1 := hide (HI.out.step hb1)
 have HB1 := hide hb1
 have HWL := hide (mwords_any x w1 (by omega))
 have hLl : (wordsF x []).length ≤ 16385 := by have := (wordsF_le x []).1; omega
 have hLz : ∀ y ∈ wordsF x [], y.length ≤ 16384 := fun y hy => by have := (wordsF_le x []).2 y hy; simp at this; omega
 obtain ⟨L, hL⟩ : ∃ z, wordsF x [] = z := ⟨_, rfl⟩
 rw [hL] at hLl hLz HWL
 have HLZ := hide hLz
 have HR := hide (show inclF fs C.cwd (recR fs C.cwd d) L s = R by rw [← hL]; exact HR.out)
 clear hL hLz hb1 HXL hxl
 go_wp2_with fail
 refine HWL.out.mono ?_
 rintro e w2 ⟨gl, rfl, hol, hb2⟩
 have HI2 := hide (HI1.out.step hb2)
 have HB2 := hide (HB1.out.trans (hb2.mono HB1.out.size))
 have HOL := hide (hol.base HB1.out.size)
 obtain ⟨n, hn⟩ : ∃ z, L.length = z := ⟨_, rfl⟩
 have HN := hide hn
 rw [hn] at hLl
 rw [hn]
 have HSL := hide (fun q (hq : S q) => (HI.out.sw q hq).2)
 clear hol hb2 HI1 HB1 HWL hn
 go_wp2
 go_loopw [5, 6, 7, 8, 14] (fun _ _ _ _ v14 wr => ∃ (i k' : Nat) (si : Sx) (Si : Nat → Prop), v14 = .int .i64 i ∧ i ≤ n ∧ Hid (RD w0 C g si dp Si wr) ∧ Hid (Kp w2 wr S ∧ ∀ q, Si q → S q ∨ w2.heap.size ≤ q) ∧ Hid (Bd si k' ∧ Qs si k' ≤ 2000000) ∧ Hid (inclF fs C.cwd (recR fs C.cwd d) (L.drop i) si = R)) (fun _ _ _ _ v14 _ => n - (intOf v14).toNat)
 case atStart => exact ⟨0, k, s, S, rfl, by omega, HI2, hide ⟨Kp.refl _ _, fun _ e => .inl e⟩, HBQ, hide (by simpa using HR.out)⟩
 case round =>
   obtain ⟨i, k', si, Si, rfl, hi, HIi, HKi, HBi, HRi⟩ := hrel
   by_cases hlt : i < n
   case neg =>
     obtain rfl : i = n := by omega
     have HE := hide (show R = .ok si by
       rw [← HRi.out, List.drop_of_length_le (by have := HN.out; omega)]
       rfl)
     go_wp2
     go_end0
     rw [HE.out]
     exact ⟨rfl, RDP.after HB2.out ⟨Si, HIi.out, HKi.out.1, HKi.out.2⟩⟩
   have b1 : (i : Int) < (n : Int) := by omega
   have hil : i < L.length := by have := HN.out; omega
   obtain ⟨y, hy⟩ : ∃ y, L[i]? = some y := ⟨_, List.getElem?_eq_getElem hil⟩
   have hyl := HLZ.out y (List.mem_of_getElem? hy)
   have hcy := word_at HOL.out HKi.out.1 HSL.out hy
   have hdr : L.drop i = y :: L.drop (i + 1) := by
     rw [List.drop_eq_getElem_cons hil]
     congr 1
     rw [List.getElem?_eq_getElem hil] at hy
     exact Option.some.inj hy
   have HRi := hide (show _ = R from (inclF_cons fs C.cwd (recR fs C.cwd d) y (L.drop (i + 1)) si).symm.trans (hdr ▸ HRi.out))
   have HYL := hide hyl
   have HAB := hide (fun W (hb : Below wr.heap.size wr W) => abs_any C.cwd y W ((HF.out.mx.below HIi.out.below).below hb) HF.out.cwd (by omega))
   have hal := absF_lenC C.cwd y
   obtain ⟨ap, hap⟩ : ∃ z, (absF C.cwd y).1 = z := ⟨_, rfl⟩
   obtain ⟨ae, hae⟩ : ∃ z, (absF C.cwd y).2 = z := ⟨_, rfl⟩
   unfold AbsPost at HAB
   rw [hap, hae] at HRi HAB
   rw [hap] at hal
   clear hdr hy hil hyl hap hae
   obtain ⟨A4, c4, q0, q1, _, _, _, q5, q6, qf⟩ := HIi.out.cells
   go_wp2_with fail
   refine (HAB.out wr (Below.refl _ _)).mono ?_
   rintro e w3 ⟨rfl, hb3⟩
   have HI3 := hide (HIi.out.step hb3)
   have HK3 := hide (And.intro ((HKi.out.1).trans (Kp.of_below hb3 _)) HKi.out.2)
   have hb23 := hb3
   clear hb3 hcy HAB q0 q1 q5 q6 qf HIi HKi hb23
   by_cases hae0 : ae = 0
   case neg =>
     have HE := hide (show R = .error ae from HRi.out.symm.trans (if_pos hae0))
     go_wp2_with fail
     refine (mustE_any ae hae0 _).mono ?_
     rintro e w4 ⟨rfl, rfl⟩
     refine ⟨rfl, ?_⟩
     rw [HE.out]
     exact ⟨rfl, si, dp, RDP.after HB2.out ⟨Si, HI3.out, HK3.out.1, HK3.out.2⟩⟩
   have HRj := hide (show _ = R from (if_neg (fun h => h hae0)).symm.trans HRi.out)
   clear HRi
   subst hae0
   go_wp2_with fail
   refine (must0_any _).mono ?_
   rintro e w4 ⟨rfl, rfl⟩
   have HRD := hide (vread_any C.gf fs HF.out.wf ap w3 (HF.out.hs.below (VS.fr C.gf fs) HI3.out.below) (HF.out.mx.below HI3.out.below) (by omega))
   obtain ⟨A5, c5, q0, q1, _, _, _, q5, q6, qf⟩ := HI3.out.cells
   obtain ⟨tx, htx⟩ : ∃ z, (readS fs ap).1 = z := ⟨_, rfl⟩
   obtain ⟨te, hte⟩ : ∃ z, (readS fs ap).2 = z := ⟨_, rfl⟩
   have htl : tx.length ≤ 9000000000000000000 := by
     rw [← htx]
     unfold readS
     have := dataM_len HF.out.wf (foundS fs ap).1
     have := HF.out.wf.bytes
     have := HF.out.wf.b20
     split
     · simp
     · split
       · simp
       · dsimp only; omega
   unfold VReadPost at HRD
   rw [htx, hte] at HRj HRD
   clear htx hte hal
   go_wp2_with fail
   refine HRD.out.mono ?_
   rintro e w4 ⟨⟨v, rfl, hov⟩, hb4⟩
   have HI4 := hide (HI3.out.step hb4)
   have HK4 := hide (And.intro ((HK3.out.1).trans (Kp.of_below hb4 _)) HK3.out.2)
   have hov4 := hov.1
   have HG3 := hide HI3.out.lt
   have HOV := hide hov
   clear hb4 HRD q0 q1 q5 q6 qf HI3 HK3 hov hov4
   by_cases hte0 : te = 0
   case neg =>
     have HE := hide (show R = .error te from HRj.out.symm.trans (if_pos hte0))
     go_wp2_with fail
     refine (mustE_any te hte0 _).mono ?_
     rintro e w5 ⟨rfl, rfl⟩
     refine ⟨rfl, ?_⟩
     rw [HE.out]
     exact ⟨rfl, si, dp, RDP.after HB2.out ⟨Si, HI4.out, HK4.out.1, HK4.out.2⟩⟩
   have HRk := hide (show _ = R from (if_neg (fun h => h hte0)).symm.trans HRj.out)
   clear HRj
   subst hte0
   go_wp2_with fail
   refine (must0_any _).mono ?_
   rintro e w5 ⟨rfl, rfl⟩
   obtain ⟨A6, c6, q0, q1, _, _, _, q5, q6, qf⟩ := HI4.out.cells
   have HFL := hide HBi.out.1.fl
   have HI5 := hide (HI4.out.filesS (si.files + 1))
   have HK5 := hide (And.intro ((HK4.out.1).trans ((rkp_set (w := w4) (g := g) (j := 6) (v := .int .i64 ((si.files + 1 : Nat) : Int))).mono fun k e => by rw [e]; exact HK4.out.2 g HI4.out.sg)) HK4.out.2)
   have hwrap : IntKind.i64.wrap ((si.files : Int) + 1) = (si.files : Int) + 1 := by rw [IntKind.wrap_i64] <;> have := HFL.out <;> omega
   have hfz := qf 6
   have hov5 : OwnY (w4.setCell ⟨g, 6, none⟩ (.int .i64 ((si.files + 1 : Nat) : Int))) w3.heap.size v tx := ownsRow_of HOV.out fun k e => (rkp_set (w := w4) (g := g) (j := 6) (v := .int .i64 ((si.files + 1 : Nat) : Int))).block k (World.ownsRow.lt HOV.out k e).2 (fun q => by have := (World.ownsRow.lt HOV.out k e).1; have := HG3.out; omega)
   have HOV5 := hide hov5
   have HZ5 := hide (show (w4.setCell ⟨g, 6, none⟩ (.int .i64 ((si.files + 1 : Nat) : Int))).heap.size = w4.heap.size by simp)
   obtain ⟨w5, hw5⟩ : ∃ z, w4.setCell ⟨g, 6, none⟩ (.int .i64 ((si.files + 1 : Nat) : Int)) = z := ⟨_, rfl⟩
   have HW5 := hide (show w4.setCell ⟨g, 6, none⟩ (.int .i64 ((si.files : Int) + 1)) = w5 from hw5)
   rw [hw5] at HI5 HK5 HOV5 HZ5
   clear hov5 hw5
   obtain ⟨A7, c7, p0, p1, _, _, _, p5, p6, pf⟩ := HI5.out.cells
   have p6 : w5.cell? ⟨g, 6, none⟩ = some (.int .i64 ((si.files : Int) + 1)) := p6
   go_upto_region 8 with (fail)
   rw [HW5.out]
   clear q0 q1 q5 q6 qf hfz
   cases d with
   | zero =>
     have hd10 : (dp == 10) = true := by rw [← HDP.out]; rfl
     have HE := hide (show R = .error 3 from HRk.out.symm)
     go_wp2_with fail
     refine (mustE_any 3 (by decide) _).mono ?_
     rintro e w6 ⟨rfl, rfl⟩
     refine ⟨rfl, ?_⟩
     rw [HE.out]
     exact ⟨rfl, _, dp, RDP.after HB2.out ⟨Si, HI5.out, HK5.out.1, HK5.out.2⟩⟩
   | succ d' =>
     have hdp : dp = (10 : Int) - ((d' + 1 : Nat) : Int) := HDP.out.symm
     have hd10 : (dp == 10) = false := by rw [hdp, beq_eq_false_iff_ne]; omega
     have HRl := hide (show (if 100 < si.files + 1 then (.error 3 : Except Nat Sx) else match textR fs C.cwd d' { si with files := si.files + 1 } tx with
       | .error e => .error e
       | .ok s' => inclF fs C.cwd (recR fs C.cwd (d' + 1)) (L.drop (i + 1)) s') = R from HRk.out)
     by_cases hf1 : 100 < si.files + 1
     · have hdf : decide ((100 : Int) < (si.files : Int) + 1) = true := decide_eq_true (by omega)
       have HE := hide (show R = .error 3 from HRl.out.symm.trans (if_pos hf1))
       clear hdp hf1
       go_wp2_with fail
       refine (mustE_any 3 (by decide) _).mono ?_
       rintro e w6 ⟨rfl, rfl⟩
       refine ⟨rfl, ?_⟩
       rw [HE.out]
       exact ⟨rfl, _, dp, RDP.after HB2.out ⟨Si, HI5.out, HK5.out.1, HK5.out.2⟩⟩
     have hdf : decide ((100 : Int) < (si.files : Int) + 1) = false := decide_eq_false (by omega)
     have HRm := hide (show _ = R from (if_neg hf1).symm.trans HRl.out)
     clear HRl HRk
     have hdq : dp + 1 = (10 : Int) - (d' : Nat) := by rw [hdp]; omega
     have hwr : IntKind.i64.wrap (dp + 1) = (10 : Int) - (d' : Nat) := by rw [← hdq, IntKind.wrap_i64] <;> omega
     have HI6 := hide (HI5.out.deepS ((10 : Int) - (d' : Nat)))
     have HK6 := hide (And.intro ((HK5.out.1).trans ((rkp_set (w := w5) (g := g) (j := 5) (v := .int .i64 ((10 : Int) - (d' : Nat)))).mono fun k e => by rw [e]; exact HK5.out.2 g HI5.out.sg)) HK5.out.2)
     have hpf := pf 5
     have HOV6 : Hid (OwnY (w5.setCell ⟨g, 5, none⟩ (.int .i64 ((10 : Int) - (d' : Nat)))) w3.heap.size v tx) := hide (ownsRow_of HOV5.out fun k e => (rkp_set (w := w5) (g := g) (j := 5) (v := .int .i64 ((10 : Int) - (d' : Nat)))).block k (World.ownsRow.lt HOV5.out k e).2 (fun q => by have := (World.ownsRow.lt HOV5.out k e).1; have := HG3.out; omega))
     have hcv := conv_Y HOV6.out
     have HTT := hide (HT.out d' rfl { si with files := si.files + 1 } Si _ k' tx HI6.out ⟨HBi.out.1.mac, HBi.out.1.nam, HBi.out.1.rise, HBi.out.1.cnt, HBi.out.1.rc, HBi.out.1.rl, by dsimp only; omega⟩ (by have := HBi.out.2; unfold Qs at this ⊢; dsimp only; omega) htl)
     have HKT := hide (fun s' (h : textR fs C.cwd d' { si with files := si.files + 1 } tx = .ok s') => keeps_text fs C.cwd d' { si with files := si.files + 1 } k' tx s' ⟨HBi.out.1.mac, HBi.out.1.nam, HBi.out.1.rise, HBi.out.1.cnt, HBi.out.1.rc, HBi.out.1.rl, by dsimp only; omega⟩ h)
     have HQQ := hide (show Qs { si with files := si.files + 1 } k' + 16385 ≤ 2000000 by have := HBi.out.2; unfold Qs at this ⊢; dsimp only; omega)
     obtain ⟨rr, hrr⟩ : ∃ z, textR fs C.cwd d' { si with files := si.files + 1 } tx = z := ⟨_, rfl⟩
     rw [hrr] at HTT HKT HRm
     obtain ⟨w6, hw6⟩ : ∃ z, w5.setCell ⟨g, 5, none⟩ (.int .i64 ((10 : Int) - (d' : Nat))) = z := ⟨_, rfl⟩
     rw [hw6] at HI6 HK6 hcv HTT
     clear hf1 hdp hrr htl HOV6 HOV5 HOV
     go_wp2_with fail
     refine HTT.out.mono ?_
     clear HTT
     rcases rr with c | s'
     · rintro e w7 ⟨rfl, s', dx, hx⟩
       refine ⟨rfl, ?_⟩
       rw [← show Except.error c = R from HRm.out]
       exact ⟨rfl, s', dx, RDP.after HB2.out (RDP.go HK6.out.1 HK6.out.2 hx)⟩
     rintro e w7 ⟨rfl, S2, hr7, hk7, hg7⟩
     obtain ⟨k2, hb2, hq2, _⟩ := HKT.out s' rfl
     have HB9 := hide (show Bd s' k2 ∧ Qs s' k2 ≤ 2000000 from ⟨hb2, by have := HQQ.out; omega⟩)
     have hz26 := HK6.out.1.size
     have HR9 := hide (show inclF fs C.cwd (recR fs C.cwd (d' + 1)) (L.drop (i + 1)) s' = R from HRm.out)
     have HK7 := hide (show Kp w2 w7 S from HK6.out.1.trans (hk7.mono fun q e => HK6.out.2 q e))
     have hg2 : ∀ q, S2 q → S q ∨ w2.heap.size ≤ q := fun q e => (hg7 q e).elim (HK6.out.2 q) (fun h => .inr (Nat.le_trans hz26 h))
     obtain ⟨A8, c8, _, _, _, _, _, p5', _, pf'⟩ := hr7.cells
     have hpf' := pf' 5
     have hwr' : IntKind.i64.wrap ((10 : Int) - (d' : Nat) - 1) = dp := by rw [← hdq, IntKind.wrap_i64] <;> omega
     have HI9 := hide (hr7.deepS dp)
     have HK9 := hide (And.intro (HK7.out.trans ((rkp_set (w := w7) (g := g) (j := 5) (v := .int .i64 dp)).mono fun k e => by rw [e]; exact hg2 g hr7.sg)) hg2)
     clear hr7 hk7 hg7 hb2 hq2 pf' hg2 hz26
     go_wp2
     go_roundw
     case rel => exact ⟨i + 1, k2, s', S2, by go_num, by omega, HI9, HK9, HB9, HR9⟩
     case measure => simp [intOf]; omega
end
end Go.Proofs.YtpheeheikigenaaGreatDoor
