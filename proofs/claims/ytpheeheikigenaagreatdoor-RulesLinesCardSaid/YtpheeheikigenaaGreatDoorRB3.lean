/- Walks and plain facts that the claim uses. -/
import Derived.Test.YtpheeheikigenaaGreatDoorRB2
import Derived.Recover
import Derived.Laws.Pointers
import Derived.RegionTactic
import Derived.Outline
import Derived.WideLaws
import Derived.WideKeyEntry
import Derived.Lib.SlBytesConst
import Derived.Laws.StructEq
import Derived.Deep.SlicePairs
import Derived.OpenShut
import Derived.ProofKit
import Derived.SliceStrings
import Derived.Test.YtpheeheikigenaaGreatDoorProg
import Derived.Deep.CutBlock
import Derived.Deep.RegionHeld3
import Derived.SizedLaws
set_option maxRecDepth 100000
set_option maxHeartbeats 16000000
set_option linter.unusedSimpArgs false
set_option linter.unusedVariables false
namespace Go.Proofs.YtpheeheikigenaaGreatDoor
section
open Go.RowKit Go.Deep Go.Maps Ln Pth Vf Rd Mc
attribute [local go_sem] bt_eq
theorem keeps_rec (fs : St) (cwd : T) (d : Nat) : ∀ f, recR fs cwd d = some f → Keeps f := by
 intro f h
 cases d with
 | zero => cases h
 | succ d => cases h; exact keeps_text fs cwd d
theorem opF_mem {rest : T} : ∀ {l : List T} {x : T × T}, opF rest l = some x → x.1 ∈ l
 | [], x, h => by cases h
 | o :: os, x, h => by
   rw [opF] at h
   split at h
   · injection h with h
     rw [← h]; simp
   · exact List.mem_cons_of_mem _ (opF_mem h)
theorem defsF_op {t : T} {x : T × T × T} (h : defsF t = some x) : x.2.1 ∈ opsL := by
 unfold defsF at h
 split at h
 · obtain ⟨y, hy, rfl⟩ := Option.map_eq_some_iff.1 h
   exact opF_mem hy
 · cases h
theorem rcutp_any (t : T) (a : ByteArray) (w : World) : Calls Tryz.prog 87 #[.string (bs t), .string a] w fun e w' => e = .returned (.tuple #[.string (bs (Lib.trimPrefix t a.data.toList)), .bool (Lib.hasPrefix t a.data.toList)]) ∧ w = w' := by
 refine (Tryz.strings_CutPrefix (bs t) a w).mono ?_
 rintro e w' ⟨h1, h2⟩
 rw [bs_list] at h1
 exact ⟨h1, h2.symm⟩
theorem rixb_any (c : UInt8) (w : World) : Calls Tryz.prog 88 #[.string ⟨#[32, 9]⟩, .int .u8 c.toNat] w fun e w' => e = .returned (.int .i64 (Lib.indexByte [32, 9] c)) ∧ w = w' := by
 refine (Tryz.strings_IndexByte ⟨#[32, 9]⟩ (c.toNat : Int) w).mono ?_
 rintro e w' ⟨h1, h2⟩
 rw [show ((c.toNat : Int).toNat.toUInt8) = c by simp] at h1
 exact ⟨h1, h2.symm⟩
theorem ixb_blank (c : UInt8) : decide ((0 : Int) ≤ Lib.indexByte [32, 9] c) = (c == 32 || c == 9) := by
 rw [Bool.eq_iff_iff, decide_eq_true_iff, ixb_mem]
 simp
theorem text_step (w0 : World) (C : Rk) (g : Nat) (fs : St) (d : Nat) (hf : RF w0 C fs) (HT : ∀ d', d = d' + 1 → TextC w0 C g fs d') (hd : d ≤ 10) : TextC w0 C g fs d := by
 intro s S w k t h hbd hq ht
 have HRP := hide (readp_any t w (hf.mx.below h.below) (by rw [bs_size]; omega))
 have hsz := readF_sz t
 have HXX := hide (show textR fs C.cwd d s t = if (readF t).2 ≠ 0 then .error (readF t).2 else foldE (lineF fs C.cwd (recR fs C.cwd d)) (readF t).1 s by rw [textR_eq]; rfl)
 obtain ⟨R, hR⟩ : ∃ z, textR fs C.cwd d s t = z := ⟨_, rfl⟩
 unfold ReadPostP at HRP
 obtain ⟨L, hL⟩ : ∃ z, (readF t).1 = z := ⟨_, rfl⟩
 obtain ⟨re, hre⟩ : ∃ z, (readF t).2 = z := ⟨_, rfl⟩
 rw [hR] at HXX ⊢
 rw [hL, hre] at HXX HRP
 rw [hL] at hsz
 have HSZ := hide hsz
 have HI := hide h
 have HF := hide hf
 have HBQ := hide (And.intro hbd hq)
 obtain ⟨n, hn⟩ : ∃ z, L.length = z := ⟨_, rfl⟩
 have HN := hide hn
 rw [hn] at HRP
 have HNL := hide (show n ≤ 16385 by rw [← hn]; exact hsz.1)
 have HT := hide HT
 obtain ⟨dp, hdp⟩ : ∃ z, (10 : Int) - (d : Nat) = z := ⟨_, rfl⟩
 have HDP := hide hdp
 rw [hdp] at HI ⊢
 clear h hf hbd hq hsz hR hL hre hn hdp
 go_enter Tryz.func37, Tryz.ntmps37
 go_wp2_with fail
 refine HRP.out.mono ?_
 rintro e w1 ⟨⟨A, cp, rfl, hcp, hrg, hown⟩, hb1⟩
 have HI1 := hide (HI.out.step hb1)
 have HB1 := hide hb1
 have HRG := hide hrg
 have HOWN := hide hown
 have HSL := hide (fun q (hq : S q) => (HI.out.sw q hq).2)
 clear hb1 hrg hown hcp HRP
 by_cases hre0 : re = 0
 case neg =>
   have HE := hide (show R = .error re from HXX.out.trans (if_pos hre0))
   go_wp2_with fail
   refine (mustE_any re hre0 _).mono ?_
   rintro e w4 ⟨rfl, rfl⟩
   refine ⟨rfl, ?_⟩
   rw [HE.out]
   exact ⟨rfl, s, dp, HI.out.toP HB1.out⟩
 have HR := hide (show foldE (lineF fs C.cwd (recR fs C.cwd d)) L s = R from (HXX.out.trans (if_neg fun h => h hre0)).symm)
 clear HXX
 subst hre0
 go_wp2_with fail
 refine (must0_any _).mono ?_
 rintro e w4 ⟨rfl, rfl⟩
 have HNL2 := HNL.out
 go_wp2
 go_loopw [7, 8, 9, 10, 11, 12, 22] (fun _ _ _ _ _ _ v22 wr => ∃ (i k' : Nat) (si : Sx) (Si : Nat → Prop), v22 = .int .i64 i ∧ i ≤ n ∧ Hid (RD w0 C g si dp Si wr) ∧ Hid (Kp w1 wr S ∧ ∀ q, Si q → S q ∨ w1.heap.size ≤ q) ∧ Hid (Bd si k' ∧ Qs si k' + (n - i) ≤ 2000000) ∧ Hid (foldE (lineF fs C.cwd (recR fs C.cwd d)) (L.drop i) si = R)) (fun _ _ _ _ _ _ v22 _ => n - (intOf v22).toNat)
 case atStart => exact ⟨0, k, s, S, rfl, by omega, HI1, hide ⟨Kp.refl _ _, fun _ e => .inl e⟩, hide ⟨HBQ.out.1, by have := HBQ.out.2; omega⟩, hide (by simpa using HR.out)⟩
 case round =>
   obtain ⟨i, k', si, Si, rfl, hi, HIi, HKi, HBi, HRi⟩ := hrel
   by_cases hlt : i < n
   case neg =>
     obtain rfl : i = n := by omega
     have HE := hide (show R = .ok si by
       rw [← HRi.out, List.drop_of_length_le (by have := HN.out; omega)]
       rfl)
     go_wp2
     go_end0
     rw [HE.out]
     exact ⟨rfl, RDP.after HB1.out ⟨Si, HIi.out, HKi.out.1, HKi.out.2⟩⟩
   have b1 : (i : Int) < (n : Int) := by omega
   have hil : i < L.length := by have := HN.out; omega
   obtain ⟨y, hy⟩ : ∃ y, L[i]? = some y := ⟨_, List.getElem?_eq_getElem hil⟩
   have hyl := HSZ.out.2 y (List.mem_of_getElem? hy)
   obtain ⟨gl, ol, rfl, hgl, hcl⟩ := HRG.out i y hy
   have hglS : ¬ S gl := fun q => by have := HSL.out gl q; have h2 : w.heap.size ≤ gl := HOWN.out _ rfl; omega
   have hbl := HKi.out.1.block gl hgl hglS
   have hc0 : wr.cell? ⟨gl, ol + i * 2, none⟩ = some (.bool y.1) := (World.cell?_of_block (a := ⟨gl, ol + i * 2, none⟩) hbl).trans (hcl 0 _ rfl)
   have hc1 : wr.cell? ⟨gl, ol + i * 2 + 1, none⟩ = some (.string (bs y.2)) := (World.cell?_of_block (a := ⟨gl, ol + i * 2 + 1, none⟩) hbl).trans (hcl 1 _ rfl)
   have hdr : L.drop i = y :: L.drop (i + 1) := by
     rw [List.drop_eq_getElem_cons hil]
     congr 1
     rw [List.getElem?_eq_getElem hil] at hy
     exact Option.some.inj hy
   have HRi := hide (show _ = R from (foldE_cons (lineF fs C.cwd (recR fs C.cwd d)) y (L.drop (i + 1)) si).symm.trans (hdr ▸ HRi.out))
   have HBD := hide (fun s' (h : lineF fs C.cwd (recR fs C.cwd d) si y = .ok s') => line_bd fs C.cwd (keeps_rec fs C.cwd d) HBi.out.1 hyl h)
   have hbx := (Below.refl wr.heap.size wr).alloc (Nat.le_refl _) (.cells #[.bool y.1, .string (bs y.2)] 143)
   have hgx := heapNew wr (.cells #[.bool y.1, .string (bs y.2)] 143)
   have HIx := hide (HIi.out.step hbx)
   have HKx := hide (show Kp w1 _ S ∧ ∀ q, Si q → S q ∨ w1.heap.size ≤ q from ⟨HKi.out.1.trans (Kp.of_below hbx _), HKi.out.2⟩)
   have hKK := HBi.out.2
   have hk' : k' ≤ 2000000 := Qs_le (s := si) (by omega)
   obtain ⟨isr, x⟩ := y
   dsimp only at hc0 hc1 hyl hgx HIx HKx
   have hlx : wr.heap.size < (wr.alloc (.cells #[.bool isr, .string (bs x)] 143)).heap.size := by simp
   have HGX := hide hgx
   have HLX := hide hlx
   clear hdr hy hil hcl hbl hglS hgl hbx hgx hlx hKK
   cases isr with
   | true =>
     have HLN := hide (show lineF fs C.cwd (recR fs C.cwd d) si (true, x) = addL si x from rfl)
     obtain ⟨r, hr⟩ : ∃ z, lineF fs C.cwd (recR fs C.cwd d) si (true, x) = z := ⟨_, rfl⟩
     rw [hr] at HLN HRi HBD
     clear hr
     obtain ⟨A5, c5, _, _, _, _, p4, _, _, _⟩ := HIx.out.cells
     by_cases hne : si.rules = []
     · have HE := hide (show r = .error 2 from HLN.out.trans (by unfold addL; rw [hne]; rfl))
       rw [hne] at p4
       have hw1 : IntKind.i64.wrap ((0 : Int) - 1) = -1 := by kernel_rfl
       dsimp only [List.length_nil] at p4
       rw [HE.out] at HRi
       clear hne
       go_wp2_with fail
       refine (mustE_any 2 (by decide) _).mono ?_
       rintro e w7 ⟨rfl, rfl⟩
       refine ⟨rfl, ?_⟩
       rw [← show Except.error 2 = R from HRi.out]
       exact ⟨rfl, si, dp, RDP.after HB1.out (RDP.go HKx.out.1 HKx.out.2 (HIx.out.toP (Below.refl _ _)))⟩
     obtain ⟨ls, q, hlq⟩ : ∃ ls q, si.rules = ls ++ [q] := ⟨si.rules.dropLast, si.rules.getLast hne, (List.dropLast_concat_getLast hne).symm⟩
     have HE := hide (show r = .ok { si with rules := ls ++ [{ q with rc := q.rc ++ [x] }] } from HLN.out.trans (by unfold addL; rw [hlq]; simp))
     rw [HE.out] at HRi HBD
     have hll : si.rules.length = ls.length + 1 := by rw [hlq]; simp
     rw [hll] at p4
     have hl3 := HBi.out.1.rl
     have hw1 : IntKind.i64.wrap (((ls.length : Int) + 1) - 1) = (ls.length : Int) := by rw [IntKind.wrap_i64] <;> omega
     obtain ⟨gr, cr, B, m, d0, B4, d4, w4, e1, e2, e3, e4, e5, e6, e7, e8, e9⟩ := (HIx.out.step (Below.refl _ _).drew).addLine hlq x (by have := HBi.out.1.rc q (by rw [hlq]; simp); omega)
     have hgl := HIx.out.lt
     have hgxS : ¬ Si wr.heap.size := fun q => by have := (HIi.out.sw _ q).2; omega
     obtain ⟨gx, hgx⟩ : ∃ z, wr.heap.size = z := ⟨_, rfl⟩
     have hgxb := HGX.out
     have hlx := HLX.out
     rw [hgx] at hgxS hgxb hlx
     obtain ⟨W, hW⟩ : ∃ z, wr.alloc (.cells #[.bool true, .string (bs x)] 143) = z := ⟨_, rfl⟩
     rw [hW] at e1 e2 e3 e6 e8 e9 hgl hgxb hlx HKx p4
     have hgne : gr ≠ gx := fun h => by
       obtain ⟨vr, rl, k1, _, k3, _⟩ := HIi.out.body
       have hv := cellOf k1 (j := 4) rfl
       have hv2 := (hW ▸ ((Below.refl wr.heap.size wr).alloc (Nat.le_refl _) (.cells #[.bool true, .string (bs x)] 143)).cell (p := ⟨g, 4, none⟩) HIi.out.lt : W.cell? ⟨g, 4, none⟩ = wr.cell? ⟨g, 4, none⟩).trans hv
       have e1' : W.cell? ⟨g, 4, none⟩ = some (.slice (some ⟨gr, 0, none⟩) (ls.length + 1) cr) := e1
       rw [e1'] at hv2
       have hvr : Value.slice (some ⟨gr, 0, none⟩) (ls.length + 1) cr = vr := Option.some.inj hv2
       have := (HIi.out.sw gr (k3 gr (by rw [← hvr]; rfl)).1).2
       omega
     have HS0 := hide (show W.drew.cell? ⟨g, 4, none⟩ = some (.slice (some ⟨gr, 0, none⟩) (ls.length + 1) cr) ∧ W.drew.cell? ⟨gx, 1, none⟩ = some (.string (bs x)) from ⟨e1, cellOf hgxb (j := 1) rfl⟩)
     have hba := (Below.refl W.heap.size W).alloc (Nat.le_refl _) (.cells #[.string (bs x)] 9)
     have HS1 := hide (show (W.alloc (.cells #[.string (bs x)] 9)).drew.cell? ⟨g, 4, none⟩ = some (.slice (some ⟨gr, 0, none⟩) (ls.length + 1) cr) ∧ (W.alloc (.cells #[.string (bs x)] 9)).drew.cell? ⟨gx, 1, none⟩ = some (.string (bs x)) from ⟨(hba.cell (p := ⟨g, 4, none⟩) hgl).trans HS0.out.1, (hba.cell (p := ⟨gx, 1, none⟩) hlx).trans HS0.out.2⟩)
     have HS2 := hide (show w4.cell? ⟨g, 4, none⟩ = some (.slice (some ⟨gr, 0, none⟩) (ls.length + 1) cr) ∧ w4.cell? ⟨gx, 1, none⟩ = some (.string (bs x)) from ⟨(World.cell?_of_block (a := ⟨g, 4, none⟩) (e9 g hgl (.inl rfl))).trans HS0.out.1, (World.cell?_of_block (a := ⟨gx, 1, none⟩) (e9 gx hlx (.inr (.inr hgxS)))).trans HS0.out.2⟩)
     have hz4 : W.heap.size ≤ w4.heap.size := by have := e6; obtain ⟨_, _, hk, _⟩ := this; have := hk.size; simp at this; exact this
     have hks := rkp_set (w := w4) (g := gr) (j := ls.length * 3 + 2) (v := .slice B4 (m + 1) d4)
     have HS3 := hide (show (w4.setCell ⟨gr, ls.length * 3 + 2, none⟩ (.slice B4 (m + 1) d4)).cell? ⟨g, 4, none⟩ = some (.slice (some ⟨gr, 0, none⟩) (ls.length + 1) cr) ∧ (w4.setCell ⟨gr, ls.length * 3 + 2, none⟩ (.slice B4 (m + 1) d4)).cell? ⟨gx, 1, none⟩ = some (.string (bs x)) from ⟨(World.cell?_of_block (a := ⟨g, 4, none⟩) (hks.block g (Nat.lt_of_lt_of_le hgl hz4) (fun e => e7 e.symm))).trans HS2.out.1, (World.cell?_of_block (a := ⟨gx, 1, none⟩) (hks.block gx (Nat.lt_of_lt_of_le hlx hz4) (fun e => hgne e.symm))).trans HS2.out.2⟩)
     have HEND := hide (RDP.after ((Below.refl W.heap.size W).drew) e6)
     have HKj := HKx
     obtain ⟨w7, hw7⟩ : ∃ z, w4.setCell ⟨gr, ls.length * 3 + 2, none⟩ (.slice B4 (m + 1) d4) = z := ⟨_, rfl⟩
     have HW7 := hide hw7
     obtain ⟨s', hs'⟩ : ∃ z, ({ si with rules := ls ++ [{ q with rc := q.rc ++ [x] }] } : Sx) = z := ⟨_, rfl⟩
     rw [hw7, hs'] at HEND
     rw [hs'] at HRi HBD
     clear hw7 hs'
     have f1 : (Builtin.append_ #[23, 23] 23 #[.slice B m d0, .slice (some ⟨W.heap.size, 0, none⟩) 1 1]).run Tryz.prog (W.alloc (.cells #[.string (bs x)] 9)).drew = .ok (.slice B4 (m + 1) d4) w4 := e3
     have e2' : (W.alloc (.cells #[.string (bs x)] 9)).drew.cell? ⟨gr, ls.length * 3 + 2, none⟩ = some (.slice B m d0) := (hba.cell (p := ⟨gr, ls.length * 3 + 2, none⟩) e8).trans e2
     have hlt : (ls.length : Int) < (ls.length : Int) + 1 := by omega
     have hx0 := cellOf hgxb (j := 0) rfl
     clear e3 e6 e9 hba hks hgxb hne
     go_wp2_with fail
     refine wp_region_held_drew (S := (fun w' => w'.cell? ⟨g, 4, none⟩ = some (.slice (some ⟨gr, 0, none⟩) (ls.length + 1) cr) ∧ w'.cell? ⟨gx, 1, none⟩ = some (.string (bs x)))) (by kernel_rfl) HS0.out (fun hHeld => ?_)
     refine tq (i := 0) (v := ?v0) rfl rfl (by kernel_rfl) (fun _ _ _ h => h) ?y0 (by assumption) ?r0
     case y0 => intro w h; (try dsimp only at h); go_simp; try with_reducible rfl
     try simp only [sA, sB, sC]
     refine tq (i := 1) (v := ?v1) rfl rfl (by kernel_rfl) (fun _ _ _ h => h) ?y1 (by assumption) ?r1
     case y1 => intro w h; (try dsimp only at h); go_simp; try with_reducible rfl
     try simp only [sA, sB, sC]
     refine tq (i := 2) (v := ?v2) rfl rfl (by kernel_rfl) (fun _ _ _ h => h) ?y2 (by assumption) ?r2
     case y2 => intro w h; (try dsimp only at h); go_simp; try with_reducible rfl
     try simp only [sA, sB, sC]
     refine tq (i := 3) (v := ?v3) rfl rfl (by kernel_rfl) (fun _ _ _ h => h) ?y3 (by assumption) ?r3
     case y3 => intro w h; (try dsimp only at h); go_simp; try with_reducible rfl
     try simp only [sA, sB, sC]
     refine tq (i := 4) (v := ?v4) rfl rfl (by kernel_rfl) (fun _ _ _ h => h) ?y4 (by assumption) ?r4
     case y4 => intro w h; (try dsimp only at h); go_simp; try with_reducible rfl
     try simp only [sA, sB, sC]
     refine tq (i := 5) (v := ?v5) rfl rfl (by kernel_rfl) (fun _ _ _ h => h) ?y5 (by assumption) ?r5
     case y5 => intro w h; (try dsimp only at h); go_simp; try with_reducible rfl
     try simp only [sA, sB, sC]
     refine tq (i := 6) (v := ?v6) rfl rfl (by kernel_rfl) (fun _ _ _ h => h) ?y6 (by assumption) ?r6
     case y6 => intro w h; (try dsimp only at h); go_simp; try with_reducible rfl
     try simp only [sA, sB, sC]
     refine tq (i := 7) (v := ?v7) rfl rfl (by kernel_rfl) (fun _ _ _ h => h) ?y7 (by assumption) ?r7
     case y7 => intro w h; (try dsimp only at h); go_simp; try with_reducible rfl
     try simp only [sA, sB, sC]
     refine tq (i := 8) (v := ?v8) rfl rfl (by kernel_rfl) (fun _ _ _ h => h) ?y8 (by assumption) ?r8
     case y8 => intro w h; (try dsimp only at h); go_simp; try with_reducible rfl
     try simp only [sA, sB, sC]
     refine tq (i := 9) (v := ?v9) rfl rfl (by kernel_rfl) (fun _ _ _ h => h) ?y9 (by assumption) ?r9
     case y9 => intro w h; (try dsimp only at h); go_simp; try with_reducible rfl
     try simp only [sA, sB, sC]
     refine tq (i := 10) (v := ?v10) rfl rfl (by kernel_rfl) (fun _ _ _ h => h) ?y10 (by assumption) ?r10
     case y10 => intro w h; (try dsimp only at h); go_simp; try with_reducible rfl
     try simp only [sA, sB, sC]
     refine tq (i := 11) (v := ?v11) rfl rfl (by kernel_rfl) (fun _ _ _ h => h) ?y11 (by assumption) ?r11
     case y11 => intro w h; (try dsimp only at h); go_simp; try with_reducible rfl
     try simp only [sA, sB, sC]
     refine tq (i := 13) (v := ?v13) rfl rfl (by kernel_rfl) (fun _ _ _ h => h) ?y13 (by assumption) ?r13
     case y13 => intro w h; (try dsimp only at h); go_simp; try with_reducible rfl
     try simp only [sA, sB, sC]
     refine tq (i := 14) (v := ?v14) rfl rfl (by kernel_rfl) (fun _ _ _ h => h) ?y14 (by assumption) ?r14
     case y14 => intro w h; (try dsimp only at h); go_simp; try with_reducible rfl
     try simp only [sA, sB, sC]
     refine wpAnyH_ready (rs := [12, 15]) (by kernel_rfl) (by simp) ?_
     refine AllReadyH.cons (o := _) rfl (fun K hK => ?_) (AllReadyH.cons (o := _) rfl (fun K hK => ?_) AllReadyH.nil)
     · rw [if_pos (by kernel_rfl)]
       go_simp
       refine hK.out _ _ HS0.out (fun _ => ?_)
       clear hK K
       try simp only [Act.put, sA, sB, sC]
       refine rq (k := 15) rfl (by kernel_rfl) (by kernel_rfl) (fun K hK => ?_)
       go_simp
       refine hK.out _ _ HS1.out (fun _ => ?_)
       clear hK K
       try simp only [Act.put, sA, sB, sC]
       refine wpAnyH_ready (rs := [16]) (by kernel_rfl) (by simp) ?_
       refine AllReadyH.cons (o := _) rfl (fun K hK => ?_) AllReadyH.nil
       refine step_app_run rfl _ _ rfl rfl rfl rfl f1 ?_
       refine hK.out _ _ HS2.out (fun _ => ?_)
       clear hK K
       try simp only [Act.put, sA, sB, sC]
       refine tq (i := 17) (v := ?vA17) rfl rfl (by kernel_rfl) (fun _ _ _ h => h) ?yA17 (by assumption) ?rA17
       case yA17 => intro w h; (try dsimp only at h); go_simp; try with_reducible rfl
       try simp only [sA, sB, sC]
       refine tq (i := 18) (v := ?vA18) rfl rfl (by kernel_rfl) (fun _ _ _ h => h) ?yA18 (by assumption) ?rA18
       case yA18 => intro w h; (try dsimp only at h); go_simp; try with_reducible rfl
       try simp only [sA, sB, sC]
       refine rq (k := 19) rfl (by kernel_rfl) (by kernel_rfl) (fun K hK => ?_)
       go_simp
       refine hK.out _ _ HS3.out (fun _ => ?_)
       clear hK K
       try simp only [Act.put, sA, sB, sC]
       refine wpAnyH_done (by kernel_rfl) ?_ _
       rw [HW7.out]
       obtain ⟨S2, hr7, hk7, hg7⟩ := HEND.out
       have hz26 := HKj.out.1.size
       have HI9 := hide hr7
       have HK9 := hide (show Kp w1 w7 S ∧ ∀ q, S2 q → S q ∨ w1.heap.size ≤ q from ⟨HKj.out.1.trans (hk7.mono fun q e => HKj.out.2 q e), fun q e => (hg7 q e).elim (HKj.out.2 q) (fun h => .inr (Nat.le_trans hz26 h))⟩)
       have HR9 := hide (show foldE (lineF fs C.cwd (recR fs C.cwd d)) (L.drop (i + 1)) s' = R from HRi.out)
       obtain ⟨k2, hb2, hq2, _⟩ := HBD.out s' rfl
       have HB9 := hide (show Bd s' k2 ∧ Qs s' k2 + (n - (i + 1)) ≤ 2000000 from ⟨hb2, by have := HBi.out.2; omega⟩)
       clear hz26 hr7 hk7 hg7 hb2 hq2
       go_wp2
       go_roundw
       case rel => exact ⟨i + 1, k2, s', S2, by go_num, by omega, HI9, HK9, HB9, HR9⟩
       case measure => simp [intOf]; omega
     · rw [if_pos (by kernel_rfl)]
       go_simp
       refine hK.out _ _ HS1.out (fun _ => ?_)
       clear hK K
       try simp only [Act.put, sA, sB, sC]
       refine rq (k := 12) rfl (by kernel_rfl) (by kernel_rfl) (fun K hK => ?_)
       go_simp
       refine hK.out _ _ HS1.out (fun _ => ?_)
       clear hK K
       try simp only [Act.put, sA, sB, sC]
       refine wpAnyH_ready (rs := [16]) (by kernel_rfl) (by simp) ?_
       refine AllReadyH.cons (o := _) rfl (fun K hK => ?_) AllReadyH.nil
       refine step_app_run rfl _ _ rfl rfl rfl rfl f1 ?_
       refine hK.out _ _ HS2.out (fun _ => ?_)
       clear hK K
       try simp only [Act.put, sA, sB, sC]
       refine tq (i := 17) (v := ?vB17) rfl rfl (by kernel_rfl) (fun _ _ _ h => h) ?yB17 (by assumption) ?rB17
       case yB17 => intro w h; (try dsimp only at h); go_simp; try with_reducible rfl
       try simp only [sA, sB, sC]
       refine tq (i := 18) (v := ?vB18) rfl rfl (by kernel_rfl) (fun _ _ _ h => h) ?yB18 (by assumption) ?rB18
       case yB18 => intro w h; (try dsimp only at h); go_simp; try with_reducible rfl
       try simp only [sA, sB, sC]
       refine rq (k := 19) rfl (by kernel_rfl) (by kernel_rfl) (fun K hK => ?_)
       go_simp
       refine hK.out _ _ HS3.out (fun _ => ?_)
       clear hK K
       try simp only [Act.put, sA, sB, sC]
       refine wpAnyH_done (by kernel_rfl) ?_ _
       rw [HW7.out]
       obtain ⟨S2, hr7, hk7, hg7⟩ := HEND.out
       have hz26 := HKj.out.1.size
       have HI9 := hide hr7
       have HK9 := hide (show Kp w1 w7 S ∧ ∀ q, S2 q → S q ∨ w1.heap.size ≤ q from ⟨HKj.out.1.trans (hk7.mono fun q e => HKj.out.2 q e), fun q e => (hg7 q e).elim (HKj.out.2 q) (fun h => .inr (Nat.le_trans hz26 h))⟩)
       have HR9 := hide (show foldE (lineF fs C.cwd (recR fs C.cwd d)) (L.drop (i + 1)) s' = R from HRi.out)
       obtain ⟨k2, hb2, hq2, _⟩ := HBD.out s' rfl
       have HB9 := hide (show Bd s' k2 ∧ Qs s' k2 + (n - (i + 1)) ≤ 2000000 from ⟨hb2, by have := HBi.out.2; omega⟩)
       clear hz26 hr7 hk7 hg7 hb2 hq2
       go_wp2
       go_roundw
       case rel => exact ⟨i + 1, k2, s', S2, by go_num, by omega, HI9, HK9, HB9, HR9⟩
       case measure => simp [intOf]; omega
   | false =>
     have HDE := hide (fun W => defines_any x W (by omega))
     have HLN := hide (show lineF fs C.cwd (recR fs C.cwd d) si (false, x) = (match defsF x with
       | some d => defineF si d.1 d.2.1 d.2.2
       | none => if isInc x then (match expS si.mac (x.drop 7) with | .error e => .error e | .ok t => inclF fs C.cwd (recR fs C.cwd d) (wordsF t []) si) else ruleF si x) from rfl)
     unfold DefPost at HDE
     have HDL := hide (fun y (h : defsF x = some y) => And.intro (defsF_len h) (defsF_op h))
     obtain ⟨df, hdf⟩ : ∃ z, defsF x = z := ⟨_, rfl⟩
     rw [hdf] at HLN HDE HDL
     clear hdf
     obtain ⟨r, hr⟩ : ∃ z, lineF fs C.cwd (recR fs C.cwd d) si (false, x) = z := ⟨_, rfl⟩
     rw [hr] at HLN HRi HBD
     clear hr
     go_wp2_with fail
     refine (HDE.out _).mono ?_
     rcases df with _ | ⟨dn, do', dv⟩
     · rintro e w3 ⟨rfl, hb3⟩
       have hb4 := hb3.trans (((Below.refl w3.heap.size w3).alloc (Nat.le_refl _) (.cells #[.string ⟨#[]⟩, .string ⟨#[]⟩, .string ⟨#[]⟩] 145)).mono hb3.size)
       have HI4 := hide (HIx.out.step hb4)
       have HKj := hide (And.intro (HKx.out.1.trans (Kp.of_below hb4 _)) HKx.out.2)
       have hgx4 := (hb4.block _ HLX.out).trans HGX.out
       have hx1 := cellOf hgx4 (j := 1) rfl
       have HCP := hide (fun W => rcutp_any x ⟨#[105, 110, 99, 108, 117, 100, 101]⟩ W)
       have HLN := hide (show r = if isInc x = true then (match expS si.mac (x.drop 7) with | .error e => .error e | .ok t => inclF fs C.cwd (recR fs C.cwd d) (wordsF t []) si) else ruleF si x from HLN.out)
       dsimp only at HCP
       clear hb4 hb3 HDL HDE hgx4
       by_cases hp : Lib.hasPrefix x incT = true
       case neg =>
         have hin : isInc x = false := by unfold isInc; simp [hp]
         have hp2 : Lib.hasPrefix x [105, 110, 99, 108, 117, 100, 101] = false := (by simpa using hp : Lib.hasPrefix x incT = false)
         rw [hp2] at HCP
         have HLR := hide (show r = ruleF si x from HLN.out.trans (if_neg (by rw [hin]; simp)))
         have HRU := hide (rule_any w0 C g si dp Si _ HI4.out HF.out.mx k' (by omega) HBi.out.1 x hyl)
         rw [← HLR.out] at HRU
         go_wp2_with fail
         refine (HCP.out _).mono ?_
         rintro e w5 ⟨rfl, rfl⟩
         go_wp2_with fail
         refine HRU.out.mono ?_
         intro e w7 hend
         unfold XE at hend
         rcases r with c | s'
         · dsimp only at hend
           obtain ⟨rfl, s', dx, hx⟩ := hend
           refine ⟨rfl, ?_⟩
           rw [← show Except.error c = R from HRi.out]
           exact ⟨rfl, s', dx, RDP.after HB1.out (RDP.go HKj.out.1 HKj.out.2 hx)⟩
         · dsimp only at hend
           obtain ⟨rfl, S2, hr7, hk7, hg7⟩ := hend
           have hz26 := HKj.out.1.size
           have HI9 := hide hr7
           have HK9 := hide (show Kp w1 w7 S ∧ ∀ q, S2 q → S q ∨ w1.heap.size ≤ q from ⟨HKj.out.1.trans (hk7.mono fun q e => HKj.out.2 q e), fun q e => (hg7 q e).elim (HKj.out.2 q) (fun h => .inr (Nat.le_trans hz26 h))⟩)
           have HR9 := hide (show foldE (lineF fs C.cwd (recR fs C.cwd d)) (L.drop (i + 1)) s' = R from HRi.out)
           obtain ⟨k2, hb2, hq2, _⟩ := HBD.out s' rfl
           have HB9 := hide (show Bd s' k2 ∧ Qs s' k2 + (n - (i + 1)) ≤ 2000000 from ⟨hb2, by have := HBi.out.2; omega⟩)
           clear hz26 hr7 hk7 hg7 hb2 hq2
           go_wp2
           go_roundw
           case rel => exact ⟨i + 1, k2, s', S2, by go_num, by omega, HI9, HK9, HB9, HR9⟩
           case measure => simp [intOf]; omega
       have hp2 : Lib.hasPrefix x [105, 110, 99, 108, 117, 100, 101] = true := hp
       have htp : Lib.trimPrefix x [105, 110, 99, 108, 117, 100, 101] = x.drop 7 := by unfold Lib.trimPrefix; rw [if_pos hp2]; rfl
       rw [hp2, htp] at HCP
       have hdl : (x.drop 7).length ≤ 16384 := by rw [List.length_drop]; omega
       have hii : isInc x = ((x.drop 7).headD 0 == 32 || (x.drop 7).headD 0 == 9) := by unfold isInc; rw [hp]; rfl
       obtain ⟨rs, hrs⟩ : ∃ z, x.drop 7 = z := ⟨_, rfl⟩
       rw [hrs] at HCP HLN hdl hii
       clear hp hp2 htp hrs
       cases rs with
       | nil =>
         have hin : isInc x = false := hii
         have hb0 : bs [] = ⟨#[]⟩ := rfl
         rw [hb0] at HCP
         have HLR := hide (show r = ruleF si x from HLN.out.trans (if_neg (by rw [hin]; simp)))
         have HRU := hide (rule_any w0 C g si dp Si _ HI4.out HF.out.mx k' (by omega) HBi.out.1 x hyl)
         rw [← HLR.out] at HRU
         go_wp2_with fail
         refine (HCP.out _).mono ?_
         rintro e w5 ⟨rfl, rfl⟩
         go_wp2_with fail
         refine HRU.out.mono ?_
         intro e w7 hend
         unfold XE at hend
         rcases r with c | s'
         · dsimp only at hend
           obtain ⟨rfl, s', dx, hx⟩ := hend
           refine ⟨rfl, ?_⟩
           rw [← show Except.error c = R from HRi.out]
           exact ⟨rfl, s', dx, RDP.after HB1.out (RDP.go HKj.out.1 HKj.out.2 hx)⟩
         · dsimp only at hend
           obtain ⟨rfl, S2, hr7, hk7, hg7⟩ := hend
           have hz26 := HKj.out.1.size
           have HI9 := hide hr7
           have HK9 := hide (show Kp w1 w7 S ∧ ∀ q, S2 q → S q ∨ w1.heap.size ≤ q from ⟨HKj.out.1.trans (hk7.mono fun q e => HKj.out.2 q e), fun q e => (hg7 q e).elim (HKj.out.2 q) (fun h => .inr (Nat.le_trans hz26 h))⟩)
           have HR9 := hide (show foldE (lineF fs C.cwd (recR fs C.cwd d)) (L.drop (i + 1)) s' = R from HRi.out)
           obtain ⟨k2, hb2, hq2, _⟩ := HBD.out s' rfl
           have HB9 := hide (show Bd s' k2 ∧ Qs s' k2 + (n - (i + 1)) ≤ 2000000 from ⟨hb2, by have := HBi.out.2; omega⟩)
           clear hz26 hr7 hk7 hg7 hb2 hq2
           go_wp2
           go_roundw
           case rel => exact ⟨i + 1, k2, s', S2, by go_num, by omega, HI9, HK9, HB9, HR9⟩
           case measure => simp [intOf]; omega
       | cons c u =>
         have hem : (bs (c :: u)).toList.isEmpty = false := by rw [ByteArray.toList_eq, bs_list]; rfl
         have hbt : bt (bs (c :: u)) 0 = c.toNat := rfl
         have hsz0 : 0 < (bs (c :: u)).size := by rw [bs_size]; simp
         have HIX := hide (fun W => rixb_any c W)
         have hib := ixb_blank c
         have hii : isInc x = (c == 32 || c == 9) := hii
         obtain ⟨ib, hib2⟩ : ∃ z, (c == 32 || c == 9) = z := ⟨_, rfl⟩
         rw [hib2] at hib hii
         obtain ⟨ix, hix⟩ : ∃ z, Lib.indexByte [32, 9] c = z := ⟨_, rfl⟩
         rw [hix] at HIX hib
         have HCU := hide (show bs (c :: u) = bs (c :: u) from rfl)
         obtain ⟨z, hz⟩ : ∃ z, bs (c :: u) = z := ⟨_, rfl⟩
         rw [hz] at hem hbt hsz0 HCP
         have HZ := hide hz
         have hsz1 : (0 : Int) < (z.size : Int) := by omega
         clear hix hib2 hz HCU
         cases ib with
         | false =>
           have hin : isInc x = false := hii
           have HLR := hide (show r = ruleF si x from HLN.out.trans (if_neg (by rw [hin]; simp)))
           have HRU := hide (rule_any w0 C g si dp Si _ HI4.out HF.out.mx k' (by omega) HBi.out.1 x hyl)
           rw [← HLR.out] at HRU
           go_wp2_with fail
           refine (HCP.out _).mono ?_
           rintro e w5 ⟨rfl, rfl⟩
           go_wp2_with fail
           refine (HIX.out _).mono ?_
           rintro e w6 ⟨rfl, rfl⟩
           go_wp2_with fail
           refine HRU.out.mono ?_
           intro e w7 hend
           unfold XE at hend
           rcases r with c | s'
           · dsimp only at hend
             obtain ⟨rfl, s', dx, hx⟩ := hend
             refine ⟨rfl, ?_⟩
             rw [← show Except.error c = R from HRi.out]
             exact ⟨rfl, s', dx, RDP.after HB1.out (RDP.go HKj.out.1 HKj.out.2 hx)⟩
           · dsimp only at hend
             obtain ⟨rfl, S2, hr7, hk7, hg7⟩ := hend
             have hz26 := HKj.out.1.size
             have HI9 := hide hr7
             have HK9 := hide (show Kp w1 w7 S ∧ ∀ q, S2 q → S q ∨ w1.heap.size ≤ q from ⟨HKj.out.1.trans (hk7.mono fun q e => HKj.out.2 q e), fun q e => (hg7 q e).elim (HKj.out.2 q) (fun h => .inr (Nat.le_trans hz26 h))⟩)
             have HR9 := hide (show foldE (lineF fs C.cwd (recR fs C.cwd d)) (L.drop (i + 1)) s' = R from HRi.out)
             obtain ⟨k2, hb2, hq2, _⟩ := HBD.out s' rfl
             have HB9 := hide (show Bd s' k2 ∧ Qs s' k2 + (n - (i + 1)) ≤ 2000000 from ⟨hb2, by have := HBi.out.2; omega⟩)
             clear hz26 hr7 hk7 hg7 hb2 hq2
             go_wp2
             go_roundw
             case rel => exact ⟨i + 1, k2, s', S2, by go_num, by omega, HI9, HK9, HB9, HR9⟩
             case measure => simp [intOf]; omega
         | true =>
           have HLR := hide (show r = (match expS si.mac (c :: u) with | .error e => .error e | .ok t => inclF fs C.cwd (recR fs C.cwd d) (wordsF t []) si) from HLN.out.trans (if_pos hii))
           have HIN := hide (show Calls Tryz.prog _ _ _ (XE w0 C g ((10 : Int) - (d : Nat)) Si _ (match expS si.mac (c :: u) with | .error e => .error e | .ok t => inclF fs C.cwd (recR fs C.cwd d) (wordsF t []) si)) from include_any w0 C g fs d HF.out HT.out hd si Si _ (HDP.out ▸ HI4.out) k' HBi.out.1 (by have := HBi.out.2; omega) (c :: u) hdl)
           rw [← HLR.out, HDP.out, HZ.out] at HIN
           go_wp2_with fail
           refine (HCP.out _).mono ?_
           rintro e w5 ⟨rfl, rfl⟩
           go_wp2_with fail
           refine (HIX.out _).mono ?_
           rintro e w6 ⟨rfl, rfl⟩
           go_wp2_with fail
           refine HIN.out.mono ?_
           intro e w7 hend
           unfold XE at hend
           rcases r with c | s'
           · dsimp only at hend
             obtain ⟨rfl, s', dx, hx⟩ := hend
             refine ⟨rfl, ?_⟩
             rw [← show Except.error c = R from HRi.out]
             exact ⟨rfl, s', dx, RDP.after HB1.out (RDP.go HKj.out.1 HKj.out.2 hx)⟩
           · dsimp only at hend
             obtain ⟨rfl, S2, hr7, hk7, hg7⟩ := hend
             have hz26 := HKj.out.1.size
             have HI9 := hide hr7
             have HK9 := hide (show Kp w1 w7 S ∧ ∀ q, S2 q → S q ∨ w1.heap.size ≤ q from ⟨HKj.out.1.trans (hk7.mono fun q e => HKj.out.2 q e), fun q e => (hg7 q e).elim (HKj.out.2 q) (fun h => .inr (Nat.le_trans hz26 h))⟩)
             have HR9 := hide (show foldE (lineF fs C.cwd (recR fs C.cwd d)) (L.drop (i + 1)) s' = R from HRi.out)
             obtain ⟨k2, hb2, hq2, _⟩ := HBD.out s' rfl
             have HB9 := hide (show Bd s' k2 ∧ Qs s' k2 + (n - (i + 1)) ≤ 2000000 from ⟨hb2, by have := HBi.out.2; omega⟩)
             clear hz26 hr7 hk7 hg7 hb2 hq2
             go_wp2
             go_roundw
             case rel => exact ⟨i + 1, k2, s', S2, by go_num, by omega, HI9, HK9, HB9, HR9⟩
             case measure => simp [intOf]; omega
     · rintro e w3 ⟨rfl, hb3⟩
       dsimp only [encD]
       obtain ⟨⟨hd1, hd2⟩, hd3⟩ := HDL.out _ rfl
       dsimp only at hd1 hd2 hd3
       have hb4 := hb3.trans (((Below.refl w3.heap.size w3).alloc (Nat.le_refl _) (.cells #[.string (bs dn), .string (bs do'), .string (bs dv)] 145)).mono hb3.size)
       have HI4 := hide (HIx.out.step hb4)
       have HKj := hide (And.intro (HKx.out.1.trans (Kp.of_below hb4 _)) HKx.out.2)
       have HDF := hide (define_any w0 C g si dp Si _ HI4.out HF.out.mx k' (by omega) HBi.out.1 dn do' dv hd1 hd3 (by omega))
       dsimp only [encD] at HDF
       rw [← show r = defineF si dn do' dv from HLN.out] at HDF
       clear hd1 hd2 hd3 hb4 hb3 HDL HDE
       go_wp2_with fail
       refine HDF.out.mono ?_
       intro e w7 hend
       unfold XE at hend
       rcases r with c | s'
       · dsimp only at hend
         obtain ⟨rfl, s', dx, hx⟩ := hend
         refine ⟨rfl, ?_⟩
         rw [← show Except.error c = R from HRi.out]
         exact ⟨rfl, s', dx, RDP.after HB1.out (RDP.go HKj.out.1 HKj.out.2 hx)⟩
       · dsimp only at hend
         obtain ⟨rfl, S2, hr7, hk7, hg7⟩ := hend
         have hz26 := HKj.out.1.size
         have HI9 := hide hr7
         have HK9 := hide (show Kp w1 w7 S ∧ ∀ q, S2 q → S q ∨ w1.heap.size ≤ q from ⟨HKj.out.1.trans (hk7.mono fun q e => HKj.out.2 q e), fun q e => (hg7 q e).elim (HKj.out.2 q) (fun h => .inr (Nat.le_trans hz26 h))⟩)
         have HR9 := hide (show foldE (lineF fs C.cwd (recR fs C.cwd d)) (L.drop (i + 1)) s' = R from HRi.out)
         obtain ⟨k2, hb2, hq2, _⟩ := HBD.out s' rfl
         have HB9 := hide (show Bd s' k2 ∧ Qs s' k2 + (n - (i + 1)) ≤ 2000000 from ⟨hb2, by have := HBi.out.2; omega⟩)
         clear hz26 hr7 hk7 hg7 hb2 hq2
         go_wp2
         go_roundw
         case rel => exact ⟨i + 1, k2, s', S2, by go_num, by omega, HI9, HK9, HB9, HR9⟩
         case measure => simp [intOf]; omega
theorem rtext_all (w0 : World) (C : Rk) (g : Nat) (fs : St) (hf : RF w0 C fs) : ∀ d : Nat, d ≤ 10 → TextC w0 C g fs d
 | 0, h => text_step w0 C g fs 0 hf (fun d' e => by omega) h
 | d + 1, h => text_step w0 C g fs (d + 1) hf (fun d' e => by obtain rfl : d = d' := (by omega); exact rtext_all w0 C g fs hf d (by omega)) h
end
section
open Go.RowKit Go.Deep Go.Maps Ln Pth Vf Rd Mc
theorem rassert_wrong (c : Int) (w : World) : (Instr.typeAssert (.iface 82 (.agg #[.int .i64 c])) 20 82 true).run Tryz.prog w = .ok (.tuple #[.agg #[.int .i64 c], .bool true]) w := by kernel_rfl
theorem rcatch_panicking (p q : Nat) (x0 x1 : Value) (y : Int) (c : Nat) (w : World) (hp : w.cell? ⟨p, 0, none⟩ = some x0) (hp1 : w.cell? ⟨p, 1, none⟩ = some x1) (hq : w.cell? ⟨q, 0, none⟩ = some (.int .i64 y)) (zp : w.frozen? ⟨p, 0, none⟩ = false) (zp1 : w.frozen? ⟨p, 1, none⟩ = false) (zq : w.frozen? ⟨q, 0, none⟩ = false) (hne : p ≠ q) :
   CallsD Tryz.prog 36 #[.pointer (some ⟨p, 0, none⟩), .pointer (some ⟨q, 0, none⟩)] (.panicking (pwr c)) w fun e u' w' =>
     e = .returned (.tuple #[]) ∧ u' = .panicking [{ v := .iface 82 (.agg #[.int .i64 c]), recovered := true }] ∧ w'.cell? ⟨p, 0, none⟩ = some (.slice none 0 0) ∧ w'.cell? ⟨p, 1, none⟩ = some (.slice none 0 0) ∧ w'.cell? ⟨q, 0, none⟩ = some (.int .i64 c) ∧ Below (min p q) w w' := by
 refine callsD_of_wpS Tryz.func36 rfl fun c₀ cs hu => ?_
 apply wpS_seq
 apply wpS_region
 simp [wpOpsS, go_sem, recoverD, hu, pwr, Tryz.ntmps36, Exit.thenS]
 refine wpS_of_wp (mwp_named fun Q hQ => ?_)
 have HQ := hide hQ
 have hta := fun w => rassert_wrong c w
 have hneq := run_neq_held_nil (P := Tryz.prog) w 20 82 (.agg #[.int .i64 c]) (by kernel_rfl)
 clear hQ hu
 rw [show ((#[.pointer (some ⟨p, 0, none⟩), .pointer (some ⟨q, 0, none⟩)] : Array Value) ++ ((Array.replicate 17 undef).setIfInBounds 3 (.iface 82 (.agg #[.int .i64 c]))).setIfInBounds 0 (.iface 82 (.agg #[.int .i64 c]))) = #[(.pointer (some ⟨p, 0, none⟩)), (.pointer (some ⟨q, 0, none⟩)), (.iface 82 (.agg #[.int .i64 c])), undef, undef, (.iface 82 (.agg #[.int .i64 c])), undef, undef, undef, undef, undef, undef, undef, undef, undef, undef, undef, undef, undef] from rfl]
 have hpl := World.block_lt_of_cell? w _ hp
 have hql := World.block_lt_of_cell? w _ hq
 simp only at hpl hql
 have hpn : ¬ p = w.heap.size := by omega
 have hqn : ¬ q = w.heap.size := by omega
 go_wp2
 go_region
 all_goals
   refine HQ.out _ _ _ ⟨rfl, _, rfl, .tuple #[], by simp [results, Tryz.results36, go_sem], rfl, rfl, ?_, ?_, ?_, ?_⟩
   · go_light
     simp [go_sem, *]
   · go_light
     simp [go_sem, *]
   · go_light
     simp [go_sem, *]
   · go_light
     first
       | exact (((((Below.refl _ _).setCell (Nat.min_le_left p q) _).setCell (Nat.min_le_left p q) _).setCell (Nat.min_le_right p q) _).alloc (by simp; omega) _).drew
       | exact (((((Below.refl _ _).alloc (by omega) _).setCell (Nat.min_le_left p q) _).setCell (Nat.min_le_left p q) _).setCell (Nat.min_le_right p q) _).drew
theorem rcatch_idle (p q : Nat) (w : World) :
   CallsD Tryz.prog 36 #[.pointer (some ⟨p, 0, none⟩), .pointer (some ⟨q, 0, none⟩)] .returning w fun e u' w' => e = .returned (.tuple #[]) ∧ u' = .returning ∧ w = w' := by
 refine callsD_of_wpS Tryz.func36 rfl fun c₀ cs hu => ?_
 apply wpS_seq
 apply wpS_region
 simp [wpOpsS, go_sem, recoverD, hu, Tryz.ntmps36, Exit.thenS]
 refine wpS_of_wp (mwp_named fun Q hQ => ?_)
 have HQ := hide hQ
 have hneq := run_neq_nil_nil (P := Tryz.prog) w 20 (by kernel_rfl)
 have HU := hide hu
 clear hQ hu
 rw [show ((#[.pointer (some ⟨p, 0, none⟩), .pointer (some ⟨q, 0, none⟩)] : Array Value) ++ ((Array.replicate 17 undef).setIfInBounds 3 .nilIface).setIfInBounds 0 .nilIface) = #[(.pointer (some ⟨p, 0, none⟩)), (.pointer (some ⟨q, 0, none⟩)), .nilIface, undef, undef, .nilIface, undef, undef, undef, undef, undef, undef, undef, undef, undef, undef, undef, undef, undef] from rfl]
 go_wp2
 refine HQ.out _ _ _ ⟨rfl, .returning, ?_, .tuple #[], by simp [results, Tryz.results36, go_sem], rfl, rfl, rfl⟩
 have := HU.out
 go_light
 cases c₀
 simp_all
end
section
open Go.RowKit Go.Deep Go.Maps
theorem setB_kp {w : World} {b : Nat} {o : Obj} (h : b < w.heap.size) : Kp w (ChangeMaps.setBlock w b o) (fun k => k = b) ∧ (ChangeMaps.setBlock w b o).heap.size = w.heap.size ∧ (ChangeMaps.setBlock w b o).heap[b]? = some o := by
 refine ⟨⟨rfl, rfl, rfl, by simp [ChangeMaps.setBlock], fun k hk hne => ?_⟩, by simp [ChangeMaps.setBlock], ?_⟩
 · simp only [ChangeMaps.setBlock]
   rw [Array.getElem?_setIfInBounds]
   rw [if_neg (fun e => hne e.symm)]
 · simp only [ChangeMaps.setBlock]
   rw [Array.getElem?_setIfInBounds]
   simp [h]
theorem sentry {w : World} {b : Nat} {P : KV ByteArray} (h : MapS w b P) (hr : RiseG P) (hl : P.length ≤ 1000000) {s : ByteArray} (hs : s.size ≤ 9223372036854775807) :
   ∃ (v0 : Value) (st : Nat) (w1 : World), (Instr.mapEntry 76 (.map (some b)) (.string s)).run Tryz.prog w = .ok (.tuple #[v0, .int .i64 st]) w1 ∧ Kp w w1 (fun k => k = b) ∧ w1.heap.size = w.heap.size ∧
     ∀ (w2 : World) (e : ByteArray), w2.heap[b]? = w1.heap[b]? → ∃ w3, (Instr.entryStore 76 (.map (some b)) (.int .i64 st) (.string e)).run Tryz.prog w2 = .ok () w3 ∧ MapS w3 b (putG (s, e) P) ∧ Kp w2 w3 (fun k => k = b) ∧ w3.heap.size = w2.heap.size := by
 have hlt := h.lt
 obtain ⟨es, clock, hb, F, h3, h4⟩ := id h
 obtain ⟨v0, st, es1, clock1, h5, _, h6⟩ := Go.WideElems.entry_then_store (Go.WideMaps.string_law Tryz.underlying9) Tryz.underlying76 (z := .string ⟨#[]⟩) (fun u => szeroS u) hb F (bkey hs)
 obtain ⟨k1, k2, k3⟩ := setB_kp (o := .map es1 clock1) hlt
 refine ⟨v0, st, _, h5, k1, k2, fun w2 e hw2 => ?_⟩
 rw [k3] at hw2
 obtain ⟨es', clock', r1, r2⟩ := h6 w2 (.string e) hw2
 have hlt2 : b < w2.heap.size := (Array.getElem?_eq_some_iff.1 hw2).1
 obtain ⟨j1, j2, j3⟩ := setB_kp (o := .map es' clock') hlt2
 refine ⟨_, r1, ?_, j1, j2⟩
 obtain ⟨w', q1, q2, _, _⟩ := sstoreS h hr hl hs e
 rw [r2] at q1
 injection q1 with _ q1
 subst q1
 exact q2.of (j3.trans (setB_kp (o := .map es' clock') hlt).2.2.symm)
theorem bentry {w : World} {b : Nat} {l : List ByteArray} (h : MSet w b l) (hl : l.length ≤ 1000000) {s : ByteArray} (hs : s.size ≤ 9223372036854775807) :
   ∃ (v0 : Value) (st : Nat) (w1 : World), (Instr.mapEntry 77 (.map (some b)) (.string s)).run Tryz.prog w = .ok (.tuple #[v0, .int .i64 st]) w1 ∧ Kp w w1 (fun k => k = b) ∧ w1.heap.size = w.heap.size ∧
     ∀ (w2 : World), w2.heap[b]? = w1.heap[b]? → ∃ w3, (Instr.entryStore 77 (.map (some b)) (.int .i64 st) (.bool true)).run Tryz.prog w2 = .ok () w3 ∧ MSet w3 b (l ++ [s]) ∧ Kp w2 w3 (fun k => k = b) ∧ w3.heap.size = w2.heap.size := by
 have hlt := h.lt
 obtain ⟨P, ⟨es, clock, hb, F, h3, h4⟩, _⟩ := id h
 obtain ⟨v0, st, es1, clock1, h5, _, h6⟩ := Go.WideElems.entry_then_store (Go.WideMaps.string_law Tryz.underlying9) Tryz.underlying77 (z := .bool false) (fun u => bzero u) hb F (bkey hs)
 obtain ⟨k1, k2, k3⟩ := setB_kp (o := .map es1 clock1) hlt
 refine ⟨v0, st, _, h5, k1, k2, fun w2 hw2 => ?_⟩
 rw [k3] at hw2
 obtain ⟨es', clock', r1, r2⟩ := h6 w2 (.bool true) hw2
 have hlt2 : b < w2.heap.size := (Array.getElem?_eq_some_iff.1 hw2).1
 obtain ⟨j1, j2, j3⟩ := setB_kp (o := .map es' clock') hlt2
 refine ⟨_, r1, ?_, j1, j2⟩
 obtain ⟨w', q1, q2, _, _⟩ := h.add hl hs
 rw [r2] at q1
 injection q1 with _ q1
 subst q1
 exact q2.of (j3.trans (setB_kp (o := .map es' clock') hlt).2.2.symm)
end
section
open Go.RowKit Go.Deep Go.Maps Ln Pth Vf Rd Mc
def zeroS : Sx := ⟨[], [], [], 0⟩
theorem RD.made (w0 : World) (gf : Nat) (cwd : T) :
   RD w0 ⟨gf, cwd, w0.heap.size, w0.heap.size + 1⟩ (w0.heap.size + 2) zeroS 0 (fun k => w0.heap.size ≤ k ∧ k < w0.heap.size + 3) (((w0.alloc (.map #[] 0)).alloc (.map #[] 0)).alloc (.cells (rcells ⟨gf, cwd, w0.heap.size, w0.heap.size + 1⟩ (.slice none 0 0) 0 0) rty)) := by
 have hz1 : (w0.alloc (.map #[] 0)).heap.size = w0.heap.size + 1 := by simp
 have hz2 : ((w0.alloc (.map #[] 0)).alloc (.map #[] 0)).heap.size = w0.heap.size + 2 := by simp
 have hz3 : (((w0.alloc (.map #[] 0)).alloc (.map #[] 0)).alloc (.cells (rcells ⟨gf, cwd, w0.heap.size, w0.heap.size + 1⟩ (.slice none 0 0) 0 0) rty)).heap.size = w0.heap.size + 3 := by simp
 have h1 := MapS.made w0
 have h2 := MSet.made (w0.alloc (.map #[] 0))
 rw [hz1] at h2
 have h3 := heapNew ((w0.alloc (.map #[] 0)).alloc (.map #[] 0)) (.cells (rcells ⟨gf, cwd, w0.heap.size, w0.heap.size + 1⟩ (.slice none 0 0) 0 0) rty)
 rw [hz2] at h3
 refine ⟨(((Below.refl w0.heap.size w0).alloc (Nat.le_refl _) _).alloc (by rw [hz1]; omega) _).alloc (by rw [hz2]; omega) _, fun k hk => ⟨hk.1, by rw [hz3]; exact hk.2⟩, ⟨by omega, by omega⟩, ⟨Nat.le_refl _, by dsimp only; omega⟩, ⟨by dsimp only; omega, by dsimp only; omega⟩, ⟨by dsimp only; omega, by dsimp only; omega, by dsimp only; omega⟩, ?_, RiseG.nil, ?_, .slice none 0 0, [], h3, ?_, fun k e => (by cases e), rfl, (fun r hr => by cases hr), (fun r hr => by cases hr), (fun r hr => by cases hr)⟩
 · exact (h1.of (Below.heap_alloc _ _ _ (by rw [hz1]; omega))).of (Below.heap_alloc _ _ _ (by rw [hz2]; omega))
 · exact h2.of (Below.heap_alloc _ _ _ (by rw [hz2]; omega))
 · exact World.ownsRow_nil _ _ _ _
theorem RD.givS {w0 w w' : World} {C : Rk} {g : Nat} {s : Sx} {deep : Int} {S : Nat → Prop} (h : RD w0 C g s deep S w) {L : List T} (hm : MSet w' C.bg (L.map bs)) (hk : Kp w w' (fun k => k = C.bg)) (hz : w'.heap.size = w.heap.size) : RD w0 C g { s with giv := L } deep S w' := by
 obtain ⟨vr, rl, h1, h2, h3, h4, h5, h6, h7⟩ := h.body
 have hl := fun k hk => (h.sw k hk).2
 have hkS : Kp w w' S := hk.mono fun k e => e ▸ h.sh
 refine ⟨hk.below h.below (Nat.le_refl _) (fun k e => by subst e; exact (h.sw _ h.sh).1), fun k q => ⟨(h.sw k q).1, by rw [hz]; exact hl k q⟩, h.sg, h.sm, h.sh, h.gne, h.mac.of (hk.block _ (hl _ h.sm) h.gne.2.2), h.rise, hm, vr, rl, (hk.block g (hl g h.sg) h.gne.2.1).trans h1, ?_, h3, h4, fun r hr => ⟨(h5 r hr).1.kp hkS, (h5 r hr).2.kp hkS⟩, fun r hr => (h6 r hr).kp hkS, fun r hr => ⟨?_, (h7 r hr).2⟩⟩
 · exact ownsRow_of h2 fun k e => hk.block k (hl k (h3 k e).1) (h3 k e).2.2.2
 · exact ownsRow_of (h7 r hr).1 fun k e => hk.block k (hl k ((h7 r hr).2 k e).1) ((h7 r hr).2 k e).2.2.2.1
end
section
open Go.RowKit Go.Deep Go.Maps Ln Pth Vf Rd Mc
theorem rmkS (w : World) : (Instr.makeMap 76 none).run Tryz.prog w = .ok (.map (some w.heap.size)) (w.alloc (.map #[] 0)) := by kernel_rfl
theorem rmkB (w : World) : (Instr.makeMap 77 none).run Tryz.prog w = .ok (.map (some w.heap.size)) (w.alloc (.map #[] 0)) := by kernel_rfl
attribute [local go_sem] rmkS rmkB
theorem leaves_congr {P : Program} {fn : Func} {t1 t2 : Array Value} {R : Ending → World → Prop} (h : results fn t1 = results fn t2) : ∀ (ds : List Deferred) (u : FrameMode) (w : World), Leaves P fn t1 R ds u w → Leaves P fn t2 R ds u w
 | [], .returning, w, ⟨v, e, r⟩ => ⟨v, h ▸ e, r⟩
 | [], .panicking chain, w, q => q
 | [], .run, w, q => q
 | d :: ds, u, w, ⟨hu, fv, cap, f, args, h1, h2, h3⟩ => ⟨hu, fv, cap, f, args, h1, h2, h3.mono fun e u' w' q => by
   cases e with
   | returned v => exact leaves_congr h ds _ _ q
   | panicked c => exact leaves_congr h ds _ _ q
   | outgrown => exact q⟩
theorem res_put (t : Array Value) (d : Nat) (v : Value) (h : d ≠ 8 ∧ d ≠ 9) : results Tryz.f13 (t.setIfInBounds d v) = results Tryz.f13 t := by
 have e : ∀ k, k ≠ d → (t.setIfInBounds d v)[k]? = t[k]? := fun k hk => Array.getElem?_setIfInBounds_ne (Ne.symm hk)
 simp [results, Tryz.results13, e 8 (fun q => h.1 q.symm), e 9 (fun q => h.2 q.symm)]
theorem bpdR {R : Ending → World → Prop} {d : Nat} {v : Value} {c : List PanicEntry} {a : Act} {w : World} (hd : d ≠ 8 ∧ d ≠ 9) (h : bodyPostD Tryz.prog Tryz.f13 R (.panic c) (a.put (some d) v) w) : bodyPostD Tryz.prog Tryz.f13 R (.panic c) a w :=
 leaves_congr (res_put a.tmps d v hd) _ _ _ h
def MkEnd (w : World) (r : Except Nat Sx) (e : Ending) (w' : World) : Prop := (match r with
 | .error c => e = .returned (.tuple #[.agg #[.slice none 0 0, .slice none 0 0], .int .i64 c])
 | .ok s => ∃ pA pc rA rc rl, e = .returned (.tuple #[.agg #[.slice pA s.mac.length pc, .slice rA s.rules.length rc], .int .i64 0]) ∧ PR w' pA s.mac ∧ RG encRl 3 w' rA rl ∧ rl.map outR = s.rules.map ofRS ∧ ∀ r ∈ rl, SR w' r.tg.1 r.tg.2.2 ∧ SR w' r.nd.1 r.nd.2.2 ∧ SR w' r.rc.1 r.rc.2.2) ∧ Below w.heap.size w w'
theorem zeroS_bd : Bd zeroS 0 := ⟨fun x hx => (by cases hx), fun x hx => (by cases hx), RiseG.nil, by simp [zeroS], fun r hr => (by cases hr), by simp [zeroS], by simp [zeroS]⟩
def givP (s : Sx) (p : ByteArray × ByteArray) : Sx := if nameF p.1.data.toList then { s with mac := putG p s.mac, giv := s.giv ++ [p.1.data.toList] } else s
def givG (G : KV ByteArray) : Sx := G.foldl givP zeroS
theorem givG_snoc (G : KV ByteArray) (p : ByteArray × ByteArray) : givG (G ++ [p]) = givP (givG G) p := by simp [givG, List.foldl_append]
theorem nameF_len {t : T} (h : nameF t = true) : t.length ≤ 60 := by
 unfold nameF at h
 simp only [Bool.and_eq_true, decide_eq_true_eq] at h
 exact h.1.2
theorem givP_bd {s : Sx} (h : Bd s 0) (p : ByteArray × ByteArray) (hv : p.2.size ≤ 40000) (n : Nat) (hc : s.mac.length ≤ n) (hg : s.giv.length ≤ n) (hn : n < 1000) (hf : s.files = 0) : Bd (givP s p) 0 ∧ (givP s p).mac.length ≤ n + 1 ∧ (givP s p).giv.length ≤ n + 1 ∧ (givP s p).files = 0 := by
 unfold givP
 by_cases hx : nameF p.1.data.toList = true
 · rw [if_pos hx]
   have hl := nameF_len hx
   have hlen : (putG p s.mac).length ≤ n + 1 := by
     rw [putG_len _ h.rise]
     split <;> omega
   refine ⟨⟨fun x hx => ?_, fun x hx => ?_, h.rise.put _, Nat.le_trans hlen (by omega), h.rc, h.rl, h.fl⟩, hlen, ?_, hf⟩
   · rcases mem_putG hx with rfl | hx
     · omega
     · exact h.mac x hx
   · rcases mem_putG hx with rfl | hx
     · rw [data_len] at hl; exact hl
     · exact h.nam x hx
   · simp; omega
 · rw [if_neg hx]
   exact ⟨h, by omega, by omega, hf⟩
theorem givG_bd : ∀ (G : KV ByteArray), (∀ x ∈ G, x.2.size ≤ 40000) → ∀ n ≤ 1000, n ≤ G.length → Bd (givG (G.take n)) 0 ∧ (givG (G.take n)).mac.length ≤ n ∧ (givG (G.take n)).giv.length ≤ n ∧ (givG (G.take n)).files = 0
 | G, h, 0, _, _ => by
   rw [List.take_zero]
   exact ⟨zeroS_bd, by simp [givG, zeroS], by simp [givG, zeroS], rfl⟩
 | G, h, n + 1, hn, hg => by
   obtain ⟨h1, h2, h3, h4⟩ := givG_bd G h n (by omega) (by omega)
   have e : G.take (n + 1) = G.take n ++ [G[n]] := by rw [List.take_succ_eq_append_getElem (by omega)]
   rw [e, givG_snoc]
   exact givP_bd h1 _ (h _ (List.getElem_mem _)) n h2 h3 (by omega) h4
theorem nostr {w : World} {z : Nat} {cs : Array Value} {T : TypeId} {r : Nat × Nat} (h : w.heap[z]? = some (.cells cs T r)) (hc : ∀ v ∈ cs.toList, ∀ s, v ≠ .string s) : ∀ j s, w.cell? ⟨z, j, none⟩ ≠ some (.string s) := by
 intro j s e
 unfold World.cell? at e
 simp only [h] at e
 have : cs[j]? = some (.string s) := e
 exact hc _ (by simpa using Array.mem_of_getElem? this) s rfl
theorem SR.far {w w' : World} {A : Option Addr} {L : List ByteArray} (h : SR w A L) (hs : w.heap.size ≤ w'.heap.size) (Z : Nat → Prop) (hk : ∀ k, k < w.heap.size → ¬ Z k → w'.heap[k]? = w.heap[k]?) (hz : ∀ z, Z z → ∀ j s, w.cell? ⟨z, j, none⟩ ≠ some (.string s)) : SR w' A L :=
 h.ofK hs fun a e hne hl => hk _ hl fun hZ => by
   cases L with
   | nil => exact hne rfl
   | cons x L =>
     obtain ⟨g, o, e2, hg, h1⟩ := h 0 x rfl
     rw [e] at e2
     injection e2 with e2
     subst e2
     exact hz _ hZ _ _ h1
theorem PR.far {w w' : World} {A : Option Addr} {P : List Pr} (h : PR w A P) (hs : w.heap.size ≤ w'.heap.size) (Z : Nat → Prop) (hk : ∀ k, k < w.heap.size → ¬ Z k → w'.heap[k]? = w.heap[k]?) (hz : ∀ z, Z z → ∀ j s, w.cell? ⟨z, j, none⟩ ≠ some (.string s)) : PR w' A P := by
 cases P with
 | nil => exact PR.nil _ _
 | cons x P =>
   refine h.of hs fun a e hl => hk _ hl fun hZ => ?_
   obtain ⟨g, o, e2, hg, h1, _⟩ := h 0 x rfl
   rw [e] at e2
   injection e2 with e2
   subst e2
   exact hz _ hZ _ _ h1
theorem RD.told {w0 w w' : World} {C : Rk} {g : Nat} {s : Sx} {deep : Int} {S : Nat → Prop} (h : RD w0 C g s deep S w) {A : Option Addr} {n c : Nat} (h4 : w.cell? ⟨g, 4, none⟩ = some (.slice A n c)) (hs : w.heap.size ≤ w'.heap.size) (Z : Nat → Prop) (hZ : ∀ k, Z k → k < w0.heap.size) (hk : ∀ k, k < w.heap.size → ¬ Z k → w'.heap[k]? = w.heap[k]?) (hz : ∀ z, Z z → ∀ j s, w.cell? ⟨z, j, none⟩ ≠ some (.string s)) :
   ∃ rl, n = s.rules.length ∧ RG encRl 3 w' A rl ∧ rl.map outR = s.rules.map ofRS ∧ ∀ r ∈ rl, SR w' r.tg.1 r.tg.2.2 ∧ SR w' r.nd.1 r.nd.2.2 ∧ SR w' r.rc.1 r.rc.2.2 := by
 obtain ⟨vr, rl, h1, h2, h3, h5, h6, h7, h8⟩ := h.body
 have e : vr = .slice A n c := by
   have : w.cell? ⟨g, 4, none⟩ = some vr := cellOf h1 rfl
   rw [this] at h4
   exact Option.some.inj h4
 subst e
 have h2' : OwnG encRl 3 ruty w' w0.heap.size (.slice A n c) rl := ownsRow_of h2 fun k e => hk k (h.sw k (h3 k e).1).2 fun q => by have := hZ k q; have := (h.sw k (h3 k e).1).1; omega
 obtain ⟨A', c', e, _, hr, _, _⟩ := h2'.slice encRl_len
 injection e with e1 e2 e3
 subst e1
 refine ⟨rl, e2.trans (rl_len h5), hr, h5, fun r hr => ⟨(h6 r hr).1.1.far hs Z hk hz, (h6 r hr).2.1.far hs Z hk hz, ?_⟩⟩
 have hsp : r ∈ rl.dropLast ∨ rl.getLast? = some r := by
   have hne : rl ≠ [] := by rintro rfl; cases hr
   have e := List.dropLast_concat_getLast hne
   rw [← e] at hr
   rcases List.mem_append.1 hr with q | q
   · exact .inl q
   · exact .inr (by rw [List.getLast?_eq_some_getLast hne, List.mem_singleton.1 q])
 rcases hsp with q | q
 · exact (h7 r q).1.far hs Z hk hz
 · obtain ⟨A', c', e, _, hs', _⟩ := (h8 r q).1.slice
   unfold sv at e
   injection e with e1 e2 e3
   subst e1
   exact hs'.far hs Z hk hz
theorem rread_any (gf : Nat) (fs : St) (cwd t : T) (w : World) (hfs : Hs (VS gf fs) w) (hwf : WfS fs) (hm : MX w) (hc : cwd.length ≤ 6600000) (ht : t.length ≤ 9000000000000000000)
   (G : KV ByteArray) (gA : Option Addr) (gc : Nat) (hG : PR w gA G) (hGl : G.length ≤ 900) (hGs : ∀ x ∈ G, x.1.size ≤ 1000000 ∧ x.2.size ≤ 40000) :
   Calls Tryz.prog 13 #[.pointer (some ⟨gf, 0, none⟩), .string (bs cwd), .string (bs t), .slice gA G.length gc] w (MkEnd w (textR fs cwd 10 (givG G) t)) := by
 have hmf : ∀ (fn : Fn) (first cap : Array Value) (w : World), (Instr.makeFunc fn first cap).run Tryz.prog w = .ok (.func fn first cap) w := fun _ _ _ _ => rfl
 have hb2 : Below w.heap.size w ((w.alloc (.cells #[.slice none 0 0, .slice none 0 0] 28)).alloc (.cells #[.int .i64 0] 29)) := ((Below.refl _ _).alloc (Nat.le_refl _) _).alloc (by simp) _
 have hz : ((w.alloc (.cells #[.slice none 0 0, .slice none 0 0] 28)).alloc (.cells #[.int .i64 0] 29)).heap.size = w.heap.size + 2 := by simp
 have hp0 : ((w.alloc (.cells #[.slice none 0 0, .slice none 0 0] 28)).alloc (.cells #[.int .i64 0] 29)).cell? ⟨w.heap.size, 0, none⟩ = some (.slice none 0 0) := by simp [go_sem]
 have hp1 : ((w.alloc (.cells #[.slice none 0 0, .slice none 0 0] 28)).alloc (.cells #[.int .i64 0] 29)).cell? ⟨w.heap.size, 1, none⟩ = some (.slice none 0 0) := by simp [go_sem]
 have hq0 : ((w.alloc (.cells #[.slice none 0 0, .slice none 0 0] 28)).alloc (.cells #[.int .i64 0] 29)).cell? ⟨w.heap.size + 1, 0, none⟩ = some (.int .i64 0) := by simp [go_sem]
 have zp0 : ((w.alloc (.cells #[.slice none 0 0, .slice none 0 0] 28)).alloc (.cells #[.int .i64 0] 29)).frozen? ⟨w.heap.size, 0, none⟩ = false := by simp [go_sem]
 have zp1 : ((w.alloc (.cells #[.slice none 0 0, .slice none 0 0] 28)).alloc (.cells #[.int .i64 0] 29)).frozen? ⟨w.heap.size, 1, none⟩ = false := by simp [go_sem]
 have zq0 : ((w.alloc (.cells #[.slice none 0 0, .slice none 0 0] 28)).alloc (.cells #[.int .i64 0] 29)).frozen? ⟨w.heap.size + 1, 0, none⟩ = false := by simp [go_sem]
 have hh0 : ((w.alloc (.cells #[.slice none 0 0, .slice none 0 0] 28)).alloc (.cells #[.int .i64 0] 29)).heap[w.heap.size]? = some (.cells #[.slice none 0 0, .slice none 0 0] 28) := (Below.heap_alloc _ _ _ (by simp)).trans (heapNew w _)
 have hh1 : ((w.alloc (.cells #[.slice none 0 0, .slice none 0 0] 28)).alloc (.cells #[.int .i64 0] 29)).heap[w.heap.size + 1]? = some (.cells #[.int .i64 0] 29) := by
   have := heapNew (w.alloc (.cells #[.slice none 0 0, .slice none 0 0] 28)) (.cells #[.int .i64 0] 29)
   simpa using this
 obtain ⟨wb, hwb⟩ : ∃ W, (w.alloc (.cells #[.slice none 0 0, .slice none 0 0] 28)).alloc (.cells #[.int .i64 0] 29) = W := ⟨_, rfl⟩
 rw [hwb] at hp0 hp1 hq0 zp0 zp1 zq0 hb2 hz hh0 hh1
 have HH := hide (And.intro hh0 hh1)
 have HWB := hide hwb
 have HB2 := hide hb2
 have HP := hide (And.intro (And.intro hp0 hp1) (And.intro hq0 (And.intro zp0 (And.intro zp1 zq0))))
 have hrd := RD.made wb gf cwd
 have hrf : RF wb ⟨gf, cwd, wb.heap.size, wb.heap.size + 1⟩ fs := ⟨hm.below hb2, hfs.below (VS.fr gf fs) hb2, hwf, hc⟩
 have HPR := hide (show ∀ W, Below wb.heap.size wb W → PR W gA G from fun W hb => (hG.below hb2).below hb)
 obtain ⟨wx, hwx⟩ : ∃ W, ((wb.alloc (.map #[] 0)).alloc (.map #[] 0)).alloc (.cells (rcells ⟨gf, cwd, wb.heap.size, wb.heap.size + 1⟩ (.slice none 0 0) 0 0) rty) = W := ⟨_, rfl⟩
 rw [hwx] at hrd
 have HWX := hide hwx
 have HRF := hide hrf
 have HGB := hide (givG_bd G (fun x hx => (hGs x hx).2))
 have HGS := hide hGs
 have HTX := hide (fun W (hrd : RD wb ⟨gf, cwd, wb.heap.size, wb.heap.size + 1⟩ (wb.heap.size + 2) (givG G) 0 (fun k => wb.heap.size ≤ k ∧ k < wb.heap.size + 3) W) (hbd : Bd (givG G) 0) => rtext_all wb _ (wb.heap.size + 2) fs hrf 10 (by omega) (givG G) _ W 0 t hrd hbd (by unfold Qs; omega) ht)
 obtain ⟨R, hR⟩ : ∃ z, textR fs cwd 10 (givG G) t = z := ⟨_, rfl⟩
 dsimp only at HTX
 have HKE := hide (fun sf (h : R = .ok sf) => by
   obtain ⟨k', hb, _⟩ := keeps_text fs cwd 10 (givG G) 0 t sf (by
     have := (givG_bd G (fun x hx => (hGs x hx).2) G.length (by omega) (Nat.le_refl _)).1
     rwa [List.take_length] at this) (hR.trans h)
   exact hb.cnt)
 rw [hR] at HTX ⊢
 have HRD := hide hrd
 obtain ⟨n, hn⟩ : ∃ n, G.length = n := ⟨_, rfl⟩
 have HN := hide hn
 rw [hn] at hGl ⊢
 have HZ := hide hz
 clear hrd hrf hm hfs hwf hb2 hwb hwx hR hG hGs hn hp0 hp1 hq0 zp0 zp1 zq0 hh0 hh1
 go_enter_defers Tryz.func13, Tryz.ntmps13
 go_wp2
 rw [HWB.out]
 rw [show w.heap.size + 1 + 1 = wb.heap.size from HZ.out.symm, show wb.heap.size + 1 + 1 = wb.heap.size + 2 from rfl]
 rw [show ((wb.alloc (.map #[] 0)).alloc (.map #[] 0)).alloc (.cells #[.pointer (some ⟨gf, 0, none⟩), .string (bs cwd), .map (some wb.heap.size), .map (some (wb.heap.size + 1)), .slice none 0 0, .int .i64 0, .int .i64 0] rty) = wx from HWX.out]
 obtain ⟨bm, hbm⟩ : ∃ z, wb.heap.size = z := ⟨_, rfl⟩
 have HBM := hide hbm
 rw [hbm] at HTX HRD ⊢
 obtain ⟨S, hS⟩ : ∃ z, (fun k => bm ≤ k ∧ k < bm + 3) = z := ⟨_, rfl⟩
 have HS := hide hS
 rw [hS] at HTX HRD
 clear hbm hS
 go_loopw [12, 21] (fun _ v21 wr => ∃ i : Nat, v21 = .int .i64 i ∧ i ≤ n ∧ Hid (RD wb ⟨gf, cwd, bm, bm + 1⟩ (bm + 2) (givG (G.take i)) 0 S wr)) (fun _ v21 _ => n - (intOf v21).toNat)
 case atStart => exact ⟨0, rfl, by omega, by rw [List.take_zero]; exact HRD⟩
 case round =>
   obtain ⟨i, rfl, hi, HI⟩ := hrel
   by_cases hlt : i < n
   case neg =>
     obtain rfl : i = n := by omega
     have hb := (HGB.out i (by omega) (by have := HN.out; omega)).1
     rw [List.take_of_length_le (by have := HN.out; omega)] at HI hb
     have HTT := hide (HTX.out _ HI.out hb)
     clear hb
     go_wp2_with fail
     refine HTT.out.mono ?_
     rintro e w2 hend
     unfold XE at hend
     rcases R with c | sf
     · dsimp only at hend
       obtain ⟨rfl, s', dx, S', hrd, _⟩ := hend
       have HBF := hide (HB2.out.trans (hrd.below.mono (by have := HZ.out; omega)))
       have hk : ∀ k, k < w.heap.size + 2 → w2.heap[k]? = wb.heap[k]? := fun k hk => hrd.below.block k (by have := HZ.out; omega)
       have hp2 := (World.cell?_of_block (a := ⟨w.heap.size, 0, none⟩) (hk w.heap.size (by omega))).trans HP.out.1.1
       have hp21 := (World.cell?_of_block (a := ⟨w.heap.size, 1, none⟩) (hk w.heap.size (by omega))).trans HP.out.1.2
       have hq2 := (World.cell?_of_block (a := ⟨w.heap.size + 1, 0, none⟩) (hk (w.heap.size + 1) (by omega))).trans HP.out.2.1
       have zp2 := (World.frozen?_of_block (a := ⟨w.heap.size, 0, none⟩) (hk w.heap.size (by omega))).trans HP.out.2.2.1
       have zp21 := (World.frozen?_of_block (a := ⟨w.heap.size, 1, none⟩) (hk w.heap.size (by omega))).trans HP.out.2.2.2.1
       have zq2 := (World.frozen?_of_block (a := ⟨w.heap.size + 1, 0, none⟩) (hk (w.heap.size + 1) (by omega))).trans HP.out.2.2.2.2
       clear hrd hk HTT HI HTX
       refine leaves_cons (f := 36) (args := #[.pointer (some ⟨w.heap.size, 0, none⟩), .pointer (some ⟨w.heap.size + 1, 0, none⟩)]) (by simp) (by simp [go_sem]) ?_
       refine (rcatch_panicking w.heap.size (w.heap.size + 1) _ _ _ c w2 hp2 hp21 hq2 zp2 zp21 zq2 (by omega)).mono ?_
       rintro e u' w3 ⟨rfl, rfl, hp3, hp31, hq3, hb3⟩
       simp [Leaves, settle, results, Tryz.results13, go_sem, hp3, hp31, hq3]
       exact ⟨rfl, HBF.out.trans (hb3.mono (by have := HBF.out.size; omega))⟩
     · dsimp only at hend
       obtain ⟨rfl, S', hrd, _⟩ := hend
       have HRDE := hide hrd
       obtain ⟨rA, rc, _, _, _, _, hc4, _⟩ := hrd.cells
       have hml : sf.mac.length ≤ 10000 := Nat.le_trans (HKE.out sf rfl) (by decide)
       have HPA := hide (fun W (hb : Below w2.heap.size w2 W) => pairs_any _ _ _ sf _ _ W (hrd.step hb) hml)
       obtain ⟨nr, hnr⟩ : ∃ z, sf.rules.length = z := ⟨_, rfl⟩
       rw [hnr] at hc4
       have HC4 := hide hc4
       have HRL := hide hrd.lt
       have HBF := hide (HB2.out.trans (hrd.below.mono (by have := HZ.out; omega)))
       have hk : ∀ k, k < w.heap.size + 2 → w2.heap[k]? = wb.heap[k]? := fun k hk => hrd.below.block k (by have := HZ.out; omega)
       have hp2 := (World.cell?_of_block (a := ⟨w.heap.size, 0, none⟩) (hk w.heap.size (by omega))).trans HP.out.1.1
       have hp21 := (World.cell?_of_block (a := ⟨w.heap.size, 1, none⟩) (hk w.heap.size (by omega))).trans HP.out.1.2
       have hq2 := (World.cell?_of_block (a := ⟨w.heap.size + 1, 0, none⟩) (hk (w.heap.size + 1) (by omega))).trans HP.out.2.1
       have zp2 := (World.frozen?_of_block (a := ⟨w.heap.size, 0, none⟩) (hk w.heap.size (by omega))).trans HP.out.2.2.1
       have zp21 := (World.frozen?_of_block (a := ⟨w.heap.size, 1, none⟩) (hk w.heap.size (by omega))).trans HP.out.2.2.2.1
       have zq2 := (World.frozen?_of_block (a := ⟨w.heap.size + 1, 0, none⟩) (hk (w.heap.size + 1) (by omega))).trans HP.out.2.2.2.2
       have HZL := hide (show w.heap.size + 2 ≤ bm ∧ w.heap.size + 2 ≤ w2.heap.size by have := HZ.out; have := HBM.out; have := hrd.below.size; omega)
       have hrdB := hrd.below
       clear hrd hml HTT HI HTX hnr hk hc4
       go_wp2_with fail
       refine wp_region_held_drew (S := (fun X => X.cell? ⟨bm + 2, 4, none⟩ = some (.slice rA nr rc))) (by kernel_rfl) HC4.out (fun hHeld => ?_)
       refine wpAnyH_tk (i := 0) (oi := _) (v := ?vE0) rfl rfl (by kernel_rfl) (by kernel_rfl) (by kernel_rfl) (fun _ _ _ h => by exact bpdR (R := MkEnd w (.ok sf)) (by omega) h) (Or.inl ⟨by kernel_rfl, ?yE0⟩) (by assumption) ?rE0
       case yE0 => intro w h; (try dsimp only at h); go_simp; try with_reducible rfl
       try simp only [sA, sB, sC]
       refine wpAnyH_tk (i := 2) (oi := _) (v := ?vE2) rfl rfl (by kernel_rfl) (by kernel_rfl) (by kernel_rfl) (fun _ _ _ h => by exact bpdR (R := MkEnd w (.ok sf)) (by omega) h) (Or.inl ⟨by kernel_rfl, ?yE2⟩) (by assumption) ?rE2
       case yE2 => intro w h; (try dsimp only at h); go_simp; try with_reducible rfl
       try simp only [sA, sB, sC]
       refine wpAnyH_tk (i := 3) (oi := _) (v := ?vE3) rfl rfl (by kernel_rfl) (by kernel_rfl) (by kernel_rfl) (fun _ _ _ h => by exact bpdR (R := MkEnd w (.ok sf)) (by omega) h) (Or.inl ⟨by kernel_rfl, ?yE3⟩) (by assumption) ?rE3
       case yE3 => intro w h; (try dsimp only at h); go_simp; try with_reducible rfl
       try simp only [sA, sB, sC]
       refine wpAnyH_tk (i := 4) (oi := _) (v := ?vE4) rfl rfl (by kernel_rfl) (by kernel_rfl) (by kernel_rfl) (fun _ _ _ h => by exact bpdR (R := MkEnd w (.ok sf)) (by omega) h) (Or.inl ⟨by kernel_rfl, ?yE4⟩) (by assumption) ?rE4
       case yE4 => intro w h; (try dsimp only at h); go_simp; try with_reducible rfl
       try simp only [sA, sB, sC]
       refine wpAnyH_tk (i := 5) (oi := _) (v := ?vE5) rfl rfl (by kernel_rfl) (by kernel_rfl) (by kernel_rfl) (fun _ _ _ h => by exact bpdR (R := MkEnd w (.ok sf)) (by omega) h) (Or.inl ⟨by kernel_rfl, ?yE5⟩) (by assumption) ?rE5
       case yE5 => intro w h; (try dsimp only at h); go_simp; try with_reducible rfl
       try simp only [sA, sB, sC]
       refine rq (k := 1) rfl (by kernel_rfl) (by kernel_rfl) (fun K hK => ?_)
       go_simp
       refine (HPA.out _ (Below.refl _ _).drew).mono ?_
       rintro e w3 ⟨⟨pA, pc, rfl, hpr⟩, hb3⟩
       have hb3 : Below w2.heap.size w2 w3 := ((Below.refl w2.heap.size w2).drew).trans hb3
       have hk3 : ∀ k, k < w.heap.size + 2 → w3.heap[k]? = w2.heap[k]? := fun k hk => hb3.block k (by have := HZL.out; omega)
       have hp3 := (World.cell?_of_block (a := ⟨w.heap.size, 0, none⟩) (hk3 w.heap.size (by omega))).trans hp2
       have hp31 := (World.cell?_of_block (a := ⟨w.heap.size, 1, none⟩) (hk3 w.heap.size (by omega))).trans hp21
       have hq3 := (World.cell?_of_block (a := ⟨w.heap.size + 1, 0, none⟩) (hk3 (w.heap.size + 1) (by omega))).trans hq2
       have zp3 := (World.frozen?_of_block (a := ⟨w.heap.size, 0, none⟩) (hk3 w.heap.size (by omega))).trans zp2
       have zp31 := (World.frozen?_of_block (a := ⟨w.heap.size, 1, none⟩) (hk3 w.heap.size (by omega))).trans zp21
       have zq3 := (World.frozen?_of_block (a := ⟨w.heap.size + 1, 0, none⟩) (hk3 (w.heap.size + 1) (by omega))).trans zq2
       have hc5 := (hb3.cell (p := ⟨bm + 2, 4, none⟩) HRL.out).trans HC4.out
       have HPR3 := hide hpr
       have HB3 := hide hb3
       have HS2 := hide (show ((w3.setCell ⟨w.heap.size, 0, none⟩ (.slice pA sf.mac.length pc)).setCell ⟨w.heap.size, 1, none⟩ (.slice rA nr rc)).cell? ⟨bm + 2, 4, none⟩ = some (.slice rA nr rc) by
         rw [World.cell?_setCell_far _ _ _ _ (by dsimp only; have := HZL.out; omega), World.cell?_setCell_far _ _ _ _ (by dsimp only; have := HZL.out; omega)]; exact hc5)
       have HS3 := hide (show (((w3.setCell ⟨w.heap.size, 0, none⟩ (.slice pA sf.mac.length pc)).setCell ⟨w.heap.size, 1, none⟩ (.slice rA nr rc)).setCell ⟨w.heap.size + 1, 0, none⟩ (.int .i64 0)).cell? ⟨bm + 2, 4, none⟩ = some (.slice rA nr rc) by
         rw [World.cell?_setCell_far _ _ _ _ (by dsimp only; have := HZL.out; omega)]; exact HS2.out)
       have hpn : w.heap.size ≠ w.heap.size + 1 := by omega
       have hf0 : (((w3.setCell ⟨w.heap.size, 0, none⟩ (.slice pA sf.mac.length pc)).setCell ⟨w.heap.size, 1, none⟩ (.slice rA nr rc)).setCell ⟨w.heap.size + 1, 0, none⟩ (.int .i64 0)).cell? ⟨w.heap.size, 0, none⟩ = some (.slice pA sf.mac.length pc) := by simp [go_sem, hp3, hp31, hq3, hpn]
       have hf1 : (((w3.setCell ⟨w.heap.size, 0, none⟩ (.slice pA sf.mac.length pc)).setCell ⟨w.heap.size, 1, none⟩ (.slice rA nr rc)).setCell ⟨w.heap.size + 1, 0, none⟩ (.int .i64 0)).cell? ⟨w.heap.size, 1, none⟩ = some (.slice rA nr rc) := by simp [go_sem, hp3, hp31, hq3, hpn]
       have hf2 : (((w3.setCell ⟨w.heap.size, 0, none⟩ (.slice pA sf.mac.length pc)).setCell ⟨w.heap.size, 1, none⟩ (.slice rA nr rc)).setCell ⟨w.heap.size + 1, 0, none⟩ (.int .i64 0)).cell? ⟨w.heap.size + 1, 0, none⟩ = some (.int .i64 0) := by simp [go_sem, hp3, hp31, hq3, hpn]
       have HF := hide (And.intro hf0 (And.intro hf1 hf2))
       have HEND := hide (show MkEnd w (.ok sf) (.returned (.tuple #[.agg #[.slice pA sf.mac.length pc, .slice rA nr rc], .int .i64 0])) (((w3.setCell ⟨w.heap.size, 0, none⟩ (.slice pA sf.mac.length pc)).setCell ⟨w.heap.size, 1, none⟩ (.slice rA nr rc)).setCell ⟨w.heap.size + 1, 0, none⟩ (.int .i64 0)) by
         have hkz : ∀ k, k < w3.heap.size → ¬ (k = w.heap.size ∨ k = w.heap.size + 1) → (((w3.setCell ⟨w.heap.size, 0, none⟩ (.slice pA sf.mac.length pc)).setCell ⟨w.heap.size, 1, none⟩ (.slice rA nr rc)).setCell ⟨w.heap.size + 1, 0, none⟩ (.int .i64 0)).heap[k]? = w3.heap[k]? := fun k h1 h2 => by
           have e1 := (rkp_set (w := (w3.setCell ⟨w.heap.size, 0, none⟩ (.slice pA sf.mac.length pc)).setCell ⟨w.heap.size, 1, none⟩ (.slice rA nr rc)) (g := w.heap.size + 1) (j := 0) (v := .int .i64 0)).block k (by simpa using h1) (fun e => h2 (.inr e))
           have e2 := (rkp_set (w := w3.setCell ⟨w.heap.size, 0, none⟩ (.slice pA sf.mac.length pc)) (g := w.heap.size) (j := 1) (v := .slice rA nr rc)).block k (by simpa using h1) (fun e => h2 (.inl e))
           have e3 := (rkp_set (w := w3) (g := w.heap.size) (j := 0) (v := .slice pA sf.mac.length pc)).block k h1 (fun e => h2 (.inl e))
           exact (e1.trans e2).trans e3
         have hsz : w3.heap.size = (((w3.setCell ⟨w.heap.size, 0, none⟩ (.slice pA sf.mac.length pc)).setCell ⟨w.heap.size, 1, none⟩ (.slice rA nr rc)).setCell ⟨w.heap.size + 1, 0, none⟩ (.int .i64 0)).heap.size := by simp
         have hst3 : ∀ z, (z = w.heap.size ∨ z = w.heap.size + 1) → ∀ j s, w3.cell? ⟨z, j, none⟩ ≠ some (.string s) := by
           have k0 : w2.heap[w.heap.size]? = _ := (hrdB.block _ (by have := HZ.out; omega)).trans HH.out.1
           have k1 : w2.heap[w.heap.size + 1]? = _ := (hrdB.block _ (by have := HZ.out; omega)).trans HH.out.2
           rintro z (rfl | rfl)
           · exact nostr ((hk3 _ (by omega)).trans k0) (by simp)
           · exact nostr ((hk3 _ (by omega)).trans k1) (by simp)
         have hst2 : ∀ z, (z = w.heap.size ∨ z = w.heap.size + 1) → ∀ j s, w2.cell? ⟨z, j, none⟩ ≠ some (.string s) := by
           intro z hz j s
           exact fun e => hst3 z hz j s ((World.cell?_of_block (a := ⟨z, j, none⟩) (hk3 z (by omega))).trans e)
         obtain ⟨rl, hn, hr, ho, hs⟩ := HRDE.out.told HC4.out (w' := ((w3.setCell ⟨w.heap.size, 0, none⟩ (.slice pA sf.mac.length pc)).setCell ⟨w.heap.size, 1, none⟩ (.slice rA nr rc)).setCell ⟨w.heap.size + 1, 0, none⟩ (.int .i64 0)) (by rw [← hsz]; exact hb3.size) (fun z => z = w.heap.size ∨ z = w.heap.size + 1) (fun z hz => by have := HZ.out; omega) (fun k h1 h2 => (hkz k (by have := hb3.size; omega) h2).trans (hb3.block k h1)) hst2
         refine ⟨⟨pA, pc, rA, rc, rl, by rw [hn], hpr.far (by omega) (fun z => z = w.heap.size ∨ z = w.heap.size + 1) hkz hst3, hr, ho, hs⟩, ?_⟩
         exact (((HBF.out.trans (hb3.mono (by have := HZL.out; omega))).setCell (show w.heap.size ≤ w.heap.size by omega) _).setCell (show w.heap.size ≤ w.heap.size by omega) _).setCell (show w.heap.size ≤ w.heap.size + 1 by omega) _)
       clear hpr hb3 hk3 hp2 hp21 hq2 zp2 zp21 zq2 hf0 hf1 hf2 hrdB
       refine hK.out _ _ (by assumption) (fun _ => ?_)
       clear hK K
       try simp only [Act.put, sA, sB, sC]
       refine wpAnyH_tk (i := 6) (oi := _) (v := ?vE6) rfl rfl (by kernel_rfl) (by kernel_rfl) (by kernel_rfl) (fun _ _ _ h => by exact bpdR (R := MkEnd w (.ok sf)) (by omega) h) (Or.inl ⟨by kernel_rfl, ?yE6⟩) (by assumption) ?rE6
       case yE6 => intro w h; (try dsimp only at h); go_simp; try with_reducible rfl
       try simp only [sA, sB, sC]
       refine rq (k := 7) rfl (by kernel_rfl) (by kernel_rfl) (fun K hK => ?_)
       go_simp
       refine hK.out _ _ HS2.out (fun _ => ?_)
       clear hK K
       try simp only [Act.put, sA, sB, sC]
       refine rq (k := 8) rfl (by kernel_rfl) (by kernel_rfl) (fun K hK => ?_)
       go_simp
       refine hK.out _ _ HS3.out (fun _ => ?_)
       clear hK K
       try simp only [Act.put, sA, sB, sC]
       refine wpAnyH_done (by kernel_rfl) ?_ _
       go_wp2
       refine leaves_cons (f := 36) (args := #[.pointer (some ⟨w.heap.size, 0, none⟩), .pointer (some ⟨w.heap.size + 1, 0, none⟩)]) (by simp) (by simp [go_sem]) ?_
       refine (rcatch_idle w.heap.size (w.heap.size + 1) _).mono ?_
       rintro e u' w4 ⟨rfl, rfl, rfl⟩
       obtain ⟨W9, hW9⟩ : ∃ z, ((w3.setCell ⟨w.heap.size, 0, none⟩ (.slice pA sf.mac.length pc)).setCell ⟨w.heap.size, 1, none⟩ (.slice rA nr rc)).setCell ⟨w.heap.size + 1, 0, none⟩ (.int .i64 0) = z := ⟨_, rfl⟩
       rw [hW9] at HF HEND ⊢
       obtain ⟨hf0, hf1, hf2⟩ := HF.out
       simp [Leaves, settle, results, Tryz.results13, go_sem, hf0, hf1, hf2]
       exact HEND.out
   have b1 : (i : Int) < (n : Int) := by omega
   have hil : i < G.length := by have := HN.out; omega
   obtain ⟨x, hx⟩ : ∃ x, G[i]? = some x := ⟨_, List.getElem?_eq_getElem hil⟩
   obtain ⟨gg, o, rfl, hg, h1, h2⟩ := (HPR.out _ HI.out.below) i x hx
   have hxs := HGS.out x (List.mem_of_getElem? hx)
   have hgb := HGB.out i (by omega) (by omega)
   have HSN := hide (show givG (G.take (i + 1)) = givP (givG (G.take i)) x by
     rw [List.getElem?_eq_getElem hil] at hx
     rw [List.take_succ_eq_append_getElem hil, givG_snoc, Option.some.inj hx])
   have HGX := hide hgb
   obtain ⟨s, hs⟩ : ∃ s, givG (G.take i) = s := ⟨_, rfl⟩
   rw [hs] at HSN HI HGX
   obtain ⟨xn, xv⟩ := x
   dsimp only at h1 h2 hxs
   have HNM := hide (fun W => mname_any xn.data.toList W (by rw [data_len]; exact hxs.1))
   rw [bs_of] at HNM
   have HXS := hide hxs
   obtain ⟨W, hW⟩ : ∃ W, wr.alloc (.cells #[.string xn, .string xv] 42) = W := ⟨_, rfl⟩
   have HW := hide hW
   have hbW : Below wr.heap.size wr W := hW ▸ (Below.refl _ _).alloc (Nat.le_refl _) _
   have hp0 : W.cell? ⟨wr.heap.size, 0, none⟩ = some (.string xn) := by rw [← hW]; simp [go_sem]
   have hp1 : W.cell? ⟨wr.heap.size, 1, none⟩ = some (.string xv) := by rw [← hW]; simp [go_sem]
   have HIW := hide (HI.out.step hbW)
   have HRZ := hide (HI.out.lt)
   clear hx hil hgb hs hxs hW hbW
   go_wp2_with fail
   rw [HW.out]
   refine (HNM.out _).mono ?_
   rintro e w1 ⟨rfl, hb1⟩
   have hWz : wr.heap.size < W.heap.size := by rw [← HW.out]; simp
   have hp01 := (hb1.cell (p := ⟨wr.heap.size, 0, none⟩) hWz).trans hp0
   have hp11 := (hb1.cell (p := ⟨wr.heap.size, 1, none⟩) hWz).trans hp1
   have HI1 := hide (HIW.out.step hb1)
   clear hb1 hp0 hp1 HIW HW
   obtain ⟨bn, hbn⟩ : ∃ z, nameF xn.data.toList = z := ⟨_, rfl⟩
   rw [hbn]
   unfold givP at HSN
   dsimp only at HSN
   rw [hbn] at HSN
   clear hbn
   cases bn with
   | false =>
     have HI9 := hide (show RD wb ⟨gf, cwd, bm, bm + 1⟩ (bm + 2) (givG (G.take (i + 1))) 0 S w1 by rw [HSN.out]; exact HI1.out)
     clear HI1
     go_wp2
     go_roundw
     case rel => exact ⟨i + 1, by go_num, by omega, HI9⟩
     case measure => simp [intOf]; omega
   | true =>
     have HI2 := hide (HI1.out.step (Below.refl w1.heap.size w1).drew)
     obtain ⟨Wd, hWd⟩ : ∃ z, w1.drew = z := ⟨_, rfl⟩
     have HWD := hide hWd
     rw [hWd] at HI2
     have hq0 : Wd.cell? ⟨wr.heap.size, 0, none⟩ = some (.string xn) := by rw [← hWd]; exact hp01
     have hq1 : Wd.cell? ⟨wr.heap.size, 1, none⟩ = some (.string xv) := by rw [← hWd]; exact hp11
     obtain ⟨A4, c4, _, _, q2, q3, _⟩ := HI2.out.cells
     have HS0 := hide (show Wd.cell? ⟨bm + 2, 2, none⟩ = some (.map (some bm)) ∧ Wd.cell? ⟨bm + 2, 3, none⟩ = some (.map (some (bm + 1))) ∧ Wd.cell? ⟨wr.heap.size, 0, none⟩ = some (.string xn) ∧ Wd.cell? ⟨wr.heap.size, 1, none⟩ = some (.string xv) from ⟨q2, q3, hq0, hq1⟩)
     clear hWd hq0 hq1 q2 q3 hp01 hp11 HI1
     obtain ⟨v1, st1, wA, e1, k1, z1, c1⟩ := sentry HI2.out.mac HI2.out.rise (by have := HGX.out.2.1; omega) (s := xn) (by have := HXS.out.1; omega)
     dsimp only at e1 k1 c1
     have HC1 := hide c1
     have HK1 := hide k1
     have HZ1 := hide z1
     have HNB := hide (show wr.heap.size ≠ bm ∧ wr.heap.size ≠ bm + 1 ∧ bm + 2 < Wd.heap.size ∧ wr.heap.size < Wd.heap.size by
       have h1 := (HI.out.sw bm (by rw [← HS.out]; omega)).2
       have h2 := (HI.out.sw (bm + 1) (by rw [← HS.out]; omega)).2
       have h3 := HI2.out.lt
       have h4 := World.block_lt_of_cell? Wd _ HS0.out.2.2.1
       exact ⟨by omega, by omega, h3, h4⟩)
     have keepS : ∀ {X Y : World}, Kp X Y (fun k => k = bm ∨ k = bm + 1) → X.heap.size = Wd.heap.size → (X.cell? ⟨bm + 2, 2, none⟩ = some (.map (some bm)) ∧ X.cell? ⟨bm + 2, 3, none⟩ = some (.map (some (bm + 1))) ∧ X.cell? ⟨wr.heap.size, 0, none⟩ = some (.string xn) ∧ X.cell? ⟨wr.heap.size, 1, none⟩ = some (.string xv)) → (Y.cell? ⟨bm + 2, 2, none⟩ = some (.map (some bm)) ∧ Y.cell? ⟨bm + 2, 3, none⟩ = some (.map (some (bm + 1))) ∧ Y.cell? ⟨wr.heap.size, 0, none⟩ = some (.string xn) ∧ Y.cell? ⟨wr.heap.size, 1, none⟩ = some (.string xv)) := fun {X Y} hk hz ⟨g1, g2, g3, g4⟩ => by
       obtain ⟨n1, n2, n3, n4⟩ := HNB.out
       have q1 := hk.block (bm + 2) (by omega) (by omega)
       have q2 := hk.block wr.heap.size (by omega) (by omega)
       exact ⟨(World.cell?_of_block (a := ⟨bm + 2, 2, none⟩) q1).trans g1, (World.cell?_of_block (a := ⟨bm + 2, 3, none⟩) q1).trans g2, (World.cell?_of_block (a := ⟨wr.heap.size, 0, none⟩) q2).trans g3, (World.cell?_of_block (a := ⟨wr.heap.size, 1, none⟩) q2).trans g4⟩
     have HKS := hide (fun X Y => @keepS X Y)
     have HS1 := hide (HKS.out Wd wA (k1.mono fun k e => .inl e) rfl HS0.out)
     obtain ⟨wB, e2, mB, k2, z2⟩ := c1 wA xv rfl
     have kB : Kp Wd wB (fun k => k = bm) := k1.trans (k2.mono fun k e => .inl e)
     have HIB := HI2.out.macS mB (HI2.out.rise.put _) kB (by omega)
     have HS2 := hide (HKS.out wA wB (k2.mono fun k e => .inl e) z1 HS1.out)
     obtain ⟨v3, st3, wC, e3, k3, z3, c3⟩ := bentry HIB.giv (by have := HGX.out.2.2.1; dsimp only; rw [List.length_map]; omega) (s := xn) (by have := HXS.out.1; omega)
     dsimp only at e3 k3 c3
     have HS3 := hide (HKS.out wB wC (k3.mono fun k e => .inr e) (by omega) HS2.out)
     obtain ⟨wD, e4, mD, k4, z4⟩ := c3 wC rfl
     have HS4 := hide (HKS.out wC wD (k4.mono fun k e => .inr e) (by omega) HS3.out)
     have HID := hide (HIB.givS (L := s.giv ++ [xn.data.toList]) (by dsimp only; rw [List.map_append, List.map_singleton, bs_of]; exact mD) (k3.trans (k4.mono fun k e => .inl e)) (by omega))
     have HI9 := hide (show RD wb ⟨gf, cwd, bm, bm + 1⟩ (bm + 2) (givG (G.take (i + 1))) 0 S wD by rw [HSN.out]; exact HID.out)
     clear c1 k1 z1 keepS mB k2 z2 kB HIB k3 z3 c3 mD k4 z4 HID
     go_wp2_with fail
     refine wp_region_held_drew (S := (fun X => X.cell? ⟨bm + 2, 2, none⟩ = some (.map (some bm)) ∧ X.cell? ⟨bm + 2, 3, none⟩ = some (.map (some (bm + 1))) ∧ X.cell? ⟨wr.heap.size, 0, none⟩ = some (.string xn) ∧ X.cell? ⟨wr.heap.size, 1, none⟩ = some (.string xv))) (by kernel_rfl) (HWD.out ▸ HS0.out) (fun hHeld => ?_)
     refine wpAnyH_tk (i := 0) (oi := _) (v := ?v0) rfl rfl (by kernel_rfl) (by kernel_rfl) (by kernel_rfl) (fun _ _ _ h => by exact bpdR (R := MkEnd w R) (by omega) h) (Or.inl ⟨by kernel_rfl, ?y0⟩) (by assumption) ?r0
     case y0 => intro w h; (try dsimp only at h); go_simp; try with_reducible rfl
     try simp only [sA, sB, sC]
     refine wpAnyH_tk (i := 1) (oi := _) (v := ?v1) rfl rfl (by kernel_rfl) (by kernel_rfl) (by kernel_rfl) (fun _ _ _ h => by exact bpdR (R := MkEnd w R) (by omega) h) (Or.inl ⟨by kernel_rfl, ?y1⟩) (by assumption) ?r1
     case y1 => intro w h; (try dsimp only at h); go_simp; try with_reducible rfl
     try simp only [sA, sB, sC]
     refine wpAnyH_tk (i := 2) (oi := _) (v := ?v2) rfl rfl (by kernel_rfl) (by kernel_rfl) (by kernel_rfl) (fun _ _ _ h => by exact bpdR (R := MkEnd w R) (by omega) h) (Or.inl ⟨by kernel_rfl, ?y2⟩) (by assumption) ?r2
     case y2 => intro w h; (try dsimp only at h); go_simp; try with_reducible rfl
     try simp only [sA, sB, sC]
     refine wpAnyH_tk (i := 3) (oi := _) (v := ?v3) rfl rfl (by kernel_rfl) (by kernel_rfl) (by kernel_rfl) (fun _ _ _ h => by exact bpdR (R := MkEnd w R) (by omega) h) (Or.inl ⟨by kernel_rfl, ?y3⟩) (by assumption) ?r3
     case y3 => intro w h; (try dsimp only at h); go_simp; try with_reducible rfl
     try simp only [sA, sB, sC]
     refine wpAnyH_tk (i := 4) (oi := _) (v := ?v4) rfl rfl (by kernel_rfl) (by kernel_rfl) (by kernel_rfl) (fun _ _ _ h => by exact bpdR (R := MkEnd w R) (by omega) h) (Or.inl ⟨by kernel_rfl, ?y4⟩) (by assumption) ?r4
     case y4 => intro w h; (try dsimp only at h); go_simp; try with_reducible rfl
     try simp only [sA, sB, sC]
     refine wpAnyH_tk (i := 5) (oi := _) (v := ?v5) rfl rfl (by kernel_rfl) (by kernel_rfl) (by kernel_rfl) (fun _ _ _ h => by exact bpdR (R := MkEnd w R) (by omega) h) (Or.inl ⟨by kernel_rfl, ?y5⟩) (by assumption) ?r5
     case y5 => intro w h; (try dsimp only at h); go_simp; try with_reducible rfl
     try simp only [sA, sB, sC]
     refine wpAnyH_tk (i := 6) (oi := _) (v := ?v6) rfl rfl (by kernel_rfl) (by kernel_rfl) (by kernel_rfl) (fun _ _ _ h => by exact bpdR (R := MkEnd w R) (by omega) h) (Or.inl ⟨by kernel_rfl, ?y6⟩) (by assumption) ?r6
     case y6 => intro w h; (try dsimp only at h); go_simp; try with_reducible rfl
     try simp only [sA, sB, sC]
     refine wpAnyH_tk (i := 7) (oi := _) (v := ?v7) rfl rfl (by kernel_rfl) (by kernel_rfl) (by kernel_rfl) (fun _ _ _ h => by exact bpdR (R := MkEnd w R) (by omega) h) (Or.inl ⟨by kernel_rfl, ?y7⟩) (by assumption) ?r7
     case y7 => intro w h; (try dsimp only at h); go_simp; try with_reducible rfl
     try simp only [sA, sB, sC]
     refine wpAnyH_tk (i := 8) (oi := _) (v := ?v8) rfl rfl (by kernel_rfl) (by kernel_rfl) (by kernel_rfl) (fun _ _ _ h => by exact bpdR (R := MkEnd w R) (by omega) h) (Or.inl ⟨by kernel_rfl, ?y8⟩) (by assumption) ?r8
     case y8 => intro w h; (try dsimp only at h); go_simp; try with_reducible rfl
     try simp only [sA, sB, sC]
     refine wpAnyH_tk (i := 9) (oi := _) (v := ?v9) rfl rfl (by kernel_rfl) (by kernel_rfl) (by kernel_rfl) (fun _ _ _ h => by exact bpdR (R := MkEnd w R) (by omega) h) (Or.inl ⟨by kernel_rfl, ?y9⟩) (by assumption) ?r9
     case y9 => intro w h; (try dsimp only at h); go_simp; try with_reducible rfl
     try simp only [sA, sB, sC]
     refine wpAnyH_tk (i := 10) (oi := _) (v := ?v10) rfl rfl (by kernel_rfl) (by kernel_rfl) (by kernel_rfl) (fun _ _ _ h => by exact bpdR (R := MkEnd w R) (by omega) h) (Or.inl ⟨by kernel_rfl, ?y10⟩) (by assumption) ?r10
     case y10 => intro w h; (try dsimp only at h); go_simp; try with_reducible rfl
     try simp only [sA, sB, sC]
     refine wpAnyH_tk (i := 11) (oi := _) (v := ?v11) rfl rfl (by kernel_rfl) (by kernel_rfl) (by kernel_rfl) (fun _ _ _ h => by exact bpdR (R := MkEnd w R) (by omega) h) (Or.inl ⟨by kernel_rfl, ?y11⟩) (by assumption) ?r11
     case y11 => intro w h; (try dsimp only at h); go_simp; try with_reducible rfl
     try simp only [sA, sB, sC]
     refine wpAnyH_tk (i := 12) (oi := _) (v := ?v12) rfl rfl (by kernel_rfl) (by kernel_rfl) (by kernel_rfl) (fun _ _ _ h => by exact bpdR (R := MkEnd w R) (by omega) h) (Or.inl ⟨by kernel_rfl, ?y12⟩) (by assumption) ?r12
     case y12 => intro w h; (try dsimp only at h); go_simp; try with_reducible rfl
     try simp only [sA, sB, sC]
     refine wpAnyH_tk (i := 13) (oi := _) (v := ?v13) rfl rfl (by kernel_rfl) (by kernel_rfl) (by kernel_rfl) (fun _ _ _ h => by exact bpdR (R := MkEnd w R) (by omega) h) (Or.inl ⟨by kernel_rfl, ?y13⟩) (by assumption) ?r13
     case y13 => intro w h; (try dsimp only at h); go_simp; try with_reducible rfl
     try simp only [sA, sB, sC]
     rw [HWD.out]
     refine rq (k := 14) rfl (by kernel_rfl) (by kernel_rfl) (fun K hK => ?_)
     go_simp
     refine hK.out _ _ HS1.out (fun _ => ?_)
     clear hK K
     try simp only [Act.put, sA, sB, sC]
     refine wpAnyH_tk (i := 15) (oi := _) (v := ?v15) rfl rfl (by kernel_rfl) (by kernel_rfl) (by kernel_rfl) (fun _ _ _ h => by exact bpdR (R := MkEnd w R) (by omega) h) (Or.inl ⟨by kernel_rfl, ?y15⟩) (by assumption) ?r15
     case y15 => intro w h; (try dsimp only at h); go_simp; try with_reducible rfl
     try simp only [sA, sB, sC]
     refine rq (k := 16) rfl (by kernel_rfl) (by kernel_rfl) (fun K hK => ?_)
     go_simp
     refine hK.out _ _ HS2.out (fun _ => ?_)
     clear hK K
     try simp only [Act.put, sA, sB, sC]
     refine rq (k := 17) rfl (by kernel_rfl) (by kernel_rfl) (fun K hK => ?_)
     go_simp
     refine hK.out _ _ HS3.out (fun _ => ?_)
     clear hK K
     try simp only [Act.put, sA, sB, sC]
     refine wpAnyH_tk (i := 18) (oi := _) (v := ?v18) rfl rfl (by kernel_rfl) (by kernel_rfl) (by kernel_rfl) (fun _ _ _ h => by exact bpdR (R := MkEnd w R) (by omega) h) (Or.inl ⟨by kernel_rfl, ?y18⟩) (by assumption) ?r18
     case y18 => intro w h; (try dsimp only at h); go_simp; try with_reducible rfl
     try simp only [sA, sB, sC]
     refine rq (k := 19) rfl (by kernel_rfl) (by kernel_rfl) (fun K hK => ?_)
     go_simp
     refine hK.out _ _ HS4.out (fun _ => ?_)
     clear hK K
     try simp only [Act.put, sA, sB, sC]
     refine wpAnyH_done (by kernel_rfl) ?_ _
     go_wp2
     go_roundw
     case rel => exact ⟨i + 1, by go_num, by omega, HI9⟩
     case measure => simp [intOf]; omega
end
end Go.Proofs.YtpheeheikigenaaGreatDoor
namespace Go.Proofs.YtpheeheikigenaaGreatDoor
namespace Rd
open Go.RowKit Ln Pth Vf Mc
def aliveT : T := [97, 58, 32, 98, 32, 99, 10, 9, 101, 99, 104, 111]
theorem alive_plain : textR (newS 1 1) [47] 10 ⟨[], [], [], 0⟩ aliveT = .ok ⟨[], [], [⟨[[97]], [[98], [99]], [[101, 99, 104, 111]]⟩], 0⟩ := by kernel_rfl
end Rd
end Go.Proofs.YtpheeheikigenaaGreatDoor
namespace Go.Proofs.YtpheeheikigenaaGreatDoor
section
open Go.RowKit Go.Deep Go.Maps Ln Pth Vf
theorem hs_of {g : Nat} {S : St} {T N : Nat → Prop} {w : World} (h : VS g S T N w) (ok : OkTN T N w) : Hs (VS g S) w := ⟨T, N, h, ok⟩
end
section
open Go.RowKit Go.Deep Go.Maps Ln Pth Vf
attribute [local go_sem] bt_eq
theorem convYY (w : World) (C : Array Value) (n c : Nat) : (convert 55 55 (.slice (some ⟨w.heap.size, 0, none⟩) n c)).run Tryz.prog (w.alloc (.cells C 5)) = .ok (.slice (some ⟨w.heap.size, 0, none⟩) n c) (w.alloc (.cells C 5 (C.size, C.size + 1))) := Lib.run_convert_bytes_const w 55 5 C n c Tryz.underlying55 Tryz.underlying5
attribute [local go_sem] convYY
end
section
open Go.RowKit Go.Deep Go.Maps Ln Pth Vf Rd Mc
attribute [local go_sem] bt_eq
theorem num20_any (n : Int) (w : World) : Calls Tryz.prog 15 #[.int .i64 n] w fun e w' => e = .returned (.int .i64 n) ∧ w = w' := by
 go_enter Tryz.func15, Tryz.ntmps15
 go_wp2
 go_ret
 exact ⟨rfl, rfl⟩
end
section
open Go.RowKit Go.Deep Go.Maps Ln Pth Vf Rd Mc
attribute [local go_sem] bt_eq
theorem rread_new (w0 w w1 : World) (n b : Int) (hm : MX w0) (h0 : Below w0.heap.size w0 w) (hb : Below w.heap.size w w1) (hv : VS (w.heap.size + 1) (newS n b) (fun k => w.heap.size ≤ k ∧ k < w1.heap.size) (fun _ => False) w1) (t : T) (ht : t.length ≤ 9000000000000000000) (W : World) (hW : Below w1.heap.size w1 W) :
   Calls Tryz.prog 13 #[.pointer (some ⟨w.heap.size + 1, 0, none⟩), .string ⟨#[47]⟩, .string (bs t), .slice none 0 0] W (MkEnd W (textR (newS n b) [47] 10 ⟨[], [], [], 0⟩ t)) := by
 have ok : OkTN (fun k => w.heap.size ≤ k ∧ k < w1.heap.size) (fun _ => False) w1 := ⟨fun k hk => ⟨hk.2, fun h => h⟩, fun k h => h.elim⟩
 exact rread_any (w.heap.size + 1) (newS n b) [47] t W ((hs_of hv ok).below (VS.fr _ _) hW) (newS_wf n b) (((hm.below h0).below hb).below hW) (by simp) ht [] none 0 (PR.nil _ _) (by simp) (fun x hx => by cases hx)
theorem ralive_any (w : World) (hm : MX w) : Calls Tryz.prog 12 #[] w fun e w' => e = .returned (.bool true) ∧ Below w.heap.size w w' := by
 have HN := hide (vnew_any 1 1 w (by decide) (by decide) (by decide) (by decide))
 have HM := hide hm
 clear hm
 go_enter Tryz.func12, Tryz.ntmps12
 go_wp2_with fail
 refine HN.out.mono ?_
 rintro e w1 ⟨rfl, hb1, hv1, hz1⟩
 have HR := hide (rread_new w w w1 1 1 HM.out (Below.refl _ _) hb1 hv1 aliveT (by decide) w1 (Below.refl _ _))
 rw [alive_plain] at HR
 have HB1 := hide hb1
 clear hb1 hv1 HN
 go_wp2_with fail
 refine HR.out.mono ?_
 rintro e w2 ⟨⟨pA, pc, rA, rc, rl, rfl, _, hr, ho, hs⟩, hb2⟩
 obtain ⟨q, rfl⟩ : ∃ q, rl = [q] := List.length_eq_one_iff.1 (by have := rl_len ho; simpa using this)
 have hq : outR q = ofRS ⟨[[97]], [[98], [99]], [[101, 99, 104, 111]]⟩ := by simpa using ho
 unfold outR ofRS at hq
 simp only [List.map_cons, List.map_nil, List.cons.injEq, and_true] at hq
 obtain ⟨q1, q2, q3⟩ := hq
 obtain ⟨g, o, rfl, hg, hc⟩ := hr 0 q rfl
 have h1 : w2.cell? ⟨g, o + 1, none⟩ = some (.slice q.nd.1 2 q.nd.2.1) := by
   have := hc 1 (sv q.nd) rfl
   unfold sv at this
   rw [q2] at this
   simpa using this
 have h2 : w2.cell? ⟨g, o + 2, none⟩ = some (.slice q.rc.1 1 q.rc.2.1) := by
   have := hc 2 (sv q.rc) rfl
   unfold sv at this
   rw [q3] at this
   simpa using this
 have HBW := hide ((HB1.out.trans (hb2.mono HB1.out.size)).alloc (by have := HB1.out.size; have := hb2.size; omega) (.cells #[.slice pA 0 pc, .slice (some ⟨g, o, none⟩) 1 rc] 28))
 have HNU := hide (fun W => num20_any 0 W)
 clear hr hs ho hc q1 q2 q3 hb2
 go_wp2_with fail
 refine (HNU.out _).mono ?_
 rintro e w3 ⟨rfl, rfl⟩
 go_wp2
 go_ret
 exact ⟨rfl, HBW.out⟩
end
section
open Go.RowKit Go.Deep Go.Maps Ln Pth Vf Rd Mc
abbrev mkty : TypeId := 28
theorem vnew_at (w0 X : World) (hm : MX w0) (h0 : Below w0.heap.size w0 X) : Calls Tryz.prog 14 #[.int .i64 1, .int .i64 1] X fun e X1 => ∃ gf : Nat, e = .returned (.pointer (some ⟨gf, 0, none⟩)) ∧ Below X.heap.size X X1 ∧
   ∀ (t : T) (Z : World), t.length ≤ 9000000000000000000 → Below X1.heap.size X1 Z → Calls Tryz.prog 13 #[.pointer (some ⟨gf, 0, none⟩), .string ⟨#[47]⟩, .string (bs t), .slice none 0 0] Z (MkEnd Z (textR (newS 1 1) [47] 10 ⟨[], [], [], 0⟩ t)) := by
 refine (vnew_any 1 1 X (by decide) (by decide) (by decide) (by decide)).mono ?_
 rintro e X1 ⟨rfl, hb, hv, hz⟩
 exact ⟨X.heap.size + 1, rfl, hb, fun t Z ht hZ => rread_new w0 X X1 1 1 hm h0 hb hv t ht Z hZ⟩
end
section
open Go.RowKit Go.Deep
theorem pairStruct : Tryz.prog.underlying 42 = some (.struct (Tryz.prog.fieldsOf 42)) := by kernel_rfl
theorem pairStood : Tryz.prog.stoodInHeld 42 = false := by kernel_rfl
theorem pairGuard : Tryz.prog.eqGuardType Tryz.prog.depth 42 = false := by kernel_rfl
theorem pair_neq (x1 x2 y1 y2 : ByteArray) (w : World) : (binOp .neq 42 (.agg #[.string x1, .string x2]) (.agg #[.string y1, .string y2])).run Tryz.prog w = .ok (.bool (!((x1.toList == y1.toList) && (x2.toList == y2.toList)))) w := by
 rw [run_neq_struct, run_equalIn_struct w 9999 _ _ _ pairStruct pairStood]
 simp [Program.fieldsOf, Tryz.underlying42, Op.eqFields, go_sem]
 by_cases h1 : x1.toList = y1.toList <;> by_cases h2 : x2.toList = y2.toList <;> simp [h1, h2]
theorem pair_test (x1 x2 y1 y2 : ByteArray) : ((x1.toList == y1.toList) && (x2.toList == y2.toList)) = decide (x1 = y1 ∧ x2 = y2) := by
 by_cases h1 : x1 = y1
 · by_cases h2 : x2 = y2
   · simp [h1, h2]
   · rw [txt_ne h2]; simp [h2]
 · rw [txt_ne h1]; simp [h1]
theorem samep_any (A B : Option Addr) (c d : Nat) (L M : List Pr) (w : World) (hA : PR w A L) (hB : PR w B M) (hl : L.length ≤ 100000) :
   Calls Tryz.prog 39 #[.slice A L.length c, .slice B M.length d] w fun e w' => e = .returned (.bool (decide (L = M))) ∧ Drew w w' := by
 have HA := hide hA
 have HB := hide hB
 clear hA hB
 by_cases hn : L.length = M.length
 · obtain ⟨n, hn1⟩ : ∃ n, L.length = n := ⟨_, rfl⟩
   have hn2 : M.length = n := by omega
   have N1 := hide hn1
   have N2 := hide hn2
   rw [hn1, hn2]
   rw [hn1] at hl
   clear hn hn1 hn2
   go_enter Tryz.func39, Tryz.ntmps39
   go_wp2
   go_loopw [5] (fun v5 wr => ∃ k : Nat, v5 = .int .i64 k ∧ k ≤ n ∧ Hid (L.take k = M.take k) ∧ Drew w wr) (fun v5 _ => n - (intOf v5).toNat)
   case atStart => exact ⟨0, rfl, by omega, rfl, Drew.refl _⟩
   case round =>
     obtain ⟨k, rfl, hk, HE, hdr⟩ := hrel
     have HD := hide hdr
     clear hdr
     by_cases hlt : k < n
     · obtain ⟨x, hx⟩ : ∃ x, L[k]? = some x := ⟨L[k]'(by have := N1.out; omega), gE _⟩
       obtain ⟨y, hy⟩ : ∃ y, M[k]? = some y := ⟨M[k]'(by have := N2.out; omega), gE _⟩
       obtain ⟨x1, x2⟩ := x
       obtain ⟨y1, y2⟩ := y
       obtain ⟨g, o, rfl, hg, hc1, hc2⟩ := (HA.out.drew HD.out) k _ hx
       obtain ⟨g', o', rfl, hg', hc3, hc4⟩ := (HB.out.drew HD.out) k _ hy
       have hpn := pair_neq x1 x2 y1 y2
       have hpg := pairGuard
       have hpt := pair_test x1 x2 y1 y2
       have HX := hide hx
       have HY := hide hy
       have b1 : (k : Int) < (n : Int) := by omega
       clear hx hy
       by_cases he : x1 = y1 ∧ x2 = y2
       · obtain ⟨rfl, rfl⟩ := he
         clear hpt
         go_wp2
         go_quiet (fail)
         go_wp2
         go_roundw
         case rel =>
           refine ⟨k + 1, by go_num, by omega, ?_, HD.out.more _⟩
           show L.take (k + 1) = M.take (k + 1)
           rw [List.take_add_one, List.take_add_one, HE.out, HX.out, HY.out]
         case measure => simp [intOf]; omega
       · rw [hpt, decide_eq_false he] at hpn
         have HN := hide he
         clear he hpt
         go_wp2
         go_quiet (fail)
         go_wp2
         go_ret
         refine ⟨?_, HD.out.more _⟩
         have : decide (L = M) = false := by
           rw [decide_eq_false_iff_not]
           intro e
           have h1 := HX.out
           have h2 := HY.out
           rw [e, h2] at h1
           injection h1 with h1
           injection h1 with h1 h3
           exact HN.out ⟨h1.symm, h3.symm⟩
         rw [this]
         rfl
     · have e : k = n := by omega
       have hf : decide (L = M) = true := by
         rw [decide_eq_true_iff]
         have := HE.out
         rw [List.take_of_length_le (by have := N1.out; omega), List.take_of_length_le (by have := N2.out; omega)] at this
         exact this
       have HF := hide hf
       clear hf e
       go_wp2
       go_ret
       refine ⟨?_, HD.out⟩
       rw [HF.out]
       rfl
 · have hb : ((L.length : Int) == (M.length : Int)) = false := by simp only [beq_eq_false_iff_ne]; omega
   have hb2 : (L.length == M.length) = false := by simp only [beq_eq_false_iff_ne]; omega
   have HF := hide (show decide (L = M) = false by rw [decide_eq_false_iff_not]; intro e; exact hn (by rw [e]))
   clear hn
   go_enter Tryz.func39, Tryz.ntmps39
   go_wp2
   go_ret
   refine ⟨?_, Drew.refl _⟩
   rw [HF.out]
   rfl
end
section
open Go.RowKit Go.Deep Go.Maps Ln Pth Vf Rd Mc
def RowsOk (w : World) (A : Option Addr) (RL : List Rl) : Prop := RG encRl 3 w A RL ∧ ∀ r ∈ RL, SR w r.tg.1 r.tg.2.2 ∧ SR w r.nd.1 r.nd.2.2 ∧ SR w r.rc.1 r.rc.2.2
theorem RowsOk.below {w w' : World} {A : Option Addr} {RL : List Rl} (h : RowsOk w A RL) (hb : Below w.heap.size w w') : RowsOk w' A RL := by
 refine ⟨fun k x hx => ?_, fun r hr => ⟨(h.2 r hr).1.below hb, (h.2 r hr).2.1.below hb, (h.2 r hr).2.2.below hb⟩⟩
 obtain ⟨g', o, e, hl, h1⟩ := h.1 k x hx
 exact ⟨g', o, e, Nat.lt_of_lt_of_le hl hb.size, fun j v hj => (World.cell?_of_block (a := ⟨g', o + k * 3 + j, none⟩) (hb.block g' hl)).trans (h1 j v hj)⟩
theorem RowsOk.at {w : World} {A : Option Addr} {RL : List Rl} (h : RowsOk w A RL) {i : Nat} {r : Rl} (hr : RL[i]? = some r) : ∃ g o, A = some ⟨g, o, none⟩ ∧ g < w.heap.size ∧ w.cell? ⟨g, o + i * 3, none⟩ = some (sv r.tg) ∧ w.cell? ⟨g, o + i * 3 + 1, none⟩ = some (sv r.nd) ∧ w.cell? ⟨g, o + i * 3 + 2, none⟩ = some (sv r.rc) := by
 obtain ⟨g, o, e, hl, h1⟩ := h.1 i r hr
 exact ⟨g, o, e, hl, h1 0 _ rfl, h1 1 _ rfl, h1 2 _ rfl⟩
theorem samemk_any (pA pB rA rB : Option Addr) (pc pd rc rd : Nat) (P : KV ByteArray) (R1 R2 : List Rl) (w : World) (h1 : PR w pA P) (h2 : PR w pB P) (h3 : RowsOk w rA R1) (h4 : RowsOk w rB R2) (ho : R1.map outR = R2.map outR) (hl : P.length ≤ 100000) (hl2 : R1.length ≤ 100000) (hz : ∀ r ∈ R1, r.tg.2.2.length ≤ 100000 ∧ r.nd.2.2.length ≤ 100000 ∧ r.rc.2.2.length ≤ 100000) :
   Calls Tryz.prog 17 #[.agg #[.slice pA P.length pc, .slice rA R1.length rc], .agg #[.slice pB P.length pd, .slice rB R2.length rd]] w fun e w' => e = .returned (.bool true) ∧ Below w.heap.size w w' := by
 have H3 := hide h3
 have H4 := hide h4
 have HO := hide ho
 have HZ := hide hz
 have e2 : R2.length = R1.length := by have := congrArg List.length ho; simpa using this.symm
 rw [e2]
 obtain ⟨n, hn⟩ : ∃ n, R1.length = n := ⟨_, rfl⟩
 have HN := hide hn
 have HN2 := hide (e2.trans hn)
 rw [hn] at hl2 ⊢
 have HSP := hide (fun Z (hb : Below w.heap.size w Z) => (samep_any pA pB pc pd P P Z (h1.below hb) (h2.below hb) hl).mono fun e w' ⟨h3, h4⟩ => (⟨h3.trans (by rw [decide_eq_true rfl]), h4⟩ : e = Ending.returned (.bool true) ∧ Drew Z w'))
 obtain ⟨pn, hpn⟩ : ∃ n, P.length = n := ⟨_, rfl⟩
 rw [hpn] at HSP ⊢
 clear h1 h2 h3 h4 ho hz e2 hn hpn
 have hb1 : Below w.heap.size w (w.alloc (.cells #[.slice pA pn pc, .slice rA n rc] mkty)) := (Below.refl _ _).alloc (Nat.le_refl _) _
 have hha := heapNew w (.cells #[.slice pA pn pc, .slice rA n rc] mkty)
 have hhb := heapNew (w.alloc (.cells #[.slice pA pn pc, .slice rA n rc] mkty)) (.cells #[.slice pB pn pd, .slice rB n rd] mkty)
 have hha2 : ((w.alloc (.cells #[.slice pA pn pc, .slice rA n rc] mkty)).alloc (.cells #[.slice pB pn pd, .slice rB n rd] mkty)).heap[w.heap.size]? = _ := (Below.heap_alloc _ _ _ (by simp)).trans hha
 have hb2 : Below w.heap.size w ((w.alloc (.cells #[.slice pA pn pc, .slice rA n rc] mkty)).alloc (.cells #[.slice pB pn pd, .slice rB n rd] mkty)) := hb1.alloc (by simp) _
 rw [World.size_alloc] at hhb
 obtain ⟨W, hW⟩ : ∃ z, (w.alloc (.cells #[.slice pA pn pc, .slice rA n rc] mkty)).alloc (.cells #[.slice pB pn pd, .slice rB n rd] mkty) = z := ⟨_, rfl⟩
 have HW := hide hW
 rw [hW] at hhb hha2 hb2
 have a0 := cellOf hha2 (j := 0) rfl
 have a1 := cellOf hha2 (j := 1) rfl
 have b0 := cellOf hhb (j := 0) rfl
 have b1 := cellOf hhb (j := 1) rfl
 have HB2 := hide hb2
 obtain ⟨ga, hga⟩ : ∃ z, w.heap.size = z := ⟨_, rfl⟩
 obtain ⟨gb, hgb⟩ : ∃ z, w.heap.size + 1 = z := ⟨_, rfl⟩
 have HGA := hide hga
 have HGB := hide hgb
 rw [hga] at a0 a1
 rw [hgb] at b0 b1
 have HC := hide (And.intro (And.intro a0 a1) (And.intro b0 b1))
 clear hb1 hha hhb hha2 hb2 hW hga hgb
 go_enter Tryz.func17, Tryz.ntmps17
 go_wp2_with fail
 rw [HW.out, HGB.out, HGA.out]
 refine (HSP.out _ HB2.out).mono ?_
 rintro e w2 ⟨rfl, hd2⟩
 have HBW2 := hide (show Below W.heap.size W w2 from hd2.below)
 have HC2 := hide (fun Z (hb : Below W.heap.size W Z) => show (Z.cell? ⟨ga, 0, none⟩ = some (.slice pA pn pc) ∧ Z.cell? ⟨ga, 1, none⟩ = some (.slice rA n rc)) ∧ Z.cell? ⟨gb, 0, none⟩ = some (.slice pB pn pd) ∧ Z.cell? ⟨gb, 1, none⟩ = some (.slice rB n rd) by
   obtain ⟨⟨x1, x2⟩, x3, x4⟩ := HC.out
   exact ⟨⟨(hb.cell (World.block_lt_of_cell? W _ x1)).trans x1, (hb.cell (World.block_lt_of_cell? W _ x2)).trans x2⟩, (hb.cell (World.block_lt_of_cell? W _ x3)).trans x3, (hb.cell (World.block_lt_of_cell? W _ x4)).trans x4⟩)
 clear hd2 a0 a1 b0 b1
 obtain ⟨⟨a0, a1⟩, b0, b1⟩ := HC2.out w2 HBW2.out
 go_wp2
 go_loopw [5] (fun v5 wr => ∃ i : Nat, v5 = .int .i64 i ∧ i ≤ n ∧ Hid (Below W.heap.size W wr)) (fun v5 _ => n - (intOf v5).toNat)
 case atStart => exact ⟨0, rfl, by omega, HBW2⟩
 case round =>
   obtain ⟨i, rfl, hi, HBW⟩ := hrel
   clear a0 a1 b0 b1
   obtain ⟨⟨a0, a1⟩, b0, b1⟩ := HC2.out wr HBW.out
   by_cases hlt : i < n
   case neg =>
     obtain rfl : i = n := by omega
     go_wp2
     go_ret
     exact ⟨rfl, HB2.out.trans (HBW.out.mono HB2.out.size)⟩
   have bi : (i : Int) < (n : Int) := by omega
   obtain ⟨r, hr⟩ : ∃ r, R1[i]? = some r := ⟨_, List.getElem?_eq_getElem (by have := HN.out; omega)⟩
   obtain ⟨r', hr'⟩ : ∃ r, R2[i]? = some r := ⟨_, List.getElem?_eq_getElem (by have := HN2.out; omega)⟩
   have hrr : outR r = outR r' := by
     have := congrArg (fun l => l[i]?) HO.out
     simp only [List.getElem?_map, hr, hr', Option.map_some] at this
     exact Option.some.inj this
   unfold outR at hrr
   simp only [List.cons.injEq, and_true] at hrr
   obtain ⟨q1, q2, q3⟩ := hrr
   obtain ⟨g1, o1, rfl, hg1, x0, x1, x2⟩ := ((H3.out.below HB2.out).below HBW.out).at hr
   obtain ⟨g2, o2, rfl, hg2, y0, y1, y2⟩ := ((H4.out.below HB2.out).below HBW.out).at hr'
   obtain ⟨z1, z2, z3⟩ := HZ.out r (List.mem_of_getElem? hr)
   have hs1 := fun Z (hb : Below W.heap.size W Z) => ((H3.out.below HB2.out).below hb).2 r (List.mem_of_getElem? hr)
   have hs2 := fun Z (hb : Below W.heap.size W Z) => ((H4.out.below HB2.out).below hb).2 r' (List.mem_of_getElem? hr')
   unfold sv at x0 x1 x2 y0 y1 y2
   rw [← q1] at y0
   rw [← q2] at y1
   rw [← q3] at y2
   have HSM := hide (fun (P1 P2 : Option Addr) (q1 q2 : Nat) (X : List ByteArray) (Z : World) (h1 : SR Z P1 X) (h2 : SR Z P2 X) (hl : X.length ≤ 100000) => (same_any P1 P2 q1 q2 X X Z h1 h2 hl).mono fun e w' ⟨h3, h4⟩ => (⟨h3.trans (by rw [decide_eq_true rfl]), h4⟩ : e = Ending.returned (.bool true) ∧ Drew Z w'))
   have HT0 := hide (fun Z (hb : Below W.heap.size W Z) => HSM.out r.tg.1 r'.tg.1 r.tg.2.1 r'.tg.2.1 r.tg.2.2 Z (hs1 Z hb).1 (q1 ▸ (hs2 Z hb).1) z1)
   have HT1 := hide (fun Z (hb : Below W.heap.size W Z) => HSM.out r.nd.1 r'.nd.1 r.nd.2.1 r'.nd.2.1 r.nd.2.2 Z (hs1 Z hb).2.1 (q2 ▸ (hs2 Z hb).2.1) z2)
   have HT2 := hide (fun Z (hb : Below W.heap.size W Z) => HSM.out r.rc.1 r'.rc.1 r.rc.2.1 r'.rc.2.1 r.rc.2.2 Z (hs1 Z hb).2.2 (q3 ▸ (hs2 Z hb).2.2) z3)
   obtain ⟨⟨⟨⟨a0, c0⟩, k0⟩, b0, d0⟩, hv0⟩ : ∃ x : ((Option Addr × Nat) × Nat) × Option Addr × Nat, (((r.tg.1, r.tg.2.1), r.tg.2.2.length), r'.tg.1, r'.tg.2.1) = x := ⟨_, rfl⟩
   obtain ⟨⟨⟨⟨a1', c1⟩, k1⟩, b1', d1⟩, hv1⟩ : ∃ x : ((Option Addr × Nat) × Nat) × Option Addr × Nat, (((r.nd.1, r.nd.2.1), r.nd.2.2.length), r'.nd.1, r'.nd.2.1) = x := ⟨_, rfl⟩
   obtain ⟨⟨⟨⟨a2, c2⟩, k2⟩, b2, d2⟩, hv2⟩ : ∃ x : ((Option Addr × Nat) × Nat) × Option Addr × Nat, (((r.rc.1, r.rc.2.1), r.rc.2.2.length), r'.rc.1, r'.rc.2.1) = x := ⟨_, rfl⟩
   simp only [Prod.mk.injEq] at hv0 hv1 hv2
   obtain ⟨⟨⟨u1, u2⟩, u3⟩, u4, u5⟩ := hv0
   obtain ⟨⟨⟨s1, s2⟩, s3⟩, s4, s5⟩ := hv1
   obtain ⟨⟨⟨t1, t2⟩, t3⟩, t4, t5⟩ := hv2
   rw [u1, u2, u3] at x0 HT0
   rw [u3, u4, u5] at y0
   rw [u4, u5] at HT0
   rw [s1, s2, s3] at x1 HT1
   rw [s3, s4, s5] at y1
   rw [s4, s5] at HT1
   rw [t1, t2, t3] at x2 HT2
   rw [t3, t4, t5] at y2
   rw [t4, t5] at HT2
   have HX := hide (And.intro (And.intro x0 (And.intro x1 x2)) (And.intro y0 (And.intro y1 y2)))
   rename_i a0' b0'
   have HQ := hide (fun Z (hb : Below wr.heap.size wr Z) => show (fun Z => (Z.cell? ⟨ga, 1, none⟩ = some (.slice (some ⟨g1, o1, none⟩) n rc) ∧ Z.cell? ⟨gb, 1, none⟩ = some (.slice (some ⟨g2, o2, none⟩) n rd)) ∧ (Z.cell? ⟨g1, o1 + i * 3, none⟩ = some (.slice a0 k0 c0) ∧ Z.cell? ⟨g1, o1 + i * 3 + 1, none⟩ = some (.slice a1' k1 c1) ∧ Z.cell? ⟨g1, o1 + i * 3 + 2, none⟩ = some (.slice a2 k2 c2)) ∧ (Z.cell? ⟨g2, o2 + i * 3, none⟩ = some (.slice b0 k0 d0) ∧ Z.cell? ⟨g2, o2 + i * 3 + 1, none⟩ = some (.slice b1' k1 d1) ∧ Z.cell? ⟨g2, o2 + i * 3 + 2, none⟩ = some (.slice b2 k2 d2))) Z by
     obtain ⟨⟨x0, x1, x2⟩, y0, y1, y2⟩ := HX.out
     exact ⟨⟨(hb.cell (World.block_lt_of_cell? wr _ a1)).trans a1, (hb.cell (World.block_lt_of_cell? wr _ b1)).trans b1⟩, ⟨(hb.cell (World.block_lt_of_cell? wr _ x0)).trans x0, (hb.cell (World.block_lt_of_cell? wr _ x1)).trans x1, (hb.cell (World.block_lt_of_cell? wr _ x2)).trans x2⟩, (hb.cell (World.block_lt_of_cell? wr _ y0)).trans y0, (hb.cell (World.block_lt_of_cell? wr _ y1)).trans y1, (hb.cell (World.block_lt_of_cell? wr _ y2)).trans y2⟩)
   clear x0 x1 x2 y0 y1 y2 u1 u2 u3 u4 u5 s1 s2 s3 s4 s5 t1 t2 t3 t4 t5 q1 q2 q3 hr hr' hs1 hs2 z1 z2 z3 hg1 hg2 HSM
   have W3 := hide ((Below.refl wr.heap.size wr).drew)
   go_wp2
   refine wp_region_held_drew (S := (fun Z => (Z.cell? ⟨ga, 1, none⟩ = some (.slice (some ⟨g1, o1, none⟩) n rc) ∧ Z.cell? ⟨gb, 1, none⟩ = some (.slice (some ⟨g2, o2, none⟩) n rd)) ∧ (Z.cell? ⟨g1, o1 + i * 3, none⟩ = some (.slice a0 k0 c0) ∧ Z.cell? ⟨g1, o1 + i * 3 + 1, none⟩ = some (.slice a1' k1 c1) ∧ Z.cell? ⟨g1, o1 + i * 3 + 2, none⟩ = some (.slice a2 k2 c2)) ∧ (Z.cell? ⟨g2, o2 + i * 3, none⟩ = some (.slice b0 k0 d0) ∧ Z.cell? ⟨g2, o2 + i * 3 + 1, none⟩ = some (.slice b1' k1 d1) ∧ Z.cell? ⟨g2, o2 + i * 3 + 2, none⟩ = some (.slice b2 k2 d2)))) (by kernel_rfl) (HQ.out _ W3.out) (fun hHeld => ?_)
   refine tq (i := 0) (v := ?v0) rfl rfl (by kernel_rfl) (fun _ _ _ h => h) ?y0 (by assumption) ?r0
   case y0 => intro w h; (try dsimp only at h); go_simp; try with_reducible rfl
   try simp only [sA, sB, sC]
   refine tq (i := 1) (v := ?v1) rfl rfl (by kernel_rfl) (fun _ _ _ h => h) ?y1 (by assumption) ?r1
   case y1 => intro w h; (try dsimp only at h); go_simp; try with_reducible rfl
   try simp only [sA, sB, sC]
   refine tq (i := 2) (v := ?v2) rfl rfl (by kernel_rfl) (fun _ _ _ h => h) ?y2 (by assumption) ?r2
   case y2 => intro w h; (try dsimp only at h); go_simp; try with_reducible rfl
   try simp only [sA, sB, sC]
   refine tq (i := 3) (v := ?v3) rfl rfl (by kernel_rfl) (fun _ _ _ h => h) ?y3 (by assumption) ?r3
   case y3 => intro w h; (try dsimp only at h); go_simp; try with_reducible rfl
   try simp only [sA, sB, sC]
   refine tq (i := 4) (v := ?v4) rfl rfl (by kernel_rfl) (fun _ _ _ h => h) ?y4 (by assumption) ?r4
   case y4 => intro w h; (try dsimp only at h); go_simp; try with_reducible rfl
   try simp only [sA, sB, sC]
   refine tq (i := 5) (v := ?v5) rfl rfl (by kernel_rfl) (fun _ _ _ h => h) ?y5 (by assumption) ?r5
   case y5 => intro w h; (try dsimp only at h); go_simp; try with_reducible rfl
   try simp only [sA, sB, sC]
   refine tq (i := 6) (v := ?v6) rfl rfl (by kernel_rfl) (fun _ _ _ h => h) ?y6 (by assumption) ?r6
   case y6 => intro w h; (try dsimp only at h); go_simp; try with_reducible rfl
   try simp only [sA, sB, sC]
   refine tq (i := 7) (v := ?v7) rfl rfl (by kernel_rfl) (fun _ _ _ h => h) ?y7 (by assumption) ?r7
   case y7 => intro w h; (try dsimp only at h); go_simp; try with_reducible rfl
   try simp only [sA, sB, sC]
   refine tq (i := 8) (v := ?v8) rfl rfl (by kernel_rfl) (fun _ _ _ h => h) ?y8 (by assumption) ?r8
   case y8 => intro w h; (try dsimp only at h); go_simp; try with_reducible rfl
   try simp only [sA, sB, sC]
   refine tq (i := 9) (v := ?v9) rfl rfl (by kernel_rfl) (fun _ _ _ h => h) ?y9 (by assumption) ?r9
   case y9 => intro w h; (try dsimp only at h); go_simp; try with_reducible rfl
   try simp only [sA, sB, sC]
   refine tq (i := 10) (v := ?v10) rfl rfl (by kernel_rfl) (fun _ _ _ h => h) ?y10 (by assumption) ?r10
   case y10 => intro w h; (try dsimp only at h); go_simp; try with_reducible rfl
   try simp only [sA, sB, sC]
   refine tq (i := 11) (v := ?v11) rfl rfl (by kernel_rfl) (fun _ _ _ h => h) ?y11 (by assumption) ?r11
   case y11 => intro w h; (try dsimp only at h); go_simp; try with_reducible rfl
   try simp only [sA, sB, sC]
   refine rq (k := 12) rfl (by kernel_rfl) (by kernel_rfl) (fun K hK => ?_)
   go_simp
   refine (HT0.out _ (HBW.out.trans (W3.out.mono HBW.out.size))).mono ?_
   rintro e w4 ⟨rfl, hd⟩
   have W4 := hide (W3.out.trans (hd.below.mono W3.out.size))
   clear hd
   refine hK.out _ _ (HQ.out _ W4.out) (fun _ => ?_)
   clear hK K
   try simp only [Act.put, sA, sB, sC]
   refine tq (i := 13) (v := ?v13) rfl rfl (by kernel_rfl) (fun _ _ _ h => h) ?y13 (by assumption) ?r13
   case y13 => intro w h; (try dsimp only at h); go_simp; try with_reducible rfl
   try simp only [sA, sB, sC]
   refine tq (i := 14) (v := ?v14) rfl rfl (by kernel_rfl) (fun _ _ _ h => h) ?y14 (by assumption) ?r14
   case y14 => intro w h; (try dsimp only at h); go_simp; try with_reducible rfl
   try simp only [sA, sB, sC]
   refine tq (i := 15) (v := ?v15) rfl rfl (by kernel_rfl) (fun _ _ _ h => h) ?y15 (by assumption) ?r15
   case y15 => intro w h; (try dsimp only at h); go_simp; try with_reducible rfl
   try simp only [sA, sB, sC]
   refine tq (i := 16) (v := ?v16) rfl rfl (by kernel_rfl) (fun _ _ _ h => h) ?y16 (by assumption) ?r16
   case y16 => intro w h; (try dsimp only at h); go_simp; try with_reducible rfl
   try simp only [sA, sB, sC]
   refine tq (i := 17) (v := ?v17) rfl rfl (by kernel_rfl) (fun _ _ _ h => h) ?y17 (by assumption) ?r17
   case y17 => intro w h; (try dsimp only at h); go_simp; try with_reducible rfl
   try simp only [sA, sB, sC]
   refine tq (i := 18) (v := ?v18) rfl rfl (by kernel_rfl) (fun _ _ _ h => h) ?y18 (by assumption) ?r18
   case y18 => intro w h; (try dsimp only at h); go_simp; try with_reducible rfl
   try simp only [sA, sB, sC]
   refine tq (i := 19) (v := ?v19) rfl rfl (by kernel_rfl) (fun _ _ _ h => h) ?y19 (by assumption) ?r19
   case y19 => intro w h; (try dsimp only at h); go_simp; try with_reducible rfl
   try simp only [sA, sB, sC]
   refine tq (i := 20) (v := ?v20) rfl rfl (by kernel_rfl) (fun _ _ _ h => h) ?y20 (by assumption) ?r20
   case y20 => intro w h; (try dsimp only at h); go_simp; try with_reducible rfl
   try simp only [sA, sB, sC]
   refine tq (i := 21) (v := ?v21) rfl rfl (by kernel_rfl) (fun _ _ _ h => h) ?y21 (by assumption) ?r21
   case y21 => intro w h; (try dsimp only at h); go_simp; try with_reducible rfl
   try simp only [sA, sB, sC]
   refine tq (i := 22) (v := ?v22) rfl rfl (by kernel_rfl) (fun _ _ _ h => h) ?y22 (by assumption) ?r22
   case y22 => intro w h; (try dsimp only at h); go_simp; try with_reducible rfl
   try simp only [sA, sB, sC]
   refine tq (i := 23) (v := ?v23) rfl rfl (by kernel_rfl) (fun _ _ _ h => h) ?y23 (by assumption) ?r23
   case y23 => intro w h; (try dsimp only at h); go_simp; try with_reducible rfl
   try simp only [sA, sB, sC]
   refine tq (i := 24) (v := ?v24) rfl rfl (by kernel_rfl) (fun _ _ _ h => h) ?y24 (by assumption) ?r24
   case y24 => intro w h; (try dsimp only at h); go_simp; try with_reducible rfl
   try simp only [sA, sB, sC]
   refine tq (i := 25) (v := ?v25) rfl rfl (by kernel_rfl) (fun _ _ _ h => h) ?y25 (by assumption) ?r25
   case y25 => intro w h; (try dsimp only at h); go_simp; try with_reducible rfl
   try simp only [sA, sB, sC]
   refine tq (i := 26) (v := ?v26) rfl rfl (by kernel_rfl) (fun _ _ _ h => h) ?y26 (by assumption) ?r26
   case y26 => intro w h; (try dsimp only at h); go_simp; try with_reducible rfl
   try simp only [sA, sB, sC]
   refine rq (k := 27) rfl (by kernel_rfl) (by kernel_rfl) (fun K hK => ?_)
   go_simp
   refine (HT1.out _ (HBW.out.trans (W4.out.mono HBW.out.size))).mono ?_
   rintro e w5 ⟨rfl, hd⟩
   have W5 := hide (W4.out.trans (hd.below.mono W4.out.size))
   clear hd
   refine hK.out _ _ (HQ.out _ W5.out) (fun _ => ?_)
   clear hK K
   try simp only [Act.put, sA, sB, sC]
   refine tq (i := 28) (v := ?v28) rfl rfl (by kernel_rfl) (fun _ _ _ h => h) ?y28 (by assumption) ?r28
   case y28 => intro w h; (try dsimp only at h); go_simp; try with_reducible rfl
   try simp only [sA, sB, sC]
   refine tq (i := 29) (v := ?v29) rfl rfl (by kernel_rfl) (fun _ _ _ h => h) ?y29 (by assumption) ?r29
   case y29 => intro w h; (try dsimp only at h); go_simp; try with_reducible rfl
   try simp only [sA, sB, sC]
   refine tq (i := 30) (v := ?v30) rfl rfl (by kernel_rfl) (fun _ _ _ h => h) ?y30 (by assumption) ?r30
   case y30 => intro w h; (try dsimp only at h); go_simp; try with_reducible rfl
   try simp only [sA, sB, sC]
   refine tq (i := 31) (v := ?v31) rfl rfl (by kernel_rfl) (fun _ _ _ h => h) ?y31 (by assumption) ?r31
   case y31 => intro w h; (try dsimp only at h); go_simp; try with_reducible rfl
   try simp only [sA, sB, sC]
   refine tq (i := 32) (v := ?v32) rfl rfl (by kernel_rfl) (fun _ _ _ h => h) ?y32 (by assumption) ?r32
   case y32 => intro w h; (try dsimp only at h); go_simp; try with_reducible rfl
   try simp only [sA, sB, sC]
   refine tq (i := 33) (v := ?v33) rfl rfl (by kernel_rfl) (fun _ _ _ h => h) ?y33 (by assumption) ?r33
   case y33 => intro w h; (try dsimp only at h); go_simp; try with_reducible rfl
   try simp only [sA, sB, sC]
   refine tq (i := 34) (v := ?v34) rfl rfl (by kernel_rfl) (fun _ _ _ h => h) ?y34 (by assumption) ?r34
   case y34 => intro w h; (try dsimp only at h); go_simp; try with_reducible rfl
   try simp only [sA, sB, sC]
   refine tq (i := 35) (v := ?v35) rfl rfl (by kernel_rfl) (fun _ _ _ h => h) ?y35 (by assumption) ?r35
   case y35 => intro w h; (try dsimp only at h); go_simp; try with_reducible rfl
   try simp only [sA, sB, sC]
   refine tq (i := 36) (v := ?v36) rfl rfl (by kernel_rfl) (fun _ _ _ h => h) ?y36 (by assumption) ?r36
   case y36 => intro w h; (try dsimp only at h); go_simp; try with_reducible rfl
   try simp only [sA, sB, sC]
   refine tq (i := 37) (v := ?v37) rfl rfl (by kernel_rfl) (fun _ _ _ h => h) ?y37 (by assumption) ?r37
   case y37 => intro w h; (try dsimp only at h); go_simp; try with_reducible rfl
   try simp only [sA, sB, sC]
   refine tq (i := 38) (v := ?v38) rfl rfl (by kernel_rfl) (fun _ _ _ h => h) ?y38 (by assumption) ?r38
   case y38 => intro w h; (try dsimp only at h); go_simp; try with_reducible rfl
   try simp only [sA, sB, sC]
   refine tq (i := 39) (v := ?v39) rfl rfl (by kernel_rfl) (fun _ _ _ h => h) ?y39 (by assumption) ?r39
   case y39 => intro w h; (try dsimp only at h); go_simp; try with_reducible rfl
   try simp only [sA, sB, sC]
   refine tq (i := 40) (v := ?v40) rfl rfl (by kernel_rfl) (fun _ _ _ h => h) ?y40 (by assumption) ?r40
   case y40 => intro w h; (try dsimp only at h); go_simp; try with_reducible rfl
   try simp only [sA, sB, sC]
   refine tq (i := 41) (v := ?v41) rfl rfl (by kernel_rfl) (fun _ _ _ h => h) ?y41 (by assumption) ?r41
   case y41 => intro w h; (try dsimp only at h); go_simp; try with_reducible rfl
   try simp only [sA, sB, sC]
   refine tq (i := 42) (v := ?v42) rfl rfl (by kernel_rfl) (fun _ _ _ h => h) ?y42 (by assumption) ?r42
   case y42 => intro w h; (try dsimp only at h); go_simp; try with_reducible rfl
   try simp only [sA, sB, sC]
   refine rq (k := 43) rfl (by kernel_rfl) (by kernel_rfl) (fun K hK => ?_)
   go_simp
   refine (HT2.out _ (HBW.out.trans (W5.out.mono HBW.out.size))).mono ?_
   rintro e w6 ⟨rfl, hd⟩
   have W6 := hide (W5.out.trans (hd.below.mono W5.out.size))
   clear hd
   refine hK.out _ _ (HQ.out _ W6.out) (fun _ => ?_)
   clear hK K
   try simp only [Act.put, sA, sB, sC]
   refine tq (i := 44) (v := ?v44) rfl rfl (by kernel_rfl) (fun _ _ _ h => h) ?y44 (by assumption) ?r44
   case y44 => intro w h; (try dsimp only at h); go_simp; try with_reducible rfl
   try simp only [sA, sB, sC]
   refine tq (i := 45) (v := ?v45) rfl rfl (by kernel_rfl) (fun _ _ _ h => h) ?y45 (by assumption) ?r45
   case y45 => intro w h; (try dsimp only at h); go_simp; try with_reducible rfl
   try simp only [sA, sB, sC]
   refine wpAnyH_done (by kernel_rfl) ?_ _
   go_wp2
   go_roundw
   case rel => exact ⟨i + 1, by go_num, by omega, hide (HBW.out.trans (W6.out.mono HBW.out.size))⟩
   case measure => simp [intOf]; omega
end
end Go.Proofs.YtpheeheikigenaaGreatDoor
namespace Go.Proofs.YtpheeheikigenaaGreatDoor.Ln
theorem oddB_no {s : T} (h : s.getLast? ≠ some 92) : oddB s = false := by
 unfold oddB
 rw [← List.head?_reverse] at h
 cases hs : s.reverse with
 | nil => rfl
 | cons x t =>
   rw [hs] at h
   have hx : x ≠ 92 := fun e => h (by rw [e]; rfl)
   rw [List.takeWhile_cons_of_neg (by simpa using hx)]
   rfl
theorem spl_snoc {c x : UInt8} (hx : x ≠ c) : ∀ a : T, spl c (a ++ [x]) = (spl c a).dropLast ++ [(spl c a).getLastD [] ++ [x]]
 | [] => by
   rw [List.nil_append]
   show (if x = c then _ else _) = _
   rw [if_neg hx]; rfl
 | z :: a => by
   have ih := spl_snoc hx a
   rw [List.cons_append, spl, spl, ih]
   cases hs : spl c a with
   | nil => exact absurd hs (spl_ne c a)
   | cons h t =>
     by_cases hz : z = c
     · rw [if_pos hz, if_pos hz]
       simp
     · rw [if_neg hz, if_neg hz]
       cases t with
       | nil => simp
       | cons t0 t => simp
theorem spl_end (c : UInt8) (a : T) : spl c (a ++ [c]) = spl c a ++ [[]] := spl_both c a []
theorem last_no {a : T} (h : a.getLast? ≠ some 92) : ∀ x, (spl 10 a).getLast? = some x → x.getLast? ≠ some 92 := by
 intro x hx
 rcases List.eq_nil_or_concat a with rfl | ⟨a', y, rfl⟩
 · have : x = [] := by simpa [spl] using hx.symm
   rw [this]; simp
 · rw [List.concat_eq_append] at *
   by_cases hy : y = 10
   · subst hy
     rw [spl_end] at hx
     have : x = [] := by simpa using hx.symm
     rw [this]; simp
   · rw [spl_snoc hy] at hx
     have : x = (spl 10 a').getLastD [] ++ [y] := by simpa using hx.symm
     rw [this]
     simpa using h
theorem last_tail {l : T} (h : l.getLast? ≠ some 92) : l.tail.getLast? ≠ some 92 := by
 cases l with
 | nil => exact h
 | cons x t =>
   cases t with
   | nil => simp
   | cons y t => simpa [List.getLast?_cons_cons] using h
theorem last_tab {l : T} (h : l.getLast? ≠ some 92) : (dropTab l).getLast? ≠ some 92 := by
 unfold dropTab
 split
 · exact last_tail h
 · exact h
theorem last_drop {l : T} (p : UInt8 → Bool) (h : l.getLast? ≠ some 92) : (l.dropWhile p).getLast? ≠ some 92 := by
 induction l with
 | nil => exact h
 | cons x t ih =>
   rw [List.dropWhile_cons]
   split
   · exact ih (last_tail h)
   · exact h
def Cl (L : List T) : Prop := ∀ x, L.getLast? = some x → x.getLast? ≠ some 92
theorem Cl.tail {n : T} {r : List T} (h : Cl (n :: r)) : Cl r := by
 intro x hx
 refine h x ?_
 cases r with
 | nil => cases hx
 | cons y r => rw [List.getLast?_cons_cons]; exact hx
theorem Cl.one {n : T} (h : Cl [n]) : n.getLast? ≠ some 92 := h n rfl
theorem Cl.suf {L M : List T} (h : Cl L) (hs : M <:+ L) : Cl M := by
 obtain ⟨P, rfl⟩ := hs
 intro x hx
 refine h x ?_
 rw [List.getLast?_append, hx]; rfl
theorem recF_app (M : List T) : ∀ (rest : List T) (s acc : T), (rest = [] → oddB s = false) → Cl rest → recF (rest ++ M) s acc = ((recF rest s acc).1, (recF rest s acc).2 ++ M)
 | [], s, acc, h, _ => by
   rw [List.nil_append]
   cases M with
   | nil => rfl
   | cons n r =>
     have h0 := h rfl
     show (if oddB s = true then _ else _) = _
     rw [h0]
     rfl
 | n :: r, s, acc, h, hc => by
   rw [List.cons_append, recF, recF]
   split
   · exact recF_app M r _ _ (fun e => by subst e; exact oddB_no (last_tab hc.one)) hc.tail
   · rfl
theorem othF_app (M : List T) : ∀ (rest : List T) (s : T), (rest = [] → oddB s = false) → Cl rest → othF (rest ++ M) s = ((othF rest s).1, (othF rest s).2 ++ M)
 | [], s, h, _ => by
   have h0 := h rfl
   rw [List.nil_append]
   cases M with
   | nil => rfl
   | cons n r => rw [othF, if_neg (by rw [h0]; simp), othF, if_neg (by rw [h0]; simp)]; rfl
 | n :: r, s, h, hc => by
   rw [List.cons_append, othF, othF]
   split
   · refine othF_app M r _ (fun e => ?_) hc.tail
     subst e
     apply oddB_no
     have hn := last_drop blk hc.one
     change (trimL n).getLast? ≠ some 92 at hn
     rw [List.getLast?_append]
     cases ht : (trimL n).getLast? with
     | none => unfold front; simp
     | some y => rw [ht] at hn; exact hn
   · rfl
theorem recF_suf : ∀ (rest : List T) (s acc : T), (recF rest s acc).2 <:+ rest
 | [], _, _ => List.suffix_refl _
 | n :: r, s, acc => by
   rw [recF]
   split
   · exact (recF_suf r _ _).trans (List.suffix_cons _ _)
   · exact List.suffix_refl _
theorem othF_suf : ∀ (rest : List T) (s : T), (othF rest s).2 <:+ rest
 | [], _ => List.suffix_refl _
 | n :: r, s => by
   rw [othF]
   split
   · exact (othF_suf r _).trans (List.suffix_cons _ _)
   · exact List.suffix_refl _
theorem linesA_app (M : List T) : ∀ (f : Nat) (L : List T), L.length ≤ f → Cl L → linesA (L ++ M) = linesA L ++ linesA M
 | 0, L, h, _ => by
   obtain rfl : L = [] := List.length_eq_zero_iff.1 (by omega)
   rfl
 | f + 1, [], _, _ => rfl
 | f + 1, l :: rest, h, hc => by
   simp only [List.length_cons] at h
   have k1 := recF_len rest l.tail l.tail
   have k2 := othF_len rest l
   have e1 := recF_app M rest l.tail l.tail (fun e => by subst e; exact oddB_no (last_tail hc.one)) hc.tail
   have e2 := othF_app M rest l (fun e => by subst e; exact oddB_no hc.one) hc.tail
   have i1 := linesA_app M f (recF rest l.tail l.tail).2 (by omega) (hc.tail.suf (recF_suf _ _ _))
   have i2 := linesA_app M f (othF rest l).2 (by omega) (hc.tail.suf (othF_suf _ _))
   rw [List.cons_append, linesA_cons, linesA_cons, e1, e2]
   dsimp only
   rw [i1, i2]
   split
   · rfl
   · rw [List.append_assoc]
theorem linesA_gap (M : List T) : linesA ([] :: M) = linesA M := by
 have h : othF M [] = ([], M) := by
   cases M with
   | nil => rfl
   | cons n r => rfl
 rw [linesA_cons, h]
 rfl
theorem cutL_both (a b : T) : cutL (a ++ 10 :: b) = spl 10 a ++ cutL b := by
 unfold cutL
 rw [spl_both]
 have hb := spl_ne 10 b
 have h1 : (spl 10 a ++ spl 10 b).getLastD [] = (spl 10 b).getLastD [] := by
   rw [List.getLastD_eq_getLast?, List.getLastD_eq_getLast?, List.getLast?_append]
   cases h : (spl 10 b).getLast? with
   | none => exact absurd (List.getLast?_eq_none_iff.1 h) hb
   | some x => rfl
 rw [h1]
 split
 · rw [List.dropLast_append_of_ne_nil hb]
 · rfl
theorem two_lines (a b : T) (h1 : a.getLast? ≠ some 92) (h2 : ∀ a', a = a' ++ [10] → a'.getLast? ≠ some 92) : linesA (cutL (a ++ 10 :: b)) = linesA (cutL a) ++ linesA (cutL b) := by
 rw [cutL_both]
 rcases List.eq_nil_or_concat a with rfl | ⟨a', y, rfl⟩
 · exact linesA_gap _
 · rw [List.concat_eq_append] at *
   by_cases hy : y = 10
   · subst hy
     have hc := last_no (h2 a' rfl)
     have he : cutL (a' ++ [10]) = spl 10 a' := by
       unfold cutL
       rw [spl_end, if_pos (by simp), List.dropLast_concat]
     rw [he, spl_end, List.append_assoc, linesA_app _ _ _ (Nat.le_refl _) hc, List.singleton_append, linesA_gap]
   · have hc := last_no h1
     have he : cutL (a' ++ [y]) = spl 10 (a' ++ [y]) := by
       unfold cutL
       rw [if_neg]
       rw [spl_snoc hy]; simp
     rw [he, linesA_app _ _ _ (Nat.le_refl _) hc]
theorem readF_zero {s : T} (h : (readF s).2 = 0) : 0 ∉ s ∧ readF s = (linesA (cutL s), 0) := by
 unfold readF at h ⊢
 split at h
 · cases h
 · rename_i h1
   split at h
   · cases h
   · rename_i h2
     exact ⟨h2, by rw [if_neg h1, if_neg h2]⟩
theorem parts (a b : T) (ha : a.length ≤ 500) (hb : b.length ≤ 500) (ea : (readF a).2 = 0) (eb : (readF b).2 = 0) (h1 : a.getLast? ≠ some 92) (h2 : ∀ a', a = a' ++ [10] → a'.getLast? ≠ some 92) : readF (a ++ 10 :: b) = ((readF a).1 ++ (readF b).1, 0) := by
 obtain ⟨za, ra⟩ := readF_zero ea
 obtain ⟨zb, rb⟩ := readF_zero eb
 rw [ra, rb]
 unfold readF
 rw [if_neg (by simp only [List.length_append, List.length_cons]; omega), if_neg (by simp [za, zb]), two_lines a b h1 h2]
end Go.Proofs.YtpheeheikigenaaGreatDoor.Ln
namespace Go.Proofs.YtpheeheikigenaaGreatDoor.Ln
theorem readF_ok {s : T} (h1 : s.length ≤ 16384) (h2 : (0 : UInt8) ∉ s) : readF s = (linesA (cutL s), 0) := by
 unfold readF
 rw [if_neg (by omega), if_neg h2]
end Go.Proofs.YtpheeheikigenaaGreatDoor.Ln
namespace Go.Proofs.YtpheeheikigenaaGreatDoor
namespace Rd
open Go.RowKit Ln Pth Vf Mc
def dg2 (n : Nat) : T := if n < 10 then [UInt8.ofNat (48 + n)] else [UInt8.ofNat (48 + n / 10), UInt8.ofNat (48 + n % 10)]
def needT (k : Nat) : T := (List.range k).flatMap fun j => 32 :: 110 :: dg2 j
def recT (k : Nat) : T := (List.range k).flatMap fun j => 9 :: 64 :: 114 :: dg2 j ++ [32, 35, 32, 36, 64, 10]
def headT (i k : Nat) (inl : Bool) : T := (116 :: dg2 i) ++ (if 1 < k then 32 :: 117 :: dg2 i else []) ++ [32, 58, 32] ++ needT k ++ (if inl then [32, 59, 32, 36, 40, 120, 41, 59, 121] else [])
def blkT (i k : Nat) (inl : Bool) : T := headT i k inl ++ [32, 35, 32, 99, 10, 10] ++ recT k
def wantR (i k : Nat) (inl : Bool) : RuleS := ⟨(116 :: dg2 i) :: (if 1 < k then [117 :: dg2 i] else []), (List.range k).map (fun j => 110 :: dg2 j), (if inl then [[36, 40, 120, 41, 59, 121]] else []) ++ (List.range k).map (fun j => 64 :: 114 :: dg2 j ++ [32, 35, 32, 36, 64])⟩
def headP (i k : Nat) (inl : Bool) : T := trimR (headT i k inl)
def blkL (i k : Nat) (inl : Bool) : List Line := (false, headP i k inl) :: (List.range k).map (fun j => (true, 64 :: 114 :: dg2 j ++ [32, 35, 32, 36, 64]))
def blkOk (i k : Nat) (inl : Bool) : Bool := decide (blkT i k inl = (blkT i k inl).dropLast ++ [10]) && decide ((blkT i k inl).dropLast.getLast? ≠ some 92) && (decide ((blkT i k inl).dropLast.getLast? ≠ some 10) || decide ((blkT i k inl).dropLast.dropLast.getLast? ≠ some 92)) && decide (linesA (cutL (blkT i k inl).dropLast) = blkL i k inl) && decide ((blkT i k inl).length ≤ 100) && !(blkT i k inl).contains 0
theorem blk_all : ∀ i < 20, ∀ k < 4, (blkOk i k true && blkOk i k false) = true := by decide +kernel
theorem blk_facts (i : Nat) (hi : i < 20) (k : Nat) (hk : k < 4) (inl : Bool) : blkT i k inl = (blkT i k inl).dropLast ++ [10] ∧ (blkT i k inl).dropLast.getLast? ≠ some 92 ∧ ((blkT i k inl).dropLast.getLast? = some 10 → (blkT i k inl).dropLast.dropLast.getLast? ≠ some 92) ∧ linesA (cutL (blkT i k inl).dropLast) = blkL i k inl ∧ (blkT i k inl).length ≤ 100 ∧ (0 : UInt8) ∉ blkT i k inl := by
 have h := blk_all i hi k hk
 have h : blkOk i k inl = true := by
   rw [Bool.and_eq_true] at h
   cases inl
   · exact h.2
   · exact h.1
 unfold blkOk at h
 simp only [Bool.and_eq_true, Bool.or_eq_true, decide_eq_true_eq, Bool.not_eq_true'] at h
 obtain ⟨⟨⟨⟨⟨h1, h2⟩, h3⟩, h4⟩, h5⟩, h6⟩ := h
 refine ⟨h1, h2, fun e => h3.resolve_left (fun g => g e), h4, h5, fun e => ?_⟩
 rw [List.contains_iff_mem.2 e] at h6
 cases h6
theorem cutL_nil : linesA (cutL []) = [] := rfl
theorem blk_app {i k : Nat} (inl : Bool) (hi : i < 20) (hk : k < 4) (Y : T) : linesA (cutL (blkT i k inl ++ Y)) = blkL i k inl ++ linesA (cutL Y) := by
 obtain ⟨h1, h2, h3, h4, _⟩ := blk_facts i hi k hk inl
 rw [h1, List.append_assoc, List.singleton_append, two_lines _ _ h2 (fun a e => by
   have := h3 (by rw [e]; simp)
   rw [e] at this
   simpa using this), h4]
theorem blks_app (f : Nat → Nat) (inl : Bool) (hf : ∀ i, f i < 4) : ∀ m ≤ 20, ∀ Y : T, linesA (cutL (((List.range m).flatMap fun i => blkT i (f i) inl) ++ Y)) = ((List.range m).flatMap fun i => blkL i (f i) inl) ++ linesA (cutL Y)
 | 0, _, Y => rfl
 | m + 1, h, Y => by
   rw [List.range_succ, List.flatMap_append, List.flatMap_append, List.append_assoc, blks_app f inl hf m (by omega), List.flatMap_singleton, List.flatMap_singleton, blk_app inl (by omega) (hf m), List.append_assoc]
theorem foldE_app (f : Sx → Line → Except Nat Sx) : ∀ (A B : List Line) (s : Sx), foldE f (A ++ B) s = match foldE f A s with | .error e => .error e | .ok s' => foldE f B s'
 | [], B, s => rfl
 | x :: A, B, s => by
   rw [List.cons_append, foldE_cons, foldE_cons]
   cases f s x with
   | error e => rfl
   | ok s' => exact foldE_app f A B s'
def ruleOk (h : T) (r : RuleS) : Bool := match expS [] (cutF h 0 []).1 with
 | .error _ => false
 | .ok x => (Lib.cut x [58]).2.2 && !((Lib.cut x [58]).2.1.contains 58) && !(wordsF (Lib.cut x [58]).1 []).isEmpty && !mixF (wordsF (Lib.cut x [58]).1 []) && decide ((wordsF (Lib.cut x [58]).1 []).length ≤ 200) && decide ((wordsF (Lib.cut x [58]).2.1 []).length ≤ 200) && decide (wordsF (Lib.cut x [58]).1 [] = r.tg) && decide (wordsF (Lib.cut x [58]).2.1 [] = r.nd) && decide ((if (cutF h 0 []).2.2 then [(cutF h 0 []).2.1] else []) = r.rc)
theorem rule_go {s : Sx} {h : T} {r : RuleS} (hm : s.mac = []) (hk : ruleOk h r = true) (hl : s.rules.length < 300) : ruleF s h = .ok { s with rules := s.rules ++ [r] } := by
 unfold ruleOk at hk
 unfold ruleF
 rw [hm]
 split at hk
 · cases hk
 · rename_i x hx
   rw [hx]
   simp only [Bool.and_eq_true, decide_eq_true_eq, Bool.not_eq_true', List.isEmpty_eq_false_iff] at hk
   obtain ⟨⟨⟨⟨⟨⟨⟨⟨h1, h2⟩, h3⟩, h4⟩, h5⟩, h6⟩, h7⟩, h8⟩, h9⟩ := hk
   dsimp only
   have h2' : (58 : UInt8) ∉ (Lib.cut x [58]).2.1 := by
     intro e
     rw [List.contains_iff_mem.2 e] at h2
     cases h2
   rw [if_neg (by
     rintro (e | e | e | e)
     · rw [h1] at e; cases e
     · exact h2' e
     · exact h3 e
     · rw [h4] at e; cases e), if_neg (by omega), h7, h8, h9]
def headOk (i k : Nat) (inl : Bool) : Bool := (defsF (headP i k inl)).isNone && !isInc (headP i k inl) && ruleOk (headP i k inl) ⟨(wantR i k inl).tg, (wantR i k inl).nd, if inl then [[36, 40, 120, 41, 59, 121]] else []⟩
theorem head_all : ∀ i < 20, ∀ k < 4, (headOk i k true && headOk i k false) = true := by decide +kernel
theorem head_facts (i : Nat) (hi : i < 20) (k : Nat) (hk : k < 4) (inl : Bool) : (defsF (headP i k inl)).isNone = true ∧ isInc (headP i k inl) = false ∧ ruleOk (headP i k inl) ⟨(wantR i k inl).tg, (wantR i k inl).nd, if inl then [[36, 40, 120, 41, 59, 121]] else []⟩ = true := by
 have h := head_all i hi k hk
 have h : headOk i k inl = true := by
   rw [Bool.and_eq_true] at h
   cases inl
   · exact h.2
   · exact h.1
 unfold headOk at h
 simp only [Bool.and_eq_true, Bool.not_eq_true'] at h
 exact ⟨h.1.1, h.1.2, h.2⟩
theorem add_all (fs : St) (cwd : T) (rec : Option (Sx → T → Except Nat Sx)) : ∀ (l : List T) (s : Sx) (R : List RuleS) (r : RuleS), s.rules = R ++ [r] → foldE (lineF fs cwd rec) (l.map fun t => (true, t)) s = .ok { s with rules := R ++ [{ r with rc := r.rc ++ l }] }
 | [], s, R, r, h => by simp [foldE_nil, ← h]
 | t :: l, s, R, r, h => by
   rw [List.map_cons, foldE_cons, show lineF fs cwd rec s (true, t) = addL s t from rfl]
   have e : addL s t = .ok { s with rules := R ++ [{ r with rc := r.rc ++ [t] }] } := by
     unfold addL
     rw [h, List.getLast?_concat]
     simp
   rw [e]
   dsimp only
   rw [add_all fs cwd rec l _ R { r with rc := r.rc ++ [t] } rfl]
   simp
theorem blk_fold (fs : St) (cwd : T) (rec : Option (Sx → T → Except Nat Sx)) {i k : Nat} (inl : Bool) (hi : i < 20) (hk : k < 4) {s : Sx} (hm : s.mac = []) (hl : s.rules.length < 300) : foldE (lineF fs cwd rec) (blkL i k inl) s = .ok { s with rules := s.rules ++ [wantR i k inl] } := by
 obtain ⟨h1, h2, h3⟩ := head_facts i hi k hk inl
 unfold blkL
 rw [foldE_cons]
 have e : lineF fs cwd rec s (false, headP i k inl) = ruleF s (headP i k inl) := by
   unfold lineF
   rw [if_neg (by simp)]
   rw [Option.isNone_iff_eq_none] at h1
   dsimp only
   rw [h1, h2]
   rfl
 rw [e, rule_go hm h3 hl]
 dsimp only
 have := add_all fs cwd rec ((List.range k).map fun j => 64 :: 114 :: dg2 j ++ [32, 35, 32, 36, 64]) { s with rules := s.rules ++ [⟨(wantR i k inl).tg, (wantR i k inl).nd, if inl then [[36, 40, 120, 41, 59, 121]] else []⟩] } s.rules _ rfl
 rw [List.map_map] at this
 rw [show ((List.range k).map fun j => ((true, 64 :: 114 :: dg2 j ++ [32, 35, 32, 36, 64]) : Line)) = (List.range k).map ((fun t => (true, t)) ∘ fun j => 64 :: 114 :: dg2 j ++ [32, 35, 32, 36, 64]) from rfl, this]
 rfl
theorem blks_fold (fs : St) (cwd : T) (rec : Option (Sx → T → Except Nat Sx)) (f : Nat → Nat) (inl : Bool) (hf : ∀ i, f i < 4) : ∀ m ≤ 20, foldE (lineF fs cwd rec) ((List.range m).flatMap fun i => blkL i (f i) inl) ⟨[], [], [], 0⟩ = .ok ⟨[], [], (List.range m).map fun i => wantR i (f i) inl, 0⟩
 | 0, _ => rfl
 | m + 1, h => by
   rw [List.range_succ, List.flatMap_append, foldE_app, blks_fold fs cwd rec f inl hf m (by omega), List.flatMap_singleton]
   dsimp only
   rw [blk_fold fs cwd rec inl (by omega) (hf m) rfl (by simp; omega), List.map_append]
   rfl
theorem blks_len (f : Nat → Nat) (inl : Bool) (hf : ∀ i, f i < 4) : ∀ m ≤ 20, ((List.range m).flatMap fun i => blkT i (f i) inl).length ≤ 100 * m ∧ (0 : UInt8) ∉ (List.range m).flatMap fun i => blkT i (f i) inl
 | 0, _ => by simp
 | m + 1, h => by
   obtain ⟨h1, h2⟩ := blks_len f inl hf m (by omega)
   obtain ⟨_, _, _, _, h3, h4⟩ := blk_facts m (by omega) (f m) (hf m) inl
   rw [List.range_succ, List.flatMap_append, List.flatMap_singleton, List.length_append]
   exact ⟨by omega, fun e => (List.mem_append.1 e).elim h2 h4⟩
theorem lines_plain (fs : St) (cwd : T) (d : Nat) (f : Nat → Nat) (inl : Bool) (hf : ∀ i, f i < 4) (m : Nat) (hm : m ≤ 20) : textR fs cwd d ⟨[], [], [], 0⟩ ((List.range m).flatMap fun i => blkT i (f i) inl) = .ok ⟨[], [], (List.range m).map fun i => wantR i (f i) inl, 0⟩ := by
 obtain ⟨h1, h2⟩ := blks_len f inl hf m hm
 have e : readF ((List.range m).flatMap fun i => blkT i (f i) inl) = ((List.range m).flatMap fun i => blkL i (f i) inl, 0) := by
   rw [readF_ok (by omega) h2]
   have := blks_app f inl hf m hm []
   rw [List.append_nil, cutL_nil, List.append_nil] at this
   rw [this]
 rw [textR_eq]
 unfold bodyR
 rw [e, if_neg (by simp)]
 exact blks_fold fs cwd _ f inl hf m hm
end Rd
end Go.Proofs.YtpheeheikigenaaGreatDoor
namespace Go.Proofs.YtpheeheikigenaaGreatDoor
section
open Go.RowKit Go.Deep Qm.Base
theorem digits_big (n : Nat) : ∀ (w : World), n ≤ 9223372036854775807 → Calls Tryz.prog 16 #[.int .i64 n] w fun e w' => e = .returned (.string (ds (dgL n))) ∧ w = w' := by
 induction n using Nat.strongRecOn with
 | ind n ih =>
   intro w hn
   have IH := hide ih
   clear ih
   have h1 : (n : Int) % 10 < 10 := by omega
   have h2 : 0 ≤ (n : Int) % 10 := by omega
   obtain ⟨k, hk⟩ : ∃ k : Nat, (n : Int) % 10 = (k : Int) := ⟨n % 10, by omega⟩
   have hk10 : k < 10 := by omega
   have HE := hide (ds_digit hk10)
   by_cases h : n < 10
   · have HL := hide (show dgL n = [48 + k] by rw [dgL_small h]; congr 2; omega)
     go_enter Tryz.func16, Tryz.ntmps16
     go_wp2
     go_ret
     refine ⟨?_, rfl⟩
     rw [HL.out, ← HE.out]
     rfl
   · have HL := hide (show ds (dgL n) = ds (dgL (n / 10)) ++ ds [48 + k] by rw [ds_app, dgL_big h]; congr 4; omega)
     go_enter Tryz.func16, Tryz.ntmps16
     go_wp2_with fail
     rw [show (n : Int) / 10 = ((n / 10 : Nat) : Int) from by omega]
     refine (IH.out (n / 10) (by omega) w (by omega)).mono ?_
     rintro e w' ⟨rfl, rfl⟩
     rw [HE.out]
     have hl : (ds (dgL (n / 10))).size ≤ 1000 := by rw [ds_size]; have := dgL_len (n / 10) 18 (by omega); omega
     have hl1 : (ds [48 + k]).size = 1 := ds_size _
     generalize ds (dgL (n / 10)) = A at hl HL ⊢
     generalize ds [48 + k] = B at hl1 HL ⊢
     go_wp2
     go_ret
     refine ⟨?_, rfl⟩
     rw [HL.out]
     rfl
end
section
open Go.RowKit Go.Deep Go.Maps Ln Pth Vf Rd Mc Qm.Base
def k4 (x : Int) : Nat := (x % 4).toNat
theorem k4_lt (x : Int) : k4 x < 4 := by unfold k4; omega
theorem and3k (x : Int) (h : -9223372036854775808 ≤ x ∧ x ≤ 9223372036854775807) : bits .and .i64 x 3 = (k4 x : Int) := by
 have hx : (BitVec.ofInt 64 x &&& BitVec.ofInt 64 (3 : Int)).toNat = k4 x := by
   rw [BitVec.toNat_and, show (BitVec.ofInt 64 (3 : Int)).toNat = 2 ^ 2 - 1 from rfl, Nat.and_two_pow_sub_one_eq_mod, BitVec.toNat_ofInt]
   unfold k4
   omega
 show IntKind.i64.wrap ((BitVec.ofInt 64 x &&& BitVec.ofInt 64 (3 : Int)).toNat : Int) = _
 have := k4_lt x
 rw [hx, IntKind.wrap_i64]
 omega
theorem ds_dg2 : ∀ n < 20, ds (dgL n) = bs (dg2 n) ∧ (dg2 n).length ≤ 2 := by
 intro n hn
 by_cases h : n < 10
 · rw [dgL_small h]
   have : ∀ n < 10, ds [48 + n] = bs (dg2 n) ∧ (dg2 n).length ≤ 2 := by decide +kernel
   exact this n h
 · have h2 : ¬ n / 10 < 0 := by omega
   rw [dgL_big h, dgL_small (show n / 10 < 10 by omega)]
   have : ∀ n < 20, 10 ≤ n → ds ([48 + n / 10] ++ [48 + n % 10]) = bs (dg2 n) ∧ (dg2 n).length ≤ 2 := by decide +kernel
   exact this n hn (by omega)
theorem OI.mk1 (w0 w : World) (hb : Below w0.heap.size w0 w) (x : ByteArray) : OI w0 ruty (w.heap.size + 1) [Cl.s [x], Cl.s [], Cl.s []] (fun k => w.heap.size ≤ k ∧ k < w.heap.size + 2) ((w.alloc (.cells #[.string x] 9)).alloc (.cells #[.slice (some ⟨w.heap.size, 0, none⟩) 1 1, .slice none 0 0, .slice none 0 0] ruty)) := by
 have h1 := World.ownsRow_lit (base := w0.heap.size) (e := 9) (size := 1) w #[.string x] 1 hb.size (by decide) rfl
 have hz : (w.alloc (.cells #[.string x] 9)).heap.size = w.heap.size + 1 := by simp
 have h2 := heapNew (w.alloc (.cells #[.string x] 9)) (.cells #[.slice (some ⟨w.heap.size, 0, none⟩) 1 1, .slice none 0 0, .slice none 0 0] ruty)
 rw [hz] at h2
 refine ⟨(hb.alloc hb.size _).alloc (by rw [hz]; have := hb.size; omega) _, ⟨by omega, by omega⟩, fun k hk => ⟨by have := hb.size; omega, by simp; omega⟩, [.slice (some ⟨w.heap.size, 0, none⟩) 1 1, .slice none 0 0, .slice none 0 0], h2, rfl, ?_, ?_⟩
 · intro j c u hc hu
   match j, hc, hu with
   | 0, hc, hu =>
     simp at hc hu
     subst hc hu
     refine ⟨World.ownsRow.alloc h1 _, fun _ k hk => ?_⟩
     have : k = w.heap.size := by simpa [Value.ownBlock] using hk.symm
     subst this
     exact ⟨⟨Nat.le_refl _, by omega⟩, by omega⟩
   | 1, hc, hu =>
     simp at hc hu
     subst hc hu
     exact ⟨World.ownsRow_nil _ _ _ _, fun _ k hk => by simp [Value.ownBlock] at hk⟩
   | 2, hc, hu =>
     simp at hc hu
     subst hc hu
     exact ⟨World.ownsRow_nil _ _ _ _, fun _ k hk => by simp [Value.ownBlock] at hk⟩
 · intro i j c d u v hne hc hd rc rd hu hv k hk1 hk2
   match i, j, hu, hv with
   | 0, 0, _, _ => exact hne rfl
   | 0, 1, _, hv => simp at hv; subst hv; simp [Value.ownBlock] at hk2
   | 0, 2, _, hv => simp at hv; subst hv; simp [Value.ownBlock] at hk2
   | 1, _, hu, _ => simp at hu; subst hu; simp [Value.ownBlock] at hk1
   | 2, _, hu, _ => simp at hu; subst hu; simp [Value.ownBlock] at hk1
def WantR (w0 : World) (f : Nat → Nat) (inl : Bool) (i : Nat) (v : Value) (w : World) : Prop :=
 Below w0.heap.size w0 w ∧ ∃ RL : List Rl, OwnG encRl 3 ruty w w0.heap.size v RL ∧ RL.map outR = (List.range i).map (fun j => ofRS (wantR j (f j) inl)) ∧
   ∀ r ∈ RL, RowN w (fun k => v.ownBlock ≠ some k) r.tg ∧ RowN w (fun k => v.ownBlock ≠ some k) r.nd ∧ RowN w (fun k => v.ownBlock ≠ some k) r.rc
theorem WantR.nil (w0 : World) (f : Nat → Nat) (inl : Bool) : WantR w0 f inl 0 (.slice none 0 0) w0 := ⟨Below.refl _ _, [], World.ownsRow_nil _ _ _ _, rfl, fun r h => by cases h⟩
theorem WantR.val {w0 w : World} {f : Nat → Nat} {inl : Bool} {i : Nat} {v : Value} (h : WantR w0 f inl i v w) : ∃ A c, v = .slice A i c := by
 obtain ⟨_, RL, h1, h2, _⟩ := h
 obtain ⟨A, c, e, _⟩ := h1.slice encRl_len
 have : RL.length = i := by have := congrArg List.length h2; simpa using this
 exact ⟨A, c, by rw [e, this]⟩
theorem WantR.app {w0 ws w : World} {f : Nat → Nat} {inl : Bool} {i : Nat} {A : Option Addr} {n c : Nat} (h : WantR w0 f inl i (.slice A n c) ws) (hb : Below ws.heap.size ws w) (r : Rl) (ho : outR r = ofRS (wantR i (f i) inl))
   (htg : RowN w (fun k => ws.heap.size ≤ k) r.tg) (hnd : RowN w (fun k => ws.heap.size ≤ k) r.nd) (hrc : RowN w (fun k => ws.heap.size ≤ k) r.rc) (hi : i ≤ 1000) :
   ∃ A4 c4 w4, (Builtin.append_ #[26, 26] 26 #[.slice A n c, .slice (some ⟨w.heap.size, 0, none⟩) 1 1]).run Tryz.prog (w.alloc (.cells #[sv r.tg, sv r.nd, sv r.rc] ruty)) = .ok (.slice A4 (n + 1) c4) w4 ∧ WantR w0 f inl (i + 1) (.slice A4 (n + 1) c4) w4 := by
 obtain ⟨h0, RL, h1, h2, h3⟩ := h
 have hl : RL.length = i := by have := congrArg List.length h2; simpa using this
 have h1w : OwnG encRl 3 ruty w w0.heap.size (.slice A n c) RL := ownsRow_of h1 fun k e => hb.block k (h1.lt k e).2
 obtain ⟨A', c', e, _, _, _, _⟩ := h1w.slice encRl_len
 injection e with e1 e2 e3
 have hwz : w0.heap.size ≤ w.heap.size := Nat.le_trans h0.size hb.size
 have hx : RG encRl 3 (w.alloc (.cells #[sv r.tg, sv r.nd, sv r.rc] ruty)) (some ⟨w.heap.size, 0, none⟩) [r] := rg_new (enc := encRl) (n := 3) w r ruty
 obtain ⟨v4, w4, r4, o4, g4, b4⟩ := run_appG rowRl encRl_len encRl_one (c := 1) (OwnG.alloc h1w (.cells #[sv r.tg, sv r.nd, sv r.rc] ruty)) hx (by simp; omega) (by simp; omega)
 obtain ⟨A4, c4, rfl, _, _, _, _⟩ := o4.slice encRl_len
 rw [List.length_append, List.length_singleton, ← e2] at r4 b4
 have ho4 : OwnG encRl 3 ruty w4 w0.heap.size (.slice A4 (n + 1) c4) (RL ++ [r]) := by
   have := o4
   rw [List.length_append, List.length_singleton, ← e2] at this
   exact this
 have hza : (w.alloc (.cells #[sv r.tg, sv r.nd, sv r.rc] ruty)).heap.size = w.heap.size + 1 := by simp
 have hbz := hb.size
 have hwn : w4.heap.size ≥ w.heap.size + 1 := by have := g4.size; omega
 have hown : ∀ k, (Value.slice A n c).ownBlock = some k → w0.heap.size ≤ k ∧ k < ws.heap.size := fun k e => h1.lt k e
 have hkw : ∀ k, k < w.heap.size → (Value.slice A n c).ownBlock ≠ some k → w4.heap[k]? = w.heap[k]? := fun k hk1 hk2 => (g4.block k (by omega) (fun e => hk2 e.symm)).trans (Below.heap_alloc _ _ _ hk1)
 have hv4 : ∀ k, (Value.slice A4 (n + 1) c4).ownBlock = some k → (Value.slice A n c).ownBlock = some k ∨ k = w.heap.size + 1 := fun k e => by
   rcases b4 with q | q
   · exact .inl (q ▸ e)
   · rw [q, hza] at e; injection e with e; exact .inr e.symm
 have hB4 : Below w0.heap.size w0 w4 := by
   have ha : Below w0.heap.size w0 (w.alloc (.cells #[sv r.tg, sv r.nd, sv r.rc] ruty)) := ((h0.trans (hb.mono h0.size)).alloc hwz _)
   exact ha.grown g4 (by simp; omega) (fun k e => (hown k e).1)
 have old : ∀ x : SRow, RowN ws (fun k => (Value.slice A n c).ownBlock ≠ some k) x → RowN w4 (fun k => (Value.slice A4 (n + 1) c4).ownBlock ≠ some k) x := fun x hx => by
   refine ⟨hx.1.ofK (by omega) fun a e hne hl => (hkw _ (by omega) (hx.2.2 a e hne)).trans (hb.block _ hl), hx.2.1, fun a e hne q => ?_⟩
   have hal : a.block < ws.heap.size := by
     obtain ⟨s, L, hL⟩ : ∃ s L, x.2.2 = s :: L := by
       cases hxx : x.2.2 with
       | nil => exact absurd hxx hne
       | cons s L => exact ⟨s, L, rfl⟩
     obtain ⟨g, o, e2, hg, _⟩ := hx.1 0 s (by rw [hL]; rfl)
     rw [e] at e2
     injection e2 with e2
     subst e2
     exact hg
   rcases hv4 _ q with q | q
   · exact hx.2.2 a e hne q
   · omega
 have new : ∀ x : SRow, RowN w (fun k => ws.heap.size ≤ k) x → RowN w4 (fun k => (Value.slice A4 (n + 1) c4).ownBlock ≠ some k) x := fun x hx => by
   have hal : ∀ a, x.1 = some a → x.2.2 ≠ [] → a.block < w.heap.size ∧ ws.heap.size ≤ a.block := fun a e hne => by
     obtain ⟨s, L, hL⟩ : ∃ s L, x.2.2 = s :: L := by
       cases hxx : x.2.2 with
       | nil => exact absurd hxx hne
       | cons s L => exact ⟨s, L, rfl⟩
     obtain ⟨g, o, e2, hg, _⟩ := hx.1 0 s (by rw [hL]; rfl)
     rw [e] at e2
     injection e2 with e2
     subst e2
     exact ⟨hg, hx.2.2 _ e hne⟩
   refine ⟨hx.1.ofK (by omega) fun a e hne hl => hkw _ hl fun q => ?_, hx.2.1, fun a e hne q => ?_⟩
   · have := (hal a e hne).2
     have := (hown _ q).2
     omega
   · have h5 := hal a e hne
     rcases hv4 _ q with q | q
     · have := (hown _ q).2
       omega
     · omega
 refine ⟨A4, c4, w4, r4, hB4, RL ++ [r], ho4, by rw [List.map_append, h2, List.range_succ, List.map_append]; simp [ho], fun q hq => ?_⟩
 rcases List.mem_append.1 hq with hq | hq
 · obtain ⟨q1, q2, q3⟩ := h3 q hq
   exact ⟨old _ q1, old _ q2, old _ q3⟩
 · rw [List.mem_singleton.1 hq]
   exact ⟨new _ htg, new _ hnd, new _ hrc⟩
end
section
open Go.RowKit Go.Deep Go.ChangeShapes Go.WideShapes
theorem choose_list {α : Type} {P : Nat → α → Prop} : ∀ n, (∀ i, i < n → ∃ x, P i x) → ∃ L : List α, L.length = n ∧ ∀ i x, L[i]? = some x → P i x
 | 0, _ => ⟨[], rfl, fun i x h => by simp at h⟩
 | n + 1, h => by
   obtain ⟨L, hl, hL⟩ := choose_list n (fun i hi => h i (by omega))
   obtain ⟨x, hx⟩ := h n (by omega)
   refine ⟨L ++ [x], by simp [hl], fun i y hy => ?_⟩
   by_cases hi : i < L.length
   · rw [List.getElem?_append_left hi] at hy
     exact hL i y hy
   · rw [List.getElem?_append_right (by omega)] at hy
     have : i - L.length = 0 := by
       have := (List.getElem?_eq_some_iff.1 hy).1
       simp at this
       omega
     rw [this] at hy
     simp at hy
     subst hy
     rw [show i = n by omega]
     exact hx
theorem add_offR (b off k : Nat) : (Addr.mk b off none).add k = ⟨b, off + k, none⟩ := by
 unfold Addr.add
 split
 · rename_i h0; subst h0; rfl
 · rfl
def CellsAt (w : World) (g o : Nat) (cs : List Value) : Prop := ∀ j v, cs[j]? = some v → w.cell? ⟨g, o + j, none⟩ = some v
def RowsAt {α : Type} (n : Nat) (good : World → α → List Value → Prop) (w : World) (A : Option Addr) (L : List α) : Prop :=
 ∀ k x, L[k]? = some x → ∃ g o cs, A = some ⟨g, o, none⟩ ∧ g < w.heap.size ∧ cs.length = n ∧ CellsAt w g (o + k * n) cs ∧ good w x cs
theorem open_rows {H α : Type} {enc : TypeId × Value → H} {P : Program} {w : World} {spare : Nat → Bool} {held : Bool} {t e : TypeId} {n : Nat} (ht : P.underlying t = some (.slice e)) (hn : P.cellsOf e = n) (h0 : 0 < n) (good : World → α → List Value → Prop)
   (each : ∀ fuel cs y, cs.length = n → DataW.trod enc P w 0 spare held fuel e cs = some y → ∃ x, good w x cs)
   {a0 : Option Addr} {len cap : Nat} {d : DataW H} {ps : List MemPlace} (h : DataW.Trod enc P w 0 spare held t (.slice a0 len cap) d ps) :
   ∃ L : List α, L.length = len ∧ L.length ≤ maxLen ∧ (∀ x ∈ L, ∃ cs, good w x cs) ∧ RowsAt n good w a0 L := by
 obtain ⟨fuel, hf⟩ := h
 rcases open_slice ht hf with ⟨hcs, hx⟩ | ⟨a, len', cap', m, fl, D, Pl, hcs, _, hl, hm, hmm, _, hx⟩
 · simp [Value.cells] at hcs
   obtain ⟨rfl, rfl, rfl⟩ := hcs
   exact ⟨[], rfl, Nat.zero_le _, fun x hx => by simp at hx, fun k x hk => by simp at hk⟩
 · simp [Value.cells] at hcs
   obtain ⟨rfl, rfl, rfl⟩ := hcs
   have hlm : len ≤ m := by rw [hmm]; split <;> omega
   obtain ⟨L, hL, hLx⟩ := choose_list (P := fun i x => ∃ cs, cs.length = n ∧ (∀ j v, cs[j]? = some v → w.cell? ((a.add (i * n)).add j) = some v) ∧ good w x cs) len (fun i hi => by
     obtain ⟨cs', h1, h2⟩ := hx i (by omega)
     rw [hn] at h1
     obtain ⟨_, hlen, hcell⟩ := World.cells?_some h1
     obtain ⟨x, hx⟩ := each _ _ _ hlen h2
     refine ⟨x, cs', hlen, fun j v hj => ?_, hx⟩
     have hjn : j < n := by
       have := (List.getElem?_eq_some_iff.1 hj).1
       omega
     have := hcell j hjn
     rw [hj] at this
     exact this)
   refine ⟨L, hL, by omega, fun x hx => ?_, fun k x hk => ?_⟩
   · obtain ⟨i, hi⟩ := List.getElem?_of_mem hx
     obtain ⟨cs, _, _, hg⟩ := hLx i x hi
     exact ⟨cs, hg⟩
   · obtain ⟨cs, h1, h2, h3⟩ := hLx k x hk
     obtain ⟨b, off, spot⟩ := a
     have hk2 : k < len := by
       have := (List.getElem?_eq_some_iff.1 hk).1
       omega
     obtain ⟨v0, hv0⟩ : ∃ v, cs[0]? = some v := ⟨cs[0]'(by omega), gE _⟩
     have hc0 := h2 0 v0 hv0
     have hspot : spot = none := by
       obtain ⟨x0, hx0⟩ : ∃ x, L[0]? = some x := ⟨L[0]'(by omega), gE _⟩
       obtain ⟨cs0, q1, q2, _⟩ := hLx 0 x0 hx0
       obtain ⟨u0, hu0⟩ : ∃ v, cs0[0]? = some v := ⟨cs0[0]'(by omega), gE _⟩
       have := q2 0 u0 hu0
       rw [Nat.zero_mul] at this
       simpa [Addr.add] using World.cell?_spot this
     subst hspot
     refine ⟨b, off, cs, rfl, ?_, h1, fun j v hj => ?_, h3⟩
     · rw [add_offR, add_offR] at hc0
       exact World.block_lt_of_cell? w _ hc0
     · have := h2 j v hj
       rw [add_offR, add_offR] at this
       exact this
end
section
open Go.RowKit Go.Deep Go.ChangeShapes Go.WideShapes
end
section
open Go.RowKit Go.Deep Go.ChangeShapes Go.WideShapes
end
section
open Go.RowKit Go.Deep Go.ChangeShapes Go.WideShapes
def IR (w : World) (A : Option Addr) (L : List Int) : Prop := ∀ (k : Nat) (x : Int), L[k]? = some x → ∃ g o, A = some ⟨g, o, none⟩ ∧ g < w.heap.size ∧ w.cell? ⟨g, o + k, none⟩ = some (.int .i64 x)
theorem IR.below {w w' : World} {A : Option Addr} {L : List Int} (h : IR w A L) (hb : Below w.heap.size w w') : IR w' A L := fun k x hk => by
 obtain ⟨g, o, e, hg, hc⟩ := h k x hk
 exact ⟨g, o, e, Nat.lt_of_lt_of_le hg hb.size, (hb.cell (p := ⟨g, o + k, none⟩) hg).trans hc⟩
def goodI (_ : World) (x : Int) (cs : List Value) : Prop := cs = [.int .i64 x] ∧ -9223372036854775808 ≤ x ∧ x ≤ 9223372036854775807
theorem open_IR {H : Type} {enc : TypeId × Value → H} {W : World} {a0 : Option Addr} {len cap : Nat} {d : DataW H} {ps : List MemPlace} (h : DataW.Trod enc Tryz.prog W 0 (fun _ => true) true 24 (.slice a0 len cap) d ps) :
   ∃ L : List Int, L.length = len ∧ L.length ≤ maxLen ∧ (∀ (k : Nat) (x : Int), L[k]? = some x → -9223372036854775808 ≤ x ∧ x ≤ 9223372036854775807) ∧ IR W a0 L := by
 obtain ⟨L, h1, h2, h3, h4⟩ := open_rows (n := 1) Tryz.underlying24 (by kernel_rfl) (by omega) goodI (fun fuel cs y hlen hy => by
   match cs, hlen with
   | [v0], _ =>
     obtain ⟨a, q0, _, hw⟩ := DataW.trod_int Tryz.underlying3 hy
     have e0 : [v0] = [.int .i64 a] := q0
     obtain rfl : v0 = .int .i64 a := List.cons.inj e0 |>.1
     refine ⟨a, rfl, ?_⟩
     have h2 : IntKind.i64.min ≤ a ∧ a ≤ 9223372036854775807 := by simpa [Lit.wf] using hw
     rwa [show IntKind.i64.min = -9223372036854775808 by decide] at h2) h
 refine ⟨L, h1, h2, fun k x hx => ?_, fun k x hk => ?_⟩
 · obtain ⟨cs, hg⟩ := h3 x (List.mem_of_getElem? hx); exact hg.2
 · obtain ⟨g, o, cs, e, hg, _, hc, ⟨rfl, _⟩⟩ := h4 k x hk
   refine ⟨g, o, e, hg, ?_⟩
   have := hc 0 _ rfl
   simpa using this
end
section
open Go.RowKit Go.Deep Go.Maps Ln Pth Vf Rd Mc Qm.Base
attribute [local go_sem] bt_eq
def XT (f : Nat → Nat) (inl : Bool) (i : Nat) : T := (List.range i).flatMap fun j => blkT j (f j) inl
def P2 (X : T) (i k : Nat) : T := X ++ (116 :: dg2 i) ++ (if 1 < k then 32 :: 117 :: dg2 i else [])
def P4 (X : T) (i k j : Nat) : T := P2 X i k ++ [32, 58, 32] ++ needT j
def P6 (X : T) (i k : Nat) (inl : Bool) : T := P4 X i k k ++ (if inl then [32, 59, 32, 36, 40, 120, 41, 59, 121] else [])
def P7 (X : T) (i k : Nat) (inl : Bool) (j : Nat) : T := P6 X i k inl ++ [32, 35, 32, 99, 10, 10] ++ recT j
theorem XT_succ (f : Nat → Nat) (inl : Bool) (i : Nat) : P7 (XT f inl i) i (f i) inl (f i) = XT f inl (i + 1) := by
 unfold XT
 rw [List.range_succ, List.flatMap_append, List.flatMap_singleton]
 simp [P7, P6, P4, P2, blkT, headT]
theorem needT_succ (j : Nat) : needT (j + 1) = needT j ++ 32 :: 110 :: dg2 j := by simp [needT, List.range_succ]
theorem recT_succ (j : Nat) : recT (j + 1) = recT j ++ (9 :: 64 :: 114 :: dg2 j ++ [32, 35, 32, 36, 64, 10]) := by simp [recT, List.range_succ]
theorem needT_len : ∀ j ≤ 4, (needT j).length ≤ 4 * j := by decide
theorem recT_len : ∀ j ≤ 4, (recT j).length ≤ 11 * j := by decide
def tgT (i k : Nat) : List T := (116 :: dg2 i) :: (if 1 < k then [117 :: dg2 i] else [])
def ndT (j : Nat) : List T := (List.range j).map fun j => 110 :: dg2 j
def rcT (inl : Bool) (j : Nat) : List T := (if inl then [[36, 40, 120, 41, 59, 121]] else []) ++ (List.range j).map fun j => 64 :: 114 :: dg2 j ++ [32, 35, 32, 36, 64]
theorem ndT_succ (j : Nat) : (ndT (j + 1)).map bs = (ndT j).map bs ++ [⟨#[110]⟩ ++ bs (dg2 j)] := by
 unfold ndT
 rw [List.range_succ, List.map_append, List.map_append, List.map_singleton, List.map_singleton, show (⟨#[110]⟩ : ByteArray) = bs [110] from rfl, bs_app]
 rfl
theorem rcT_succ (inl : Bool) (j : Nat) : (rcT inl (j + 1)).map bs = (rcT inl j).map bs ++ [⟨#[64, 114]⟩ ++ bs (dg2 j) ++ ⟨#[32, 35, 32, 36, 64]⟩] := by
 rw [show (⟨#[64, 114]⟩ : ByteArray) = bs [64, 114] from rfl, show (⟨#[32, 35, 32, 36, 64]⟩ : ByteArray) = bs [32, 35, 32, 36, 64] from rfl, bs_app, bs_app]
 simp only [rcT, List.range_succ, List.map_append, List.append_assoc, List.map_cons, List.map_nil]
 rfl
abbrev OIx (ws : World) (gr : Nat) (a b c : List T) (w : World) : Prop := ∃ T', OI ws ruty gr [Cl.s (a.map bs), Cl.s (b.map bs), Cl.s (c.map bs)] T' w
theorem law_rulesLines (K : Nat) (hK : K ≤ 140737488355328) (A : Option Addr) (c : Nat) (D : List Int) (inl : Bool) (hl : D.length ≤ maxLen) (hv : ∀ (k : Nat) (x : Int), D[k]? = some x → -9223372036854775808 ≤ x ∧ x ≤ 9223372036854775807) (w : World) (hm : MX w) (hA : IR w A D) :
   Calls Tryz.prog 4 #[.slice A D.length c, .bool inl] w fun e w' => e = .returned (.bool true) ∧ Below w.heap.size w w' := by
 have HM := hide hm
 have HA := hide (ralive_any w hm)
 have HIR := hide hA
 have HV := hide hv
 unfold maxLen at hl
 obtain ⟨n, hn⟩ : ∃ n, D.length = n := ⟨_, rfl⟩
 have HN := hide hn
 rw [hn] at hl ⊢
 clear hm hA hv hn
 go_enter Tryz.func4, Tryz.ntmps4
 go_wp2_with fail
 refine HA.out.mono ?_
 rintro e w1 ⟨rfl, hb1⟩
 have HB1 := hide hb1
 have HIR1 := hide (HIR.out.below hb1)
 clear hb1 HA HIR
 by_cases h0 : (20 : Int) < (n : Int)
 · have hd : decide ((20 : Int) < (n : Int)) = true := decide_eq_true h0
   go_wp2
   go_ret
   exact ⟨rfl, HB1.out⟩
 have hd : decide ((20 : Int) < (n : Int)) = false := decide_eq_false h0
 obtain ⟨f, hf⟩ : ∃ f : Nat → Nat, f = fun j => match D[j]? with | some x => k4 x | none => 0 := ⟨_, rfl⟩
 have HF := hide hf
 have hf4 : ∀ i, f i < 4 := fun i => by
   rw [hf]
   dsimp only
   split
   · exact k4_lt _
   · omega
 have HF4 := hide hf4
 clear hf hf4
 go_wp2
 go_loopw [6, 7, 8, 9, 10, 11, 12, 13] (fun v6 v7 v8 _ _ _ _ _ wr => ∃ i : Nat, v8 = .int .i64 i ∧ i ≤ n ∧ v6 = .string (bs (XT f inl i)) ∧ Hid (WantR w1 f inl i v7 wr)) (fun _ _ v8 _ _ _ _ _ _ => n - (intOf v8).toNat)
 case atStart => exact ⟨0, rfl, by omega, rfl, hide (WantR.nil w1 f inl)⟩
 case round =>
   obtain ⟨ws, hws⟩ : ∃ Z, Z = wr := ⟨_, rfl⟩
   subst hws
   obtain ⟨i, rfl, hi, rfl, HW⟩ := hrel
   have HXL := hide (blks_len f inl HF4.out i (by omega))
   obtain ⟨vA, vc, rfl⟩ := HW.out.val
   by_cases hlt : i < n
   case neg =>
     obtain rfl : i = n := by omega
     have HPL := hide (fun fs cwd d => lines_plain fs cwd d f inl HF4.out i (by omega))
     obtain ⟨hbw, RL, hown, hout, hrows⟩ := HW.out
     obtain ⟨A', c', e, _, hrg, _, _⟩ := hown.slice encRl_len
     injection e with e1 e2 e3
     subst e1
     have HRO := hide (show RowsOk ws vA RL from ⟨hrg, fun r hr => ⟨(hrows r hr).1.1, (hrows r hr).2.1.1, (hrows r hr).2.2.1⟩⟩)
     have HOU := hide hout
     have HRL := hide e2
     have HBW := hide (HB1.out.trans (hbw.mono HB1.out.size))
     have hxl := HXL.out.1
     have HTL := hide (show (XT f inl i).length ≤ 9000000000000000000 by unfold XT; omega)
     have HNW := hide (vnew_at w ws HM.out HBW.out)
     have HPX := hide (show ∀ fs cwd d, textR fs cwd d ⟨[], [], [], 0⟩ (XT f inl i) = .ok ⟨[], [], (List.range i).map fun j => wantR j (f j) inl, 0⟩ from HPL.out)
     obtain ⟨X, hX⟩ : ∃ z, XT f inl i = z := ⟨_, rfl⟩
     rw [hX] at HTL HPX ⊢
     clear hbw hown hout hrows hrg e2 e3 hxl HXL hX HPL
     go_wp2_with fail
     refine HNW.out.mono ?_
     rintro e w3 ⟨gf, rfl, hb3, hrd⟩
     have HRD := hide (hrd X w3 HTL.out (Below.refl _ _))
     rw [HPX.out] at HRD
     have HB3 := hide (HBW.out.trans (hb3.mono HBW.out.size))
     have HRO3 := hide (HRO.out.below hb3)
     clear hrd hb3 HNW
     go_wp2_with fail
     refine HRD.out.mono ?_
     rintro e w4 ⟨⟨pA, pc, rA, rc, rl, rfl, hpr, hrg, ho, hs⟩, hb4⟩
     have hrl : rl.length = i := by have := rl_len ho; simpa using this
     have hom : rl.map outR = RL.map outR := by rw [ho, HOU.out, List.map_map]; rfl
     have hzz : ∀ r ∈ rl, r.tg.2.2.length ≤ 100000 ∧ r.nd.2.2.length ≤ 100000 ∧ r.rc.2.2.length ≤ 100000 := fun r hr => by
       have h1 : outR r ∈ rl.map outR := List.mem_map.2 ⟨r, hr, rfl⟩
       rw [ho] at h1
       obtain ⟨rs, h2, h3⟩ := List.mem_map.1 h1
       obtain ⟨j, _, rfl⟩ := List.mem_map.1 h2
       have h4 := HF4.out j
       unfold outR ofRS wantR at h3
       simp only [List.cons.injEq, and_true] at h3
       obtain ⟨q1, q2, q3⟩ := h3
       rw [← q1, ← q2, ← q3]
       refine ⟨?_, ?_, ?_⟩
       · split <;> simp
       · simp; omega
       · split <;> simp <;> omega
     dsimp only [List.length_nil] at hpr ⊢
     have hb5 : Below w4.heap.size w4 (w4.alloc (.cells #[.slice pA 0 pc, .slice rA ((List.range i).map fun j => wantR j (f j) inl).length rc] mkty)) := (Below.refl _ _).alloc (Nat.le_refl _) _
     have hln : ((List.range i).map fun j => wantR j (f j) inl).length = i := by simp
     rw [hln] at hb5 ⊢
     have hm5 := heapNew w4 (.cells #[.slice pA 0 pc, .slice rA i rc] mkty)
     have m0 := cellOf hm5 (j := 0) rfl
     have m1 := cellOf hm5 (j := 1) rfl
     have HSM := hide (samemk_any pA none rA vA pc 0 rc vc [] rl RL (w4.alloc (.cells #[.slice pA 0 pc, .slice rA i rc] mkty)) (PR.nil _ _) (PR.nil _ _) ((show RowsOk w4 rA rl from ⟨hrg, hs⟩).below hb5) ((HRO3.out.below hb4).below hb5) hom (by simp) (by omega) hzz)
     rw [hrl, ← HRL.out] at HSM
     have HB5 := hide ((HB3.out.trans (hb4.mono HB3.out.size)).trans (hb5.mono (by have := HB3.out.size; have := hb4.size; omega)))
     have HNU := hide (fun n W => num20_any n W)
     clear hpr hrg ho hs hb4 hrl hom hzz hb5 hln hm5 HRD
     go_wp2_with fail
     refine (HNU.out _ _).mono ?_
     rintro e w7 ⟨rfl, rfl⟩
     go_wp2_with fail
     refine HSM.out.mono ?_
     rintro e w8 ⟨rfl, hb8⟩
     have HB8 := hide (HB5.out.trans (hb8.mono HB5.out.size))
     clear hb8
     go_wp2
     go_ret
     exact ⟨rfl, HB8.out⟩
   have b1 : (i : Int) < (n : Int) := by omega
   obtain ⟨x, hx⟩ : ∃ x, D[i]? = some x := ⟨_, List.getElem?_eq_getElem (by have := HN.out; omega)⟩
   have h3 := and3k x (HV.out i x hx)
   have hk : k4 x = f i := by rw [HF.out]; dsimp only; rw [hx]
   rw [hk] at h3
   obtain ⟨g, o, rfl, hg, hc⟩ := (HIR1.out.below HW.out.1) i x hx
   have hk4 := HF4.out i
   obtain ⟨k, hfk⟩ : ∃ k, f i = k := ⟨_, rfl⟩
   have HFK := hide hfk
   rw [hfk] at h3 hk4
   obtain ⟨X, hX⟩ : ∃ z, XT f inl i = z := ⟨_, rfl⟩
   have HX := hide hX
   have HXL := hide (show X.length ≤ 2000 by have := HXL.out.1; rw [← hX]; unfold XT; omega)
   rw [hX]
   obtain ⟨hdg, hdl⟩ := ds_dg2 i (by omega)
   have HDI := hide (digits_big i ws (by omega))
   rw [hdg] at HDI
   obtain ⟨Dg, hDg⟩ : ∃ z, bs (dg2 i) = z := ⟨_, rfl⟩
   rw [hDg] at HDI
   have hDz : Dg.size ≤ 2 := by rw [← hDg, bs_size]; exact hdl
   have HDG := hide hDg
   obtain ⟨S, hS⟩ : ∃ z, bs X = z := ⟨_, rfl⟩
   have hSz : S.size ≤ 2000 := by rw [← hS, bs_size]; exact HXL.out
   have HSX := hide hS
   rw [hS]
   clear hx hk hfk hX hdg hdl hDg hS
   go_wp2_with fail
   refine HDI.out.mono ?_
   rintro e w2 ⟨rfl, rfl⟩
   have hx0 : ⟨#[116]⟩ ++ Dg = bs (116 :: dg2 i) := by rw [← HDG.out, show (⟨#[116]⟩ : ByteArray) = bs [116] from rfl, bs_app]; rfl
   have hoi := OI.mk1 ws ws (Below.refl _ _) (⟨#[116]⟩ ++ Dg)
   obtain ⟨W2, hW2⟩ : ∃ z, (ws.alloc (.cells #[.string (⟨#[116]⟩ ++ Dg)] 9)).alloc (.cells #[.slice (some ⟨ws.heap.size, 0, none⟩) 1 1, .slice none 0 0, .slice none 0 0] ruty) = z := ⟨_, rfl⟩
   rw [hW2] at hoi
   have HW2 := hide hW2
   have HOI := hide hoi
   have HX0 := hide hx0
   obtain ⟨gr, hgr⟩ : ∃ z, ws.heap.size + 1 = z := ⟨_, rfl⟩
   have HGR := hide hgr
   rw [hgr] at HOI
   clear hoi hW2 hx0 hgr
   have hk5 : (k : Int) < 4 := by omega
   go_upto_if 47 with (fail)
   rw [HW2.out, HGR.out]
   go_cut [6] from 47 to 58 (fun v6 w' => v6 = .string (bs (P2 X i k)) ∧ OIx ws gr (tgT i k) [] [] w')
   case first =>
     have hbs := HSX.out
     by_cases q : 1 < k
     · have q1 : decide ((1 : Int) < (k : Int)) = true := decide_eq_true (by omega)
       obtain ⟨A0, c0, hc0, _⟩ := HOI.out.cellS (j := 0) rfl
       have hc0 : W2.cell? ⟨gr, 0, none⟩ = some (.slice A0 1 c0) := hc0
       obtain ⟨A4, c4, w4, hrn, hq1, hq2, hP⟩ := HOI.out.app (j := 0) rfl hc0 (⟨#[117]⟩ ++ Dg) (by simp)
       have HRN := hide hrn
       have HEND := hide (show OIx ws gr (tgT i k) [] [] (w4.setCell ⟨gr, 0, none⟩ (.slice A4 (1 + 1) c4)) by
         obtain ⟨T', hT, _, _⟩ := hP
         refine ⟨T', ?_⟩
         unfold tgT
         rw [if_pos q]
         have e : ([116 :: dg2 i, 117 :: dg2 i] : List T).map bs = [⟨#[116]⟩ ++ Dg] ++ [⟨#[117]⟩ ++ Dg] := by
           rw [HX0.out, ← HDG.out, show (⟨#[117]⟩ : ByteArray) = bs [117] from rfl, bs_app]; rfl
         rw [e]
         exact hT)
       have HTX := hide (show S ++ ⟨#[116]⟩ ++ Dg ++ ⟨#[32, 117]⟩ ++ Dg = bs (P2 X i k) by
         unfold P2
         rw [if_pos q, ← HSX.out, ← HDG.out, show (⟨#[116]⟩ : ByteArray) = bs [116] from rfl, show (⟨#[32, 117]⟩ : ByteArray) = bs [32, 117] from rfl]
         simp only [bs_app]
         congr 1
         simp)
       clear hrn hP hbs
       go_wp2_with (at_builtin; refine wpList_app_run ?_ (.tmp 53) (.tmp 56) ?_ ?_ ?_ ?_ HRN.out ?_; exact rfl; exact rfl; exact rfl; exact rfl; exact rfl)
       go_meet
       exact ⟨by rw [HTX.out], HEND.out⟩
     · have q1 : decide ((1 : Int) < (k : Int)) = false := decide_eq_false (by omega)
       have HTX := hide (show S ++ ⟨#[116]⟩ ++ Dg = bs (P2 X i k) by
         unfold P2
         rw [if_neg q, ← HSX.out, ← HDG.out, show (⟨#[116]⟩ : ByteArray) = bs [116] from rfl]
         simp only [bs_app]
         congr 1
         simp)
       go_wp2
       go_meet
       refine ⟨by rw [HTX.out], fun k => ws.heap.size ≤ k ∧ k < ws.heap.size + 2, ?_⟩
       unfold tgT
       rw [if_neg q]
       have e : ([116 :: dg2 i] : List T).map bs = [⟨#[116]⟩ ++ Dg] := by rw [HX0.out]; rfl
       rw [e]
       exact HOI.out
   case rest =>
   obtain ⟨rfl, hoix⟩ := hcut
   clear HOI HX0 HDI h3 hc
   have hp2 : (P2 X i k).length ≤ 2010 := by
     have h1 := bs_size (dg2 i)
     rw [HDG.out] at h1
     have := HXL.out
     unfold P2
     split <;> simp <;> omega
   obtain ⟨S2, hS2⟩ : ∃ z, bs (P2 X i k) = z := ⟨_, rfl⟩
   have hS2z : S2.size ≤ 2010 := by rw [← hS2, bs_size]; exact hp2
   have HS2 := hide hS2
   have HP2 := hide hp2
   have HOX := hide hoix
   rw [hS2]
   have HT0 := hide (show S2 ++ ⟨#[32, 58, 32]⟩ = bs (P4 X i k 0) by
     rw [← hS2, show (⟨#[32, 58, 32]⟩ : ByteArray) = bs [32, 58, 32] from rfl, bs_app]
     simp [P4, needT])
   clear hoix hS2 hp2
   go_wp2
   go_loopw [6, 12] (fun v6 v12 wr => ∃ j : Nat, v12 = .int .i64 j ∧ j ≤ k ∧ v6 = .string (bs (P4 X i k j)) ∧ Hid (OIx ws gr (tgT i k) (ndT j) [] wr)) (fun _ v12 _ => k - (intOf v12).toNat)
   case atStart => exact ⟨0, rfl, by omega, by rw [HT0.out], HOX⟩
   case round =>
     obtain ⟨wj, hwj⟩ : ∃ Z, Z = wr := ⟨_, rfl⟩
     subst hwj
     obtain ⟨j, rfl, hj, rfl, HOJ⟩ := hrel
     by_cases hjl : j < k
     case neg =>
       obtain rfl : k = j := by omega
       have hp4 : (P4 X i k k).length ≤ 2040 := by
         have := HP2.out
         have := needT_len k (by omega)
         simp [P4]
         omega
       obtain ⟨S4, hS4⟩ : ∃ z, bs (P4 X i k k) = z := ⟨_, rfl⟩
       have hS4z : S4.size ≤ 2040 := by rw [← hS4, bs_size]; exact hp4
       have HS4 := hide hS4
       have HP4 := hide hp4
       rw [hS4]
       clear hS4 hp4
       go_upto_if 79 with (fail)
       go_cut [6] from 79 to 83 (fun v6 w' => v6 = .string (bs (P6 X i k inl)) ∧ OIx ws gr (tgT i k) (ndT k) (rcT inl 0) w')
       case first =>
         cases inl with
         | false =>
           go_wp2
           go_meet
           refine ⟨?_, ?_⟩
           · rw [← HS4.out]; simp [P6]
           · obtain ⟨T', hT'⟩ := HOJ.out
             exact ⟨T', hT'⟩
         | true =>
           obtain ⟨T', hT'⟩ := HOJ.out
           have hba : Below wj.heap.size wj (wj.alloc (.cells #[.string ⟨#[36, 40, 120, 41, 59, 121]⟩] 9)) := (Below.refl _ _).alloc (Nat.le_refl _) _
           obtain ⟨A0, c0, hc9, _⟩ := hT'.cellS (j := 2) rfl
           have hc0 : wj.cell? ⟨gr, 2, none⟩ = some (.slice A0 0 c0) := hc9
           have hwz := hT'.below.size
           have hP := hT'.setR (j := 2) rfl hc0 (w4 := wj.alloc (.cells #[.string ⟨#[36, 40, 120, 41, 59, 121]⟩] 9)) (v4 := .slice (some ⟨wj.heap.size, 0, none⟩) 1 1) (World.ownsRow_lit (base := ws.heap.size) (e := 9) (size := 1) wj #[.string ⟨#[36, 40, 120, 41, 59, 121]⟩] 1 hwz (by decide) rfl) ⟨rfl, rfl, rfl, hba.size, fun k hk _ => Below.heap_alloc _ _ _ hk⟩ (fun k e => by
             have : k = wj.heap.size := by simpa [Value.ownBlock] using e.symm
             exact .inr (by omega))
           have hfz := (hT'.step hba).free 2
           have hc1 : (wj.alloc (.cells #[.string ⟨#[36, 40, 120, 41, 59, 121]⟩] 9)).cell? ⟨gr, 2, none⟩ = some (.slice A0 0 c0) := (hba.cell (p := ⟨gr, 2, none⟩) hT'.lt).trans hc0
           have HEND := hide (show OIx ws gr (tgT i k) (ndT k) (rcT true 0) ((wj.alloc (.cells #[.string ⟨#[36, 40, 120, 41, 59, 121]⟩] 9)).setCell ⟨gr, 2, none⟩ (.slice (some ⟨wj.heap.size, 0, none⟩) 1 1)) by
             obtain ⟨T2, hT2, _, _⟩ := hP
             exact ⟨T2, hT2⟩)
           have HTX := hide (show S4 ++ ⟨#[32, 59, 32, 36, 40, 120, 41, 59, 121]⟩ = bs (P6 X i k true) by
             rw [← HS4.out, show (⟨#[32, 59, 32, 36, 40, 120, 41, 59, 121]⟩ : ByteArray) = bs [32, 59, 32, 36, 40, 120, 41, 59, 121] from rfl, bs_app]; rfl)
           clear hP hT' hba hc9 hwz
           go_wp2
           go_meet
           exact ⟨by rw [HTX.out], HEND.out⟩
       case rest =>
       obtain ⟨rfl, hox3⟩ := hcut
       have hp6 : (P6 X i k inl).length ≤ 2050 := by
         have := HP4.out
         unfold P6
         split <;> simp <;> omega
       obtain ⟨S6, hS6⟩ : ∃ z, bs (P6 X i k inl) = z := ⟨_, rfl⟩
       have hS6z : S6.size ≤ 2050 := by rw [← hS6, bs_size]; exact hp6
       have HP6 := hide hp6
       have HO3 := hide hox3
       rw [hS6]
       have HT6 := hide (show S6 ++ ⟨#[32, 35, 32, 99, 10, 10]⟩ = bs (P7 X i k inl 0) by
         rw [← hS6, show (⟨#[32, 35, 32, 99, 10, 10]⟩ : ByteArray) = bs [32, 35, 32, 99, 10, 10] from rfl, bs_app]
         simp [P7, recT])
       clear hox3 hS6 hp6 hS4z HS4 HOJ
       go_wp2
       go_loopw [6, 13] (fun v6 v13 wr => ∃ j : Nat, v13 = .int .i64 j ∧ j ≤ k ∧ v6 = .string (bs (P7 X i k inl j)) ∧ Hid (OIx ws gr (tgT i k) (ndT k) (rcT inl j) wr)) (fun _ v13 _ => k - (intOf v13).toNat)
       case atStart => exact ⟨0, rfl, by omega, by rw [HT6.out], HO3⟩
       case round =>
         obtain ⟨wj, hwj⟩ : ∃ Z, Z = wr := ⟨_, rfl⟩
         subst hwj
         obtain ⟨j, rfl, hj, rfl, HOJ⟩ := hrel
         by_cases hjl : j < k
         case neg =>
           obtain rfl : k = j := by omega
           obtain ⟨T', hT'⟩ := HOJ.out
           obtain ⟨A0, c0, e0, _, l0, s0, t0⟩ := hT'.cellS (j := 0) rfl
           obtain ⟨A1, c1, e1, _, l1, s1, t1⟩ := hT'.cellS (j := 1) rfl
           obtain ⟨A2, c2, e2, _, l2, s2, t2⟩ := hT'.cellS (j := 2) rfl
           obtain ⟨R, hR⟩ : ∃ R : Rl, R = ⟨(A0, c0, (tgT i k).map bs), (A1, c1, (ndT k).map bs), (A2, c2, (rcT inl k).map bs)⟩ := ⟨_, rfl⟩
           have hsv : #[sv R.tg, sv R.nd, sv R.rc] = #[.slice A0 ((tgT i k).map bs).length c0, .slice A1 ((ndT k).map bs).length c1, .slice A2 ((rcT inl k).map bs).length c2] := by rw [hR]; rfl
           obtain ⟨A4, c4, w4, hrn, hwr⟩ := HW.out.app (w := wj) (hT'.below) R (by rw [hR, HFK.out]; rfl) (by rw [hR]; exact ⟨s0, l0, fun a e _ => (hT'.tw _ (t0 a e).1).1⟩) (by rw [hR]; exact ⟨s1, l1, fun a e _ => (hT'.tw _ (t1 a e).1).1⟩) (by rw [hR]; exact ⟨s2, l2, fun a e _ => (hT'.tw _ (t2 a e).1).1⟩) (by omega)
           rw [hsv] at hrn
           obtain ⟨n0, hn0⟩ : ∃ n, ((tgT i k).map bs).length = n := ⟨_, rfl⟩
           obtain ⟨n1, hn1⟩ : ∃ n, ((ndT k).map bs).length = n := ⟨_, rfl⟩
           obtain ⟨n2, hn2⟩ : ∃ n, ((rcT inl k).map bs).length = n := ⟨_, rfl⟩
           rw [hn0] at e0 hrn
           rw [hn1] at e1 hrn
           rw [hn2] at e2 hrn
           have HRN := hide hrn
           have HWR := hide hwr
           have HXS := hide (show bs (P7 X i k inl k) = bs (XT f inl (i + 1)) by rw [← HX.out, ← HFK.out, XT_succ])
           clear hT' s0 s1 s2 t0 t1 t2 l0 l1 l2 hR hsv hrn hwr hn0 hn1 hn2
           go_wp2_with (at_builtin; refine wpList_app_run ?_ (.tmp 106) (.tmp 108) ?_ ?_ ?_ ?_ HRN.out ?_; exact rfl; exact rfl; exact rfl; exact rfl; exact rfl)
           go_roundw
           case rel => exact ⟨i + 1, by go_num, by omega, by rw [HXS.out], HWR⟩
           case measure => simp [intOf]; omega
         have b2 : (j : Int) < (k : Int) := by omega
         have hp7 : (P7 X i k inl j).length ≤ 2100 := by
           have := HP6.out
           have := recT_len j (by omega)
           simp [P7]
           omega
         obtain ⟨S7, hS7⟩ : ∃ z, bs (P7 X i k inl j) = z := ⟨_, rfl⟩
         have hS7z : S7.size ≤ 2100 := by rw [← hS7, bs_size]; exact hp7
         rw [hS7]
         obtain ⟨hdg, hdl⟩ := ds_dg2 j (by omega)
         have HDJ := hide (fun Z => digits_big j Z (by omega))
         rw [hdg] at HDJ
         obtain ⟨E, hE⟩ : ∃ z, bs (dg2 j) = z := ⟨_, rfl⟩
         rw [hE] at HDJ
         have hEz : E.size ≤ 2 := by rw [← hE, bs_size]; exact hdl
         have HTN := hide (show bs (P7 X i k inl (j + 1)) = S7 ++ ⟨#[9, 64, 114]⟩ ++ E ++ ⟨#[32, 35, 32, 36, 64, 10]⟩ by
           rw [← hS7, ← hE, show (⟨#[9, 64, 114]⟩ : ByteArray) = bs [9, 64, 114] from rfl, show (⟨#[32, 35, 32, 36, 64, 10]⟩ : ByteArray) = bs [32, 35, 32, 36, 64, 10] from rfl]
           simp only [bs_app]
           congr 1
           simp [P7, recT_succ])
         have hns := rcT_succ inl j
         rw [hE] at hns
         obtain ⟨Wd, hWd⟩ : ∃ Z, wj.drew = Z := ⟨_, rfl⟩
         have HWD := hide hWd
         obtain ⟨T', hT'⟩ := HOJ.out
         have hoid := hT'.step (hWd ▸ (Below.refl wj.heap.size wj).drew)
         obtain ⟨A0, c0, hc9, _⟩ := hoid.cellS (j := 2) rfl
         obtain ⟨q, hq⟩ : ∃ q, ((rcT inl j).map bs).length = q := ⟨_, rfl⟩
         have hql : q ≤ 10 := by
           rw [← hq]
           unfold rcT
           cases inl <;> simp <;> omega
         have hc0 : Wd.cell? ⟨gr, 2, none⟩ = some (.slice A0 q c0) := by rw [hc9, hq]
         obtain ⟨A4, c4, w4, hrn, hq1, hq2, hP⟩ := hoid.app (j := 2) rfl hc0 (⟨#[64, 114]⟩ ++ E ++ ⟨#[32, 35, 32, 36, 64]⟩) (by rw [hq]; omega)
         have hc2 : (Wd.alloc (.cells #[.string (⟨#[64, 114]⟩ ++ E ++ ⟨#[32, 35, 32, 36, 64]⟩)] 9)).cell? ⟨gr, 2, none⟩ = some (.slice A0 q c0) := (((Below.refl Wd.heap.size Wd).alloc (Nat.le_refl _) (.cells #[.string (⟨#[64, 114]⟩ ++ E ++ ⟨#[32, 35, 32, 36, 64]⟩)] 9)).cell (p := ⟨gr, 2, none⟩) hoid.lt).trans hc0
         have HRN := hide hrn
         have HON := hide (show OIx ws gr (tgT i k) (ndT k) (rcT inl (j + 1)) (w4.setCell ⟨gr, 2, none⟩ (.slice A4 (q + 1) c4)) by
           obtain ⟨T2, hT2, _, _⟩ := hP
           refine ⟨T2, ?_⟩
           rw [hns]
           exact hT2)
         have HDG := HDJ
         have hcat1 : ¬ 9223372036854775807 < 2 + E.size := by omega
         have hcat2 : ¬ 9223372036854775807 < 2 + E.size + 5 := by omega
         clear hdg hdl hE hS7 hp7 hns hT' hoid hrn hP hWd HDJ hc9 hq
         go_wp2_with fail
         refine (HDG.out _).mono ?_
         rintro e w9 ⟨rfl, rfl⟩
         go_wp2_with fail
         refine wp_region_held_drew (S := (fun _ => True)) (by kernel_rfl) trivial (fun hHeld => ?_)
         refine tq (i := 0) (v := ?vRZ0) rfl rfl (by kernel_rfl) (fun _ _ _ h => h) ?yRZ0 (by assumption) ?rRZ0
         case yRZ0 => intro w h; (try dsimp only at h); go_simp; try with_reducible rfl
         try simp only [sA, sB, sC]
         refine tq (i := 2) (v := ?vRZ2) rfl rfl (by kernel_rfl) (fun _ _ _ h => h) ?yRZ2 (by assumption) ?rRZ2
         case yRZ2 => intro w h; (try dsimp only at h); go_simp; try with_reducible rfl
         try simp only [sA, sB, sC]
         rw [HWD.out]
         refine wpAnyH_ready (rs := [1, 3]) (by kernel_rfl) (by simp) ?_
         refine AllReadyH.cons (o := _) rfl (fun K hK => ?Rw1) (AllReadyH.cons (o := _) rfl (fun K hK => ?Rw2) AllReadyH.nil)
         case Rw1 =>
           rw [if_pos (by kernel_rfl)]
           go_simp
           refine hK.out _ _ trivial (fun _ => ?_)
           clear hK K
           try simp only [Act.put, sA, sB, sC]
           refine rq (k := 3) rfl (by kernel_rfl) (by kernel_rfl) (fun K hK => ?_)
           go_simp
           refine (HDG.out _).mono ?_
           rintro e w9 ⟨rfl, rfl⟩
           refine hK.out _ _ trivial (fun _ => ?_)
           clear hK K
           try simp only [Act.put, sA, sB, sC]
           refine tq (i := 4) (v := ?vRA4) rfl rfl (by kernel_rfl) (fun _ _ _ h => h) ?yRA4 (by assumption) ?rRA4
           case yRA4 => intro w h; (try dsimp only at h); go_simp; try with_reducible rfl
           try simp only [sA, sB, sC]
           refine tq (i := 5) (v := ?vRA5) rfl rfl (by kernel_rfl) (fun _ _ _ h => h) ?yRA5 (by assumption) ?rRA5
           case yRA5 => intro w h; (try dsimp only at h); go_simp; try with_reducible rfl
           try simp only [sA, sB, sC]
           refine rq (k := 6) rfl (by kernel_rfl) (by kernel_rfl) (fun K hK => ?_)
           go_simp
           refine hK.out _ _ trivial (fun _ => ?_)
           clear hK K
           try simp only [Act.put, sA, sB, sC]
           refine wpAnyH_ready (rs := [7]) (by kernel_rfl) (by simp) ?_
           refine AllReadyH.cons (o := _) rfl (fun K hK => ?_) AllReadyH.nil
           refine step_app_run rfl _ _ rfl rfl rfl rfl HRN.out ?_
           refine hK.out _ _ trivial (fun _ => ?_)
           clear hK K
           try simp only [Act.put, sA, sB, sC]
           refine tq (i := 8) (v := ?vRa8) rfl rfl (by kernel_rfl) (fun _ _ _ h => h) ?yRa8 (by assumption) ?rRa8
           case yRa8 => intro w h; (try dsimp only at h); go_simp; try with_reducible rfl
           try simp only [sA, sB, sC]
           refine rq (k := 9) rfl (by kernel_rfl) (by kernel_rfl) (fun K hK => ?_)
           go_simp
           refine hK.out _ _ trivial (fun _ => ?_)
           clear hK K
           try simp only [Act.put, sA, sB, sC]
           refine wpAnyH_done (by kernel_rfl) ?_ _
           go_wp2
           go_roundw
           case rel => exact ⟨j + 1, by go_num, by omega, by rw [HTN.out], hide HON.out⟩
           case measure => simp [intOf]; omega
         case Rw2 =>
           rw [if_pos (by kernel_rfl)]
           go_simp
           refine (HDG.out _).mono ?_
           rintro e w9 ⟨rfl, rfl⟩
           refine hK.out _ _ trivial (fun _ => ?_)
           clear hK K
           try simp only [Act.put, sA, sB, sC]
           refine tq (i := 4) (v := ?vRB4) rfl rfl (by kernel_rfl) (fun _ _ _ h => h) ?yRB4 (by assumption) ?rRB4
           case yRB4 => intro w h; (try dsimp only at h); go_simp; try with_reducible rfl
           try simp only [sA, sB, sC]
           refine tq (i := 5) (v := ?vRB5) rfl rfl (by kernel_rfl) (fun _ _ _ h => h) ?yRB5 (by assumption) ?rRB5
           case yRB5 => intro w h; (try dsimp only at h); go_simp; try with_reducible rfl
           try simp only [sA, sB, sC]
           refine wpAnyH_ready (rs := [1, 6]) (by kernel_rfl) (by simp) ?_
           refine AllReadyH.cons (o := _) rfl (fun K hK => ?Rw3) (AllReadyH.cons (o := _) rfl (fun K hK => ?Rw4) AllReadyH.nil)
           case Rw3 =>
             rw [if_pos (by kernel_rfl)]
             go_simp
             refine hK.out _ _ trivial (fun _ => ?_)
             clear hK K
             try simp only [Act.put, sA, sB, sC]
             refine rq (k := 6) rfl (by kernel_rfl) (by kernel_rfl) (fun K hK => ?_)
             go_simp
             refine hK.out _ _ trivial (fun _ => ?_)
             clear hK K
             try simp only [Act.put, sA, sB, sC]
             refine wpAnyH_ready (rs := [7]) (by kernel_rfl) (by simp) ?_
             refine AllReadyH.cons (o := _) rfl (fun K hK => ?_) AllReadyH.nil
             refine step_app_run rfl _ _ rfl rfl rfl rfl HRN.out ?_
             refine hK.out _ _ trivial (fun _ => ?_)
             clear hK K
             try simp only [Act.put, sA, sB, sC]
             refine tq (i := 8) (v := ?vRb8) rfl rfl (by kernel_rfl) (fun _ _ _ h => h) ?yRb8 (by assumption) ?rRb8
             case yRb8 => intro w h; (try dsimp only at h); go_simp; try with_reducible rfl
             try simp only [sA, sB, sC]
             refine rq (k := 9) rfl (by kernel_rfl) (by kernel_rfl) (fun K hK => ?_)
             go_simp
             refine hK.out _ _ trivial (fun _ => ?_)
             clear hK K
             try simp only [Act.put, sA, sB, sC]
             refine wpAnyH_done (by kernel_rfl) ?_ _
             go_wp2
             go_roundw
             case rel => exact ⟨j + 1, by go_num, by omega, by rw [HTN.out], hide HON.out⟩
             case measure => simp [intOf]; omega
           case Rw4 =>
             rw [if_pos (by kernel_rfl)]
             go_simp
             refine hK.out _ _ trivial (fun _ => ?_)
             clear hK K
             try simp only [Act.put, sA, sB, sC]
             refine rq (k := 1) rfl (by kernel_rfl) (by kernel_rfl) (fun K hK => ?_)
             go_simp
             refine hK.out _ _ trivial (fun _ => ?_)
             clear hK K
             try simp only [Act.put, sA, sB, sC]
             refine wpAnyH_ready (rs := [7]) (by kernel_rfl) (by simp) ?_
             refine AllReadyH.cons (o := _) rfl (fun K hK => ?_) AllReadyH.nil
             refine step_app_run rfl _ _ rfl rfl rfl rfl HRN.out ?_
             refine hK.out _ _ trivial (fun _ => ?_)
             clear hK K
             try simp only [Act.put, sA, sB, sC]
             refine tq (i := 8) (v := ?vRc8) rfl rfl (by kernel_rfl) (fun _ _ _ h => h) ?yRc8 (by assumption) ?rRc8
             case yRc8 => intro w h; (try dsimp only at h); go_simp; try with_reducible rfl
             try simp only [sA, sB, sC]
             refine rq (k := 9) rfl (by kernel_rfl) (by kernel_rfl) (fun K hK => ?_)
             go_simp
             refine hK.out _ _ trivial (fun _ => ?_)
             clear hK K
             try simp only [Act.put, sA, sB, sC]
             refine wpAnyH_done (by kernel_rfl) ?_ _
             go_wp2
             go_roundw
             case rel => exact ⟨j + 1, by go_num, by omega, by rw [HTN.out], hide HON.out⟩
             case measure => simp [intOf]; omega
     have b2 : (j : Int) < (k : Int) := by omega
     have hp4 : (P4 X i k j).length ≤ 2040 := by
       have := HP2.out
       have := needT_len j (by omega)
       simp [P4]
       omega
     obtain ⟨S4, hS4⟩ : ∃ z, bs (P4 X i k j) = z := ⟨_, rfl⟩
     have hS4z : S4.size ≤ 2040 := by rw [← hS4, bs_size]; exact hp4
     rw [hS4]
     obtain ⟨hdg, hdl⟩ := ds_dg2 j (by omega)
     have HDJ := hide (fun Z => digits_big j Z (by omega))
     rw [hdg] at HDJ
     obtain ⟨E, hE⟩ : ∃ z, bs (dg2 j) = z := ⟨_, rfl⟩
     rw [hE] at HDJ
     have hEz : E.size ≤ 2 := by rw [← hE, bs_size]; exact hdl
     have HTN := hide (show bs (P4 X i k (j + 1)) = S4 ++ ⟨#[32, 110]⟩ ++ E by
       rw [← hS4, ← hE, show (⟨#[32, 110]⟩ : ByteArray) = bs [32, 110] from rfl]
       simp only [bs_app]
       congr 1
       simp [P4, needT_succ])
     have hns := ndT_succ j
     rw [hE] at hns
     obtain ⟨Wd, hWd⟩ : ∃ Z, wj.drew = Z := ⟨_, rfl⟩
     have HWD := hide hWd
     obtain ⟨T', hT'⟩ := HOJ.out
     have hoid := hT'.step (hWd ▸ (Below.refl wj.heap.size wj).drew)
     obtain ⟨A0, c0, hc9, _⟩ := hoid.cellS (j := 1) rfl
     have hc0 : Wd.cell? ⟨gr, 1, none⟩ = some (.slice A0 j c0) := by rw [hc9]; simp [ndT]
     obtain ⟨A4, c4, w4, hrn, hq1, hq2, hP⟩ := hoid.app (j := 1) rfl hc0 (⟨#[110]⟩ ++ E) (by simp [ndT]; omega)
     have hc2 : (Wd.alloc (.cells #[.string (⟨#[110]⟩ ++ E)] 9)).cell? ⟨gr, 1, none⟩ = some (.slice A0 j c0) := (((Below.refl Wd.heap.size Wd).alloc (Nat.le_refl _) (.cells #[.string (⟨#[110]⟩ ++ E)] 9)).cell (p := ⟨gr, 1, none⟩) hoid.lt).trans hc0
     have HRN := hide hrn
     have HON := hide (show OIx ws gr (tgT i k) (ndT (j + 1)) [] (w4.setCell ⟨gr, 1, none⟩ (.slice A4 (j + 1) c4)) by
       obtain ⟨T2, hT2, _, _⟩ := hP
       refine ⟨T2, ?_⟩
       rw [hns]
       exact hT2)
     have HDG := HDJ
     have hcat1 : ¬ 9223372036854775807 < 1 + E.size := by omega
     clear hdg hdl hE hS4 hp4 hns hT' hoid hrn hP hWd HDJ hc9
     go_wp2_with fail
     refine (HDG.out _).mono ?_
     rintro e w9 ⟨rfl, rfl⟩
     go_wp2_with fail
     refine wp_region_held_drew (S := (fun _ => True)) (by kernel_rfl) trivial (fun hHeld => ?_)
     refine tq (i := 0) (v := ?vPZ0) rfl rfl (by kernel_rfl) (fun _ _ _ h => h) ?yPZ0 (by assumption) ?rPZ0
     case yPZ0 => intro w h; (try dsimp only at h); go_simp; try with_reducible rfl
     try simp only [sA, sB, sC]
     refine tq (i := 2) (v := ?vPZ2) rfl rfl (by kernel_rfl) (fun _ _ _ h => h) ?yPZ2 (by assumption) ?rPZ2
     case yPZ2 => intro w h; (try dsimp only at h); go_simp; try with_reducible rfl
     try simp only [sA, sB, sC]
     rw [HWD.out]
     refine wpAnyH_ready (rs := [1, 3]) (by kernel_rfl) (by simp) ?_
     refine AllReadyH.cons (o := _) rfl (fun K hK => ?Pw1) (AllReadyH.cons (o := _) rfl (fun K hK => ?Pw2) AllReadyH.nil)
     case Pw1 =>
       rw [if_pos (by kernel_rfl)]
       go_simp
       refine hK.out _ _ trivial (fun _ => ?_)
       clear hK K
       try simp only [Act.put, sA, sB, sC]
       refine rq (k := 3) rfl (by kernel_rfl) (by kernel_rfl) (fun K hK => ?_)
       go_simp
       refine (HDG.out _).mono ?_
       rintro e w9 ⟨rfl, rfl⟩
       refine hK.out _ _ trivial (fun _ => ?_)
       clear hK K
       try simp only [Act.put, sA, sB, sC]
       refine tq (i := 4) (v := ?vPA4) rfl rfl (by kernel_rfl) (fun _ _ _ h => h) ?yPA4 (by assumption) ?rPA4
       case yPA4 => intro w h; (try dsimp only at h); go_simp; try with_reducible rfl
       try simp only [sA, sB, sC]
       refine rq (k := 5) rfl (by kernel_rfl) (by kernel_rfl) (fun K hK => ?_)
       go_simp
       refine hK.out _ _ trivial (fun _ => ?_)
       clear hK K
       try simp only [Act.put, sA, sB, sC]
       refine wpAnyH_ready (rs := [6]) (by kernel_rfl) (by simp) ?_
       refine AllReadyH.cons (o := _) rfl (fun K hK => ?_) AllReadyH.nil
       refine step_app_run rfl _ _ rfl rfl rfl rfl HRN.out ?_
       refine hK.out _ _ trivial (fun _ => ?_)
       clear hK K
       try simp only [Act.put, sA, sB, sC]
       refine tq (i := 7) (v := ?vPa7) rfl rfl (by kernel_rfl) (fun _ _ _ h => h) ?yPa7 (by assumption) ?rPa7
       case yPa7 => intro w h; (try dsimp only at h); go_simp; try with_reducible rfl
       try simp only [sA, sB, sC]
       refine rq (k := 8) rfl (by kernel_rfl) (by kernel_rfl) (fun K hK => ?_)
       go_simp
       refine hK.out _ _ trivial (fun _ => ?_)
       clear hK K
       try simp only [Act.put, sA, sB, sC]
       refine wpAnyH_done (by kernel_rfl) ?_ _
       go_wp2
       go_roundw
       case rel => exact ⟨j + 1, by go_num, by omega, by rw [HTN.out], hide HON.out⟩
       case measure => simp [intOf]; omega
     case Pw2 =>
       rw [if_pos (by kernel_rfl)]
       go_simp
       refine (HDG.out _).mono ?_
       rintro e w9 ⟨rfl, rfl⟩
       refine hK.out _ _ trivial (fun _ => ?_)
       clear hK K
       try simp only [Act.put, sA, sB, sC]
       refine tq (i := 4) (v := ?vPB4) rfl rfl (by kernel_rfl) (fun _ _ _ h => h) ?yPB4 (by assumption) ?rPB4
       case yPB4 => intro w h; (try dsimp only at h); go_simp; try with_reducible rfl
       try simp only [sA, sB, sC]
       refine wpAnyH_ready (rs := [1, 5]) (by kernel_rfl) (by simp) ?_
       refine AllReadyH.cons (o := _) rfl (fun K hK => ?Pw3) (AllReadyH.cons (o := _) rfl (fun K hK => ?Pw4) AllReadyH.nil)
       case Pw3 =>
         rw [if_pos (by kernel_rfl)]
         go_simp
         refine hK.out _ _ trivial (fun _ => ?_)
         clear hK K
         try simp only [Act.put, sA, sB, sC]
         refine rq (k := 5) rfl (by kernel_rfl) (by kernel_rfl) (fun K hK => ?_)
         go_simp
         refine hK.out _ _ trivial (fun _ => ?_)
         clear hK K
         try simp only [Act.put, sA, sB, sC]
         refine wpAnyH_ready (rs := [6]) (by kernel_rfl) (by simp) ?_
         refine AllReadyH.cons (o := _) rfl (fun K hK => ?_) AllReadyH.nil
         refine step_app_run rfl _ _ rfl rfl rfl rfl HRN.out ?_
         refine hK.out _ _ trivial (fun _ => ?_)
         clear hK K
         try simp only [Act.put, sA, sB, sC]
         refine tq (i := 7) (v := ?vPb7) rfl rfl (by kernel_rfl) (fun _ _ _ h => h) ?yPb7 (by assumption) ?rPb7
         case yPb7 => intro w h; (try dsimp only at h); go_simp; try with_reducible rfl
         try simp only [sA, sB, sC]
         refine rq (k := 8) rfl (by kernel_rfl) (by kernel_rfl) (fun K hK => ?_)
         go_simp
         refine hK.out _ _ trivial (fun _ => ?_)
         clear hK K
         try simp only [Act.put, sA, sB, sC]
         refine wpAnyH_done (by kernel_rfl) ?_ _
         go_wp2
         go_roundw
         case rel => exact ⟨j + 1, by go_num, by omega, by rw [HTN.out], hide HON.out⟩
         case measure => simp [intOf]; omega
       case Pw4 =>
         rw [if_pos (by kernel_rfl)]
         go_simp
         refine hK.out _ _ trivial (fun _ => ?_)
         clear hK K
         try simp only [Act.put, sA, sB, sC]
         refine rq (k := 1) rfl (by kernel_rfl) (by kernel_rfl) (fun K hK => ?_)
         go_simp
         refine hK.out _ _ trivial (fun _ => ?_)
         clear hK K
         try simp only [Act.put, sA, sB, sC]
         refine wpAnyH_ready (rs := [6]) (by kernel_rfl) (by simp) ?_
         refine AllReadyH.cons (o := _) rfl (fun K hK => ?_) AllReadyH.nil
         refine step_app_run rfl _ _ rfl rfl rfl rfl HRN.out ?_
         refine hK.out _ _ trivial (fun _ => ?_)
         clear hK K
         try simp only [Act.put, sA, sB, sC]
         refine tq (i := 7) (v := ?vPc7) rfl rfl (by kernel_rfl) (fun _ _ _ h => h) ?yPc7 (by assumption) ?rPc7
         case yPc7 => intro w h; (try dsimp only at h); go_simp; try with_reducible rfl
         try simp only [sA, sB, sC]
         refine rq (k := 8) rfl (by kernel_rfl) (by kernel_rfl) (fun K hK => ?_)
         go_simp
         refine hK.out _ _ trivial (fun _ => ?_)
         clear hK K
         try simp only [Act.put, sA, sB, sC]
         refine wpAnyH_done (by kernel_rfl) ?_ _
         go_wp2
         go_roundw
         case rel => exact ⟨j + 1, by go_num, by omega, by rw [HTN.out], hide HON.out⟩
         case measure => simp [intOf]; omega
end
section
open Go.RowKit Go.Deep Go.ChangeShapes Go.WideShapes
structure SmallD (H : Type) (K : Nat) where
 P : TypeId → DataW H → Prop
 elem : ∀ {t e : TypeId} {elems spare : List (DataW H)} {d : DataW H}, Tryz.prog.underlying t = some (.slice e) → P t (.slice elems spare) → d ∈ elems → P e d
 part : ∀ {t : TypeId} {fs : Array Field} {parts : List (DataW H)} {j : Nat} {f : Field} {d : DataW H}, Tryz.prog.underlying t = some (.struct fs) → P t (.agg parts) → fs[j]? = some f → parts[j]? = some d → P f.type d
 str : ∀ {t : TypeId} {b : List UInt8}, P t (.lit (.string b)) → b.length ≤ K
structure RlIn (K : Nat) (w : World) (r : Rl) : Prop where
 tg : SR w r.tg.1 r.tg.2.2
 nd : SR w r.nd.1 r.nd.2.2
 rc : SR w r.rc.1 r.rc.2.2
 t1 : r.tg.2.2.length ≤ maxLen
 n1 : r.nd.2.2.length ≤ maxLen
 r1 : r.rc.2.2.length ≤ maxLen
 t2 : ∀ s ∈ r.tg.2.2, s.size ≤ K
 n2 : ∀ s ∈ r.nd.2.2, s.size ≤ K
 r2 : ∀ s ∈ r.rc.2.2, s.size ≤ K
def RLI (K : Nat) (w : World) (A : Option Addr) (L : List Rl) : Prop := RG encRl 3 w A L ∧ ∀ r ∈ L, RlIn K w r
structure MkV where
 ma : Option Addr
 mc : Nat
 ml : List Pr
 ra : Option Addr
 rc : Nat
 rl : List Rl
structure MkIn (K : Nat) (w : World) (x : MkV) : Prop where
 m1 : x.ml.length ≤ maxLen
 r1 : x.rl.length ≤ maxLen
 m2 : ∀ p ∈ x.ml, p.1.size ≤ K ∧ p.2.size ≤ K
 mr : PR w x.ma x.ml
 rr : RLI K w x.ra x.rl
end
section
open Go.RowKit Go.Deep Go.ChangeShapes Go.WideShapes Ln Pth Vf
structure Ac4 where
 way : Int
 p : ByteArray
 q : ByteArray
 A : Option Addr
 c : Nat
 b : T
 more : Bool
end
end Go.Proofs.YtpheeheikigenaaGreatDoor
