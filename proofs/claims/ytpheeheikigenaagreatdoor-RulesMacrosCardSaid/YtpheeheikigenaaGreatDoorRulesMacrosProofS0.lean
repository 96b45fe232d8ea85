/- Walks and plain facts that the claim uses. -/
import Derived.Test.YtpheeheikigenaaGreatDoorRA3
import Derived.Deep.CutBlock
set_option maxRecDepth 100000
set_option maxHeartbeats 16000000
set_option linter.unusedSimpArgs false
set_option linter.unusedVariables false
namespace Go.Proofs.YtpheeheikigenaaGreatDoor
section
open Go.RowKit Go.Deep Go.Maps Ln Pth Vf Rd Mc
attribute [local go_sem] bt_eq
def opsV : Array Value := #[.string ⟨#[61]⟩, .string ⟨#[58, 61]⟩, .string ⟨#[58, 58, 61]⟩, .string ⟨#[43, 61]⟩, .string ⟨#[63, 61]⟩]
theorem opsV_at : ∀ i < 5, opsV[i]? = some (.string (bs (opT i))) ∧ (opT i).length ≤ 3 := by
 intro i hi
 rcases (by omega : i = 0 ∨ i = 1 ∨ i = 2 ∨ i = 3 ∨ i = 4) with rfl | rfl | rfl | rfl | rfl <;> exact ⟨rfl, by decide⟩
def gvL (gv : Bool) : KV ByteArray := if gv then [(bs [120], bs [103, 105, 118, 101, 110])] else []
theorem gvL_S (gv : Bool) : givG (gvL gv) = givS gv := by cases gv <;> rfl
theorem pr_new1 (w : World) (a b : ByteArray) (t : TypeId) : PR (w.alloc (.cells #[.string a, .string b] t)) (some ⟨w.heap.size, 0, none⟩) [(a, b)] := by
 intro k x hk
 match k, hk with
 | 0, hk =>
   simp at hk
   subst hk
   exact ⟨w.heap.size, 0, rfl, by simp, cellOf (heapNew w _) rfl, cellOf (heapNew w _) rfl⟩
theorem vnew_g (w0 X : World) (hm : MX w0) (h0 : Below w0.heap.size w0 X) : Calls Tryz.prog 14 #[.int .i64 1, .int .i64 1] X fun e X1 => ∃ gf : Nat, e = .returned (.pointer (some ⟨gf, 0, none⟩)) ∧ Below X.heap.size X X1 ∧
   ∀ (t : T) (Z : World) (gA : Option Addr) (gc : Nat) (G : KV ByteArray), t.length ≤ 9000000000000000000 → Below X1.heap.size X1 Z → PR Z gA G → G.length ≤ 900 → (∀ x ∈ G, x.1.size ≤ 1000000 ∧ x.2.size ≤ 40000) → Calls Tryz.prog 13 #[.pointer (some ⟨gf, 0, none⟩), .string ⟨#[47]⟩, .string (bs t), .slice gA G.length gc] Z (MkEnd Z (textR (newS 1 1) [47] 10 (givG G) t)) := by
 refine (vnew_any 1 1 X (by decide) (by decide) (by decide) (by decide)).mono ?_
 rintro e X1 ⟨rfl, hb, hv, hz⟩
 refine ⟨X.heap.size + 1, rfl, hb, fun t Z gA gc G ht hZ hG hl hs => ?_⟩
 have ok : OkTN (fun k => X.heap.size ≤ k ∧ k < X1.heap.size) (fun _ => False) X1 := ⟨fun k hk => ⟨hk.2, fun h => h⟩, fun k h => h.elim⟩
 exact rread_any (X.heap.size + 1) (newS 1 1) [47] t Z ((hs_of hv ok).below (VS.fr _ _) hZ) (newS_wf 1 1) (((hm.below h0).below hb).below hZ) (by simp) ht G gA gc hG hl hs
theorem macF_x (a b : ByteArray) : macF [(bs [120], a), (bs [121], b)] ⟨#[120]⟩ = a := by
 unfold macF
 rw [getG_cons, if_pos (show (bs [120], a).1 = ⟨#[120]⟩ from rfl)]
 rfl
theorem macF_y (a b : ByteArray) : macF [(bs [120], a), (bs [121], b)] ⟨#[121]⟩ = b := by
 unfold macF
 rw [getG_cons, if_neg (show ¬ (bs [120], a).1 = ⟨#[121]⟩ from ne_xy), getG_cons, if_pos (show (bs [121], b).1 = ⟨#[121]⟩ from rfl)]
 rfl
theorem law_rulesMacros (K : Nat) (hK : K ≤ 140737488355328) (op had : Int) (v : ByteArray) (gv : Bool) (ho : (Lit.int .i64 op).wf = true) (hh : (Lit.int .i64 had).wf = true) (hz : v.size ≤ K) (w : World) (hm : MX w) :
   Calls Tryz.prog 5 #[.int .i64 op, .int .i64 had, .string v, .bool gv] w fun e w' => e = .returned (.bool true) ∧ Below w.heap.size w w' := by
 have HM := hide hm
 have HA := hide (ralive_any w hm)
 obtain ⟨vt, hvt⟩ : ∃ t : T, v = bs t := ⟨v.data.toList, (bs_of v).symm⟩
 have HV := hide hvt
 clear hm hvt
 go_enter Tryz.func5, Tryz.ntmps5
 go_wp2_with fail
 refine HA.out.mono ?_
 rintro e w1 ⟨rfl, hb1⟩
 have HB2 := hide (hb1.alloc (hb1.size) (.cells opsV 9))
 have HOV := hide (heapNew w1 (.cells opsV 9))
 clear hb1 HA
 obtain ⟨n, hn⟩ : ∃ n, v.size = n := ⟨_, rfl⟩
 have hvz : n ≤ 9223372036854775807 := by omega
 by_cases h0 : op < 0
 · have hdz : decide (op < 0) = true := decide_eq_true h0
   go_wp2
   go_ret
   exact ⟨rfl, HB2.out⟩
 have hdz : decide (op < 0) = false := decide_eq_false h0
 by_cases h1 : 5 ≤ op
 · have hd1 : decide (5 ≤ op) = true := decide_eq_true h1
   go_wp2
   go_ret
   exact ⟨rfl, HB2.out⟩
 have hd1 : decide (5 ≤ op) = false := decide_eq_false h1
 by_cases h2 : had < 0
 · have hd2 : decide (had < 0) = true := decide_eq_true h2
   go_wp2
   go_ret
   exact ⟨rfl, HB2.out⟩
 have hd2 : decide (had < 0) = false := decide_eq_false h2
 by_cases h3 : 2 < had
 · have hd3 : decide (2 < had) = true := decide_eq_true h3
   go_wp2
   go_ret
   exact ⟨rfl, HB2.out⟩
 have hd3 : decide (2 < had) = false := decide_eq_false h3
 by_cases h4 : (60 : Int) < (n : Int)
 · have hd4 : decide ((60 : Int) < (n : Int)) = true := decide_eq_true h4
   go_wp2
   go_ret
   exact ⟨rfl, HB2.out⟩
 have hd4 : decide ((60 : Int) < (n : Int)) = false := decide_eq_false h4
 by_cases h5 : v.toList.isEmpty = true
 · go_wp2
   go_ret
   exact ⟨rfl, HB2.out⟩
 have hd5 : v.toList.isEmpty = false := by simpa using h5
 obtain ⟨o, rfl⟩ : ∃ o : Nat, op = o := ⟨op.toNat, by omega⟩
 obtain ⟨hd, rfl⟩ : ∃ o : Nat, had = o := ⟨had.toNat, by omega⟩
 have hoo : o < 5 := by omega
 have hhh : hd < 3 := by omega
 have HNE := hide h5
 have hv60 : n ≤ 60 := by omega
 clear h5
 go_wp2
 obtain ⟨W, hW⟩ : ∃ z, w1.alloc (.cells opsV 9) = z := ⟨_, rfl⟩
 have HW := hide (show w1.alloc (.cells #[.string ⟨#[61]⟩, .string ⟨#[58, 61]⟩, .string ⟨#[58, 58, 61]⟩, .string ⟨#[43, 61]⟩, .string ⟨#[63, 61]⟩] 9) = W from hW)
 rw [hW] at HB2 HOV
 rw [HW.out]
 clear hW
 go_loopw [11] (fun v11 wr => W = wr ∧ ∃ i : Nat, v11 = .int .i64 i ∧ i ≤ n ∧ Hid (∀ j, j < i → 97 ≤ bt v j ∧ bt v j ≤ 122)) (fun v11 _ => n - (intOf v11).toNat)
 case atStart => exact ⟨rfl, 0, rfl, by omega, hide fun j hj => by omega⟩
 case round =>
   obtain ⟨rfl, i, rfl, hi, HG⟩ := hrel
   by_cases hlt : i < n
   case pos =>
     have b1 : (i : Int) < (n : Int) := by omega
     by_cases c1 : (97 : Int) ≤ (bt v i : Int)
     case neg =>
       have q1 : decide ((97 : Int) ≤ (bt v i : Int)) = false := decide_eq_false c1
       go_wp2
       go_ret
       exact ⟨rfl, HB2.out⟩
     by_cases c2 : (bt v i : Int) ≤ 122
     case neg =>
       have q1 : decide ((97 : Int) ≤ (bt v i : Int)) = true := decide_eq_true c1
       have q2 : decide ((bt v i : Int) ≤ 122) = false := decide_eq_false c2
       go_wp2
       go_ret
       exact ⟨rfl, HB2.out⟩
     have q1 : decide ((97 : Int) ≤ (bt v i : Int)) = true := decide_eq_true c1
     have q2 : decide ((bt v i : Int) ≤ 122) = true := decide_eq_true c2
     have HG2 := hide (show ∀ j, j < i + 1 → 97 ≤ bt v j ∧ bt v j ≤ 122 from fun j hj => by
       by_cases e : j = i
       · subst e; exact ⟨by omega, by omega⟩
       · exact HG.out j (by omega))
     clear c1 c2
     go_wp2
     go_roundw
     case rel => exact ⟨trivial, i + 1, by go_num, by omega, HG2⟩
     case measure => simp [intOf]; omega
   obtain rfl : i = n := by omega
   have hlow : low vt := by
     intro c hc
     obtain ⟨j, hj, hcj⟩ := List.getElem_of_mem hc
     have hjn : j < i := by rw [← hn, HV.out, bs_size]; exact hj
     have := HG.out j hjn
     rw [HV.out, bt_bs, List.getD_eq_getElem?_getD, List.getElem?_eq_getElem hj, hcj] at this
     simp only [Option.getD_some] at this
     exact ⟨by rw [UInt8.le_iff_toNat_le]; exact this.1, by rw [UInt8.le_iff_toNat_le]; exact this.2⟩
   have hvn : vt ≠ [] := by
     intro e
     apply HNE.out
     rw [HV.out, e, bs_toList]
     rfl
   have hvl : vt.length ≤ 60 := by
     have := bs_size vt
     rw [← HV.out] at this
     omega
   have HPL := hide (fun fs cwd d => macs_plain fs cwd d o hd hoo hhh gv hlow hvn hvl)
   have HLV := hide hvl
   clear hlow hvn hvl HG HNE
   go_upto_if 67 with (fail)
   go_cut [12] from 67 to 67 (fun v12 w' => v12 = .string (bs (if 0 < hd then [120, 32, 61] else [])) ∧ w' = W)
   case first =>
     by_cases q : 0 < hd
     · have q1 : decide ((0 : Int) < (hd : Int)) = true := decide_eq_true (by omega)
       go_wp2
       go_meet
       exact ⟨by rw [if_pos q]; rfl, rfl⟩
     · have q1 : decide ((0 : Int) < (hd : Int)) = false := decide_eq_false (by omega)
       go_wp2
       go_meet
       exact ⟨by rw [if_neg q]; rfl, rfl⟩
   case rest =>
   obtain ⟨rfl, rfl⟩ := hcut
   obtain ⟨P0, hP0⟩ : ∃ z, bs (if 0 < hd then [120, 32, 61] else []) = z := ⟨_, rfl⟩
   rw [hP0]
   have HP0 := hide hP0
   clear hP0
   go_upto_if 69 with (fail)
   go_cut [12] from 69 to 69 (fun v12 w' => v12 = .string (bs (preT hd)) ∧ w' = wc)
   case first =>
     by_cases q : 1 < hd
     · have q1 : decide ((1 : Int) < (hd : Int)) = true := decide_eq_true (by omega)
       go_wp2
       go_meet
       exact ⟨by unfold preT; rw [if_pos q]; rfl, rfl⟩
     · have q1 : decide ((1 : Int) < (hd : Int)) = false := decide_eq_false (by omega)
       go_wp2
       go_meet
       exact ⟨by unfold preT; rw [if_neg q, ← HP0.out], rfl⟩
   case rest =>
   obtain ⟨rfl, rfl⟩ := hcut
   clear HP0 P0
   obtain ⟨hoc, hol⟩ := opsV_at o hoo
   have hc0 := cellOf HOV.out hoc
   obtain ⟨P, hP⟩ : ∃ z, bs (preT hd) = z := ⟨_, rfl⟩
   obtain ⟨O, hO⟩ : ∃ z, bs (opT o) = z := ⟨_, rfl⟩
   have hPz : P.size ≤ 7 := by
     rw [← hP, bs_size]
     have : ∀ hd < 3, (preT hd).length ≤ 7 := by decide
     exact this hd hhh
   have hOz : O.size ≤ 3 := by rw [← hO, bs_size]; exact hol
   have HX := hide (show P ++ ⟨#[10, 120, 32]⟩ ++ O ++ ⟨#[32]⟩ ++ v ++ ⟨#[36, 40, 121, 41, 36, 36, 10, 121, 32, 61, 32, 122, 10]⟩ = bs (macT o hd vt) by
     rw [← hP, ← hO, HV.out, show (⟨#[10, 120, 32]⟩ : ByteArray) = bs [10, 120, 32] from rfl, show (⟨#[32]⟩ : ByteArray) = bs [32] from rfl, show (⟨#[36, 40, 121, 41, 36, 36, 10, 121, 32, 61, 32, 122, 10]⟩ : ByteArray) = bs [36, 40, 121, 41, 36, 36, 10, 121, 32, 61, 32, 122, 10] from rfl]
     simp only [bs_app]
     congr 1
     simp [macT, defT, tailM])
   have HTL := hide (show (macT o hd vt).length ≤ 9000000000000000000 by
     have h1 := bs_size (preT hd)
     have h2 := bs_size (opT o)
     have := HLV.out
     rw [hP] at h1
     rw [hO] at h2
     simp [macT, defT, tailM]
     omega)
   rw [hO] at hc0
   rw [hP]
   clear hP hO hoc hol
   have b5 : (o : Int) < 5 := by omega
   obtain ⟨W, hWq⟩ : ∃ Z, Z = wc := ⟨_, rfl⟩
   subst hWq
   go_upto_if 81 with (fail)
   rw [HX.out]
   go_cut [13] from 82 to 83 (fun v13 w' => ∃ gA gc, v13 = .slice gA (gvL gv).length gc ∧ PR w' gA (gvL gv) ∧ Below W.heap.size W w')
   case first =>
     cases gv with
     | false =>
       go_wp2
       go_meet
       exact ⟨none, 0, rfl, PR.nil _ _, Below.refl _ _⟩
     | true =>
       go_wp2
       go_meet
       exact ⟨some ⟨W.heap.size, 0, none⟩, 1, rfl, pr_new1 _ _ _ _, (Below.refl _ _).alloc (Nat.le_refl _) _⟩
   case rest =>
   obtain ⟨gA, gc, rfl, hpr, hbc⟩ := hcut
   have HPR := hide hpr
   have HBC := hide (HB2.out.trans (hbc.mono HB2.out.size))
   have HNW := hide (vnew_g w wc HM.out HBC.out)
   clear hpr hbc HOV hc0
   go_wp2_with fail
   refine HNW.out.mono ?_
   rintro e w2 ⟨gf, rfl, hb2, hrd⟩
   have HB3 := hide (HBC.out.trans (hb2.mono HBC.out.size))
   have HRD := hide (hrd (macT o hd vt) w2 gA gc (gvL gv) HTL.out (Below.refl _ _) (HPR.out.below hb2) (by cases gv <;> simp [gvL]) (by cases gv <;> simp [gvL] <;> decide))
   rw [gvL_S, HPL.out] at HRD
   clear hrd hb2 HNW
   go_wp2_with fail
   refine HRD.out.mono ?_
   intro e w3 hend
   obtain ⟨⟨pA, pc, rA, rc, rl, rfl, hpr, _⟩, hb3⟩ := hend
   dsimp only [List.length_cons, List.length_nil, Nat.zero_add, Nat.reduceAdd] at hpr ⊢
   have hb4 : Below w3.heap.size w3 (w3.alloc (.cells #[.slice pA 2 pc, .slice rA 0 rc] mkty)) := (Below.refl _ _).alloc (Nat.le_refl _) _
   have HB4 := hide ((HB3.out.trans (hb3.mono HB3.out.size)).trans (hb4.mono (by have := HB3.out.size; have := hb3.size; omega)))
   have hh4 := heapNew w3 (.cells #[.slice pA 2 pc, .slice rA 0 rc] mkty)
   have m0 := cellOf hh4 (j := 0) rfl
   have m1 := cellOf hh4 (j := 1) rfl
   have HNU := hide (fun n W => num20_any n W)
   obtain ⟨Wv, hWv⟩ : ∃ z, bs (wantV o hd gv vt) = z := ⟨_, rfl⟩
   rw [hWv] at hpr
   have HMX := hide (fun Z (hb : Below (w3.alloc (.cells #[.slice pA 2 pc, .slice rA 0 rc] mkty)).heap.size (w3.alloc (.cells #[.slice pA 2 pc, .slice rA 0 rc] mkty)) Z) => rmacro_any pA pc [(bs [120], Wv), (bs [121], bs [122])] rA 0 rc ⟨#[120]⟩ Z ((hpr.below hb4).below hb) (by simp))
   have HMY := hide (fun Z (hb : Below (w3.alloc (.cells #[.slice pA 2 pc, .slice rA 0 rc] mkty)).heap.size (w3.alloc (.cells #[.slice pA 2 pc, .slice rA 0 rc] mkty)) Z) => rmacro_any pA pc [(bs [120], Wv), (bs [121], bs [122])] rA 0 rc ⟨#[121]⟩ Z ((hpr.below hb4).below hb) (by simp))
   rw [macF_x] at HMX
   rw [macF_y] at HMY
   dsimp only [List.length_cons, List.length_nil, Nat.zero_add, Nat.reduceAdd] at HMX HMY
   have HWV := hide hWv
   clear hpr hb3 hb4 hh4 hWv HRD HTL HX HLV HPR
   have hlt2 : hd < 3 := hhh
   cases gv
   ·
     rcases (by omega : o = 0 ∨ o = 1 ∨ o = 2 ∨ o = 3 ∨ o = 4) with rfl | rfl | rfl | rfl | rfl
     · skip
       go_upto_region 35 with (fail)
       rw [show (v ++ ⟨#[36, 40, 121, 41, 36, 36]⟩ : ByteArray) = Wv from by rw [← HWV.out]; rw [HV.out]; exact bs_app vt tailM]
       go_wp2_with fail
       refine (HNU.out _ _).mono ?_
       rintro e w5 ⟨rfl, rfl⟩
       go_wp2_with fail
       refine (HMX.out _ (Below.refl _ _)).mono ?_
       rintro e w6 ⟨rfl, hb6⟩
       have n0 := (hb6.cell (p := ⟨w3.heap.size, 0, none⟩) (World.block_lt_of_cell? _ _ m0)).trans m0
       have n1 := (hb6.cell (p := ⟨w3.heap.size, 1, none⟩) (World.block_lt_of_cell? _ _ m1)).trans m1
       have HB6 := hide (HB4.out.trans (hb6.mono HB4.out.size))
       have HMY := hide (HMY.out _ hb6)
       clear hb6
       go_wp2_with fail
       refine HMY.out.mono ?_
       rintro e w7 ⟨rfl, hb7⟩
       have HB7 := hide (HB6.out.trans (hb7.mono HB6.out.size))
       clear hb7
       go_wp2
       go_ret
       exact ⟨by simp [bs_toList], HB7.out⟩
     · skip
       go_upto_region 35 with (fail)
       rw [show (v ++ ⟨#[36, 36]⟩ : ByteArray) = Wv from by rw [← HWV.out]; rw [HV.out]; exact bs_app vt [36, 36]]
       go_wp2_with fail
       refine (HNU.out _ _).mono ?_
       rintro e w5 ⟨rfl, rfl⟩
       go_wp2_with fail
       refine (HMX.out _ (Below.refl _ _)).mono ?_
       rintro e w6 ⟨rfl, hb6⟩
       have n0 := (hb6.cell (p := ⟨w3.heap.size, 0, none⟩) (World.block_lt_of_cell? _ _ m0)).trans m0
       have n1 := (hb6.cell (p := ⟨w3.heap.size, 1, none⟩) (World.block_lt_of_cell? _ _ m1)).trans m1
       have HB6 := hide (HB4.out.trans (hb6.mono HB4.out.size))
       have HMY := hide (HMY.out _ hb6)
       clear hb6
       go_wp2_with fail
       refine HMY.out.mono ?_
       rintro e w7 ⟨rfl, hb7⟩
       have HB7 := hide (HB6.out.trans (hb7.mono HB6.out.size))
       clear hb7
       go_wp2
       go_ret
       exact ⟨by simp [bs_toList], HB7.out⟩
     · skip
       go_upto_region 35 with (fail)
       rw [show (v ++ ⟨#[36, 36]⟩ : ByteArray) = Wv from by rw [← HWV.out]; rw [HV.out]; exact bs_app vt [36, 36]]
       go_wp2_with fail
       refine (HNU.out _ _).mono ?_
       rintro e w5 ⟨rfl, rfl⟩
       go_wp2_with fail
       refine (HMX.out _ (Below.refl _ _)).mono ?_
       rintro e w6 ⟨rfl, hb6⟩
       have n0 := (hb6.cell (p := ⟨w3.heap.size, 0, none⟩) (World.block_lt_of_cell? _ _ m0)).trans m0
       have n1 := (hb6.cell (p := ⟨w3.heap.size, 1, none⟩) (World.block_lt_of_cell? _ _ m1)).trans m1
       have HB6 := hide (HB4.out.trans (hb6.mono HB4.out.size))
       have HMY := hide (HMY.out _ hb6)
       clear hb6
       go_wp2_with fail
       refine HMY.out.mono ?_
       rintro e w7 ⟨rfl, hb7⟩
       have HB7 := hide (HB6.out.trans (hb7.mono HB6.out.size))
       clear hb7
       go_wp2
       go_ret
       exact ⟨by simp [bs_toList], HB7.out⟩
     · by_cases q : 1 < hd
       · have q1 : decide ((1 : Int) < (hd : Int)) = true := decide_eq_true (by omega)
         go_upto_region 35 with (fail)
         rw [show (⟨#[111, 108, 100, 32]⟩ ++ (v ++ ⟨#[36, 40, 121, 41, 36, 36]⟩) : ByteArray) = Wv from by rw [← HWV.out]; rw [show wantV 3 hd false vt = [111, 108, 100, 32] ++ (vt ++ tailM) from by unfold wantV; simp [q], ← bs_app, ← bs_app, ← HV.out]; rfl]
         go_wp2_with fail
         refine (HNU.out _ _).mono ?_
         rintro e w5 ⟨rfl, rfl⟩
         go_wp2_with fail
         refine (HMX.out _ (Below.refl _ _)).mono ?_
         rintro e w6 ⟨rfl, hb6⟩
         have n0 := (hb6.cell (p := ⟨w3.heap.size, 0, none⟩) (World.block_lt_of_cell? _ _ m0)).trans m0
         have n1 := (hb6.cell (p := ⟨w3.heap.size, 1, none⟩) (World.block_lt_of_cell? _ _ m1)).trans m1
         have HB6 := hide (HB4.out.trans (hb6.mono HB4.out.size))
         have HMY := hide (HMY.out _ hb6)
         clear hb6
         go_wp2_with fail
         refine HMY.out.mono ?_
         rintro e w7 ⟨rfl, hb7⟩
         have HB7 := hide (HB6.out.trans (hb7.mono HB6.out.size))
         clear hb7
         go_wp2
         go_ret
         exact ⟨by simp [bs_toList], HB7.out⟩
       · have q1 : decide ((1 : Int) < (hd : Int)) = false := decide_eq_false (by omega)
         go_upto_region 35 with (fail)
         rw [show (v ++ ⟨#[36, 40, 121, 41, 36, 36]⟩ : ByteArray) = Wv from by rw [← HWV.out]; rw [show wantV 3 hd false vt = vt ++ tailM from by unfold wantV; simp [q], ← bs_app, ← HV.out]; rfl]
         go_wp2_with fail
         refine (HNU.out _ _).mono ?_
         rintro e w5 ⟨rfl, rfl⟩
         go_wp2_with fail
         refine (HMX.out _ (Below.refl _ _)).mono ?_
         rintro e w6 ⟨rfl, hb6⟩
         have n0 := (hb6.cell (p := ⟨w3.heap.size, 0, none⟩) (World.block_lt_of_cell? _ _ m0)).trans m0
         have n1 := (hb6.cell (p := ⟨w3.heap.size, 1, none⟩) (World.block_lt_of_cell? _ _ m1)).trans m1
         have HB6 := hide (HB4.out.trans (hb6.mono HB4.out.size))
         have HMY := hide (HMY.out _ hb6)
         clear hb6
         go_wp2_with fail
         refine HMY.out.mono ?_
         rintro e w7 ⟨rfl, hb7⟩
         have HB7 := hide (HB6.out.trans (hb7.mono HB6.out.size))
         clear hb7
         go_wp2
         go_ret
         exact ⟨by simp [bs_toList], HB7.out⟩
     · rcases (by omega : hd = 0 ∨ hd = 1 ∨ hd = 2) with rfl | rfl | rfl
       · skip
         go_upto_region 35 with (fail)
         rw [show (v ++ ⟨#[36, 40, 121, 41, 36, 36]⟩ : ByteArray) = Wv from by rw [← HWV.out]; rw [HV.out]; exact bs_app vt tailM]
         go_wp2_with fail
         refine (HNU.out _ _).mono ?_
         rintro e w5 ⟨rfl, rfl⟩
         go_wp2_with fail
         refine (HMX.out _ (Below.refl _ _)).mono ?_
         rintro e w6 ⟨rfl, hb6⟩
         have n0 := (hb6.cell (p := ⟨w3.heap.size, 0, none⟩) (World.block_lt_of_cell? _ _ m0)).trans m0
         have n1 := (hb6.cell (p := ⟨w3.heap.size, 1, none⟩) (World.block_lt_of_cell? _ _ m1)).trans m1
         have HB6 := hide (HB4.out.trans (hb6.mono HB4.out.size))
         have HMY := hide (HMY.out _ hb6)
         clear hb6
         go_wp2_with fail
         refine HMY.out.mono ?_
         rintro e w7 ⟨rfl, hb7⟩
         have HB7 := hide (HB6.out.trans (hb7.mono HB6.out.size))
         clear hb7
         go_wp2
         go_ret
         exact ⟨by simp [bs_toList], HB7.out⟩
       · skip
         go_upto_region 35 with (fail)
         rw [show (⟨#[]⟩ : ByteArray) = Wv from by rw [← HWV.out]; rfl]
         go_wp2_with fail
         refine (HNU.out _ _).mono ?_
         rintro e w5 ⟨rfl, rfl⟩
         go_wp2_with fail
         refine (HMX.out _ (Below.refl _ _)).mono ?_
         rintro e w6 ⟨rfl, hb6⟩
         have n0 := (hb6.cell (p := ⟨w3.heap.size, 0, none⟩) (World.block_lt_of_cell? _ _ m0)).trans m0
         have n1 := (hb6.cell (p := ⟨w3.heap.size, 1, none⟩) (World.block_lt_of_cell? _ _ m1)).trans m1
         have HB6 := hide (HB4.out.trans (hb6.mono HB4.out.size))
         have HMY := hide (HMY.out _ hb6)
         clear hb6
         go_wp2_with fail
         refine HMY.out.mono ?_
         rintro e w7 ⟨rfl, hb7⟩
         have HB7 := hide (HB6.out.trans (hb7.mono HB6.out.size))
         clear hb7
         go_wp2
         go_ret
         exact ⟨by simp [bs_toList], HB7.out⟩
       · skip
         go_upto_region 35 with (fail)
         rw [show (⟨#[111, 108, 100]⟩ : ByteArray) = Wv from by rw [← HWV.out]; rfl]
         go_wp2_with fail
         refine (HNU.out _ _).mono ?_
         rintro e w5 ⟨rfl, rfl⟩
         go_wp2_with fail
         refine (HMX.out _ (Below.refl _ _)).mono ?_
         rintro e w6 ⟨rfl, hb6⟩
         have n0 := (hb6.cell (p := ⟨w3.heap.size, 0, none⟩) (World.block_lt_of_cell? _ _ m0)).trans m0
         have n1 := (hb6.cell (p := ⟨w3.heap.size, 1, none⟩) (World.block_lt_of_cell? _ _ m1)).trans m1
         have HB6 := hide (HB4.out.trans (hb6.mono HB4.out.size))
         have HMY := hide (HMY.out _ hb6)
         clear hb6
         go_wp2_with fail
         refine HMY.out.mono ?_
         rintro e w7 ⟨rfl, hb7⟩
         have HB7 := hide (HB6.out.trans (hb7.mono HB6.out.size))
         clear hb7
         go_wp2
         go_ret
         exact ⟨by simp [bs_toList], HB7.out⟩
   ·
     rcases (by omega : o = 0 ∨ o = 1 ∨ o = 2 ∨ o = 3 ∨ o = 4) with rfl | rfl | rfl | rfl | rfl
     · skip
       go_upto_region 35 with (fail)
       rw [show (⟨#[103, 105, 118, 101, 110]⟩ : ByteArray) = Wv from by rw [← HWV.out]; rfl]
       go_wp2_with fail
       refine (HNU.out _ _).mono ?_
       rintro e w5 ⟨rfl, rfl⟩
       go_wp2_with fail
       refine (HMX.out _ (Below.refl _ _)).mono ?_
       rintro e w6 ⟨rfl, hb6⟩
       have n0 := (hb6.cell (p := ⟨w3.heap.size, 0, none⟩) (World.block_lt_of_cell? _ _ m0)).trans m0
       have n1 := (hb6.cell (p := ⟨w3.heap.size, 1, none⟩) (World.block_lt_of_cell? _ _ m1)).trans m1
       have HB6 := hide (HB4.out.trans (hb6.mono HB4.out.size))
       have HMY := hide (HMY.out _ hb6)
       clear hb6
       go_wp2_with fail
       refine HMY.out.mono ?_
       rintro e w7 ⟨rfl, hb7⟩
       have HB7 := hide (HB6.out.trans (hb7.mono HB6.out.size))
       clear hb7
       go_wp2
       go_ret
       exact ⟨by simp [bs_toList], HB7.out⟩
     · skip
       go_upto_region 35 with (fail)
       rw [show (⟨#[103, 105, 118, 101, 110]⟩ : ByteArray) = Wv from by rw [← HWV.out]; rfl]
       go_wp2_with fail
       refine (HNU.out _ _).mono ?_
       rintro e w5 ⟨rfl, rfl⟩
       go_wp2_with fail
       refine (HMX.out _ (Below.refl _ _)).mono ?_
       rintro e w6 ⟨rfl, hb6⟩
       have n0 := (hb6.cell (p := ⟨w3.heap.size, 0, none⟩) (World.block_lt_of_cell? _ _ m0)).trans m0
       have n1 := (hb6.cell (p := ⟨w3.heap.size, 1, none⟩) (World.block_lt_of_cell? _ _ m1)).trans m1
       have HB6 := hide (HB4.out.trans (hb6.mono HB4.out.size))
       have HMY := hide (HMY.out _ hb6)
       clear hb6
       go_wp2_with fail
       refine HMY.out.mono ?_
       rintro e w7 ⟨rfl, hb7⟩
       have HB7 := hide (HB6.out.trans (hb7.mono HB6.out.size))
       clear hb7
       go_wp2
       go_ret
       exact ⟨by simp [bs_toList], HB7.out⟩
     · skip
       go_upto_region 35 with (fail)
       rw [show (⟨#[103, 105, 118, 101, 110]⟩ : ByteArray) = Wv from by rw [← HWV.out]; rfl]
       go_wp2_with fail
       refine (HNU.out _ _).mono ?_
       rintro e w5 ⟨rfl, rfl⟩
       go_wp2_with fail
       refine (HMX.out _ (Below.refl _ _)).mono ?_
       rintro e w6 ⟨rfl, hb6⟩
       have n0 := (hb6.cell (p := ⟨w3.heap.size, 0, none⟩) (World.block_lt_of_cell? _ _ m0)).trans m0
       have n1 := (hb6.cell (p := ⟨w3.heap.size, 1, none⟩) (World.block_lt_of_cell? _ _ m1)).trans m1
       have HB6 := hide (HB4.out.trans (hb6.mono HB4.out.size))
       have HMY := hide (HMY.out _ hb6)
       clear hb6
       go_wp2_with fail
       refine HMY.out.mono ?_
       rintro e w7 ⟨rfl, hb7⟩
       have HB7 := hide (HB6.out.trans (hb7.mono HB6.out.size))
       clear hb7
       go_wp2
       go_ret
       exact ⟨by simp [bs_toList], HB7.out⟩
     · by_cases q : 1 < hd
       · have q1 : decide ((1 : Int) < (hd : Int)) = true := decide_eq_true (by omega)
         go_upto_region 35 with (fail)
         rw [show (⟨#[103, 105, 118, 101, 110]⟩ : ByteArray) = Wv from by rw [← HWV.out]; rfl]
         go_wp2_with fail
         refine (HNU.out _ _).mono ?_
         rintro e w5 ⟨rfl, rfl⟩
         go_wp2_with fail
         refine (HMX.out _ (Below.refl _ _)).mono ?_
         rintro e w6 ⟨rfl, hb6⟩
         have n0 := (hb6.cell (p := ⟨w3.heap.size, 0, none⟩) (World.block_lt_of_cell? _ _ m0)).trans m0
         have n1 := (hb6.cell (p := ⟨w3.heap.size, 1, none⟩) (World.block_lt_of_cell? _ _ m1)).trans m1
         have HB6 := hide (HB4.out.trans (hb6.mono HB4.out.size))
         have HMY := hide (HMY.out _ hb6)
         clear hb6
         go_wp2_with fail
         refine HMY.out.mono ?_
         rintro e w7 ⟨rfl, hb7⟩
         have HB7 := hide (HB6.out.trans (hb7.mono HB6.out.size))
         clear hb7
         go_wp2
         go_ret
         exact ⟨by simp [bs_toList], HB7.out⟩
       · have q1 : decide ((1 : Int) < (hd : Int)) = false := decide_eq_false (by omega)
         go_upto_region 35 with (fail)
         rw [show (⟨#[103, 105, 118, 101, 110]⟩ : ByteArray) = Wv from by rw [← HWV.out]; rfl]
         go_wp2_with fail
         refine (HNU.out _ _).mono ?_
         rintro e w5 ⟨rfl, rfl⟩
         go_wp2_with fail
         refine (HMX.out _ (Below.refl _ _)).mono ?_
         rintro e w6 ⟨rfl, hb6⟩
         have n0 := (hb6.cell (p := ⟨w3.heap.size, 0, none⟩) (World.block_lt_of_cell? _ _ m0)).trans m0
         have n1 := (hb6.cell (p := ⟨w3.heap.size, 1, none⟩) (World.block_lt_of_cell? _ _ m1)).trans m1
         have HB6 := hide (HB4.out.trans (hb6.mono HB4.out.size))
         have HMY := hide (HMY.out _ hb6)
         clear hb6
         go_wp2_with fail
         refine HMY.out.mono ?_
         rintro e w7 ⟨rfl, hb7⟩
         have HB7 := hide (HB6.out.trans (hb7.mono HB6.out.size))
         clear hb7
         go_wp2
         go_ret
         exact ⟨by simp [bs_toList], HB7.out⟩
     · rcases (by omega : hd = 0 ∨ hd = 1 ∨ hd = 2) with rfl | rfl | rfl
       · skip
         go_upto_region 35 with (fail)
         rw [show (⟨#[103, 105, 118, 101, 110]⟩ : ByteArray) = Wv from by rw [← HWV.out]; rfl]
         go_wp2_with fail
         refine (HNU.out _ _).mono ?_
         rintro e w5 ⟨rfl, rfl⟩
         go_wp2_with fail
         refine (HMX.out _ (Below.refl _ _)).mono ?_
         rintro e w6 ⟨rfl, hb6⟩
         have n0 := (hb6.cell (p := ⟨w3.heap.size, 0, none⟩) (World.block_lt_of_cell? _ _ m0)).trans m0
         have n1 := (hb6.cell (p := ⟨w3.heap.size, 1, none⟩) (World.block_lt_of_cell? _ _ m1)).trans m1
         have HB6 := hide (HB4.out.trans (hb6.mono HB4.out.size))
         have HMY := hide (HMY.out _ hb6)
         clear hb6
         go_wp2_with fail
         refine HMY.out.mono ?_
         rintro e w7 ⟨rfl, hb7⟩
         have HB7 := hide (HB6.out.trans (hb7.mono HB6.out.size))
         clear hb7
         go_wp2
         go_ret
         exact ⟨by simp [bs_toList], HB7.out⟩
       · skip
         go_upto_region 35 with (fail)
         rw [show (⟨#[103, 105, 118, 101, 110]⟩ : ByteArray) = Wv from by rw [← HWV.out]; rfl]
         go_wp2_with fail
         refine (HNU.out _ _).mono ?_
         rintro e w5 ⟨rfl, rfl⟩
         go_wp2_with fail
         refine (HMX.out _ (Below.refl _ _)).mono ?_
         rintro e w6 ⟨rfl, hb6⟩
         have n0 := (hb6.cell (p := ⟨w3.heap.size, 0, none⟩) (World.block_lt_of_cell? _ _ m0)).trans m0
         have n1 := (hb6.cell (p := ⟨w3.heap.size, 1, none⟩) (World.block_lt_of_cell? _ _ m1)).trans m1
         have HB6 := hide (HB4.out.trans (hb6.mono HB4.out.size))
         have HMY := hide (HMY.out _ hb6)
         clear hb6
         go_wp2_with fail
         refine HMY.out.mono ?_
         rintro e w7 ⟨rfl, hb7⟩
         have HB7 := hide (HB6.out.trans (hb7.mono HB6.out.size))
         clear hb7
         go_wp2
         go_ret
         exact ⟨by simp [bs_toList], HB7.out⟩
       · skip
         go_upto_region 35 with (fail)
         rw [show (⟨#[103, 105, 118, 101, 110]⟩ : ByteArray) = Wv from by rw [← HWV.out]; rfl]
         go_wp2_with fail
         refine (HNU.out _ _).mono ?_
         rintro e w5 ⟨rfl, rfl⟩
         go_wp2_with fail
         refine (HMX.out _ (Below.refl _ _)).mono ?_
         rintro e w6 ⟨rfl, hb6⟩
         have n0 := (hb6.cell (p := ⟨w3.heap.size, 0, none⟩) (World.block_lt_of_cell? _ _ m0)).trans m0
         have n1 := (hb6.cell (p := ⟨w3.heap.size, 1, none⟩) (World.block_lt_of_cell? _ _ m1)).trans m1
         have HB6 := hide (HB4.out.trans (hb6.mono HB4.out.size))
         have HMY := hide (HMY.out _ hb6)
         clear hb6
         go_wp2_with fail
         refine HMY.out.mono ?_
         rintro e w7 ⟨rfl, hb7⟩
         have HB7 := hide (HB6.out.trans (hb7.mono HB6.out.size))
         clear hb7
         go_wp2
         go_ret
         exact ⟨by simp [bs_toList], HB7.out⟩
end
end Go.Proofs.YtpheeheikigenaaGreatDoor
