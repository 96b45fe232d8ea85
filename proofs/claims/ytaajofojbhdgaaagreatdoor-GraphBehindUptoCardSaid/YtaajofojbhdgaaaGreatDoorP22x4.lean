/- Walks and plain facts that the claim uses. -/
import Derived.Test.YtaajofojbhdgaaaGreatDoorP22x3
import Derived.Deep.CutRange
import Derived.StillTailTactics
import Derived.Deep.SlicePairs
import Derived.OpenShut
import Derived.ProofKit
import Derived.SliceStrings
import Derived.Test.YtaajofojbhdgaaaGreatDoorProg
import Derived.SizedLaws
import Derived.Sort.OwnSorted
import Derived.BigQuiet
set_option maxRecDepth 100000
set_option maxHeartbeats 16000000
set_option linter.unusedSimpArgs false
set_option linter.unusedVariables false
namespace Go.Proofs.YtaajofojbhdgaaaGreatDoor
section
open Go.RowKit Go.Deep Go.Maps Ln Pth Vf
attribute [local go_sem] bt_eq
structure Rc where
 mac : Value
 A : Option Addr
 ml : Nat
 c : Nat
 g : Nat
 cwd : ByteArray
abbrev wty : TypeId := 92
def wcs (C : Rc) (s : Wk) : List Cl := [.v C.mac, .v (.slice C.A C.ml C.c), .v (.pointer (some ⟨C.g, 0, none⟩)), .v (.string C.cwd), Cl.s s.seen, Cl.s s.order, Cl.s s.wait, .v (.int .i64 s.e)]
structure RGH (w0 : World) (C : Rc) (P : ByteArray → Pn) (is : ByteArray → Bool) (Gd : Nat → ByteArray → Prop) : Prop where
 plan : ∀ (m : Nat) (W : World) (x : ByteArray), m ≤ 1000 → Gd m x → Below w0.heap.size w0 W → Calls Tryz.prog 21 #[.agg #[C.mac, .slice C.A C.ml C.c], .pointer (some ⟨C.g, 0, none⟩), .string C.cwd, .string x] W (RPlanPost W (P x))
 kind : ∀ (m : Nat) (W : World) (x : ByteArray), m ≤ 1000 → Gd m x → Below w0.heap.size w0 W → Calls Tryz.prog 81 #[.pointer (some ⟨C.g, 0, none⟩), .string C.cwd, .string x] W fun e w' => (∃ k : Nat, e = .returned (.int .i64 k) ∧ is x = !decide (k = 0)) ∧ Below W.heap.size W w'
 next : ∀ m x, m < 1000 → Gd m x → ∀ y ∈ (P x).needs, Gd (m + 1) y
 len : ∀ m x, m ≤ 1000 → Gd m x → (P x).needs.length ≤ 900000
 mono : ∀ m x, Gd m x → Gd (m + 1) x
theorem RGH.up {w0 : World} {C : Rc} {P : ByteArray → Pn} {is : ByteArray → Bool} {Gd : Nat → ByteArray → Prop} (h : RGH w0 C P is Gd) {m x} (hx : Gd m x) : ∀ k, Gd (m + k) x
 | 0 => hx
 | k + 1 => h.mono _ _ (h.up hx k)
theorem meetF_sl {P : ByteArray → Pn} {is : ByteArray → Bool} {stop : Bool} : ∀ (n : Nat) (t : ByteArray) (s : Wk), s.seen.length ≤ (meetF P is stop n t s).seen.length
 | 0, _, _ => Nat.le_refl _
 | n + 1, t, s => by
   rw [meetF]
   split
   · exact Nat.le_refl _
   · split
     · split <;> exact Nat.le_refl _
     · split
       · split <;> exact Nat.le_refl _
       · split
         · show s.seen.length ≤ (s.seen ++ [t]).length
           rw [List.length_append]; omega
         · refine Nat.le_trans ?_ (fold_inv (f := fun s x => meetF P is stop n x s) (Q := fun z => (enterW t s).seen.length ≤ z.seen.length) (fun a b h => Nat.le_trans h (meetF_sl n b a)) (P t).needs (enterW t s) (Nat.le_refl _))
           show s.seen.length ≤ (s.seen ++ [t]).length
           rw [List.length_append]; omega
theorem foldF_sl {P : ByteArray → Pn} {is : ByteArray → Bool} {stop : Bool} (n : Nat) (l : List ByteArray) (s : Wk) : s.seen.length ≤ (l.foldl (fun s x => meetF P is stop n x s) s).seen.length :=
 fold_inv (f := fun s x => meetF P is stop n x s) (Q := fun z => s.seen.length ≤ z.seen.length) (fun a b h => Nat.le_trans h (meetF_sl n b a)) _ _ (Nat.le_refl _)
theorem foldF_wait {P : ByteArray → Pn} {is : ByteArray → Bool} {stop : Bool} (n : Nat) (l : List ByteArray) (s : Wk) : (l.foldl (fun s x => meetF P is stop n x s) s).wait = s.wait :=
 fold_inv (f := fun s x => meetF P is stop n x s) (Q := fun z => z.wait = s.wait) (fun a b h => by rw [meetF_wait n b a, h]) _ _ rfl
theorem OI.pop {w0 w : World} {ty : TypeId} {g : Nat} {cs : List Cl} {T : Nat → Prop} (h : OI w0 ty g cs T w) {j : Nat} {L : List ByteArray} {x : ByteArray} (hj : cs[j]? = some (Cl.s (L ++ [x]))) : ∃ gA c, w.cell? ⟨g, j, none⟩ = some (.slice (some ⟨gA, 0, none⟩) (L.length + 1) c) ∧ L.length + 1 ≤ c ∧ OIP w0 ty g (cs.set j (Cl.s L)) T w (w.setCell ⟨g, j, none⟩ (.slice (some ⟨gA, 0, none⟩) L.length c)) := by
 obtain ⟨A, c, h1, h2, h3, _, _⟩ := h.cellS hj
 obtain ⟨h4, h5, gA, rfl⟩ := h2.init
 rw [List.length_append, List.length_singleton] at h1 h3
 refine ⟨gA, c, h1, h3, h.setR hj h1 h4 ⟨rfl, rfl, rfl, Nat.le_refl _, fun _ _ _ => rfl⟩ fun k hk => .inl hk⟩
theorem oip_next {w0 w w' w'' : World} {ty : TypeId} {g : Nat} {cs' : List Cl} {T T' : Nat → Prop} (k : Kp w w' T) (gr : ∀ q, T' q → T q ∨ w.heap.size ≤ q) (h : OIP w0 ty g cs' T' w' w'') : OIP w0 ty g cs' T w w'' := by
 obtain ⟨T2, f2, k2, gr2⟩ := h
 refine ⟨T2, f2, k.trans (k2.mono gr), fun q hq => ?_⟩
 rcases gr2 q hq with h | h
 · exact gr q h
 · exact .inr (Nat.le_trans k.size h)
theorem rmeet_any (w0 : World) (C : Rc) (P : ByteArray → Pn) (is : ByteArray → Bool) (Gd : Nat → ByteArray → Prop) (hG : RGH w0 C P is Gd) (stop : Bool) (gw : Nat) :
   ∀ (n : Nat) (t : ByteArray) (s : Wk) (T : Nat → Prop) (w : World), OI w0 wty gw (wcs C s) T w → WkOk s → 1000 < n + s.seen.length → Gd s.seen.length t →
   Calls Tryz.prog 45 #[.pointer (some ⟨gw, 0, none⟩), .string t, .bool stop] w fun e w' => e = .returned (.tuple #[]) ∧ OIP w0 wty gw (wcs C (meetF P is stop n t s)) T w w'
 | 0, t, s, T, w, h, hok, hn, hx => absurd hok.seen (by omega)
 | n + 1, t, s, T, w, h, hok, hn, hx => by
   have ih := hide (rmeet_any w0 C P is Gd hG stop gw n)
   have HH := hide h
   have HOK := hide hok
   have HX := hide hx
   have hE := h.cellV (j := 7) rfl
   obtain ⟨A4, c4, hS, hSo, hS4, hSr, hSa⟩ := h.cellS (j := 4) (L := s.seen) rfl
   obtain ⟨A6, c6, hW, hWo, hW6, hWr, hWa⟩ := h.cellS (j := 6) (L := s.wait) rfl
   have fr := h.free 7
   have hm0 : meetF P is stop (n + 1) t s = if s.e ≠ 0 then s else
     if Lib.containsS s.seen t = true then (if Lib.containsS s.wait t = true ∧ stop = true then { s with e := 18 } else s) else
     if 1000 ≤ s.seen.length ∨ (stop = true ∧ 200 ≤ s.wait.length) then (if stop = true then { s with e := 3 } else s) else
     if stop = true ∧ (P t).rule = false ∧ is t = false then { s with seen := s.seen ++ [t], e := 19 } else
     leave t ((P t).needs.foldl (fun s x => meetF P is stop n x s) (enterW t s)) := rfl
   have hsl := hok.seen
   have hcl := hok.cnt
   have HS4 := hide (rhas_any A4 c4 s.seen t w hSr (by omega))
   have HS6 := hide (rhas_any A6 c6 s.wait t w hWr (by omega))
   obtain ⟨R, hR⟩ : ∃ R, meetF P is stop (n + 1) t s = R := ⟨_, rfl⟩
   rw [hR] at hm0 ⊢
   have HR := hide hm0
   obtain ⟨q, hq⟩ : ∃ q, Lib.containsS s.seen t = q := ⟨_, rfl⟩
   obtain ⟨q2, hq2⟩ : ∃ q, Lib.containsS s.wait t = q := ⟨_, rfl⟩
   have HQ := hide hq
   rw [hq] at HS4 HR
   rw [hq2] at HS6 HR
   obtain ⟨sn, hsn⟩ : ∃ k, s.seen.length = k := ⟨_, rfl⟩
   obtain ⟨wn, hwn⟩ : ∃ k, s.wait.length = k := ⟨_, rfl⟩
   have HSN := hide hsn
   have HSN0 := hide hsn
   have HWN := hide hwn
   rw [hsn] at hS HS4 hsl hcl hn HR
   rw [hwn] at hW HS6 hcl HR
   have hsni : (sn : Int) ≤ 1000 := by omega
   have hwni : (wn : Int) ≤ 1000 := by omega
   clear h hok hx hm0 hR hq hq2 hsn hwn hSo hWo hSr hWr hSa hWa hS4 hW6
   by_cases c0 : s.e = 0
   case neg =>
     have HE := hide (HR.out.trans (if_pos c0))
     obtain ⟨t1, t2⟩ := ne0 c0
     clear c0
     go_enter Tryz.func45, Tryz.ntmps45
     go_wp2
     refine bodyPost_ret (results_none rfl _ _ _) rfl ?_
     rw [HE.out]
     exact ⟨rfl, HH.out.toP (Below.refl _ _)⟩
   have HR1 := hide (HR.out.trans (if_neg (by simp [c0])))
   have HC0 := hide c0
   rw [c0] at hE
   clear HR c0
   cases q with
   | true =>
     have hr2 := HR1.out.trans (if_pos rfl)
     by_cases hst : stop = true
     · rw [hst] at hr2 ⊢
       cases q2 with
       | true =>
         have HE := hide (hr2.trans (if_pos ⟨rfl, rfl⟩))
         have HP := hide (HH.out.setV (j := 7) rfl (.int .i64 18))
         clear hr2 hst
         go_enter Tryz.func45, Tryz.ntmps45
         go_wp2_with fail
         refine HS4.out.mono ?_
         rintro e w' ⟨rfl, rfl⟩
         go_wp2_with fail
         refine HS6.out.mono ?_
         rintro e w' ⟨rfl, rfl⟩
         go_wp2
         refine bodyPost_ret (results_none rfl _ _ _) rfl ?_
         rw [HE.out]
         exact ⟨rfl, HP.out⟩
       | false =>
         have HE := hide (hr2.trans (if_neg (by simp)))
         clear hr2 hst
         go_enter Tryz.func45, Tryz.ntmps45
         go_wp2_with fail
         refine HS4.out.mono ?_
         rintro e w' ⟨rfl, rfl⟩
         go_wp2_with fail
         refine HS6.out.mono ?_
         rintro e w' ⟨rfl, rfl⟩
         go_wp2
         refine bodyPost_ret (results_none rfl _ _ _) rfl ?_
         rw [HE.out]
         exact ⟨rfl, HH.out.toP (Below.refl _ _)⟩
     · have HE := hide (hr2.trans (if_neg (fun h => hst h.2)))
       have hst2 : stop = false := by simpa using hst
       rw [hst2]
       clear hr2 hst hst2
       cases q2 with
       | true =>
         go_enter Tryz.func45, Tryz.ntmps45
         go_wp2_with fail
         refine HS4.out.mono ?_
         rintro e w' ⟨rfl, rfl⟩
         go_wp2_with fail
         refine HS6.out.mono ?_
         rintro e w' ⟨rfl, rfl⟩
         go_wp2
         refine bodyPost_ret (results_none rfl _ _ _) rfl ?_
         rw [HE.out]
         exact ⟨rfl, HH.out.toP (Below.refl _ _)⟩
       | false =>
         go_enter Tryz.func45, Tryz.ntmps45
         go_wp2_with fail
         refine HS4.out.mono ?_
         rintro e w' ⟨rfl, rfl⟩
         go_wp2_with fail
         refine HS6.out.mono ?_
         rintro e w' ⟨rfl, rfl⟩
         go_wp2
         refine bodyPost_ret (results_none rfl _ _ _) rfl ?_
         rw [HE.out]
         exact ⟨rfl, HH.out.toP (Below.refl _ _)⟩
   | false =>
   have hr2 := HR1.out.trans (if_neg (by simp))
   have t4 : ∀ b, decide ((sn : Int) ≥ 1000) = b ↔ decide (1000 ≤ sn) = b := fun b => by
     have : decide ((sn : Int) ≥ 1000) = decide (1000 ≤ sn) := by rw [decide_eq_decide]; omega
     rw [this]
   by_cases c1 : 1000 ≤ sn
   · have u1 : decide ((sn : Int) ≥ 1000) = true := (t4 _).2 (by simpa using c1)
     have u1' : decide (1000 ≤ sn) = true := by simpa using c1
     have hr3 := hr2.trans (if_pos (Or.inl c1))
     by_cases hst : stop = true
     · have HE := hide (hr3.trans (if_pos hst))
       have HP := hide (HH.out.setV (j := 7) rfl (.int .i64 3))
       rw [hst]
       clear hr2 hr3 hst t4 c1
       go_enter Tryz.func45, Tryz.ntmps45
       go_wp2_with fail
       refine HS4.out.mono ?_
       rintro e w' ⟨rfl, rfl⟩
       go_wp2
       refine bodyPost_ret (results_none rfl _ _ _) rfl ?_
       rw [HE.out]
       exact ⟨rfl, HP.out⟩
     · have HE := hide (hr3.trans (if_neg hst))
       have hst2 : stop = false := by simpa using hst
       rw [hst2]
       clear hr2 hr3 hst hst2 t4 c1
       go_enter Tryz.func45, Tryz.ntmps45
       go_wp2_with fail
       refine HS4.out.mono ?_
       rintro e w' ⟨rfl, rfl⟩
       go_wp2
       refine bodyPost_ret (results_none rfl _ _ _) rfl ?_
       rw [HE.out]
       exact ⟨rfl, HH.out.toP (Below.refl _ _)⟩
   have u1 : decide ((sn : Int) ≥ 1000) = false := (t4 _).2 (by simpa using c1)
   have u1' : decide (1000 ≤ sn) = false := by simpa using c1
   by_cases c2 : stop = true ∧ 200 ≤ wn
   · have u2 : decide ((wn : Int) ≥ 200) = true := by have := c2.2; simp; omega
     have u2' : decide (200 ≤ wn) = true := by simpa using c2.2
     have HE := hide ((hr2.trans (if_pos (Or.inr c2))).trans (if_pos c2.1))
     have HP := hide (HH.out.setV (j := 7) rfl (.int .i64 3))
     rw [c2.1]
     clear hr2 t4 c1 c2
     go_enter Tryz.func45, Tryz.ntmps45
     go_wp2_with fail
     refine HS4.out.mono ?_
     rintro e w' ⟨rfl, rfl⟩
     go_wp2
     refine bodyPost_ret (results_none rfl _ _ _) rfl ?_
     rw [HE.out]
     exact ⟨rfl, HP.out⟩
   have HR3 := hide (hr2.trans (if_neg (by rintro (h | h); exact c1 h; exact c2 h)))
   have hw2 : stop = true → decide ((wn : Int) ≥ 200) = false ∧ decide (200 ≤ wn) = false := fun h => by
     have : ¬ 200 ≤ wn := fun q => c2 ⟨h, q⟩
     exact ⟨by simp; omega, by simpa using this⟩
   obtain ⟨A5, c5, w5, r5, hc5, hf5, hP5⟩ := HH.out.app (j := 4) (L := s.seen) rfl hS t (by have := HSN.out; omega)
   have HP5 := hide (show OIP w0 wty gw (wcs C { s with seen := s.seen ++ [t] }) T w (w5.setCell ⟨gw, 4, none⟩ (.slice A5 (sn + 1) c5)) from hP5)
   have hsn1 : sn < 1000 := by omega
   clear hP5 hr2 c1 c2 t4
   go_enter Tryz.func45, Tryz.ntmps45
   go_wp2_with fail
   refine HS4.out.mono ?_
   rintro e w' ⟨rfl, rfl⟩
   go_upto_region 4 with (fail)
   go_cut [47] from 31 to 47 (fun v47 w' => v47 = .bool false ∧ w' = w)
   case first =>
     by_cases hst : stop = true
     · obtain ⟨q1, q2⟩ := hw2 hst
       subst hst
       go_wp2_with fail
       go_meet
       exact ⟨rfl, rfl⟩
     · have hst2 : stop = false := by simpa using hst
       subst hst2
       go_wp2_with fail
       go_meet
       exact ⟨rfl, rfl⟩
   case rest =>
   obtain ⟨rfl, hwc⟩ := hcut
   obtain rfl : w = wc := hwc.symm
   go_wp2_with (at_builtin; refine wpList_app_run ?_ (.tmp 56) (.tmp 58) ?_ ?_ ?_ ?_ r5 ?_; exact rfl; exact rfl; exact rfl; exact rfl; exact rfl)
   obtain ⟨w6, hw6⟩ : ∃ Z, w5.setCell ⟨gw, 4, none⟩ (.slice A5 (sn + 1) c5) = Z := ⟨_, rfl⟩
   rw [hw6] at HP5
   simp only [hw6]
   obtain ⟨T6, hI6, hK6, hT6⟩ := HP5.out
   have HI6 := hide hI6
   have HQ := hide (fun (Z : World) (hb : Below w6.heap.size w6 Z) => show (fun Z => Z.cell? ⟨gw, 0, none⟩ = some C.mac ∧ Z.cell? ⟨gw, 1, none⟩ = some (.slice C.A C.ml C.c) ∧ Z.cell? ⟨gw, 2, none⟩ = some (.pointer (some ⟨C.g, 0, none⟩)) ∧ Z.cell? ⟨gw, 3, none⟩ = some (.string C.cwd)) Z from ⟨(hI6.step hb).cellV (j := 0) rfl, (hI6.step hb).cellV (j := 1) rfl, (hI6.step hb).cellV (j := 2) rfl, (hI6.step hb).cellV (j := 3) rfl⟩)
   obtain ⟨Q, hPQ⟩ : ∃ q, P t = q := ⟨_, rfl⟩
   have HPQ := hide hPQ
   have hHX := HX.out
   rw [HSN.out] at hHX
   have HPX := hide (fun (Z : World) (hb : Below w6.heap.size w6 Z) => hPQ ▸ hG.plan sn Z t (by omega) hHX (below_up hI6.below hb hI6.below.size))
   have hnl := hG.len sn t (by omega) hHX
   have hnx := hG.next sn t hsn1 hHX
   rw [hPQ] at hnl hnx HR3
   have HNX := hide hnx
   have HSL := hide HSN.out
   have HK6 := hide hK6
   have HT6 := hide hT6
   clear hI6 hK6 hT6 hw6 hHX hnx hPQ hc5 hf5 r5 HS4 HS6 HR1
   go_cut [6] from 62 to 75 (fun v6 w' => ∃ (gp : Nat) (An : Option Addr) (cn : Nat) (rA : Option Addr) (rc : Nat), v6 = .pointer (some ⟨gp, 0, none⟩) ∧ w'.heap[gp]? = some (.cells #[.slice An Q.needs.length cn, .slice rA Q.recipe.length rc, .string (bs Q.stem), .bool Q.rule] 49) ∧ SR w' An Q.needs ∧ Below w6.heap.size w6 w' ∧ w6.heap.size ≤ gp ∧ ∀ a, An = some a → Q.needs ≠ [] → w6.heap.size ≤ a.block)
   case first =>
     refine wp_region_held_drew (S := (fun Z => Z.cell? ⟨gw, 0, none⟩ = some C.mac ∧ Z.cell? ⟨gw, 1, none⟩ = some (.slice C.A C.ml C.c) ∧ Z.cell? ⟨gw, 2, none⟩ = some (.pointer (some ⟨C.g, 0, none⟩)) ∧ Z.cell? ⟨gw, 3, none⟩ = some (.string C.cwd))) (by kernel_rfl) (HQ.out _ (Below.refl _ _).drew) (fun hHeld => ?_)
     refine tq (i := 0) (v := ?v0) rfl rfl (by kernel_rfl) (fun _ _ _ h => h) ?y0 (by assumption) ?r0
     case y0 => intro w h; (try dsimp only at h); go_simp; try with_reducible rfl
     try simp only [sA, sB, sC]
     refine tq (i := 1) (v := ?v1) rfl rfl (by kernel_rfl) (fun _ _ _ h => h) ?y1 (by assumption) ?r1
     case y1 => intro w h; (try dsimp only at h); go_simp; try with_reducible rfl
     try simp only [sA, sB, sC]
     refine tq (i := 2) (v := ?v2) rfl rfl (by kernel_rfl) (fun _ _ _ h => h) ?y2 (by assumption) ?r2
     case y2 => intro w h; (try dsimp only at h); go_simp; try with_reducible rfl
     try simp only [sA, sB, sC]
     refine tq (i := 3) (v := ?v3) rfl rfl (by kernel_rfl) (fun _ _ _ h => h) ?y3 (by assumption) ?r3
     case y3 => intro w h; (try dsimp only at h); go_simp; try with_reducible rfl
     try simp only [sA, sB, sC]
     refine tq (i := 4) (v := ?v4) rfl rfl (by kernel_rfl) (fun _ _ _ h => h) ?y4 (by assumption) ?r4
     case y4 => intro w h; (try dsimp only at h); go_simp; try with_reducible rfl
     try simp only [sA, sB, sC]
     refine tq (i := 5) (v := ?v5) rfl rfl (by kernel_rfl) (fun _ _ _ h => h) ?y5 (by assumption) ?r5
     case y5 => intro w h; (try dsimp only at h); go_simp; try with_reducible rfl
     try simp only [sA, sB, sC]
     refine tq (i := 6) (v := ?v6) rfl rfl (by kernel_rfl) (fun _ _ _ h => h) ?y6 (by assumption) ?r6
     case y6 => intro w h; (try dsimp only at h); go_simp; try with_reducible rfl
     try simp only [sA, sB, sC]
     refine tq (i := 7) (v := ?v7) rfl rfl (by kernel_rfl) (fun _ _ _ h => h) ?y7 (by assumption) ?r7
     case y7 => intro w h; (try dsimp only at h); go_simp; try with_reducible rfl
     try simp only [sA, sB, sC]
     refine tq (i := 8) (v := ?v8) rfl rfl (by kernel_rfl) (fun _ _ _ h => h) ?y8 (by assumption) ?r8
     case y8 => intro w h; (try dsimp only at h); go_simp; try with_reducible rfl
     try simp only [sA, sB, sC]
     refine tq (i := 9) (v := ?v9) rfl rfl (by kernel_rfl) (fun _ _ _ h => h) ?y9 (by assumption) ?r9
     case y9 => intro w h; (try dsimp only at h); go_simp; try with_reducible rfl
     try simp only [sA, sB, sC]
     refine tq (i := 10) (v := ?v10) rfl rfl (by kernel_rfl) (fun _ _ _ h => h) ?y10 (by assumption) ?r10
     case y10 => intro w h; (try dsimp only at h); go_simp; try with_reducible rfl
     try simp only [sA, sB, sC]
     refine tq (i := 11) (v := ?v11) rfl rfl (by kernel_rfl) (fun _ _ _ h => h) ?y11 (by assumption) ?r11
     case y11 => intro w h; (try dsimp only at h); go_simp; try with_reducible rfl
     try simp only [sA, sB, sC]
     refine tq (i := 12) (v := ?v12) rfl rfl (by kernel_rfl) (fun _ _ _ h => h) ?y12 (by assumption) ?r12
     case y12 => intro w h; (try dsimp only at h); go_simp; try with_reducible rfl
     try simp only [sA, sB, sC]
     refine wpAnyH_ready (rs := [13, 14]) (by kernel_rfl) (by simp) ?_
     refine AllReadyH.cons (o := _) rfl (fun K hK => ?way1) (AllReadyH.cons (o := _) rfl (fun K hK => ?way2) AllReadyH.nil)
     case way1 =>
       rw [if_pos (by kernel_rfl)]
       go_simp
       refine (HPX.out _ ((Below.refl w6.heap.size w6).drew)).mono ?_
       rintro e w2 ⟨An, cn, rA, rc, rfl, hsn, _, hfr, hb2⟩
       have HSN := hide hsn
       have HFR := hide hfr
       have HBP := hide ((Below.refl w6.heap.size w6).drew.trans hb2)
       clear hsn hb2 hfr
       refine hK.out _ _ (HQ.out _ HBP.out) (fun _ => ?_)
       clear hK K
       try simp only [Act.put, sA, sB, sC]
       refine rq (k := 14) rfl (by kernel_rfl) (by kernel_rfl) (fun K hK => ?_)
       go_simp
       refine hK.out _ _ (HQ.out _ (HBP.out.alloc HBP.out.size _)) (fun _ => ?_)
       clear hK K
       try simp only [Act.put, sA, sB, sC]
       refine rq (k := 15) rfl (by kernel_rfl) (by kernel_rfl) (fun K hK => ?_)
       go_simp
       refine hK.out _ _ (HQ.out _ (HBP.out.alloc HBP.out.size _)) (fun _ => ?_)
       clear hK K
       try simp only [Act.put, sA, sB, sC]
       refine wpAnyH_done (by kernel_rfl) ?_ _
       go_wp2
       go_meet
       refine ⟨w2.heap.size, An, cn, rA, rc, rfl, heapNew _ _, HSN.out.below ((Below.refl _ _).alloc (Nat.le_refl _) _), HBP.out.alloc HBP.out.size _, HBP.out.size, fun a e h => Nat.le_trans (Below.refl w6.heap.size w6).drew.size (HFR.out a e h)⟩
     case way2 =>
       have HBZ := hide ((Below.refl w6.heap.size w6).drew.alloc (Nat.le_refl _) (.cells #[.slice none 0 0, .slice none 0 0, .string ⟨#[]⟩, .bool false] 49))
       have HNZ := hide (heapNew w6.drew (.cells #[.slice none 0 0, .slice none 0 0, .string ⟨#[]⟩, .bool false] 49))
       rw [if_pos (by kernel_rfl)]
       go_simp
       refine hK.out _ _ (HQ.out _ HBZ.out) (fun _ => ?_)
       clear hK K
       try simp only [Act.put, sA, sB, sC]
       refine rq (k := 13) rfl (by kernel_rfl) (by kernel_rfl) (fun K hK => ?_)
       go_simp
       refine (HPX.out _ HBZ.out).mono ?_
       rintro e w2 ⟨An, cn, rA, rc, rfl, hsn, _, hfr, hb2⟩
       have HSN := hide hsn
       have HFR := hide hfr
       have hz2 := (hb2.block w6.heap.size (by simp)).trans HNZ.out
       have HBP := hide (HBZ.out.trans (hb2.mono (by simp)))
       obtain ⟨⟨q1, q2, q3, q4, q5, q6, q7, q8⟩, hgf, hkp⟩ := store4 hz2 (.slice An Q.needs.length cn) (.slice rA Q.recipe.length rc) (.string (bs Q.stem)) (.bool Q.rule)
       have HGF := hide hgf
       have HKP := hide hkp
       have HQ3 := hide (HQ.out _ (hkp.below HBP.out (Nat.le_refl _) (fun k e => by omega)))
       clear hsn hb2 hfr hgf hkp hz2
       refine hK.out _ _ (HQ.out _ HBP.out) (fun _ => ?_)
       clear hK K
       try simp only [Act.put, sA, sB, sC]
       refine rq (k := 15) rfl (by kernel_rfl) (by kernel_rfl) (fun K hK => ?_)
       go_simp
       refine hK.out _ _ HQ3.out (fun _ => ?_)
       clear hK K
       try simp only [Act.put, sA, sB, sC]
       refine wpAnyH_done (by kernel_rfl) ?_ _
       go_wp2
       go_meet
       refine ⟨w6.heap.size, An, cn, rA, rc, rfl, HGF.out, HKP.out.sr HSN.out (fun a e h => ?_), HKP.out.below HBP.out (Nat.le_refl _) (fun k e => by omega), Nat.le_refl _, fun a e h => Nat.le_trans HBZ.out.size (HFR.out a e h)⟩
       have := HFR.out a e h
       simp at this
       omega
   case rest =>
   obtain ⟨w7, hw7⟩ : ∃ Z, Z = wc := ⟨_, rfl⟩
   subst hw7
   obtain ⟨gp, An, cn, rA, rc, rfl, hgp, hsn, hb7, hgp6, hAn⟩ := hcut
   have HI7 := hide (HI6.out.step hb7)
   have HK7 := hide (HK6.out.trans (Kp.of_below hb7 (fun k => T k ∨ w.heap.size ≤ k)))
   have HTA := hide (show ¬ T6 gp ∧ ∀ a, An = some a → Q.needs ≠ [] → ¬ T6 a.block from ⟨fun h => by have := (HI6.out.tw _ h).2; omega, fun a e h q => by have := (HI6.out.tw _ q).2; have := hAn a e h; omega⟩)
   have HP7 := hide (HP5.out.step hb7)
   have HGP := hide hgp
   have HSN := hide hsn
   have hb70 := HI7.out.below
   obtain ⟨b9, hb9⟩ : ∃ b, (stop && (!Q.rule && !is t)) = b := ⟨_, rfl⟩
   have HB9 := hide hb9
   have HKD := hide (fun (Z : World) (hb : Below w7.heap.size w7 Z) => hG.kind sn Z t (by omega) (HSL.out ▸ HX.out) (below_up hb70 hb hb70.size))
   have HQ9 := hide (fun (Z : World) (hb : Below w7.heap.size w7 Z) => show (fun Z => Z.cell? ⟨gp, 3, none⟩ = some (.bool Q.rule) ∧ Z.cell? ⟨gw, 2, none⟩ = some (.pointer (some ⟨C.g, 0, none⟩)) ∧ Z.cell? ⟨gw, 3, none⟩ = some (.string C.cwd)) Z from ⟨cellOf ((hb.block gp (Array.getElem?_eq_some_iff.1 HGP.out).1).trans HGP.out) (j := 3) rfl, (HI7.out.step hb).cellV (j := 2) rfl, (HI7.out.step hb).cellV (j := 3) rfl⟩)
   have HNL := hide hnl
   have HIH := hide ih.out
   clear hgp hsn hb7 hgp6 hAn HQ HPX HI6 HP5 hnl hb9 hb70
   go_upto_region 9 with (fail)
   go_cut [94] from 76 to 94 (fun v94 w' => v94 = .bool b9 ∧ Below w7.heap.size w7 w')
   case first =>
     by_cases hst : stop = true
     · subst hst
       obtain ⟨ru, hru⟩ : ∃ r, Q.rule = r := ⟨_, rfl⟩
       rw [hru] at HQ9 HB9
       clear HR3 HGP HI7 HSN HP7 HNX HIH ih
       cases ru with
       | true =>
         refine wp_region_held_drew (S := (fun Z => Z.cell? ⟨gp, 3, none⟩ = some (.bool true) ∧ Z.cell? ⟨gw, 2, none⟩ = some (.pointer (some ⟨C.g, 0, none⟩)) ∧ Z.cell? ⟨gw, 3, none⟩ = some (.string C.cwd))) (by kernel_rfl) (HQ9.out _ (Below.refl _ _).drew) (fun hHeld => ?_)
         refine tq (i := 0) (v := ?vQ0) rfl rfl (by kernel_rfl) (fun _ _ _ h => h) ?yQ0 (by assumption) ?rQ0
         case yQ0 => intro w h; (try dsimp only at h); go_simp; try with_reducible rfl
         try simp only [sA, sB, sC]
         refine tq (i := 1) (v := ?vQ1) rfl rfl (by kernel_rfl) (fun _ _ _ h => h) ?yQ1 (by assumption) ?rQ1
         case yQ1 => intro w h; (try dsimp only at h); go_simp; try with_reducible rfl
         try simp only [sA, sB, sC]
         refine tq (i := 2) (v := ?vQ2) rfl rfl (by kernel_rfl) (fun _ _ _ h => h) ?yQ2 (by assumption) ?rQ2
         case yQ2 => intro w h; (try dsimp only at h); go_simp; try with_reducible rfl
         try simp only [sA, sB, sC]
         refine tq (i := 3) (v := ?vQ3) rfl rfl (by kernel_rfl) (fun _ _ _ h => h) ?yQ3 (by assumption) ?rQ3
         case yQ3 => intro w h; (try dsimp only at h); go_simp; try with_reducible rfl
         try simp only [sA, sB, sC]
         refine tq (i := 4) (v := ?vQ4) rfl rfl (by kernel_rfl) (fun _ _ _ h => h) ?yQ4 (by assumption) ?rQ4
         case yQ4 => intro w h; (try dsimp only at h); go_simp; try with_reducible rfl
         try simp only [sA, sB, sC]
         refine tq (i := 5) (v := ?vQ5) rfl rfl (by kernel_rfl) (fun _ _ _ h => h) ?yQ5 (by assumption) ?rQ5
         case yQ5 => intro w h; (try dsimp only at h); go_simp; try with_reducible rfl
         try simp only [sA, sB, sC]
         refine tq (i := 6) (v := ?vQ6) rfl rfl (by kernel_rfl) (fun _ _ _ h => h) ?yQ6 (by assumption) ?rQ6
         case yQ6 => intro w h; (try dsimp only at h); go_simp; try with_reducible rfl
         try simp only [sA, sB, sC]
         refine wpAnyH_off (i := 7) (oi := _) rfl rfl (by kernel_rfl) (by kernel_rfl) (by kernel_rfl) (fun _ _ _ h => h) (by kernel_rfl) (by assumption) ?_
         try simp only [sA, sB, sC]
         refine wpAnyH_off (i := 8) (oi := _) rfl rfl (by kernel_rfl) (by kernel_rfl) (by kernel_rfl) (fun _ _ _ h => h) (by kernel_rfl) (by assumption) ?_
         try simp only [sA, sB, sC]
         refine wpAnyH_off (i := 9) (oi := _) rfl rfl (by kernel_rfl) (by kernel_rfl) (by kernel_rfl) (fun _ _ _ h => h) (by kernel_rfl) (by assumption) ?_
         try simp only [sA, sB, sC]
         refine wpAnyH_off (i := 10) (oi := _) rfl rfl (by kernel_rfl) (by kernel_rfl) (by kernel_rfl) (fun _ _ _ h => h) (by kernel_rfl) (by assumption) ?_
         try simp only [sA, sB, sC]
         refine wpAnyH_off (i := 11) (oi := _) rfl rfl (by kernel_rfl) (by kernel_rfl) (by kernel_rfl) (fun _ _ _ h => h) (by kernel_rfl) (by assumption) ?_
         try simp only [sA, sB, sC]
         refine wpAnyH_off (i := 12) (oi := _) rfl rfl (by kernel_rfl) (by kernel_rfl) (by kernel_rfl) (fun _ _ _ h => h) (by kernel_rfl) (by assumption) ?_
         try simp only [sA, sB, sC]
         refine wpAnyH_off (i := 13) (oi := _) rfl rfl (by kernel_rfl) (by kernel_rfl) (by kernel_rfl) (fun _ _ _ h => h) (by kernel_rfl) (by assumption) ?_
         try simp only [sA, sB, sC]
         refine wpAnyH_off (i := 14) (oi := _) rfl rfl (by kernel_rfl) (by kernel_rfl) (by kernel_rfl) (fun _ _ _ h => h) (by kernel_rfl) (by assumption) ?_
         try simp only [sA, sB, sC]
         refine wpAnyH_off (i := 15) (oi := _) rfl rfl (by kernel_rfl) (by kernel_rfl) (by kernel_rfl) (fun _ _ _ h => h) (by kernel_rfl) (by assumption) ?_
         try simp only [sA, sB, sC]
         refine wpAnyH_off (i := 16) (oi := _) rfl rfl (by kernel_rfl) (by kernel_rfl) (by kernel_rfl) (fun _ _ _ h => h) (by kernel_rfl) (by assumption) ?_
         try simp only [sA, sB, sC]
         refine wpAnyH_off (i := 17) (oi := _) rfl rfl (by kernel_rfl) (by kernel_rfl) (by kernel_rfl) (fun _ _ _ h => h) (by kernel_rfl) (by assumption) ?_
         try simp only [sA, sB, sC]
         refine tq (i := 18) (v := ?vQ18) rfl rfl (by kernel_rfl) (fun _ _ _ h => h) ?yQ18 (by assumption) ?rQ18
         case yQ18 => intro w h; (try dsimp only at h); go_simp; try with_reducible rfl
         try simp only [sA, sB, sC]
         refine wpAnyH_done (by kernel_rfl) ?_ _
         go_wp2
         go_meet
         exact ⟨by rw [← HB9.out]; rfl, (Below.refl _ _).drew⟩
       | false =>
         refine wp_region_held_drew (S := (fun Z => Z.cell? ⟨gp, 3, none⟩ = some (.bool false) ∧ Z.cell? ⟨gw, 2, none⟩ = some (.pointer (some ⟨C.g, 0, none⟩)) ∧ Z.cell? ⟨gw, 3, none⟩ = some (.string C.cwd))) (by kernel_rfl) (HQ9.out _ (Below.refl _ _).drew) (fun hHeld => ?_)
         refine tq (i := 0) (v := ?vR0) rfl rfl (by kernel_rfl) (fun _ _ _ h => h) ?yR0 (by assumption) ?rR0
         case yR0 => intro w h; (try dsimp only at h); go_simp; try with_reducible rfl
         try simp only [sA, sB, sC]
         refine tq (i := 1) (v := ?vR1) rfl rfl (by kernel_rfl) (fun _ _ _ h => h) ?yR1 (by assumption) ?rR1
         case yR1 => intro w h; (try dsimp only at h); go_simp; try with_reducible rfl
         try simp only [sA, sB, sC]
         refine tq (i := 2) (v := ?vR2) rfl rfl (by kernel_rfl) (fun _ _ _ h => h) ?yR2 (by assumption) ?rR2
         case yR2 => intro w h; (try dsimp only at h); go_simp; try with_reducible rfl
         try simp only [sA, sB, sC]
         refine tq (i := 3) (v := ?vR3) rfl rfl (by kernel_rfl) (fun _ _ _ h => h) ?yR3 (by assumption) ?rR3
         case yR3 => intro w h; (try dsimp only at h); go_simp; try with_reducible rfl
         try simp only [sA, sB, sC]
         refine tq (i := 4) (v := ?vR4) rfl rfl (by kernel_rfl) (fun _ _ _ h => h) ?yR4 (by assumption) ?rR4
         case yR4 => intro w h; (try dsimp only at h); go_simp; try with_reducible rfl
         try simp only [sA, sB, sC]
         refine tq (i := 5) (v := ?vR5) rfl rfl (by kernel_rfl) (fun _ _ _ h => h) ?yR5 (by assumption) ?rR5
         case yR5 => intro w h; (try dsimp only at h); go_simp; try with_reducible rfl
         try simp only [sA, sB, sC]
         refine tq (i := 6) (v := ?vR6) rfl rfl (by kernel_rfl) (fun _ _ _ h => h) ?yR6 (by assumption) ?rR6
         case yR6 => intro w h; (try dsimp only at h); go_simp; try with_reducible rfl
         try simp only [sA, sB, sC]
         refine tq (i := 7) (v := ?vR7) rfl rfl (by kernel_rfl) (fun _ _ _ h => h) ?yR7 (by assumption) ?rR7
         case yR7 => intro w h; (try dsimp only at h); go_simp; try with_reducible rfl
         try simp only [sA, sB, sC]
         refine tq (i := 8) (v := ?vR8) rfl rfl (by kernel_rfl) (fun _ _ _ h => h) ?yR8 (by assumption) ?rR8
         case yR8 => intro w h; (try dsimp only at h); go_simp; try with_reducible rfl
         try simp only [sA, sB, sC]
         refine tq (i := 9) (v := ?vR9) rfl rfl (by kernel_rfl) (fun _ _ _ h => h) ?yR9 (by assumption) ?rR9
         case yR9 => intro w h; (try dsimp only at h); go_simp; try with_reducible rfl
         try simp only [sA, sB, sC]
         refine tq (i := 10) (v := ?vR10) rfl rfl (by kernel_rfl) (fun _ _ _ h => h) ?yR10 (by assumption) ?rR10
         case yR10 => intro w h; (try dsimp only at h); go_simp; try with_reducible rfl
         try simp only [sA, sB, sC]
         refine tq (i := 11) (v := ?vR11) rfl rfl (by kernel_rfl) (fun _ _ _ h => h) ?yR11 (by assumption) ?rR11
         case yR11 => intro w h; (try dsimp only at h); go_simp; try with_reducible rfl
         try simp only [sA, sB, sC]
         refine tq (i := 12) (v := ?vR12) rfl rfl (by kernel_rfl) (fun _ _ _ h => h) ?yR12 (by assumption) ?rR12
         case yR12 => intro w h; (try dsimp only at h); go_simp; try with_reducible rfl
         try simp only [sA, sB, sC]
         refine tq (i := 13) (v := ?vR13) rfl rfl (by kernel_rfl) (fun _ _ _ h => h) ?yR13 (by assumption) ?rR13
         case yR13 => intro w h; (try dsimp only at h); go_simp; try with_reducible rfl
         try simp only [sA, sB, sC]
         refine tq (i := 14) (v := ?vR14) rfl rfl (by kernel_rfl) (fun _ _ _ h => h) ?yR14 (by assumption) ?rR14
         case yR14 => intro w h; (try dsimp only at h); go_simp; try with_reducible rfl
         try simp only [sA, sB, sC]
         refine tq (i := 15) (v := ?vR15) rfl rfl (by kernel_rfl) (fun _ _ _ h => h) ?yR15 (by assumption) ?rR15
         case yR15 => intro w h; (try dsimp only at h); go_simp; try with_reducible rfl
         try simp only [sA, sB, sC]
         refine rq (k := 16) rfl (by kernel_rfl) (by kernel_rfl) (fun K hK => ?_)
         go_simp
         refine (HKD.out _ (Below.refl _ _).drew).mono ?_
         rintro e w2 ⟨⟨kk, rfl, hke⟩, hbk⟩
         have HKE := hide hke
         have HBK := hide ((Below.refl w7.heap.size w7).drew.trans hbk)
         clear hke hbk
         refine hK.out _ _ (HQ9.out _ HBK.out) (fun _ => ?_)
         clear hK K
         try simp only [Act.put, sA, sB, sC]
         refine tq (i := 17) (v := ?vR17) rfl rfl (by kernel_rfl) (fun _ _ _ h => h) ?yR17 (by assumption) ?rR17
         case yR17 => intro w h; (try dsimp only at h); go_simp; try with_reducible rfl
         try simp only [sA, sB, sC]
         refine tq (i := 18) (v := ?vR18) rfl rfl (by kernel_rfl) (fun _ _ _ h => h) ?yR18 (by assumption) ?rR18
         case yR18 => intro w h; (try dsimp only at h); go_simp; try with_reducible rfl
         try simp only [sA, sB, sC]
         refine wpAnyH_done (by kernel_rfl) ?_ _
         go_wp2
         go_meet
         refine ⟨?_, HBK.out⟩
         rw [← HB9.out, HKE.out]
         by_cases hk : kk = 0 <;> simp [hk]
     · have hst2 : stop = false := by simpa using hst
       subst hst2
       clear HR3 HGP HI7 HSN HP7 HNX HIH ih
       refine wp_region_held_drew (S := (fun Z => Z.cell? ⟨gp, 3, none⟩ = some (.bool Q.rule) ∧ Z.cell? ⟨gw, 2, none⟩ = some (.pointer (some ⟨C.g, 0, none⟩)) ∧ Z.cell? ⟨gw, 3, none⟩ = some (.string C.cwd))) (by kernel_rfl) (HQ9.out _ (Below.refl _ _).drew) (fun hHeld => ?_)
       refine tq (i := 0) (v := ?vP0) rfl rfl (by kernel_rfl) (fun _ _ _ h => h) ?yP0 (by assumption) ?rP0
       case yP0 => intro w h; (try dsimp only at h); go_simp; try with_reducible rfl
       try simp only [sA, sB, sC]
       refine tq (i := 1) (v := ?vP1) rfl rfl (by kernel_rfl) (fun _ _ _ h => h) ?yP1 (by assumption) ?rP1
       case yP1 => intro w h; (try dsimp only at h); go_simp; try with_reducible rfl
       try simp only [sA, sB, sC]
       refine wpAnyH_off (i := 2) (oi := _) rfl rfl (by kernel_rfl) (by kernel_rfl) (by kernel_rfl) (fun _ _ _ h => h) (by kernel_rfl) (by assumption) ?_
       try simp only [sA, sB, sC]
       refine wpAnyH_off (i := 3) (oi := _) rfl rfl (by kernel_rfl) (by kernel_rfl) (by kernel_rfl) (fun _ _ _ h => h) (by kernel_rfl) (by assumption) ?_
       try simp only [sA, sB, sC]
       refine wpAnyH_off (i := 4) (oi := _) rfl rfl (by kernel_rfl) (by kernel_rfl) (by kernel_rfl) (fun _ _ _ h => h) (by kernel_rfl) (by assumption) ?_
       try simp only [sA, sB, sC]
       refine tq (i := 5) (v := ?vP5) rfl rfl (by kernel_rfl) (fun _ _ _ h => h) ?yP5 (by assumption) ?rP5
       case yP5 => intro w h; (try dsimp only at h); go_simp; try with_reducible rfl
       try simp only [sA, sB, sC]
       refine tq (i := 6) (v := ?vP6) rfl rfl (by kernel_rfl) (fun _ _ _ h => h) ?yP6 (by assumption) ?rP6
       case yP6 => intro w h; (try dsimp only at h); go_simp; try with_reducible rfl
       try simp only [sA, sB, sC]
       refine wpAnyH_off (i := 7) (oi := _) rfl rfl (by kernel_rfl) (by kernel_rfl) (by kernel_rfl) (fun _ _ _ h => h) (by kernel_rfl) (by assumption) ?_
       try simp only [sA, sB, sC]
       refine wpAnyH_off (i := 8) (oi := _) rfl rfl (by kernel_rfl) (by kernel_rfl) (by kernel_rfl) (fun _ _ _ h => h) (by kernel_rfl) (by assumption) ?_
       try simp only [sA, sB, sC]
       refine wpAnyH_off (i := 9) (oi := _) rfl rfl (by kernel_rfl) (by kernel_rfl) (by kernel_rfl) (fun _ _ _ h => h) (by kernel_rfl) (by assumption) ?_
       try simp only [sA, sB, sC]
       refine wpAnyH_off (i := 10) (oi := _) rfl rfl (by kernel_rfl) (by kernel_rfl) (by kernel_rfl) (fun _ _ _ h => h) (by kernel_rfl) (by assumption) ?_
       try simp only [sA, sB, sC]
       refine wpAnyH_off (i := 11) (oi := _) rfl rfl (by kernel_rfl) (by kernel_rfl) (by kernel_rfl) (fun _ _ _ h => h) (by kernel_rfl) (by assumption) ?_
       try simp only [sA, sB, sC]
       refine wpAnyH_off (i := 12) (oi := _) rfl rfl (by kernel_rfl) (by kernel_rfl) (by kernel_rfl) (fun _ _ _ h => h) (by kernel_rfl) (by assumption) ?_
       try simp only [sA, sB, sC]
       refine wpAnyH_off (i := 13) (oi := _) rfl rfl (by kernel_rfl) (by kernel_rfl) (by kernel_rfl) (fun _ _ _ h => h) (by kernel_rfl) (by assumption) ?_
       try simp only [sA, sB, sC]
       refine wpAnyH_off (i := 14) (oi := _) rfl rfl (by kernel_rfl) (by kernel_rfl) (by kernel_rfl) (fun _ _ _ h => h) (by kernel_rfl) (by assumption) ?_
       try simp only [sA, sB, sC]
       refine wpAnyH_off (i := 15) (oi := _) rfl rfl (by kernel_rfl) (by kernel_rfl) (by kernel_rfl) (fun _ _ _ h => h) (by kernel_rfl) (by assumption) ?_
       try simp only [sA, sB, sC]
       refine wpAnyH_off (i := 16) (oi := _) rfl rfl (by kernel_rfl) (by kernel_rfl) (by kernel_rfl) (fun _ _ _ h => h) (by kernel_rfl) (by assumption) ?_
       try simp only [sA, sB, sC]
       refine wpAnyH_off (i := 17) (oi := _) rfl rfl (by kernel_rfl) (by kernel_rfl) (by kernel_rfl) (fun _ _ _ h => h) (by kernel_rfl) (by assumption) ?_
       try simp only [sA, sB, sC]
       refine tq (i := 18) (v := ?vP18) rfl rfl (by kernel_rfl) (fun _ _ _ h => h) ?yP18 (by assumption) ?rP18
       case yP18 => intro w h; (try dsimp only at h); go_simp; try with_reducible rfl
       try simp only [sA, sB, sC]
       refine wpAnyH_done (by kernel_rfl) ?_ _
       go_wp2
       go_meet
       exact ⟨by rw [← HB9.out]; rfl, (Below.refl _ _).drew⟩
   case rest =>
   obtain ⟨w8, hw8⟩ : ∃ Z, Z = wc := ⟨_, rfl⟩
   subst hw8
   obtain ⟨rfl, hb8⟩ := hcut
   have HI8 := hide (HI7.out.step hb8)
   have HB8 := hide hb8
   by_cases hst : b9 = true
   · have HE := hide (HR3.out.trans (if_pos (by
       rw [hst] at HB9
       have := HB9.out
       simp only [Bool.and_eq_true, Bool.not_eq_true'] at this
       exact this)))
     have HP9 := hide ((HP7.out.step hb8).trans fun T' f => f.setV (j := 7) rfl (.int .i64 19))
     have f8 := HI8.out.free 7
     have c8 := HI8.out.cellV (j := 7) rfl
     subst hst
     clear HR3 HNX hb8
     go_wp2
     refine bodyPost_ret (results_none rfl _ _ _) rfl ?_
     rw [HE.out]
     exact ⟨rfl, HP9.out⟩
   have HE := hide (HR3.out.trans (if_neg (by
       have h9 : b9 = false := by simpa using hst
       rw [h9] at HB9
       rintro ⟨q1, q2, q3⟩
       have := HB9.out
       simp [q1, q2, q3] at this)))
   have hst2 : b9 = false := by simpa using hst
   subst hst2
   obtain ⟨A8, c8, hW8, _, _, _, _⟩ := HI8.out.cellS (j := 6) (L := s.wait) rfl
   rw [HWN.out] at hW8
   obtain ⟨A9, c9, w9, r9, hc9, hf9, hP9⟩ := HI8.out.app (j := 6) (L := s.wait) rfl hW8 t (by have := HWN.out; omega)
   have HP9 := hide (show OIP w0 wty gw (wcs C (enterW t s)) T6 w7 (w9.setCell ⟨gw, 6, none⟩ (.slice A9 (wn + 1) c9)) from OIP.after hb8 hP9)
   clear hP9 HR3 hb8 hst
   go_wp2_with (at_builtin; refine wpList_app_run ?_ (.tmp 102) (.tmp 104) ?_ ?_ ?_ ?_ r9 ?_; exact rfl; exact rfl; exact rfl; exact rfl; exact rfl)
   obtain ⟨w10, hw10⟩ : ∃ Z, w9.setCell ⟨gw, 6, none⟩ (.slice A9 (wn + 1) c9) = Z := ⟨_, rfl⟩
   rw [hw10] at HP9
   simp only [hw10]
   obtain ⟨m, hm⟩ : ∃ m, Q.needs.length = m := ⟨_, rfl⟩
   have HMM := hide hm
   have hmi : (m : Int) ≤ 900000 := by have := HNL.out; omega
   rw [hm] at HGP
   clear hw10 hc9 hf9 r9 hW8 hm
   go_loopw [7] (fun v7 wr => ∃ k : Nat, v7 = .int .i64 k ∧ k ≤ m ∧ OIP w0 wty gw (wcs C ((Q.needs.take k).foldl (fun s x => meetF P is stop n x s) (enterW t s))) T6 w7 wr) (fun v7 _ => m - (intOf v7).toNat)
   case atStart => exact ⟨0, rfl, by omega, HP9.out⟩
   case round =>
     obtain ⟨wk, hwk⟩ : ∃ Z, Z = wr := ⟨_, rfl⟩
     subst hwk
     obtain ⟨k, rfl, hk, hop⟩ := hrel
     have HOP := hide hop
     have HGK := hide ((hop.block (Array.getElem?_eq_some_iff.1 HGP.out).1 HTA.out.1).trans HGP.out)
     have hp0 := cellOf HGK.out (j := 0) rfl
     obtain ⟨Tk, fk, kk, gk⟩ := hop
     have HKK := hide kk
     have HSK := hide (kk.sr HSN.out HTA.out.2)
     have HFK := hide fk
     have HGR := hide gk
     clear kk fk gk
     by_cases hlk : k < m
     case neg =>
       obtain rfl : k = m := by omega
       obtain ⟨z, hz⟩ : ∃ z, (Q.needs.take k).foldl (fun s x => meetF P is stop n x s) (enterW t s) = z := ⟨_, rfl⟩
       have hzw : z.wait = s.wait ++ [t] := by rw [← hz, foldF_wait]; rfl
       have hzok : WkOk z := hz ▸ foldF_ok n _ _ (HOK.out.enter t (by rw [HSN0.out]; exact hsn1))
       rw [hz] at HFK
       have HE2 := hide (show R = leave t z by rw [HE.out, ← hz, List.take_of_length_le (by have := HMM.out; omega)])
       obtain ⟨gz, cz, hcz, hlz, hpz⟩ := HFK.out.pop (j := 6) (L := s.wait) (x := t) (by rw [← hzw]; rfl)
       rw [HWN.out] at hcz hlz hpz
       have fz := HFK.out.free 6
       have HPZ := hide hpz
       have hsub : ((wn : Int) + 1) - 1 = (wn : Int) := by omega
       have hwr : IntKind.i64.wrap (wn : Int) = (wn : Int) := IntWalk.i64_in _ (by omega)
       have hlz2 : wn ≤ cz := by omega
       have hlz3 : (wn : Int) ≤ (cz : Int) := by omega
       clear hpz hz HMM HNL HSN HGP HTA HNX
       go_wp2_with fail
       go_region
       have hp7 := HPZ.out.step (Below.refl _ _).drew
       obtain ⟨w11, hw11⟩ : ∃ Z, (wk.setCell ⟨gw, 6, none⟩ (.slice (some ⟨gz, 0, none⟩) wn cz)).drew = Z := ⟨_, rfl⟩
       rw [hw11] at hp7 ⊢
       obtain ⟨T7, f7, k7, g7⟩ := hp7
       obtain ⟨A5, c5, h5, _, _, _, _⟩ := f7.cellS (j := 5) (L := z.order) rfl
       obtain ⟨A8, c8', w12, r12, hc12, hf12, hp12⟩ := f7.app (j := 5) (L := z.order) rfl h5 t (by have := hzok.cnt; have := hzok.seen; omega)
       have hcs : ((wcs C z).set 6 (Cl.s s.wait)).set 5 (Cl.s (z.order ++ [t])) = wcs C (leave t z) := by
         unfold leave wcs
         rw [hzw, List.dropLast_concat]
         rfl
       rw [hcs] at hp12
       have HFIN := hide (oip_next HK7.out HT6.out (oip_next HKK.out HGR.out (oip_next k7 g7 hp12)))
       clear hp12 hcs f7 k7 g7 hw11 hzw hzok HPZ
       obtain ⟨on, hon⟩ : ∃ n, z.order.length = n := ⟨_, rfl⟩
       rw [hon] at h5 r12 hc12 HFIN
       clear hon
       go_wp2_with (at_builtin; refine wpList_app_run ?_ (.tmp 141) (.tmp 143) ?_ ?_ ?_ ?_ r12 ?_; exact rfl; exact rfl; exact rfl; exact rfl; exact rfl)
       go_end0
       rw [HE2.out]
       exact ⟨rfl, HFIN.out⟩
     obtain ⟨x, hx⟩ : ∃ x, Q.needs[k]? = some x := ⟨Q.needs[k]'(by have := HMM.out; omega), gE _⟩
     obtain ⟨ga, oa, e1, hga, hca⟩ := HSK.out k x hx
     obtain ⟨sk, hsk⟩ : ∃ z, (Q.needs.take k).foldl (fun s x => meetF P is stop n x s) (enterW t s) = z := ⟨_, rfl⟩
     have hsk1 : sn + 1 ≤ sk.seen.length := by
       rw [← hsk]
       refine Nat.le_trans ?_ (foldF_sl n _ _)
       show sn + 1 ≤ (s.seen ++ [t]).length
       rw [List.length_append, List.length_singleton, HSN0.out]; omega
     have hsk2 : WkOk sk := hsk ▸ foldF_ok n _ _ (HOK.out.enter t (by rw [HSN0.out]; exact hsn1))
     rw [hsk] at HFK
     have hgx := HNX.out x (List.mem_of_getElem? hx)
     have hgy : Gd sk.seen.length x := by
       have := hG.up hgx (sk.seen.length - (sn + 1))
       rwa [show sn + 1 + (sk.seen.length - (sn + 1)) = sk.seen.length by omega] at this
     have HCL := hide (ih.out x sk Tk wk HFK.out hsk2 (by omega) hgy)
     have HFD := hide (show (Q.needs.take (k + 1)).foldl (fun s x => meetF P is stop n x s) (enterW t s) = meetF P is stop n x sk by
       rw [List.take_add_one, hx, List.foldl_append, hsk]; rfl)
     subst e1
     have bk1 : (k : Int) < (m : Int) := by omega
     clear HFK hx hgx hgy hsk hsk1 hsk2 HGK
     go_wp2_with fail
     refine HCL.out.mono ?_
     rintro e w' ⟨rfl, hop⟩
     have HNP := hide (oip_next HKK.out HGR.out hop)
     clear hop
     go_wp2
     go_roundw
     case rel => exact ⟨k + 1, by go_num, by omega, by rw [HFD.out]; exact HNP.out⟩
     case measure => simp [intOf]; omega
end
section
open Go.RowKit Ln Pth Vf
theorem putS_fold : ∀ (F : List ByteArray) (acc : List T), F.foldl (fun acc s => putS s acc) (acc.map bs) = ((F.map fun s => s.data.toList).foldl (fun acc s => putT s acc) acc).map bs
 | [], acc => rfl
 | s :: F, acc => by
   rw [List.foldl_cons, List.map_cons, List.foldl_cons, ← putS_fold F, ← putS_bsT, bs_of]
theorem putT_fold (F : List T) : ∀ acc : List T, acc.Pairwise (· < ·) → (F.foldl (fun acc s => putT s acc) acc).Pairwise (· < ·) ∧ ∀ x, x ∈ F.foldl (fun acc s => putT s acc) acc ↔ x ∈ acc ∨ x ∈ F := by
 induction F with
 | nil => exact fun acc h => ⟨h, fun x => by simp⟩
 | cons s F ih =>
   intro acc h
   obtain ⟨h1, h2⟩ := ih (putT s acc) (putT_rise s h)
   refine ⟨h1, fun x => ?_⟩
   rw [List.foldl_cons, h2 x, mem_putT]
   simp only [List.mem_cons]
   constructor
   · rintro ((h | h) | h) <;> simp [h]
   · rintro (h | h | h) <;> simp [h]
def putsF (F : List ByteArray) : List ByteArray := F.foldl (fun acc s => putS s acc) []
def putsT (F : List ByteArray) : List T := (F.map fun s => s.data.toList).foldl (fun acc s => putT s acc) []
theorem putsF_eq (F : List ByteArray) : putsF F = (putsT F).map bs := putS_fold F []
theorem putsT_rise (F : List ByteArray) : (putsT F).Pairwise (· < ·) := (putT_fold _ [] List.Pairwise.nil).1
theorem putsT_mem {F : List ByteArray} {x : T} : x ∈ putsT F ↔ x ∈ F.map fun s => s.data.toList := by
 have := (putT_fold (F.map fun s => s.data.toList) [] List.Pairwise.nil).2 x
 simpa [putsT] using this
theorem data_mem {F : List ByteArray} {x : T} : x ∈ (F.map fun s => s.data.toList) ↔ bs x ∈ F := by
 rw [List.mem_map]
 constructor
 · rintro ⟨s, hs, rfl⟩
   rw [bs_of]; exact hs
 · intro h
   exact ⟨_, h, by rw [bs_list]⟩
theorem putsF_congr {F G : List ByteArray} (h : ∀ x, x ∈ F ↔ x ∈ G) : putsF F = putsF G := by
 rw [putsF_eq, putsF_eq]
 congr 1
 refine rise_ext (putsT_rise F) (putsT_rise G) fun x => ?_
 rw [putsT_mem, putsT_mem, data_mem, data_mem]
 exact h _
theorem sort_puts {F : List ByteArray} (h : F.Nodup) : ((F.map fun s => s.data.toList).mergeSort fun x y => decide (x ≤ y)).map (fun l => (⟨l.toArray⟩ : ByteArray)) = putsF F := by
 rw [putsF_eq]
 refine congrArg (List.map bs) ?_
 have hs := List.pairwise_mergeSort (le := fun x y : T => decide (x ≤ y)) (by
   intro a b c h1 h2
   simp only [decide_eq_true_eq] at *
   exact List.le_trans h1 h2) (by
   intro a b
   simp only [Bool.or_eq_true, decide_eq_true_eq]
   exact List.le_total a b) (F.map fun s => s.data.toList)
 have hn : ((F.map fun s => s.data.toList).mergeSort fun x y => decide (x ≤ y)).Nodup := by
   rw [(List.mergeSort_perm _ _).nodup_iff]
   refine List.Pairwise.map _ (fun a b hab e => hab ?_) h
   rw [← bs_of a, ← bs_of b, e]
 refine rise_ext ?_ (putsT_rise F) fun x => ?_
 · refine (hs.and hn).imp fun {a b} h => ?_
   obtain ⟨h1, h2⟩ := h
   simp only [decide_eq_true_eq] at h1
   by_cases k : a < b
   · exact k
   · exact absurd (List.le_antisymm h1 (List.not_lt.1 k)) h2
 · rw [List.mem_mergeSort, putsT_mem]
theorem rise_sub : ∀ {a b : List T}, a.Pairwise (· < ·) → b.Pairwise (· < ·) → (∀ x ∈ a, x ∈ b) → List.Sublist a b
 | [], b, _, _, _ => List.nil_sublist b
 | x :: a, [], _, _, h => by have := h x (by simp); cases this
 | x :: a, y :: b, h1, h2, h => by
   obtain ⟨p1, p2⟩ := List.pairwise_cons.1 h1
   obtain ⟨q1, q2⟩ := List.pairwise_cons.1 h2
   by_cases e : x = y
   · subst e
     refine List.Sublist.cons_cons x (rise_sub p2 q2 fun z hz => ?_)
     rcases List.mem_cons.1 (h z (by simp [hz])) with e | e
     · subst e; exact absurd (p1 z hz) (List.lt_irrefl z)
     · exact e
   · refine List.Sublist.cons y (rise_sub h1 q2 fun z hz => ?_)
     have hyx : y < x := by
       rcases List.mem_cons.1 (h x (by simp)) with e2 | e2
       · exact absurd e2 e
       · exact q1 x e2
     rcases List.mem_cons.1 (h z hz) with e2 | e2
     · subst e2
       rcases List.mem_cons.1 hz with e3 | e3
       · exact absurd e3.symm e
       · exact absurd (List.lt_trans hyx (p1 z e3)) (List.lt_irrefl z)
     · exact e2
def foundF (a : List ByteArray) : List ByteArray → Nat → Nat
 | [], k => k
 | y :: b, k => foundF a b (if a[k]? = some y then k + 1 else k)
theorem found_all {a : List ByteArray} : ∀ (b : List ByteArray) (k : Nat), k ≤ a.length → List.Sublist (a.drop k) b → foundF a b k = a.length
 | [], k, hk, h => by
   have : a.drop k = [] := List.sublist_nil.1 h
   have := congrArg List.length this
   simp at this
   show k = _
   omega
 | y :: b, k, hk, h => by
   rw [foundF]
   by_cases c : a[k]? = some y
   · rw [if_pos c]
     obtain ⟨h1, h2⟩ := List.getElem?_eq_some_iff.1 c
     refine found_all b (k + 1) (by omega) ?_
     rw [List.drop_eq_getElem_cons h1, h2] at h
     exact List.cons_sublist_cons.1 h
   · rw [if_neg c]
     refine found_all b k hk ?_
     cases hd : a.drop k with
     | nil => exact List.nil_sublist b
     | cons x r =>
       rw [hd] at h
       have hx : a[k]? = some x := by
         have := congrArg (fun l => l[0]?) hd
         simpa using this
       cases h with
       | cons _ h => exact h
       | cons_cons _ h => exact absurd hx c
theorem found_take (a b : List ByteArray) (i k : Nat) (y : ByteArray) (hy : b[i]? = some y) : foundF a (b.take (i + 1)) k = (if a[foundF a (b.take i) k]? = some y then foundF a (b.take i) k + 1 else foundF a (b.take i) k) := by
 rw [List.take_add_one, hy]
 have : ∀ (l : List ByteArray) (k : Nat), foundF a (l ++ [y]) k = (if a[foundF a l k]? = some y then foundF a l k + 1 else foundF a l k) := by
   intro l
   induction l with
   | nil => intro k; rfl
   | cons z l ih => intro k; exact ih _
 exact this _ _
section
variable {P : ByteArray → Pn}
theorem reach_more (g : List ByteArray) (x : ByteArray) : foundF (putsF (seenA P g [])) (putsF (seenA P (g ++ [x]) [])) 0 = (putsF (seenA P g [])).length := by
 refine found_all _ 0 (Nat.zero_le _) ?_
 rw [List.drop_zero, putsF_eq, putsF_eq]
 refine List.Sublist.map _ (rise_sub (putsT_rise _) (putsT_rise _) fun z hz => ?_)
 rw [putsT_mem, data_mem] at hz ⊢
 rw [seenA_app]
 exact (seenA_ext [x] (seenA P g [])).subset hz
end
theorem puts_len (F : List ByteArray) : (putsF F).length ≤ F.length := by
 have : ∀ (F : List T) (acc : List T), (F.foldl (fun acc s => putT s acc) acc).length ≤ acc.length + F.length := by
   intro F
   induction F with
   | nil => intro acc; simp
   | cons s F ih =>
     intro acc
     have h1 := ih (putT s acc)
     have h2 := putT_lenR s acc
     rw [List.foldl_cons, List.length_cons]
     omega
 have h := this (F.map fun s => s.data.toList) []
 rw [putsF_eq, List.length_map]
 unfold putsT
 simpa using h
theorem puts_ris (F : List ByteArray) {i : Nat} {x y : ByteArray} (hx : (putsF F)[i]? = some x) (hy : (putsF F)[i + 1]? = some y) : sLt x y = true := by
 rw [putsF_eq, List.getElem?_map] at hx hy
 obtain ⟨a, ha, rfl⟩ := Option.map_eq_some_iff.1 hx
 obtain ⟨b, hb, rfl⟩ := Option.map_eq_some_iff.1 hy
 obtain ⟨h1, h2⟩ := List.getElem?_eq_some_iff.1 ha
 obtain ⟨h3, h4⟩ := List.getElem?_eq_some_iff.1 hb
 have := List.pairwise_iff_getElem.1 (putsT_rise F) i (i + 1) h1 h3 (by omega)
 rw [h2, h4] at this
 exact (sLt_iff _ _).2 this
def RchP (R : List ByteArray) (w : World) (e : Ending) (w' : World) : Prop := ∃ (A : Option Addr) (c : Nat), e = .returned (.slice A R.length c) ∧ SR w' A R ∧ R.length ≤ c ∧ Below w.heap.size w w'
end
section
open Go.RowKit Go.Deep Go.Maps Ln Pth Vf
attribute [local go_sem] bt_eq
def ROrP (P : ByteArray → Pn) (is : ByteArray → Bool) (L : List ByteArray) (w : World) (e : Ending) (w' : World) : Prop := ∃ z, z = L.foldl (fun s x => meetW P is true x s) wk0 ∧ Below w.heap.size w w' ∧
 ∃ (A : Option Addr) (k : Nat), e = .returned (.tuple #[.slice A (if z.e = 0 then z.order.length else 0) k, .int .i64 z.e]) ∧ (z.e = 0 → SR w' A z.order)
theorem OI.way {w W : World} (C : Rc) (hb : Below w.heap.size w W) : OI w wty W.heap.size (wcs C wk0) (fun k => k = W.heap.size) (W.alloc (.cells #[C.mac, .slice C.A C.ml C.c, .pointer (some ⟨C.g, 0, none⟩), .string C.cwd, .slice none 0 0, .slice none 0 0, .slice none 0 0, .int .i64 0] wty)) := by
 have h := OI.made (ty := wty) (vs := [C.mac, .slice C.A C.ml C.c, .pointer (some ⟨C.g, 0, none⟩), .string C.cwd, .slice none 0 0, .slice none 0 0, .slice none 0 0, .int .i64 0]) hb
 have h4 := h.nilR (j := 4) rfl 9 1
 have h5 := h4.nilR (j := 5) rfl 9 1
 exact h5.nilR (j := 6) rfl 9 1
theorem foldW_ok {P : ByteArray → Pn} {is : ByteArray → Bool} {stop : Bool} (l : List ByteArray) (s : Wk) (h : WkOk s) : WkOk (l.foldl (fun s x => meetW P is stop x s) s) := foldF_ok 1001 l s h
theorem foldW_snoc {P : ByteArray → Pn} {is : ByteArray → Bool} {stop : Bool} {L : List ByteArray} {k : Nat} {x : ByteArray} (h : L[k]? = some x) (s : Wk) : (L.take (k + 1)).foldl (fun s x => meetW P is stop x s) s = meetF P is stop 1001 x ((L.take k).foldl (fun s x => meetW P is stop x s) s) := by
 rw [List.take_add_one, h, List.foldl_append]; rfl
theorem rorder_any (C : Rc) (P : ByteArray → Pn) (is : ByteArray → Bool) (Gd : Nat → ByteArray → Prop) (A : Option Addr) (c : Nat) (L : List ByteArray) (w : World) (hG : RGH w C P is Gd) (hA : SR w A L) (hl : L.length ≤ 1000000) (hgd : ∀ x ∈ L, ∀ m, Gd m x) :
   Calls Tryz.prog 24 #[.agg #[C.mac, .slice C.A C.ml C.c], .pointer (some ⟨C.g, 0, none⟩), .string C.cwd, .slice A L.length c] w (ROrP P is L w) := by
 have HG := hide hG
 have HA := hide hA
 have HGD := hide hgd
 obtain ⟨n, hn⟩ : ∃ n, L.length = n := ⟨_, rfl⟩
 rw [hn] at hl ⊢
 have HN := hide hn
 have hni : (n : Int) ≤ 1000000 := by omega
 have HW0 := hide (OI.way C ((Below.refl w.heap.size w).alloc (Nat.le_refl _) (.cells #[C.mac, .slice C.A C.ml C.c] 25)))
 obtain ⟨gw, hgw⟩ : ∃ g, (w.alloc (.cells #[C.mac, .slice C.A C.ml C.c] 25)).heap.size = g := ⟨_, rfl⟩
 rw [hgw] at HW0
 have hgw2 : w.heap.size + 1 = gw := by simpa using hgw
 clear hG hA hgd hn hgw
 go_enter Tryz.func24, Tryz.ntmps24
 go_wp2
 try rw [hgw2]
 try simp only [hgw2]
 go_loopw [11] (fun v11 wr => ∃ k : Nat, v11 = .int .i64 k ∧ k ≤ n ∧ ∃ T, OI w wty gw (wcs C ((L.take k).foldl (fun s x => meetW P is true x s) wk0)) T wr) (fun v11 _ => n - (intOf v11).toNat)
 case atStart => exact ⟨0, rfl, by omega, _, HW0.out⟩
 case round =>
   obtain ⟨k, rfl, hk, T, hoi⟩ := hrel
   have HOI := hide hoi
   have HAR := hide (HA.out.below hoi.below)
   have hok := foldW_ok (P := P) (is := is) (stop := true) (L.take k) wk0 WkOk.start
   by_cases hlt : k < n
   · obtain ⟨x, hx⟩ : ∃ x, L[k]? = some x := ⟨L[k]'(by have := HN.out; omega), gE _⟩
     obtain ⟨gs, o, rfl, hgs, hc⟩ := HAR.out k x hx
     have b1 : (k : Int) < (n : Int) := by omega
     have HCL := hide (rmeet_any w C P is Gd HG.out true gw 1001 x _ T wr HOI.out hok (by omega) (HGD.out x (List.mem_of_getElem? hx) _))
     rw [← foldW_snoc hx] at HCL
     clear hoi hok hx hgs
     go_wp2_with fail
     refine HCL.out.mono ?_
     rintro e w' ⟨rfl, hop⟩
     obtain ⟨T', f', _, _⟩ := hop
     have HF := hide f'
     clear f'
     go_wp2
     go_roundw
     case rel => exact ⟨k + 1, by go_num, by omega, T', HF.out⟩
     case measure => simp [intOf]; omega
   · obtain rfl : k = n := by omega
     rw [List.take_of_length_le (by have := HN.out; omega)] at HOI hok
     obtain ⟨z, hz⟩ : ∃ z, L.foldl (fun s x => meetW P is true x s) wk0 = z := ⟨_, rfl⟩
     rw [hz] at HOI
     have HZ := hide hz
     have hce := HOI.out.cellV (j := 7) rfl
     obtain ⟨A5, c5, h5, _, _, hs5, _⟩ := HOI.out.cellS (j := 5) (L := z.order) rfl
     have HS5 := hide hs5
     clear hoi hok hz hs5
     by_cases hc0 : z.e = 0
     · have HC0 := hide hc0
       rw [hc0] at hce
       clear hc0
       go_wp2
       (try rw [Exit.noGoto_ret])
       go_ret2
       refine ⟨z, HZ.out.symm, HOI.out.below, A5, c5, ?_, fun _ => HS5.out⟩
       rw [if_pos HC0.out, HC0.out]
       rfl
     · have HC0 := hide hc0
       obtain ⟨t1, t2⟩ := ne0 hc0
       clear hc0
       go_wp2
       go_region
       go_wp2
       (try rw [Exit.noGoto_ret])
       go_ret2
       refine ⟨z, HZ.out.symm, HOI.out.below.trans (Below.refl _ _).drew, none, 0, ?_, fun h => absurd h HC0.out⟩
       rw [if_neg HC0.out]
       rfl
theorem putsF_snoc {F : List ByteArray} {k : Nat} {x : ByteArray} (h : F[k]? = some x) : putsF (F.take (k + 1)) = putS x (putsF (F.take k)) := by
 unfold putsF
 rw [List.take_add_one, h, List.foldl_append]; rfl
theorem rreach_any (C : Rc) (P : ByteArray → Pn) (is : ByteArray → Bool) (Gd : Nat → ByteArray → Prop) (A : Option Addr) (c : Nat) (L : List ByteArray) (w : World) (hG : RGH w C P is Gd) (hA : SR w A L) (hl : L.length ≤ 1000000) (hgd : ∀ x ∈ L, ∀ m, Gd m x) :
   Calls Tryz.prog 27 #[.agg #[C.mac, .slice C.A C.ml C.c], .pointer (some ⟨C.g, 0, none⟩), .string C.cwd, .slice A L.length c] w (RchP (putsF (seenA P L [])) w) := by
 have HG := hide hG
 have HA := hide hA
 have HGD := hide hgd
 obtain ⟨n, hn⟩ : ∃ n, L.length = n := ⟨_, rfl⟩
 rw [hn] at hl ⊢
 have HN := hide hn
 have hni : (n : Int) ≤ 1000000 := by omega
 have HW0 := hide (OI.way C ((Below.refl w.heap.size w).alloc (Nat.le_refl _) (.cells #[C.mac, .slice C.A C.ml C.c] 25)))
 obtain ⟨gw, hgw⟩ : ∃ g, (w.alloc (.cells #[C.mac, .slice C.A C.ml C.c] 25)).heap.size = g := ⟨_, rfl⟩
 rw [hgw] at HW0
 have hgw2 : w.heap.size + 1 = gw := by simpa using hgw
 clear hG hA hgd hn hgw
 go_enter Tryz.func27, Tryz.ntmps27
 go_wp2
 try rw [hgw2]
 try simp only [hgw2]
 go_loopw [10] (fun v10 wr => ∃ k : Nat, v10 = .int .i64 k ∧ k ≤ n ∧ ∃ T, OI w wty gw (wcs C ((L.take k).foldl (fun s x => meetW P is false x s) wk0)) T wr) (fun v10 _ => n - (intOf v10).toNat)
 case atStart => exact ⟨0, rfl, by omega, _, HW0.out⟩
 case round =>
   obtain ⟨k, rfl, hk, T, hoi⟩ := hrel
   have HOI := hide hoi
   have HAR := hide (HA.out.below hoi.below)
   have hok := foldW_ok (P := P) (is := is) (stop := false) (L.take k) wk0 WkOk.start
   by_cases hlt : k < n
   · obtain ⟨x, hx⟩ : ∃ x, L[k]? = some x := ⟨L[k]'(by have := HN.out; omega), gE _⟩
     obtain ⟨gs, o, rfl, hgs, hc⟩ := HAR.out k x hx
     have b1 : (k : Int) < (n : Int) := by omega
     have HCL := hide (rmeet_any w C P is Gd HG.out false gw 1001 x _ T wr HOI.out hok (by omega) (HGD.out x (List.mem_of_getElem? hx) _))
     rw [← foldW_snoc hx] at HCL
     clear hoi hok hx hgs
     go_wp2_with fail
     refine HCL.out.mono ?_
     rintro e w' ⟨rfl, hop⟩
     obtain ⟨T', f', _, _⟩ := hop
     have HF := hide f'
     clear f'
     go_wp2
     go_roundw
     case rel => exact ⟨k + 1, by go_num, by omega, T', HF.out⟩
     case measure => simp [intOf]; omega
   · obtain rfl : k = n := by omega
     rw [List.take_of_length_le (by have := HN.out; omega)] at HOI hok
     have hsn : (L.foldl (fun s x => meetW P is false x s) wk0).seen = seenA P L [] := goals_false (P := P) (is := is) L wk0 rfl
     obtain ⟨z, hz⟩ : ∃ z, L.foldl (fun s x => meetW P is false x s) wk0 = z := ⟨_, rfl⟩
     rw [hz] at HOI hok hsn
     have HSEE := hide hsn
     have hzl := hok.seen
     obtain ⟨m, hm⟩ : ∃ m, z.seen.length = m := ⟨_, rfl⟩
     rw [hm] at hzl
     have HM := hide hm
     have hmi : (m : Int) ≤ 1000 := by omega
     have HBW := hide HOI.out.below
     clear hoi hok hz hsn hm
     go_wp2
     go_loopw [11, 12] (fun v11 v12 w2 => ∃ (k : Nat) (A' : Option Addr) (c' q : Nat), v12 = .int .i64 k ∧ k ≤ m ∧ v11 = .slice A' q c' ∧ Hid (q = (putsF (z.seen.take k)).length) ∧ q ≤ k ∧ q ≤ c' ∧ Hid (SR w2 A' (putsF (z.seen.take k))) ∧ Hid (Below wr.heap.size wr w2)) (fun _ v12 _ => m - (intOf v12).toNat)
     case atStart => exact ⟨0, none, 0, 0, rfl, by omega, rfl, hide (by simp [putsF]), by omega, by omega, hide (by simpa [putsF] using SR.nil wr none), Below.refl _ _⟩
     case round =>
       obtain ⟨k, A', c', q, rfl, hk, rfl, HQ, hqk, hqc, HSR, HB⟩ := hrel
       have HO2 := hide (HOI.out.step HB.out)
       obtain ⟨A4, c4, h4, _, _, hs4, _⟩ := HO2.out.cellS (j := 4) (L := z.seen) rfl
       rw [HM.out] at h4
       by_cases hlt : k < m
       · obtain ⟨x, hx⟩ : ∃ x, z.seen[k]? = some x := ⟨z.seen[k]'(by have := HM.out; omega), gE _⟩
         obtain ⟨gs, o, rfl, hgs, hc⟩ := hs4 k x hx
         have b1 : (k : Int) < (m : Int) := by omega
         have hsc := putsF_snoc hx
         obtain ⟨Q, hQ⟩ : ∃ Q, putsF (z.seen.take k) = Q := ⟨_, rfl⟩
         rw [hQ] at HQ HSR hsc
         have HPT := hide (putstr_any A' c' Q x _ HSR.out (by have := HQ.out; omega) (by have := HQ.out; omega))
         rw [← HQ.out] at HPT
         have HSC := hide hsc
         have HQ2 := hide (show (putS x Q).length ≤ k + 1 by
           have := puts_len (z.seen.take (k + 1))
           rw [hsc, List.length_take] at this
           omega)
         clear hs4 hx hgs hsc hQ
         go_wp2_with fail
         refine HPT.out.mono ?_
         rintro e w3 ⟨⟨A3, c3, rfl, hs3, hl3⟩, hb3⟩
         obtain ⟨q3, hq3⟩ : ∃ q, (putS x Q).length = q := ⟨_, rfl⟩
         have HQ3 := hide hq3
         have hq4 := HQ2.out
         rw [hq3] at hl3 hq4
         rw [hq3]
         have HS3 := hide hs3
         have HB3 := hide (below_up HB.out hb3 HB.out.size)
         clear hs3 hb3 hq3 HQ2 HPT
         go_wp2
         go_roundw
         case rel => exact ⟨k + 1, A3, c3, q3, by go_num, by omega, rfl, hide (by rw [HSC.out]; exact HQ3.out.symm), by omega, by omega, hide (by rw [HSC.out]; exact HS3.out), HB3.out⟩
         case measure => simp [intOf]; omega
       · obtain rfl : k = m := by omega
         have HT := hide (show z.seen.take k = z.seen from List.take_of_length_le (by have := HM.out; omega))
         clear hs4
         go_wp2
         go_ret
         have hq := HQ.out
         have hs := HSR.out
         rw [HT.out] at hq hs
         rw [HSEE.out] at hq hs
         exact ⟨A', c', by rw [← hq]; rfl, hs, by omega, below_up HBW.out HB.out HBW.out.size⟩
end
section
open Go.RowKit Go.Deep Go.ChangeShapes Go.WideShapes
theorem choose_list {α : Type} {P : Nat → α → Prop} : ∀ n, (∀ i, i < n → ∃ x, P i x) → ∃ L : List α, L.length = n ∧ ∀ i x, L[i]? = some x → P i x
 | 0, _ => ⟨[], rfl, fun i x h => by simp at h⟩
 | n + 1, h => by
   obtain ⟨L, hl, hL⟩ := choose_list n (fun i hi => h i (by omega))
   obtain ⟨x, hx⟩ := h n (by omega)
   refine ⟨L ++ [x], by simp [hl], fun i y hy => ?_⟩
   by_cases hi : i < L.length
   · rw [List.getElem?_append_left hi] at hy
     exact hL i y hy
   · rw [List.getElem?_append_right (by omega)] at hy
     have : i - L.length = 0 := by
       have := (List.getElem?_eq_some_iff.1 hy).1
       simp at this
       omega
     rw [this] at hy
     simp at hy
     subst hy
     rw [show i = n by omega]
     exact hx
theorem add_offR (b off k : Nat) : (Addr.mk b off none).add k = ⟨b, off + k, none⟩ := by
 unfold Addr.add
 split
 · rename_i h0; subst h0; rfl
 · rfl
def CellsAt (w : World) (g o : Nat) (cs : List Value) : Prop := ∀ j v, cs[j]? = some v → w.cell? ⟨g, o + j, none⟩ = some v
def RowsAt {α : Type} (n : Nat) (good : World → α → List Value → Prop) (w : World) (A : Option Addr) (L : List α) : Prop :=
 ∀ k x, L[k]? = some x → ∃ g o cs, A = some ⟨g, o, none⟩ ∧ g < w.heap.size ∧ cs.length = n ∧ CellsAt w g (o + k * n) cs ∧ good w x cs
theorem open_rows {H α : Type} {enc : TypeId × Value → H} {P : Program} {w : World} {spare : Nat → Bool} {held : Bool} {t e : TypeId} {n : Nat} (ht : P.underlying t = some (.slice e)) (hn : P.cellsOf e = n) (h0 : 0 < n) (good : World → α → List Value → Prop)
   (each : ∀ fuel cs y, cs.length = n → DataW.trod enc P w 0 spare held fuel e cs = some y → ∃ x, good w x cs)
   {a0 : Option Addr} {len cap : Nat} {d : DataW H} {ps : List MemPlace} (h : DataW.Trod enc P w 0 spare held t (.slice a0 len cap) d ps) :
   ∃ L : List α, L.length = len ∧ L.length ≤ maxLen ∧ (∀ x ∈ L, ∃ cs, good w x cs) ∧ RowsAt n good w a0 L := by
 obtain ⟨fuel, hf⟩ := h
 rcases open_slice ht hf with ⟨hcs, hx⟩ | ⟨a, len', cap', m, fl, D, Pl, hcs, _, hl, hm, hmm, _, hx⟩
 · simp [Value.cells] at hcs
   obtain ⟨rfl, rfl, rfl⟩ := hcs
   exact ⟨[], rfl, Nat.zero_le _, fun x hx => by simp at hx, fun k x hk => by simp at hk⟩
 · simp [Value.cells] at hcs
   obtain ⟨rfl, rfl, rfl⟩ := hcs
   have hlm : len ≤ m := by rw [hmm]; split <;> omega
   obtain ⟨L, hL, hLx⟩ := choose_list (P := fun i x => ∃ cs, cs.length = n ∧ (∀ j v, cs[j]? = some v → w.cell? ((a.add (i * n)).add j) = some v) ∧ good w x cs) len (fun i hi => by
     obtain ⟨cs', h1, h2⟩ := hx i (by omega)
     rw [hn] at h1
     obtain ⟨_, hlen, hcell⟩ := World.cells?_some h1
     obtain ⟨x, hx⟩ := each _ _ _ hlen h2
     refine ⟨x, cs', hlen, fun j v hj => ?_, hx⟩
     have hjn : j < n := by
       have := (List.getElem?_eq_some_iff.1 hj).1
       omega
     have := hcell j hjn
     rw [hj] at this
     exact this)
   refine ⟨L, hL, by omega, fun x hx => ?_, fun k x hk => ?_⟩
   · obtain ⟨i, hi⟩ := List.getElem?_of_mem hx
     obtain ⟨cs, _, _, hg⟩ := hLx i x hi
     exact ⟨cs, hg⟩
   · obtain ⟨cs, h1, h2, h3⟩ := hLx k x hk
     obtain ⟨b, off, spot⟩ := a
     have hk2 : k < len := by
       have := (List.getElem?_eq_some_iff.1 hk).1
       omega
     obtain ⟨v0, hv0⟩ : ∃ v, cs[0]? = some v := ⟨cs[0]'(by omega), gE _⟩
     have hc0 := h2 0 v0 hv0
     have hspot : spot = none := by
       obtain ⟨x0, hx0⟩ : ∃ x, L[0]? = some x := ⟨L[0]'(by omega), gE _⟩
       obtain ⟨cs0, q1, q2, _⟩ := hLx 0 x0 hx0
       obtain ⟨u0, hu0⟩ : ∃ v, cs0[0]? = some v := ⟨cs0[0]'(by omega), gE _⟩
       have := q2 0 u0 hu0
       rw [Nat.zero_mul] at this
       simpa [Addr.add] using World.cell?_spot this
     subst hspot
     refine ⟨b, off, cs, rfl, ?_, h1, fun j v hj => ?_, h3⟩
     · rw [add_offR, add_offR] at hc0
       exact World.block_lt_of_cell? w _ hc0
     · have := h2 j v hj
       rw [add_offR, add_offR] at this
       exact this
end
section
open Go.RowKit Go.Deep Go.ChangeShapes Go.WideShapes
end
section
open Go.RowKit Go.Deep Go.ChangeShapes Go.WideShapes
end
section
open Go.RowKit Go.Deep Go.ChangeShapes Go.WideShapes
end
section
open Go.RowKit Go.Deep
abbrev Pr := ByteArray × ByteArray
def PR (w : World) (A : Option Addr) (P : List Pr) : Prop :=
 ∀ k x, P[k]? = some x → ∃ g o, A = some ⟨g, o, none⟩ ∧ g < w.heap.size ∧ w.cell? ⟨g, o + k * 2, none⟩ = some (.string x.1) ∧ w.cell? ⟨g, o + k * 2 + 1, none⟩ = some (.string x.2)
theorem PR.of {w w' : World} {A : Option Addr} {P : List Pr} (h : PR w A P) (hs : w.heap.size ≤ w'.heap.size) (hc : ∀ a, A = some a → a.block < w.heap.size → w'.heap[a.block]? = w.heap[a.block]?) : PR w' A P := fun k x hk => by
 obtain ⟨g, o, e, hg, h1, h2⟩ := h k x hk
 have hb := hc _ e hg
 exact ⟨g, o, e, by omega, (World.cell?_of_block (a := ⟨g, o + k * 2, none⟩) hb).trans h1, (World.cell?_of_block (a := ⟨g, o + k * 2 + 1, none⟩) hb).trans h2⟩
theorem PR.below {w w' : World} {A : Option Addr} {P : List Pr} (h : PR w A P) (hb : Below w.heap.size w w') : PR w' A P := h.of hb.size fun a _ hl => hb.block a.block hl
end
section
open Go.RowKit Go.Deep Go.ChangeShapes Go.WideShapes
structure SmallD (H : Type) (K : Nat) where
 P : TypeId → DataW H → Prop
 elem : ∀ {t e : TypeId} {elems spare : List (DataW H)} {d : DataW H}, Tryz.prog.underlying t = some (.slice e) → P t (.slice elems spare) → d ∈ elems → P e d
 part : ∀ {t : TypeId} {fs : Array Field} {parts : List (DataW H)} {j : Nat} {f : Field} {d : DataW H}, Tryz.prog.underlying t = some (.struct fs) → P t (.agg parts) → fs[j]? = some f → parts[j]? = some d → P f.type d
 str : ∀ {t : TypeId} {b : List UInt8}, P t (.lit (.string b)) → b.length ≤ K
theorem weightsAll_mem {H : Type} {P : Program} {e : TypeId} {n : Nat} {d : DataW H} (hn : n ∈ d.weights P e) : ∀ {l : List (DataW H)}, d ∈ l → n ∈ DataW.weightsAll P e l
 | [], h => by cases h
 | x :: l, h => by
   simp only [DataW.weightsAll, List.mem_append]
   rcases List.mem_cons.1 h with rfl | h
   · exact .inl hn
   · exact .inr (weightsAll_mem hn h)
def weighD (H : Type) : SmallD H reachBytes where
 P := fun t d => ∀ n ∈ d.weights Tryz.prog t, n ≤ reachBytes
 elem := fun {t e elems spare d} hu h hd n hn => h n (by
   simp only [DataW.weights, hu, List.mem_cons, List.mem_append]
   exact .inr (.inl (weightsAll_mem hn hd)))
 part := fun {t fs parts j f d} hu h hf hd n hn => h n (by
   simp only [DataW.weights, hu]
   exact DataW.weights_mem_each (j := j) (t := f.type) (by rw [List.getElem?_map, Array.getElem?_toList, hf]; rfl) hd n hn)
 str := fun {t b} h => h b.length (by simp [DataW.weights])
theorem weighD_arg {H : Type} {ts : List TypeId} {ds : List (DataW H)} (h : (DataW.weightsEach Tryz.prog ts ds).all (· ≤ reachBytes) = true) {j : Nat} {t : TypeId} {d : DataW H} (ht : ts[j]? = some t) (hd : ds[j]? = some d) : (weighD H).P t d := fun n hn => by
 have := List.all_eq_true.1 h _ (DataW.weights_mem_each ht hd n hn)
 simpa using this
theorem open_rowsD {H α : Type} {enc : TypeId × Value → H} {w : World} {spare : Nat → Bool} {held : Bool} {K : Nat} (S : SmallD H K) {t e : TypeId} {n : Nat} (ht : Tryz.prog.underlying t = some (.slice e)) (hn : Tryz.prog.cellsOf e = n) (h0 : 0 < n) (good : World → α → List Value → Prop)
   (each : ∀ fuel cs y, cs.length = n → S.P e y.1 → DataW.trod enc Tryz.prog w 0 spare held fuel e cs = some y → ∃ x, good w x cs)
   {a0 : Option Addr} {len cap : Nat} {d : DataW H} {ps : List MemPlace} (h : DataW.Trod enc Tryz.prog w 0 spare held t (.slice a0 len cap) d ps) (hS : S.P t d) :
   ∃ L : List α, L.length = len ∧ L.length ≤ maxLen ∧ (∀ x ∈ L, ∃ cs, good w x cs) ∧ RowsAt n good w a0 L := by
 obtain ⟨fuel, hf⟩ := h
 rcases open_slice ht hf with ⟨hcs, hx⟩ | ⟨a, len', cap', m, fl, D, Pl, hcs, _, hl, hm, hmm, hdd, hx⟩
 · simp [Value.cells] at hcs
   obtain ⟨rfl, rfl, rfl⟩ := hcs
   exact ⟨[], rfl, Nat.zero_le _, fun x hx => by simp at hx, fun k x hk => by simp at hk⟩
 · simp [Value.cells] at hcs
   obtain ⟨rfl, rfl, rfl⟩ := hcs
   have hd1 := congrArg Prod.fst hdd
   simp only at hd1
   rw [hd1] at hS
   have hlm : len ≤ m := by rw [hmm]; split <;> omega
   obtain ⟨L, hL, hLx⟩ := choose_list (P := fun i x => ∃ cs, cs.length = n ∧ (∀ j v, cs[j]? = some v → w.cell? ((a.add (i * n)).add j) = some v) ∧ good w x cs) len (fun i hi => by
     obtain ⟨cs', h1, h2⟩ := hx i (by omega)
     rw [hn] at h1
     obtain ⟨_, hlen, hcell⟩ := World.cells?_some h1
     obtain ⟨x, hx⟩ := each _ _ _ hlen (S.elem ht hS (List.mem_map.2 ⟨i, List.mem_range.2 hi, rfl⟩)) h2
     refine ⟨x, cs', hlen, fun j v hj => ?_, hx⟩
     have hjn : j < n := by
       have := (List.getElem?_eq_some_iff.1 hj).1
       omega
     have := hcell j hjn
     rw [hj] at this
     exact this)
   refine ⟨L, hL, by omega, fun x hx => ?_, fun k x hk => ?_⟩
   · obtain ⟨i, hi⟩ := List.getElem?_of_mem hx
     obtain ⟨cs, _, _, hg⟩ := hLx i x hi
     exact ⟨cs, hg⟩
   · obtain ⟨cs, h1, h2, h3⟩ := hLx k x hk
     obtain ⟨b, off, spot⟩ := a
     have hk2 : k < len := by
       have := (List.getElem?_eq_some_iff.1 hk).1
       omega
     obtain ⟨v0, hv0⟩ : ∃ v, cs[0]? = some v := ⟨cs[0]'(by omega), gE _⟩
     have hc0 := h2 0 v0 hv0
     have hspot : spot = none := by
       obtain ⟨x0, hx0⟩ : ∃ x, L[0]? = some x := ⟨L[0]'(by omega), gE _⟩
       obtain ⟨cs0, q1, q2, _⟩ := hLx 0 x0 hx0
       obtain ⟨u0, hu0⟩ : ∃ v, cs0[0]? = some v := ⟨cs0[0]'(by omega), gE _⟩
       have := q2 0 u0 hu0
       rw [Nat.zero_mul] at this
       simpa [Addr.add] using World.cell?_spot this
     subst hspot
     refine ⟨b, off, cs, rfl, ?_, h1, fun j v hj => ?_, h3⟩
     · rw [add_offR, add_offR] at hc0
       exact World.block_lt_of_cell? w _ hc0
     · have := h2 j v hj
       rw [add_offR, add_offR] at this
       exact this
theorem open_SRD {H : Type} {enc : TypeId × Value → H} {W : World} {K : Nat} (S : SmallD H K) {a0 : Option Addr} {len cap : Nat} {d : DataW H} {ps : List MemPlace} (h : DataW.Trod enc Tryz.prog W 0 (fun _ => true) true 39 (.slice a0 len cap) d ps) (hS : S.P 39 d) :
   ∃ L : List ByteArray, L.length = len ∧ L.length ≤ maxLen ∧ (∀ s ∈ L, s.size ≤ K) ∧ SR W a0 L := by
 obtain ⟨L, h1, h2, h3, h4⟩ := open_rowsD S (n := 1) Tryz.underlying39 (by kernel_rfl) (by omega) (fun _ (s : ByteArray) cs => cs = [.string s] ∧ s.size ≤ K) (fun fuel cs y hlen hP hy => by
   obtain ⟨s, rfl, rfl, _⟩ := DataW.trod_string Tryz.underlying9 hy
   have := S.str hP
   exact ⟨s, rfl, by simpa using this⟩) h hS
 refine ⟨L, h1, h2, fun s hs => by obtain ⟨cs, hg⟩ := h3 s hs; exact hg.2, fun k s hk => ?_⟩
 obtain ⟨g, o, cs, e, hg, _, hc, rfl, _⟩ := h4 k s hk
 refine ⟨g, o, e, hg, ?_⟩
 have := hc 0 _ rfl
 simpa using this
theorem slice_of {H : Type} {enc : TypeId × Value → H} {W : World} {spare : Nat → Bool} {held : Bool} {fuel : Nat} {t e : TypeId} {v : Value} {x : DataW H × List MemPlace} (ht : Tryz.prog.underlying t = some (.slice e)) (h : DataW.trod enc Tryz.prog W 0 spare held fuel t [v] = some x) : ∃ A l c, v = .slice A l c := by
 rcases open_slice ht h with ⟨hcs, _⟩ | ⟨a, len', cap', m, fl, D, Pl, hcs, _⟩
 · exact ⟨_, _, _, (List.cons.inj hcs).1⟩
 · exact ⟨_, _, _, (List.cons.inj hcs).1⟩
theorem open_SVD {H : Type} {enc : TypeId × Value → H} {W : World} {K : Nat} (S : SmallD H K) {fuel : Nat} {v : Value} {y : DataW H × List MemPlace} (h : DataW.trod enc Tryz.prog W 0 (fun _ => true) true fuel 39 [v] = some y) (hS : S.P 39 y.1) :
   ∃ x : SRow, v = sv x ∧ SR W x.1 x.2.2 ∧ x.2.2.length ≤ maxLen ∧ ∀ s ∈ x.2.2, s.size ≤ K := by
 obtain ⟨A, len, c, rfl⟩ := slice_of Tryz.underlying39 h
 obtain ⟨L, rfl, m, s, r⟩ := open_SRD S (show DataW.Trod enc Tryz.prog W 0 (fun _ => true) true 39 (.slice A len c) y.1 y.2 from ⟨fuel, h⟩) hS
 exact ⟨(A, c, L), rfl, r, m, s⟩
structure RlIn (K : Nat) (w : World) (r : Rl) : Prop where
 tg : SR w r.tg.1 r.tg.2.2
 nd : SR w r.nd.1 r.nd.2.2
 rc : SR w r.rc.1 r.rc.2.2
 t1 : r.tg.2.2.length ≤ maxLen
 n1 : r.nd.2.2.length ≤ maxLen
 r1 : r.rc.2.2.length ≤ maxLen
 t2 : ∀ s ∈ r.tg.2.2, s.size ≤ K
 n2 : ∀ s ∈ r.nd.2.2, s.size ≤ K
 r2 : ∀ s ∈ r.rc.2.2, s.size ≤ K
theorem RlIn.below {K : Nat} {w w' : World} {r : Rl} (h : RlIn K w r) (hb : Below w.heap.size w w') : RlIn K w' r := ⟨h.tg.below hb, h.nd.below hb, h.rc.below hb, h.t1, h.n1, h.r1, h.t2, h.n2, h.r2⟩
theorem open_Rl {H : Type} {enc : TypeId × Value → H} {W : World} {K : Nat} (S : SmallD H K) {fuel : Nat} {cs : List Value} {y : DataW H × List MemPlace} (hlen : cs.length = 3) (hP : S.P 63 y.1) (hy : DataW.trod enc Tryz.prog W 0 (fun _ => true) true fuel 63 cs = some y) :
   ∃ r : Rl, cs = encRl r ∧ RlIn K W r := by
 obtain ⟨xs, k, hk, hxy, _, hxl, hf⟩ := DataW.trod_struct Tryz.underlying63 hy
 match xs, hxl, cs, hlen with
 | [y0, y1, y2], _, [v0, v1, v2], _ =>
   have hd := congrArg Prod.fst hxy
   simp only at hd
   rw [hd] at hP
   obtain ⟨a, ea, a1, a2, a3⟩ := open_SVD S (hf 0 _ rfl) (S.part (j := 0) Tryz.underlying63 hP rfl rfl)
   obtain ⟨b, eb, b1, b2, b3⟩ := open_SVD S (hf 1 _ rfl) (S.part (j := 1) Tryz.underlying63 hP rfl rfl)
   obtain ⟨c, ec, c1, c2, c3⟩ := open_SVD S (hf 2 _ rfl) (S.part (j := 2) Tryz.underlying63 hP rfl rfl)
   subst ea eb ec
   exact ⟨⟨a, b, c⟩, rfl, a1, b1, c1, a2, b2, c2, a3, b3, c3⟩
def RLI (K : Nat) (w : World) (A : Option Addr) (L : List Rl) : Prop := RG encRl 3 w A L ∧ ∀ r ∈ L, RlIn K w r
theorem RLI.below {K : Nat} {w w' : World} {A : Option Addr} {L : List Rl} (h : RLI K w A L) (hb : Below w.heap.size w w') : RLI K w' A L := ⟨h.1.below hb, fun r hr => (h.2 r hr).below hb⟩
theorem open_RLD {H : Type} {enc : TypeId × Value → H} {W : World} {K : Nat} (S : SmallD H K) {a0 : Option Addr} {len cap : Nat} {d : DataW H} {ps : List MemPlace} (h : DataW.Trod enc Tryz.prog W 0 (fun _ => true) true 23 (.slice a0 len cap) d ps) (hS : S.P 23 d) :
   ∃ L : List Rl, L.length = len ∧ L.length ≤ maxLen ∧ RLI K W a0 L := by
 obtain ⟨L, h1, h2, h3, h4⟩ := open_rowsD S (n := 3) Tryz.underlying23 (by kernel_rfl) (by omega) (fun w (r : Rl) cs => cs = encRl r ∧ RlIn K w r) (fun fuel cs y hlen hP hy => open_Rl S hlen hP hy) h hS
 refine ⟨L, h1, h2, fun k r hk => ?_, fun r hr => by obtain ⟨cs, hg⟩ := h3 r hr; exact hg.2⟩
 obtain ⟨g, o, cs, e, hg, _, hc, rfl, _⟩ := h4 k r hk
 exact ⟨g, o, e, hg, fun j v hj => hc j v hj⟩
theorem open_PRD {H : Type} {enc : TypeId × Value → H} {W : World} {K : Nat} (S : SmallD H K) {a0 : Option Addr} {len cap : Nat} {d : DataW H} {ps : List MemPlace} (h : DataW.Trod enc Tryz.prog W 0 (fun _ => true) true 22 (.slice a0 len cap) d ps) (hS : S.P 22 d) :
   ∃ L : List Pr, L.length = len ∧ L.length ≤ maxLen ∧ (∀ x ∈ L, x.1.size ≤ K ∧ x.2.size ≤ K) ∧ PR W a0 L := by
 obtain ⟨L, h1, h2, h3, h4⟩ := open_rowsD S (n := 2) Tryz.underlying22 (by kernel_rfl) (by omega) (fun _ (x : Pr) cs => cs = [.string x.1, .string x.2] ∧ x.1.size ≤ K ∧ x.2.size ≤ K) (fun fuel cs y hlen hP hy => by
   obtain ⟨xs, k, hk, hxy, _, hxl, hf⟩ := DataW.trod_struct Tryz.underlying65 hy
   match xs, hxl, cs, hlen with
   | [y0, y1], _, [v0, v1], _ =>
     have hd := congrArg Prod.fst hxy
     simp only at hd
     rw [hd] at hP
     obtain ⟨a, ea, a1, _⟩ := DataW.trod_string Tryz.underlying9 (hf 0 _ rfl)
     obtain ⟨b, eb, b1, _⟩ := DataW.trod_string Tryz.underlying9 (hf 1 _ rfl)
     have e0 : [v0] = [.string a] := ea
     have e1 : [v1] = [.string b] := eb
     obtain rfl : v0 = .string a := List.cons.inj e0 |>.1
     obtain rfl : v1 = .string b := List.cons.inj e1 |>.1
     subst a1 b1
     have p0 := S.str (S.part (j := 0) Tryz.underlying65 hP rfl rfl)
     have p1 := S.str (S.part (j := 1) Tryz.underlying65 hP rfl rfl)
     exact ⟨(a, b), rfl, by simpa using p0, by simpa using p1⟩) h hS
 refine ⟨L, h1, h2, fun s hs => by obtain ⟨cs, hg⟩ := h3 s hs; exact hg.2, fun k x hk => ?_⟩
 obtain ⟨g, o, cs, e, hg, _, hc, rfl, _⟩ := h4 k x hk
 exact ⟨g, o, e, hg, by have := hc 0 _ rfl; simpa using this, hc 1 _ rfl⟩
structure MkV where
 ma : Option Addr
 mc : Nat
 ml : List Pr
 ra : Option Addr
 rc : Nat
 rl : List Rl
def MkV.mv (x : MkV) : Value := .slice x.ma x.ml.length x.mc
def MkV.rv (x : MkV) : Value := .slice x.ra x.rl.length x.rc
structure MkIn (K : Nat) (w : World) (x : MkV) : Prop where
 m1 : x.ml.length ≤ maxLen
 r1 : x.rl.length ≤ maxLen
 m2 : ∀ p ∈ x.ml, p.1.size ≤ K ∧ p.2.size ≤ K
 mr : PR w x.ma x.ml
 rr : RLI K w x.ra x.rl
theorem MkIn.below {K : Nat} {w w' : World} {x : MkV} (h : MkIn K w x) (hb : Below w.heap.size w w') : MkIn K w' x := ⟨h.m1, h.r1, h.m2, h.mr.below hb, h.rr.below hb⟩
theorem open_MK {H : Type} {enc : TypeId × Value → H} {W : World} {K : Nat} (S : SmallD H K) {fuel : Nat} {cs : List Value} {y : DataW H × List MemPlace} (hlen : cs.length = 2) (hP : S.P 25 y.1) (hy : DataW.trod enc Tryz.prog W 0 (fun _ => true) true fuel 25 cs = some y) :
   ∃ x : MkV, cs = [x.mv, x.rv] ∧ MkIn K W x := by
 obtain ⟨xs, k, hk, hxy, _, hxl, hf⟩ := DataW.trod_struct Tryz.underlying25 hy
 match xs, hxl, cs, hlen with
 | [y0, y1], _, [v0, v1], _ =>
   have hd := congrArg Prod.fst hxy
   simp only at hd
   rw [hd] at hP
   have f0 : DataW.trod enc Tryz.prog W 0 (fun _ => true) true k 22 [v0] = some y0 := hf 0 _ rfl
   have f1 : DataW.trod enc Tryz.prog W 0 (fun _ => true) true k 23 [v1] = some y1 := hf 1 _ rfl
   obtain ⟨A, l0, c, rfl⟩ := slice_of Tryz.underlying22 f0
   obtain ⟨B, l1, c1, rfl⟩ := slice_of Tryz.underlying23 f1
   obtain ⟨ML, rfl, m1, m2, mr⟩ := open_PRD S (show DataW.Trod enc Tryz.prog W 0 (fun _ => true) true 22 (.slice A l0 c) y0.1 y0.2 from ⟨k, f0⟩) (S.part (j := 0) Tryz.underlying25 hP rfl rfl)
   obtain ⟨RL, rfl, r1, rr⟩ := open_RLD S (show DataW.Trod enc Tryz.prog W 0 (fun _ => true) true 23 (.slice B l1 c1) y1.1 y1.2 from ⟨k, f1⟩) (S.part (j := 1) Tryz.underlying25 hP rfl rfl)
   exact ⟨⟨A, c, ML, B, c1, RL⟩, rfl, m1, r1, m2, mr, rr⟩
end
section
open Go.RowKit Go.Deep
attribute [local go_sem] bt_eq
def szS (L : List ByteArray) : Nat := (L.map ByteArray.size).sum
def rlMany (r : Rl) : Bool := decide (20 < r.tg.2.2.length) || decide (20 < r.nd.2.2.length) || decide (20 < r.rc.2.2.length)
def rlSize (r : Rl) : Nat := szS r.tg.2.2 + szS r.nd.2.2 + szS r.rc.2.2
def rlsSize (L : List Rl) : Nat := (L.map rlSize).sum
def prSize (L : List Pr) : Nat := (L.map fun p => p.2.size).sum
def bigM (ml : List Pr) (M : List Rl) : Bool := (M.take 60).any rlMany || (decide (40 < M.length) || (decide (40 < ml.length) || decide (4000 < rlsSize (M.take 60) + prSize (ml.take 60))))
theorem szS_take {L : List ByteArray} {k : Nat} {x : ByteArray} (h : L[k]? = some x) : szS (L.take (k + 1)) = szS (L.take k) + x.size := by
 unfold szS
 rw [List.take_add_one, h]
 simp
theorem rls_take {L : List Rl} {k : Nat} {x : Rl} (h : L[k]? = some x) : rlsSize (L.take (k + 1)) = rlsSize (L.take k) + rlSize x := by
 unfold rlsSize
 rw [List.take_add_one, h]
 simp
theorem pr_take {L : List Pr} {k : Nat} {x : Pr} (h : L[k]? = some x) : prSize (L.take (k + 1)) = prSize (L.take k) + x.2.size := by
 unfold prSize
 rw [List.take_add_one, h]
 simp
theorem szS_le {L : List ByteArray} {K : Nat} (h : ∀ s ∈ L, s.size ≤ K) : szS L ≤ L.length * K := by
 induction L with
 | nil => simp [szS]
 | cons x L ih =>
   have h1 := ih (fun s hs => h s (List.mem_cons_of_mem _ hs))
   have h2 := h x (List.mem_cons_self ..)
   unfold szS at h1 ⊢
   rw [List.map_cons, List.sum_cons, List.length_cons, Nat.add_mul]
   omega
theorem szS_mem {L : List ByteArray} {s : ByteArray} (h : s ∈ L) : s.size ≤ szS L := by
 induction L with
 | nil => cases h
 | cons x L ih =>
   unfold szS at ih ⊢
   rw [List.map_cons, List.sum_cons]
   rcases List.mem_cons.1 h with rfl | h
   · omega
   · have := ih h; omega
theorem rls_mem {L : List Rl} {r : Rl} (h : r ∈ L) : rlSize r ≤ rlsSize L := by
 induction L with
 | nil => cases h
 | cons x L ih =>
   unfold rlsSize at ih ⊢
   rw [List.map_cons, List.sum_cons]
   rcases List.mem_cons.1 h with rfl | h
   · omega
   · have := ih h; omega
structure SmallM (ml : List Pr) (M : List Rl) : Prop where
 rules : M.length ≤ 40
 macros : ml.length ≤ 40
 tg : ∀ r ∈ M, r.tg.2.2.length ≤ 20
 nd : ∀ r ∈ M, r.nd.2.2.length ≤ 20
 rc : ∀ r ∈ M, r.rc.2.2.length ≤ 20
 size : rlsSize M + prSize ml ≤ 4000
theorem bigM_no {ml : List Pr} {M : List Rl} (h : bigM ml M = false) : SmallM ml M := by
 unfold bigM at h
 simp only [Bool.or_eq_false_iff, decide_eq_false_iff_not] at h
 obtain ⟨h1, h2, h3, h4⟩ := h
 rw [List.take_of_length_le (by omega)] at h1 h4
 rw [List.take_of_length_le (show ml.length ≤ 60 by omega)] at h4
 have hm : ∀ r ∈ M, ¬ 20 < r.tg.2.2.length ∧ ¬ 20 < r.nd.2.2.length ∧ ¬ 20 < r.rc.2.2.length := fun r hr => by
   have := List.any_eq_false.1 h1 r hr
   unfold rlMany at this
   simp only [Bool.or_eq_true, decide_eq_true_eq, not_or] at this
   exact ⟨this.1.1, this.1.2, this.2⟩
 exact ⟨by omega, by omega, fun r hr => by have := (hm r hr).1; omega, fun r hr => by have := (hm r hr).2.1; omega, fun r hr => by have := (hm r hr).2.2; omega, by omega⟩
theorem SmallM.tgz {ml : List Pr} {M : List Rl} (h : SmallM ml M) : ∀ r ∈ M, ∀ s ∈ r.tg.2.2, s.size ≤ 4000 := fun r hr s hs => by
 have h1 := rls_mem hr
 have h2 := szS_mem hs
 have h3 := h.size
 unfold rlSize at h1
 omega
theorem SmallM.ndz {ml : List Pr} {M : List Rl} (h : SmallM ml M) : ∀ r ∈ M, ∀ s ∈ r.nd.2.2, s.size ≤ 4000 := fun r hr s hs => by
 have h1 := rls_mem hr
 have h2 := szS_mem hs
 have h3 := h.size
 unfold rlSize at h1
 omega
theorem SmallM.special {ml : List Pr} {M : List Rl} (h : SmallM ml M) (name : ByteArray) : (specialR M name).length ≤ 800 := by
 have key : ∀ N : List Rl, (∀ r ∈ N, r.nd.2.2.length ≤ 20) → (specialR N name).length ≤ N.length * 20 := fun N hN => by
   induction N with
   | nil => simp [specialR]
   | cons x N ih =>
     have h1 := ih (fun r hr => hN r (List.mem_cons_of_mem _ hr))
     have h2 := hN x (List.mem_cons_self ..)
     unfold specialR at h1 ⊢
     rw [List.flatMap_cons, List.length_append, List.length_cons, Nat.add_mul]
     have : (if ofR name x = true then x.nd.2.2 else []).length ≤ 20 := by split <;> first | exact h2 | exact Nat.zero_le _
     omega
 have := key M h.nd
 have := h.rules
 omega
theorem SmallM.rls {K : Nat} {ml : List Pr} {M : List Rl} (h : SmallM ml M) {w : World} {A : Option Addr} (hr : RLI K w A M) : RLS w A M :=
 ⟨hr.1, fun r hm => ⟨(hr.2 r hm).tg, (hr.2 r hm).nd, (hr.2 r hm).rc, by have := h.tg r hm; omega, by have := h.nd r hm; omega, by have := h.rc r hm; omega⟩⟩
theorem bigM_any (K : Nat) (hK : K ≤ 140737488355328) (x : MkV) (w : World) (h : MkIn K w x) :
   Calls Tryz.prog 8 #[.agg #[x.mv, x.rv]] w fun e w' => e = .returned (.bool (bigM x.ml x.rl)) ∧ Below w.heap.size w w' := by
 obtain ⟨ma, mc, ml, ra, rc, M⟩ := x
 have HI := hide h
 have hml : ml.length ≤ 9223372036854775807 := h.m1
 have hrl : M.length ≤ 9223372036854775807 := h.r1
 unfold MkV.mv MkV.rv
 simp only
 obtain ⟨n, hn⟩ : ∃ n, M.length = n := ⟨_, rfl⟩
 obtain ⟨p, hp⟩ : ∃ n, ml.length = n := ⟨_, rfl⟩
 have HN := hide hn
 have HP := hide hp
 rw [hn] at hrl ⊢
 rw [hp] at hml ⊢
 have HQ : Hid (bigM ml M = ((M.take 60).any rlMany || (decide (40 < n) || (decide (40 < p) || decide (4000 < rlsSize (M.take 60) + prSize (ml.take 60)))))) := hide (by unfold bigM; rw [hn, hp])
 have hn1 : (n : Int) ≤ 9223372036854775807 := by omega
 have hp1 : (p : Int) ≤ 9223372036854775807 := by omega
 clear h hn hp
 have HB0 := hide ((Below.refl w.heap.size w).alloc (Nat.le_refl _) (.cells #[.slice ma p mc, .slice ra n rc] 25))
 have HNB := hide (heapNew w (.cells #[.slice ma p mc, .slice ra n rc] 25))
 go_enter Tryz.func8, Tryz.ntmps8
 go_wp2
 generalize w.alloc (.cells #[.slice ma p mc, .slice ra n rc] 25) = W at HB0 HNB ⊢
 go_loopw [3, 4, 5, 6, 7, 8] (fun v3 v4 _ _ _ _ wr => ∃ k : Nat, v4 = .int .i64 k ∧ k ≤ n ∧ k ≤ 60 ∧ v3 = .int .i64 (rlsSize (M.take k)) ∧ Hid (rlsSize (M.take k) ≤ k * 8444249301319680 ∧ (M.take k).any rlMany = false) ∧ Below w.heap.size w wr ∧ wr.heap[w.heap.size]? = some (.cells #[.slice ma p mc, .slice ra n rc] 25)) (fun _ v4 _ _ _ _ _ => n - (intOf v4).toNat)
 case atStart => exact ⟨0, rfl, by omega, by omega, by simp [rlsSize], hide ⟨by simp [rlsSize], by simp⟩, HB0.out, HNB.out⟩
 case round =>
   obtain ⟨wo, hwo⟩ : ∃ Z, Z = wr := ⟨_, rfl⟩
   subst hwo
   obtain ⟨k, rfl, hk, hk6, rfl, HR, hb, hnb⟩ := hrel
   have HB := hide hb
   have HH := hide hnb
   have m0 := cellOf' hnb (j := 0) rfl
   have m1 := cellOf' hnb (j := 1) rfl
   have hlw := (Array.getElem?_eq_some_iff.1 hnb).1
   have hnk : (k : Int) ≤ 60 := by omega
   clear hb hnb
   by_cases hin : k < n ∧ k < 60
   case neg =>
     have HZ := hide (show rlsSize (M.take k) = rlsSize (M.take 60) ∧ (M.take k).any rlMany = (M.take 60).any rlMany by
       by_cases h6 : k = 60
       · rw [h6]; exact ⟨rfl, rfl⟩
       · have : k = n := by omega
         rw [List.take_of_length_le (show M.length ≤ k by have := HN.out; omega), List.take_of_length_le (show M.length ≤ 60 by have := HN.out; omega)]
         exact ⟨rfl, rfl⟩)
     have hz := HR.out.1
     obtain ⟨z, hzz⟩ : ∃ z, rlsSize (M.take k) = z := ⟨_, rfl⟩
     rw [hzz] at hz ⊢
     have hz1 : (z : Int) ≤ 506654958079180800 := by omega
     have HZZ := hide (show z = rlsSize (M.take 60) ∧ (M.take 60).any rlMany = false from ⟨hzz ▸ HZ.out.1, HZ.out.2 ▸ HR.out.2⟩)
     have HM2 := hide HI.out.m2
     have HMR := hide (HI.out.mr.below HB.out)
     have hsp : ∀ j, j ≤ 60 → prSize (ml.take j) ≤ 8444249301319680 := fun j hj => by
       have key : ∀ N : List Pr, (∀ x ∈ N, x.2.size ≤ K) → prSize N ≤ N.length * K := fun N hN => by
         induction N with
         | nil => simp [prSize]
         | cons x N ih =>
           have h1 := ih (fun s hs => hN s (List.mem_cons_of_mem _ hs))
           have h2 := hN x (List.mem_cons_self ..)
           unfold prSize at h1 ⊢
           rw [List.map_cons, List.sum_cons, List.length_cons, Nat.add_mul]
           omega
       have h1 := key (ml.take j) (fun x hx => (HM2.out x (List.mem_of_mem_take hx)).2)
       have h2 : (ml.take j).length * K ≤ 60 * 140737488355328 := Nat.mul_le_mul (by rw [List.length_take]; omega) hK
       omega
     have HSP := hide hsp
     have hex : (¬ (k : Int) < (n : Int)) ∨ ((k : Int) < (n : Int) ∧ ¬ (k : Int) < 60) := by omega
     clear hsp hzz hz hin hnk
     rcases hex with q1 | ⟨q1, q2⟩
     all_goals
       go_wp2
       go_loop [3, 9] (fun v3 v9 => ∃ j : Nat, v9 = .int .i64 j ∧ j ≤ p ∧ j ≤ 60 ∧ v3 = .int .i64 ((z : Int) + (prSize (ml.take j) : Int))) (fun _ v9 => p - (intOf v9).toNat)
       case atStart => exact ⟨0, rfl, by omega, by omega, by simp [prSize]⟩
       case round =>
         obtain ⟨j, rfl, hj, hj6, rfl⟩ := hrel
         by_cases hjn : j < p ∧ j < 60
         case neg =>
           have HE := hide (show prSize (ml.take j) = prSize (ml.take 60) by
             by_cases h6 : j = 60
             · rw [h6]
             · have : j = p := by omega
               rw [List.take_of_length_le (show ml.length ≤ j by have := HP.out; omega), List.take_of_length_le (show ml.length ≤ 60 by have := HP.out; omega)])
           have hu := HSP.out j hj6
           obtain ⟨u, huu⟩ : ∃ u, prSize (ml.take j) = u := ⟨_, rfl⟩
           rw [huu] at hu HE ⊢
           have HF := hide (show bigM ml M = (decide (40 < n) || (decide (40 < p) || decide (4000 < z + u))) by rw [HQ.out, HZZ.out.2, HE.out, HZZ.out.1]; rfl)
           have hex2 : (¬ (j : Int) < (p : Int)) ∨ ((j : Int) < (p : Int) ∧ ¬ (j : Int) < 60) := by omega
           clear huu hjn
           rcases hex2 with r1 | ⟨r1, r2⟩
           all_goals
             by_cases f1 : 40 < n
             · have D1 : decide ((40 : Int) < (n : Int)) = true := by simp; omega
               have D1' : decide (40 < n) = true := by simpa using f1
               have HX := hide (show bigM ml M = true by rw [HF.out, D1']; rfl)
               clear f1
               go_wp2
               go_ret
               rw [HX.out]
               exact ⟨rfl, HB.out⟩
             · have D1 : decide ((40 : Int) < (n : Int)) = false := by simp; omega
               have D1' : decide (40 < n) = false := by simpa using f1
               by_cases f2 : 40 < p
               · have D2 : decide ((40 : Int) < (p : Int)) = true := by simp; omega
                 have D2' : decide (40 < p) = true := by simpa using f2
                 have HX := hide (show bigM ml M = true by rw [HF.out, D2']; simp)
                 clear f1 f2
                 go_wp2
                 go_ret
                 rw [HX.out]
                 exact ⟨rfl, HB.out⟩
               · have D2 : decide ((40 : Int) < (p : Int)) = false := by simp; omega
                 have D2' : decide (40 < p) = false := by simpa using f2
                 by_cases f3 : 4000 < z + u
                 · have D3 : decide ((4000 : Int) < (z : Int) + (u : Int)) = true := by simp; omega
                   have D3' : decide (4000 < z + u) = true := by simpa using f3
                   have HX := hide (show bigM ml M = true by rw [HF.out, D3']; simp)
                   clear f1 f2 f3
                   go_wp2
                   go_ret
                   rw [HX.out]
                   exact ⟨rfl, HB.out⟩
                 · have D3 : decide ((4000 : Int) < (z : Int) + (u : Int)) = false := by simp; omega
                   have D3' : decide (4000 < z + u) = false := by simpa using f3
                   have HX := hide (show bigM ml M = false by rw [HF.out, D1', D2', D3']; rfl)
                   clear f1 f2 f3
                   go_wp2
                   go_ret
                   rw [HX.out]
                   exact ⟨rfl, HB.out⟩
         obtain ⟨y, hy⟩ : ∃ y, ml[j]? = some y := ⟨ml[j]'(by have := HP.out; omega), gE _⟩
         obtain ⟨g, o, rfl, hg, hc1, hc2⟩ := HMR.out j y hy
         have ht := pr_take hy
         have hs1 := HSP.out (j + 1) (by omega)
         rw [ht] at hs1
         have HTK := hide ht
         have b1 : (j : Int) < (p : Int) := by omega
         have b2 : (j : Int) < 60 := by omega
         have b3 : (prSize (ml.take j) : Int) + (y.2.size : Int) ≤ 8444249301319680 := by omega
         clear hy ht hs1 hjn
         go_wp2
         go_round
         case rel => exact ⟨j + 1, by go_num, by omega, by omega, by rw [HTK.out]; go_num⟩
         case measure => simp [intOf]; omega
   obtain ⟨hkn, hk60⟩ := hin
   obtain ⟨r, hr⟩ : ∃ r, M[k]? = some r := ⟨M[k]'(by have := HN.out; omega), gE _⟩
   obtain ⟨⟨ta, tc, tl⟩, ⟨na, nc, nl⟩, ⟨ca, cc, cl⟩⟩ := r
   have har := HI.out.rr.below HB.out
   obtain ⟨g, o, rfl, hg, hc⟩ := har.1 k _ hr
   have hri := har.2 _ (List.mem_of_getElem? hr)
   have c0 : wo.cell? ⟨g, o + k * 3, none⟩ = some (.slice ta tl.length tc) := by have := hc 0 _ rfl; simpa [sv] using this
   have c1 : wo.cell? ⟨g, o + k * 3 + 1, none⟩ = some (.slice na nl.length nc) := hc 1 _ rfl
   have c2 : wo.cell? ⟨g, o + k * 3 + 2, none⟩ = some (.slice ca cl.length cc) := hc 2 _ rfl
   have HTG := hide (show SR wo ta tl from hri.tg)
   have HND := hide (show SR wo na nl from hri.nd)
   have HRC := hide (show SR wo ca cl from hri.rc)
   have szb : ∀ N : List ByteArray, (∀ s ∈ N, s.size ≤ K) → N.length ≤ 20 → ∀ j, szS (N.take j) ≤ 2814749767106560 := fun N hN hl j => by
     have h1 := szS_le (L := N.take j) (fun s hs => hN s (List.mem_of_mem_take hs))
     have h2 : (N.take j).length * K ≤ 20 * 140737488355328 := Nat.mul_le_mul (by rw [List.length_take]; omega) hK
     omega
   have HS1 := hide (szb tl hri.t2)
   have HS2 := hide (szb nl hri.n2)
   have HS3 := hide (szb cl hri.r2)
   have htk : rlsSize (M.take (k + 1)) = rlsSize (M.take k) + (szS tl + szS nl + szS cl) := rls_take hr
   have hat : (M.take (k + 1)).any rlMany = ((M.take k).any rlMany || (decide (20 < tl.length) || decide (20 < nl.length) || decide (20 < cl.length))) := by rw [List.take_add_one, hr]; simp [rlMany]
   have hmk : rlMany ⟨(ta, tc, tl), (na, nc, nl), (ca, cc, cl)⟩ = true → bigM ml M = true := fun hm => by
     rw [HQ.out]
     have : (M.take 60).any rlMany = true := by
       rw [List.any_eq_true]
       refine ⟨_, List.mem_of_getElem? (i := k) ?_, hm⟩
       rw [List.getElem?_take_of_lt hk60]
       exact hr
     rw [this]; rfl
   have hmk' : (decide (20 < tl.length) || decide (20 < nl.length) || decide (20 < cl.length)) = true → bigM ml M = true := hmk
   have l1 : tl.length ≤ 9223372036854775807 := hri.t1
   have l2 : nl.length ≤ 9223372036854775807 := hri.n1
   have l3 : cl.length ≤ 9223372036854775807 := hri.r1
   obtain ⟨t, htl⟩ : ∃ q, tl.length = q := ⟨_, rfl⟩
   obtain ⟨d, hnl⟩ : ∃ q, nl.length = q := ⟨_, rfl⟩
   obtain ⟨c, hcl⟩ : ∃ q, cl.length = q := ⟨_, rfl⟩
   rw [htl] at c0 HS1 hat hmk' l1
   rw [hnl] at c1 HS2 hat hmk' l2
   rw [hcl] at c2 HS3 hat hmk' l3
   have HTK := hide htk
   have HAT := hide hat
   have HMK := hide hmk'
   have HTL := hide htl
   have HNL := hide hnl
   have HCL := hide hcl
   have b1 : (k : Int) < (n : Int) := by omega
   have b2 : (k : Int) < 60 := by omega
   have hce := HB.out.size
   have HBX := hide (HB.out.alloc hce (.cells #[.slice ta t tc, .slice na d nc, .slice ca c cc] 63))
   have HNX := hide (heapNew wo (.cells #[.slice ta t tc, .slice na d nc, .slice ca c cc] 63))
   have HBY := hide ((Below.refl wo.heap.size wo).alloc (Nat.le_refl _) (.cells #[.slice ta t tc, .slice na d nc, .slice ca c cc] 63))
   have hz := HR.out.1
   obtain ⟨z, hzz⟩ : ∃ z, rlsSize (M.take k) = z := ⟨_, rfl⟩
   rw [hzz] at hz HTK ⊢
   have HZZ := hide (show (M.take k).any rlMany = false ∧ z ≤ k * 8444249301319680 from ⟨HR.out.2, hz⟩)
   have hz1 : (z : Int) ≤ 506654958079180800 := by omega
   clear hr har hc hri szb htk hat hmk hmk' htl hnl hcl hzz hz
   by_cases e1 : 20 < t
   · have e1i : (20 : Int) < (t : Int) := by omega
     have HX := hide (HMK.out (by rw [decide_eq_true e1]; rfl))
     clear e1
     go_wp2
     go_ret
     rw [HX.out]
     exact ⟨rfl, HBX.out⟩
   have e1i : ¬ (20 : Int) < (t : Int) := by omega
   by_cases e2 : 20 < d
   · have e2i : (20 : Int) < (d : Int) := by omega
     have HX := hide (HMK.out (by rw [decide_eq_true e2]; simp))
     clear e1 e2
     go_wp2
     go_ret
     rw [HX.out]
     exact ⟨rfl, HBX.out⟩
   have e2i : ¬ (20 : Int) < (d : Int) := by omega
   by_cases e3 : 20 < c
   · have e3i : (20 : Int) < (c : Int) := by omega
     have HX := hide (HMK.out (by rw [decide_eq_true e3]; simp))
     clear e1 e2 e3
     go_wp2
     go_ret
     rw [HX.out]
     exact ⟨rfl, HBX.out⟩
   have e3i : ¬ (20 : Int) < (c : Int) := by omega
   have HAN := hide (show (M.take (k + 1)).any rlMany = false by rw [HAT.out, HZZ.out.1, decide_eq_false e1, decide_eq_false e2, decide_eq_false e3]; rfl)
   have HS1' := hide (HS1.out (by omega))
   have HS2' := hide (HS2.out (by omega))
   have HS3' := hide (HS3.out (by omega))
   have t20 : (t : Int) ≤ 20 := by omega
   have d20 : (d : Int) ≤ 20 := by omega
   have c20 : (c : Int) ≤ 20 := by omega
   clear HS1 HS2 HS3 e1 e2 e3 HMK
   go_wp2
   generalize hWX : wo.alloc (.cells #[.slice ta t tc, .slice na d nc, .slice ca c cc] 63) = W1 at HBX HNX HBY ⊢
   have r0 := cellOf' HNX.out (j := 0) rfl
   have r1 := cellOf' HNX.out (j := 1) rfl
   have r2 := cellOf' HNX.out (j := 2) rfl
   have HTG1 := hide (HTG.out.below HBY.out)
   have HND1 := hide (HND.out.below HBY.out)
   have HRC1 := hide (HRC.out.below HBY.out)
   have HH1 := hide ((HBY.out.block _ hlw).trans HH.out)
   clear hWX c0 c1 c2 m0 m1
   go_loop [3, 6] (fun v3 v6 => ∃ j : Nat, v6 = .int .i64 j ∧ j ≤ t ∧ v3 = .int .i64 ((z : Int) + (szS (tl.take j) : Int))) (fun _ v6 => t - (intOf v6).toNat)
   case atStart => exact ⟨0, rfl, by omega, by simp [szS]⟩
   case round =>
     obtain ⟨j, rfl, hj, rfl⟩ := hrel
     by_cases hjn : j < t
     · obtain ⟨y, hy⟩ : ∃ y, tl[j]? = some y := ⟨tl[j]'(by have := HTL.out; omega), gE _⟩
       obtain ⟨gy, oy, rfl, hgy, hcy⟩ := HTG1.out j y hy
       have ht := szS_take hy
       have hs1 := HS1'.out (j + 1)
       rw [ht] at hs1
       have HTJ := hide ht
       have b1 : (j : Int) < (t : Int) := by omega
       have b3 : (szS (tl.take j) : Int) + (y.size : Int) ≤ 2814749767106560 := by omega
       clear hy ht hs1
       go_wp2
       go_round
       case rel => exact ⟨j + 1, by go_num, by omega, by rw [HTJ.out]; go_num⟩
       case measure => simp [intOf]; omega
     obtain rfl : j = t := by omega
     rw [List.take_of_length_le (show tl.length ≤ j by have := HTL.out; omega)]
     have hsa := HS1'.out j
     rw [List.take_of_length_le (show tl.length ≤ j by have := HTL.out; omega)] at hsa
     obtain ⟨sa, hsusa⟩ : ∃ q, szS tl = q := ⟨_, rfl⟩
     rw [hsusa] at hsa HTK ⊢
     have hsai : (sa : Int) ≤ 2814749767106560 := by omega
     clear hsusa hjn
     go_wp2
     go_loop [3, 7] (fun v3 v7 => ∃ j : Nat, v7 = .int .i64 j ∧ j ≤ d ∧ v3 = .int .i64 ((z : Int) + (sa : Int) + (szS (nl.take j) : Int))) (fun _ v7 => d - (intOf v7).toNat)
     case atStart => exact ⟨0, rfl, by omega, by simp [szS]⟩
     case round =>
       obtain ⟨j, rfl, hj, rfl⟩ := hrel
       by_cases hjn : j < d
       · obtain ⟨y, hy⟩ : ∃ y, nl[j]? = some y := ⟨nl[j]'(by have := HNL.out; omega), gE _⟩
         obtain ⟨gy, oy, rfl, hgy, hcy⟩ := HND1.out j y hy
         have ht := szS_take hy
         have hs1 := HS2'.out (j + 1)
         rw [ht] at hs1
         have HTJ := hide ht
         have b1 : (j : Int) < (d : Int) := by omega
         have b3 : (szS (nl.take j) : Int) + (y.size : Int) ≤ 2814749767106560 := by omega
         clear hy ht hs1
         go_wp2
         go_round
         case rel => exact ⟨j + 1, by go_num, by omega, by rw [HTJ.out]; go_num⟩
         case measure => simp [intOf]; omega
       obtain rfl : j = d := by omega
       rw [List.take_of_length_le (show nl.length ≤ j by have := HNL.out; omega)]
       have hsb := HS2'.out j
       rw [List.take_of_length_le (show nl.length ≤ j by have := HNL.out; omega)] at hsb
       obtain ⟨sb, hsusb⟩ : ∃ q, szS nl = q := ⟨_, rfl⟩
       rw [hsusb] at hsb HTK ⊢
       have hsbi : (sb : Int) ≤ 2814749767106560 := by omega
       clear hsusb hjn
       go_wp2
       go_loop [3, 8] (fun v3 v8 => ∃ j : Nat, v8 = .int .i64 j ∧ j ≤ c ∧ v3 = .int .i64 ((z : Int) + (sa : Int) + (sb : Int) + (szS (cl.take j) : Int))) (fun _ v8 => c - (intOf v8).toNat)
       case atStart => exact ⟨0, rfl, by omega, by simp [szS]⟩
       case round =>
         obtain ⟨j, rfl, hj, rfl⟩ := hrel
         by_cases hjn : j < c
         · obtain ⟨y, hy⟩ : ∃ y, cl[j]? = some y := ⟨cl[j]'(by have := HCL.out; omega), gE _⟩
           obtain ⟨gy, oy, rfl, hgy, hcy⟩ := HRC1.out j y hy
           have ht := szS_take hy
           have hs1 := HS3'.out (j + 1)
           rw [ht] at hs1
           have HTJ := hide ht
           have b1 : (j : Int) < (c : Int) := by omega
           have b3 : (szS (cl.take j) : Int) + (y.size : Int) ≤ 2814749767106560 := by omega
           clear hy ht hs1
           go_wp2
           go_round
           case rel => exact ⟨j + 1, by go_num, by omega, by rw [HTJ.out]; go_num⟩
           case measure => simp [intOf]; omega
         obtain rfl : j = c := by omega
         rw [List.take_of_length_le (show cl.length ≤ j by have := HCL.out; omega)]
         have hsc := HS3'.out j
         rw [List.take_of_length_le (show cl.length ≤ j by have := HCL.out; omega)] at hsc
         obtain ⟨sc, hsusc⟩ : ∃ q, szS cl = q := ⟨_, rfl⟩
         rw [hsusc] at hsc HTK ⊢
         have hsci : (sc : Int) ≤ 2814749767106560 := by omega
         clear hsusc hjn
         go_wp2
         go_roundw
         case rel => exact ⟨k + 1, by go_num, by omega, by omega, by rw [HTK.out]; go_num, hide ⟨by rw [HTK.out]; have := HZZ.out.2; omega, HAN.out⟩, HBX.out, HH1.out⟩
         case measure => simp [intOf]; omega
end
section
open Ln Pth Vf
theorem mem_needF {l : List ByteArray} {s y : ByteArray} (h : y ∈ needF l s) : y ∈ l ∨ y = s := by
 unfold needF at h
 split at h
 · exact .inl h
 · simpa using h
theorem mem_needsF : ∀ (n l : List ByteArray) {y : ByteArray}, y ∈ needsF l n → y ∈ l ∨ y ∈ n
 | [], l, y, h => .inl h
 | s :: n, l, y, h => by
   rcases mem_needsF n (needF l s) h with h | h
   · rcases mem_needF h with h | h
     · exact .inl h
     · exact .inr (by simp [h])
   · exact .inr (by simp [h])
theorem mem_gather {t : ByteArray} : ∀ (L : List Rl) (p : Pn) {y : ByteArray}, y ∈ (L.foldl (gatherF t) p).needs → y ∈ p.needs ∨ ∃ r ∈ L, y ∈ r.nd.2.2
 | [], p, y, h => .inl h
 | r :: L, p, y, h => by
   rcases mem_gather L (gatherF t p r) h with h | ⟨r', hr, h⟩
   · unfold gatherF at h
     split at h
     · rcases mem_needsF _ _ h with h | h
       · exact .inl h
       · exact .inr ⟨r, by simp, h⟩
     · exact .inl h
   · exact .inr ⟨r', by simp [hr], h⟩
theorem gather_len {t : ByteArray} {B : Nat} : ∀ (L : List Rl) (p : Pn), (∀ r ∈ L, r.nd.2.2.length ≤ B) → (L.foldl (gatherF t) p).needs.length ≤ p.needs.length + L.length * B
 | [], p, _ => by simp
 | r :: L, p, h => by
   have h1 := gather_len (t := t) (B := B) L (gatherF t p r) (fun x hx => h x (by simp [hx]))
   have h2 : (gatherF t p r).needs.length ≤ p.needs.length + B := by
     unfold gatherF
     split
     · have := needsF_len r.nd.2.2 p.needs
       have := h r (by simp)
       show (needsF _ _).length ≤ _
       omega
     · omega
   rw [List.foldl_cons, List.length_cons, Nat.succ_mul]
   omega
theorem firstO_mem {α β : Type} {f : α → Option β} {b : β} : ∀ {l : List α}, firstO f l = some b → ∃ a ∈ l, f a = some b
 | [], h => by cases h
 | a :: l, h => by
   rw [firstO] at h
   cases hf : f a with
   | some c => rw [hf] at h; exact ⟨a, by simp, by rw [hf]; exact h⟩
   | none =>
     rw [hf] at h
     obtain ⟨x, hx, e⟩ := firstO_mem h
     exact ⟨x, by simp [hx], e⟩
theorem fill_len (p st : T) : (fillT p st).length ≤ p.length + st.length := by
 by_cases h : 0 ≤ Lib.indexByte p 37
 · obtain ⟨k, hk⟩ := Int.eq_ofNat_of_zero_le h
   obtain ⟨h1, h2, h3, h4⟩ := cuts_at hk
   unfold fillT
   rw [if_neg (by simp [h1]), h2, h3, List.length_append, List.length_append, List.length_take, List.length_drop]
   omega
 · unfold fillT
   rw [if_pos (cuts_no h)]
   omega
theorem first_len {target : T} : ∀ {l : List ByteArray} {st : T}, firstF target l = some st → st.length ≤ target.length
 | [], st, h => by cases h
 | t :: l, st, h => by
   rw [firstF] at h
   split at h
   · injection h with h
     rw [← h]
     exact matchT_len _ _
   · exact first_len h
theorem plan_need (S : St) (cwd target : T) (L : List Rl) (B n : Nat) (h1 : ∀ r ∈ L, ∀ x ∈ r.tg.2.2, x.size ≤ B) (h2 : ∀ r ∈ L, ∀ x ∈ r.nd.2.2, x.size ≤ B) (h3 : ∀ r ∈ L, r.nd.2.2.length ≤ n) :
   (∀ y ∈ (planF S cwd L target).needs, y.size ≤ target.length + B) ∧ (planF S cwd L target).needs.length ≤ L.length * n + n + 1 := by
 have hg1 : ∀ y ∈ (gathersF (bs target) L).needs, y.size ≤ target.length + B := fun y hy => by
   rcases mem_gather L noPn hy with h | ⟨r, hr, h⟩
   · cases h
   · have := h2 r hr y h; omega
 have hg2 : (gathersF (bs target) L).needs.length ≤ L.length * n := by
   have := gather_len (t := bs target) L noPn h3
   have h0 : noPn.needs.length = 0 := rfl
   unfold gathersF
   omega
 unfold planF
 split
 · exact ⟨fun y hy => (by cases hy), by show (0 : Nat) ≤ _; omega⟩
 split
 · generalize gathersF (bs target) L = p at hg1 hg2
   unfold fitsF
   cases hp : firstO (pat1 S cwd (knownsF L) target p) L with
   | some q =>
     obtain ⟨r, hr, e⟩ := firstO_mem hp
     dsimp only
     unfold pat1 at e
     split at e
     · cases e
     split at e
     · cases e
     unfold patO at e
     cases hf : firstF target r.tg.2.2 with
     | none => rw [hf] at e; cases e
     | some st =>
       rw [hf] at e
       dsimp only at e
       split at e
       · injection e with e
         subst e
         have hfl : ∀ y ∈ fillsF r st, y.size ≤ target.length + B := fun y hy => by
           unfold fillsF at hy
           obtain ⟨s, hs, rfl⟩ := List.mem_map.1 hy
           have ha := fill_len s.data.toList st
           have hb := h2 r hr s hs
           have hc := first_len hf
           rw [bs_size]
           rw [data_len] at ha
           omega
         have hfn : (fillsF r st).length ≤ n := by unfold fillsF; rw [List.length_map]; exact h3 r hr
         refine ⟨fun y hy => ?_, ?_⟩
         · rcases mem_needsF _ _ hy with h | h
           · exact hg1 y h
           · exact hfl y h
         · have := needsF_len (fillsF r st) p.needs
           show (needsF _ _).length ≤ _
           omega
       · cases e
   | none =>
     dsimp only
     cases hs : firstO (suf1 S cwd (knownsF L) target (specialR L suffixes) p) L with
     | some q =>
       obtain ⟨r, hr, e⟩ := firstO_mem hs
       dsimp only
       rw [suf1_eq] at e
       cases hq : sufF S cwd (knownsF L) target (specialR L suffixes) r with
       | none => rw [hq] at e; cases e
       | some u =>
         rw [hq] at e
         injection e with e
         subst e
         have hu : u.1.length ≤ target.length + B := by
           unfold sufF at hq
           split at hq
           · cases hq
           rcases htg : r.tg.2.2 with _ | ⟨t, _ | ⟨t2, tl⟩⟩
           · rw [htg] at hq; cases hq
           · rw [htg] at hq
             dsimp only at hq
             split at hq
             · cases hq
             have htz := h1 r hr t (by rw [htg]; simp)
             have htw := (twoGo_len (B := B) (all := specialR L suffixes) (t := t.data.toList) (by rw [data_len]; exact htz) (specialR L suffixes) (fun x hx => by
               obtain ⟨r', hr', hx'⟩ := mem_special hx
               exact h2 r' hr' x hx')).1
             unfold sufQ at hq
             split at hq
             · cases hq
             split at hq
             · cases hq
             split at hq
             · cases hq
             split at hq
             · cases hq
             split at hq
             · cases hq
             injection hq with hq
             rw [← hq]
             dsimp only
             rw [List.length_append, List.length_take]
             unfold twoF at *
             omega
           · rw [htg] at hq; cases hq
         refine ⟨fun y hy => ?_, ?_⟩
         · rcases mem_needsF _ _ hy with h | h
           · exact hg1 y h
           · rw [List.mem_singleton.1 h, bs_size]; exact hu
         · have := needsF_len [bs u.1] p.needs
           show (needsF _ _).length ≤ _
           simp only [List.length_singleton] at this
           omega
     | none => exact ⟨hg1, by dsimp only; omega⟩
 · exact ⟨hg1, by omega⟩
end
section
open Go.RowKit Go.Deep Go.Maps Ln Pth Vf
theorem SmallM.knowns22 {ml : List Pr} {M : List Rl} (h : SmallM ml M) : (knownsF M).length ≤ 800 := by
 have h1 : ∀ L : List Rl, (∀ r ∈ L, r.tg.2.2.length ≤ 20) → (knownsF L).length ≤ L.length * 20 := by
   intro L
   induction L with
   | nil => intro _; simp [knownsF]
   | cons r L ih =>
     intro hb
     unfold knownsF at ih ⊢
     rw [List.flatMap_cons, List.length_append, List.length_cons]
     have := ih (fun r hr => hb r (by simp [hr]))
     have := hb r (by simp)
     split
     · omega
     · rw [List.length_nil]; omega
 have h2 := h1 M (fun r hr => h.tg r hr)
 have := h.rules
 omega
def gdZ (Z m : Nat) (x : ByteArray) : Prop := x.size ≤ Z + m * 4000
def plP (S : St) (cwd : T) (M : List Rl) (x : ByteArray) : Pn := planF S cwd M x.data.toList
def isP22 (S : St) (cwd : T) (x : ByteArray) : Bool := decide (kindT S cwd x.data.toList ≠ 0)
section
variable {w : World} {mac : Value} {A : Option Addr} {c : Nat} {ml : List Pr} {M : List Rl} {gf : Nat} {S : St} {cwd : T} {Z : Nat}
theorem need_small (hsm : SmallM ml M) (x : ByteArray) : (∀ y ∈ (plP S cwd M x).needs, y.size ≤ x.size + 4000) ∧ (plP S cwd M x).needs.length ≤ 821 := by
 obtain ⟨h1, h2⟩ := plan_need S cwd x.data.toList M 4000 20 hsm.tgz hsm.ndz (fun r hr => hsm.nd r hr)
 rw [data_len] at h1
 have := hsm.rules
 exact ⟨h1, by unfold plP; omega⟩
theorem next_small (hsm : SmallM ml M) : ∀ m x, m < 1000 → gdZ Z m x → ∀ y ∈ (plP S cwd M x).needs, gdZ Z (m + 1) y := fun m x _ hx y hy => by
 have h1 : y.size ≤ x.size + 4000 := (need_small (S := S) (cwd := cwd) hsm x).1 y hy
 have h2 : x.size ≤ Z + m * 4000 := hx
 show y.size ≤ Z + (m + 1) * 4000
 clear hy hx
 omega
theorem gh_small (hZ : Z ≤ 1500000) (hsm : SmallM ml M) (hM : RLS w A M) (hv : Hs (VS gf S) w) (hm : MX w) (hc : cwd.length ≤ 60) :
   GH w ⟨mac, .slice A M.length c, gf, bs cwd⟩ (plP S cwd M) (isP22 S cwd) (gdZ Z) := by
 have hml : M.length ≤ 1000 := by have := hsm.rules; omega
 have htz : ∀ r ∈ M, ∀ s ∈ r.tg.2.2, s.size ≤ 10000 := fun x hx s hs => Nat.le_trans (hsm.tgz x hx s hs) (by omega)
 have hnz : ∀ r ∈ M, plainR r.tg.2.2 = false → ∀ s ∈ r.nd.2.2, s.size ≤ 10000 := fun x hx _ s hs => Nat.le_trans (hsm.ndz x hx s hs) (by omega)
 have hss : ∀ s ∈ specialR M suffixes, s.size ≤ 10000 := fun s hs => by
   obtain ⟨x, hx, h⟩ := mem_special hs
   exact Nat.le_trans (hsm.ndz x hx s h) (by omega)
 have hkn : (knownsF M).length ≤ 100000 := Nat.le_trans hsm.knowns22 (by omega)
 have hsp : ∀ x, (specialR M x).length ≤ 100000 := fun x => Nat.le_trans (hsm.special x) (by omega)
 have hg : ∀ m x, m ≤ 1000 → gdZ Z m x → x.size ≤ 6000000 := fun m x hm1 hx => by unfold gdZ at hx; omega
 have hl : ∀ m x, m ≤ 1000 → gdZ Z m x → (planF S cwd M x.data.toList).needs.length ≤ 900000 := fun m x _ _ => Nat.le_trans (need_small (S := S) (cwd := cwd) hsm x).2 (by omega)
 have hmo : ∀ m x, gdZ Z m x → gdZ Z (m + 1) x := fun m x hx => by unfold gdZ at hx ⊢; omega
 exact gh_of w mac A c M gf S cwd (gdZ Z) hM hv hm (by omega) hml htz hnz hss hkn hsp hg (next_small hsm) hl hmo
theorem rgh_small {g : Nat} (hZ : Z ≤ 1500000) (hsm : SmallM ml M) (hM : RLS w A M) (hr : Hs (RS g S) w) (hsl : S.m.length ≤ 1000000) (hc : cwd.length ≤ 60) :
   RGH w ⟨mac, A, M.length, c, g, bs cwd⟩ (plP S cwd M) (isP22 S cwd) (gdZ Z) := by
 have htz : ∀ x ∈ M, ∀ s ∈ x.tg.2.2, s.size ≤ 10000 := fun x hx s hs => Nat.le_trans (hsm.tgz x hx s hs) (by omega)
 have hnz : ∀ x ∈ M, ∀ s ∈ x.nd.2.2, s.size ≤ 10000 := fun x hx s hs => Nat.le_trans (hsm.ndz x hx s hs) (by omega)
 refine ⟨fun m W x hm1 hx hb => ?_, fun m W x hm1 hx hb => ?_, next_small hsm, fun m x _ _ => by have := (need_small (S := S) (cwd := cwd) hsm x).2; omega, fun m x hx => by unfold gdZ at hx ⊢; omega⟩
 · have := rplan_any mac A c M g S cwd x.data.toList W ⟨hM.below hb, by have := hsm.rules; omega, htz, hnz, hr.below (RS.fr g _) hb, hsl, by omega⟩ (by rw [data_len]; unfold gdZ at hx; omega) (fun y => Nat.le_trans (hsm.special y) (by omega))
   rw [bs_of] at this
   exact this
 · refine (rkind18_any g S cwd x W (hr.below (RS.fr g _) hb) hsl (by omega) (by unfold gdZ at hx; omega)).mono ?_
   rintro e w' ⟨rfl, hb2⟩
   refine ⟨⟨_, rfl, ?_⟩, hb2⟩
   show decide (nodeK S cwd x ≠ 0) = _
   by_cases h : nodeK S cwd x = 0 <;> simp [h]
end
def ordL (z : Wk) : List ByteArray := if z.e = 0 then z.order else []
def OrZ (z : Wk) (w : World) (e : Ending) (w' : World) : Prop := ∃ (A : Option Addr) (k : Nat), e = .returned (.tuple #[.slice A (ordL z).length k, .int .i64 z.e]) ∧ SR w' A (ordL z) ∧ Below w.heap.size w w'
theorem ROrP.z {P : ByteArray → Pn} {is : ByteArray → Bool} {L : List ByteArray} {w w' : World} {e : Ending} (h : ROrP P is L w e w') : OrZ (L.foldl (fun s x => meetW P is true x s) wk0) w e w' := by
 obtain ⟨z, rfl, hb, A, k, rfl, hs⟩ := h
 unfold OrZ ordL
 by_cases h : (L.foldl (fun s x => meetW P is true x s) wk0).e = 0
 · exact ⟨A, k, by rw [if_pos h, if_pos h], by rw [if_pos h]; exact hs h, hb⟩
 · exact ⟨A, k, by rw [if_neg h, if_neg h]; rfl, by rw [if_neg h]; exact SR.nil _ _, hb⟩
theorem OrP.z {P : ByteArray → Pn} {is : ByteArray → Bool} {L : List ByteArray} {w w' : World} {e : Ending} (h : OrP P is L w e w') : OrZ (L.foldl (fun s x => meetW P is true x s) wk0) w e w' := by
 obtain ⟨r, c, hr, hb, A, k, rfl, hs⟩ := h
 obtain ⟨h1, h2⟩ := or_meet hr SeR.start (by simp [se0]) rfl
 unfold OrZ ordL
 by_cases h : c = 0
 · have h3 := (h2 h).1.order
   refine ⟨A, k, ?_, ?_, hb⟩
   · rw [if_pos h, h1, if_pos h, h3]
   · rw [h1, if_pos h, h3]; exact hs h
 · refine ⟨A, k, ?_, ?_, hb⟩
   · rw [if_neg h, h1, if_neg h]; rfl
   · rw [h1, if_neg h]; exact SR.nil _ _
theorem fold_invM {α β : Type} {f : α → β → α} {Q : α → Prop} : ∀ (l : List β), (∀ a, ∀ b ∈ l, Q a → Q (f a b)) → ∀ a : α, Q a → Q (l.foldl f a)
 | [], _, a, h => h
 | x :: l, hf, a, h => fold_invM l (fun a b hb => hf a b (by simp [hb])) _ (hf a x (by simp) h)
theorem seenF_gd {P : ByteArray → Pn} {Gd : Nat → ByteArray → Prop} (hn : ∀ m x, m < 1000 → Gd m x → ∀ y ∈ (P x).needs, Gd (m + 1) y) (hmo : ∀ m x, Gd m x → Gd (m + 1) x) : ∀ (n : Nat) (t : ByteArray) (l : List ByteArray), l.length ≤ 1000 → Gd l.length t → (∀ x ∈ l, Gd 1000 x) → ∀ x ∈ seenF P n t l, Gd 1000 x
 | 0, t, l, h, ht, hl => hl
 | n + 1, t, l, h, ht, hl => by
   have up : ∀ k m x, Gd m x → Gd (m + k) x := fun k => by
     induction k with
     | zero => exact fun m x h => h
     | succ k ih => exact fun m x h => hmo _ _ (ih m x h)
   have up2 : ∀ m k x, m ≤ k → Gd m x → Gd k x := fun m k x hk h => by
     have := up (k - m) m x h
     rwa [show m + (k - m) = k by omega] at this
   rw [seenF]
   split
   · exact hl
   · split
     · exact hl
     · rename_i c1 c2
       refine (fold_invM (f := fun l x => seenF P n x l) (Q := fun z => l.length + 1 ≤ z.length ∧ z.length ≤ 1000 ∧ ∀ x ∈ z, Gd 1000 x) (P t).needs (fun a b hb hq => ?_) (l ++ [t]) ?_).2.2
       · obtain ⟨q1, q2, q3⟩ := hq
         have h1 := seenF_len (P := P) n b a q2
         exact ⟨by omega, h1.2, seenF_gd hn hmo n b a q2 (up2 _ _ _ q1 (hn _ _ (by omega) ht b hb)) q3⟩
       · rw [List.length_append, List.length_singleton]
         refine ⟨Nat.le_refl _, by omega, fun x hx => ?_⟩
         rcases List.mem_append.1 hx with hx | hx
         · exact hl x hx
         · rw [List.mem_singleton.1 hx]
           exact up2 _ _ _ h ht
theorem seenA_gd {P : ByteArray → Pn} {Gd : Nat → ByteArray → Prop} (hn : ∀ m x, m < 1000 → Gd m x → ∀ y ∈ (P x).needs, Gd (m + 1) y) (hmo : ∀ m x, Gd m x → Gd (m + 1) x) (l : List ByteArray) (hg : ∀ x ∈ l, ∀ m, Gd m x) : ∀ x ∈ seenA P l [], Gd 1000 x :=
 (fold_invM (f := fun l x => seenW P x l) (Q := fun z => z.length ≤ 1000 ∧ ∀ x ∈ z, Gd 1000 x) l (fun a b hb hq => ⟨(seenF_len _ b a hq.1).2, seenF_gd hn hmo _ b a hq.1 (hg b hb _) hq.2⟩) [] ⟨by simp, by simp⟩).2
end
end Go.Proofs.YtaajofojbhdgaaaGreatDoor

namespace Go.Proofs.YtaajofojbhdgaaaGreatDoor
section
open Go.RowKit Go.Deep Go.Sort
theorem strVals_enc (F : List ByteArray) : strVals F = (F.map fun s => s.data.toList).map encStr := by
 unfold strVals
 rw [List.map_map]
 apply List.map_congr_left
 intro s _
 rfl
theorem enc_strVals (L : List (List UInt8)) : strVals (L.map fun l => (⟨l.toArray⟩ : ByteArray)) = L.map encStr := by
 unfold strVals
 rw [List.map_map]
 rfl
theorem sortOwn_any {w : World} {base : Nat} {v : Value} {F : List ByteArray} (h : OwnS w base v F) (hl : F.length ≤ 100000) :
   Calls Tryz.prog 44 #[v] w fun e w' => e = .returned (.tuple #[]) ∧ OwnS w' base v (((F.map fun s => s.data.toList).mergeSort fun x y => decide (x ≤ y)).map fun l => (⟨l.toArray⟩ : ByteArray)) ∧ w.grownBy w' v.ownBlock := by
 rcases h.2 with ⟨rfl, hn⟩ | ⟨g, cap, cur, rfl, hbg, hh, hc, hm, hs, ht⟩
 · have hF : F = [] := List.eq_nil_of_length_eq_zero hn
   subst hF
   exact (Tryz.slices_Sort_string_none none 0 w).mono fun e w' ⟨h1, h2⟩ => ⟨h1, by rw [h2]; simpa using OwnS.nil w base, by rw [h2]; exact World.grownBy.refl _ _⟩
 · have hlen : (F.map fun s => s.data.toList).length = F.length := by simp
   rw [Nat.mul_one] at ht
   have hH : Holds encStr w g 0 (F.map fun s => s.data.toList).toArray := holds_of_block hh (by rw [hlen, ht, strVals_enc])
   have := Tryz.slices_Sort_string g 0 cap (F.map fun s => s.data.toList) w hH (World.ownsRow.lt h g rfl).2 (by rw [hlen]; omega)
   rw [hlen] at this
   refine this.mono ?_
   rintro e w' ⟨rfl, n, os, rfl⟩
   refine ⟨rfl, ?_, grownBy_sorted _⟩
   have ho := ownsRow_sorted (n := n) (os := os) (ss := F.map fun s => s.data.toList) (ts := (F.map fun s => s.data.toList).mergeSort fun x y => decide (x ≤ y)) (by simp) hbg hh (by rw [hlen]; exact hc) hm hs
   unfold OwnS
   rw [enc_strVals]
   simpa using ho
end
section
open Go.RowKit Go.Deep Go.Sort
theorem revOwn_any {w : World} {base : Nat} {v : Value} {F : List ByteArray} (h : OwnS w base v F) (hl : F.length ≤ 100000000) :
   Calls Tryz.prog 43 #[v] w fun e w' => e = .returned (.tuple #[]) ∧ OwnS w' base v F.reverse ∧ w.grownBy w' v.ownBlock := by
 rcases h.2 with ⟨rfl, hn⟩ | ⟨g, cap, cur, rfl, hbg, hh, hc, hm, hs, ht⟩
 · have hF : F = [] := List.eq_nil_of_length_eq_zero hn
   subst hF
   exact (Tryz.slices_Reverse_string_empty none 0 w).mono fun e w' ⟨h1, h2⟩ => ⟨h1, by rw [h2]; simpa using OwnS.nil w base, by rw [h2]; exact World.grownBy.refl _ _⟩
 · have hlen : (F.map fun s => s.data.toList).length = F.length := by simp
   rw [Nat.mul_one] at ht
   have hH : Holds encStr w g 0 (F.map fun s => s.data.toList).toArray := holds_of_block hh (by rw [hlen, ht, strVals_enc])
   have := Tryz.slices_Reverse_string g 0 cap (F.map fun s => s.data.toList) w hH (by rw [hlen]; omega)
   rw [hlen] at this
   refine this.mono ?_
   rintro e w' ⟨rfl, n, rfl⟩
   refine ⟨rfl, ?_, ?_⟩
   · have ho := ownsRow_sorted (n := n) (os := #[]) (ss := F.map fun s => s.data.toList) (ts := (F.map fun s => s.data.toList).reverse) (by simp) hbg hh (by rw [hlen]; exact hc) hm hs
     rw [grow_empty] at ho
     unfold OwnS
     have e : (F.map fun s => s.data.toList).reverse.map encStr = strVals F.reverse := by rw [strVals_enc]; simp only [List.map_reverse]
     rw [e] at ho
     simpa using ho
   · have := grownBy_sorted (w := w) (g := g) (n := n) (os := #[]) (F.map fun s => s.data.toList).reverse.toArray
     rw [grow_empty] at this
     exact this
end
section
open Go.RowKit Go.Deep Go.Maps Ln Pth Vf
attribute [local go_sem] bt_eq mkMapB pfld0 pfld3
structure ReI (w0 : World) (v0 v1 : Value) (out way : List ByteArray) (vo vw : Value) (w : World) : Prop where
 below : Below w0.heap.size w0 w
 box : w.heap[w0.heap.size]? = some (.cells #[v0, v1] 25)
 met : MSet w (w0.heap.size + 1) out
 oo : OwnS w (w0.heap.size + 1 + 1) vo out
 ow : OwnS w (w0.heap.size + 1 + 1) vw way
 ap : ∀ k, vo.ownBlock = some k → vw.ownBlock ≠ some k
theorem ReI.step {w0 w w' : World} {v0 v1 : Value} {out way : List ByteArray} {vo vw : Value} (h : ReI w0 v0 v1 out way vo vw w) (hb : Below w.heap.size w w') : ReI w0 v0 v1 out way vo vw w' :=
 ⟨h.below.trans (hb.mono h.below.size), (hb.block _ (Array.getElem?_eq_some_iff.1 h.box).1).trans h.box, h.met.of (hb.block _ h.met.lt), ownsRow_of h.oo fun k hk => hb.block k (World.ownsRow.lt h.oo k hk).2, ownsRow_of h.ow fun k hk => hb.block k (World.ownsRow.lt h.ow k hk).2, h.ap⟩
theorem ReI.pop {w0 w : World} {v0 v1 : Value} {out way : List ByteArray} {vo : Value} {A : Option Addr} {n c : Nat} {t : ByteArray} (h : ReI w0 v0 v1 out (way ++ [t]) vo (.slice A n c) w) : n = way.length + 1 ∧ n ≤ c ∧ (∃ g, A = some ⟨g, 0, none⟩ ∧ g < w.heap.size ∧ w.cell? ⟨g, way.length, none⟩ = some (.string t)) ∧ ReI w0 v0 v1 out way vo (.slice A way.length c) w := by
 obtain ⟨A', c', e, hc, hs, ha⟩ := h.ow.slice
 injection e with e1 e2 e3
 subst e1 e2 e3
 obtain ⟨o1, o2, g, rfl⟩ := OwnS.init h.ow
 obtain ⟨g', o, e, hg, hcl⟩ := hs way.length t (by simp)
 injection e with e
 injection e with e1 e2
 subst e1 e2
 refine ⟨by simp, hc, ⟨g, rfl, hg, by simpa using hcl⟩, h.below, h.box, h.met, h.oo, o1, h.ap⟩
theorem ReI.meet {w0 w : World} {v0 v1 : Value} {out way : List ByteArray} {A0 : Option Addr} {n0 c0 : Nat} {vw : Value} (h : ReI w0 v0 v1 out way (.slice A0 n0 c0) vw w) {t : ByteArray} (hts : t.size ≤ 9223372036854775807) (hol : out.length < 1000) :
   ∃ w1, (Instr.mapUpdate 71 (.map (some (w0.heap.size + 1))) (.string t) (.bool true)).run Tryz.prog w = .ok () w1 ∧ ∃ A2 c2 w2,
     (Builtin.append_ #[39, 39] 39 #[.slice A0 n0 c0, .slice (some ⟨w1.heap.size, 0, none⟩) 1 1]).run Tryz.prog (w1.alloc (.cells #[.string t] 9)) = .ok (.slice A2 (n0 + 1) c2) w2 ∧ ReI w0 v0 v1 (out ++ [t]) way (.slice A2 (n0 + 1) c2) vw w2 := by
 obtain ⟨w1, r1, m1, k1, z1⟩ := h.met.add (by omega) hts
 have hbs := h.below.size
 have hml := h.met.lt
 have oo1 : OwnS w1 (w0.heap.size + 1 + 1) (.slice A0 n0 c0) out := ownsRow_of h.oo fun k hk => k1.block k (World.ownsRow.lt h.oo k hk).2 (by have := (World.ownsRow.lt h.oo k hk).1; omega)
 have ow1 : OwnS w1 (w0.heap.size + 1 + 1) vw way := ownsRow_of h.ow fun k hk => k1.block k (World.ownsRow.lt h.ow k hk).2 (by have := (World.ownsRow.lt h.ow k hk).1; omega)
 obtain ⟨v2, w2, r2, o2, g2, b2⟩ := run_appS (c := 1) (OwnS.alloc oo1 (.cells #[.string t] 9)) (sr_new w1 t) (by simp; omega) (by simp; omega)
 obtain ⟨A2, c2, rfl, hc2, _, _⟩ := o2.slice
 obtain ⟨A', c', e, _, _, _⟩ := h.oo.slice
 injection e with e1 e2 e3
 have hln : (out ++ [t]).length = n0 + 1 := by rw [List.length_append, List.length_singleton, e2]
 rw [hln] at r2 o2 b2
 refine ⟨w1, r1, A2, c2, w2, r2, ?_⟩
 have hvl : ∀ k, (Value.slice A0 n0 c0).ownBlock = some k → w0.heap.size + 1 + 1 ≤ k ∧ k < w.heap.size := fun k hk => World.ownsRow.lt h.oo k hk
 have hwl : ∀ k, vw.ownBlock = some k → w0.heap.size + 1 + 1 ≤ k ∧ k < w.heap.size := fun k hk => World.ownsRow.lt h.ow k hk
 have hb1 : Below w0.heap.size w0 (w1.alloc (.cells #[.string t] 9)) := (k1.below h.below (Nat.le_refl _) (fun k e => by omega)).alloc (by omega) _
 have key : ∀ k, k < w.heap.size → k ≠ w0.heap.size + 1 → (Value.slice A0 n0 c0).ownBlock ≠ some k → w2.heap[k]? = w.heap[k]? := fun k h1 h2 h3 => by
   rw [g2.block k (by simp; omega) (fun e => h3 e.symm), Below.heap_alloc _ _ _ (by omega)]
   exact k1.block k h1 h2
 refine ⟨hb1.trans (Below.of_gb g2 (by simp; omega) (fun k hk => by have := (hvl k hk).1; omega)), ?_, ?_, o2, ?_, ?_⟩
 · rw [key _ (by omega) (by omega) (fun e => by have := (hvl _ e).1; omega)]; exact h.box
 · exact m1.of (by rw [g2.block _ (by simp; omega) (fun e => by have := (hvl _ e.symm).1; omega), Below.heap_alloc _ _ _ (by omega)])
 · exact ownsRow_of h.ow fun k hk => key k (hwl k hk).2 (by have := (hwl k hk).1; omega) (fun e => h.ap k e hk)
 · intro k hk hk2
   rcases b2 with q | q
   · exact h.ap k (q ▸ hk) hk2
   · rw [q] at hk
     injection hk with hk
     have := (hwl k hk2).2
     simp at hk
     omega
theorem ReI.more {w0 w3 w4 : World} {v0 v1 : Value} {out way N : List ByteArray} {vo : Value} {A : Option Addr} {n c : Nat} {An : Option Addr} {m cn : Nat} (h : ReI w0 v0 v1 out way vo (.slice A n c) w3) (hb : Below w3.heap.size w3 w4) (hN : OwnS w4 w3.heap.size (.slice An m cn) N) (hl : way.length + N.length ≤ 100000000) :
   ∃ A5 c5 w5, (Builtin.append_ #[39, 39] 39 #[.slice A n c, .slice An m cn]).run Tryz.prog w4 = .ok (.slice A5 (n + m) c5) w5 ∧ ReI w0 v0 v1 out (way ++ N) vo (.slice A5 (n + m) c5) w5 := by
 have h4 := h.step hb
 obtain ⟨An', cn', e, _, hs, _⟩ := hN.slice
 injection e with e1 e2 e3
 subst e1 e2 e3
 obtain ⟨A', c', e, _, _, _⟩ := h4.ow.slice
 injection e with e1 e2 e3
 obtain ⟨v5, w5, r5, o5, g5, b5⟩ := run_appS (c := cn) h4.ow hs (by have := h4.below.size; have := h4.met.lt; omega) hl
 obtain ⟨A5, c5, rfl, _, _, _⟩ := o5.slice
 have hln : (way ++ N).length = n + N.length := by rw [List.length_append, e2]
 rw [hln] at r5 o5 b5
 have hbs := h4.below.size
 have hml := h4.met.lt
 have hvl : ∀ k, vo.ownBlock = some k → w0.heap.size + 1 + 1 ≤ k ∧ k < w4.heap.size := fun k hk => World.ownsRow.lt h4.oo k hk
 have hwl : ∀ k, (Value.slice A n c).ownBlock = some k → w0.heap.size + 1 + 1 ≤ k ∧ k < w4.heap.size := fun k hk => World.ownsRow.lt h4.ow k hk
 have key : ∀ k, k < w4.heap.size → (Value.slice A n c).ownBlock ≠ some k → w5.heap[k]? = w4.heap[k]? := fun k h1 h2 => g5.block k h1 (fun e => h2 e.symm)
 refine ⟨A5, c5, w5, r5, h4.below.trans (Below.of_gb g5 (by omega) (fun k hk => by have := (hwl k hk).1; omega)), ?_, ?_, ?_, o5, ?_⟩
 · rw [key _ (by omega) (fun e => by have := (hwl _ e).1; omega)]; exact h4.box
 · exact h4.met.of (key _ (by omega) (fun e => by have := (hwl _ e).1; omega))
 · exact ownsRow_of h4.oo fun k hk => key k (hvl k hk).2 (fun e => h4.ap k hk e)
 · intro k hk hk2
   rcases b5 with q | q
   · exact h4.ap k hk (q ▸ hk2)
   · rw [q] at hk2
     injection hk2 with hk2
     have := (hvl k hk).2
     omega
theorem reach_any (v0 v1 : Value) (gf : Nat) (cwd : ByteArray) (P : ByteArray → Pn) (is : ByteArray → Bool) (Gd : Nat → ByteArray → Prop) (A : Option Addr) (c : Nat) (L : List ByteArray) (w : World) (hG : GH w ⟨v0, v1, gf, cwd⟩ P is Gd) (hA : SR w A L) (hl : L.length ≤ 1000000) (hgd : ∀ x ∈ L, ∀ m, Gd m x) (hnl : ∀ m x, m ≤ 1000 → Gd m x → (P x).needs.length ≤ 1000) :
   Calls Tryz.prog 22 #[.agg #[v0, v1], .pointer (some ⟨gf, 0, none⟩), .string cwd, .slice A L.length c] w (RchP (putsF (seenA P L [])) w) := by
 have HG := hide hG
 have HGD := hide hgd
 have HNL := hide hnl
 have HL := hide hl
 have hbx := (Below.refl w.heap.size w).alloc (Nat.le_refl _) (.cells #[v0, v1] 25)
 have hbm := hbx.alloc (by simp) (.map #[] 0)
 have HMS := hide (MSet.made (w.alloc (.cells #[v0, v1] 25)))
 have HBX := hide ((Below.heap_alloc (w.alloc (.cells #[v0, v1] 25)) (.map #[] 0) w.heap.size (by simp)).trans (heapNew w (.cells #[v0, v1] 25)))
 have HCL := hide (sclone_any A c L ((w.alloc (.cells #[v0, v1] 25)).alloc (.map #[] 0)) (hA.below hbm) hl)
 have HBM := hide hbm
 obtain ⟨n, hn⟩ : ∃ n, L.length = n := ⟨_, rfl⟩
 rw [hn] at HCL ⊢
 have HN := hide hn
 obtain ⟨W1, hW1⟩ : ∃ Z, (w.alloc (.cells #[v0, v1] 25)).alloc (.map #[] 0) = Z := ⟨_, rfl⟩
 have hz0 : (w.alloc (.cells #[v0, v1] 25)).heap.size = w.heap.size + 1 := by simp
 have hz1 : W1.heap.size = w.heap.size + 1 + 1 := by rw [← hW1]; simp
 rw [hW1] at HCL HBM HBX
 rw [hW1, hz0] at HMS
 rw [hz1] at HCL
 have HW1 := hide hW1
 have HZ1 := hide hz1
 obtain ⟨R, hR⟩ : ∃ R, seenA P L [] = R := ⟨_, rfl⟩
 rw [hR]
 have HR := hide hR
 clear hG hA hl hgd hnl hbx hbm hn hW1 hz1 hR
 go_enter Tryz.func22, Tryz.ntmps22
 go_wp2_with fail
 rw [HW1.out]
 refine HCL.out.mono ?_
 rintro e w2 ⟨⟨v, rfl, ho⟩, hb2⟩
 obtain ⟨Aw, cw, rfl, _, _, _⟩ := ho.slice
 rw [HN.out]
 rw [HN.out] at ho
 have HRV := hide (revOwn_any ho (by have := HL.out; omega))
 have HB2 := hide hb2
 have HO := hide ho
 clear ho hb2
 go_wp2_with fail
 refine HRV.out.mono ?_
 rintro e w3 ⟨rfl, ho3, hg3⟩
 have hlt3 : ∀ k, (Value.slice Aw n cw).ownBlock = some k → w.heap.size + 1 + 1 ≤ k := fun k hk => (World.ownsRow.lt ho3 k hk).1
 have hz2 := HB2.out.size
 rw [HZ1.out] at hz2
 have hk3 : ∀ k, k < w.heap.size + 1 + 1 → w3.heap[k]? = W1.heap[k]? := fun k hk => by
   rw [hg3.block k (by omega) (fun e => by have := hlt3 k e.symm; omega)]
   exact HB2.out.block k hk
 have HI0 := hide (show ReI w v0 v1 [] L.reverse (.slice none 0 0) (.slice Aw n cw) w3 from by
   have hb13 : Below (w.heap.size + 1 + 1) W1 w3 := HB2.out.trans (Below.of_gb hg3 hz2 hlt3)
   have hb03 : Below w.heap.size w w3 := below_up HBM.out (by rw [HZ1.out]; exact hb13) HBM.out.size
   exact ⟨hb03, (hk3 _ (by omega)).trans HBX.out, HMS.out.of (hk3 _ (by omega)), OwnS.nil _ _, ho3, fun k hk => by simp [Value.ownBlock] at hk⟩)
 clear ho3 hg3 hlt3 hk3 hz2
 go_wp2
 go_loopg [10, 11, 12, 13] (1000 * 2000001 + n) (fun q v10 v11 _ _ wr => ∃ (out way : List ByteArray) (A0 : Option Addr) (n0 c0 : Nat) (A1 : Option Addr) (n1 c1 : Nat), v10 = .slice A0 n0 c0 ∧ v11 = .slice A1 n1 c1 ∧ Hid (n0 = out.length) ∧ Hid (n1 = way.length) ∧ n0 ≤ 1000 ∧ n1 ≤ 1000000 + 1000 * n0 ∧ q = (1000 - n0) * 2000001 + n1 ∧ Hid (ReI w v0 v1 out way (.slice A0 n0 c0) (.slice A1 n1 c1) wr) ∧ Hid (out.Nodup) ∧ Hid (∀ x ∈ way, Gd n0 x) ∧ Hid (seenA P way.reverse out = R))
 case atStart => exact ⟨[], L.reverse, none, 0, 0, Aw, n, cw, rfl, rfl, hide rfl, hide (by rw [List.length_reverse, HN.out]), by omega, by have := HN.out; have := HL.out; omega, by omega, HI0.out, hide List.nodup_nil, hide (fun x hx => HGD.out x (List.mem_reverse.1 hx) 0), hide (by rw [List.reverse_reverse]; exact HR.out)⟩
 case round =>
   obtain ⟨out, way, A0, n0, c0, A1, n1, c1, rfl, rfl, HN0, HN1, h0, h1, hq, HI, HND, HGW, HEQ⟩ := hrel
   have h0i : (n0 : Int) ≤ 1000 := by omega
   have h1i : (n1 : Int) ≤ 2000000 := by omega
   by_cases hend : n1 = 0 ∨ n0 = 1000
   · have HE := hide (show R = out by
       rw [← HEQ.out]
       rcases hend with h | h
       · have : way = [] := List.eq_nil_of_length_eq_zero (by rw [← HN1.out]; exact h)
         rw [this]; rfl
       · exact seenA_full (by rw [← HN0.out, h]; exact Nat.le_refl _) _)
     have HST := hide (sortOwn_any HI.out.oo (by rw [← HN0.out]; omega))
     have HSE := hide (sort_puts HND.out)
     have hbe := HI.out.below
     have HBE := hide hbe
     have hfin : ∀ w4, OwnS w4 (w.heap.size + 1 + 1) (.slice A0 n0 c0) (((out.map fun s => s.data.toList).mergeSort fun x y => decide (x ≤ y)).map fun l => (⟨l.toArray⟩ : ByteArray)) → wr.grownBy w4 (Value.slice A0 n0 c0).ownBlock → RchP (putsF R) w (.returned (.slice A0 n0 c0)) w4 := fun w4 h2 h3 => by
       rw [HSE.out, ← HE.out] at h2
       obtain ⟨A', c', e, hc, hs, _⟩ := h2.slice
       refine ⟨A', c', by rw [e], hs, hc, HBE.out.trans (Below.of_gb h3 HBE.out.size fun k hk => by have := (World.ownsRow.lt h2 k hk).1; omega)⟩
     have HFIN := hide hfin
     clear hfin hbe
     by_cases h1z : n1 = 0
     · subst h1z
       go_wp2_with fail
       refine HST.out.mono ?_
       rintro e w4 ⟨rfl, ho4, hg4⟩
       have HF := hide (HFIN.out w4 ho4 hg4)
       clear ho4 hg4
       go_wp2
       go_ret
       exact HF.out
     · obtain rfl : n0 = 1000 := by omega
       have b1 : decide ((n1 : Int) > 0) = true := by simp; omega
       have b1' : decide (0 < n1) = true := by simp; omega
       go_wp2_with fail
       refine HST.out.mono ?_
       rintro e w4 ⟨rfl, ho4, hg4⟩
       have HF := hide (HFIN.out w4 ho4 hg4)
       clear ho4 hg4
       go_wp2
       go_ret
       exact HF.out
   · have hn1 : 0 < n1 := by omega
     have hn0 : n0 < 1000 := by omega
     obtain ⟨way', t, rfl⟩ : ∃ a s, way = a ++ [s] := ⟨way.dropLast, way.getLast (by intro e; have := HN1.out; rw [e] at this; simp at this; omega), (List.dropLast_concat_getLast _).symm⟩
     obtain ⟨hn1e, hcap, ⟨gw, rfl, hgw, hcell⟩, hpop⟩ := HI.out.pop
     obtain ⟨m1, hm1⟩ : ∃ m, way'.length = m := ⟨_, rfl⟩
     rw [hm1] at hn1e hcell hpop
     subst hn1e
     have HP := hide hpop
     have HM1 := hide hm1
     have hgt := HGW.out t (by simp)
     have HGT := hide hgt
     have hts := HG.out.size n0 t (by omega) hgt
     have hlk := hpop.met.look (s := t) (by omega)
     have HQ2 := hide (show seenA P (t :: way'.reverse) out = R by have := HEQ.out; rwa [List.reverse_append] at this)
     have HGW2 := hide (show ∀ x ∈ way', Gd n0 x from fun x hx => HGW.out x (by simp [hx]))
     obtain ⟨bq, hbq⟩ : ∃ b, Lib.containsS out t = b := ⟨_, rfl⟩
     rw [hbq] at hlk
     have HBQ := hide hbq
     have hsub : ((m1 : Int) + 1) - 1 = (m1 : Int) := by omega
     have hwr : IntKind.i64.wrap (m1 : Int) = (m1 : Int) := IntWalk.i64_in _ (by omega)
     have hm1c : m1 ≤ c1 := by omega
     have hm1ci : (m1 : Int) ≤ (c1 : Int) := by omega
     have b1 : (0 : Int) < (m1 : Int) + 1 := by omega
     have b2 : (n0 : Int) < 1000 := by omega
     clear hpop hm1 hgt hbq hend HI HGW HEQ
     cases bq with
     | true =>
       go_wp2
       go_roundg ((1000 - n0) * 2000001 + m1)
       case measure => omega
       case rel => exact ⟨out, way', A0, n0, c0, _, m1, c1, rfl, rfl, HN0, hide HM1.out.symm, h0, by omega, rfl, HP, HND, HGW2, hide (by rw [← HQ2.out, seenA_old HBQ.out])⟩
     | false =>
       obtain ⟨w5, r5, A2, c2, w6, r6, hm⟩ := HP.out.meet (t := t) (by omega) (by rw [← HN0.out]; exact hn0)
       have hcb0 := cellOf hm.box (j := 0) (v := v0) rfl
       have hcb1 := cellOf hm.box (j := 1) (v := v1) rfl
       have HPL := hide (HG.out.plan (n0 + 1) w6 t (by omega) (HG.out.mono _ _ HGT.out) hm.below)
       have HNX := hide (HG.out.next n0 t hn0 HGT.out)
       have HNL2 := hide (HNL.out n0 t (by omega) HGT.out)
       obtain ⟨Q, hQ⟩ : ∃ Q, P t = Q := ⟨_, rfl⟩
       rw [hQ] at HPL HNX HNL2
       have HEN := hide (show seenA P (Q.needs ++ way'.reverse) (out ++ [t]) = R by rw [← hQ, ← HQ2.out, seenA_new HBQ.out (by rw [← HN0.out]; exact hn0)])
       obtain ⟨mN, hmN⟩ : ∃ m, Q.needs.length = m := ⟨_, rfl⟩
       have HMN := hide hmN
       have hmNi : mN ≤ 1000 := by rw [← hmN]; exact HNL2.out
       have HHM := hide hm
       clear hm hQ hmN
       go_wp2_with (at_builtin; refine wpList_app_run ?_ (.tmp 43) (.tmp 45) ?_ ?_ ?_ ?_ r6 ?_; exact rfl; exact rfl; exact rfl; exact rfl; exact rfl)
       refine HPL.out.mono ?_
       rintro e w7 ⟨vn, vr, rfl, hon, hor, hb7⟩
       obtain ⟨An, cn, rfl, _, _, _⟩ := hon.slice
       rw [HMN.out]
       rw [HMN.out] at hon
       have HRV2 := hide (revOwn_any hon (by have := HMN.out; omega))
       have HB7 := hide hb7
       clear hon hor hb7 HPL
       go_wp2_with fail
       refine HRV2.out.mono ?_
       rintro e w8 ⟨rfl, ho8, hg8⟩
       have hb8 : Below w6.heap.size w6 w8 := HB7.out.trans (Below.of_gb hg8 HB7.out.size (fun k hk => (World.ownsRow.lt ho8 k hk).1))
       obtain ⟨A5, c5, w9, r9, hI9⟩ := HHM.out.more hb8 ho8 (by rw [List.length_reverse, HMN.out, HM1.out]; omega)
       have HI9 := hide hI9
       clear ho8 hg8 hb8 hI9 HRV2
       go_wp2_with (at_builtin; refine wpList_app_run ?_ (.tmp 55) (.tmp 56) ?_ ?_ ?_ ?_ r9 ?_; exact rfl; exact rfl; exact rfl; exact rfl; exact rfl)
       go_roundg ((1000 - (n0 + 1)) * 2000001 + (m1 + mN))
       case measure => omega
       case rel =>
         refine ⟨out ++ [t], way' ++ Q.needs.reverse, A2, n0 + 1, c2, A5, m1 + mN, c5, rfl, rfl, hide (by rw [List.length_append, List.length_singleton, HN0.out]), hide (by rw [List.length_append, List.length_reverse, HMN.out, HM1.out]), by omega, by omega, rfl, HI9, hide ?_, hide ?_, hide ?_⟩
         · rw [List.nodup_append]
           refine ⟨HND.out, by simp, fun a ha b hb => ?_⟩
           rw [List.mem_singleton.1 hb]
           rintro rfl
           have := HBQ.out
           rw [(Lib.containsS_iff _ _).2 ha] at this
           cases this
         · intro x hx
           rcases List.mem_append.1 hx with h | h
           · exact HG.out.mono _ _ (HGW2.out x h)
           · exact HNX.out x (List.mem_reverse.1 h)
         · rw [List.reverse_append, List.reverse_reverse]
           exact HEN.out
end
section
open Go.RowKit Go.Deep Go.Maps Ln Pth Vf
attribute [local go_sem] bt_eq
def rowN : RowT Tryz.prog 101 135 4 := { z := .agg #[.string ⟨#[]⟩, .bool false, .slice none 0 0, .int .i64 0], bytes := 56, und := Tryz.underlying101, info := by kernel_rfl, zlen := rfl, pos := by omega, sb := by omega }
theorem putG_at {α : Type} {x : ByteArray × α} : ∀ (L : KV α) (k : Nat), k ≤ L.length → (∀ j y, j < k → L[j]? = some y → sLt y.1 x.1 = true) → (∀ y, L[k]? = some y → sLt y.1 x.1 = false) →
   putG x L = L.take k ++ [x] ++ L.drop (match L[k]? with | some y => if y.1 = x.1 then k + 1 else k | none => k)
 | [], k, hk, _, _ => by
   obtain rfl : k = 0 := by simpa using hk
   rfl
 | y :: L, 0, hk, h1, h2 => by
   have := h2 y rfl
   rw [putG, if_neg (by rw [this]; simp)]
   simp only [List.getElem?_cons_zero]
   split <;> simp
 | y :: L, k + 1, hk, h1, h2 => by
   rw [putG, if_pos (h1 0 y (by omega) rfl), putG_at L k (by simpa using hk) (fun j z hj hz => h1 (j + 1) z (by omega) (by simpa using hz)) (fun z hz => h2 z (by simpa using hz))]
   simp only [List.getElem?_cons_succ]
   cases L[k]? with
   | none => simp
   | some z => dsimp only; split <;> simp
theorem rg_newN (w : World) (x : NV) (cs : Array Value) (hcs : cs = (encE x).toArray) (t : TypeId) : RG encE 4 (w.alloc (.cells cs t)) (some ⟨w.heap.size, 0, none⟩) [x] := fun k y hk => by
 cases k with
 | zero =>
   simp at hk
   subst hk
   subst hcs
   refine ⟨_, _, rfl, by simp, fun j u hj => ?_⟩
   have hj4 := (List.getElem?_eq_some_iff.1 hj).1
   rw [World.cell?_alloc_at _ _ _ _ (by rfl)]
   simpa using hj
 | succ k => simp at hk
theorem putN_chain (w : World) (A1 A2 : Option Addr) (c1 c2 : Nat) (L1 L2 : List NV) (x : NV) (cs : Array Value) (hcs : cs = (encE x).toArray) (h1 : RG encE 4 w A2 L2) (h2 : RG encE 4 w A1 L1) (hl : L1.length + L2.length ≤ 100000) :
   ∃ v2 w2 v3 w3 v4 w4, (Builtin.append_ #[101, 101] 101 #[.slice none 0 0, .slice A1 L1.length c1]).run Tryz.prog w = .ok v2 w2 ∧
     (Builtin.append_ #[101, 101] 101 #[v2, .slice (some ⟨w2.heap.size, 0, none⟩) 1 1]).run Tryz.prog (w2.alloc (.cells cs 135)) = .ok v3 w3 ∧
     (Builtin.append_ #[101, 101] 101 #[v3, .slice A2 L2.length c2]).run Tryz.prog w3 = .ok v4 w4 ∧ OwnG encE 4 135 w4 w.heap.size v4 (L1 ++ [x] ++ L2) ∧ Below w.heap.size w w2 ∧ Below w.heap.size w w3 ∧ Below w.heap.size w w4 := by
 obtain ⟨v2, w2, r2, o2, g2, b2⟩ := run_appG rowN encE_len encE_one (OwnG.nil w w.heap.size) h2 (Nat.le_refl _) (by simp; omega)
 have hb2 : Below w.heap.size w w2 := Below.of_gb g2 (Nat.le_refl _) (fun k hk => by cases hk)
 have s2 := hb2.size
 simp only [List.nil_append] at o2
 have n2 : ∀ k, v2.ownBlock = some k → w.heap.size ≤ k := fun k hk => (o2.lt k hk).1
 obtain ⟨v3, w3, r3, o3, g3, b3⟩ := run_appG rowN encE_len encE_one (o2.alloc (.cells cs 135)) (rg_newN w2 x cs hcs _) (by simp; omega) (by simp; omega)
 have n3 : ∀ k, v3.ownBlock = some k → w.heap.size ≤ k := fun k hk => (o3.lt k hk).1
 have hb3 : Below w.heap.size w w3 := (hb2.alloc hb2.size _).trans (Below.of_gb g3 (by simp; omega) (fun k hk => n2 k hk))
 have s3 := hb3.size
 obtain ⟨v4, w4, r4, o4, g4, b4⟩ := run_appG rowN encE_len encE_one o3 (h1.below hb3) (by omega) (by simp; omega)
 exact ⟨v2, w2, v3, w3, v4, w4, r2, r3, r4, o4, hb2, hb3, hb3.trans (Below.of_gb g4 s3 n3)⟩
theorem putN_chain2 (w : World) (A1 A2 : Option Addr) (c1 c2 : Nat) (L1 L2 : List NV) (x : NV) (cs : Array Value) (hcs : cs = (encE x).toArray) (h1 : RG encE 4 w A2 L2) (h2 : RG encE 4 w A1 L1) (hl : L1.length + L2.length ≤ 100000) :
   ∃ v2 w2 v3 w3 v4 w4, (Builtin.append_ #[101, 101] 101 #[.slice none 0 0, .slice A1 L1.length c1]).run Tryz.prog (w.alloc (.cells cs 135)) = .ok v2 w2 ∧
     (Builtin.append_ #[101, 101] 101 #[v2, .slice (some ⟨w.heap.size, 0, none⟩) 1 1]).run Tryz.prog w2 = .ok v3 w3 ∧
     (Builtin.append_ #[101, 101] 101 #[v3, .slice A2 L2.length c2]).run Tryz.prog w3 = .ok v4 w4 ∧ OwnG encE 4 135 w4 w.heap.size v4 (L1 ++ [x] ++ L2) ∧ Below w.heap.size w w2 ∧ Below w.heap.size w w3 ∧ Below w.heap.size w w4 := by
 have hb1 : Below w.heap.size w (w.alloc (.cells cs 135)) := (Below.refl _ w).alloc (Nat.le_refl _) _
 have hx := rg_newN w x cs hcs 135
 have hz1 := hb1.size
 obtain ⟨w1, hw1⟩ : ∃ W, w.alloc (.cells cs 135) = W := ⟨_, rfl⟩
 rw [hw1] at hb1 hx hz1 ⊢
 obtain ⟨v2, w2, r2, o2, g2, b2⟩ := run_appG rowN encE_len encE_one (OwnG.nil w1 w1.heap.size) (h2.below hb1) (Nat.le_refl _) (by simp; omega)
 have hb12 : Below w1.heap.size w1 w2 := Below.of_gb g2 (Nat.le_refl _) (fun k hk => by cases hk)
 have hb2 : Below w.heap.size w w2 := below_up hb1 hb12 hb1.size
 have s2 := hb12.size
 simp only [List.nil_append] at o2
 have n2 : ∀ k, v2.ownBlock = some k → w.heap.size ≤ k := fun k hk => by have := (o2.lt k hk).1; omega
 obtain ⟨v3, w3, r3, o3, g3, b3⟩ := run_appG rowN encE_len encE_one (o2.base hz1) (hx.below hb12) (by omega) (by simp; omega)
 have n3 : ∀ k, v3.ownBlock = some k → w.heap.size ≤ k := fun k hk => (o3.lt k hk).1
 have hb3 : Below w.heap.size w w3 := hb2.trans (Below.of_gb g3 (by omega) (fun k hk => n2 k hk))
 have s3 := hb3.size
 obtain ⟨v4, w4, r4, o4, g4, b4⟩ := run_appG rowN encE_len encE_one o3 (h1.below hb3) (by omega) (by simp; omega)
 exact ⟨v2, w2, v3, w3, v4, w4, r2, r3, r4, o4, hb2, hb3, hb3.trans (Below.of_gb g4 s3 n3)⟩
theorem rput_any (g : Nat) (S : St) (A : Option Addr) (c : Nat) (P : List NV) (x : NV) (w : World) (h : RSO g S A c P w) (hl : P.length ≤ 10000) :
   Calls Tryz.prog 92 #[.pointer (some ⟨g, 0, none⟩), .agg (encE x).toArray] w fun e w' => e = .returned (.tuple #[]) ∧ ∃ A' c', w'.heap[g]? = some (.cells #[.int .i64 S.nodes, .int .i64 S.bytes, .slice A' (putG x P).length c', .int .i64 S.clock] 103) ∧ (putG x P).length ≤ c' ∧ RG encE 4 w' A' (putG x P) ∧ (∀ a, A' = some a → w.heap.size ≤ a.block) ∧ w.grownBy w' (some g) := by
 obtain ⟨n, hn⟩ : ∃ n, P.length = n := ⟨_, rfl⟩
 have HN := hide hn
 have H := hide h
 have hln : n ≤ 10000 := by omega
 have hgl : g < w.heap.size := (Array.getElem?_eq_some_iff.1 h.heap).1
 obtain ⟨xs, xe⟩ := x
 obtain ⟨xd, xa, xc⟩ := xe
 have HA0 := hide h.top
 clear h hl hn
 simp only [encE]
 go_enter Tryz.func92, Tryz.ntmps92
 go_wp2
 obtain ⟨wa, hwa⟩ : ∃ W, w.alloc (.cells #[.string xs, .bool xc.dir, .slice xd xc.data.length xa, .int .i64 xc.time] 135) = W := ⟨_, rfl⟩
 have hnw := heapNew w (.cells #[.string xs, .bool xc.dir, .slice xd xc.data.length xa, .int .i64 xc.time] 135)
 have hba : Below w.heap.size w (w.alloc (.cells #[.string xs, .bool xc.dir, .slice xd xc.data.length xa, .int .i64 xc.time] 135)) := (Below.refl _ w).alloc (Nat.le_refl _) _
 rw [hwa] at hnw hba ⊢
 obtain ⟨b, hb⟩ : ∃ b, w.heap.size = b := ⟨_, rfl⟩
 rw [hb] at hnw hba hgl ⊢
 have hgb : g ≠ b := by omega
 have HNW := hide hnw
 have HBA := hide (show Below b w wa from hba)
 have HRA := hide (show RSO g S A c P wa from H.out.below (by rw [hb]; exact hba))
 have HBB := hide hb
 clear hwa hnw hba hb H
 go_wp2
 go_loopw [4] (fun v4 wr => ∃ k q : Nat, v4 = .int .i64 k ∧ k ≤ n ∧ Hid (∀ j y, j < k → P[j]? = some y → sLt y.1 xs = true) ∧ wr = wa.drewN q) (fun v4 _ => n - (intOf v4).toNat)
 case atStart => exact ⟨0, 0, rfl, by omega, (fun j y hj => by omega), rfl⟩
 case round =>
   obtain ⟨k, q, rfl, hk, HE, rfl⟩ := hrel
   have ho := HRA.out
   have hg := ho.heap
   rw [HN.out] at hg
   have hc2 := cellOf hg (j := 2) (v := .slice A n c) rfl
   have hx0 : wa.cell? ⟨b, 0, none⟩ = some (.string xs) := cellOf HNW.out (j := 0) rfl
   by_cases hlt : k < n
   · obtain ⟨y, hy⟩ : ∃ x, P[k]? = some x := ⟨P[k]'(by have := HN.out; omega), gE _⟩
     obtain ⟨gs, o, rfl, hgs, hc⟩ := ho.rg k y hy
     have hc0 : wa.cell? ⟨gs, o + k * 4, none⟩ = some (.string y.1) := by have := hc 0 _ rfl; simpa using this
     have HY := hide hy
     have b1 : (k : Int) < (n : Int) := by omega
     have d1 : decide ((k : Int) < (n : Int)) = true := by simpa using b1
     obtain ⟨ys, hys⟩ : ∃ t, y.1 = t := ⟨_, rfl⟩
     rw [hys] at hc0
     have HYS := hide hys
     have hcl := ho.cap
     rw [HN.out] at hcl
     have HTK := hide (fun (W : World) (h : Below wa.heap.size wa W) => show RG encE 4 W (some ⟨gs, o, none⟩) (P.take k) from (HRA.out.below h).rg.take k)
     have HDR := hide (fun (j : Nat) (W : World) (h : Below wa.heap.size wa W) => show RG encE 4 W (some ⟨gs, o + j * 4, none⟩) (P.drop j) from (HRA.out.below h).rg.drop j)
     have hkc : k ≤ c := by omega
     have HDZ0 := hide (fun (h : c = k + 1) (W : World) (_ : Below wa.heap.size wa W) => show RG encE 4 W (some ⟨gs, o, none⟩) (P.drop (k + 1)) from fun j s hj => by
       rw [List.getElem?_drop, List.getElem?_eq_none (by have := HN.out; omega)] at hj
       cases hj)
     clear ho hg hc hy hys hgs
     cases hs : sLt ys xs with
     | true =>
       have hs2 : Op.bytesLess ys.toList xs.toList = true := hs
       have HS := hide hs
       clear hs
       go_wp2_with fail
       go_quiet (fail)
       go_wp2
       go_roundw
       case rel =>
         refine ⟨k + 1, _, by go_num, by omega, fun j z hj hz => ?_, rfl⟩
         by_cases e : j = k
         · subst e
           rw [HY.out] at hz
           injection hz with hz
           rw [← hz, HYS.out]
           exact HS.out
         · exact HE.out j z (by omega) hz
       case measure => simp [intOf]; omega
     | false =>
       have hs2 : Op.bytesLess ys.toList xs.toList = false := hs
       have HP := hide (putG_at (x := ((xs, ⟨xd, xa, xc⟩) : NV)) P k (by have := HN.out; omega) HE.out (fun z hz => by rw [HY.out] at hz; injection hz with hz; rw [← hz, HYS.out]; exact hs))
       clear hs
       by_cases he : ys = xs
       · have e1 : (ys.toList == xs.toList) = true := by rw [he]; simp
         have HQ := hide (show putG ((xs, ⟨xd, xa, xc⟩) : NV) P = P.take k ++ [(xs, ⟨xd, xa, xc⟩)] ++ P.drop (k + 1) by rw [HP.out, HY.out]; dsimp only; rw [HYS.out, if_pos he])
         clear he HP
         go_wp2_with fail
         go_quiet (fail)
         obtain ⟨nq1, hnq1⟩ : ∃ z, z = nq := ⟨_, rfl⟩
         subst hnq1
         go_wp2_with fail
         go_quiet (fail)
         go_wp2_with fail
         by_cases hck : c = k + 1
         · have HDZ := hide (HDZ0.out hck)
           have HCK := hide hck
           clear hck
           have HRB := hide (show Below wa.heap.size wa ((wa.drewN (q + nq1 + nq)).drew) from (below_drewN (Below.refl wa.heap.size wa) _).drew)
           have hbl : b < wa.heap.size := (Array.getElem?_eq_some_iff.1 HNW.out).1
           have hgl2 : g < wa.heap.size := (Array.getElem?_eq_some_iff.1 HRA.out.heap).1
           have hx1 : wa.cell? ⟨b, 1, none⟩ = some (.bool xc.dir) := cellOf HNW.out (j := 1) rfl
           have hx2 : wa.cell? ⟨b, 2, none⟩ = some (.slice xd xc.data.length xa) := cellOf HNW.out (j := 2) rfl
           have hx3 : wa.cell? ⟨b, 3, none⟩ = some (.int .i64 xc.time) := cellOf HNW.out (j := 3) rfl
           have hs2 : ∀ W, Below wa.heap.size wa W → (fun w' => w'.cell? ⟨g, 2, none⟩ = some (.slice (some ⟨gs, o, none⟩) n c) ∧ w'.cell? ⟨b, 0, none⟩ = some (.string xs) ∧ w'.cell? ⟨b, 1, none⟩ = some (.bool xc.dir) ∧ w'.cell? ⟨b, 2, none⟩ = some (.slice xd xc.data.length xa) ∧ w'.cell? ⟨b, 3, none⟩ = some (.int .i64 xc.time)) W := fun W h => ⟨(h.cell (p := ⟨g, 2, none⟩) hgl2).trans hc2, (h.cell (p := ⟨b, 0, none⟩) hbl).trans hx0, (h.cell (p := ⟨b, 1, none⟩) hbl).trans hx1, (h.cell (p := ⟨b, 2, none⟩) hbl).trans hx2, (h.cell (p := ⟨b, 3, none⟩) hbl).trans hx3⟩
           have HS2 := hide hs2
           clear hs2
           refine wp_region_held_drew (S := fun w' => w'.cell? ⟨g, 2, none⟩ = some (.slice (some ⟨gs, o, none⟩) n c) ∧ w'.cell? ⟨b, 0, none⟩ = some (.string xs) ∧ w'.cell? ⟨b, 1, none⟩ = some (.bool xc.dir) ∧ w'.cell? ⟨b, 2, none⟩ = some (.slice xd xc.data.length xa) ∧ w'.cell? ⟨b, 3, none⟩ = some (.int .i64 xc.time)) (by kernel_rfl) (HS2.out _ HRB.out) (fun hHeld => ?_)
           refine tq (i := 0) (v := ?va0) rfl rfl (by kernel_rfl) (fun _ _ _ h => h) ?ya0 (by assumption) ?ra0
           case ya0 => intro w h; (try dsimp only at h); go_simp; try with_reducible rfl
           try simp only [sA, sB, sC]
           refine tq (i := 1) (v := ?va1) rfl rfl (by kernel_rfl) (fun _ _ _ h => h) ?ya1 (by assumption) ?ra1
           case ya1 => intro w h; (try dsimp only at h); go_simp; try with_reducible rfl
           try simp only [sA, sB, sC]
           refine tq (i := 2) (v := ?va2) rfl rfl (by kernel_rfl) (fun _ _ _ h => h) ?ya2 (by assumption) ?ra2
           case ya2 => intro w h; (try dsimp only at h); go_simp; try with_reducible rfl
           try simp only [sA, sB, sC]
           refine tq (i := 3) (v := ?va3) rfl rfl (by kernel_rfl) (fun _ _ _ h => h) ?ya3 (by assumption) ?ra3
           case ya3 => intro w h; (try dsimp only at h); go_simp; try with_reducible rfl
           try simp only [sA, sB, sC]
           refine tq (i := 4) (v := ?va4) rfl rfl (by kernel_rfl) (fun _ _ _ h => h) ?ya4 (by assumption) ?ra4
           case ya4 => intro w h; (try dsimp only at h); go_simp; try with_reducible rfl
           try simp only [sA, sB, sC]
           refine tq (i := 5) (v := ?va5) rfl rfl (by kernel_rfl) (fun _ _ _ h => h) ?ya5 (by assumption) ?ra5
           case ya5 => intro w h; (try dsimp only at h); go_simp; try with_reducible rfl
           try simp only [sA, sB, sC]
           refine tq (i := 7) (v := ?va7) rfl rfl (by kernel_rfl) (fun _ _ _ h => h) ?ya7 (by assumption) ?ra7
           case ya7 => intro w h; (try dsimp only at h); go_simp; try with_reducible rfl
           try simp only [sA, sB, sC]
           refine wpAnyH_ready (rs := [6, 8]) (by kernel_rfl) (by simp) ?_
           refine AllReadyH.cons (o := _) rfl (fun K hK => ?away1) (AllReadyH.cons (o := _) rfl (fun K hK => ?away2) AllReadyH.nil)
           case away1 =>
             obtain ⟨v2, w2, v3, w3, v4, w4, r2, r3, r4, ho4, hb2, hb3, hb4⟩ := putN_chain ((wa.drewN (q + nq1 + nq)).drew) (some ⟨gs, o, none⟩) (some ⟨gs, o, none⟩) c (c - (k + 1)) (P.take k) (P.drop (k + 1)) (xs, ⟨xd, xa, xc⟩) #[.string xs, .bool xc.dir, .slice xd xc.data.length xa, .int .i64 xc.time] rfl (HDZ.out _ HRB.out) (HTK.out _ HRB.out) (by simp only [List.length_take, List.length_drop]; have := HN.out; omega)
             rw [show (P.drop (k + 1)).length = n - (k + 1) by rw [List.length_drop, HN.out]] at r4
             rw [show (P.take k).length = k by rw [List.length_take, HN.out]; omega] at r2
             have HB2 := hide (show Below wa.heap.size wa w2 from below_up HRB.out hb2 HRB.out.size)
             have HB3 := hide (show Below wa.heap.size wa w3 from below_up HRB.out hb3 HRB.out.size)
             have HB4 := hide (show Below wa.heap.size wa w4 from below_up HRB.out hb4 HRB.out.size)
             have ho5 := ho4.base (base' := wa.heap.size) (Nat.le_refl _)
             rw [← HQ.out] at ho5
             obtain ⟨A', c', rfl, hcp, hrg, hob, _⟩ := ho5.slice encE_len
             have HA' := hide (show ∀ a, A' = some a → wa.heap.size ≤ a.block from fun a e => (ho5.lt _ (hob a e)).1)
             have HCP := hide hcp
             have HRG := hide hrg
             clear ho4 ho5 hb2 hb3 hb4 hob hcp hrg
             refine step_app_run rfl _ _ rfl rfl rfl rfl r2 ?_
             refine hK.out _ _ (HS2.out _ HB2.out) (fun _ => ?_)
             clear hK K
             try simp only [Act.put, sA, sB, sC]
             refine rq (k := 8) rfl (by kernel_rfl) (by kernel_rfl) (fun K hK => ?_)
             go_simp
             refine hK.out _ _ (HS2.out _ (HB2.out.alloc HB2.out.size _)) (fun _ => ?_)
             clear hK K
             try simp only [Act.put, sA, sB, sC]
             refine wpAnyH_ready (rs := [9]) (by kernel_rfl) (by simp) ?_
             refine AllReadyH.cons (o := _) rfl (fun K hK => ?_) AllReadyH.nil
             refine step_app_run rfl _ _ rfl rfl rfl rfl r3 ?_
             refine hK.out _ _ (HS2.out _ HB3.out) (fun _ => ?_)
             clear hK K
             try simp only [Act.put, sA, sB, sC]
             refine tq (i := 10) (v := ?vax10) rfl rfl (by kernel_rfl) (fun _ _ _ h => h) ?yax10 (by assumption) ?rax10
             case yax10 => intro w h; (try dsimp only at h); go_simp; try with_reducible rfl
             try simp only [sA, sB, sC]
             refine wpAnyH_done (by kernel_rfl) ?_ _
             have hck2 : (c = k + 1) = True := eq_true HCK.out
             have hd2 := (HS2.out w3 HB3.out).1
             have hg4 := (HB4.out.block g hgl2).trans HRA.out.heap
             rw [HN.out] at hg4
             have hf4 := freeOf hg4 2
             have hcc4 := cellOf hg4 (j := 2) (v := .slice (some ⟨gs, o, none⟩) n c) rfl
             have HG5 := hide (heapSet (j := 2) hg4 (.slice A' (putG ((xs, ⟨xd, xa, xc⟩) : NV) P).length c'))
             obtain ⟨M, hM⟩ : ∃ m, (putG ((xs, ⟨xd, xa, xc⟩) : NV) P).length = m := ⟨_, rfl⟩
             rw [hM] at r4 HG5 HCP
             have HM := hide hM
             clear hg4 hM
             go_wp2_with (first | (at_builtin; refine wpList_app_run ?_ (.tmp 63) (.tmp 69) ?_ ?_ ?_ ?_ r4 ?_; exact rfl; exact rfl; exact rfl; exact rfl; exact rfl))
             go_end0
             have hsz : b ≤ wa.heap.size := by have := HBA.out.size; have := HBB.out; omega
             have hbb : Below b w w4 := below_up HBA.out HB4.out hsz
             refine ⟨rfl, A', c', ?_, ?_, ?_, ?_, ?_⟩
             · rw [HM.out]; exact HG5.out
             · rw [HM.out]; exact HCP.out
             · exact HRG.out.gb (gb_setCell (World.grownBy.refl w4 (some g)) 2 _) (fun a e h => by injection h with h; have := HA'.out a e; omega)
             · intro a e; have := HA'.out a e; have := HBB.out; omega
             · exact gb_setCell ⟨hbb.os, hbb.tape, hbb.output, hbb.size, fun i hi _ => hbb.block i (by have := HBB.out; omega)⟩ 2 _
           case away2 =>
             have HRB := hide (below_drewN (Below.refl wa.heap.size wa) (q + nq1 + nq + 1))
             obtain ⟨v2, w2, v3, w3, v4, w4, r2, r3, r4, ho4, hb2, hb3, hb4⟩ := putN_chain2 (wa.drewN (q + nq1 + nq + 1)) (some ⟨gs, o, none⟩) (some ⟨gs, o, none⟩) c (c - (k + 1)) (P.take k) (P.drop (k + 1)) (xs, ⟨xd, xa, xc⟩) #[.string xs, .bool xc.dir, .slice xd xc.data.length xa, .int .i64 xc.time] rfl (HDZ.out _ HRB.out) (HTK.out _ HRB.out) (by simp only [List.length_take, List.length_drop]; have := HN.out; omega)
             rw [show (P.drop (k + 1)).length = n - (k + 1) by rw [List.length_drop, HN.out]] at r4
             rw [show (P.take k).length = k by rw [List.length_take, HN.out]; omega] at r2
             have HB2 := hide (show Below wa.heap.size wa w2 from below_up HRB.out hb2 HRB.out.size)
             have HB3 := hide (show Below wa.heap.size wa w3 from below_up HRB.out hb3 HRB.out.size)
             have HB4 := hide (show Below wa.heap.size wa w4 from below_up HRB.out hb4 HRB.out.size)
             have ho5 := ho4.base (base' := wa.heap.size) (Nat.le_refl _)
             rw [← HQ.out] at ho5
             obtain ⟨A', c', rfl, hcp, hrg, hob, _⟩ := ho5.slice encE_len
             have HA' := hide (show ∀ a, A' = some a → wa.heap.size ≤ a.block from fun a e => (ho5.lt _ (hob a e)).1)
             have HCP := hide hcp
             have HRG := hide hrg
             clear ho4 ho5 hb2 hb3 hb4 hob hcp hrg
             rw [if_pos (by kernel_rfl)]
             go_simp
             refine hK.out _ _ (HS2.out _ (HRB.out.alloc HRB.out.size _)) (fun _ => ?_)
             clear hK K
             try simp only [Act.put, sA, sB, sC]
             refine wpAnyH_ready (rs := [6]) (by kernel_rfl) (by simp) ?_
             refine AllReadyH.cons (o := _) rfl (fun K hK => ?_) AllReadyH.nil
             refine step_app_run rfl _ _ rfl rfl rfl rfl r2 ?_
             refine hK.out _ _ (HS2.out _ HB2.out) (fun _ => ?_)
             clear hK K
             try simp only [Act.put, sA, sB, sC]
             refine wpAnyH_ready (rs := [9]) (by kernel_rfl) (by simp) ?_
             refine AllReadyH.cons (o := _) rfl (fun K hK => ?_) AllReadyH.nil
             refine step_app_run rfl _ _ rfl rfl rfl rfl r3 ?_
             refine hK.out _ _ (HS2.out _ HB3.out) (fun _ => ?_)
             clear hK K
             try simp only [Act.put, sA, sB, sC]
             refine tq (i := 10) (v := ?vay10) rfl rfl (by kernel_rfl) (fun _ _ _ h => h) ?yay10 (by assumption) ?ray10
             case yay10 => intro w h; (try dsimp only at h); go_simp; try with_reducible rfl
             try simp only [sA, sB, sC]
             refine wpAnyH_done (by kernel_rfl) ?_ _
             have hck2 : (c = k + 1) = True := eq_true HCK.out
             have hd2 := (HS2.out w3 HB3.out).1
             have hg4 := (HB4.out.block g hgl2).trans HRA.out.heap
             rw [HN.out] at hg4
             have hf4 := freeOf hg4 2
             have hcc4 := cellOf hg4 (j := 2) (v := .slice (some ⟨gs, o, none⟩) n c) rfl
             have HG5 := hide (heapSet (j := 2) hg4 (.slice A' (putG ((xs, ⟨xd, xa, xc⟩) : NV) P).length c'))
             obtain ⟨M, hM⟩ : ∃ m, (putG ((xs, ⟨xd, xa, xc⟩) : NV) P).length = m := ⟨_, rfl⟩
             rw [hM] at r4 HG5 HCP
             have HM := hide hM
             clear hg4 hM
             go_wp2_with (first | (at_builtin; refine wpList_app_run ?_ (.tmp 63) (.tmp 69) ?_ ?_ ?_ ?_ r4 ?_; exact rfl; exact rfl; exact rfl; exact rfl; exact rfl))
             go_end0
             have hsz : b ≤ wa.heap.size := by have := HBA.out.size; have := HBB.out; omega
             have hbb : Below b w w4 := below_up HBA.out HB4.out hsz
             refine ⟨rfl, A', c', ?_, ?_, ?_, ?_, ?_⟩
             · rw [HM.out]; exact HG5.out
             · rw [HM.out]; exact HCP.out
             · exact HRG.out.gb (gb_setCell (World.grownBy.refl w4 (some g)) 2 _) (fun a e h => by injection h with h; have := HA'.out a e; omega)
             · intro a e; have := HA'.out a e; have := HBB.out; omega
             · exact gb_setCell ⟨hbb.os, hbb.tape, hbb.output, hbb.size, fun i hi _ => hbb.block i (by have := HBB.out; omega)⟩ 2 _
         · have HRB := hide (show Below wa.heap.size wa ((wa.drewN (q + nq1 + nq)).drew) from (below_drewN (Below.refl wa.heap.size wa) _).drew)
           have hbl : b < wa.heap.size := (Array.getElem?_eq_some_iff.1 HNW.out).1
           have hgl2 : g < wa.heap.size := (Array.getElem?_eq_some_iff.1 HRA.out.heap).1
           have hx1 : wa.cell? ⟨b, 1, none⟩ = some (.bool xc.dir) := cellOf HNW.out (j := 1) rfl
           have hx2 : wa.cell? ⟨b, 2, none⟩ = some (.slice xd xc.data.length xa) := cellOf HNW.out (j := 2) rfl
           have hx3 : wa.cell? ⟨b, 3, none⟩ = some (.int .i64 xc.time) := cellOf HNW.out (j := 3) rfl
           have hs2 : ∀ W, Below wa.heap.size wa W → (fun w' => w'.cell? ⟨g, 2, none⟩ = some (.slice (some ⟨gs, o, none⟩) n c) ∧ w'.cell? ⟨b, 0, none⟩ = some (.string xs) ∧ w'.cell? ⟨b, 1, none⟩ = some (.bool xc.dir) ∧ w'.cell? ⟨b, 2, none⟩ = some (.slice xd xc.data.length xa) ∧ w'.cell? ⟨b, 3, none⟩ = some (.int .i64 xc.time)) W := fun W h => ⟨(h.cell (p := ⟨g, 2, none⟩) hgl2).trans hc2, (h.cell (p := ⟨b, 0, none⟩) hbl).trans hx0, (h.cell (p := ⟨b, 1, none⟩) hbl).trans hx1, (h.cell (p := ⟨b, 2, none⟩) hbl).trans hx2, (h.cell (p := ⟨b, 3, none⟩) hbl).trans hx3⟩
           have HS2 := hide hs2
           clear hs2
           refine wp_region_held_drew (S := fun w' => w'.cell? ⟨g, 2, none⟩ = some (.slice (some ⟨gs, o, none⟩) n c) ∧ w'.cell? ⟨b, 0, none⟩ = some (.string xs) ∧ w'.cell? ⟨b, 1, none⟩ = some (.bool xc.dir) ∧ w'.cell? ⟨b, 2, none⟩ = some (.slice xd xc.data.length xa) ∧ w'.cell? ⟨b, 3, none⟩ = some (.int .i64 xc.time)) (by kernel_rfl) (HS2.out _ HRB.out) (fun hHeld => ?_)
           refine tq (i := 0) (v := ?vA0) rfl rfl (by kernel_rfl) (fun _ _ _ h => h) ?yA0 (by assumption) ?rA0
           case yA0 => intro w h; (try dsimp only at h); go_simp; try with_reducible rfl
           try simp only [sA, sB, sC]
           refine tq (i := 1) (v := ?vA1) rfl rfl (by kernel_rfl) (fun _ _ _ h => h) ?yA1 (by assumption) ?rA1
           case yA1 => intro w h; (try dsimp only at h); go_simp; try with_reducible rfl
           try simp only [sA, sB, sC]
           refine tq (i := 2) (v := ?vA2) rfl rfl (by kernel_rfl) (fun _ _ _ h => h) ?yA2 (by assumption) ?rA2
           case yA2 => intro w h; (try dsimp only at h); go_simp; try with_reducible rfl
           try simp only [sA, sB, sC]
           refine tq (i := 3) (v := ?vA3) rfl rfl (by kernel_rfl) (fun _ _ _ h => h) ?yA3 (by assumption) ?rA3
           case yA3 => intro w h; (try dsimp only at h); go_simp; try with_reducible rfl
           try simp only [sA, sB, sC]
           refine tq (i := 4) (v := ?vA4) rfl rfl (by kernel_rfl) (fun _ _ _ h => h) ?yA4 (by assumption) ?rA4
           case yA4 => intro w h; (try dsimp only at h); go_simp; try with_reducible rfl
           try simp only [sA, sB, sC]
           refine tq (i := 5) (v := ?vA5) rfl rfl (by kernel_rfl) (fun _ _ _ h => h) ?yA5 (by assumption) ?rA5
           case yA5 => intro w h; (try dsimp only at h); go_simp; try with_reducible rfl
           try simp only [sA, sB, sC]
           refine tq (i := 7) (v := ?vA7) rfl rfl (by kernel_rfl) (fun _ _ _ h => h) ?yA7 (by assumption) ?rA7
           case yA7 => intro w h; (try dsimp only at h); go_simp; try with_reducible rfl
           try simp only [sA, sB, sC]
           refine wpAnyH_ready (rs := [6, 8]) (by kernel_rfl) (by simp) ?_
           refine AllReadyH.cons (o := _) rfl (fun K hK => ?Away1) (AllReadyH.cons (o := _) rfl (fun K hK => ?Away2) AllReadyH.nil)
           case Away1 =>
             obtain ⟨v2, w2, v3, w3, v4, w4, r2, r3, r4, ho4, hb2, hb3, hb4⟩ := putN_chain ((wa.drewN (q + nq1 + nq)).drew) (some ⟨gs, o, none⟩) (some ⟨gs, o + (k + 1) * 4, none⟩) c (c - (k + 1)) (P.take k) (P.drop (k + 1)) (xs, ⟨xd, xa, xc⟩) #[.string xs, .bool xc.dir, .slice xd xc.data.length xa, .int .i64 xc.time] rfl (HDR.out _ _ HRB.out) (HTK.out _ HRB.out) (by simp only [List.length_take, List.length_drop]; have := HN.out; omega)
             rw [show (P.drop (k + 1)).length = n - (k + 1) by rw [List.length_drop, HN.out]] at r4
             rw [show (P.take k).length = k by rw [List.length_take, HN.out]; omega] at r2
             have HB2 := hide (show Below wa.heap.size wa w2 from below_up HRB.out hb2 HRB.out.size)
             have HB3 := hide (show Below wa.heap.size wa w3 from below_up HRB.out hb3 HRB.out.size)
             have HB4 := hide (show Below wa.heap.size wa w4 from below_up HRB.out hb4 HRB.out.size)
             have ho5 := ho4.base (base' := wa.heap.size) (Nat.le_refl _)
             rw [← HQ.out] at ho5
             obtain ⟨A', c', rfl, hcp, hrg, hob, _⟩ := ho5.slice encE_len
             have HA' := hide (show ∀ a, A' = some a → wa.heap.size ≤ a.block from fun a e => (ho5.lt _ (hob a e)).1)
             have HCP := hide hcp
             have HRG := hide hrg
             clear ho4 ho5 hb2 hb3 hb4 hob hcp hrg
             refine step_app_run rfl _ _ rfl rfl rfl rfl r2 ?_
             refine hK.out _ _ (HS2.out _ HB2.out) (fun _ => ?_)
             clear hK K
             try simp only [Act.put, sA, sB, sC]
             refine rq (k := 8) rfl (by kernel_rfl) (by kernel_rfl) (fun K hK => ?_)
             go_simp
             refine hK.out _ _ (HS2.out _ (HB2.out.alloc HB2.out.size _)) (fun _ => ?_)
             clear hK K
             try simp only [Act.put, sA, sB, sC]
             refine wpAnyH_ready (rs := [9]) (by kernel_rfl) (by simp) ?_
             refine AllReadyH.cons (o := _) rfl (fun K hK => ?_) AllReadyH.nil
             refine step_app_run rfl _ _ rfl rfl rfl rfl r3 ?_
             refine hK.out _ _ (HS2.out _ HB3.out) (fun _ => ?_)
             clear hK K
             try simp only [Act.put, sA, sB, sC]
             refine tq (i := 10) (v := ?vAx10) rfl rfl (by kernel_rfl) (fun _ _ _ h => h) ?yAx10 (by assumption) ?rAx10
             case yAx10 => intro w h; (try dsimp only at h); go_simp; try with_reducible rfl
             try simp only [sA, sB, sC]
             refine wpAnyH_done (by kernel_rfl) ?_ _
             have hd2 := (HS2.out w3 HB3.out).1
             have hg4 := (HB4.out.block g hgl2).trans HRA.out.heap
             rw [HN.out] at hg4
             have hf4 := freeOf hg4 2
             have hcc4 := cellOf hg4 (j := 2) (v := .slice (some ⟨gs, o, none⟩) n c) rfl
             have HG5 := hide (heapSet (j := 2) hg4 (.slice A' (putG ((xs, ⟨xd, xa, xc⟩) : NV) P).length c'))
             obtain ⟨M, hM⟩ : ∃ m, (putG ((xs, ⟨xd, xa, xc⟩) : NV) P).length = m := ⟨_, rfl⟩
             rw [hM] at r4 HG5 HCP
             have HM := hide hM
             clear hg4 hM
             go_wp2_with (first | (at_builtin; refine wpList_app_run ?_ (.tmp 63) (.tmp 69) ?_ ?_ ?_ ?_ r4 ?_; exact rfl; exact rfl; exact rfl; exact rfl; exact rfl))
             go_end0
             have hsz : b ≤ wa.heap.size := by have := HBA.out.size; have := HBB.out; omega
             have hbb : Below b w w4 := below_up HBA.out HB4.out hsz
             refine ⟨rfl, A', c', ?_, ?_, ?_, ?_, ?_⟩
             · rw [HM.out]; exact HG5.out
             · rw [HM.out]; exact HCP.out
             · exact HRG.out.gb (gb_setCell (World.grownBy.refl w4 (some g)) 2 _) (fun a e h => by injection h with h; have := HA'.out a e; omega)
             · intro a e; have := HA'.out a e; have := HBB.out; omega
             · exact gb_setCell ⟨hbb.os, hbb.tape, hbb.output, hbb.size, fun i hi _ => hbb.block i (by have := HBB.out; omega)⟩ 2 _
           case Away2 =>
             have HRB := hide (below_drewN (Below.refl wa.heap.size wa) (q + nq1 + nq + 1))
             obtain ⟨v2, w2, v3, w3, v4, w4, r2, r3, r4, ho4, hb2, hb3, hb4⟩ := putN_chain2 (wa.drewN (q + nq1 + nq + 1)) (some ⟨gs, o, none⟩) (some ⟨gs, o + (k + 1) * 4, none⟩) c (c - (k + 1)) (P.take k) (P.drop (k + 1)) (xs, ⟨xd, xa, xc⟩) #[.string xs, .bool xc.dir, .slice xd xc.data.length xa, .int .i64 xc.time] rfl (HDR.out _ _ HRB.out) (HTK.out _ HRB.out) (by simp only [List.length_take, List.length_drop]; have := HN.out; omega)
             rw [show (P.drop (k + 1)).length = n - (k + 1) by rw [List.length_drop, HN.out]] at r4
             rw [show (P.take k).length = k by rw [List.length_take, HN.out]; omega] at r2
             have HB2 := hide (show Below wa.heap.size wa w2 from below_up HRB.out hb2 HRB.out.size)
             have HB3 := hide (show Below wa.heap.size wa w3 from below_up HRB.out hb3 HRB.out.size)
             have HB4 := hide (show Below wa.heap.size wa w4 from below_up HRB.out hb4 HRB.out.size)
             have ho5 := ho4.base (base' := wa.heap.size) (Nat.le_refl _)
             rw [← HQ.out] at ho5
             obtain ⟨A', c', rfl, hcp, hrg, hob, _⟩ := ho5.slice encE_len
             have HA' := hide (show ∀ a, A' = some a → wa.heap.size ≤ a.block from fun a e => (ho5.lt _ (hob a e)).1)
             have HCP := hide hcp
             have HRG := hide hrg
             clear ho4 ho5 hb2 hb3 hb4 hob hcp hrg
             rw [if_pos (by kernel_rfl)]
             go_simp
             refine hK.out _ _ (HS2.out _ (HRB.out.alloc HRB.out.size _)) (fun _ => ?_)
             clear hK K
             try simp only [Act.put, sA, sB, sC]
             refine wpAnyH_ready (rs := [6]) (by kernel_rfl) (by simp) ?_
             refine AllReadyH.cons (o := _) rfl (fun K hK => ?_) AllReadyH.nil
             refine step_app_run rfl _ _ rfl rfl rfl rfl r2 ?_
             refine hK.out _ _ (HS2.out _ HB2.out) (fun _ => ?_)
             clear hK K
             try simp only [Act.put, sA, sB, sC]
             refine wpAnyH_ready (rs := [9]) (by kernel_rfl) (by simp) ?_
             refine AllReadyH.cons (o := _) rfl (fun K hK => ?_) AllReadyH.nil
             refine step_app_run rfl _ _ rfl rfl rfl rfl r3 ?_
             refine hK.out _ _ (HS2.out _ HB3.out) (fun _ => ?_)
             clear hK K
             try simp only [Act.put, sA, sB, sC]
             refine tq (i := 10) (v := ?vAy10) rfl rfl (by kernel_rfl) (fun _ _ _ h => h) ?yAy10 (by assumption) ?rAy10
             case yAy10 => intro w h; (try dsimp only at h); go_simp; try with_reducible rfl
             try simp only [sA, sB, sC]
             refine wpAnyH_done (by kernel_rfl) ?_ _
             have hd2 := (HS2.out w3 HB3.out).1
             have hg4 := (HB4.out.block g hgl2).trans HRA.out.heap
             rw [HN.out] at hg4
             have hf4 := freeOf hg4 2
             have hcc4 := cellOf hg4 (j := 2) (v := .slice (some ⟨gs, o, none⟩) n c) rfl
             have HG5 := hide (heapSet (j := 2) hg4 (.slice A' (putG ((xs, ⟨xd, xa, xc⟩) : NV) P).length c'))
             obtain ⟨M, hM⟩ : ∃ m, (putG ((xs, ⟨xd, xa, xc⟩) : NV) P).length = m := ⟨_, rfl⟩
             rw [hM] at r4 HG5 HCP
             have HM := hide hM
             clear hg4 hM
             go_wp2_with (first | (at_builtin; refine wpList_app_run ?_ (.tmp 63) (.tmp 69) ?_ ?_ ?_ ?_ r4 ?_; exact rfl; exact rfl; exact rfl; exact rfl; exact rfl))
             go_end0
             have hsz : b ≤ wa.heap.size := by have := HBA.out.size; have := HBB.out; omega
             have hbb : Below b w w4 := below_up HBA.out HB4.out hsz
             refine ⟨rfl, A', c', ?_, ?_, ?_, ?_, ?_⟩
             · rw [HM.out]; exact HG5.out
             · rw [HM.out]; exact HCP.out
             · exact HRG.out.gb (gb_setCell (World.grownBy.refl w4 (some g)) 2 _) (fun a e h => by injection h with h; have := HA'.out a e; omega)
             · intro a e; have := HA'.out a e; have := HBB.out; omega
             · exact gb_setCell ⟨hbb.os, hbb.tape, hbb.output, hbb.size, fun i hi _ => hbb.block i (by have := HBB.out; omega)⟩ 2 _
       · have e1 : (ys.toList == xs.toList) = false := txt_ne he
         have HQ := hide (show putG ((xs, ⟨xd, xa, xc⟩) : NV) P = P.take k ++ [(xs, ⟨xd, xa, xc⟩)] ++ P.drop k by rw [HP.out, HY.out]; dsimp only; rw [HYS.out, if_neg he])
         clear he HP
         go_wp2_with fail
         go_quiet (fail)
         obtain ⟨nq1, hnq1⟩ : ∃ z, z = nq := ⟨_, rfl⟩
         subst hnq1
         go_wp2_with fail
         go_quiet (fail)
         go_wp2_with fail
         have HRB := hide (show Below wa.heap.size wa ((((wa.drewN q).drewN nq1).drewN nq).drew) from (below_drewN (below_drewN (below_drewN (Below.refl wa.heap.size wa) _) _) _).drew)
         have hbl : b < wa.heap.size := (Array.getElem?_eq_some_iff.1 HNW.out).1
         have hgl2 : g < wa.heap.size := (Array.getElem?_eq_some_iff.1 HRA.out.heap).1
         have hx1 : wa.cell? ⟨b, 1, none⟩ = some (.bool xc.dir) := cellOf HNW.out (j := 1) rfl
         have hx2 : wa.cell? ⟨b, 2, none⟩ = some (.slice xd xc.data.length xa) := cellOf HNW.out (j := 2) rfl
         have hx3 : wa.cell? ⟨b, 3, none⟩ = some (.int .i64 xc.time) := cellOf HNW.out (j := 3) rfl
         have hs2 : ∀ W, Below wa.heap.size wa W → (fun w' => w'.cell? ⟨g, 2, none⟩ = some (.slice (some ⟨gs, o, none⟩) n c) ∧ w'.cell? ⟨b, 0, none⟩ = some (.string xs) ∧ w'.cell? ⟨b, 1, none⟩ = some (.bool xc.dir) ∧ w'.cell? ⟨b, 2, none⟩ = some (.slice xd xc.data.length xa) ∧ w'.cell? ⟨b, 3, none⟩ = some (.int .i64 xc.time)) W := fun W h => ⟨(h.cell (p := ⟨g, 2, none⟩) hgl2).trans hc2, (h.cell (p := ⟨b, 0, none⟩) hbl).trans hx0, (h.cell (p := ⟨b, 1, none⟩) hbl).trans hx1, (h.cell (p := ⟨b, 2, none⟩) hbl).trans hx2, (h.cell (p := ⟨b, 3, none⟩) hbl).trans hx3⟩
         have HS2 := hide hs2
         clear hs2
         refine wp_region_held_drew (S := fun w' => w'.cell? ⟨g, 2, none⟩ = some (.slice (some ⟨gs, o, none⟩) n c) ∧ w'.cell? ⟨b, 0, none⟩ = some (.string xs) ∧ w'.cell? ⟨b, 1, none⟩ = some (.bool xc.dir) ∧ w'.cell? ⟨b, 2, none⟩ = some (.slice xd xc.data.length xa) ∧ w'.cell? ⟨b, 3, none⟩ = some (.int .i64 xc.time)) (by kernel_rfl) (HS2.out _ HRB.out) (fun hHeld => ?_)
         refine tq (i := 0) (v := ?vB0) rfl rfl (by kernel_rfl) (fun _ _ _ h => h) ?yB0 (by assumption) ?rB0
         case yB0 => intro w h; (try dsimp only at h); go_simp; try with_reducible rfl
         try simp only [sA, sB, sC]
         refine tq (i := 1) (v := ?vB1) rfl rfl (by kernel_rfl) (fun _ _ _ h => h) ?yB1 (by assumption) ?rB1
         case yB1 => intro w h; (try dsimp only at h); go_simp; try with_reducible rfl
         try simp only [sA, sB, sC]
         refine tq (i := 2) (v := ?vB2) rfl rfl (by kernel_rfl) (fun _ _ _ h => h) ?yB2 (by assumption) ?rB2
         case yB2 => intro w h; (try dsimp only at h); go_simp; try with_reducible rfl
         try simp only [sA, sB, sC]
         refine tq (i := 3) (v := ?vB3) rfl rfl (by kernel_rfl) (fun _ _ _ h => h) ?yB3 (by assumption) ?rB3
         case yB3 => intro w h; (try dsimp only at h); go_simp; try with_reducible rfl
         try simp only [sA, sB, sC]
         refine tq (i := 4) (v := ?vB4) rfl rfl (by kernel_rfl) (fun _ _ _ h => h) ?yB4 (by assumption) ?rB4
         case yB4 => intro w h; (try dsimp only at h); go_simp; try with_reducible rfl
         try simp only [sA, sB, sC]
         refine tq (i := 5) (v := ?vB5) rfl rfl (by kernel_rfl) (fun _ _ _ h => h) ?yB5 (by assumption) ?rB5
         case yB5 => intro w h; (try dsimp only at h); go_simp; try with_reducible rfl
         try simp only [sA, sB, sC]
         refine tq (i := 7) (v := ?vB7) rfl rfl (by kernel_rfl) (fun _ _ _ h => h) ?yB7 (by assumption) ?rB7
         case yB7 => intro w h; (try dsimp only at h); go_simp; try with_reducible rfl
         try simp only [sA, sB, sC]
         refine wpAnyH_ready (rs := [6, 8]) (by kernel_rfl) (by simp) ?_
         refine AllReadyH.cons (o := _) rfl (fun K hK => ?Bway1) (AllReadyH.cons (o := _) rfl (fun K hK => ?Bway2) AllReadyH.nil)
         case Bway1 =>
           obtain ⟨v2, w2, v3, w3, v4, w4, r2, r3, r4, ho4, hb2, hb3, hb4⟩ := putN_chain ((((wa.drewN q).drewN nq1).drewN nq).drew) (some ⟨gs, o, none⟩) (some ⟨gs, o + k * 4, none⟩) c (c - (k)) (P.take k) (P.drop (k)) (xs, ⟨xd, xa, xc⟩) #[.string xs, .bool xc.dir, .slice xd xc.data.length xa, .int .i64 xc.time] rfl (HDR.out _ _ HRB.out) (HTK.out _ HRB.out) (by simp only [List.length_take, List.length_drop]; have := HN.out; omega)
           rw [show (P.drop (k)).length = n - (k) by rw [List.length_drop, HN.out]] at r4
           rw [show (P.take k).length = k by rw [List.length_take, HN.out]; omega] at r2
           have HB2 := hide (show Below wa.heap.size wa w2 from below_up HRB.out hb2 HRB.out.size)
           have HB3 := hide (show Below wa.heap.size wa w3 from below_up HRB.out hb3 HRB.out.size)
           have HB4 := hide (show Below wa.heap.size wa w4 from below_up HRB.out hb4 HRB.out.size)
           have ho5 := ho4.base (base' := wa.heap.size) (Nat.le_refl _)
           rw [← HQ.out] at ho5
           obtain ⟨A', c', rfl, hcp, hrg, hob, _⟩ := ho5.slice encE_len
           have HA' := hide (show ∀ a, A' = some a → wa.heap.size ≤ a.block from fun a e => (ho5.lt _ (hob a e)).1)
           have HCP := hide hcp
           have HRG := hide hrg
           clear ho4 ho5 hb2 hb3 hb4 hob hcp hrg
           refine step_app_run rfl _ _ rfl rfl rfl rfl r2 ?_
           refine hK.out _ _ (HS2.out _ HB2.out) (fun _ => ?_)
           clear hK K
           try simp only [Act.put, sA, sB, sC]
           refine rq (k := 8) rfl (by kernel_rfl) (by kernel_rfl) (fun K hK => ?_)
           go_simp
           refine hK.out _ _ (HS2.out _ (HB2.out.alloc HB2.out.size _)) (fun _ => ?_)
           clear hK K
           try simp only [Act.put, sA, sB, sC]
           refine wpAnyH_ready (rs := [9]) (by kernel_rfl) (by simp) ?_
           refine AllReadyH.cons (o := _) rfl (fun K hK => ?_) AllReadyH.nil
           refine step_app_run rfl _ _ rfl rfl rfl rfl r3 ?_
           refine hK.out _ _ (HS2.out _ HB3.out) (fun _ => ?_)
           clear hK K
           try simp only [Act.put, sA, sB, sC]
           refine tq (i := 10) (v := ?vBx10) rfl rfl (by kernel_rfl) (fun _ _ _ h => h) ?yBx10 (by assumption) ?rBx10
           case yBx10 => intro w h; (try dsimp only at h); go_simp; try with_reducible rfl
           try simp only [sA, sB, sC]
           refine wpAnyH_done (by kernel_rfl) ?_ _
           have hd2 := (HS2.out w3 HB3.out).1
           have hg4 := (HB4.out.block g hgl2).trans HRA.out.heap
           rw [HN.out] at hg4
           have hf4 := freeOf hg4 2
           have hcc4 := cellOf hg4 (j := 2) (v := .slice (some ⟨gs, o, none⟩) n c) rfl
           have HG5 := hide (heapSet (j := 2) hg4 (.slice A' (putG ((xs, ⟨xd, xa, xc⟩) : NV) P).length c'))
           obtain ⟨M, hM⟩ : ∃ m, (putG ((xs, ⟨xd, xa, xc⟩) : NV) P).length = m := ⟨_, rfl⟩
           rw [hM] at r4 HG5 HCP
           have HM := hide hM
           clear hg4 hM
           go_wp2_with (first | (at_builtin; refine wpList_app_run ?_ (.tmp 63) (.tmp 69) ?_ ?_ ?_ ?_ r4 ?_; exact rfl; exact rfl; exact rfl; exact rfl; exact rfl))
           go_end0
           have hsz : b ≤ wa.heap.size := by have := HBA.out.size; have := HBB.out; omega
           have hbb : Below b w w4 := below_up HBA.out HB4.out hsz
           refine ⟨rfl, A', c', ?_, ?_, ?_, ?_, ?_⟩
           · rw [HM.out]; exact HG5.out
           · rw [HM.out]; exact HCP.out
           · exact HRG.out.gb (gb_setCell (World.grownBy.refl w4 (some g)) 2 _) (fun a e h => by injection h with h; have := HA'.out a e; omega)
           · intro a e; have := HA'.out a e; have := HBB.out; omega
           · exact gb_setCell ⟨hbb.os, hbb.tape, hbb.output, hbb.size, fun i hi _ => hbb.block i (by have := HBB.out; omega)⟩ 2 _
         case Bway2 =>
           have HRB := hide (below_drewN (Below.refl wa.heap.size wa) (q + nq1 + nq + 1))
           obtain ⟨v2, w2, v3, w3, v4, w4, r2, r3, r4, ho4, hb2, hb3, hb4⟩ := putN_chain2 (wa.drewN (q + nq1 + nq + 1)) (some ⟨gs, o, none⟩) (some ⟨gs, o + k * 4, none⟩) c (c - (k)) (P.take k) (P.drop (k)) (xs, ⟨xd, xa, xc⟩) #[.string xs, .bool xc.dir, .slice xd xc.data.length xa, .int .i64 xc.time] rfl (HDR.out _ _ HRB.out) (HTK.out _ HRB.out) (by simp only [List.length_take, List.length_drop]; have := HN.out; omega)
           rw [show (P.drop (k)).length = n - (k) by rw [List.length_drop, HN.out]] at r4
           rw [show (P.take k).length = k by rw [List.length_take, HN.out]; omega] at r2
           have HB2 := hide (show Below wa.heap.size wa w2 from below_up HRB.out hb2 HRB.out.size)
           have HB3 := hide (show Below wa.heap.size wa w3 from below_up HRB.out hb3 HRB.out.size)
           have HB4 := hide (show Below wa.heap.size wa w4 from below_up HRB.out hb4 HRB.out.size)
           have ho5 := ho4.base (base' := wa.heap.size) (Nat.le_refl _)
           rw [← HQ.out] at ho5
           obtain ⟨A', c', rfl, hcp, hrg, hob, _⟩ := ho5.slice encE_len
           have HA' := hide (show ∀ a, A' = some a → wa.heap.size ≤ a.block from fun a e => (ho5.lt _ (hob a e)).1)
           have HCP := hide hcp
           have HRG := hide hrg
           clear ho4 ho5 hb2 hb3 hb4 hob hcp hrg
           rw [if_pos (by kernel_rfl)]
           go_simp
           refine hK.out _ _ (HS2.out _ (HRB.out.alloc HRB.out.size _)) (fun _ => ?_)
           clear hK K
           try simp only [Act.put, sA, sB, sC]
           refine wpAnyH_ready (rs := [6]) (by kernel_rfl) (by simp) ?_
           refine AllReadyH.cons (o := _) rfl (fun K hK => ?_) AllReadyH.nil
           refine step_app_run rfl _ _ rfl rfl rfl rfl r2 ?_
           refine hK.out _ _ (HS2.out _ HB2.out) (fun _ => ?_)
           clear hK K
           try simp only [Act.put, sA, sB, sC]
           refine wpAnyH_ready (rs := [9]) (by kernel_rfl) (by simp) ?_
           refine AllReadyH.cons (o := _) rfl (fun K hK => ?_) AllReadyH.nil
           refine step_app_run rfl _ _ rfl rfl rfl rfl r3 ?_
           refine hK.out _ _ (HS2.out _ HB3.out) (fun _ => ?_)
           clear hK K
           try simp only [Act.put, sA, sB, sC]
           refine tq (i := 10) (v := ?vBy10) rfl rfl (by kernel_rfl) (fun _ _ _ h => h) ?yBy10 (by assumption) ?rBy10
           case yBy10 => intro w h; (try dsimp only at h); go_simp; try with_reducible rfl
           try simp only [sA, sB, sC]
           refine wpAnyH_done (by kernel_rfl) ?_ _
           have hd2 := (HS2.out w3 HB3.out).1
           have hg4 := (HB4.out.block g hgl2).trans HRA.out.heap
           rw [HN.out] at hg4
           have hf4 := freeOf hg4 2
           have hcc4 := cellOf hg4 (j := 2) (v := .slice (some ⟨gs, o, none⟩) n c) rfl
           have HG5 := hide (heapSet (j := 2) hg4 (.slice A' (putG ((xs, ⟨xd, xa, xc⟩) : NV) P).length c'))
           obtain ⟨M, hM⟩ : ∃ m, (putG ((xs, ⟨xd, xa, xc⟩) : NV) P).length = m := ⟨_, rfl⟩
           rw [hM] at r4 HG5 HCP
           have HM := hide hM
           clear hg4 hM
           go_wp2_with (first | (at_builtin; refine wpList_app_run ?_ (.tmp 63) (.tmp 69) ?_ ?_ ?_ ?_ r4 ?_; exact rfl; exact rfl; exact rfl; exact rfl; exact rfl))
           go_end0
           have hsz : b ≤ wa.heap.size := by have := HBA.out.size; have := HBB.out; omega
           have hbb : Below b w w4 := below_up HBA.out HB4.out hsz
           refine ⟨rfl, A', c', ?_, ?_, ?_, ?_, ?_⟩
           · rw [HM.out]; exact HG5.out
           · rw [HM.out]; exact HCP.out
           · exact HRG.out.gb (gb_setCell (World.grownBy.refl w4 (some g)) 2 _) (fun a e h => by injection h with h; have := HA'.out a e; omega)
           · intro a e; have := HA'.out a e; have := HBB.out; omega
           · exact gb_setCell ⟨hbb.os, hbb.tape, hbb.output, hbb.size, fun i hi _ => hbb.block i (by have := HBB.out; omega)⟩ 2 _
   · obtain rfl : k = n := by omega
     have d1 : decide ((k : Int) < (k : Int)) = false := by simp
     have HQ := hide (show putG ((xs, ⟨xd, xa, xc⟩) : NV) P = P.take k ++ [(xs, ⟨xd, xa, xc⟩)] ++ P.drop k by
       rw [putG_at (x := ((xs, ⟨xd, xa, xc⟩) : NV)) P k (by have := HN.out; omega) HE.out (fun z hz => by rw [List.getElem?_eq_none (by have := HN.out; omega)] at hz; cases hz), List.getElem?_eq_none (by have := HN.out; omega)])
     have hkc : k ≤ c := by have := ho.cap; have := HN.out; omega
     have HTK := hide (fun (W : World) (h : Below wa.heap.size wa W) => show RG encE 4 W A (P.take k) from (HRA.out.below h).rg.take k)
     have HDE := hide (fun (A2 : Option Addr) (W : World) (_ : Below wa.heap.size wa W) => show RG encE 4 W A2 (P.drop k) from fun j s hj => by
       rw [List.getElem?_drop, List.getElem?_eq_none (by have := HN.out; omega)] at hj
       cases hj)
     clear ho hg
     rcases A with _ | a
     · have hz : k = 0 := by
         have hN := HN.out
         have hrg := HRA.out.rg
         rcases Nat.eq_zero_or_pos k with h | h
         · exact h
         · obtain ⟨_, _, e, _⟩ := hrg 0 (P[0]'(by omega)) (gE _)
           cases e
       have HZ := hide hz
       clear hz
       go_wp2_with fail
       go_quiet (fail)
       obtain ⟨nq1, hnq1⟩ : ∃ z, z = nq := ⟨_, rfl⟩
       subst hnq1
       go_wp2_with fail
       go_quiet (fail)
       go_wp2_with fail
       have HRB := hide (show Below wa.heap.size wa ((((wa.drewN q).drewN nq1).drewN nq).drew) from (below_drewN (below_drewN (below_drewN (Below.refl wa.heap.size wa) _) _) _).drew)
       have hbl : b < wa.heap.size := (Array.getElem?_eq_some_iff.1 HNW.out).1
       have hgl2 : g < wa.heap.size := (Array.getElem?_eq_some_iff.1 HRA.out.heap).1
       have hx1 : wa.cell? ⟨b, 1, none⟩ = some (.bool xc.dir) := cellOf HNW.out (j := 1) rfl
       have hx2 : wa.cell? ⟨b, 2, none⟩ = some (.slice xd xc.data.length xa) := cellOf HNW.out (j := 2) rfl
       have hx3 : wa.cell? ⟨b, 3, none⟩ = some (.int .i64 xc.time) := cellOf HNW.out (j := 3) rfl
       have hs2 : ∀ W, Below wa.heap.size wa W → (fun w' => w'.cell? ⟨g, 2, none⟩ = some (.slice (none) k c) ∧ w'.cell? ⟨b, 0, none⟩ = some (.string xs) ∧ w'.cell? ⟨b, 1, none⟩ = some (.bool xc.dir) ∧ w'.cell? ⟨b, 2, none⟩ = some (.slice xd xc.data.length xa) ∧ w'.cell? ⟨b, 3, none⟩ = some (.int .i64 xc.time)) W := fun W h => ⟨(h.cell (p := ⟨g, 2, none⟩) hgl2).trans hc2, (h.cell (p := ⟨b, 0, none⟩) hbl).trans hx0, (h.cell (p := ⟨b, 1, none⟩) hbl).trans hx1, (h.cell (p := ⟨b, 2, none⟩) hbl).trans hx2, (h.cell (p := ⟨b, 3, none⟩) hbl).trans hx3⟩
       have HS2 := hide hs2
       clear hs2
       refine wp_region_held_drew (S := fun w' => w'.cell? ⟨g, 2, none⟩ = some (.slice (none) k c) ∧ w'.cell? ⟨b, 0, none⟩ = some (.string xs) ∧ w'.cell? ⟨b, 1, none⟩ = some (.bool xc.dir) ∧ w'.cell? ⟨b, 2, none⟩ = some (.slice xd xc.data.length xa) ∧ w'.cell? ⟨b, 3, none⟩ = some (.int .i64 xc.time)) (by kernel_rfl) (HS2.out _ HRB.out) (fun hHeld => ?_)
       refine tq (i := 0) (v := ?vC0) rfl rfl (by kernel_rfl) (fun _ _ _ h => h) ?yC0 (by assumption) ?rC0
       case yC0 => intro w h; (try dsimp only at h); go_simp; try with_reducible rfl
       try simp only [sA, sB, sC]
       refine tq (i := 1) (v := ?vC1) rfl rfl (by kernel_rfl) (fun _ _ _ h => h) ?yC1 (by assumption) ?rC1
       case yC1 => intro w h; (try dsimp only at h); go_simp; try with_reducible rfl
       try simp only [sA, sB, sC]
       refine tq (i := 2) (v := ?vC2) rfl rfl (by kernel_rfl) (fun _ _ _ h => h) ?yC2 (by assumption) ?rC2
       case yC2 => intro w h; (try dsimp only at h); go_simp; try with_reducible rfl
       try simp only [sA, sB, sC]
       refine tq (i := 3) (v := ?vC3) rfl rfl (by kernel_rfl) (fun _ _ _ h => h) ?yC3 (by assumption) ?rC3
       case yC3 => intro w h; (try dsimp only at h); go_simp; try with_reducible rfl
       try simp only [sA, sB, sC]
       refine tq (i := 4) (v := ?vC4) rfl rfl (by kernel_rfl) (fun _ _ _ h => h) ?yC4 (by assumption) ?rC4
       case yC4 => intro w h; (try dsimp only at h); go_simp; try with_reducible rfl
       try simp only [sA, sB, sC]
       refine tq (i := 5) (v := ?vC5) rfl rfl (by kernel_rfl) (fun _ _ _ h => h) ?yC5 (by assumption) ?rC5
       case yC5 => intro w h; (try dsimp only at h); go_simp; try with_reducible rfl
       try simp only [sA, sB, sC]
       refine tq (i := 7) (v := ?vC7) rfl rfl (by kernel_rfl) (fun _ _ _ h => h) ?yC7 (by assumption) ?rC7
       case yC7 => intro w h; (try dsimp only at h); go_simp; try with_reducible rfl
       try simp only [sA, sB, sC]
       refine wpAnyH_ready (rs := [6, 8]) (by kernel_rfl) (by simp) ?_
       refine AllReadyH.cons (o := _) rfl (fun K hK => ?Cway1) (AllReadyH.cons (o := _) rfl (fun K hK => ?Cway2) AllReadyH.nil)
       case Cway1 =>
         obtain ⟨v2, w2, v3, w3, v4, w4, r2, r3, r4, ho4, hb2, hb3, hb4⟩ := putN_chain ((((wa.drewN q).drewN nq1).drewN nq).drew) (none) (none) c (c - (k)) (P.take k) (P.drop (k)) (xs, ⟨xd, xa, xc⟩) #[.string xs, .bool xc.dir, .slice xd xc.data.length xa, .int .i64 xc.time] rfl (HDE.out _ _ HRB.out) (HTK.out _ HRB.out) (by simp only [List.length_take, List.length_drop]; have := HN.out; omega)
         rw [show (P.drop (k)).length = 0 by rw [List.length_drop, HN.out]; omega] at r4
         rw [show (P.take k).length = k by rw [List.length_take, HN.out]; omega] at r2
         have HB2 := hide (show Below wa.heap.size wa w2 from below_up HRB.out hb2 HRB.out.size)
         have HB3 := hide (show Below wa.heap.size wa w3 from below_up HRB.out hb3 HRB.out.size)
         have HB4 := hide (show Below wa.heap.size wa w4 from below_up HRB.out hb4 HRB.out.size)
         have ho5 := ho4.base (base' := wa.heap.size) (Nat.le_refl _)
         rw [← HQ.out] at ho5
         obtain ⟨A', c', rfl, hcp, hrg, hob, _⟩ := ho5.slice encE_len
         have HA' := hide (show ∀ a, A' = some a → wa.heap.size ≤ a.block from fun a e => (ho5.lt _ (hob a e)).1)
         have HCP := hide hcp
         have HRG := hide hrg
         clear ho4 ho5 hb2 hb3 hb4 hob hcp hrg
         refine step_app_run rfl _ _ rfl rfl rfl rfl r2 ?_
         refine hK.out _ _ (HS2.out _ HB2.out) (fun _ => ?_)
         clear hK K
         try simp only [Act.put, sA, sB, sC]
         refine rq (k := 8) rfl (by kernel_rfl) (by kernel_rfl) (fun K hK => ?_)
         go_simp
         refine hK.out _ _ (HS2.out _ (HB2.out.alloc HB2.out.size _)) (fun _ => ?_)
         clear hK K
         try simp only [Act.put, sA, sB, sC]
         refine wpAnyH_ready (rs := [9]) (by kernel_rfl) (by simp) ?_
         refine AllReadyH.cons (o := _) rfl (fun K hK => ?_) AllReadyH.nil
         refine step_app_run rfl _ _ rfl rfl rfl rfl r3 ?_
         refine hK.out _ _ (HS2.out _ HB3.out) (fun _ => ?_)
         clear hK K
         try simp only [Act.put, sA, sB, sC]
         refine tq (i := 10) (v := ?vCx10) rfl rfl (by kernel_rfl) (fun _ _ _ h => h) ?yCx10 (by assumption) ?rCx10
         case yCx10 => intro w h; (try dsimp only at h); go_simp; try with_reducible rfl
         try simp only [sA, sB, sC]
         refine wpAnyH_done (by kernel_rfl) ?_ _
         have hd2 := (HS2.out w3 HB3.out).1
         have hg4 := (HB4.out.block g hgl2).trans HRA.out.heap
         rw [HN.out] at hg4
         have hf4 := freeOf hg4 2
         have hcc4 := cellOf hg4 (j := 2) (v := .slice none k c) rfl
         have HG5 := hide (heapSet (j := 2) hg4 (.slice A' (putG ((xs, ⟨xd, xa, xc⟩) : NV) P).length c'))
         obtain ⟨M, hM⟩ : ∃ m, (putG ((xs, ⟨xd, xa, xc⟩) : NV) P).length = m := ⟨_, rfl⟩
         rw [hM] at r4 HG5 HCP
         have HM := hide hM
         clear hg4 hM
         go_wp2_with (first | (at_builtin; refine wpList_app_run ?_ (.tmp 63) (.tmp 69) ?_ ?_ ?_ ?_ r4 ?_; exact rfl; exact rfl; exact rfl; exact rfl; exact rfl))
         go_end0
         have hsz : b ≤ wa.heap.size := by have := HBA.out.size; have := HBB.out; omega
         have hbb : Below b w w4 := below_up HBA.out HB4.out hsz
         refine ⟨rfl, A', c', ?_, ?_, ?_, ?_, ?_⟩
         · rw [HM.out]; exact HG5.out
         · rw [HM.out]; exact HCP.out
         · exact HRG.out.gb (gb_setCell (World.grownBy.refl w4 (some g)) 2 _) (fun a e h => by injection h with h; have := HA'.out a e; omega)
         · intro a e; have := HA'.out a e; have := HBB.out; omega
         · exact gb_setCell ⟨hbb.os, hbb.tape, hbb.output, hbb.size, fun i hi _ => hbb.block i (by have := HBB.out; omega)⟩ 2 _
       case Cway2 =>
         have HRB := hide (below_drewN (Below.refl wa.heap.size wa) (q + nq1 + nq + 1))
         obtain ⟨v2, w2, v3, w3, v4, w4, r2, r3, r4, ho4, hb2, hb3, hb4⟩ := putN_chain2 (wa.drewN (q + nq1 + nq + 1)) (none) (none) c (c - (k)) (P.take k) (P.drop (k)) (xs, ⟨xd, xa, xc⟩) #[.string xs, .bool xc.dir, .slice xd xc.data.length xa, .int .i64 xc.time] rfl (HDE.out _ _ HRB.out) (HTK.out _ HRB.out) (by simp only [List.length_take, List.length_drop]; have := HN.out; omega)
         rw [show (P.drop (k)).length = 0 by rw [List.length_drop, HN.out]; omega] at r4
         rw [show (P.take k).length = k by rw [List.length_take, HN.out]; omega] at r2
         have HB2 := hide (show Below wa.heap.size wa w2 from below_up HRB.out hb2 HRB.out.size)
         have HB3 := hide (show Below wa.heap.size wa w3 from below_up HRB.out hb3 HRB.out.size)
         have HB4 := hide (show Below wa.heap.size wa w4 from below_up HRB.out hb4 HRB.out.size)
         have ho5 := ho4.base (base' := wa.heap.size) (Nat.le_refl _)
         rw [← HQ.out] at ho5
         obtain ⟨A', c', rfl, hcp, hrg, hob, _⟩ := ho5.slice encE_len
         have HA' := hide (show ∀ a, A' = some a → wa.heap.size ≤ a.block from fun a e => (ho5.lt _ (hob a e)).1)
         have HCP := hide hcp
         have HRG := hide hrg
         clear ho4 ho5 hb2 hb3 hb4 hob hcp hrg
         rw [if_pos (by kernel_rfl)]
         go_simp
         refine hK.out _ _ (HS2.out _ (HRB.out.alloc HRB.out.size _)) (fun _ => ?_)
         clear hK K
         try simp only [Act.put, sA, sB, sC]
         refine wpAnyH_ready (rs := [6]) (by kernel_rfl) (by simp) ?_
         refine AllReadyH.cons (o := _) rfl (fun K hK => ?_) AllReadyH.nil
         refine step_app_run rfl _ _ rfl rfl rfl rfl r2 ?_
         refine hK.out _ _ (HS2.out _ HB2.out) (fun _ => ?_)
         clear hK K
         try simp only [Act.put, sA, sB, sC]
         refine wpAnyH_ready (rs := [9]) (by kernel_rfl) (by simp) ?_
         refine AllReadyH.cons (o := _) rfl (fun K hK => ?_) AllReadyH.nil
         refine step_app_run rfl _ _ rfl rfl rfl rfl r3 ?_
         refine hK.out _ _ (HS2.out _ HB3.out) (fun _ => ?_)
         clear hK K
         try simp only [Act.put, sA, sB, sC]
         refine tq (i := 10) (v := ?vCy10) rfl rfl (by kernel_rfl) (fun _ _ _ h => h) ?yCy10 (by assumption) ?rCy10
         case yCy10 => intro w h; (try dsimp only at h); go_simp; try with_reducible rfl
         try simp only [sA, sB, sC]
         refine wpAnyH_done (by kernel_rfl) ?_ _
         have hd2 := (HS2.out w3 HB3.out).1
         have hg4 := (HB4.out.block g hgl2).trans HRA.out.heap
         rw [HN.out] at hg4
         have hf4 := freeOf hg4 2
         have hcc4 := cellOf hg4 (j := 2) (v := .slice none k c) rfl
         have HG5 := hide (heapSet (j := 2) hg4 (.slice A' (putG ((xs, ⟨xd, xa, xc⟩) : NV) P).length c'))
         obtain ⟨M, hM⟩ : ∃ m, (putG ((xs, ⟨xd, xa, xc⟩) : NV) P).length = m := ⟨_, rfl⟩
         rw [hM] at r4 HG5 HCP
         have HM := hide hM
         clear hg4 hM
         go_wp2_with (first | (at_builtin; refine wpList_app_run ?_ (.tmp 63) (.tmp 69) ?_ ?_ ?_ ?_ r4 ?_; exact rfl; exact rfl; exact rfl; exact rfl; exact rfl))
         go_end0
         have hsz : b ≤ wa.heap.size := by have := HBA.out.size; have := HBB.out; omega
         have hbb : Below b w w4 := below_up HBA.out HB4.out hsz
         refine ⟨rfl, A', c', ?_, ?_, ?_, ?_, ?_⟩
         · rw [HM.out]; exact HG5.out
         · rw [HM.out]; exact HCP.out
         · exact HRG.out.gb (gb_setCell (World.grownBy.refl w4 (some g)) 2 _) (fun a e h => by injection h with h; have := HA'.out a e; omega)
         · intro a e; have := HA'.out a e; have := HBB.out; omega
         · exact gb_setCell ⟨hbb.os, hbb.tape, hbb.output, hbb.size, fun i hi _ => hbb.block i (by have := HBB.out; omega)⟩ 2 _
     · obtain ⟨gs, o, rfl⟩ := HA0.out a rfl
       by_cases hck : c = k
       · have HCK := hide hck
         clear hck
         go_wp2_with fail
         go_quiet (fail)
         obtain ⟨nq1, hnq1⟩ : ∃ z, z = nq := ⟨_, rfl⟩
         subst hnq1
         go_wp2_with fail
         go_quiet (fail)
         go_wp2_with fail
         have HRB := hide (show Below wa.heap.size wa ((((wa.drewN q).drewN nq1).drewN nq).drew) from (below_drewN (below_drewN (below_drewN (Below.refl wa.heap.size wa) _) _) _).drew)
         have hbl : b < wa.heap.size := (Array.getElem?_eq_some_iff.1 HNW.out).1
         have hgl2 : g < wa.heap.size := (Array.getElem?_eq_some_iff.1 HRA.out.heap).1
         have hx1 : wa.cell? ⟨b, 1, none⟩ = some (.bool xc.dir) := cellOf HNW.out (j := 1) rfl
         have hx2 : wa.cell? ⟨b, 2, none⟩ = some (.slice xd xc.data.length xa) := cellOf HNW.out (j := 2) rfl
         have hx3 : wa.cell? ⟨b, 3, none⟩ = some (.int .i64 xc.time) := cellOf HNW.out (j := 3) rfl
         have hs2 : ∀ W, Below wa.heap.size wa W → (fun w' => w'.cell? ⟨g, 2, none⟩ = some (.slice (some ⟨gs, o, none⟩) k c) ∧ w'.cell? ⟨b, 0, none⟩ = some (.string xs) ∧ w'.cell? ⟨b, 1, none⟩ = some (.bool xc.dir) ∧ w'.cell? ⟨b, 2, none⟩ = some (.slice xd xc.data.length xa) ∧ w'.cell? ⟨b, 3, none⟩ = some (.int .i64 xc.time)) W := fun W h => ⟨(h.cell (p := ⟨g, 2, none⟩) hgl2).trans hc2, (h.cell (p := ⟨b, 0, none⟩) hbl).trans hx0, (h.cell (p := ⟨b, 1, none⟩) hbl).trans hx1, (h.cell (p := ⟨b, 2, none⟩) hbl).trans hx2, (h.cell (p := ⟨b, 3, none⟩) hbl).trans hx3⟩
         have HS2 := hide hs2
         clear hs2
         refine wp_region_held_drew (S := fun w' => w'.cell? ⟨g, 2, none⟩ = some (.slice (some ⟨gs, o, none⟩) k c) ∧ w'.cell? ⟨b, 0, none⟩ = some (.string xs) ∧ w'.cell? ⟨b, 1, none⟩ = some (.bool xc.dir) ∧ w'.cell? ⟨b, 2, none⟩ = some (.slice xd xc.data.length xa) ∧ w'.cell? ⟨b, 3, none⟩ = some (.int .i64 xc.time)) (by kernel_rfl) (HS2.out _ HRB.out) (fun hHeld => ?_)
         refine tq (i := 0) (v := ?vD0) rfl rfl (by kernel_rfl) (fun _ _ _ h => h) ?yD0 (by assumption) ?rD0
         case yD0 => intro w h; (try dsimp only at h); go_simp; try with_reducible rfl
         try simp only [sA, sB, sC]
         refine tq (i := 1) (v := ?vD1) rfl rfl (by kernel_rfl) (fun _ _ _ h => h) ?yD1 (by assumption) ?rD1
         case yD1 => intro w h; (try dsimp only at h); go_simp; try with_reducible rfl
         try simp only [sA, sB, sC]
         refine tq (i := 2) (v := ?vD2) rfl rfl (by kernel_rfl) (fun _ _ _ h => h) ?yD2 (by assumption) ?rD2
         case yD2 => intro w h; (try dsimp only at h); go_simp; try with_reducible rfl
         try simp only [sA, sB, sC]
         refine tq (i := 3) (v := ?vD3) rfl rfl (by kernel_rfl) (fun _ _ _ h => h) ?yD3 (by assumption) ?rD3
         case yD3 => intro w h; (try dsimp only at h); go_simp; try with_reducible rfl
         try simp only [sA, sB, sC]
         refine tq (i := 4) (v := ?vD4) rfl rfl (by kernel_rfl) (fun _ _ _ h => h) ?yD4 (by assumption) ?rD4
         case yD4 => intro w h; (try dsimp only at h); go_simp; try with_reducible rfl
         try simp only [sA, sB, sC]
         refine tq (i := 5) (v := ?vD5) rfl rfl (by kernel_rfl) (fun _ _ _ h => h) ?yD5 (by assumption) ?rD5
         case yD5 => intro w h; (try dsimp only at h); go_simp; try with_reducible rfl
         try simp only [sA, sB, sC]
         refine tq (i := 7) (v := ?vD7) rfl rfl (by kernel_rfl) (fun _ _ _ h => h) ?yD7 (by assumption) ?rD7
         case yD7 => intro w h; (try dsimp only at h); go_simp; try with_reducible rfl
         try simp only [sA, sB, sC]
         refine wpAnyH_ready (rs := [6, 8]) (by kernel_rfl) (by simp) ?_
         refine AllReadyH.cons (o := _) rfl (fun K hK => ?Dway1) (AllReadyH.cons (o := _) rfl (fun K hK => ?Dway2) AllReadyH.nil)
         case Dway1 =>
           obtain ⟨v2, w2, v3, w3, v4, w4, r2, r3, r4, ho4, hb2, hb3, hb4⟩ := putN_chain ((((wa.drewN q).drewN nq1).drewN nq).drew) (some ⟨gs, o, none⟩) (some ⟨gs, o, none⟩) c (c - (k)) (P.take k) (P.drop (k)) (xs, ⟨xd, xa, xc⟩) #[.string xs, .bool xc.dir, .slice xd xc.data.length xa, .int .i64 xc.time] rfl (HDE.out _ _ HRB.out) (HTK.out _ HRB.out) (by simp only [List.length_take, List.length_drop]; have := HN.out; omega)
           rw [show (P.drop (k)).length = 0 by rw [List.length_drop, HN.out]; omega] at r4
           rw [show (P.take k).length = k by rw [List.length_take, HN.out]; omega] at r2
           have HB2 := hide (show Below wa.heap.size wa w2 from below_up HRB.out hb2 HRB.out.size)
           have HB3 := hide (show Below wa.heap.size wa w3 from below_up HRB.out hb3 HRB.out.size)
           have HB4 := hide (show Below wa.heap.size wa w4 from below_up HRB.out hb4 HRB.out.size)
           have ho5 := ho4.base (base' := wa.heap.size) (Nat.le_refl _)
           rw [← HQ.out] at ho5
           obtain ⟨A', c', rfl, hcp, hrg, hob, _⟩ := ho5.slice encE_len
           have HA' := hide (show ∀ a, A' = some a → wa.heap.size ≤ a.block from fun a e => (ho5.lt _ (hob a e)).1)
           have HCP := hide hcp
           have HRG := hide hrg
           clear ho4 ho5 hb2 hb3 hb4 hob hcp hrg
           refine step_app_run rfl _ _ rfl rfl rfl rfl r2 ?_
           refine hK.out _ _ (HS2.out _ HB2.out) (fun _ => ?_)
           clear hK K
           try simp only [Act.put, sA, sB, sC]
           refine rq (k := 8) rfl (by kernel_rfl) (by kernel_rfl) (fun K hK => ?_)
           go_simp
           refine hK.out _ _ (HS2.out _ (HB2.out.alloc HB2.out.size _)) (fun _ => ?_)
           clear hK K
           try simp only [Act.put, sA, sB, sC]
           refine wpAnyH_ready (rs := [9]) (by kernel_rfl) (by simp) ?_
           refine AllReadyH.cons (o := _) rfl (fun K hK => ?_) AllReadyH.nil
           refine step_app_run rfl _ _ rfl rfl rfl rfl r3 ?_
           refine hK.out _ _ (HS2.out _ HB3.out) (fun _ => ?_)
           clear hK K
           try simp only [Act.put, sA, sB, sC]
           refine tq (i := 10) (v := ?vDx10) rfl rfl (by kernel_rfl) (fun _ _ _ h => h) ?yDx10 (by assumption) ?rDx10
           case yDx10 => intro w h; (try dsimp only at h); go_simp; try with_reducible rfl
           try simp only [sA, sB, sC]
           refine wpAnyH_done (by kernel_rfl) ?_ _
           have hck2 : (c = k) = True := eq_true HCK.out
           have hd2 := (HS2.out w3 HB3.out).1
           have hg4 := (HB4.out.block g hgl2).trans HRA.out.heap
           rw [HN.out] at hg4
           have hf4 := freeOf hg4 2
           have hcc4 := cellOf hg4 (j := 2) (v := .slice (some ⟨gs, o, none⟩) k c) rfl
           have HG5 := hide (heapSet (j := 2) hg4 (.slice A' (putG ((xs, ⟨xd, xa, xc⟩) : NV) P).length c'))
           obtain ⟨M, hM⟩ : ∃ m, (putG ((xs, ⟨xd, xa, xc⟩) : NV) P).length = m := ⟨_, rfl⟩
           rw [hM] at r4 HG5 HCP
           have HM := hide hM
           clear hg4 hM
           go_wp2_with (first | (at_builtin; refine wpList_app_run ?_ (.tmp 63) (.tmp 69) ?_ ?_ ?_ ?_ r4 ?_; exact rfl; exact rfl; exact rfl; exact rfl; exact rfl))
           go_end0
           have hsz : b ≤ wa.heap.size := by have := HBA.out.size; have := HBB.out; omega
           have hbb : Below b w w4 := below_up HBA.out HB4.out hsz
           refine ⟨rfl, A', c', ?_, ?_, ?_, ?_, ?_⟩
           · rw [HM.out]; exact HG5.out
           · rw [HM.out]; exact HCP.out
           · exact HRG.out.gb (gb_setCell (World.grownBy.refl w4 (some g)) 2 _) (fun a e h => by injection h with h; have := HA'.out a e; omega)
           · intro a e; have := HA'.out a e; have := HBB.out; omega
           · exact gb_setCell ⟨hbb.os, hbb.tape, hbb.output, hbb.size, fun i hi _ => hbb.block i (by have := HBB.out; omega)⟩ 2 _
         case Dway2 =>
           have HRB := hide (below_drewN (Below.refl wa.heap.size wa) (q + nq1 + nq + 1))
           obtain ⟨v2, w2, v3, w3, v4, w4, r2, r3, r4, ho4, hb2, hb3, hb4⟩ := putN_chain2 (wa.drewN (q + nq1 + nq + 1)) (some ⟨gs, o, none⟩) (some ⟨gs, o, none⟩) c (c - (k)) (P.take k) (P.drop (k)) (xs, ⟨xd, xa, xc⟩) #[.string xs, .bool xc.dir, .slice xd xc.data.length xa, .int .i64 xc.time] rfl (HDE.out _ _ HRB.out) (HTK.out _ HRB.out) (by simp only [List.length_take, List.length_drop]; have := HN.out; omega)
           rw [show (P.drop (k)).length = 0 by rw [List.length_drop, HN.out]; omega] at r4
           rw [show (P.take k).length = k by rw [List.length_take, HN.out]; omega] at r2
           have HB2 := hide (show Below wa.heap.size wa w2 from below_up HRB.out hb2 HRB.out.size)
           have HB3 := hide (show Below wa.heap.size wa w3 from below_up HRB.out hb3 HRB.out.size)
           have HB4 := hide (show Below wa.heap.size wa w4 from below_up HRB.out hb4 HRB.out.size)
           have ho5 := ho4.base (base' := wa.heap.size) (Nat.le_refl _)
           rw [← HQ.out] at ho5
           obtain ⟨A', c', rfl, hcp, hrg, hob, _⟩ := ho5.slice encE_len
           have HA' := hide (show ∀ a, A' = some a → wa.heap.size ≤ a.block from fun a e => (ho5.lt _ (hob a e)).1)
           have HCP := hide hcp
           have HRG := hide hrg
           clear ho4 ho5 hb2 hb3 hb4 hob hcp hrg
           rw [if_pos (by kernel_rfl)]
           go_simp
           refine hK.out _ _ (HS2.out _ (HRB.out.alloc HRB.out.size _)) (fun _ => ?_)
           clear hK K
           try simp only [Act.put, sA, sB, sC]
           refine wpAnyH_ready (rs := [6]) (by kernel_rfl) (by simp) ?_
           refine AllReadyH.cons (o := _) rfl (fun K hK => ?_) AllReadyH.nil
           refine step_app_run rfl _ _ rfl rfl rfl rfl r2 ?_
           refine hK.out _ _ (HS2.out _ HB2.out) (fun _ => ?_)
           clear hK K
           try simp only [Act.put, sA, sB, sC]
           refine wpAnyH_ready (rs := [9]) (by kernel_rfl) (by simp) ?_
           refine AllReadyH.cons (o := _) rfl (fun K hK => ?_) AllReadyH.nil
           refine step_app_run rfl _ _ rfl rfl rfl rfl r3 ?_
           refine hK.out _ _ (HS2.out _ HB3.out) (fun _ => ?_)
           clear hK K
           try simp only [Act.put, sA, sB, sC]
           refine tq (i := 10) (v := ?vDy10) rfl rfl (by kernel_rfl) (fun _ _ _ h => h) ?yDy10 (by assumption) ?rDy10
           case yDy10 => intro w h; (try dsimp only at h); go_simp; try with_reducible rfl
           try simp only [sA, sB, sC]
           refine wpAnyH_done (by kernel_rfl) ?_ _
           have hck2 : (c = k) = True := eq_true HCK.out
           have hd2 := (HS2.out w3 HB3.out).1
           have hg4 := (HB4.out.block g hgl2).trans HRA.out.heap
           rw [HN.out] at hg4
           have hf4 := freeOf hg4 2
           have hcc4 := cellOf hg4 (j := 2) (v := .slice (some ⟨gs, o, none⟩) k c) rfl
           have HG5 := hide (heapSet (j := 2) hg4 (.slice A' (putG ((xs, ⟨xd, xa, xc⟩) : NV) P).length c'))
           obtain ⟨M, hM⟩ : ∃ m, (putG ((xs, ⟨xd, xa, xc⟩) : NV) P).length = m := ⟨_, rfl⟩
           rw [hM] at r4 HG5 HCP
           have HM := hide hM
           clear hg4 hM
           go_wp2_with (first | (at_builtin; refine wpList_app_run ?_ (.tmp 63) (.tmp 69) ?_ ?_ ?_ ?_ r4 ?_; exact rfl; exact rfl; exact rfl; exact rfl; exact rfl))
           go_end0
           have hsz : b ≤ wa.heap.size := by have := HBA.out.size; have := HBB.out; omega
           have hbb : Below b w w4 := below_up HBA.out HB4.out hsz
           refine ⟨rfl, A', c', ?_, ?_, ?_, ?_, ?_⟩
           · rw [HM.out]; exact HG5.out
           · rw [HM.out]; exact HCP.out
           · exact HRG.out.gb (gb_setCell (World.grownBy.refl w4 (some g)) 2 _) (fun a e h => by injection h with h; have := HA'.out a e; omega)
           · intro a e; have := HA'.out a e; have := HBB.out; omega
           · exact gb_setCell ⟨hbb.os, hbb.tape, hbb.output, hbb.size, fun i hi _ => hbb.block i (by have := HBB.out; omega)⟩ 2 _
       · skip
         go_wp2_with fail
         go_quiet (fail)
         obtain ⟨nq1, hnq1⟩ : ∃ z, z = nq := ⟨_, rfl⟩
         subst hnq1
         go_wp2_with fail
         go_quiet (fail)
         go_wp2_with fail
         have HRB := hide (show Below wa.heap.size wa ((((wa.drewN q).drewN nq1).drewN nq).drew) from (below_drewN (below_drewN (below_drewN (Below.refl wa.heap.size wa) _) _) _).drew)
         have hbl : b < wa.heap.size := (Array.getElem?_eq_some_iff.1 HNW.out).1
         have hgl2 : g < wa.heap.size := (Array.getElem?_eq_some_iff.1 HRA.out.heap).1
         have hx1 : wa.cell? ⟨b, 1, none⟩ = some (.bool xc.dir) := cellOf HNW.out (j := 1) rfl
         have hx2 : wa.cell? ⟨b, 2, none⟩ = some (.slice xd xc.data.length xa) := cellOf HNW.out (j := 2) rfl
         have hx3 : wa.cell? ⟨b, 3, none⟩ = some (.int .i64 xc.time) := cellOf HNW.out (j := 3) rfl
         have hs2 : ∀ W, Below wa.heap.size wa W → (fun w' => w'.cell? ⟨g, 2, none⟩ = some (.slice (some ⟨gs, o, none⟩) k c) ∧ w'.cell? ⟨b, 0, none⟩ = some (.string xs) ∧ w'.cell? ⟨b, 1, none⟩ = some (.bool xc.dir) ∧ w'.cell? ⟨b, 2, none⟩ = some (.slice xd xc.data.length xa) ∧ w'.cell? ⟨b, 3, none⟩ = some (.int .i64 xc.time)) W := fun W h => ⟨(h.cell (p := ⟨g, 2, none⟩) hgl2).trans hc2, (h.cell (p := ⟨b, 0, none⟩) hbl).trans hx0, (h.cell (p := ⟨b, 1, none⟩) hbl).trans hx1, (h.cell (p := ⟨b, 2, none⟩) hbl).trans hx2, (h.cell (p := ⟨b, 3, none⟩) hbl).trans hx3⟩
         have HS2 := hide hs2
         clear hs2
         refine wp_region_held_drew (S := fun w' => w'.cell? ⟨g, 2, none⟩ = some (.slice (some ⟨gs, o, none⟩) k c) ∧ w'.cell? ⟨b, 0, none⟩ = some (.string xs) ∧ w'.cell? ⟨b, 1, none⟩ = some (.bool xc.dir) ∧ w'.cell? ⟨b, 2, none⟩ = some (.slice xd xc.data.length xa) ∧ w'.cell? ⟨b, 3, none⟩ = some (.int .i64 xc.time)) (by kernel_rfl) (HS2.out _ HRB.out) (fun hHeld => ?_)
         refine tq (i := 0) (v := ?vE0) rfl rfl (by kernel_rfl) (fun _ _ _ h => h) ?yE0 (by assumption) ?rE0
         case yE0 => intro w h; (try dsimp only at h); go_simp; try with_reducible rfl
         try simp only [sA, sB, sC]
         refine tq (i := 1) (v := ?vE1) rfl rfl (by kernel_rfl) (fun _ _ _ h => h) ?yE1 (by assumption) ?rE1
         case yE1 => intro w h; (try dsimp only at h); go_simp; try with_reducible rfl
         try simp only [sA, sB, sC]
         refine tq (i := 2) (v := ?vE2) rfl rfl (by kernel_rfl) (fun _ _ _ h => h) ?yE2 (by assumption) ?rE2
         case yE2 => intro w h; (try dsimp only at h); go_simp; try with_reducible rfl
         try simp only [sA, sB, sC]
         refine tq (i := 3) (v := ?vE3) rfl rfl (by kernel_rfl) (fun _ _ _ h => h) ?yE3 (by assumption) ?rE3
         case yE3 => intro w h; (try dsimp only at h); go_simp; try with_reducible rfl
         try simp only [sA, sB, sC]
         refine tq (i := 4) (v := ?vE4) rfl rfl (by kernel_rfl) (fun _ _ _ h => h) ?yE4 (by assumption) ?rE4
         case yE4 => intro w h; (try dsimp only at h); go_simp; try with_reducible rfl
         try simp only [sA, sB, sC]
         refine tq (i := 5) (v := ?vE5) rfl rfl (by kernel_rfl) (fun _ _ _ h => h) ?yE5 (by assumption) ?rE5
         case yE5 => intro w h; (try dsimp only at h); go_simp; try with_reducible rfl
         try simp only [sA, sB, sC]
         refine tq (i := 7) (v := ?vE7) rfl rfl (by kernel_rfl) (fun _ _ _ h => h) ?yE7 (by assumption) ?rE7
         case yE7 => intro w h; (try dsimp only at h); go_simp; try with_reducible rfl
         try simp only [sA, sB, sC]
         refine wpAnyH_ready (rs := [6, 8]) (by kernel_rfl) (by simp) ?_
         refine AllReadyH.cons (o := _) rfl (fun K hK => ?Eway1) (AllReadyH.cons (o := _) rfl (fun K hK => ?Eway2) AllReadyH.nil)
         case Eway1 =>
           obtain ⟨v2, w2, v3, w3, v4, w4, r2, r3, r4, ho4, hb2, hb3, hb4⟩ := putN_chain ((((wa.drewN q).drewN nq1).drewN nq).drew) (some ⟨gs, o, none⟩) (some ⟨gs, o + k * 4, none⟩) c (c - (k)) (P.take k) (P.drop (k)) (xs, ⟨xd, xa, xc⟩) #[.string xs, .bool xc.dir, .slice xd xc.data.length xa, .int .i64 xc.time] rfl (HDE.out _ _ HRB.out) (HTK.out _ HRB.out) (by simp only [List.length_take, List.length_drop]; have := HN.out; omega)
           rw [show (P.drop (k)).length = 0 by rw [List.length_drop, HN.out]; omega] at r4
           rw [show (P.take k).length = k by rw [List.length_take, HN.out]; omega] at r2
           have HB2 := hide (show Below wa.heap.size wa w2 from below_up HRB.out hb2 HRB.out.size)
           have HB3 := hide (show Below wa.heap.size wa w3 from below_up HRB.out hb3 HRB.out.size)
           have HB4 := hide (show Below wa.heap.size wa w4 from below_up HRB.out hb4 HRB.out.size)
           have ho5 := ho4.base (base' := wa.heap.size) (Nat.le_refl _)
           rw [← HQ.out] at ho5
           obtain ⟨A', c', rfl, hcp, hrg, hob, _⟩ := ho5.slice encE_len
           have HA' := hide (show ∀ a, A' = some a → wa.heap.size ≤ a.block from fun a e => (ho5.lt _ (hob a e)).1)
           have HCP := hide hcp
           have HRG := hide hrg
           clear ho4 ho5 hb2 hb3 hb4 hob hcp hrg
           refine step_app_run rfl _ _ rfl rfl rfl rfl r2 ?_
           refine hK.out _ _ (HS2.out _ HB2.out) (fun _ => ?_)
           clear hK K
           try simp only [Act.put, sA, sB, sC]
           refine rq (k := 8) rfl (by kernel_rfl) (by kernel_rfl) (fun K hK => ?_)
           go_simp
           refine hK.out _ _ (HS2.out _ (HB2.out.alloc HB2.out.size _)) (fun _ => ?_)
           clear hK K
           try simp only [Act.put, sA, sB, sC]
           refine wpAnyH_ready (rs := [9]) (by kernel_rfl) (by simp) ?_
           refine AllReadyH.cons (o := _) rfl (fun K hK => ?_) AllReadyH.nil
           refine step_app_run rfl _ _ rfl rfl rfl rfl r3 ?_
           refine hK.out _ _ (HS2.out _ HB3.out) (fun _ => ?_)
           clear hK K
           try simp only [Act.put, sA, sB, sC]
           refine tq (i := 10) (v := ?vEx10) rfl rfl (by kernel_rfl) (fun _ _ _ h => h) ?yEx10 (by assumption) ?rEx10
           case yEx10 => intro w h; (try dsimp only at h); go_simp; try with_reducible rfl
           try simp only [sA, sB, sC]
           refine wpAnyH_done (by kernel_rfl) ?_ _
           have hd2 := (HS2.out w3 HB3.out).1
           have hg4 := (HB4.out.block g hgl2).trans HRA.out.heap
           rw [HN.out] at hg4
           have hf4 := freeOf hg4 2
           have hcc4 := cellOf hg4 (j := 2) (v := .slice (some ⟨gs, o, none⟩) k c) rfl
           have HG5 := hide (heapSet (j := 2) hg4 (.slice A' (putG ((xs, ⟨xd, xa, xc⟩) : NV) P).length c'))
           obtain ⟨M, hM⟩ : ∃ m, (putG ((xs, ⟨xd, xa, xc⟩) : NV) P).length = m := ⟨_, rfl⟩
           rw [hM] at r4 HG5 HCP
           have HM := hide hM
           clear hg4 hM
           go_wp2_with (first | (at_builtin; refine wpList_app_run ?_ (.tmp 63) (.tmp 69) ?_ ?_ ?_ ?_ r4 ?_; exact rfl; exact rfl; exact rfl; exact rfl; exact rfl))
           go_end0
           have hsz : b ≤ wa.heap.size := by have := HBA.out.size; have := HBB.out; omega
           have hbb : Below b w w4 := below_up HBA.out HB4.out hsz
           refine ⟨rfl, A', c', ?_, ?_, ?_, ?_, ?_⟩
           · rw [HM.out]; exact HG5.out
           · rw [HM.out]; exact HCP.out
           · exact HRG.out.gb (gb_setCell (World.grownBy.refl w4 (some g)) 2 _) (fun a e h => by injection h with h; have := HA'.out a e; omega)
           · intro a e; have := HA'.out a e; have := HBB.out; omega
           · exact gb_setCell ⟨hbb.os, hbb.tape, hbb.output, hbb.size, fun i hi _ => hbb.block i (by have := HBB.out; omega)⟩ 2 _
         case Eway2 =>
           have HRB := hide (below_drewN (Below.refl wa.heap.size wa) (q + nq1 + nq + 1))
           obtain ⟨v2, w2, v3, w3, v4, w4, r2, r3, r4, ho4, hb2, hb3, hb4⟩ := putN_chain2 (wa.drewN (q + nq1 + nq + 1)) (some ⟨gs, o, none⟩) (some ⟨gs, o + k * 4, none⟩) c (c - (k)) (P.take k) (P.drop (k)) (xs, ⟨xd, xa, xc⟩) #[.string xs, .bool xc.dir, .slice xd xc.data.length xa, .int .i64 xc.time] rfl (HDE.out _ _ HRB.out) (HTK.out _ HRB.out) (by simp only [List.length_take, List.length_drop]; have := HN.out; omega)
           rw [show (P.drop (k)).length = 0 by rw [List.length_drop, HN.out]; omega] at r4
           rw [show (P.take k).length = k by rw [List.length_take, HN.out]; omega] at r2
           have HB2 := hide (show Below wa.heap.size wa w2 from below_up HRB.out hb2 HRB.out.size)
           have HB3 := hide (show Below wa.heap.size wa w3 from below_up HRB.out hb3 HRB.out.size)
           have HB4 := hide (show Below wa.heap.size wa w4 from below_up HRB.out hb4 HRB.out.size)
           have ho5 := ho4.base (base' := wa.heap.size) (Nat.le_refl _)
           rw [← HQ.out] at ho5
           obtain ⟨A', c', rfl, hcp, hrg, hob, _⟩ := ho5.slice encE_len
           have HA' := hide (show ∀ a, A' = some a → wa.heap.size ≤ a.block from fun a e => (ho5.lt _ (hob a e)).1)
           have HCP := hide hcp
           have HRG := hide hrg
           clear ho4 ho5 hb2 hb3 hb4 hob hcp hrg
           rw [if_pos (by kernel_rfl)]
           go_simp
           refine hK.out _ _ (HS2.out _ (HRB.out.alloc HRB.out.size _)) (fun _ => ?_)
           clear hK K
           try simp only [Act.put, sA, sB, sC]
           refine wpAnyH_ready (rs := [6]) (by kernel_rfl) (by simp) ?_
           refine AllReadyH.cons (o := _) rfl (fun K hK => ?_) AllReadyH.nil
           refine step_app_run rfl _ _ rfl rfl rfl rfl r2 ?_
           refine hK.out _ _ (HS2.out _ HB2.out) (fun _ => ?_)
           clear hK K
           try simp only [Act.put, sA, sB, sC]
           refine wpAnyH_ready (rs := [9]) (by kernel_rfl) (by simp) ?_
           refine AllReadyH.cons (o := _) rfl (fun K hK => ?_) AllReadyH.nil
           refine step_app_run rfl _ _ rfl rfl rfl rfl r3 ?_
           refine hK.out _ _ (HS2.out _ HB3.out) (fun _ => ?_)
           clear hK K
           try simp only [Act.put, sA, sB, sC]
           refine tq (i := 10) (v := ?vEy10) rfl rfl (by kernel_rfl) (fun _ _ _ h => h) ?yEy10 (by assumption) ?rEy10
           case yEy10 => intro w h; (try dsimp only at h); go_simp; try with_reducible rfl
           try simp only [sA, sB, sC]
           refine wpAnyH_done (by kernel_rfl) ?_ _
           have hd2 := (HS2.out w3 HB3.out).1
           have hg4 := (HB4.out.block g hgl2).trans HRA.out.heap
           rw [HN.out] at hg4
           have hf4 := freeOf hg4 2
           have hcc4 := cellOf hg4 (j := 2) (v := .slice (some ⟨gs, o, none⟩) k c) rfl
           have HG5 := hide (heapSet (j := 2) hg4 (.slice A' (putG ((xs, ⟨xd, xa, xc⟩) : NV) P).length c'))
           obtain ⟨M, hM⟩ : ∃ m, (putG ((xs, ⟨xd, xa, xc⟩) : NV) P).length = m := ⟨_, rfl⟩
           rw [hM] at r4 HG5 HCP
           have HM := hide hM
           clear hg4 hM
           go_wp2_with (first | (at_builtin; refine wpList_app_run ?_ (.tmp 63) (.tmp 69) ?_ ?_ ?_ ?_ r4 ?_; exact rfl; exact rfl; exact rfl; exact rfl; exact rfl))
           go_end0
           have hsz : b ≤ wa.heap.size := by have := HBA.out.size; have := HBB.out; omega
           have hbb : Below b w w4 := below_up HBA.out HB4.out hsz
           refine ⟨rfl, A', c', ?_, ?_, ?_, ?_, ?_⟩
           · rw [HM.out]; exact HG5.out
           · rw [HM.out]; exact HCP.out
           · exact HRG.out.gb (gb_setCell (World.grownBy.refl w4 (some g)) 2 _) (fun a e h => by injection h with h; have := HA'.out a e; omega)
           · intro a e; have := HA'.out a e; have := HBB.out; omega
           · exact gb_setCell ⟨hbb.os, hbb.tape, hbb.output, hbb.size, fun i hi _ => hbb.block i (by have := HBB.out; omega)⟩ 2 _
end
section
open Go.RowKit Go.Deep Go.Maps Ln Pth Vf
attribute [local go_sem] bt_eq
theorem rcut_any (n m : Int) (w : World) (hm : 0 ≤ m) :
   Calls Tryz.prog 52 #[.int .i64 n, .int .i64 m] w fun e w' => e = .returned (.int .i64 (min (max 0 n) m)) ∧ w = w' := by
 by_cases h0 : n < 0
 · have d0 : decide (n < 0) = true := by simpa using h0
   have HE := hide (show min (max 0 n) m = 0 by omega)
   clear h0
   go_enter Tryz.func52, Tryz.ntmps52
   go_wp2
   go_ret
   rw [HE.out]
   exact ⟨rfl, rfl⟩
 · have d0 : decide (n < 0) = false := by simpa using h0
   by_cases h1 : n > m
   · have d1 : decide (m < n) = true := by simpa using h1
     have HE := hide (show min (max 0 n) m = m by omega)
     clear h0 h1
     go_enter Tryz.func52, Tryz.ntmps52
     go_wp2
     go_ret
     rw [HE.out]
     exact ⟨rfl, rfl⟩
   · have d1 : decide (m < n) = false := by simpa using h1
     have HE := hide (show min (max 0 n) m = n by omega)
     clear h0 h1
     go_enter Tryz.func52, Tryz.ntmps52
     go_wp2
     go_ret
     rw [HE.out]
     exact ⟨rfl, rfl⟩
theorem rnew_any (n b : Int) (w : World) :
   Calls Tryz.prog 29 #[.int .i64 n, .int .i64 b] w fun e w' => e = .returned (.pointer (some ⟨w.heap.size, 0, none⟩)) ∧ Below w.heap.size w w' ∧ RSO w.heap.size (newS n b) none 0 [] w' ∧ w'.heap.size = w.heap.size + 1 := by
 have e1 : min (max (0 : Int) n) 10000 = ((newS n b).nodes : Nat) := by simp only [newS]; omega
 have e2 : min (max (0 : Int) b) 1048576 = ((newS n b).bytes : Nat) := by simp only [newS]; omega
 have HC1 := hide (rcut_any n 10000 w (by omega))
 have HC2 := hide (rcut_any b 1048576 w (by omega))
 rw [e1] at HC1
 rw [e2] at HC2
 obtain ⟨S, hS⟩ : ∃ S, newS n b = S := ⟨_, rfl⟩
 rw [hS] at HC1 HC2 ⊢
 have HM := hide (show S.m = [] ∧ S.clock = 0 by rw [← hS]; exact ⟨rfl, rfl⟩)
 clear e1 e2 hS
 go_enter Tryz.func29, Tryz.ntmps29
 go_wp2_with fail
 refine HC1.out.mono ?_
 rintro e w' ⟨rfl, rfl⟩
 go_wp2_with fail
 refine HC2.out.mono ?_
 rintro e w' ⟨rfl, rfl⟩
 go_wp2
 go_ret
 refine ⟨rfl, (Below.refl _ _).alloc (Nat.le_refl _) _, ⟨?_, by simp, (fun k x hk => by simp at hk), (fun x hx => by cases hx), by rw [HM.out.1]; rfl, (fun a e => by cases e), (fun a e => by cases e), (fun x hx => by cases hx), (fun x hx => by cases hx)⟩, by simp⟩
 have := heapNew w (.cells #[.int .i64 S.nodes, .int .i64 S.bytes, .slice none 0 0, .int .i64 0] 103)
 rw [HM.out.2]
 simpa using this
end
section
open Go.RowKit Go.Deep Go.Maps Ln Pth Vf
attribute [local go_sem] bt_eq
end
section
open Go.RowKit Go.Deep Go.Maps Ln Pth Vf
def RK (g : Nat) (S' : St) (w : World) (A : Option Addr) (P : List NV) (w' : World) : Prop :=
 ∃ A' c' P', RSO g S' A' c' P' w' ∧ Kp w w' (fun k => k = g) ∧ (∀ a, A' = some a → P' ≠ [] → w.heap.size ≤ a.block ∨ (A = some a ∧ P ≠ [])) ∧
   ∀ x ∈ P', ∀ a, x.2.A = some a → x.2.nd.data ≠ [] → w.heap.size ≤ a.block ∨ ∃ y ∈ P, y.2.A = some a ∧ y.2.nd.data ≠ []
theorem RK.stay {g : Nat} {S : St} {A : Option Addr} {c : Nat} {P : List NV} {w w' : World} (h : RSO g S A c P w) (hb : Below w.heap.size w w') : RK g S w A P w' :=
 ⟨A, c, P, h.below hb, Kp.of_below hb _, fun a e hn => .inr ⟨e, hn⟩, fun x hx a e hn => .inr ⟨x, hx, e, hn⟩⟩
theorem RG.block_lt {α : Type} {enc : α → List Value} {n : Nat} {w : World} {A : Option Addr} {L : List α} (h : RG enc n w A L) {a : Addr} (e : A = some a) (hn : L ≠ []) : a.block < w.heap.size := by
 obtain ⟨y, hy⟩ : ∃ y, L[0]? = some y := ⟨L[0]'(List.length_pos_iff.2 hn), gE _⟩
 obtain ⟨g2, o2, e2, hg2, _⟩ := h 0 y hy
 rw [e] at e2
 injection e2 with e2
 rw [e2]
 exact hg2
theorem RSO.set {g : Nat} {S S' : St} {A A' : Option Addr} {c c' : Nat} {P P' : List NV} {w w' : World} (h : RSO g S A c P w) (hk : Kp w w' (fun k => k = g))
   (hg : w'.heap[g]? = some (.cells #[.int .i64 S'.nodes, .int .i64 S'.bytes, .slice A' P'.length c', .int .i64 S'.clock] 103)) (hc : P'.length ≤ c') (hm : S'.m = stripN P')
   (hA : RG encE 4 w' A' P') (hAg : ∀ a, A' = some a → P' ≠ [] → a.block ≠ g)
   (hD : ∀ x ∈ P', x.2.nd.data.length ≤ x.2.c ∧ RG encB 1 w' x.2.A x.2.nd.data ∧ (∀ a, x.2.A = some a → x.2.nd.data ≠ [] → a.block ≠ g)) (ht : ∀ a, A' = some a → ∃ g o, a = ⟨g, o, none⟩) : RSO g S' A' c' P' w' :=
 ⟨hg, hc, hA, fun x hx => (hD x hx).2.1, hm, ht, hAg, fun x hx => (hD x hx).2.2, fun x hx => (hD x hx).1⟩
theorem RG.kp {α : Type} {enc : α → List Value} {n : Nat} {w w' : World} {A : Option Addr} {L : List α} {g : Nat} (h : RG enc n w A L) (hk : Kp w w' (fun k => k = g)) (hg : ∀ a, A = some a → L ≠ [] → a.block ≠ g) : RG enc n w' A L :=
 h.ofB hk.size (fun a e hn => hk.block a.block (h.block_lt e hn) (hg a e hn))
theorem Kp.ofGb {w w' : World} {g : Nat} (h : w.grownBy w' (some g)) : Kp w w' (fun k => k = g) := ⟨h.os, h.tape, h.output, h.size, fun k hk hn => h.block k hk (fun e => hn (Option.some.inj e))⟩
theorem Kp.set (w : World) (g j : Nat) (v : Value) : Kp w (w.setCell ⟨g, j, none⟩ v) (fun k => k = g) := ⟨rfl, rfl, rfl, by simp, fun k hk hne => Below.heap_setCell _ _ _ _ (by simpa using hne)⟩
theorem Kp.then {w w' w'' : World} {S : Nat → Prop} (h : Kp w w' S) (h' : Kp w' w'' S) : Kp w w'' S := h.trans (h'.mono fun k e => .inl e)
theorem RSO.tick {g : Nat} {S : St} {A : Option Addr} {c : Nat} {P : List NV} {w : World} (h : RSO g S A c P w) (n : Nat) : RSO g { S with clock := n } A c P (w.setCell ⟨g, 3, none⟩ (.int .i64 n)) := by
 have hk := Kp.set w g 3 (.int .i64 n)
 exact h.set hk ((heapSet (j := 3) h.heap (.int .i64 n)).trans rfl) h.cap h.eq (h.rg.kp hk h.neA) h.neA (fun x hx => ⟨h.lt x hx, (h.dat x hx).kp hk (h.neD x hx), h.neD x hx⟩) h.top
theorem putG_ne {α : Type} (x : ByteArray × α) (P : KV α) : putG x P ≠ [] := by
 cases P with
 | nil => simp [putG]
 | cons y P => rw [putG]; split; simp; split <;> simp
theorem RSO.putted {g : Nat} {S S' : St} {A A' : Option Addr} {c c' : Nat} {P : List NV} {x : NV} {w w' : World} (h : RSO g S A c P w) (hm : S'.m = putG (x.1, x.2.nd) S.m)
   (hg : w'.heap[g]? = some (.cells #[.int .i64 S'.nodes, .int .i64 S'.bytes, .slice A' (putG x P).length c', .int .i64 S'.clock] 103)) (hc : (putG x P).length ≤ c') (hr : RG encE 4 w' A' (putG x P)) (hA : ∀ a, A' = some a → w.heap.size ≤ a.block)
   (hk : Kp w w' (fun k => k = g)) (hx : RG encB 1 w x.2.A x.2.nd.data) (hxg : ∀ a, x.2.A = some a → x.2.nd.data ≠ [] → a.block ≠ g) (hxl : x.2.nd.data.length ≤ x.2.c) : RSO g S' A' c' (putG x P) w' := by
 have hgl : g < w.heap.size := (Array.getElem?_eq_some_iff.1 h.heap).1
 refine h.set hk hg hc (by rw [hm, h.eq, ← strip_put]) hr (fun a e _ => by have := hA a e; omega) (fun y hy => ?_) (fun a e => ?_)
 · rcases mem_putG hy with rfl | hy
   · exact ⟨hxl, hx.kp hk hxg, hxg⟩
   · exact ⟨h.lt y hy, (h.dat y hy).kp hk (h.neD y hy), h.neD y hy⟩
 · have hne := putG_ne x P
   obtain ⟨y, hy⟩ : ∃ y, (putG x P)[0]? = some y := ⟨(putG x P)[0]'(List.length_pos_iff.2 hne), gE _⟩
   obtain ⟨g2, o2, e2, _, _⟩ := hr 0 y hy
   rw [e] at e2
   injection e2 with e2
   exact ⟨g2, o2, e2⟩
theorem RK.pre {g : Nat} {S' : St} {w w1 w' : World} {A : Option Addr} {P : List NV} (hb : Below w.heap.size w w1) (h : RK g S' w1 A P w') : RK g S' w A P w' := by
 obtain ⟨A', c', P', o, hk, hA, hD⟩ := h
 exact ⟨A', c', P', o, (Kp.of_below hb _).then hk, fun a e hn => (hA a e hn).imp_left (Nat.le_trans hb.size), fun x hx a e hn => (hD x hx a e hn).imp_left (Nat.le_trans hb.size)⟩
end
end Go.Proofs.YtaajofojbhdgaaaGreatDoor
