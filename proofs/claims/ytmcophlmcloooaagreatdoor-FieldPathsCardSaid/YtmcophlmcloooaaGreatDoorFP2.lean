/- Walks and plain facts that the claim uses. -/
import Derived.Test.YtmcophlmcloooaaGreatDoorFP1
import Derived.Lib.SplitLaws
import Derived.Lib.Bytealg
import Derived.Shelf.Strings.Split
import Derived.Deep.LoopGhost
import Derived.Deep.OwnRows
import Derived.Lib.Split
import Derived.Lib.IndexLaws
import Derived.Lib.Join
import Derived.Laws.IdiomStrings
import Derived.BigQuiet
import Derived.Deep.QuietTactic
import Derived.StillTailTactics
import Derived.Lib.SlBytesConst
import Derived.Sort.OwnSorted
import Derived.Maps.RangeWalk
import Derived.StringKeys
set_option maxRecDepth 100000
set_option maxHeartbeats 16000000
set_option linter.unusedSimpArgs false
set_option linter.unusedVariables false
namespace Go.Proofs.YtmcophlmcloooaaGreatDoor
section
open Go.RowKit Go.Deep
def quoS (s : ByteArray) : ByteArray := Qt.sb (Qt.qb (bt s) s.size)
theorem quoS_size (s : ByteArray) : (quoS s).size ≤ 2 * s.size := by
 unfold quoS
 rw [Qt.sb_size]
 exact Qt.qb_len _ _
def patP (p : Pt) : ByteArray := if p.kind = 1 then p.text else quoS p.text
def patS (L : List Pt) : List UInt8 := L.flatMap fun p => (patP p).data.toList
theorem patS_succ {L : List Pt} {k : Nat} {x : Pt} (h : L[k]? = some x) : patS (L.take (k + 1)) = patS (L.take k) ++ (patP x).data.toList := by
 unfold patS
 rw [List.take_add_one, h, List.flatMap_append]
 simp
theorem patP_size (p : Pt) : (patP p).size ≤ 2 * p.text.size := by
 unfold patP
 split
 · omega
 · exact quoS_size _
theorem patS_le (L : List Pt) (hz : ∀ p ∈ L, p.text.size ≤ 1000) : ∀ k, (patS (L.take k)).length ≤ k * 2000
 | 0 => by simp [patS]
 | k + 1 => by
   have ih := patS_le L hz k
   cases hx : L[k]? with
   | none =>
     have : L.take (k + 1) = L.take k := by rw [List.take_add_one, hx]; simp
     rw [this, Nat.add_mul]; exact Nat.le_trans ih (Nat.le_add_right _ _)
   | some x =>
     have h1 := hz x (List.mem_of_getElem? hx)
     have h2 := patP_size x
     rw [patS_succ hx, List.length_append, ← Lib.size_eq, Nat.add_mul]
     exact Nat.add_le_add ih (Nat.le_trans h2 (by omega))
theorem pat_any (A : Option Addr) (c : Nat) (L : List Pt) (w : World) (hA : RG encPt 6 w A L) (hl : L.length ≤ 1000) (hz : ∀ p ∈ L, p.text.size ≤ 1000) :
   Calls Tryz.prog 45 #[.slice A L.length c] w fun e w' => e = .returned (.string (bsF (patS L))) ∧ Below w.heap.size w w' := by
 have HA := hide hA
 have HZ := hide hz
 obtain ⟨n, hn⟩ : ∃ n, L.length = n := ⟨_, rfl⟩
 have HN := hide hn
 rw [hn] at hl ⊢
 have hni : (n : Int) ≤ 1000 := by omega
 have HB0 := hide (Bld.fresh w)
 clear hA hz hn
 go_enter Tryz.func45, Tryz.ntmps45
 go_wp2
 go_loopw [5, 8] (fun _ v8 wr => ∃ k : Nat, v8 = .int .i64 k ∧ k ≤ n ∧ Hid (Bld w.heap.size w.heap.size (patS (L.take k)) wr) ∧ Hid (Below w.heap.size w wr)) (fun _ v8 _ => n - (intOf v8).toNat)
 case atStart => exact ⟨0, rfl, by omega, HB0, hide ((Below.refl _ _).alloc (Nat.le_refl _) _)⟩
 case round =>
   obtain ⟨wo, hwo⟩ : ∃ Z, Z = wr := ⟨_, rfl⟩
   subst hwo
   obtain ⟨k, rfl, hk, HBL, HBE⟩ := hrel
   by_cases hlt : k < n
   case neg =>
     obtain rfl : k = n := by omega
     have htk : L.take k = L := List.take_of_length_le (by have := HN.out; omega)
     have hs := HBL.out
     rw [htk] at hs
     have HS := hide (bldStr_any w.heap.size w.heap.size _ wo hs HBE.out.size)
     clear hs htk
     go_wp2_with fail
     refine HS.out.mono ?_
     rintro e wf ⟨rfl, hb⟩
     have HF := hide (HBE.out.trans hb)
     clear hb
     go_wp2
     go_ret
     exact ⟨rfl, HF.out⟩
   obtain ⟨x, hx⟩ : ∃ x, L[k]? = some x := ⟨L[k]'(by have := HN.out; omega), gE _⟩
   obtain ⟨g, o, rfl, hg, hc⟩ := HA.out.below HBE.out k x hx
   have hc0 : wo.cell? ⟨g, o + k * 6, none⟩ = some (.int .i64 x.kind) := by have := hc 0 _ rfl; simpa using this
   have hc1 : wo.cell? ⟨g, o + k * 6 + 1, none⟩ = some (.string x.text) := hc 1 _ rfl
   have hc2 : wo.cell? ⟨g, o + k * 6 + 2, none⟩ = some (.string x.name) := hc 2 _ rfl
   have hc3 : wo.cell? ⟨g, o + k * 6 + 3, none⟩ = some (.string x.op) := hc 3 _ rfl
   have hc4 : wo.cell? ⟨g, o + k * 6 + 4, none⟩ = some (.slice x.wA x.wn x.wc) := hc 4 _ rfl
   have hc5 : wo.cell? ⟨g, o + k * 6 + 5, none⟩ = some (.bool x.q) := hc 5 _ rfl
   have b1 : (k : Int) < (n : Int) := by omega
   have HTS := hide (patS_succ hx)
   have hpl := patS_le L HZ.out k
   have hxz := HZ.out x (List.mem_of_getElem? hx)
   have hqz := quoS_size x.text
   have hbo := (Below.refl wo.heap.size wo).alloc (Nat.le_refl _) (.cells #[.int .i64 x.kind, .string x.text, .string x.name, .string x.op, .slice x.wA x.wn x.wc, .bool x.q] tyP)
   have HBS := hide (HBL.out.step hbo)
   have HB1 := hide (HBE.out.trans (hbo.mono HBE.out.size))
   have HBX := hide (heapNew wo (.cells #[.int .i64 x.kind, .string x.text, .string x.name, .string x.op, .slice x.wA x.wn x.wc, .bool x.q] tyP))
   have hpl2 : (patS (L.take k)).length ≤ 2000000 := by omega
   clear hc hx hbo hpl
   obtain ⟨kd, tx, nm, op, wA, wn, wk, q⟩ := x
   dsimp only at hc0 hc1 hc2 hc3 hc4 hc5 hxz hqz
   have e0 : (wo.alloc (.cells #[.int .i64 kd, .string tx, .string nm, .string op, .slice wA wn wk, .bool q] tyP)).cell? ⟨wo.heap.size, 0, none⟩ = some (.int .i64 kd) := cellOfF HBX.out rfl
   have e1 : (wo.alloc (.cells #[.int .i64 kd, .string tx, .string nm, .string op, .slice wA wn wk, .bool q] tyP)).cell? ⟨wo.heap.size, 1, none⟩ = some (.string tx) := cellOfF HBX.out rfl
   by_cases hkd : kd = 1
   · have HPP := hide (show patP ⟨kd, tx, nm, op, wA, wn, wk, q⟩ = tx from if_pos hkd)
     subst hkd
     have HWR := hide (writeStr_any w.heap.size w.heap.size (patS (L.take k)) tx _ HBS.out (by omega) HB1.out.size)
     clear hqz
     go_wp2_with fail
     refine HWR.out.mono ?_
     rintro e wf ⟨rfl, hbl, hbe⟩
     have HBL2 := hide hbl
     have HBE2 := hide (HB1.out.trans hbe)
     clear hbl hbe e0 e1
     go_wp2
     exact ⟨⟨k + 1, by go_num, by omega, hide (by rw [HTS.out, HPP.out]; exact HBL2.out), HBE2⟩, by simp [intOf]; omega⟩
   · have HPP := hide (show patP ⟨kd, tx, nm, op, wA, wn, wk, q⟩ = quoS tx from if_neg hkd)
     have kn : ¬ kd = 1 := hkd
     have kf : (kd == 1) = false := by simpa using hkd
     have HQU := hide (Qt.quote_any tx (wo.alloc (.cells #[.int .i64 kd, .string tx, .string nm, .string op, .slice wA wn wk, .bool q] tyP)) hxz)
     clear hkd
     go_wp2_with fail
     refine HQU.out.mono ?_
     rintro e wq ⟨rfl, hbq⟩
     have HWR := hide (writeStr_any w.heap.size w.heap.size (patS (L.take k)) (quoS tx) wq (HBS.out.step hbq) (by omega) (by have := HB1.out.size; have := hbq.size; omega))
     have HB2 := hide (HB1.out.trans (hbq.mono HB1.out.size))
     clear hbq hqz e0 e1 hpl2
     go_wp2_with fail
     refine HWR.out.mono ?_
     rintro e wf ⟨rfl, hbl, hbe⟩
     have HBL2 := hide hbl
     have HBE2 := hide (HB2.out.trans hbe)
     clear hbl hbe
     go_wp2
     exact ⟨⟨k + 1, by go_num, by omega, hide (by rw [HTS.out, HPP.out]; exact HBL2.out), HBE2⟩, by simp [intOf]; omega⟩
theorem rpat_any (A : Option Addr) (c : Nat) (L : List Pt) (w : World) (hA : RG encPt 6 w A L) (hl : L.length ≤ 1000) (hz : ∀ p ∈ L, p.text.size ≤ 1000) :
   Calls Tryz.prog 69 #[.slice A L.length c] w fun e w' => e = .returned (.string (bsF (patS L))) ∧ Below w.heap.size w w' := by
 have HA := hide hA
 have HZ := hide hz
 obtain ⟨n, hn⟩ : ∃ n, L.length = n := ⟨_, rfl⟩
 have HN := hide hn
 rw [hn] at hl ⊢
 have hni : (n : Int) ≤ 1000 := by omega
 clear hA hz hn
 go_enter Tryz.func69, Tryz.ntmps69
 go_wp2
 go_loopw [3, 4] (fun v3 v4 wr => ∃ k : Nat, v4 = .int .i64 k ∧ k ≤ n ∧ v3 = .string (bsF (patS (L.take k))) ∧ Hid (Below w.heap.size w wr)) (fun _ v4 _ => n - (intOf v4).toNat)
 case atStart => exact ⟨0, rfl, by omega, rfl, hide (Below.refl _ _)⟩
 case round =>
   obtain ⟨wo, hwo⟩ : ∃ Z, Z = wr := ⟨_, rfl⟩
   subst hwo
   obtain ⟨k, rfl, hk, rfl, HBE⟩ := hrel
   by_cases hlt : k < n
   case neg =>
     obtain rfl : k = n := by omega
     have htk : L.take k = L := List.take_of_length_le (by have := HN.out; omega)
     rw [htk]
     go_wp2
     go_ret
     exact ⟨rfl, HBE.out⟩
   obtain ⟨x, hx⟩ : ∃ x, L[k]? = some x := ⟨L[k]'(by have := HN.out; omega), gE _⟩
   obtain ⟨g, o, rfl, hg, hc⟩ := HA.out.below HBE.out k x hx
   have hc0 : wo.cell? ⟨g, o + k * 6, none⟩ = some (.int .i64 x.kind) := by have := hc 0 _ rfl; simpa using this
   have hc1 : wo.cell? ⟨g, o + k * 6 + 1, none⟩ = some (.string x.text) := hc 1 _ rfl
   have b1 : (k : Int) < (n : Int) := by omega
   have HTS := hide (show bsF (patS (L.take (k + 1))) = bsF (patS (L.take k)) ++ patP x by
     rw [patS_succ hx]
     exact ByteArray.ext (Array.ext' (by simp [bsF])))
   have hpl := patS_le L HZ.out k
   have hxz := HZ.out x (List.mem_of_getElem? hx)
   have hqz := quoS_size x.text
   have hpz : (bsF (patS (L.take k))).size = (patS (L.take k)).length := by rw [Lib.size_eq]; simp [bsF]
   have hpl2 : (bsF (patS (L.take k))).size ≤ 2000000 := by omega
   clear hc hx hpl hpz
   obtain ⟨kd, tx, nm, op, wA, wn, wk, q⟩ := x
   dsimp only at hc0 hc1 hxz hqz
   by_cases hkd : kd = 1
   · have HPP := hide (show patP ⟨kd, tx, nm, op, wA, wn, wk, q⟩ = tx from if_pos hkd)
     subst hkd
     have hcat : (bsF (patS (L.take k))).size + tx.size ≤ 3000000 := by omega
     go_wp2
     exact ⟨⟨k + 1, by go_num, by omega, by rw [HTS.out, HPP.out], HBE⟩, by simp [intOf]; omega⟩
   · have HPP := hide (show patP ⟨kd, tx, nm, op, wA, wn, wk, q⟩ = quoS tx from if_neg hkd)
     have kn : ¬ kd = 1 := hkd
     have kf : (kd == 1) = false := by simpa using hkd
     have HQU := hide (Qt.rquote_any tx wo hxz)
     have hcat : (bsF (patS (L.take k))).size + (quoS tx).size ≤ 3000000 := by omega
     clear hkd
     go_wp2_with fail
     refine HQU.out.mono ?_
     rintro e wq ⟨rfl, hbq⟩
     have HB2 := hide (HBE.out.trans (hbq.mono HBE.out.size))
     rw [show Qt.sb (Qt.qb (bt tx) tx.size) = quoS tx from rfl]
     clear hbq
     go_wp2
     exact ⟨⟨k + 1, by go_num, by omega, by rw [HTS.out, HPP.out], HB2⟩, by simp [intOf]; omega⟩
end
end Go.Proofs.YtmcophlmcloooaaGreatDoor
namespace Qm.Glob
end Qm.Glob
namespace Go.Proofs.YtmcophlmcloooaaGreatDoor
section
open Go.RowKit Go.Deep Qm.Glob
attribute [local go_sem] bt_eq
theorem conv3 (W : World) (x y z : Int) (n : Nat) (h : n = W.heap.size) : (convert 29 9 (.slice (some ⟨n, 0, none⟩) 3 3)).run Tryz.prog (W.alloc (.cells #[.int .u8 x, .int .u8 y, .int .u8 z] 5)) = .ok (.string (strOfNums [x, y, z])) (W.alloc (.cells #[.int .u8 x, .int .u8 y, .int .u8 z] 5)) := by
 subst h
 exact run_convert_bytes_arg _ 29 5 Tryz.underlying29 Tryz.underlying5 W.heap.size 0 3 3 [x, y, z] rfl (fun i hi => by
   rw [World.cell?_alloc_at _ _ _ _ rfl]
   have h : i = 0 ∨ i = 1 ∨ i = 2 := by omega
   rcases h with rfl | rfl | rfl <;> rfl) _ Tryz.underlying9
theorem conv2 (W : World) (x y : Int) (n : Nat) (h : n = W.heap.size) : (convert 29 9 (.slice (some ⟨n, 0, none⟩) 2 2)).run Tryz.prog (W.alloc (.cells #[.int .u8 x, .int .u8 y] 5)) = .ok (.string (strOfNums [x, y])) (W.alloc (.cells #[.int .u8 x, .int .u8 y] 5)) := by
 subst h
 exact run_convert_bytes_arg _ 29 5 Tryz.underlying29 Tryz.underlying5 W.heap.size 0 2 2 [x, y] rfl (fun i hi => by
   rw [World.cell?_alloc_at _ _ _ _ rfl]
   have h : i = 0 ∨ i = 1 := by omega
   rcases h with rfl | rfl <;> rfl) _ Tryz.underlying9
theorem conv1 (W : World) (x : Int) (n : Nat) (h : n = W.heap.size) : (convert 29 9 (.slice (some ⟨n, 0, none⟩) 1 1)).run Tryz.prog (W.alloc (.cells #[.int .u8 x] 5)) = .ok (.string (strOfNums [x])) (W.alloc (.cells #[.int .u8 x] 5)) := by
 subst h
 exact run_convert_bytes_arg _ 29 5 Tryz.underlying29 Tryz.underlying5 W.heap.size 0 1 1 [x] rfl (fun i hi => by
   rw [World.cell?_alloc_at _ _ _ _ rfl]
   obtain rfl : i = 0 := by omega
   rfl) _ Tryz.underlying9
attribute [local go_sem] conv1 conv2 conv3 strOfNums_size
end
end Go.Proofs.YtmcophlmcloooaaGreatDoor
namespace Qm.Glob
def sh (t : Nat → Nat) (d : Nat) : Nat → Nat := fun j => t (j + d)
theorem gOne_sh (t : Nat → Nat) (n d i : Nat) (h : d ≤ n) : gOne t n (i + d) = ((gOne (sh t d) (n - d) i).1, (gOne (sh t d) (n - d) i).2.1 + d, (gOne (sh t d) (n - d) i).2.2) := by
 have e1 : (i + d < n) = (i < n - d) := by apply propext; omega
 have e2 : (i + d + 1 < n) = (i + 1 < n - d) := by apply propext; omega
 simp only [gOne, sh, e1, e2, show i + 1 + d = i + d + 1 from by omega]
 (repeat' split) <;> simp <;> omega
theorem gBr_sh (t : Nat → Nat) (n d first : Nat) (nt : Bool) (h : d ≤ n) : ∀ (f i : Nat) (S : Nat → Bool), gBr t n (first + d) nt f (i + d) S = (gBr (sh t d) (n - d) first nt f i S).map fun x => (x.1, x.2 + d)
 | 0, _, _ => rfl
 | f + 1, i, S => by
   rw [gBr, gBr, gOne_sh t n d i h]
   by_cases h1 : i < n - d
   · rw [if_pos h1, if_pos (by omega)]
     have e : (t (i + d) = 93 ∧ first + d < i + d) = (sh t d i = 93 ∧ first < i) := by
       apply propext; simp only [sh]; omega
     simp only [e]
     by_cases h2 : sh t d i = 93 ∧ first < i
     · rw [if_pos h2, if_pos h2]
       simp [Nat.add_right_comm]
     · rw [if_neg h2, if_neg h2]
       generalize hk : (gOne (sh t d) (n - d) i).2.1 = k
       by_cases h3 : (gOne (sh t d) (n - d) i).2.2 = true
       · rw [if_pos h3, if_pos h3]
         have e3 : (k + d + 1 < n ∧ t (k + d) = 45 ∧ t (k + d + 1) ≠ 93) = (k + 1 < n - d ∧ sh t d k = 45 ∧ sh t d (k + 1) ≠ 93) := by
           apply propext; simp only [sh, show k + 1 + d = k + d + 1 from by omega]; omega
         simp only [e3]
         by_cases h4 : k + 1 < n - d ∧ sh t d k = 45 ∧ sh t d (k + 1) ≠ 93
         · rw [if_pos h4, if_pos h4, show k + d + 1 = (k + 1) + d from by omega, gOne_sh t n d (k + 1) h]
           simp only
           split
           · exact gBr_sh t n d first nt h f _ _
           · rfl
         · rw [if_neg h4, if_neg h4]
           exact gBr_sh t n d first nt h f _ _
       · rw [if_neg h3, if_neg h3]; rfl
   · rw [if_neg h1, if_neg (by omega)]; rfl
theorem brNt_sh (t : Nat → Nat) (n d i : Nat) : brNt t n (i + d) = brNt (sh t d) (n - d) i := by
 have e1 : decide (i + d < n) = decide (i < n - d) := by apply decide_eq_decide.2; omega
 simp [brNt, sh, e1]
theorem brAt_sh (t : Nat → Nat) (n d i : Nat) : brAt t n (i + d) = brAt (sh t d) (n - d) i + d := by
 simp only [brAt, brNt_sh]
 split <;> omega
theorem gBracket_sh (t : Nat → Nat) (n d i : Nat) (h : d ≤ n) : gBracket t n (i + d) = (gBracket (sh t d) (n - d) i).map fun x => (x.1, x.2 + d) := by
 rw [gBracket, gBracket, brAt_sh, brNt_sh, show n + 1 - (brAt (sh t d) (n - d) i + d) = n - d + 1 - brAt (sh t d) (n - d) i from by omega]
 exact gBr_sh t n d _ _ h _ _ _
theorem gIt_sh (t : Nat → Nat) (n d : Nat) (h : d ≤ n) : ∀ f i, gIt t n f (i + d) = gIt (sh t d) (n - d) f i
 | 0, _ => rfl
 | f + 1, i => by
   rw [gIt, gIt]
   have e1 : sh t d i = t (i + d) := rfl
   have e2 : sh t d (i + 1) = t (i + d + 1) := by simp only [sh]; congr 1; omega
   rw [e1, e2]
   by_cases h1 : i < n - d
   · rw [if_pos h1, if_pos (by omega)]
     have r1 := gIt_sh t n d h f (i + 1)
     have r2 := gIt_sh t n d h f (i + 2)
     rw [show i + 1 + d = i + d + 1 from by omega] at r1
     rw [show i + 2 + d = i + d + 2 from by omega] at r2
     have e3 : (i + d + 1 < n) = (i + 1 < n - d) := by apply propext; omega
     rw [r1, r2, show i + d + 1 = (i + 1) + d from by omega, gBracket_sh t n d (i + 1) h]
     simp only [show (i + 1 + d < n) = (i + 1 < n - d) from by apply propext; omega]
     cases hg : gBracket (sh t d) (n - d) (i + 1) with
     | none => rfl
     | some x =>
       have r3 := gIt_sh t n d h f x.2
       simp only [Option.map_some, r3]
   · rw [if_neg h1, if_neg (by omega)]
theorem gIt_fuel (t : Nat → Nat) (n : Nat) : ∀ f g i, n < f + i → n < g + i → gIt t n f i = gIt t n g i
 | 0, 0, _, _, _ => rfl
 | 0, g + 1, i, h, _ => by rw [gIt, gIt, if_neg (by omega)]
 | f + 1, 0, i, _, h => by rw [gIt, gIt, if_neg (by omega)]
 | f + 1, g + 1, i, hf, hg => by
   rw [gIt, gIt]
   by_cases h1 : i < n
   · rw [if_pos h1, if_pos h1, gIt_fuel t n f g (i + 1) (by omega) (by omega), gIt_fuel t n f g (i + 2) (by omega) (by omega)]
     cases hx : gBracket t n (i + 1) with
     | none => rfl
     | some x =>
       have := gBracket_le hx
       simp only [gIt_fuel t n f g x.2 (by omega) (by omega)]
   · rw [if_neg h1, if_neg h1]
def simp1 (c : Nat) : GI := if c = 42 then giStar else if c = 63 then giAny else giOne c
theorem gItems_parts (t : Nat → Nat) (n : Nat) : ∀ k, k ≤ n → (∀ j, j < k → t j ≠ 91 ∧ t j ≠ 92) → gItems t n = (List.range k).map (fun j => simp1 (t j)) ++ gItems (sh t k) (n - k)
 | 0, _, _ => by simp [gItems]; rfl
 | k + 1, h, hp => by
   rw [gItems_parts t n k (by omega) (fun j hj => hp j (by omega)), List.range_succ, List.map_append, List.append_assoc]
   congr 1
   have hk := hp k (by omega)
   have e0 : sh t k 0 = t k := by simp [sh]
   rw [gItems, gIt, if_pos (by omega), e0]
   have e1 : gIt (sh t k) (n - k) (n - k) (0 + 1) = gItems (sh t (k + 1)) (n - (k + 1)) := by
     rw [gIt_sh (sh t k) (n - k) 1 (by omega), gItems, show n - k - 1 = n - (k + 1) from by omega, show sh (sh t k) 1 = sh t (k + 1) from by funext j; simp only [sh]; congr 1; omega]
     exact gIt_fuel _ _ _ _ _ (by omega) (by omega)
   rw [e1]
   simp only [List.map_cons, List.map_nil, simp1]
   by_cases h1 : t k = 42
   · rw [if_pos h1, if_pos h1]; rfl
   · rw [if_neg h1, if_neg h1]
     by_cases h2 : t k = 63
     · rw [if_pos h2, if_pos h2]; rfl
     · rw [if_neg h2, if_neg h2, if_neg hk.2, if_neg hk.1]; rfl
end Qm.Glob
namespace Go.Proofs.YtmcophlmcloooaaGreatDoor
section
open Go.RowKit Go.Deep Qm.Glob
attribute [local go_sem] bt_eq strOfNums_size
end
section
open Go.RowKit Go.Deep Qm.Glob
attribute [local go_sem] bt_eq strOfNums_size
end
section
open Go.RowKit Go.Deep Qm.Glob
attribute [local go_sem] bt_eq
def sb (l : List Nat) : ByteArray := strOfNums (l.map fun n : Nat => (n : Int))
theorem sb_size (l : List Nat) : (sb l).size = l.length := by simp [sb, strOfNums_size]
theorem conv_own {W : World} {base : Nat} {v : Value} {l : List Nat} (h : OwnB W base v l) : (convert 29 9 v).run Tryz.prog W = .ok (.string (sb l)) W := by
 rcases h.2 with ⟨rfl, hn⟩ | ⟨g, cap, cur, rfl, _, hh, _⟩
 · have hl : l = [] := List.eq_nil_of_length_eq_zero hn
   subst hl
   exact run_convert_bytes_nil W 29 5 Tryz.underlying29 Tryz.underlying5 0 0 _ Tryz.underlying9
 · refine run_convert_bytes_arg W 29 5 Tryz.underlying29 Tryz.underlying5 g 0 l.length cap (l.map fun n : Nat => (n : Int)) (by simp) (fun i hi => ?_) _ Tryz.underlying9
   rw [Nat.zero_add, World.ownsRow.cellAt h i (by omega)]
   simp [nbytes, List.getD_eq_getElem?_getD, hi]
theorem below_gb {B : Nat} {wr w' : World} {o : Obj} {r : Option Nat} (hg : (wr.alloc o).grownBy w' r) (hr : ∀ k, r = some k → B ≤ k) (hB : B ≤ wr.heap.size) : Below B wr w' :=
 ((Below.refl B wr).alloc hB o).grown hg (by simp; omega) hr
def plAll (l : List GI) : Bool := l.all GI.plain
def plBytes (l : List GI) : List Nat := l.map GI.c
def plVal (ok : Bool) (l : List Nat) : Value := if ok then .tuple #[.string (sb l), .bool true] else .tuple #[.string ⟨#[]⟩, .bool false]
theorem plAll_no {l : List GI} {j : Nat} {x : GI} (hx : l[j]? = some x) (h : x.plain = false) : plAll l = false := by
 simp only [plAll, List.all_eq_false]
 exact ⟨x, List.mem_of_getElem? hx, by simp [h]⟩
theorem gplain_any (p : ByteArray) (w : World) (hp : p.size ≤ 1000) :
   Calls Tryz.prog 46 #[.string p] w fun e w' => e = .returned (plVal (plAll (gItems (bt p) p.size)) (plBytes (gItems (bt p) p.size))) ∧ Below w.heap.size w w' := by
 go_enter Tryz.func46, Tryz.ntmps46
 go_wp2_with fail
 refine (items_any p w hp).mono ?_
 rintro e w1 ⟨v, rfl, hown, hb⟩
 have hlen : (gItems (bt p) p.size).length ≤ 1000 := Nat.le_trans (gItems_len _ _) hp
 generalize hl : gItems (bt p) p.size = l at hown hlen
 have HL := hide hl
 clear hl
 obtain ⟨A, c, rfl, hat⟩ := items_of_own hown
 have HAT := hide hat
 have HB := hide hb
 clear hat hb hown
 go_wp2_with fail
 go_loopw [4, 10] (fun v4 v10 wr => ∃ j : Nat, v10 = .int .i64 j ∧ j ≤ l.length ∧ OwnB wr w1.heap.size v4 ((plBytes l).take j) ∧ Hid (∀ k x, k < j → l[k]? = some x → x.plain = true) ∧ Below w1.heap.size w1 wr) (fun _ v10 _ => l.length - (intOf v10).toNat)
 case atStart => exact ⟨0, rfl, by omega, World.ownsRow_nil _ _ _ _, fun k x hk => by omega, Below.refl _ _⟩
 case round =>
   obtain ⟨j, rfl, hj, ho, HP, hb⟩ := hrel
   obtain ⟨Ao, co, rfl⟩ := own_sliceN (n := j) ho (by simp [plBytes]; omega)
   have HO := hide ho
   have HW := hide hb
   clear ho hb
   by_cases hlt : j < l.length
   · obtain ⟨x, hx⟩ : ∃ x, l[j]? = some x := ⟨l[j], List.getElem?_eq_getElem hlt⟩
     obtain ⟨b0, S, b1, cc, b2⟩ := x
     obtain ⟨g, rfl, hg, c0, c1, c2, c3, c4, c5, c6, c7⟩ := items_cells HAT.out HW.out hx
     have HX := hide hx
     clear hx
     cases b1 with
     | false =>
       go_wp2
       go_ret2
       refine ⟨?_, below_up HB.out (HW.out.alloc HW.out.size _) HB.out.size⟩
       rw [HL.out, plAll_no HX.out rfl]
       rfl
     | true =>
       have HO1 := hide (World.ownsRow.alloc HO.out (.cells #[.bool b0, .int .u64 (wd S 0), .int .u64 (wd S 1), .int .u64 (wd S 2), .int .u64 (wd S 3), .bool true, .int .u8 cc, .bool b2] 160))
       have HW1 := hide (HW.out.alloc HW.out.size (.cells #[.bool b0, .int .u64 (wd S 0), .int .u64 (wd S 1), .int .u64 (wd S 2), .int .u64 (wd S 3), .bool true, .int .u8 cc, .bool b2] 160))
       have hlj : ((plBytes l).take j).length ≤ 1000 := by simp [plBytes]; omega
       go_wp2_with (at_builtin; refine wpList_appB _ ?_ (.tmp 17) (.tmp 20) ?_ w1.heap.size (.slice Ao j co) ((plBytes l).take j) ?_ HO1.out cc ?_ ?_ ?_ ?_; exact rfl; exact rfl; exact rfl; exact slice_new' _ _; omega; exact HW1.out.size; intro v1 w2 ho1 hg1 hb1; have HB2 := hide (HW1.out.trans (below_gb hg1 (fun k hk => (HO1.out.lt k hk).1) HW1.out.size)); have HO2 := hide ho1; clear ho1 hg1 hb1)
       go_roundw
       case rel =>
         have hx := HX.out
         refine ⟨j + 1, by go_num, by omega, ?_, fun k x hk hx2 => ?_, HB2.out⟩
         · rw [take_snoc' (a := cc) (by simp [plBytes, hx])]; exact HO2.out
         · rcases Nat.lt_or_ge k j with h | h
           · exact HP.out k x h hx2
           · obtain rfl : k = j := by omega
             rw [hx] at hx2; injection hx2 with hx2; subst hx2; rfl
       case measure => simp [intOf]; omega
   · obtain rfl : j = l.length := by omega
     have hcv := conv_own HO.out
     rw [show (plBytes l).take l.length = plBytes l from by rw [List.take_of_length_le]; simp [plBytes]] at hcv
     go_wp2
     go_ret2
     refine ⟨?_, below_up HB.out HW.out HB.out.size⟩
     have hall : plAll l = true := by
       simp only [plAll, List.all_eq_true]
       intro x hx
       obtain ⟨k, hk⟩ := List.mem_iff_getElem?.1 hx
       exact HP.out k x (List.getElem?_eq_some_iff.1 hk).1 hk
     rw [HL.out, hall]
     rfl
def rAll (l : List RI) : Bool := l.all fun x => x.kind == 0
def rBytes (l : List RI) : List Nat := l.map RI.c
theorem rAll_no {l : List RI} {j : Nat} {x : RI} (hx : l[j]? = some x) (h : x.kind ≠ 0) : rAll l = false := by
 simp only [rAll, List.all_eq_false]
 exact ⟨x, List.mem_of_getElem? hx, by simp [h]⟩
theorem rplain_any (p : ByteArray) (w : World) (hp : p.size ≤ 1000) :
   Calls Tryz.prog 70 #[.string p] w fun e w' => e = .returned (plVal (rAll (rItems (bt p) p.size)) (rBytes (rItems (bt p) p.size))) ∧ Below w.heap.size w w' := by
 go_enter Tryz.func70, Tryz.ntmps70
 go_wp2_with fail
 refine (ritems_any p w hp).mono ?_
 rintro e w1 ⟨v, xs, rfl, hown, hris, hb⟩
 have hlen : (rItems (bt p) p.size).length ≤ 1000 := Nat.le_trans (rItems_len _ _) hp
 have hok := fun x hx => rIt_ok (bt p) p.size (p.size + 1) 0 x hx
 generalize hl : rItems (bt p) p.size = l at hown hlen hris
 rw [show rIt (bt p) p.size (p.size + 1) 0 = l from hl] at hok
 have HL := hide hl
 clear hl
 obtain ⟨A, c, rfl, hat⟩ := ritems_of_own hown hris (fun x hx => by have := hok x hx; omega)
 have HAT := hide hat
 have HB := hide hb
 clear hat hb hown hris hok
 go_wp2_with fail
 go_loopw [5, 6] (fun v5 v6 wr => ∃ j : Nat, v6 = .int .i64 j ∧ j ≤ l.length ∧ OwnB wr w1.heap.size v5 ((rBytes l).take j) ∧ Hid (∀ k x, k < j → l[k]? = some x → x.kind = 0) ∧ Below w1.heap.size w1 wr) (fun _ v6 _ => l.length - (intOf v6).toNat)
 case atStart => exact ⟨0, rfl, by omega, World.ownsRow_nil _ _ _ _, fun k x hk => by omega, Below.refl _ _⟩
 case round =>
   obtain ⟨j, rfl, hj, ho, HP, hb⟩ := hrel
   obtain ⟨Ao, co, rfl⟩ := own_sliceN (n := j) ho (by simp [rBytes]; omega)
   have HO := hide ho
   have HW := hide hb
   clear ho hb
   by_cases hlt : j < l.length
   · obtain ⟨x, hx⟩ : ∃ x, l[j]? = some x := ⟨l[j], List.getElem?_eq_getElem hlt⟩
     obtain ⟨g, vlo, vhi, rfl, hg, c0, c1, c2, c3, c4, hlo, hhi, hle, hlb⟩ := ritem_cells HAT.out HW.out hx
     have HX := hide hx
     clear hx c2 c3 c4 hlo hhi hle hlb
     by_cases hk : x.kind = 0
     · have g1 : ((x.kind : Int) != 0) = false := by simp only [bne_eq_false_iff_eq]; omega
       have HK := hide hk
       clear hk
       have hlj : ((rBytes l).take j).length ≤ 1000 := by simp [rBytes]; omega
       go_wp2_with (at_builtin; refine wpList_appB wr ?_ (.tmp 21) (.tmp 27) ?_ w1.heap.size (.slice Ao j co) ((rBytes l).take j) ?_ HO.out x.c ?_ ?_ ?_ ?_; exact rfl; exact rfl; exact rfl; exact rfl; omega; exact HW.out.size; intro v1 w2 ho1 hg1 hb1; have HB2 := hide (HW.out.trans (below_gb hg1 (fun k hk => (HO.out.lt k hk).1) HW.out.size)); have HO2 := hide ho1; clear ho1 hg1 hb1)
       go_roundw
       case rel =>
         have hx := HX.out
         refine ⟨j + 1, by go_num, by omega, ?_, fun k y hk hy => ?_, HB2.out⟩
         · rw [take_snoc' (a := x.c) (by simp [rBytes, hx])]; exact HO2.out
         · rcases Nat.lt_or_ge k j with h | h
           · exact HP.out k y h hy
           · obtain rfl : k = j := by omega
             rw [hx] at hy; injection hy with hy; subst hy; exact HK.out
       case measure => simp [intOf]; omega
     · have g1 : ((x.kind : Int) != 0) = true := by simp only [bne_iff_ne]; omega
       have HK := hide hk
       clear hk
       go_wp2
       go_ret2
       refine ⟨?_, below_up HB.out HW.out HB.out.size⟩
       rw [HL.out, rAll_no HX.out HK.out]
       rfl
   · obtain rfl : j = l.length := by omega
     have hcv := conv_own HO.out
     rw [show (rBytes l).take l.length = rBytes l from by rw [List.take_of_length_le]; simp [rBytes]] at hcv
     go_wp2
     go_ret2
     refine ⟨?_, below_up HB.out HW.out HB.out.size⟩
     have hall : rAll l = true := by
       simp only [rAll, List.all_eq_true]
       intro x hx
       obtain ⟨k, hk⟩ := List.mem_iff_getElem?.1 hx
       simpa using HP.out k x (List.getElem?_eq_some_iff.1 hk).1 hk
     rw [HL.out, hall]
     rfl
end
end Go.Proofs.YtmcophlmcloooaaGreatDoor
namespace Qm.Glob
def PairR (R : GI → RI → Prop) : List GI → List RI → Prop
 | [], [] => True
 | x :: a, y :: b => R x y ∧ PairR R a b
 | _, _ => False
theorem pair_gen {R : GI → RI → Prop} (k1 : ∀ c, R (giOne c) (rByte c)) (k2 : R giAny rAny) (k3 : R giStar rStar) (k4 : ∀ S nt lo hi, R (giSet S) ⟨3, 0, nt, lo, hi⟩) (t : Nat → Nat) (n : Nat) : ∀ f i, PairR R (gIt t n f i) (rIt t n f i)
 | 0, _ => trivial
 | f + 1, i => by
   have ih := pair_gen k1 k2 k3 k4 t n f
   rw [gIt, rIt]
   by_cases h : i < n
   · rw [if_pos h, if_pos h]
     by_cases h1 : t i = 42
     · rw [if_pos h1, if_pos h1]; exact ⟨k3, ih _⟩
     · rw [if_neg h1, if_neg h1]
       by_cases h2 : t i = 63
       · rw [if_pos h2, if_pos h2]; exact ⟨k2, ih _⟩
       · rw [if_neg h2, if_neg h2]
         by_cases h3 : t i = 92
         · have h5 : ¬ (t i = 91 ∧ (rSetOf t n (i + 1)).2.2 < n) := by omega
           rw [if_pos h3, if_neg h5]
           by_cases h4 : i + 1 < n
           · rw [if_pos h4, rOne, if_pos ⟨h3, h4⟩]; exact ⟨k1 _, ih _⟩
           · rw [if_neg h4, rOne, if_neg (fun h => h4 h.2), h3]; exact ⟨k1 _, ih _⟩
         · rw [if_neg h3]
           have hr : rOne t n i = (t i, 1) := by rw [rOne, if_neg (fun h => h3 h.1)]
           by_cases h4 : t i = 91
           · rw [if_pos h4, gBracket_rSet (by omega)]
             by_cases h5 : (rSetOf t n (i + 1)).2.2 < n
             · have h6 : t i = 91 ∧ (rSetOf t n (i + 1)).2.2 < n := ⟨h4, h5⟩
               rw [if_pos h5, if_pos h6]; exact ⟨k4 _ _ _ _, ih _⟩
             · have h6 : ¬ (t i = 91 ∧ (rSetOf t n (i + 1)).2.2 < n) := fun h => h5 h.2
               rw [if_neg h5, if_neg h6, hr, h4]; exact ⟨k1 _, ih _⟩
           · have h6 : ¬ (t i = 91 ∧ (rSetOf t n (i + 1)).2.2 < n) := fun h => h4 h.1
             rw [if_neg h4, if_neg h6, hr]; exact ⟨k1 _, ih _⟩
   · rw [if_neg h, if_neg h]; trivial
def SameP (x : GI) (y : RI) : Prop := x.plain = (y.kind == 0) ∧ (x.plain = true → x.c = y.c ∧ x = giOne x.c)
theorem sameP_it (t : Nat → Nat) (n f i : Nat) : PairR SameP (gIt t n f i) (rIt t n f i) :=
 pair_gen (fun _ => ⟨rfl, fun _ => ⟨rfl, rfl⟩⟩) ⟨rfl, fun h => (by cases h)⟩ ⟨rfl, fun h => (by cases h)⟩ (fun _ _ _ _ => ⟨rfl, fun h => (by cases h)⟩) t n f i
theorem sameP_all : ∀ {a : List GI} {b : List RI}, PairR SameP a b → a.all GI.plain = b.all (fun x => x.kind == 0) ∧ (a.all GI.plain = true → a.map GI.c = b.map RI.c ∧ a = (a.map GI.c).map giOne)
 | [], [], _ => ⟨rfl, fun _ => ⟨rfl, rfl⟩⟩
 | x :: a, y :: b, h => by
   have ih := sameP_all h.2
   refine ⟨by simp only [List.all_cons, ih.1, h.1.1], fun hp => ?_⟩
   simp only [List.all_cons, Bool.and_eq_true] at hp
   have h1 := h.1.2 hp.1
   have h2 := ih.2 hp.2
   refine ⟨by simp only [List.map_cons, h1.1, h2.1], ?_⟩
   simp only [List.map_cons]
   rw [← h1.2, ← h2.2]
 | [], _ :: _, h => h.elim
 | _ :: _, [], h => h.elim
end Qm.Glob
namespace Go.Proofs.YtmcophlmcloooaaGreatDoor
section
open Go.RowKit Go.Deep Qm.Glob
attribute [local go_sem] bt_eq strOfNums_size
theorem plain_same (p : ByteArray) : plAll (gItems (bt p) p.size) = rAll (rItems (bt p) p.size) ∧ (plAll (gItems (bt p) p.size) = true → plBytes (gItems (bt p) p.size) = rBytes (rItems (bt p) p.size) ∧ gItems (bt p) p.size = (plBytes (gItems (bt p) p.size)).map giOne) :=
 sameP_all (sameP_it (bt p) p.size (p.size + 1) 0)
end
section
open Go.RowKit Go.Deep Qm.Glob
attribute [local go_sem] bt_eq
def isSp (c : Nat) : Bool := c == 42 || c == 63 || c == 91 || c == 92
def q1 (c : Nat) : List Nat := if isSp c then [92, c] else [c]
def qb (t : Nat → Nat) (k : Nat) : List Nat := (List.range k).flatMap fun j => q1 (t j)
theorem qb_succ (t : Nat → Nat) (k : Nat) : qb t (k + 1) = qb t k ++ q1 (t k) := by simp [qb, List.range_succ, List.flatMap_append]
theorem qb_len (t : Nat → Nat) (k : Nat) : (qb t k).length ≤ 2 * k := by
 induction k with
 | zero => simp [qb]
 | succ k ih =>
   rw [qb_succ, List.length_append]
   have : (q1 (t k)).length ≤ 2 := by unfold q1; split <;> simp
   omega
theorem rquote_any (s : ByteArray) (w : World) (hs : s.size ≤ 1000) :
   Calls Tryz.prog 122 #[.string s] w fun e w' => e = .returned (.string (sb (qb (bt s) s.size))) ∧ Below w.heap.size w w' := by
 go_enter Tryz.func122, Tryz.ntmps122
 go_wp2
 go_loopw [3, 4] (fun v3 v4 wr => ∃ k : Nat, v4 = .int .i64 k ∧ k ≤ s.size ∧ OwnB wr w.heap.size v3 (qb (bt s) k) ∧ Below w.heap.size w wr) (fun _ v4 _ => s.size - (intOf v4).toNat)
 case atStart => exact ⟨0, rfl, by omega, World.ownsRow_nil _ _ _ _, Below.refl _ _⟩
 case round =>
   obtain ⟨k, rfl, hk, ho, hb⟩ := hrel
   obtain ⟨Ao, co, rfl⟩ := own_slice ho
   have hql := qb_len (bt s) k
   have HO := hide ho
   have HW := hide hb
   have hql2 : (qb (bt s) k).length ≤ 2000 := by omega
   clear ho hb hql
   by_cases hlt : k < s.size
   · have hor : isSp (bt s k) = (bt s k == 42 || bt s k == 63 || bt s k == 91 || bt s k == 92) := rfl
     have HOR := hide hor
     clear hor
     go_upto_region 5 with (fail)
     go_cut [32] from 11 to 32 (fun sc wx => sc = .bool (isSp (bt s k)) ∧ wr = wx)
     case first =>
       go_wp2
       all_goals go_meet
       all_goals refine ⟨?_, rfl⟩
       all_goals
         rw [HOR.out]
         go_light
         try simp only [beq_iff_eq, beq_eq_false_iff_ne] at *
         congr 1
         rw [Bool.eq_iff_iff]
         simp
         omega
     case rest =>
       obtain ⟨rfl, hw⟩ := hcut
       subst hw
       cases hsp : isSp (bt s k) with
       | true =>
         have HQ := hide (show qb (bt s) (k + 1) = (qb (bt s) k ++ [92]) ++ [bt s k] by rw [qb_succ, q1, if_pos hsp]; simp)
         clear hsp
         go_wp2_with (first | (at_builtin; refine wpList_appB wr ?_ (.tmp 33) (.tmp 34) ?_ w.heap.size (.slice Ao (qb (bt s) k).length co) (qb (bt s) k) ?_ HO.out 92 ?_ ?_ ?_ ?_; exact rfl; exact rfl; exact rfl; exact rfl; (first | omega | (simp; omega)); exact HW.out.size; intro v1 w1 ho1 hg1 hat1; obtain ⟨A1, c1, rfl⟩ := own_sliceN (n := (qb (bt s) k).length + 1) ho1 (by simp); have HW1 := hide (HW.out.trans (below_gb hg1 (fun k hk => (HO.out.lt k hk).1) HW.out.size)); have HO1 := hide ho1; clear ho1 hg1 hat1) | (at_builtin; refine wpList_appB w1 ?_ (.tmp 36) (.tmp 40) ?_ w.heap.size (.slice A1 ((qb (bt s) k).length + 1) c1) (qb (bt s) k ++ [92]) ?_ HO1.out (bt s k) ?_ ?_ ?_ ?_; exact rfl; exact rfl; exact rfl; exact rfl; (first | omega | (simp; omega)); exact HW1.out.size; intro v2 w2 ho2 hg2 hat2; obtain ⟨A2, c2, rfl⟩ := own_sliceN (n := (qb (bt s) k).length + 1 + 1) ho2 (by simp); have HW2 := hide (HW1.out.trans (below_gb hg2 (fun k hk => (HO1.out.lt k hk).1) HW1.out.size)); have HO2 := hide ho2; clear ho2 hg2 hat2))
         go_roundw
         case rel => exact ⟨k + 1, by go_num, by omega, by rw [HQ.out]; exact HO2.out, HW2.out⟩
         case measure => simp [intOf]; omega
       | false =>
         have HQ := hide (show qb (bt s) (k + 1) = qb (bt s) k ++ [bt s k] by rw [qb_succ, q1, if_neg (by simp [hsp])])
         clear hsp
         go_wp2_with (at_builtin; refine wpList_appB wr ?_ (.tmp 36) (.tmp 40) ?_ w.heap.size (.slice Ao (qb (bt s) k).length co) (qb (bt s) k) ?_ HO.out (bt s k) ?_ ?_ ?_ ?_; exact rfl; exact rfl; exact rfl; exact rfl; (first | omega | (simp; omega)); exact HW.out.size; intro v2 w2 ho2 hg2 hat2; obtain ⟨A2, c2, rfl⟩ := own_sliceN (n := (qb (bt s) k).length + 1) ho2 (by simp); have HW2 := hide (HW.out.trans (below_gb hg2 (fun k hk => (HO.out.lt k hk).1) HW.out.size)); have HO2 := hide ho2; clear ho2 hg2 hat2)
         go_roundw
         case rel => exact ⟨k + 1, by go_num, by omega, by rw [HQ.out]; exact HO2.out, HW2.out⟩
         case measure => simp [intOf]; omega
   · obtain rfl : k = s.size := by omega
     have hcv := conv_own HO.out
     go_wp2
     go_ret
     exact ⟨rfl, HW.out⟩
theorem quote_any (s : ByteArray) (w : World) (hs : s.size ≤ 1000) :
   Calls Tryz.prog 97 #[.string s] w fun e w' => e = .returned (.string (sb (qb (bt s) s.size))) ∧ Below w.heap.size w w' := by
 have hsb := run_bytes_of_string (P := Tryz.prog) w 9 29 5 s Tryz.underlying9 Tryz.underlying29 Tryz.underlying5
 generalize hC : grownCap w s.size 0 5 = C at hsb
 have hcl : ∀ j, j < s.size → ((w.alloc (.cells (bytesRow s C) 5 ((bytesRow s C).size, (bytesRow s C).size + 1))).drew).cell? ⟨w.heap.size, j, none⟩ = some (.int .u8 (bt s j)) := fun j hj => by
   show (w.alloc (.cells (bytesRow s C) 5 ((bytesRow s C).size, (bytesRow s C).size + 1))).cell? ⟨w.heap.size, j, none⟩ = _
   rw [World.cell?_alloc_mark, bytesRow_at s C j hj, ← bt_eq s j hj]
   rfl
 have HC0 := hide hcl
 have HC1 := hide hC
 clear hcl hC
 go_enter Tryz.func97, Tryz.ntmps97
 go_wp2_with fail
 clear hsb
 have hsz0 : w.heap.size < ((w.alloc (.cells (bytesRow s C) 5 ((bytesRow s C).size, (bytesRow s C).size + 1))).drew).heap.size := by simp
 have hb0 : Below w.heap.size w ((w.alloc (.cells (bytesRow s C) 5 ((bytesRow s C).size, (bytesRow s C).size + 1))).drew) := ((Below.refl _ _).alloc (Nat.le_refl _) _).drew
 generalize (w.alloc (.cells (bytesRow s C) 5 ((bytesRow s C).size, (bytesRow s C).size + 1))).drew = w1 at HC0 hsz0 hb0 ⊢
 have HC := HC0
 have hsz := hsz0
 have HB0 := hide hb0
 clear HC0 hsz0 hb0 HC1
 go_loopw [3, 9] (fun v3 v9 wr => ∃ k : Nat, v9 = .int .i64 k ∧ k ≤ s.size ∧ OwnB wr w1.heap.size v3 (qb (bt s) k) ∧ Below w1.heap.size w1 wr) (fun _ v9 _ => s.size - (intOf v9).toNat)
 case atStart => exact ⟨0, rfl, by omega, World.ownsRow_nil _ _ _ _, Below.refl _ _⟩
 case round =>
   obtain ⟨k, rfl, hk, ho, hb⟩ := hrel
   obtain ⟨Ao, co, rfl⟩ := own_slice ho
   have hql := qb_len (bt s) k
   have HO := hide ho
   have HW := hide hb
   have hql2 : (qb (bt s) k).length ≤ 2000 := by omega
   clear ho hb hql
   by_cases hlt : k < s.size
   · have hor : isSp (bt s k) = (bt s k == 42 || bt s k == 63 || bt s k == 91 || bt s k == 92) := rfl
     have HOR := hide hor
     clear hor
     have hcell := (HW.out.cell (p := ⟨w.heap.size, k, none⟩) hsz).trans (HC.out k hlt)
     go_upto_region 5 with (fail)
     go_cut [26] from 13 to 26 (fun sc wx => sc = .bool (isSp (bt s k)) ∧ wr = wx)
     case first =>
       by_cases e0 : bt s k = 42
       · have q0 : (((bt s k : Nat) : Int) == 42) = true := by simp only [beq_iff_eq]; omega
         have E0 := hide (show (bt s k == 42) = true by simp [e0])
         clear e0
         go_wp2
         go_meet
         refine ⟨?_, rfl⟩
         rw [HOR.out]
         simp [E0.out]
       have q0 : (((bt s k : Nat) : Int) == 42) = false := by simp only [beq_eq_false_iff_ne]; omega
       have E0 := hide (show (bt s k == 42) = false by simp [e0])
       by_cases e1 : bt s k = 63
       · have q1 : (((bt s k : Nat) : Int) == 63) = true := by simp only [beq_iff_eq]; omega
         have E1 := hide (show (bt s k == 63) = true by simp [e1])
         clear e0 e1
         go_wp2
         go_meet
         refine ⟨?_, rfl⟩
         rw [HOR.out]
         simp [E1.out]
       have q1 : (((bt s k : Nat) : Int) == 63) = false := by simp only [beq_eq_false_iff_ne]; omega
       have E1 := hide (show (bt s k == 63) = false by simp [e1])
       by_cases e2 : bt s k = 91
       · have q2 : (((bt s k : Nat) : Int) == 91) = true := by simp only [beq_iff_eq]; omega
         have E2 := hide (show (bt s k == 91) = true by simp [e2])
         clear e0 e1 e2
         go_wp2
         go_meet
         refine ⟨?_, rfl⟩
         rw [HOR.out]
         simp [E2.out]
       have q2 : (((bt s k : Nat) : Int) == 91) = false := by simp only [beq_eq_false_iff_ne]; omega
       have E2 := hide (show (bt s k == 91) = false by simp [e2])
       by_cases e3 : bt s k = 92
       · have q3 : (((bt s k : Nat) : Int) == 92) = true := by simp only [beq_iff_eq]; omega
         have E3 := hide (show (bt s k == 92) = true by simp [e3])
         clear e0 e1 e2 e3
         go_wp2
         go_meet
         refine ⟨?_, rfl⟩
         rw [HOR.out]
         simp [E3.out]
       have q3 : (((bt s k : Nat) : Int) == 92) = false := by simp only [beq_eq_false_iff_ne]; omega
       have E3 := hide (show (bt s k == 92) = false by simp [e3])
       clear e0 e1 e2 e3
       go_wp2
       go_meet
       refine ⟨?_, rfl⟩
       rw [HOR.out]
       simp [E0.out, E1.out, E2.out, E3.out]
     case rest =>
       obtain ⟨rfl, hw⟩ := hcut
       subst hw
       cases hsp : isSp (bt s k) with
       | true =>
         have HQ := hide (show qb (bt s) (k + 1) = (qb (bt s) k ++ [92]) ++ [bt s k] by rw [qb_succ, q1, if_pos hsp]; simp)
         clear hsp
         go_wp2_with (first | (at_builtin; refine wpList_appB wr ?_ (.tmp 27) (.tmp 28) ?_ w1.heap.size (.slice Ao (qb (bt s) k).length co) (qb (bt s) k) ?_ HO.out 92 ?_ ?_ ?_ ?_; exact rfl; exact rfl; exact rfl; exact rfl; (first | omega | (simp; omega)); exact HW.out.size; intro v1 x1 ho1 hg1 hat1; obtain ⟨A1, c1, rfl⟩ := own_sliceN (n := (qb (bt s) k).length + 1) ho1 (by simp); have HW1 := hide (HW.out.trans (below_gb hg1 (fun k hk => (HO.out.lt k hk).1) HW.out.size)); have HO1 := hide ho1; clear ho1 hg1 hat1) | (at_builtin; refine wpList_appB x1 ?_ (.tmp 30) (.tmp 32) ?_ w1.heap.size (.slice A1 ((qb (bt s) k).length + 1) c1) (qb (bt s) k ++ [92]) ?_ HO1.out (bt s k) ?_ ?_ ?_ ?_; exact rfl; exact rfl; exact rfl; exact rfl; (first | omega | (simp; omega)); exact HW1.out.size; intro v2 x2 ho2 hg2 hat2; obtain ⟨A2, c2, rfl⟩ := own_sliceN (n := (qb (bt s) k).length + 1 + 1) ho2 (by simp); have HW2 := hide (HW1.out.trans (below_gb hg2 (fun k hk => (HO1.out.lt k hk).1) HW1.out.size)); have HO2 := hide ho2; clear ho2 hg2 hat2))
         go_roundw
         case rel => exact ⟨k + 1, by go_num, by omega, by rw [HQ.out]; exact HO2.out, HW2.out⟩
         case measure => simp [intOf]; omega
       | false =>
         have HQ := hide (show qb (bt s) (k + 1) = qb (bt s) k ++ [bt s k] by rw [qb_succ, q1, if_neg (by simp [hsp])])
         clear hsp
         go_wp2_with (at_builtin; refine wpList_appB wr ?_ (.tmp 30) (.tmp 32) ?_ w1.heap.size (.slice Ao (qb (bt s) k).length co) (qb (bt s) k) ?_ HO.out (bt s k) ?_ ?_ ?_ ?_; exact rfl; exact rfl; exact rfl; exact rfl; (first | omega | (simp; omega)); exact HW.out.size; intro v2 x2 ho2 hg2 hat2; obtain ⟨A2, c2, rfl⟩ := own_sliceN (n := (qb (bt s) k).length + 1) ho2 (by simp); have HW2 := hide (HW.out.trans (below_gb hg2 (fun k hk => (HO.out.lt k hk).1) HW.out.size)); have HO2 := hide ho2; clear ho2 hg2 hat2)
         go_roundw
         case rel => exact ⟨k + 1, by go_num, by omega, by rw [HQ.out]; exact HO2.out, HW2.out⟩
         case measure => simp [intOf]; omega
   · obtain rfl : k = s.size := by omega
     have hcv := conv_own HO.out
     go_wp2
     go_ret
     exact ⟨rfl, below_up HB0.out HW.out HB0.out.size⟩
end
end Go.Proofs.YtmcophlmcloooaaGreatDoor
namespace Qm.Glob
def lt (l : List Nat) : Nat → Nat := fun j => l.getD j 0
end Qm.Glob
namespace Go.Proofs.YtmcophlmcloooaaGreatDoor
section
open Go.RowKit Go.Deep Qm.Glob
attribute [local go_sem] bt_eq strOfNums_size
def bytesOf (s : ByteArray) : List Nat := (List.range s.size).map (bt s)
end
section
open Go.RowKit Go.Deep Qm.Glob
theorem sr_new1 (w : World) (s : ByteArray) (t : TypeId) : SR (w.alloc (.cells #[.string s] t)) (some ⟨w.heap.size, 0, none⟩) [s] := fun k x hk => by
 cases k with
 | zero =>
   simp at hk
   subst hk
   exact ⟨_, _, rfl, by simp, by rw [World.cell?_alloc_at _ _ _ _ rfl]; rfl⟩
 | succ k => simp at hk
theorem paths_plain (gf : Nat) (cwd : ByteArray) (A : Option Addr) (c : Nat) (L : List Pt) (w : World) (hA : RG encPt 6 w A L) (hl : L.length ≤ 1000) (hz : ∀ p ∈ L, p.text.size ≤ 1000) (s : ByteArray) (hp : (bsF (patS L)).size ≤ 1000)
   (h1 : plAll (gItems (bt (bsF (patS L))) (bsF (patS L)).size) = true) (h2 : sb (plBytes (gItems (bt (bsF (patS L))) (bsF (patS L)).size)) = s) :
   Calls Tryz.prog 21 #[.pointer (some ⟨gf, 0, none⟩), .string cwd, .slice A L.length c] w fun e w' => (∃ g, e = .returned (.slice (some ⟨g, 0, none⟩) 1 1) ∧ SR w' (some ⟨g, 0, none⟩) [s]) ∧ Below w.heap.size w w' := by
 have hb0 : Below w.heap.size w (w.alloc (.cells #[.pointer (some ⟨gf, 0, none⟩)] 23)) := (Below.refl _ _).alloc (Nat.le_refl _) _
 have HPT := hide (pat_any A c L (w.alloc (.cells #[.pointer (some ⟨gf, 0, none⟩)] 23)) (hA.below hb0) hl hz)
 obtain ⟨p, hpp⟩ : ∃ p, bsF (patS L) = p := ⟨_, rfl⟩
 rw [hpp] at HPT hp h1 h2
 have HPL := hide (fun Z => gplain_any p Z hp)
 have HE := hide (show plVal (plAll (gItems (bt p) p.size)) (plBytes (gItems (bt p) p.size)) = .tuple #[.string s, .bool true] by unfold plVal; rw [h1, h2]; rfl)
 rw [HE.out] at HPL
 obtain ⟨n, hn⟩ : ∃ n, L.length = n := ⟨_, rfl⟩
 rw [hn] at HPT ⊢
 have HB0 := hide hb0
 clear hA hz hl hp h1 h2 hpp HE hn hb0
 go_enter Tryz.func21, Tryz.ntmps21
 go_wp2_with fail
 refine HPT.out.mono ?_
 rintro e w2 ⟨rfl, hb2⟩
 have HB2 := hide (HB0.out.trans (hb2.mono HB0.out.size))
 clear hb2
 go_wp2_with fail
 refine (HPL.out _).mono ?_
 rintro e w3 ⟨rfl, hb3⟩
 have HB3 := hide (HB2.out.trans (hb3.mono HB2.out.size))
 clear hb3
 go_wp2
 go_ret
 exact ⟨⟨w3.heap.size, rfl, sr_new1 _ _ _⟩, HB3.out.alloc HB3.out.size _⟩
end
section
open Go.RowKit Ln
theorem splitK_spl (c : UInt8) : ∀ (k : Nat) (s : T), s.count c = k → Lib.splitK [c] 0 k s = spl c s
 | 0, s, h => by
   rw [Lib.splitK, spl_none (by rw [← List.count_eq_zero]; exact h)]
 | k + 1, s, h => by
   have hm : c ∈ s := List.count_pos_iff.1 (by omega)
   obtain ⟨a, b, rfl, ha⟩ := List.eq_append_cons_of_mem hm
   have hi : Lib.indexByte (a ++ c :: b) c = (a.length : Int) := by
     clear h hm
     induction a with
     | nil => simp [Lib.indexByte]
     | cons x a ih =>
       have hx : x ≠ c := fun e => ha (by simp [e])
       have ih := ih (fun hc => ha (by simp [hc]))
       rw [List.cons_append, Lib.indexByte, if_neg (by simpa using hx), ih]
       have : ((a.length : Int) == -1) = false := by simp
       rw [this]
       simp
   have hne : ((a.length : Int) == -1) = false := by simp
   have hcnt : b.count c = k := by
     rw [List.count_append, List.count_cons_self, List.count_eq_zero.2 ha] at h
     omega
   rw [Lib.splitK, Lib.index_one, hi, hne]
   simp only [Bool.false_eq_true, if_false, Int.toNat_natCast, Nat.add_zero, List.length_cons, List.length_nil]
   rw [spl_app b ha, List.take_left, show (a ++ c :: b).drop (a.length + (0 + 1)) = b from by rw [← List.drop_drop]; simp, splitK_spl c k b hcnt]
theorem split_bs (c : UInt8) (l : T) : Lib.splitB ⟨#[c]⟩ 0 (Lib.countB (bs l) ⟨#[c]⟩) (bs l) = (spl c l).map bs := by
 have h := Lib.splitB_data ⟨#[c]⟩ 0 (Lib.countB (bs l) ⟨#[c]⟩) (bs l)
 rw [bs_list] at h
 have hc : Lib.countB (bs l) ⟨#[c]⟩ = l.count c := by
   show Lib.count (bs l).data.toList [c] = _
   rw [bs_list]
   exact Lib.count_one c l
 rw [hc] at h ⊢
 rw [show (⟨#[c]⟩ : ByteArray).data.toList = [c] from rfl, splitK_spl c _ l rfl] at h
 rw [← h, List.map_map]
 conv => lhs; rw [← List.map_id (Lib.splitB _ _ _ _)]
 apply List.map_congr_left
 intro x _
 exact (bs_of x).symm
def MX (w : World) : Prop := ∃ m, w.cell? ⟨0, 0, none⟩ = some (.int .i64 m)
theorem MX.below {w w' : World} (h : MX w) (hb : Below w.heap.size w w') : MX w' := by
 obtain ⟨m, hm⟩ := h
 exact ⟨m, (hb.cell (p := ⟨0, 0, none⟩) (World.block_lt_of_cell? w _ hm)).trans hm⟩
end
section
open Go.RowKit Go.Deep Ln
attribute [local go_sem] bt_eq
theorem count_spl (l : T) (c : UInt8) : Lib.countByte l c + 1 = (spl c l).length := by
 unfold Lib.countByte
 induction l with
 | nil => rfl
 | cons b l ih =>
   by_cases h : b = c
   · subst h
     rw [spl, if_pos rfl, List.count_cons_self, List.length_cons, ih]
   · rw [List.count_cons_of_ne (by simpa using h), ih]
     obtain ⟨x, t, h1, h2⟩ := spl_cons_ne h l
     rw [h1, h2]
     rfl
theorem ix_cut {a : T} {c : UInt8} (b : T) (h : c ∉ a) : Lib.indexByte (a ++ c :: b) c = (a.length : Int) := by
 induction a with
 | nil => rw [List.nil_append, Lib.indexByte, if_pos (by simp)]; rfl
 | cons x a ih =>
   have hx : x ≠ c := fun e => h (by simp [e])
   have := ih fun e => h (by simp [e])
   rw [List.cons_append, Lib.indexByte, if_neg (by simpa using hx), this, if_neg (by simp)]
   rfl
theorem spl_cut {r : T} {c : UInt8} (h : 2 ≤ (spl c r).length) : ∃ a b, r = a ++ c :: b ∧ Lib.indexByte r c = (a.length : Int) ∧ spl c r = a :: spl c b := by
 have hc : c ∈ r := by
   by_cases hc : c ∈ r
   · exact hc
   · rw [spl_none hc] at h
     simp at h
 obtain ⟨a, b, rfl, ha⟩ := List.eq_append_cons_of_mem hc
 exact ⟨a, b, rfl, ix_cut b ha, spl_app b ha⟩
theorem ext_pre (a b : T) (c : UInt8) : (bs (a ++ c :: b)).extract 0 a.length = bs a := by
 apply ByteArray.ext
 apply Array.toList_inj.1
 simp [bs]
theorem spl_single {r : T} {c : UInt8} (h : (spl c r).length = 1) : spl c r = [r] := by
 by_cases hc : c ∈ r
 · obtain ⟨a, b, rfl, ha⟩ := List.eq_append_cons_of_mem hc
   rw [spl_app b ha, List.length_cons] at h
   exact absurd (List.eq_nil_of_length_eq_zero (by omega)) (spl_ne c b)
 · exact spl_none hc
theorem ext_suf (a b : T) (c : UInt8) : (bs (a ++ c :: b)).extract (a.length + 1) (a.length + 1 + b.length) = bs b := by
 apply ByteArray.ext
 apply Array.toList_inj.1
 simp [bs]
theorem gensplit_any (l : T) (c : UInt8) (w : World) (hl : l.length ≤ 281474976710656) (hN : (spl c l).length ≤ 66000001) :
   Calls Tryz.prog 105 #[.string (bs l), .string ⟨#[c]⟩, .int .i64 0, .int .i64 (-1)] w fun e w' => e = .returned (.slice (some ⟨w.heap.size, 0, none⟩) (spl c l).length (spl c l).length) ∧ w.alloc (.cells (((spl c l).map bs).map Value.string).toArray 9) = w' := by
 have HC := hide (fun W => (Tryz.strings_Count_one (bs l) c W).mono fun e w' ⟨h1, h2⟩ => (⟨h1, h2.symm⟩ : _ ∧ W = w'))
 have HI := hide (fun (r : T) W => (Tryz.strings_Index_one (bs r) c W).mono fun e w' ⟨h1, h2⟩ => (⟨h1, h2.symm⟩ : _ ∧ W = w'))
 simp only [bs_list] at HC
 simp only [bs_list] at HI
 have hcs := count_spl l c
 obtain ⟨m, hm⟩ : ∃ m, Lib.countByte l c = m := ⟨_, rfl⟩
 rw [hm] at HC hcs
 rw [← hcs] at hN ⊢
 have hml : m ≤ l.length := by rw [← hm]; exact List.count_le_length
 have hz : (bs l).size = l.length := bs_size l
 have hse : (⟨#[c]⟩ : ByteArray).toList.isEmpty = false := by rw [ByteArray.toList_eq]; rfl
 have hs1 : (⟨#[c]⟩ : ByteArray).size = 1 := rfl
 have hmin : min ((m : Int) + 1) ((l.length : Int) + 1) = ((m + 1 : Nat) : Int) := by omega
 have hmk : ∀ W : World, (Instr.makeSlice 42 (.int .i64 ((m : Int) + 1)) (.int .i64 ((m : Int) + 1))).run Tryz.prog W = .ok (.slice (some ⟨W.heap.size, 0, none⟩) (m + 1) (m + 1)) (W.alloc (.cells (Lib.cellsOf [] (m + 1)) 9)) := fun W => by
   rw [Lib.cellsOf_nil]
   exact run_make_row' (P := Tryz.prog) 42 9 (.string ByteArray.empty) 16 Tryz.underlying42 (by kernel_rfl) rfl .i64 .i64 (m + 1) (by omega) (by omega) W
 have HCS := hide hcs
 have HL := hide hl
 clear hm hcs
 go_enter Tryz.func105, Tryz.ntmps105
 go_wp2_with fail
 refine (HC.out _).mono ?_
 rintro e w' ⟨rfl, rfl⟩
 go_wp2
 clear hmk hz hmin hml
 go_loopw [0, 10, 11] (fun v0 v10 _ wr => ∃ (done : List T) (r : T), v0 = .string (bs r) ∧ v10 = .int .i64 done.length ∧ Hid (done ++ spl c r = spl c l) ∧ Hid (r.length ≤ l.length) ∧ Hid (done.length ≤ m) ∧ wr = w.alloc (.cells (Lib.cellsOf (done.map bs) (m + 1)) 9)) (fun _ v10 _ _ => m - (intOf v10).toNat)
 case atStart => exact ⟨[], l, rfl, rfl, rfl, Nat.le_refl _, Nat.zero_le _, rfl⟩
 case round =>
   obtain ⟨done, r, rfl, rfl, HD, HR, HM, rfl⟩ := hrel
   obtain ⟨k, hk⟩ : ∃ k, done.length = k := ⟨_, rfl⟩
   have hkm : k ≤ m := hk ▸ HM.out
   have hlen := congrArg List.length HD.out
   rw [List.length_append, hk, ← HCS.out] at hlen
   have hmap : (done.map bs).length = k := by rw [List.length_map, hk]
   have hnext := Lib.cellsOf_next (done := done.map bs) (N := m + 1) (by omega)
   have hset := fun x => Lib.cellsOf_set (done := done.map bs) (N := m + 1) (by omega) x
   rw [hmap] at hnext hset
   rw [hk]
   have hcell : (w.alloc (.cells (Lib.cellsOf (done.map bs) (m + 1)) 9)).cell? ⟨w.heap.size, k, none⟩ = some (.string ByteArray.empty) := by
     rw [World.cell?_alloc_at _ _ _ _ rfl]
     exact hnext
   by_cases hlt : k < m
   · obtain ⟨a, b, rfl, hix, hsp⟩ := spl_cut (r := r) (c := c) (by omega)
     have HIX := hide (HI.out (a ++ c :: b))
     rw [hix] at HIX
     have hal : a.length ≤ l.length := by have := HR.out; simp at this; omega
     have hbl : b.length ≤ l.length := by have := HR.out; simp at this; omega
     have hz : (bs (a ++ c :: b)).size = a.length + 1 + b.length := by rw [bs_size]; simp; omega
     have hHR := HR.out
     have hz2 : a.length + 1 + b.length ≤ 281474976710656 := by have := HL.out; simp at hHR; omega
     have HP := hide (ext_pre a b c)
     have HSU := hide (ext_suf a b c)
     have HD2 := hide (show (done ++ [a]) ++ spl c b = spl c l by rw [← HD.out, hsp]; simp)
     have hb1 : (k : Int) < (m : Int) := by omega
     clear hsp hix hlen hHR
     go_wp2_with fail
     refine (HIX.out _).mono ?_
     rintro e w' ⟨rfl, rfl⟩
     go_wp2
     go_roundw
     case rel =>
       refine ⟨done ++ [a], b, by rw [HSU.out], by simp [hk], HD2, hide (by simp at HR; have := HR.out; omega), hide (by simp [hk]; omega), ?_⟩
       rw [HP.out, List.map_append]
       rfl
     case measure => simp [intOf]; omega
   · obtain rfl : k = m := by omega
     have hsp := spl_single (show (spl c r).length = 1 by omega)
     have HF := hide (show Lib.cellsOf (done.map bs ++ [bs r]) (k + 1) = (((spl c l).map bs).map Value.string).toArray by
       rw [← HD.out, hsp]
       have h1 : (done.map bs ++ [bs r]) = (done ++ [r]).map bs := by simp
       have h2 : ((done ++ [r]).map bs).length = k + 1 := by simp [hk]
       rw [h1, ← h2]
       exact Lib.cellsOf_full _)
     have hb1 : ¬ (k : Int) < (k : Int) := by omega
     clear hsp hlen
     go_wp2
     go_ret
     rw [HF.out]
     exact ⟨rfl, by simp⟩
theorem splitL_any (l : T) (c : UInt8) (w : World) (h : l.length ≤ 281474976710656) (hn : (spl c l).length ≤ 66000001) :
   Calls Tryz.prog 50 #[.string (bs l), .string ⟨#[c]⟩] w fun e w' => e = .returned (.slice (some ⟨w.heap.size, 0, none⟩) ((spl c l).map bs).length ((spl c l).map bs).length) ∧ w.alloc (.cells (((spl c l).map bs).map Value.string).toArray 9) = w' := by
 have HG := hide (gensplit_any l c w h hn)
 rw [List.length_map]
 clear h hn
 obtain ⟨n, hnn⟩ : ∃ n, (spl c l).length = n := ⟨_, rfl⟩
 rw [hnn] at HG ⊢
 go_enter Tryz.func50, Tryz.ntmps50
 go_wp2_with fail
 refine HG.out.mono ?_
 rintro e w' ⟨rfl, hw⟩
 have HW := hide hw
 clear hw
 go_wp2
 go_ret
 exact ⟨rfl, HW.out⟩
end
section
open Go.RowKit Go.Deep
def IdxPost (p : ByteArray → Bool) (L : List ByteArray) (w : World) (e : Ending) (w' : World) : Prop := ∃ i : Int, e = .returned (.int .i64 i) ∧ decide (0 ≤ i) = L.any p ∧ Below w.heap.size w w'
theorem idxf_any (p : ByteArray → Bool) (g : Nat) (lb : Array Value) (eg : ∀ args w, (callFunc g args).run Tryz.prog w = .ok (.enter g args) w) (A : Option Addr) (c : Nat) (L : List ByteArray) (w : World) (hl : L.length ≤ 100000000) (hA : SR w A L)
   (hf : ∀ (W : World) (x : ByteArray), x ∈ L → Below w.heap.size w W → Calls Tryz.prog g (#[.string x] ++ lb) W fun e w' => e = .returned (.bool (p x)) ∧ Below w.heap.size w w') :
   Calls Tryz.prog 104 #[.slice A L.length c, .func (.func g) #[] lb] w (IdxPost p L w) := by
 have HA := hide hA
 have HF := hide hf
 clear hA hf
 obtain ⟨n, hn⟩ : ∃ n, L.length = n := ⟨_, rfl⟩
 have HN := hide hn
 rw [hn] at hl ⊢
 clear hn
 have hn1 : (n : Int) ≤ 100000000 := by omega
 go_enter Tryz.func104, Tryz.ntmps104
 go_wp2
 go_loopw [5, 8] (fun _v5 v8 wr => ∃ k : Nat, v8 = .int .i64 k ∧ k ≤ n ∧ Hid ((L.take k).any p = false) ∧ Below w.heap.size w wr) (fun _ v8 _ => n - (intOf v8).toNat)
 case atStart => exact ⟨0, rfl, by omega, rfl, Below.refl _ _⟩
 case round =>
   obtain ⟨k, rfl, hk, HP, hb⟩ := hrel
   have HB := hide hb
   have HAR := hide (HA.out.below hb)
   clear hb
   by_cases hlt : k < n
   · obtain ⟨x, hx⟩ : ∃ x, L[k]? = some x := ⟨L[k]'(by have := HN.out; omega), gE _⟩
     obtain ⟨gs, o, rfl, hg, hc⟩ := HAR.out k x hx
     have hcall := HF.out wr x (List.mem_of_getElem? hx) HB.out
     have b1 : (k : Int) < (n : Int) := by omega
     have HX := hide hx
     clear hx
     obtain ⟨pb, hpb⟩ : ∃ b, p x = b := ⟨_, rfl⟩
     rw [hpb] at hcall
     have HPB := hide hpb
     clear hpb
     have HC := hide hcall
     clear hcall
     go_wp2_with fail
     refine HC.out.mono ?_
     rintro e w' ⟨rfl, hb'⟩
     have HB' := hide hb'
     clear hb'
     cases pb with
     | true =>
       go_wp2
       go_ret
       refine ⟨_, rfl, ?_, HB'.out⟩
       have : L.any p = true := List.any_eq_true.2 ⟨x, List.mem_of_getElem? HX.out, HPB.out⟩
       rw [this]
       simp
     | false =>
       go_wp2
       go_roundw
       case rel =>
         refine ⟨k + 1, by go_num, by omega, ?_, HB'.out⟩
         show (L.take (k + 1)).any p = false
         rw [List.take_add_one, List.any_append, HP.out, HX.out]
         simpa using HPB.out
       case measure => simp [intOf]; omega
   · obtain rfl : k = n := by omega
     have HE := hide (show L.any p = false by
       have := HP.out
       rwa [List.take_of_length_le (by have := HN.out; omega)] at this)
     go_wp2
     go_ret
     exact ⟨_, rfl, by rw [HE.out]; rfl, HB.out⟩
theorem contf_any (p : ByteArray → Bool) (g : Nat) (lb : Array Value) (eg : ∀ args w, (callFunc g args).run Tryz.prog w = .ok (.enter g args) w) (A : Option Addr) (c : Nat) (L : List ByteArray) (w : World) (hl : L.length ≤ 100000000) (hA : SR w A L)
   (hf : ∀ (W : World) (x : ByteArray), x ∈ L → Below w.heap.size w W → Calls Tryz.prog g (#[.string x] ++ lb) W fun e w' => e = .returned (.bool (p x)) ∧ Below w.heap.size w w') :
   Calls Tryz.prog 101 #[.slice A L.length c, .func (.func g) #[] lb] w fun e w' => e = .returned (.bool (L.any p)) ∧ Below w.heap.size w w' := by
 have HI := hide (idxf_any p g lb eg A c L w hl hA hf)
 clear hA hf
 obtain ⟨n, hn⟩ : ∃ n, L.length = n := ⟨_, rfl⟩
 rw [hn] at HI ⊢
 clear hn hl
 obtain ⟨b, hb⟩ : ∃ b, L.any p = b := ⟨_, rfl⟩
 unfold IdxPost at HI
 rw [hb] at HI ⊢
 clear hb
 go_enter Tryz.func101, Tryz.ntmps101
 go_wp2_with fail
 refine HI.out.mono ?_
 rintro e w' ⟨i, rfl, hi, hb'⟩
 have HI2 := hide hi
 have HB := hide hb'
 clear hi hb'
 go_wp2
 go_ret
 refine ⟨?_, HB.out⟩
 rw [← HI2.out]
 rfl
end
section
open Go.RowKit Go.Deep Ln Pth
attribute [local go_sem] bt_eq
theorem OwnS.take {w : World} {base : Nat} {A : Option Addr} {n c : Nat} {L : List ByteArray} (h : OwnS w base (.slice A n c) L) {k : Nat} (hk : k ≤ L.length) : OwnS w base (.slice A k c) (L.take k) := by
 obtain ⟨h1, h2⟩ := h
 have hl : (L.take k).length = k := by rw [List.length_take]; omega
 refine ⟨by unfold strVals; simp, ?_⟩
 rw [hl]
 rcases h2 with ⟨h3, h4⟩ | ⟨g, cap, cur, h3, h4, h5, h6, h7, h8, h9⟩
 · injection h3 with e1 e2 e3
   subst e1 e3
   obtain rfl : k = 0 := by omega
   exact .inl ⟨rfl, rfl⟩
 · injection h3 with e1 e2 e3
   subst e1 e3
   refine .inr ⟨g, c, cur, rfl, h4, h5, by omega, h7, h8, ?_⟩
   unfold strVals at h9 ⊢
   rw [List.map_take, ← h9, List.take_take]
   congr 1
   omega
theorem OwnS.base {w : World} {base base' : Nat} {v : Value} {L : List ByteArray} (h : OwnS w base v L) (hb : base' ≤ base) : OwnS w base' v L :=
 ⟨h.1, h.2.imp id fun ⟨g, cap, cur, e, hg, r⟩ => ⟨g, cap, cur, e, by omega, r⟩⟩
theorem SR.newL (w : World) (L : List ByteArray) (t : TypeId) : SR (w.alloc (.cells (L.map Value.string).toArray t)) (some ⟨w.heap.size, 0, none⟩) L := fun k x hk => by
 refine ⟨_, _, rfl, by simp, ?_⟩
 have h := heapNew w (.cells (L.map Value.string).toArray t)
 unfold World.cell?
 rw [h]
 simp [hk]
theorem OwnS.newL (w : World) (L : List ByteArray) {base : Nat} (hb : base ≤ w.heap.size) (hl : L.length ≤ 66000000) : OwnS (w.alloc (.cells (L.map Value.string).toArray 9)) base (.slice (some ⟨w.heap.size, 0, none⟩) L.length L.length) L := by
 refine ⟨by unfold strVals; simp, .inr ⟨_, _, _, rfl, hb, heapNew w _, Nat.le_refl _, by unfold maxLen; omega, by simp, ?_⟩⟩
 unfold strVals
 rw [Nat.mul_one, List.take_of_length_le (by simp)]
theorem split_cnt (l : T) (c : UInt8) : Lib.countB (bs l) ⟨#[c]⟩ + 1 = ((spl c l).map bs).length := by
 have := congrArg List.length (split_bs c l)
 rw [Lib.splitB_all _ (by simp [ByteArray.size]) 0 _ _ rfl] at this
 exact this
theorem split_any (l : T) (c : UInt8) (w : World) (hm : MX w) (h : l.length ≤ 66000000) :
   Calls Tryz.prog 50 #[.string (bs l), .string ⟨#[c]⟩] w fun e w' => e = .returned (.slice (some ⟨w.heap.size, 0, none⟩) ((spl c l).map bs).length ((spl c l).map bs).length) ∧ w.alloc (.cells (((spl c l).map bs).map Value.string).toArray 9) = w' := by
 obtain ⟨mx, hmx⟩ := hm
 have := Tryz.strings_Split (bs l) ⟨#[c]⟩ mx w (by rw [bs_size]; omega) hmx (by simp [ByteArray.size])
 rw [split_cnt, split_bs] at this
 exact this.mono fun e w' ⟨h1, h2⟩ => ⟨h1, h2.symm⟩
theorem pre_slash (p : T) : Lib.hasPrefix (bs p).data.toList [47] = decide (p.head? = some 47) := by
 rw [bs_list]
 unfold Lib.hasPrefix
 cases p with
 | nil => rfl
 | cons c p =>
   rw [Bool.eq_iff_iff]
   simp only [List.isPrefixOf, List.head?_cons, Option.some.injEq, decide_eq_true_eq, Bool.and_eq_true, beq_iff_eq, and_true]
   exact eq_comm
theorem foldl_take {k : Nat} {L : List T} {x : T} (h : L[k]? = some x) : (L.take (k + 1)).foldl stepP [] = stepP ((L.take k).foldl stepP []) x := by
 rw [List.take_add_one, h, List.foldl_append]; rfl
def PB (p : T) : Prop := p.length ≤ 140737488351300 ∧ (spl 47 p).length ≤ 6600001
theorem PB.of {p : T} (h : p.length ≤ 6600000) : PB p := ⟨by omega, by have := spl_len 47 p; omega⟩
theorem partsL_any (cwd p : T) (w : World) (hm : MX w) (h1 : cwd.length ≤ 6600000) (h2 : PB p) :
   Calls Tryz.prog 100 #[.string (bs cwd), .string (bs p)] w fun e w' => (∃ v, e = .returned v ∧ OwnS w' w.heap.size v ((partsF cwd p).map bs)) ∧ Below w.heap.size w w' := by
 obtain ⟨h2, h3⟩ := h2
 have HSP := hide (fun W (_ : MX W) => splitL_any p 47 W (by omega) (by omega))
 have HSC := hide (fun W h => split_any cwd 47 W h (by omega))
 have HPR := hide (fun W => (Tryz.strings_HasPrefix (bs p) ⟨#[47]⟩ W).mono fun e w' ⟨h1, h2⟩ => (⟨h1, h2.symm⟩ : _ ∧ W = w'))
 rw [show (⟨#[47]⟩ : ByteArray).data.toList = [47] from rfl, pre_slash] at HPR
 have hl1 := h3
 have hl2 := spl_len 47 cwd
 have HM := hide hm
 obtain ⟨R, hR⟩ : ∃ R, partsF cwd p = R := ⟨_, rfl⟩
 have HRR := hide hR
 unfold partsF at hR
 obtain ⟨LP, hLP⟩ : ∃ L, (spl 47 p).map bs = L := ⟨_, rfl⟩
 obtain ⟨LC, hLC⟩ : ∃ L, (spl 47 cwd).map bs = L := ⟨_, rfl⟩
 have hlp : LP.length ≤ 6600001 := by rw [← hLP, List.length_map]; omega
 have hlc : LC.length ≤ 6600001 := by rw [← hLC, List.length_map]; omega
 have HLP := hide hLP
 have HLC := hide hLC
 rw [hLP] at HSP
 rw [hLC] at HSC
 clear hm hl1 hl2 hLP hLC
 by_cases hh : p.head? = some 47
 all_goals first
   | (rw [decide_eq_true hh] at HPR
      rw [if_pos hh] at hR
      have HR := hide hR
      clear hR hh
      go_enter Tryz.func100, Tryz.ntmps100
      go_wp2_with fail
      refine (HSP.out w HM.out).mono ?_
      rintro e w1 ⟨rfl, rfl⟩
      go_wp2_with fail
      refine (HPR.out _).mono ?_
      rintro e w' ⟨rfl, rfl⟩
      have HA := hide (SR.newL w LP 9)
      have HB := hide ((Below.refl w.heap.size w).alloc (Nat.le_refl _) (.cells (LP.map Value.string).toArray 9))
      have HFULL := hide (show ∃ M : List T, M.map bs = LP ∧ M.foldl stepP [] = R from ⟨_, HLP.out, HR.out⟩)
      obtain ⟨n, hn⟩ : ∃ n, LP.length = n := ⟨_, rfl⟩
      have hn2 : n ≤ 19800000 := by omega
      have HN := hide hn
      rw [hn]
      go_wp2
      generalize (some ⟨w.heap.size, 0, none⟩ : Option Addr) = A at HA ⊢
      generalize w.alloc (.cells (LP.map Value.string).toArray 9) = W at HA HB ⊢
      generalize LP = LL at HA HFULL HN)
   | (rw [decide_eq_false hh] at HPR
      rw [if_neg hh] at hR
      have HR := hide hR
      clear hR hh
      go_enter Tryz.func100, Tryz.ntmps100
      go_wp2_with fail
      refine (HSP.out w HM.out).mono ?_
      rintro e w1 ⟨rfl, rfl⟩
      have HA0 := hide (SR.newL w LP 9)
      have hb0 := (Below.refl w.heap.size w).alloc (Nat.le_refl _) (.cells (LP.map Value.string).toArray 9)
      have HB0 := hide hb0
      have HM0 := hide (HM.out.below hb0)
      clear hb0
      go_wp2_with fail
      refine (HPR.out _).mono ?_
      rintro e w' ⟨rfl, rfl⟩
      generalize (some ⟨w.heap.size, 0, none⟩ : Option Addr) = A0 at HA0 ⊢
      generalize w.alloc (.cells (LP.map Value.string).toArray 9) = W0 at HA0 HB0 HM0 ⊢
      go_wp2_with fail
      refine (HSC.out W0 HM0.out).mono ?_
      rintro e w' ⟨rfl, rfl⟩
      have hb1 := (Below.refl W0.heap.size W0).alloc (Nat.le_refl _) (.cells (LC.map Value.string).toArray 9)
      obtain ⟨v, W, hrun, ho, hg, hv⟩ := run_appS (c := LP.length) (OwnS.newL W0 LC (Nat.le_refl _) (by omega)) (HA0.out.below hb1) (by simp) (by omega)
      obtain ⟨A, c, rfl, hlc2, hsr, _⟩ := OwnS.slice ho
      have HA := hide hsr
      have HB := hide (below_up HB0.out (hb1.trans ((Below.refl W0.heap.size _).grown hg (by simp) (fun q hq => by
        injection hq with hq; rw [← hq]; exact Nat.le_refl _))) HB0.out.size)
      have HFULL := hide (show ∃ M : List T, M.map bs = LC ++ LP ∧ M.foldl stepP [] = R from ⟨_, by rw [List.map_append, HLC.out, HLP.out], HR.out⟩)
      have hn2 : (LC ++ LP).length ≤ 19800000 := by rw [List.length_append]; omega
      generalize LC ++ LP = LL at HA HFULL hrun hn2 hlc2
      clear ho hg hv hsr hb1
      go_wp2_with (at_builtin; refine wpList_app_run ?_ (.tmp 15) (.tmp 16) ?_ ?_ ?_ ?_ hrun ?_; exact rfl; exact rfl; exact rfl; exact rfl; exact rfl)
      obtain ⟨n, hn⟩ : ∃ n, LL.length = n := ⟨_, rfl⟩
      rw [hn] at hn2 ⊢
      have HN := hide hn
      clear hrun hlc2 hn)
 all_goals
   clear HSP HSC HPR HM HLP HLC
   obtain ⟨M, hM, hfull⟩ := HFULL.out
   have HFL := hide hfull
   have HMM := hide hM
   clear hM hfull HFULL
   have hn3 : (n : Int) ≤ 19800000 := by omega
   have HML := hide (show M.length = n by have := HN.out; rw [← HMM.out, List.length_map] at this; exact this)
   go_loopw [6, 20] (fun v6 v20 wr => ∃ k : Nat, v20 = .int .i64 k ∧ k ≤ n ∧ OwnS wr W.heap.size v6 (((M.take k).foldl stepP []).map bs) ∧ Below W.heap.size W wr) (fun _ v20 _ => n - (intOf v20).toNat)
   case atStart => exact ⟨0, rfl, by omega, OwnS.nil _ _, Below.refl _ _⟩
   case round =>
     obtain ⟨k, rfl, hk, ho, hbw⟩ := hrel
     have HO := hide ho
     have HAR := hide (HA.out.below hbw)
     have HBW := hide hbw
     clear ho hbw
     by_cases hlt : k < n
     · obtain ⟨x, hx⟩ : ∃ x, M[k]? = some x := ⟨M[k]'(by have := HML.out; omega), gE _⟩
       obtain ⟨g, o, rfl, hg, hc⟩ := HAR.out k (bs x) (by rw [← HMM.out, List.getElem?_map, hx]; rfl)
       have HT := hide (foldl_take hx)
       have b1 : (k : Int) < (n : Int) := by omega
       have hql : ((M.take k).foldl stepP []).length ≤ 19800000 := by
         have := foldl_len (M.take k) []
         rw [List.length_take, List.length_nil] at this
         omega
       clear hx
       generalize (M.take k).foldl stepP [] = Q at HO HT hql
       by_cases e1 : x = []
       · subst e1
         have hem : (bs ([] : T)).toList.isEmpty = true := by rw [bs_toList]; rfl
         go_wp2
         go_roundw
         case rel => exact ⟨k + 1, by go_num, by omega, by rw [HT.out, stepP, if_pos (.inl rfl)]; exact HO.out, HBW.out⟩
         case measure => simp [intOf]; omega
       by_cases e2 : x = [46]
       · subst e2
         have hem : (bs ([46] : T)).toList.isEmpty = false := by rw [bs_toList]; rfl
         have h46 : ((bs ([46] : T)).toList == [46]) = true := by rw [bs_toList]; rfl
         go_wp2
         go_roundw
         case rel => exact ⟨k + 1, by go_num, by omega, by rw [HT.out, stepP, if_pos (.inr rfl)]; exact HO.out, HBW.out⟩
         case measure => simp [intOf]; omega
       have hem : (bs x).toList.isEmpty = false := by rw [bs_toList]; cases x; exact absurd rfl e1; rfl
       have h46 : ((bs x).toList == [46]) = false := by rw [bs_toList]; simpa using e2
       by_cases e3 : x = [46, 46]
       · subst e3
         have h4646 : ((bs ([46, 46] : T)).toList == [46, 46]) = true := by rw [bs_toList]; rfl
         obtain ⟨A2, c2, rfl, hc2, hs2, _⟩ := HO.out.slice
         rw [List.length_map] at hc2 HO ⊢
         have hdl : (Q.dropLast.map bs) = (Q.map bs).take (Q.length - 1) := by rw [List.dropLast_eq_take, List.map_take]
         have HO2 := hide (HO.out.take (k := Q.length - 1) (by simp))
         rw [← hdl] at HO2
         clear hs2 hdl
         obtain ⟨m, hm⟩ : ∃ m, Q.length = m := ⟨_, rfl⟩
         rw [hm] at hc2 HO HO2 hql ⊢
         clear hm HO
         cases m with
         | zero =>
           go_wp2
           go_roundw
           case rel => exact ⟨k + 1, by go_num, by omega, by rw [HT.out, stepP, if_neg (by simp), if_pos rfl]; exact HO2.out, HBW.out⟩
           case measure => simp [intOf]; omega
         | succ m =>
           have hm1 : (m : Int) ≤ 19800000 := by omega
           have hm2 : max (0 : Int) (m : Int) = m := by omega
           go_wp2
           go_roundw
           case rel => exact ⟨k + 1, by go_num, by omega, by rw [HT.out, stepP, if_neg (by simp), if_pos rfl]; exact HO2.out, HBW.out⟩
           case measure => simp [intOf]; omega
       · have h4646 : ((bs x).toList == [46, 46]) = false := by rw [bs_toList]; simpa using e3
         have hb0 : W.heap.size ≤ wr.heap.size := HBW.out.size
         obtain ⟨v4, w4, r4, o4, g4, b4⟩ := run_appS (c := 1) (OwnS.alloc HO.out (.cells #[.string (bs x)] 9)) (sr_new wr (bs x)) (by simp; omega) (by simp; omega)
         have HO4 := hide o4
         have HB4 := hide ((HBW.out.alloc hb0 (.cells #[.string (bs x)] 9)).trans ((Below.refl W.heap.size _).grown g4 (by simp; omega) (fun q hq => (World.ownsRow.lt HO.out q hq).1)))
         clear o4 g4 b4
         go_wp2_with (at_builtin; refine wpList_app_run ?_ (.tmp 25) (.tmp 27) ?_ ?_ ?_ ?_ r4 ?_; exact rfl; exact rfl; exact rfl; exact rfl; exact rfl)
         go_roundw
         case rel => exact ⟨k + 1, by go_num, by omega, by rw [HT.out, stepP, if_neg (by simp [e1, e2]), if_neg e3, List.map_append]; exact HO4.out, HB4.out⟩
         case measure => simp [intOf]; omega
     · obtain rfl : k = n := by omega
       have HF := hide (show (M.take k).foldl stepP [] = R by rw [List.take_of_length_le (by have := HML.out; omega)]; exact HFL.out)
       rw [HF.out] at HO
       go_wp2
       go_ret
       refine ⟨⟨_, rfl, ?_⟩, below_up HB.out HBW.out HB.out.size⟩
       rw [HRR.out]
       exact HO.out.base HB.out.size
theorem parts_any (cwd p : T) (w : World) (hm : MX w) (h1 : cwd.length ≤ 6600000) (h2 : p.length ≤ 6600000) :
   Calls Tryz.prog 100 #[.string (bs cwd), .string (bs p)] w fun e w' => (∃ v, e = .returned v ∧ OwnS w' w.heap.size v ((partsF cwd p).map bs)) ∧ Below w.heap.size w w' := partsL_any cwd p w hm h1 (.of h2)
end
section
open Go.RowKit Go.Deep Ln Pth
attribute [local go_sem] bt_eq
theorem join_slashed : ∀ l : List T, 47 :: Lib.join l [47] = joinF l
 | [] => rfl
 | s :: l => by
   rw [joinF, if_neg (by simp)]
   induction l generalizing s with
   | nil => rw [Lib.join_one]; simp [slashed]
   | cons t l ih =>
     have := ih t
     rw [slashed_cons' , ← this]
     simp [Lib.join, List.intercalate]
where
 slashed_cons' {s : T} {r : List T} : slashed (s :: r) = 47 :: (s ++ slashed r) := by simp [slashed]
theorem pjoin_any (A : Option Addr) (c : Nat) (l : List T) (w : World) (hA : SR w A (l.map bs)) (hc : l.length ≤ c) (hn : l.length ≤ 66000000) (hl : (joinF l).length ≤ 140737488355328) :
   Calls Tryz.prog 103 #[.slice A l.length c] w fun e w' => e = .returned (.string (bs (joinF l))) ∧ Below w.heap.size w w' := by
 have hjl : (Lib.join l [47]).length ≤ 140737488355328 := by
   have := join_slashed l
   have h2 := congrArg List.length this
   simp only [List.length_cons] at h2
   omega
 have HJ : Hid (Calls Tryz.prog 164 #[.slice A l.length c, .string ⟨#[47]⟩] w fun e w' => e = .returned (.string (bs (Lib.join l [47]))) ∧ Below w.heap.size w w') := by
   cases l with
   | nil => exact hide ((Tryz.strings_Join_none A c ⟨#[47]⟩ w).mono fun e w' ⟨h1, h2⟩ => ⟨h1, h2 ▸ Below.refl _ _⟩)
   | cons s l =>
     obtain ⟨g, o, rfl, hg, _⟩ := hA 0 (bs s) rfl
     have hm : ((s :: l).map bs).map (·.data.toList) = s :: l := by
       rw [List.map_map]
       conv => rhs; rw [← List.map_id (s :: l)]
       apply List.map_congr_left
       intro x _
       exact bs_list x
     have := Tryz.strings_Join g o c ((s :: l).map bs) ⟨#[47]⟩ w (fun j x hj => by
       obtain ⟨g', o', e, _, hc'⟩ := hA j x hj
       injection e with e
       injection e with e1 e2
       subst e1 e2
       exact hc') hg (by rw [List.length_map]; omega) (by rw [List.length_map]; exact hc) (by rw [hm]; show (Lib.join (s :: l) [47]).length ≤ _; omega)
     rw [hm, List.length_map] at this
     exact hide this
 have HE := hide (show (⟨#[47]⟩ : ByteArray) ++ bs (Lib.join l [47]) = bs (joinF l) by rw [← join_slashed l]; exact bs_app [47] _)
 have z1 : (bs (Lib.join l [47])).size ≤ 140737488355328 := by rw [bs_size]; exact hjl
 generalize bs (Lib.join l [47]) = s1 at HJ HE z1
 generalize bs (joinF l) = s2 at HE ⊢
 obtain ⟨n, hn⟩ : ∃ n, l.length = n := ⟨_, rfl⟩
 rw [hn] at HJ ⊢
 clear hA hc hl hjl hn
 go_enter Tryz.func103, Tryz.ntmps103
 go_wp2_with fail
 refine HJ.out.mono ?_
 rintro e w' ⟨rfl, hb⟩
 have HB := hide hb
 clear hb
 go_wp2
 go_ret
 refine ⟨?_, HB.out⟩
 rw [← HE.out]
 rfl
theorem has0_any (l : T) (w : World) : Calls Tryz.prog 96 #[.string (bs l), .string ⟨#[0]⟩] w fun e w' => e = .returned (.bool (decide (0 ∈ l))) ∧ w = w' := by
 have := Tryz.strings_Contains_one (bs l) 0 w
 rw [bs_list, show decide (0 ≤ Lib.indexByte l 0) = decide ((0 : UInt8) ∈ l) from decide_eq_decide.2 (ixb_mem 0 l)] at this
 exact this.mono fun e w' ⟨h1, h2⟩ => ⟨h1, h2.symm⟩
theorem abs1_any (s : ByteArray) (w : World) (h : s.size ≤ 9223372036854775807) : Calls Tryz.prog 102 #[.string s] w fun e w' => e = .returned (.bool (decide (60 < s.size))) ∧ w = w' := by
 have h1 : (s.size : Int) ≤ 9223372036854775807 := by omega
 by_cases hs : 60 < s.size
 · have h2 : (60 : Int) < (s.size : Int) := by omega
   rw [decide_eq_true hs]
   clear hs
   go_enter Tryz.func102, Tryz.ntmps102
   go_wp2
   go_ret
   exact ⟨rfl, rfl⟩
 · have h2 : decide (60 < (s.size : Int)) = false := by simp; omega
   rw [decide_eq_false hs]
   clear hs
   go_enter Tryz.func102, Tryz.ntmps102
   go_wp2
   go_ret
   exact ⟨rfl, rfl⟩
def AbsPost (a : T × Nat) (w : World) (e : Ending) (w' : World) : Prop := e = .returned (.tuple #[.string (bs a.1), .int .i64 a.2]) ∧ Below w.heap.size w w'
theorem partsF_cnt (cwd p : T) : (partsF cwd p).length ≤ (spl 47 cwd).length + (spl 47 p).length := by
 unfold partsF
 refine Nat.le_trans (foldl_len _ _) ?_
 split
 · simp
 · simp
theorem absL_any (cwd p : T) (w : World) (hm : MX w) (h1 : cwd.length ≤ 6600000) (h2 : PB p) (h4 : cwd.length + p.length ≤ 140737488355300) :
   Calls Tryz.prog 48 #[.string (bs cwd), .string (bs p)] w (AbsPost (absF cwd p) w) := by
 have HC0 := hide (fun W => has0_any cwd W)
 have HP0 := hide (fun W => has0_any p W)
 have HPA := hide (fun W h => partsL_any cwd p W h h1 h2)
 have HM := hide hm
 clear hm
 by_cases c1 : p = []
 · subst c1
   have hem : (bs ([] : T)).toList.isEmpty = true := by rw [bs_toList]; rfl
   have HR := hide (show absF cwd [] = ([], 1) from if_pos (.inl rfl))
   go_enter Tryz.func48, Tryz.ntmps48
   go_wp2
   go_ret2
   unfold AbsPost
   rw [HR.out]
   exact ⟨rfl, Below.refl _ _⟩
 have hem : (bs p).toList.isEmpty = false := by rw [bs_toList]; cases p; exact absurd rfl c1; rfl
 by_cases c2 : 0 ∈ cwd
 · rw [decide_eq_true c2] at HC0
   have HR := hide (show absF cwd p = ([], 1) from if_pos (.inr (.inl c2)))
   clear c2
   go_enter Tryz.func48, Tryz.ntmps48
   go_wp2_with fail
   refine (HC0.out _).mono ?_
   rintro e w' ⟨rfl, rfl⟩
   go_wp2
   go_ret2
   unfold AbsPost
   rw [HR.out]
   exact ⟨rfl, Below.refl _ _⟩
 rw [decide_eq_false c2] at HC0
 by_cases c3 : 0 ∈ p
 · rw [decide_eq_true c3] at HP0
   have HR := hide (show absF cwd p = ([], 1) from if_pos (.inr (.inr c3)))
   clear c3 c2
   go_enter Tryz.func48, Tryz.ntmps48
   go_wp2_with fail
   refine (HC0.out _).mono ?_
   rintro e w' ⟨rfl, rfl⟩
   go_wp2_with fail
   refine (HP0.out _).mono ?_
   rintro e w' ⟨rfl, rfl⟩
   go_wp2
   go_ret2
   unfold AbsPost
   rw [HR.out]
   exact ⟨rfl, Below.refl _ _⟩
 rw [decide_eq_false c3] at HP0
 have hR : absF cwd p = if longF (partsF cwd p) = false ∧ (partsF cwd p).length ≤ 20 ∧ (joinF (partsF cwd p)).length ≤ 200 then (joinF (partsF cwd p), 0) else ([], 3) := by
   unfold absF
   rw [if_neg (by rintro (h | h | h); exact c1 h; exact c2 h; exact c3 h)]
 have hpl := partsF_cnt cwd p
 have hsc := spl_len 47 cwd
 have hjl := joinF_len cwd p
 obtain ⟨hz2, hz3⟩ := h2
 obtain ⟨L, hL⟩ : ∃ L, partsF cwd p = L := ⟨_, rfl⟩
 rw [hL] at hR HPA hpl hjl
 have HR := hide hR
 clear c1 c2 c3 hL hR
 go_enter Tryz.func48, Tryz.ntmps48
 go_wp2_with fail
 refine (HC0.out _).mono ?_
 rintro e w' ⟨rfl, rfl⟩
 go_wp2_with fail
 refine (HP0.out _).mono ?_
 rintro e w' ⟨rfl, rfl⟩
 go_wp2_with fail
 refine (HPA.out w HM.out).mono ?_
 rintro e w1 ⟨⟨v, rfl, ho⟩, hb1⟩
 obtain ⟨A, c, rfl, hc, hsr, _⟩ := OwnS.slice ho
 have HA := hide hsr
 have HB1 := hide hb1
 rw [List.length_map] at hc ⊢
 have hln : L.any (fun s => decide (60 < s.length)) = longF L := rfl
 have HCF := hide (contf_any (fun s => decide (60 < s.size)) 102 #[] (fun _ _ => by kernel_rfl) A c (L.map bs) w1 (by rw [List.length_map]; omega) HA.out (fun W x hx hb => by
   obtain ⟨y, hy, rfl⟩ := List.mem_map.1 hx
   refine (abs1_any (bs y) W (by rw [bs_size]; have := hjl.2 y hy; omega)).mono ?_
   rintro e w' ⟨h1, rfl⟩
   exact ⟨h1, hb⟩))
 have hany : (L.map bs).any (fun s => decide (60 < s.size)) = longF L := by
   unfold longF
   rw [List.any_map]
   congr 1
 rw [hany, List.length_map] at HCF
 clear hany hln ho hb1 hsr
 have HPJ := hide (fun W (h : Below w1.heap.size w1 W) => pjoin_any A c L W (HA.out.below h) hc (by omega) (by omega))
 obtain ⟨n, hn⟩ : ∃ n, L.length = n := ⟨_, rfl⟩
 have zj : (bs (joinF L)).size = (joinF L).length := bs_size _
 obtain ⟨J, hJ⟩ : ∃ J, joinF L = J := ⟨_, rfl⟩
 obtain ⟨lg, hlg⟩ : ∃ b, longF L = b := ⟨_, rfl⟩
 obtain ⟨sj, hsj⟩ : ∃ s, bs J = s := ⟨_, rfl⟩
 obtain ⟨jn, hjn⟩ : ∃ s, J.length = s := ⟨_, rfl⟩
 rw [hJ, hjn, hsj] at zj
 rw [hJ, hjn] at hjl
 rw [hn] at HPJ HCF hpl ⊢
 rw [hJ, hsj] at HPJ
 rw [hlg] at HCF
 have hR := HR.out
 rw [hJ, hn, hlg, hjn] at hR
 have HRR := hide hR
 have HSJ := hide hsj
 have hjl1 := hjl.1
 clear hR HR hJ hlg hsj hjn hn hjl hc
 have hn1 : (n : Int) ≤ 19800000 := by omega
 go_wp2_with fail
 refine HCF.out.mono ?_
 rintro e w2 ⟨rfl, hb2⟩
 have HB2 := hide (below_up HB1.out hb2 HB1.out.size)
 have HBJ := hide hb2
 clear hb2
 go_wp2_with fail
 refine (HPJ.out w2 HBJ.out).mono ?_
 rintro e w3 ⟨rfl, hb3⟩
 have HB3 := hide (below_up HB2.out hb3 HB2.out.size)
 clear hb3
 cases lg with
 | true =>
   have HE := hide (show absF cwd p = ([], 3) by rw [HRR.out, if_neg (by simp)])
   go_wp2
   go_ret2
   unfold AbsPost
   rw [HE.out]
   exact ⟨rfl, HB3.out⟩
 | false =>
   by_cases d1 : n ≤ 20
   · by_cases d2 : jn ≤ 200
     · have HE := hide (show absF cwd p = (J, 0) by rw [HRR.out, if_pos ⟨rfl, d1, d2⟩])
       have e1 : (n : Int) ≤ 20 := by omega
       have e2 : (jn : Int) ≤ 200 := by omega
       go_wp2
       go_ret2
       unfold AbsPost
       rw [HE.out, HSJ.out]
       exact ⟨rfl, HB3.out⟩
     · have HE := hide (show absF cwd p = ([], 3) by rw [HRR.out, if_neg (by rintro ⟨_, _, h⟩; exact d2 h)])
       have e1 : (n : Int) ≤ 20 := by omega
       have e2 : decide ((jn : Int) ≤ 200) = false := by simp; omega
       go_wp2
       go_ret2
       unfold AbsPost
       rw [HE.out]
       exact ⟨rfl, HB3.out⟩
   · have HE := hide (show absF cwd p = ([], 3) by rw [HRR.out, if_neg (by rintro ⟨_, h, _⟩; exact d1 h)])
     have e1 : decide ((n : Int) ≤ 20) = false := by simp; omega
     go_wp2
     go_ret2
     unfold AbsPost
     rw [HE.out]
     exact ⟨rfl, HB3.out⟩
theorem abs_any (cwd p : T) (w : World) (hm : MX w) (h1 : cwd.length ≤ 6600000) (h2 : p.length ≤ 6600000) :
   Calls Tryz.prog 48 #[.string (bs cwd), .string (bs p)] w (AbsPost (absF cwd p) w) := absL_any cwd p w hm h1 (.of h2) (by omega)
end
section
open Go.RowKit Go.Deep Ln Pth
attribute [local go_sem] bt_eq
theorem map_bsI {a b : List T} : a.map bs = b.map bs ↔ a = b := by
 constructor
 · intro h
   have := congrArg (List.map (fun s : ByteArray => s.data.toList)) h
   simpa [List.map_map, Function.comp_def, bs_list] using this
 · rintro rfl; rfl
theorem seq_any (A B : Option Addr) (c d : Nat) (xs ys : List ByteArray) (w : World) (h1 : SR w A xs) (h2 : SR w B ys) (hx : xs.length ≤ 1000000) (hy : ys.length ≤ 1000000) :
   Calls Tryz.prog 232 #[.slice A xs.length c, .slice B ys.length d] w fun e w' => e = .returned (.bool (decide (xs = ys))) ∧ Below w.heap.size w w' := by
 by_cases hl : xs.length = ys.length
 case neg =>
   refine (Tryz.slices_Equal_string_lens A B xs.length c ys.length d w hl).mono ?_
   rintro e w' ⟨rfl, rfl⟩
   rw [decide_eq_false (fun e => hl (by rw [e]))]
   exact ⟨rfl, Below.refl _ _⟩
 by_cases h0 : xs = []
 · subst h0
   have : ys = [] := List.eq_nil_of_length_eq_zero (by rw [← hl]; rfl)
   subst this
   refine (Tryz.slices_Equal_string_empty A B c 0 d w (by omega)).mono ?_
   rintro e w' ⟨rfl, rfl⟩
   exact ⟨rfl, Below.refl _ _⟩
 · have h0y : ys ≠ [] := fun e => h0 (List.eq_nil_of_length_eq_zero (by rw [hl, e]; rfl))
   obtain ⟨g1, o1, rfl, _, _⟩ := h1 0 _ (List.getElem?_eq_getElem (List.length_pos_iff.2 h0))
   obtain ⟨g2, o2, rfl, _, _⟩ := h2 0 _ (List.getElem?_eq_getElem (List.length_pos_iff.2 h0y))
   refine (Tryz.slices_Equal_string g1 o1 xs.length c g2 o2 ys.length d xs ys w (Nat.le_refl _) (Nat.le_refl _) (by omega) (by omega) (fun j hj => ?_) (fun j hj => ?_)).mono ?_
   · obtain ⟨g, o, e, _, h⟩ := h1 j _ (List.getElem?_eq_getElem hj)
     injection e with e
     injection e with e1 e2
     subst e1 e2
     rw [h, List.getD_eq_getElem?_getD, List.getElem?_eq_getElem hj]
     rfl
   · obtain ⟨g, o, e, _, h⟩ := h2 j _ (List.getElem?_eq_getElem hj)
     injection e with e
     injection e with e1 e2
     subst e1 e2
     rw [h, List.getD_eq_getElem?_getD, List.getElem?_eq_getElem hj]
     rfl
   · rintro e w' ⟨rfl, q, rfl⟩
     rw [List.take_length, List.take_length]
     exact ⟨rfl, below_drewN (Below.refl _ _) q⟩
theorem within_any (p q : T) (w : World) (hm : MX w) (h1 : p.length ≤ 90000) (h2 : q.length ≤ 90000) :
   Calls Tryz.prog 173 #[.string (bs p), .string (bs q)] w fun e w' => e = .returned (.bool (withinF p q)) ∧ Below w.heap.size w w' := by
 have HPA := hide (parts_any [47] p w hm (by simp) (by omega))
 have HQA := hide (fun W (hb : Below w.heap.size w W) => parts_any [47] q W (hm.below hb) (by simp) (by omega))
 rw [show bs [47] = ⟨#[47]⟩ from rfl] at HPA HQA
 have hpl := partsF_len [47] p
 have hql := partsF_len [47] q
 have hD : withinF p q = decide ((partsF [47] q).take (partsF [47] p).length = partsF [47] p) := rfl
 obtain ⟨L, hL⟩ : ∃ L, partsF [47] p = L := ⟨_, rfl⟩
 obtain ⟨M, hM⟩ : ∃ L, partsF [47] q = L := ⟨_, rfl⟩
 rw [hL] at HPA hpl hD
 rw [hM] at HQA hql hD
 have HD := hide hD
 clear hL hM hD
 go_enter Tryz.func173, Tryz.ntmps173
 go_wp2_with fail
 refine HPA.out.mono ?_
 rintro e w1 ⟨⟨v, rfl, ho⟩, hb1⟩
 obtain ⟨A, c, rfl, hc, hsr, _⟩ := OwnS.slice ho
 have HA := hide hsr
 have HB1 := hide hb1
 clear ho hb1 hsr
 go_wp2_with fail
 refine (HQA.out w1 HB1.out).mono ?_
 rintro e w2 ⟨⟨v, rfl, ho⟩, hb2⟩
 obtain ⟨B, d, rfl, hd, hsr, _⟩ := OwnS.slice ho
 have HA2 := hide (HA.out.below hb2)
 have HB2 := hide (below_up HB1.out hb2 HB1.out.size)
 have HM2 := hide hsr
 clear ho hb2 hsr
 rw [List.length_map] at hc hd ⊢
 (try rw [List.length_map])
 have hpl2 : L.length ≤ 100000 := by simp at hpl; omega
 have hql2 : M.length ≤ 100000 := by simp at hql; omega
 obtain ⟨n, hn⟩ : ∃ n, L.length = n := ⟨_, rfl⟩
 obtain ⟨m, hmm⟩ : ∃ n, M.length = n := ⟨_, rfl⟩
 have HN := hide hn
 have HMM := hide hmm
 rw [hn] at hc hpl2 ⊢
 rw [hmm] at hd hql2 ⊢
 clear hn hmm hpl hql
 by_cases h0 : n ≤ m
 · have d0 : decide ((n : Int) ≤ (m : Int)) = true := by simp; omega
   have d0' : decide (n ≤ m) = true := by simp; omega
   have hni : (n : Int) ≤ (d : Int) := by omega
   have hni2 : (n : Int) ≤ 100000 := by omega
   have hnn : (0 : Int) ≤ (n : Int) := by omega
   have hwr2 : IntKind.i64.wrap (n : Int) = (n : Int) := IntWalk.i64_in _ (by omega)
   have hsm := seq_any A B c d (L.map bs) ((M.take n).map bs) w2 HA2.out (by rw [List.map_take]; exact HM2.out.take n) (by rw [List.length_map, HN.out]; omega) (by rw [List.length_map, List.length_take]; omega)
   rw [show ((M.take n).map bs).length = n by rw [List.length_map, List.length_take, HMM.out]; omega, show (L.map bs).length = n by rw [List.length_map, HN.out], show decide (L.map bs = (M.take n).map bs) = withinF p q by
     rw [HD.out, HN.out]
     exact decide_eq_decide.2 (map_bsI.trans eq_comm)] at hsm
   have HSM := hide hsm
   clear hsm h0
   go_wp2_with fail
   refine HSM.out.mono ?_
   rintro e w3 ⟨rfl, hb3⟩
   have HB3 := hide (below_up HB2.out hb3 HB2.out.size)
   clear hb3
   go_wp2
   go_ret
   exact ⟨rfl, HB3.out⟩
 · have d0 : decide ((n : Int) ≤ (m : Int)) = false := by simp; omega
   have d0' : decide (n ≤ m) = false := by simp; omega
   have HE := hide (show withinF p q = false by
     rw [HD.out, decide_eq_false]
     intro h
     have := congrArg List.length h
     rw [List.length_take, HN.out, HMM.out] at this
     omega)
   clear h0
   go_wp2
   go_ret
   rw [HE.out]
   exact ⟨rfl, HB2.out⟩
end
section
open Go.RowKit
theorem conv_SB (w : World) (l : List UInt8) (hl : l.length ≤ 1000000) : ∃ c w', (convert 9 29 (.string (bs l))).run Tryz.prog w = .ok (.slice (some ⟨w.heap.size, 0, none⟩) l.length c) w' ∧ RG encB 1 w' (some ⟨w.heap.size, 0, none⟩) l ∧ Below w.heap.size w w' ∧ l.length ≤ c ∧ c ≤ 9223372036854775807 ∧ w.heap.size < w'.heap.size := by
 have h := run_bytes_of_string (P := Tryz.prog) w 9 29 5 (bs l) Tryz.underlying9 Tryz.underlying29 Tryz.underlying5
 have h1 := grownCap_ge w (bs l).size 0 5
 have h2 := grownCap_le_maxLen w (bs l).size 0 5 (by rw [bs_size]; unfold maxLen; omega)
 rw [bs_size] at h h1 h2
 generalize grownCap w l.length 0 5 = C at h h1 h2
 refine ⟨C, _, h, ?_, ?_, h1, by unfold maxLen at h2; omega, by simp⟩
 · intro k x hk
   have hkl := (List.getElem?_eq_some_iff.1 hk).1
   refine ⟨_, _, rfl, by simp, fun j u hj => ?_⟩
   cases j with
   | succ j => simp [encB] at hj
   | zero =>
     have hu : u = .int .u8 x.toNat := by simpa [encB] using hj.symm
     have hx : (bs l).data[k]'(by simpa [bs] using hkl) = x := by
       have := (List.getElem?_eq_some_iff.1 hk).2
       simpa [bs] using this
     have hb := bytesRow_at (bs l) C k (by simpa [bs] using hkl)
     rw [hx] at hb
     rw [hu]
     have hp := heapNewO w.drew (.cells (bytesRow (bs l) C) 5 ((bytesRow (bs l) C).size, (bytesRow (bs l) C).size + 1))
     unfold World.cell?
     rw [show (w.drew).heap.size = w.heap.size from rfl] at hp
     simp only [hp, Nat.zero_add, Nat.mul_one, Nat.add_zero]
     exact hb
 · exact (Below.refl _ _).drew.alloc (Nat.le_refl _) _
where
 heapNewO (w : World) (o : Obj) : (w.alloc o).heap[w.heap.size]? = some o := by
   show (w.heap.push o)[w.heap.size]? = some o
   simp
end
section
open Go.RowKit Go.Deep Go.Maps Ln Pth Vf
attribute [local go_sem] bt_eq
theorem kind_any (g : Nat) (S : St) (q : T) (w : World) (h : Hs (VS g S) w) (hq : q.length ≤ 100000) :
   Calls Tryz.prog 30 #[.pointer (some ⟨g, 0, none⟩), .string (bs q)] w fun e w' => e = .returned (.int .i64 (kindM S.m q)) ∧ Below w.heap.size w w' := by
 obtain ⟨b, P, hgb, hg, hm, hS, _⟩ := VS.opn h
 have hl := nlook hm (s := bs q) (by rw [bs_size]; omega)
 have hc0 := cellOf hg (j := 0) rfl
 have hk : kindM S.m q = if q = [47] then 2 else match getG P (bs q) with
     | none => 0
     | some e => if e.nd.dir = true then 2 else 1 := by
   unfold kindM
   rw [hS, strip_get]
   cases getG P (bs q) <;> rfl
 clear h hg hm hS
 by_cases h1 : q = [47]
 · have ht : ((bs q).toList == [47]) = true := by rw [bs_toList, h1]; rfl
   rw [if_pos h1] at hk
   have HK := hide hk
   clear hk h1
   cases hgp : getG P (bs q) with
   | none =>
     rw [hgp] at hl
     unfold valN zN at hl
     clear hgp
     simp only [Option.isSome_none] at hl
     go_enter Tryz.func30, Tryz.ntmps30
     go_wp2
     go_ret
     refine ⟨?_, (Below.refl _ _).alloc (Nat.le_refl _) _⟩
     rw [HK.out]; rfl
   | some e =>
     rw [hgp] at hl
     unfold valN encN at hl
     clear hgp
     simp only [Option.isSome_some] at hl
     go_enter Tryz.func30, Tryz.ntmps30
     go_wp2
     go_ret
     refine ⟨?_, (Below.refl _ _).alloc (Nat.le_refl _) _⟩
     rw [HK.out]; rfl
 · have ht : ((bs q).toList == [47]) = false := by rw [bs_toList]; simpa using h1
   rw [if_neg h1] at hk
   clear h1
   cases hgp : getG P (bs q) with
   | none =>
     rw [hgp] at hl hk
     unfold valN zN at hl
     have HK := hide hk
     clear hgp hk
     simp only [Option.isSome_none] at hl
     go_enter Tryz.func30, Tryz.ntmps30
     go_wp2
     go_ret
     refine ⟨?_, (Below.refl _ _).alloc (Nat.le_refl _) _⟩
     rw [HK.out]; rfl
   | some e =>
     rw [hgp] at hl hk
     unfold valN encN at hl
     clear hgp
     simp only [Option.isSome_some] at hl hk
     obtain ⟨db, hdb⟩ : ∃ d, e.nd.dir = d := ⟨_, rfl⟩
     rw [hdb] at hl hk
     have HK := hide hk
     clear hk hdb
     cases db with
     | true =>
       go_enter Tryz.func30, Tryz.ntmps30
       go_wp2
       go_ret
       refine ⟨?_, (Below.refl _ _).alloc (Nat.le_refl _) _⟩
       rw [HK.out]; rfl
     | false =>
       go_enter Tryz.func30, Tryz.ntmps30
       go_wp2
       go_ret
       refine ⟨?_, (Below.refl _ _).alloc (Nat.le_refl _) _⟩
       rw [HK.out]; rfl
theorem way_any (g : Nat) (S : St) (q : T) (w : World) (h : Hs (VS g S) w) (hq : q.length ≤ 100000) :
   Calls Tryz.prog 76 #[.pointer (some ⟨g, 0, none⟩), .string (bs q)] w fun e w' => e = .returned (.int .i64 (wayM S.m q)) ∧ Below w.heap.size w w' := by
 have H := hide h
 clear h
 have HK := hide (fun k W (hb : Below w.heap.size w W) => kind_any g S (q.take k) W (H.out.below (VS.fr g S) hb) (by rw [List.length_take]; omega))
 obtain ⟨R, hR⟩ : ∃ R, wayM S.m q = R := ⟨_, rfl⟩
 have HR := hide hR
 rw [hR]
 clear hR
 have hz : (bs q).size = q.length := bs_size q
 obtain ⟨n, hn⟩ : ∃ n, q.length = n := ⟨_, rfl⟩
 have HN := hide hn
 rw [hn] at hq hz
 clear hn
 have hn1 : (n : Int) ≤ 100000 := by omega
 obtain ⟨cp, W, hcv, hrg, hbw, hcp, hcp2, hsz⟩ := conv_SB w q (by rw [HN.out]; omega)
 rw [HN.out] at hcv hcp
 have HRG := hide hrg
 have HBW := hide hbw
 clear hrg hbw hcp hcp2
 go_enter Tryz.func76, Tryz.ntmps76
 go_wp2
 go_loopw [10] (fun v10 wr => ∃ k : Nat, v10 = .int .i64 k ∧ k ≤ n ∧ Hid (wayB S.m q (n - k) k = R) ∧ Below W.heap.size W wr) (fun v10 _ => n - (intOf v10).toNat)
 case atStart => exact ⟨0, rfl, by omega, by have := HR.out; unfold wayM at this; rwa [HN.out] at this, Below.refl _ _⟩
 case round =>
   obtain ⟨k, rfl, hk, HWB, hb⟩ := hrel
   have HB := hide hb
   have HBR := hide (below_up HBW.out hb HBW.out.size)
   have HRR := hide (HRG.out.below hb)
   clear hb
   by_cases hlt : k < n
   · obtain ⟨x, hx⟩ : ∃ x, q[k]? = some x := ⟨q[k]'(by have := HN.out; omega), gE _⟩
     obtain ⟨gs, o, e, hg, hc⟩ := HRR.out k x hx
     injection e with e
     injection e with e1 e2
     subst e1 e2
     have hc1 : wr.cell? ⟨w.heap.size, 0 + k, none⟩ = some (.int .u8 x.toNat) := by
       have := hc 0 _ rfl
       simpa using this
     rw [Nat.zero_add] at hc1
     clear hc
     have b1 : (k : Int) < (n : Int) := by omega
     have hstep : wayB S.m q (n - k) k = if q.getD k 0 ≠ 47 ∨ k = 0 then wayB S.m q (n - (k + 1)) (k + 1) else if kindM S.m (q.take k) = 0 then 6 else if kindM S.m (q.take k) = 1 then 11 else wayB S.m q (n - (k + 1)) (k + 1) := by
       rw [show n - k = (n - (k + 1)) + 1 by omega, wayB, if_neg (by have := HN.out; omega)]
     have hxg : q.getD k 0 = x := by simp [hx]
     rw [hxg, HWB.out] at hstep
     have HST := hide hstep
     clear hx hxg hstep HWB
     have hx256 : x.toNat < 256 := x.toNat_lt
     by_cases e1 : x = 47
     · have hx47 : ((x.toNat : Int) == 47) = true := by rw [e1]; rfl
       have hx47' : ((x.toNat : Int) != 47) = false := by rw [e1]; rfl
       by_cases e2 : k = 0
       · subst e2
         have HN2 := hide (show wayB S.m q (n - (0 + 1)) (0 + 1) = R by rw [HST.out, if_pos (.inr rfl)])
         clear HST
         go_wp2
         go_roundw
         case rel => exact ⟨1, by go_num, by omega, HN2.out, HB.out⟩
         case measure => simp [intOf]; omega
       · have hk0 : ((k : Int) == 0) = false := by simpa using e2
         have HEX := hide (show (bs q).extract 0 k = bs (q.take k) by rw [ext_bs]; simp)
         have HKK := hide (HK.out k wr HBR.out)
         have hst := HST.out
         rw [if_neg (by rintro (h | h); exact h e1; exact e2 h)] at hst
         have HS2 := hide hst
         obtain ⟨kk, hkk⟩ : ∃ kk, kindM S.m (q.take k) = kk := ⟨_, rfl⟩
         rw [hkk] at HKK HS2
         clear hst HST hkk
         rw [← HEX.out] at HKK
         go_wp2_with fail
         refine HKK.out.mono ?_
         rintro e w' ⟨rfl, hb'⟩
         have HB' := hide (below_up HB.out hb' HB.out.size)
         have HBR' := hide (below_up HBR.out hb' HBR.out.size)
         clear hb'
         by_cases k0 : kk = 0
         · subst k0
           have HF := hide (show R = 6 by rw [HS2.out, if_pos rfl])
           go_wp2
           go_ret
           refine ⟨?_, HBR'.out⟩
           rw [HF.out]
           rfl
         by_cases k1 : kk = 1
         · subst k1
           have HF := hide (show R = 11 by rw [HS2.out]; rfl)
           go_wp2
           go_ret
           refine ⟨?_, HBR'.out⟩
           rw [HF.out]
           rfl
         have k0' : ((kk : Int) == 0) = false := by simp; omega
         have k1' : ((kk : Int) == 1) = false := by simp; omega
         have HF := hide (show wayB S.m q (n - (k + 1)) (k + 1) = R by rw [HS2.out, if_neg k0, if_neg k1])
         clear HS2 k0 k1
         go_wp2
         go_roundw
         case rel => exact ⟨k + 1, by go_num, by omega, HF.out, HB'.out⟩
         case measure => simp [intOf]; omega
     · have hx47 : ((x.toNat : Int) == 47) = false := by
         simp only [beq_eq_false_iff_ne]
         intro h
         apply e1
         have h2 : x.toNat = (47 : UInt8).toNat := by have : (47 : UInt8).toNat = 47 := rfl; omega
         exact UInt8.toNat_inj.1 h2
       have hx47' : ((x.toNat : Int) != 47) = true := by simpa using hx47
       have HN2 := hide (show wayB S.m q (n - (k + 1)) (k + 1) = R by rw [HST.out, if_pos (.inl e1)])
       clear HST e1
       go_wp2
       go_roundw
       case rel => exact ⟨k + 1, by go_num, by omega, HN2.out, HB.out⟩
       case measure => simp [intOf]; omega
   · obtain rfl : k = n := by omega
     have HE := hide (show (0 : Nat) = R by rw [← HWB.out, Nat.sub_self]; rfl)
     go_wp2
     go_ret
     refine ⟨?_, HBR.out⟩
     rw [← HE.out]
     rfl
end
section
open Go.RowKit Go.Deep Go.Maps Ln Pth Vf
attribute [local go_sem] bt_eq
theorem absF_len (p : T) : (absF [47] p).1.length ≤ 200 := by
 rcases absF_cases [47] p with ⟨l, g, e, _⟩ | ⟨e, _⟩
 · rw [e]; exact g.len
 · rw [e]; simp
theorem absS_len (S : St) (p : T) : (absS S p).1.length ≤ 200 := by
 unfold absS
 split
 · simp
 · split
   · simp
   · exact absF_len p
theorem fld0 (x y z : Value) (w : World) : (Instr.field 77 (.agg #[x, y, z]) 0).run Tryz.prog w = .ok x w := by kernel_rfl
theorem fld1 (x y z : Value) (w : World) : (Instr.field 77 (.agg #[x, y, z]) 1).run Tryz.prog w = .ok y w := by kernel_rfl
theorem fld2 (x y z : Value) (w : World) : (Instr.field 77 (.agg #[x, y, z]) 2).run Tryz.prog w = .ok z w := by kernel_rfl
theorem mkMap (w : World) : (Instr.makeMap 66 none).run Tryz.prog w = .ok (.map (some w.heap.size)) (w.alloc (.map #[] 0)) := by kernel_rfl
attribute [local go_sem] fld0 fld1 fld2 mkMap
theorem ne0 {n : Nat} (h : n ≠ 0) : ((n : Int) != 0) = true ∧ ((n : Int) == 0) = false := by
 constructor
 · simpa using h
 · simpa using h
theorem vabsL_any (g : Nat) (S : St) (p : T) (w : World) (h : Hs (VS g S) w) (hm : MX w) (hp : PB p) :
   Calls Tryz.prog 29 #[.pointer (some ⟨g, 0, none⟩), .string (bs p)] w (AbsPost (absS S p) w) := by
 have HA := hide (absL_any [47] p w hm (by simp) hp (by have := hp.1; simp; omega))
 have hl := absF_len p
 have HW := hide (fun W (hb : Below w.heap.size w W) => way_any g S (absF [47] p).1 W (h.below (VS.fr g S) hb) (by omega))
 have hR : absS S p = if (absF [47] p).2 ≠ 0 then ([], (absF [47] p).2) else if wayM S.m (absF [47] p).1 ≠ 0 then ([], wayM S.m (absF [47] p).1) else ((absF [47] p).1, 0) := rfl
 unfold AbsPost at HA
 obtain ⟨q, hq⟩ : ∃ q, (absF [47] p).1 = q := ⟨_, rfl⟩
 obtain ⟨e, he⟩ : ∃ q, (absF [47] p).2 = q := ⟨_, rfl⟩
 rw [hq] at HA HW hR hl
 rw [he] at HA hR
 obtain ⟨y, hy⟩ : ∃ y, wayM S.m q = y := ⟨_, rfl⟩
 rw [hy] at HW hR
 have HR := hide hR
 clear hR hq he hy h hm
 by_cases c1 : e = 0
 · subst c1
   go_enter Tryz.func29, Tryz.ntmps29
   go_wp2_with fail
   refine HA.out.mono ?_
   rintro e w1 ⟨rfl, hb⟩
   have HB := hide hb
   clear hb
   go_wp2_with fail
   refine (HW.out w1 HB.out).mono ?_
   rintro e w2 ⟨rfl, hb⟩
   have HB2 := hide (below_up HB.out hb HB.out.size)
   clear hb
   by_cases c2 : y = 0
   · subst c2
     have HE := hide (show absS S p = (q, 0) from HR.out)
     go_wp2
     go_ret2
     unfold AbsPost
     rw [HE.out]
     exact ⟨rfl, HB2.out⟩
   · obtain ⟨t1, t2⟩ := ne0 c2
     have HE := hide (show absS S p = ([], y) by rw [HR.out, if_neg (by simp), if_pos c2])
     clear c2
     go_wp2
     go_ret2
     unfold AbsPost
     rw [HE.out]
     exact ⟨rfl, HB2.out⟩
 · obtain ⟨t1, t2⟩ := ne0 c1
   have HE := hide (show absS S p = ([], e) by rw [HR.out, if_pos c1])
   clear c1
   go_enter Tryz.func29, Tryz.ntmps29
   go_wp2_with fail
   refine HA.out.mono ?_
   rintro e w1 ⟨rfl, hb⟩
   have HB := hide hb
   clear hb
   go_wp2
   go_ret2
   unfold AbsPost
   rw [HE.out]
   exact ⟨rfl, HB.out⟩
theorem vabs_any (g : Nat) (S : St) (p : T) (w : World) (h : Hs (VS g S) w) (hm : MX w) (hp : p.length ≤ 50000) :
   Calls Tryz.prog 29 #[.pointer (some ⟨g, 0, none⟩), .string (bs p)] w (AbsPost (absS S p) w) := vabsL_any g S p w h hm (.of (by omega))
theorem vfound_any (g : Nat) (S : St) (p : T) (w : World) (h : Hs (VS g S) w) (hm : MX w) (hp : p.length ≤ 50000) :
   Calls Tryz.prog 43 #[.pointer (some ⟨g, 0, none⟩), .string (bs p)] w (AbsPost (foundS S p) w) := by
 have HA := hide (vabs_any g S p w h hm hp)
 have hl := absS_len S p
 have HK := hide (fun W (hb : Below w.heap.size w W) => kind_any g S (absS S p).1 W (h.below (VS.fr g S) hb) (by omega))
 have hR : foundS S p = ((absS S p).1, if (absS S p).2 = 0 ∧ kindM S.m (absS S p).1 = 0 then 6 else (absS S p).2) := rfl
 unfold AbsPost at HA
 obtain ⟨q, hq⟩ : ∃ q, (absS S p).1 = q := ⟨_, rfl⟩
 obtain ⟨e, he⟩ : ∃ q, (absS S p).2 = q := ⟨_, rfl⟩
 rw [hq] at HA HK hR hl
 rw [he] at HA hR
 obtain ⟨y, hy⟩ : ∃ y, kindM S.m q = y := ⟨_, rfl⟩
 rw [hy] at HK hR
 have HR := hide hR
 clear hR hq he hy h hm
 by_cases c1 : e = 0
 · subst c1
   go_enter Tryz.func43, Tryz.ntmps43
   go_wp2_with fail
   refine HA.out.mono ?_
   rintro e w1 ⟨rfl, hb⟩
   have HB := hide hb
   clear hb
   go_wp2_with fail
   refine (HK.out w1 HB.out).mono ?_
   rintro e w2 ⟨rfl, hb⟩
   have HB2 := hide (below_up HB.out hb HB.out.size)
   clear hb
   by_cases c2 : y = 0
   · subst c2
     have HE := hide (show foundS S p = (q, 6) from HR.out)
     go_wp2
     go_ret2
     unfold AbsPost
     rw [HE.out]
     exact ⟨rfl, HB2.out⟩
   · obtain ⟨t1, t2⟩ := ne0 c2
     have HE := hide (show foundS S p = (q, 0) by rw [HR.out, if_neg (by rintro ⟨_, h⟩; exact c2 h)])
     clear c2
     go_wp2
     go_ret2
     unfold AbsPost
     rw [HE.out]
     exact ⟨rfl, HB2.out⟩
 · obtain ⟨t1, t2⟩ := ne0 c1
   have HE := hide (show foundS S p = (q, e) by rw [HR.out, if_neg (by rintro ⟨h, _⟩; exact c1 h)])
   clear c1
   go_enter Tryz.func43, Tryz.ntmps43
   go_wp2_with fail
   refine HA.out.mono ?_
   rintro e w1 ⟨rfl, hb⟩
   have HB := hide hb
   clear hb
   go_wp2
   go_ret2
   unfold AbsPost
   rw [HE.out]
   exact ⟨rfl, HB.out⟩
theorem vkind_any (g : Nat) (S : St) (p : T) (w : World) (h : Hs (VS g S) w) (hm : MX w) (hp : p.length ≤ 50000) :
   Calls Tryz.prog 56 #[.pointer (some ⟨g, 0, none⟩), .string (bs p)] w fun e w' => e = .returned (.int .i64 (kindS S p)) ∧ Below w.heap.size w w' := by
 have HA := hide (vabs_any g S p w h hm hp)
 have hl := absS_len S p
 have HK := hide (fun W (hb : Below w.heap.size w W) => kind_any g S (absS S p).1 W (h.below (VS.fr g S) hb) (by omega))
 have hR : kindS S p = if (absS S p).2 ≠ 0 then 0 else kindM S.m (absS S p).1 := rfl
 unfold AbsPost at HA
 obtain ⟨q, hq⟩ : ∃ q, (absS S p).1 = q := ⟨_, rfl⟩
 obtain ⟨e, he⟩ : ∃ q, (absS S p).2 = q := ⟨_, rfl⟩
 rw [hq] at HA HK hR hl
 rw [he] at HA hR
 obtain ⟨y, hy⟩ : ∃ y, kindM S.m q = y := ⟨_, rfl⟩
 rw [hy] at HK hR
 have HR := hide hR
 clear hR hq he hy h hm
 by_cases c1 : e = 0
 · subst c1
   go_enter Tryz.func56, Tryz.ntmps56
   go_wp2_with fail
   refine HA.out.mono ?_
   rintro e w1 ⟨rfl, hb⟩
   have HB := hide hb
   clear hb
   go_wp2_with fail
   refine (HK.out w1 HB.out).mono ?_
   rintro e w2 ⟨rfl, hb⟩
   have HB2 := hide (below_up HB.out hb HB.out.size)
   clear hb
   go_wp2
   go_ret
   refine ⟨?_, HB2.out⟩
   rw [HR.out]
   rfl
 · obtain ⟨t1, t2⟩ := ne0 c1
   have HE := hide (show kindS S p = 0 by rw [HR.out, if_pos c1])
   clear c1
   go_enter Tryz.func56, Tryz.ntmps56
   go_wp2_with fail
   refine HA.out.mono ?_
   rintro e w1 ⟨rfl, hb⟩
   have HB := hide hb
   clear hb
   go_wp2
   go_ret
   refine ⟨?_, HB.out⟩
   rw [HE.out]
   rfl
theorem vnew_any (n b : Int) (w : World) (h1 : -9223372036854775808 ≤ n) (h2 : n ≤ 9223372036854775807) (h3 : -9223372036854775808 ≤ b) (h4 : b ≤ 9223372036854775807) :
   Calls Tryz.prog 8 #[.int .i64 n, .int .i64 b] w fun e w' => e = .returned (.pointer (some ⟨w.heap.size + 1, 0, none⟩)) ∧ Below w.heap.size w w' ∧ VS (w.heap.size + 1) (newS n b) (fun k => w.heap.size ≤ k ∧ k < w'.heap.size) (fun _ => False) w' ∧ w'.heap.size = w.heap.size + 2 := by
 have ho := World.ownsMap_made w Tryz.prog 9 hR
 have e1 : min (max (0 : Int) n) 10000 = ((newS n b).nodes : Nat) := by simp only [newS]; omega
 have e2 : min (max (0 : Int) b) 1048576 = ((newS n b).bytes : Nat) := by simp only [newS]; omega
 have E1 := hide e1
 have E2 := hide e2
 have HO := hide ho
 clear e1 e2 ho
 go_enter Tryz.func8, Tryz.ntmps8
 go_wp2
 go_ret
 have hb1 : Below w.heap.size w (w.alloc (.map #[] 0)) := (Below.refl _ _).alloc (Nat.le_refl _) _
 refine ⟨by simp, hb1.alloc (by simp) _, ?_, by simp⟩
 refine ⟨w.heap.size, [], ⟨by omega, by simp⟩, ⟨Nat.le_refl _, by simp; omega⟩, by omega, ?_, ?_, rfl, fun x hx => by cases hx⟩
 · have := heapNew (w.alloc (.map #[] 0)) (.cells #[.map (some w.heap.size), .int .i64 (min (max 0 n) 10000), .int .i64 (min (max 0 b) 1048576), .int .i64 0, .int .i64 0] 68)
   rw [← E1.out, ← E2.out, show ((newS n b).used : Int) = 0 from rfl, show ((newS n b).clock : Int) = 0 from rfl]
   simpa using this
 · exact MapN.of (w := w.alloc (.map #[] 0)) (own_tightN (P := []) HO.out) (Below.heap_alloc _ _ _ (by simp))
end
section
open Go.RowKit Go.Deep Go.Maps Ln Pth Vf
attribute [local go_sem] bt_eq fld0 fld1 fld2 mkMap
theorem room_any (g : Nat) (S : St) (hS : WfS S) (nodes : Nat) (grows : Int) (w : World) (h : Hs (VS g S) w) (hn : nodes ≤ 10) (h1 : -4000000 ≤ grows) (h2 : grows ≤ 4000000) :
   Calls Tryz.prog 31 #[.pointer (some ⟨g, 0, none⟩), .int .i64 nodes, .int .i64 grows] w fun e w' => e = .returned (.bool (decide ((S.m.length + nodes : Nat) ≤ S.nodes ∧ (S.used : Int) + grows ≤ (S.bytes : Int)))) ∧ Drew w w' := by
 obtain ⟨b, P, hgb, hg, hm, hsm, _⟩ := VS.opn h
 have hlen := nlen (hm.of (w' := w.drew) rfl) 3
 have hc0 := cellOf hg (j := 0) rfl
 have hc1 := cellOf hg (j := 1) rfl
 have hc2 := cellOf hg (j := 2) rfl
 have hc3 := cellOf hg (j := 3) rfl
 have b1 := hS.nodes
 have b2 := hS.bytes
 have b3 := hS.n10
 have b4 := hS.b20
 have hpl : S.m.length = P.length := by rw [hsm, strip_len]
 rw [hpl] at b1 ⊢
 obtain ⟨m, hm'⟩ : ∃ m, P.length = m := ⟨_, rfl⟩
 obtain ⟨sn, hsn⟩ : ∃ m, S.nodes = m := ⟨_, rfl⟩
 obtain ⟨sb, hsb⟩ : ∃ m, S.bytes = m := ⟨_, rfl⟩
 obtain ⟨su, hsu⟩ : ∃ m, S.used = m := ⟨_, rfl⟩
 rw [hm'] at hlen b1 ⊢
 rw [hsn] at hc1 b1 b3 ⊢
 rw [hsb] at hc2 b2 b4 ⊢
 rw [hsu] at hc3 b2 ⊢
 clear h hS hg hm hsm hpl hm' hsn hsb hsu
 have hn1 : (nodes : Int) ≤ 10 := by omega
 have hm1 : (m : Int) ≤ 10000 := by omega
 have hu1 : (su : Int) ≤ 1048576 := by omega
 have k1 : (m : Int) + (nodes : Int) = ((m + nodes : Nat) : Int) := by omega
 have w1 : IntKind.i64.wrap ((m : Int) + (nodes : Int)) = (m : Int) + (nodes : Int) := IntWalk.i64_in _ (by omega)
 have w2 : IntKind.i64.wrap ((su : Int) + grows) = (su : Int) + grows := IntWalk.i64_in _ (by omega)
 by_cases c1 : m + nodes ≤ sn
 · have d1 : (m : Int) + (nodes : Int) ≤ (sn : Int) := by omega
   by_cases c2 : (su : Int) + grows ≤ (sb : Int)
   · have HE := hide (show decide (m + nodes ≤ sn ∧ (su : Int) + grows ≤ (sb : Int)) = true from decide_eq_true ⟨c1, c2⟩)
     clear c1 k1
     go_enter Tryz.func31, Tryz.ntmps31
     go_wp2
     go_region
     go_wp2
     go_ret
     rw [HE.out]
     exact ⟨rfl, ⟨_, rfl⟩⟩
   · have HE := hide (show decide (m + nodes ≤ sn ∧ (su : Int) + grows ≤ (sb : Int)) = false from decide_eq_false (fun h => c2 h.2))
     have d2 : decide ((su : Int) + grows ≤ (sb : Int)) = false := by simp; omega
     clear c1 k1 c2
     go_enter Tryz.func31, Tryz.ntmps31
     go_wp2
     go_region
     go_wp2
     go_ret
     rw [HE.out]
     exact ⟨rfl, ⟨_, rfl⟩⟩
 · have d1 : decide ((m : Int) + (nodes : Int) ≤ (sn : Int)) = false := by simp; omega
   have HE := hide (show decide (m + nodes ≤ sn ∧ (su : Int) + grows ≤ (sb : Int)) = false from decide_eq_false (fun h => c1 h.1))
   clear c1 k1
   go_enter Tryz.func31, Tryz.ntmps31
   go_wp2
   go_region
   go_wp2
   go_ret
   rw [HE.out]
   exact ⟨rfl, ⟨_, rfl⟩⟩
theorem heapSet {w : World} {g j : Nat} {cs : Array Value} {t : TypeId} (h : w.heap[g]? = some (.cells cs t)) (v : Value) : (w.setCell ⟨g, j, none⟩ v).heap[g]? = some (.cells (cs.setIfInBounds j v) t) := by
 unfold World.setCell
 simp [Array.getElem?_modify, h]
theorem put_any (g : Nat) (S : St) (q : T) (e : En) (T N : Nat → Prop) (w : World) (h : VS g S T N w) (ok : OkTN T N w) (hr : RiseG S.m) (hl : S.m.length ≤ 100000) (hq : q.length ≤ 100000) (hc : S.clock ≤ 1000000000) (hd : RG encB 1 w e.A e.nd.data) (hN : ∀ a, e.A = some a → N a.block) :
   Calls Tryz.prog 32 #[.pointer (some ⟨g, 0, none⟩), .string (bs q), encN e] w fun e' w' => e' = .returned (.tuple #[]) ∧ VS g (Vf.putS S q e.nd.dir e.nd.data) T N w' ∧ Kp w w' T := by
 obtain ⟨b, P, h1, h2, hgb, hg, hm, hsm, hx⟩ := h
 have hc0 := cellOf hg (j := 0) rfl
 have hc4 := cellOf hg (j := 4) rfl
 have hf4 := freeOf hg 4
 have hgl := (ok.1 g h1).1
 have hbl := (ok.1 b h2).1
 have hck : (S.clock : Int) ≤ 1000000000 := by omega
 unfold encN
 go_enter Tryz.func32, Tryz.ntmps32
 go_wp2
 obtain ⟨W3, hW3⟩ : ∃ W, (w.setCell ⟨g, 4, none⟩ (.int .i64 ((S.clock : Int) + 1))).alloc (.cells #[.bool e.nd.dir, .slice e.A e.nd.data.length e.c, .int .i64 ((S.clock : Int) + 1)] 77) = W := ⟨_, rfl⟩
 have hsz3 : W3.heap.size = w.heap.size + 1 := by rw [← hW3]; simp
 have hk3 : Kp w W3 (fun k => k = g) := by
   rw [← hW3]
   refine ⟨rfl, rfl, rfl, by simp, fun k hk hne => ?_⟩
   rw [Below.heap_alloc _ _ _ (by simpa using hk)]
   exact Below.heap_setCell _ _ _ _ (by simpa using hne)
 have hg3 : W3.heap[g]? = some (.cells #[.map (some b), .int .i64 S.nodes, .int .i64 S.bytes, .int .i64 S.used, .int .i64 ((S.clock : Int) + 1)] 68) := by
   rw [← hW3, Below.heap_alloc _ _ _ (by simpa using hgl)]
   exact heapSet hg _
 have hb3 : W3.heap[b]? = w.heap[b]? := hk3.block b hbl (fun e => hgb e.symm)
 have hn3 := heapNew (w.setCell ⟨g, 4, none⟩ (.int .i64 ((S.clock : Int) + 1))) (.cells #[.bool e.nd.dir, .slice e.A e.nd.data.length e.c, .int .i64 ((S.clock : Int) + 1)] 77)
 rw [hW3, World.size_setCell] at hn3
 rw [hW3]
 have hc30 := cellOf hg3 (j := 0) rfl
 have hx0 := cellOf hn3 (j := 0) rfl
 have hx1 := cellOf hn3 (j := 1) rfl
 have hx2 := cellOf hn3 (j := 2) rfl
 have hrP : RiseG P := strip_rise.1 (hsm ▸ hr)
 have hlP : P.length ≤ 100000 := by rw [← strip_len, ← hsm]; exact hl
 obtain ⟨w4, hrun, hm4, hk4, hsz4⟩ := nstore (w := W3.drew) (hm.of (hb3.trans rfl)) hrP (by omega) (s := bs q) (by rw [bs_size]; omega) ⟨e.A, e.c, ⟨e.nd.dir, e.nd.data, S.clock + 1⟩⟩
 unfold encN at hrun
 simp only at hrun
 rw [show ((S.clock + 1 : Nat) : Int) = (S.clock : Int) + 1 by omega] at hrun
 have HM4 := hide hm4
 have HK4 := hide hk4
 have HG3 := hide hg3
 have HK3 := hide hk3
 have HSM := hide hsm
 have HX := hide hx
 clear hm4 hk4 hg3 hk3 hsm hx hm hg hb3 hn3 hW3 hc0 hc4
 go_region
 go_end0
 have hkT : Kp w w4 T := by
   have h3 : Kp w W3.drew (fun k => k = g) := ⟨HK3.out.os, HK3.out.tape, HK3.out.output, HK3.out.size, HK3.out.block⟩
   have h4 := (h3.mono (S' := T) (fun k e => by subst e; exact h1)).trans (HK4.out.mono (fun k e => by subst e; exact .inl h2))
   exact h4
 refine ⟨rfl, ⟨b, putG (bs q, ⟨e.A, e.c, ⟨e.nd.dir, e.nd.data, S.clock + 1⟩⟩) P, h1, h2, hgb, ?_, HM4.out, ?_, ?_⟩, hkT⟩
 · have := (HK4.out.block g (show g < W3.heap.size by omega) (fun e => hgb e)).trans HG3.out
   rw [this]
   rfl
 · show putG (bs q, _) S.m = _
   rw [strip_put, HSM.out]
 · intro x hx
   have hdk : ∀ (A : Option Addr) (D : List UInt8), RG encB 1 w A D → (∀ a, A = some a → N a.block) → RG encB 1 w4 A D := fun A D h hn => h.of hkT.size (fun a ea hlt => hkT.block a.block hlt (fun ht => (ok.1 _ ht).2 (hn a ea)))
   rcases mem_putG hx with rfl | hx
   · exact ⟨hdk _ _ hd hN, hN⟩
   · exact ⟨hdk _ _ (HX.out x hx).1 (HX.out x hx).2, (HX.out x hx).2⟩
end
section
open Go.RowKit Go.Deep
abbrev BRow := Option Addr × Nat × List UInt8
def SLB (w : World) (B : Option Addr) (L : List BRow) : Prop := ∀ (k : Nat) (x : BRow), L[k]? = some x → ∃ g o, B = some ⟨g, o, none⟩ ∧ g < w.heap.size ∧ w.cell? ⟨g, o + k, none⟩ = some (.slice x.1 x.2.2.length x.2.1) ∧ RG encB 1 w x.1 x.2.2
theorem SLB.below {w w' : World} {B : Option Addr} {L : List BRow} (h : SLB w B L) (hb : Below w.heap.size w w') : SLB w' B L := fun k x hx => by
 obtain ⟨g, o, e, hg, hc, hr⟩ := h k x hx
 exact ⟨g, o, e, Nat.lt_of_lt_of_le hg hb.size, (hb.cell (p := ⟨g, o + k, none⟩) hg).trans hc, hr.below hb⟩
theorem zeros_len (n : Nat) : (Builtin.zeroCells #[Value.int .u8 0] n).size = n := by
 unfold Builtin.zeroCells
 simp
theorem grow_any (n : Nat) (w : World) (hn : n ≤ 10000000) :
   Calls Tryz.prog 77 #[.slice none 0 0, .int .i64 n] w fun e w' => ∃ v, e = .returned v ∧ OwnG encB 1 5 w' w.heap.size v [] ∧ Below w.heap.size w w' := by
 by_cases h : n = 0
 · subst h
   refine (Any8.slices_Grow_room Tryz.grow77 none 0 0 0 w (by omega) (by omega) (by omega) (by omega)).mono ?_
   rintro e w' ⟨rfl, rfl⟩
   exact ⟨_, rfl, OwnG.nil _ _, Below.refl _ _⟩
 · obtain ⟨i0, hi, hz0, hz1, hz2⟩ := info_parts (rowB.info)
   have := Any8.slices_Grow_grow Tryz.grow77 i0 (.int .u8 0) hi hz0 (by rw [hz1]; omega) none 0 0 n [] w (by omega) (by omega) (by rw [hz2]; show (0 + n) * 1 ≤ _; omega) (by omega) (by simp) (fun _ => rfl) (fun a e => by cases e)
   refine this.mono ?_
   rintro e w' ⟨rfl, rfl⟩
   have g1 := grownCap_ge w (0 + n) 0 (Tryz.grow77_ren.t 25)
   have g2 := grownCap_le_maxLen w (0 + n) 0 (Tryz.grow77_ren.t 25) (by unfold maxLen; omega)
   refine ⟨_, rfl, ⟨rfl, .inr ⟨w.heap.size, _, _, rfl, Nat.le_refl _, heapNewC _ _, by simp, g2, ?_, by simp [valsG]⟩⟩, (Below.refl _ _).drew.alloc (Nat.le_refl _) _⟩
   show (#[] ++ Builtin.zeroCells #[Value.int .u8 0] (0 + n - 0) ++ Builtin.zeroCells #[Value.int .u8 0] (grownCap w (0 + n) 0 (Tryz.grow77_ren.t 25) - (0 + n))).size = _
   rw [Array.size_append, Array.size_append, zeros_len, zeros_len]
   simp only [List.size_toArray, List.length_nil]
   omega
where
 heapNewC (w : World) (o : Obj) : (w.alloc o).heap[w.heap.size]? = some o := by
   show (w.heap.push o)[w.heap.size]? = some o
   simp
def sumB (L : List BRow) : Nat := (L.map fun x => x.2.2.length).sum
def catB (L : List BRow) : List UInt8 := L.flatMap fun x => x.2.2
theorem sumB_take {L : List BRow} {k : Nat} {x : BRow} (h : L[k]? = some x) : sumB (L.take (k + 1)) = sumB (L.take k) + x.2.2.length := by
 unfold sumB
 rw [List.take_add_one, h]
 simp
theorem catB_take {L : List BRow} {k : Nat} {x : BRow} (h : L[k]? = some x) : catB (L.take (k + 1)) = catB (L.take k) ++ x.2.2 := by
 unfold catB
 rw [List.take_add_one, h]
 simp
theorem sumB_le (L : List BRow) (k : Nat) : sumB (L.take k) ≤ sumB L := by
 unfold sumB
 rw [List.map_take]
 conv => rhs; rw [← List.take_append_drop k (L.map _), List.sum_append]
 omega
theorem catB_len (L : List BRow) : (catB L).length = sumB L := by
 unfold catB sumB
 induction L with
 | nil => rfl
 | cons x L ih => simp [ih]
theorem concat_any (B : Option Addr) (c : Nat) (L : List BRow) (w : World) (hA : SLB w B L) (hl : L.length ≤ 1000) (hs : sumB L ≤ 900000) :
   Calls Tryz.prog 33 #[.slice B L.length c] w fun e w' => (∃ v, e = .returned v ∧ OwnG encB 1 5 w' w.heap.size v (catB L)) ∧ Below w.heap.size w w' := by
 have HA := hide hA
 clear hA
 obtain ⟨n, hn⟩ : ∃ n, L.length = n := ⟨_, rfl⟩
 have HN := hide hn
 rw [hn] at hl ⊢
 clear hn
 have hn1 : (n : Int) ≤ 1000 := by omega
 go_enter Tryz.func33, Tryz.ntmps33
 go_wp2
 go_loop [3, 5, 11] (fun v3 _ v11 => ∃ k s : Nat, v11 = .int .i64 k ∧ k ≤ n ∧ v3 = .int .i64 s ∧ Hid (s = sumB (L.take k)) ∧ s ≤ 900000) (fun _ _ v11 => n - (intOf v11).toNat)
 case atStart => exact ⟨0, 0, rfl, by omega, rfl, rfl, by omega⟩
 case round =>
   obtain ⟨k, s, rfl, hk, rfl, HS, hs2⟩ := hrel
   by_cases hlt : k < n
   · obtain ⟨x, hx⟩ : ∃ x, L[k]? = some x := ⟨L[k]'(by have := HN.out; omega), gE _⟩
     obtain ⟨g, o, rfl, hg, hc, hr⟩ := HA.out k x hx
     have HT := hide (sumB_take hx)
     have hle := sumB_le L (k + 1)
     rw [HT.out, ← HS.out] at hle
     have b1 : (k : Int) < (n : Int) := by omega
     obtain ⟨m, hm⟩ : ∃ m, x.2.2.length = m := ⟨_, rfl⟩
     rw [hm] at hc hle HT
     clear hx hr hm
     have b2 : (s : Int) ≤ 900000 := by omega
     have b3 : (m : Int) ≤ 900000 := by omega
     go_wp2
     go_round
     case rel => exact ⟨k + 1, s + m, by go_num, by omega, by go_num, show s + m = sumB (L.take (k + 1)) by rw [HT.out, ← HS.out], by omega⟩
     case measure => simp [intOf]; omega
   · obtain rfl : k = n := by omega
     have HS3 := hide (show s = sumB L by rw [HS.out, List.take_of_length_le (by have := HN.out; omega)])
     have HG := hide (grow_any s w (by omega))
     clear HS
     go_wp2_with fail
     refine HG.out.mono ?_
     rintro e w1 ⟨v, rfl, ho, hb⟩
     have HO1 := hide ho
     have HB1 := hide hb
     clear ho hb
     go_wp2
     go_loopw [6, 8, 27] (fun v6 _ v27 wr => ∃ j : Nat, v27 = .int .i64 j ∧ j ≤ k ∧ OwnG encB 1 5 wr w.heap.size v6 (catB (L.take j)) ∧ Below w.heap.size w wr) (fun _ _ v27 _ => k - (intOf v27).toNat)
     case atStart => exact ⟨0, rfl, by omega, HO1.out, HB1.out⟩
     case round =>
       obtain ⟨j, rfl, hj, ho, hb⟩ := hrel
       have HO := hide ho
       have HB := hide hb
       have HAR := hide (HA.out.below hb)
       clear ho hb
       by_cases hlt2 : j < k
       · obtain ⟨x, hx⟩ : ∃ x, L[j]? = some x := ⟨L[j]'(by have := HN.out; omega), gE _⟩
         obtain ⟨g, o, rfl, hg, hc, hr⟩ := HAR.out j x hx
         have hbw : w.heap.size ≤ wr.heap.size := HB.out.size
         have hlen : (catB (L.take j)).length + x.2.2.length ≤ 1000000 := by
           have h1 := sumB_take hx
           have h2 := sumB_le L (j + 1)
           rw [catB_len]
           omega
         obtain ⟨v', w4, r4, o4, g4, b4⟩ := run_appY (c := x.2.1) HO.out hr hbw hlen
         have HO4 := hide o4
         have HT := hide (catB_take hx)
         have HB4 := hide (HB.out.trans ((Below.refl w.heap.size _).grown g4 hbw (fun q hq => (HO.out.lt q hq).1)))
         have b1 : (j : Int) < (k : Int) := by omega
         clear o4 g4 b4 hx hr
         go_wp2_with (at_builtin; refine wpList_app_run ?_ (.tmp 31) (.tmp 32) ?_ ?_ ?_ ?_ r4 ?_; exact rfl; exact rfl; exact rfl; exact rfl; exact rfl)
         go_roundw
         case rel => exact ⟨j + 1, by go_num, by omega, by rw [HT.out]; exact HO4.out, HB4.out⟩
         case measure => simp [intOf]; omega
       · obtain rfl : j = k := by omega
         have HF := hide (show catB (L.take j) = catB L by rw [List.take_of_length_le (by have := HN.out; omega)])
         rw [HF.out] at HO
         go_wp2
         go_ret
         exact ⟨⟨_, rfl, HO.out⟩, HB.out⟩
end
section
open Go.RowKit Go.Deep Go.Maps Ln Pth Vf
attribute [local go_sem] bt_eq fld0 fld1 fld2 mkMap
def FsPost (g : Nat) (r : St × Nat) (T N : Nat → Prop) (w : World) (e : Ending) (w' : World) : Prop := e = .returned (.int .i64 r.2) ∧ ∃ N', VS g r.1 T N' w' ∧ GrowN w w' T N T N' ∧ Kp w w' T
theorem VS.stay {g : Nat} {S : St} {T N : Nat → Prop} {w w' : World} (h : VS g S T N w) (ok : OkTN T N w) (hb : Below w.heap.size w w') : VS g S T N w' ∧ OkTN T N w' :=
 ⟨VS.fr g S T N N w w' h (fun k hk => hb.block k (hk.elim (fun h => (ok.1 k h).1) (ok.2 k))) (fun _ h => h) hb.size, (GrowN.refl ok hb.size).2.2.2⟩
theorem FsPost.stay {g : Nat} {S : St} {n : Nat} {T N : Nat → Prop} {w w' : World} (h : VS g S T N w) (ok : OkTN T N w) (hb : Below w.heap.size w w') : FsPost g (S, n) T N w (.returned (.int .i64 n)) w' :=
 ⟨rfl, N, (h.stay ok hb).1, GrowN.refl ok hb.size, Kp.of_below hb T⟩
theorem VS.used {g : Nat} {S : St} {T N : Nat → Prop} {w : World} (h : VS g S T N w) (ok : OkTN T N w) (u : Nat) (hk : Kp w (w.setCell ⟨g, 3, none⟩ (.int .i64 u)) (fun k => k = g)) : VS g { S with used := u } T N (w.setCell ⟨g, 3, none⟩ (.int .i64 u)) ∧ OkTN T N (w.setCell ⟨g, 3, none⟩ (.int .i64 u)) := by
 obtain ⟨b, P, h1, h2, hgb, hg, hm, hsm, hx⟩ := h
 refine ⟨⟨b, P, h1, h2, hgb, heapSet hg _, hm.of (hk.block b (ok.1 b h2).1 (fun e => hgb e.symm)), hsm, fun x hx' => ⟨(hx x hx').1.of hk.size (fun a ea hlt => hk.block a.block hlt (fun e => (ok.1 g h1).2 (by rw [← e]; exact (hx x hx').2 a ea))), (hx x hx').2⟩⟩, (GrowN.refl ok hk.size).2.2.2⟩
theorem kpSet (w : World) (g j : Nat) (v : Value) : Kp w (w.setCell ⟨g, j, none⟩ v) (fun k => k = g) :=
 ⟨rfl, rfl, rfl, by simp, fun k _ hne => Below.heap_setCell _ _ _ _ (by simpa using hne)⟩
theorem node_at {g : Nat} {S : St} {w : World} (h : Hs (VS g S) w) (q : T) (hq : q.length ≤ 100000) : ∃ (b : Nat) (db : Bool) (A : Option Addr) (c tm : Nat), w.cell? ⟨g, 0, none⟩ = some (.map (some b)) ∧
   (Instr.lookup 66 (.map (some b)) (.string (bs q)) false).run Tryz.prog w = .ok (.agg #[.bool db, .slice A (dataM S.m q).length c, .int .i64 tm]) w ∧ RG encB 1 w A (dataM S.m q) ∧ tm = timeM S.m q ∧ (∀ n, getG S.m (bs q) = some n → db = n.dir) := by
 obtain ⟨b, P, hgb, hg, hm, hS, hx⟩ := VS.opn h
 have hlk := nlook1 hm (s := bs q) (by rw [bs_size]; omega)
 unfold dataM timeM
 rw [hS, strip_get]
 cases hgp : getG P (bs q) with
 | none =>
   rw [hgp] at hlk
   exact ⟨b, false, none, 0, 0, cellOf hg (j := 0) rfl, hlk, RG.nil _ _, rfl, fun n hn => by cases hn⟩
 | some e =>
   rw [hgp] at hlk
   exact ⟨b, e.nd.dir, e.A, e.c, e.nd.time, cellOf hg (j := 0) rfl, hlk, hx _ (getG_mem hgp), rfl, fun n hn => by injection hn with hn; rw [← hn]⟩
theorem rg_set {w : World} {g : Nat} {mb : Option Nat} {a b c d : Int} {t : TypeId} (hg : w.heap[g]? = some (.cells #[.map mb, .int .i64 a, .int .i64 b, .int .i64 c, .int .i64 d] t)) {A : Option Addr} {D : List UInt8} (h : RG encB 1 w A D) (j : Nat) (v : Value) : RG encB 1 (w.setCell ⟨g, j, none⟩ v) A D := by
 intro k x hk
 obtain ⟨g', o, e, hlt, hc⟩ := h k x hk
 refine ⟨g', o, e, by simpa using hlt, fun i u hu => ?_⟩
 have h1 := hc i u hu
 by_cases e2 : g' = g
 · subst e2
   exfalso
   cases i with
   | succ i => simp [encB] at hu
   | zero =>
     have hu2 : u = .int .u8 x.toNat := by simpa [encB] using hu.symm
     subst hu2
     unfold World.cell? at h1
     simp only [hg] at h1
     generalize o + k * 1 + 0 = z at h1
     match z, h1 with
     | 0, h1 => simp at h1
     | 1, h1 => simp at h1
     | 2, h1 => simp at h1
     | 3, h1 => simp at h1
     | 4, h1 => simp at h1
     | z + 5, h1 => simp at h1
 · exact (World.cell?_of_block (a := ⟨g', o + k * 1 + i, none⟩) (Below.heap_setCell _ _ _ _ (by simpa using e2))).trans h1
theorem slb_two (w : World) {A1 A2 : Option Addr} {c1 c2 : Nat} {D1 D2 : List UInt8} (h1 : RG encB 1 w A1 D1) (h2 : RG encB 1 w A2 D2) (t : TypeId) :
   SLB (w.alloc (.cells #[.slice A1 D1.length c1, .slice A2 D2.length c2] t)) (some ⟨w.heap.size, 0, none⟩) [(A1, c1, D1), (A2, c2, D2)] := by
 have hb : Below w.heap.size w (w.alloc (.cells #[.slice A1 D1.length c1, .slice A2 D2.length c2] t)) := (Below.refl _ _).alloc (Nat.le_refl _) _
 have hn := heapNew w (.cells #[.slice A1 D1.length c1, .slice A2 D2.length c2] t)
 intro k x hk
 match k, hk with
 | 0, hk =>
   simp at hk
   subst hk
   exact ⟨_, _, rfl, by simp, cellOf hn rfl, h1.below hb⟩
 | 1, hk =>
   simp at hk
   subst hk
   exact ⟨_, _, rfl, by simp, cellOf hn rfl, h2.below hb⟩
 | k + 2, hk => simp at hk
theorem room_int (g : Nat) (S : St) (hS : WfS S) (nodes grows : Int) (w : World) (h : Hs (VS g S) w) (h0 : 0 ≤ nodes) (hn : nodes ≤ 10) (h1 : -4000000 ≤ grows) (h2 : grows ≤ 4000000) :
   Calls Tryz.prog 31 #[.pointer (some ⟨g, 0, none⟩), .int .i64 nodes, .int .i64 grows] w fun e w' => e = .returned (.bool (decide ((S.m.length : Int) + nodes ≤ S.nodes ∧ (S.used : Int) + grows ≤ (S.bytes : Int)))) ∧ Drew w w' := by
 obtain ⟨k, rfl⟩ := Int.eq_ofNat_of_zero_le h0
 have := room_any g S hS k grows w h (by omega) h1 h2
 rwa [show decide ((S.m.length + k : Nat) ≤ S.nodes ∧ (S.used : Int) + grows ≤ (S.bytes : Int)) = decide ((S.m.length : Int) + (k : Int) ≤ S.nodes ∧ (S.used : Int) + grows ≤ (S.bytes : Int)) from decide_eq_decide.2 (by omega)] at this
def moreN (N : Nat → Prop) (A : Option Addr) (k : Nat) : Prop := N k ∨ ∃ a, A = some a ∧ k = a.block
theorem VS.more {g : Nat} {S : St} {T N : Nat → Prop} {w w' : World} (h : VS g S T N w) (ok : OkTN T N w) (hb : Below w.heap.size w w') {A : Option Addr} (hn : ∀ a, A = some a → w.heap.size ≤ a.block ∧ a.block < w'.heap.size) :
   VS g S T (moreN N A) w' ∧ GrowN w w' T N T (moreN N A) := by
 have hs := hb.size
 refine ⟨VS.fr g S T N _ w w' h (fun k hk => hb.block k (hk.elim (fun h => (ok.1 k h).1) (ok.2 k))) (fun k h => .inl h) hs, fun k h => .inl h, fun k h => .inl h, ?_, ?_, ?_⟩
 · rintro k (h | ⟨a, e, rfl⟩)
   · exact .inl h
   · exact .inr (hn a e).1
 · intro k hk
   refine ⟨Nat.lt_of_lt_of_le (ok.1 k hk).1 hs, ?_⟩
   rintro (h | ⟨a, e, rfl⟩)
   · exact (ok.1 k hk).2 h
   · have := (hn a e).1; have := (ok.1 _ hk).1; omega
 · rintro k (h | ⟨a, e, rfl⟩)
   · exact Nat.lt_of_lt_of_le (ok.2 k h) hs
   · exact (hn a e).2
theorem concat_two (g : Nat) (A1 A2 : Option Addr) (c1 c2 : Nat) (D1 D2 : List UInt8) (w : World) (h : SLB w (some ⟨g, 0, none⟩) [(A1, c1, D1), (A2, c2, D2)]) (h1 : D1.length ≤ 400000) (h2 : D2.length ≤ 400000) :
   Calls Tryz.prog 33 #[.slice (some ⟨g, 0, none⟩) 2 2] w fun e w' => (∃ A c, e = .returned (.slice A (D1 ++ D2).length c) ∧ RG encB 1 w' A (D1 ++ D2) ∧ ∀ a, A = some a → w.heap.size ≤ a.block ∧ a.block < w'.heap.size) ∧ Below w.heap.size w w' := by
 have hc : catB [(A1, c1, D1), (A2, c2, D2)] = D1 ++ D2 := by simp [catB]
 have := concat_any (some ⟨g, 0, none⟩) 2 [(A1, c1, D1), (A2, c2, D2)] w h (by simp) (by simp [sumB]; omega)
 rw [hc] at this
 refine this.mono ?_
 rintro e w' ⟨⟨v, rfl, ho⟩, hb⟩
 obtain ⟨A, c, rfl, _, hr, ha, _⟩ := ho.slice encB_len
 exact ⟨⟨A, c, rfl, hr, fun a e => ho.lt _ (ha a e)⟩, hb⟩
theorem writeL_any (g : Nat) (S : St) (p b : T) (more : Bool) (A : Option Addr) (c : Nat) (T N : Nat → Prop) (w : World) (h : VS g S T N w) (ok : OkTN T N w) (hS : WfS S) (hm : MX w) (hp : PB p) (hby : S.bytes ≤ 400000) (hbl : b.length ≤ 400000) (hck : S.clock ≤ 1000000000) (hr : RG encB 1 w A b) :
   Calls Tryz.prog 10 #[.pointer (some ⟨g, 0, none⟩), .string (bs p), .slice A b.length c, .bool more] w (FsPost g (writeS S p b more) T N w) := by
 have HH : Hs (VS g S) w := ⟨T, N, h, ok⟩
 have HA := hide (vabsL_any g S p w HH hm hp)
 have hl := absS_len S p
 have hR : writeS S p b more = if (absS S p).2 ≠ 0 then (S, (absS S p).2) else writeQ S (absS S p).1 b more := rfl
 unfold AbsPost at HA
 obtain ⟨q, hq⟩ : ∃ q, (absS S p).1 = q := ⟨_, rfl⟩
 obtain ⟨e, he⟩ : ∃ q, (absS S p).2 = q := ⟨_, rfl⟩
 rw [hq] at HA hR hl
 rw [he] at HA hR
 have HR := hide hR
 have H := hide h
 have OK := hide ok
 have HRG := hide hr
 have HWF := hide hS
 have HHS := hide HH
 have d2 := dataM_len hS q
 have u1 := hS.bytes
 obtain ⟨n, hn⟩ : ∃ n, b.length = n := ⟨_, rfl⟩
 have HN := hide hn
 rw [hn] at hbl ⊢
 clear hR he h ok hr hS HH hn hq hm
 by_cases c1 : e = 0
 case neg =>
   obtain ⟨t1, t2⟩ := ne0 c1
   have HE := hide (show writeS S p b more = (S, e) by rw [HR.out, if_pos c1])
   clear c1
   go_enter Tryz.func10, Tryz.ntmps10
   go_wp2_with fail
   refine HA.out.mono ?_
   rintro e w1 ⟨rfl, hb⟩
   have HB := hide hb
   clear hb
   go_wp2
   go_ret
   rw [HE.out]
   exact FsPost.stay H.out OK.out HB.out
 subst c1
 have hRQ := HR.out
 rw [if_neg (by simp)] at hRQ
 unfold writeQ at hRQ
 have HK := hide (fun W (hb : Below w.heap.size w W) => kind_any g S q W (HHS.out.below (VS.fr g S) hb) (by omega))
 obtain ⟨kk, hkk⟩ : ∃ y, kindM S.m q = y := ⟨_, rfl⟩
 rw [hkk] at HK hRQ
 by_cases k2 : kk = 2
 · subst k2
   have HE := hide (show writeS S p b more = (S, 10) by rw [hRQ]; rfl)
   clear hRQ hkk
   go_enter Tryz.func10, Tryz.ntmps10
   go_wp2_with fail
   refine HA.out.mono ?_
   rintro e w1 ⟨rfl, hb⟩
   have HB := hide hb
   clear hb
   go_wp2_with fail
   refine (HK.out w1 HB.out).mono ?_
   rintro e w2 ⟨rfl, hb⟩
   have HB2 := hide (below_up HB.out hb HB.out.size)
   clear hb
   go_wp2
   go_ret
   rw [HE.out]
   exact FsPost.stay H.out OK.out HB2.out
 have k2' : ((kk : Int) == 2) = false := by simp; omega
 rw [if_neg k2] at hRQ
 simp only at hRQ
 obtain ⟨m, hmm⟩ : ∃ n, (dataM S.m q).length = n := ⟨_, rfl⟩
 rw [hmm] at hRQ d2
 obtain ⟨nd, hnd⟩ : ∃ nd : Nat, (if kk = 0 then 1 else 0) = nd := ⟨_, rfl⟩
 obtain ⟨was, hwas⟩ : ∃ x, (if more = true then dataM S.m q else []) = x := ⟨_, rfl⟩
 rw [hnd, hwas] at hRQ
 have HRQ := hide hRQ
 have HMM := hide hmm
 clear hRQ hkk k2 hmm
 have hbl1 : (n : Int) ≤ 400000 := by omega
 have hm1 : (m : Int) ≤ 400000 := by omega
 go_enter Tryz.func10, Tryz.ntmps10
 go_wp2_with fail
 refine HA.out.mono ?_
 rintro e w1 ⟨rfl, hb⟩
 have HB := hide hb
 clear hb
 go_wp2_with fail
 refine (HK.out w1 HB.out).mono ?_
 rintro e w2 ⟨rfl, hb⟩
 have HB2 := hide (below_up HB.out hb HB.out.size)
 clear hb
 obtain ⟨bm, db, A0, c0, tm, hc0, hlk, hr0, _, _⟩ := node_at (HHS.out.below (VS.fr g S) HB2.out) q (by omega)
 rw [HMM.out] at hlk
 have HR0 := hide hr0
 clear hr0
 have HWAS := hide hwas
 have HND := hide hnd
 clear hnd hwas
 by_cases k0 : kk = 0
 all_goals
   first
     | (subst k0
        have hnd : nd = 1 := by rw [← HND.out]; rfl)
     | (have k0' : ((kk : Int) == 0) = false := by simp; omega
        have hnd : nd = 0 := by rw [← HND.out, if_neg k0])
   cases more
 all_goals
   have hwl := congrArg List.length HWAS.out
   first
     | rw [if_pos rfl, HMM.out] at hwl
     | (rw [if_neg (by simp)] at hwl
        simp only [List.length_nil] at hwl)
   have HROOM := hide (show ∀ (W : World) (hb : Below w.heap.size w W) (nodes grows : Int) (h1 : nodes = nd) (h2 : grows = (was.length : Int) + n - m), Calls Tryz.prog 31 #[.pointer (some ⟨g, 0, none⟩), .int .i64 nodes, .int .i64 grows] W fun e w' => ∃ rb, e = .returned (.bool rb) ∧ (rb = true ↔ (S.m.length + nd ≤ S.nodes ∧ S.used + (was.length + b.length) ≤ S.bytes + m)) ∧ Drew W w' from by
     intro W hb nodes grows h1 h2
     refine (room_int g S HWF.out nodes grows W (HHS.out.below (VS.fr g S) hb) (by omega) (by omega) (by omega) (by omega)).mono ?_
     rintro e w' ⟨rfl, h⟩
     refine ⟨_, rfl, ?_, h⟩
     rw [decide_eq_true_iff]
     have := HN.out
     omega)
   have HND2 := hide hnd
   have HWL := hide hwl
   clear hnd hwl
   go_wp2_with fail
   refine Calls.mono (HROOM.out _ HB2.out _ _ ?h1 ?h2) ?_
   case h1 => have := HND2.out; omega
   case h2 => have := HWL.out; omega
   rintro e w3 ⟨rb, rfl, hrb, hd3⟩
   have HB3 := hide (below_up HB2.out hd3.below HB2.out.size)
   have HRB := hide hrb
   have HD3 := hide hd3
   clear hd3 hrb
   cases rb with
   | false =>
     have HE := hide (HRQ.out.trans (if_neg (fun h => by have := HRB.out.2 h; cases this)))
     go_wp2
     go_ret
     rw [HE.out]
     exact FsPost.stay H.out OK.out HB3.out
   | true =>
     obtain ⟨hv3, ok3⟩ := H.out.stay OK.out HB3.out
     have HV3 := hide hv3
     have OK3 := hide ok3
     obtain ⟨b3, P3, _, _, _, hg3, _⟩ := hv3
     have hc3 := cellOf hg3 (j := 3) rfl
     have hf3 := freeOf hg3 3
     have hgl := World.block_lt_of_cell? _ _ hc3
     clear ok3
     have hg3' := hg3
     have HG3 := hide hg3
     clear hg3
     have hbb := HN.out
     obtain ⟨u, hu⟩ : ∃ u, S.used + (was.length + b.length) - m = u := ⟨_, rfl⟩
     have HU := hide hu
     have HRA := hide (rg_set hg3' (HRG.out.below HB3.out) 3 (.int .i64 (u : Int)))
     have hr03 := HR0.out.drew HD3.out
     have HRO := hide (rg_set hg3' hr03 3 (.int .i64 (u : Int)))
     have hcond := HRB.out.1 rfl
     have huz : u ≤ 400000 := by omega
     have HE := hide (HRQ.out.trans (if_pos hcond))
     rw [hu] at HE
     have humi : (u : Int) = (S.used : Int) + (was.length + n) - m := by omega
     have HUM := hide humi
     clear hg3' hr03 hbb hcond hu humi
     go_wp2_with fail
     first
       | (have hw : was = [] := by have h := HWAS.out; simp at h; first | exact h | exact h.symm
          subst hw
          have HSL := hide (slb_two (w3.setCell ⟨g, 3, none⟩ (.int .i64 (u : Int))) (A1 := none) (c1 := 0) (D1 := []) (c2 := c) (RG.nil _ _) HRA.out 29)
          rw [show (S.used : Int) + ((n : Int) - (m : Int)) = (u : Int) by have := HUM.out; simp only [List.length_nil] at this; omega])
       | (have hw : was = dataM S.m q := by have h := HWAS.out; simp at h; exact h.symm
          have HSL := hide (slb_two (w3.setCell ⟨g, 3, none⟩ (.int .i64 (u : Int))) (c1 := c0) (c2 := c) HRO.out HRA.out 29)
          rw [← hw, ← HWL.out] at HSL
          clear hw
          rw [show (S.used : Int) + (n : Int) = (u : Int) by have := HUM.out; have := HWL.out; omega])
     all_goals
       rw [HN.out] at HSL
       have hsz4 : (w3.setCell ⟨g, 3, none⟩ (.int .i64 (u : Int))).heap.size = w3.heap.size := by simp
       rw [hsz4] at HSL
       obtain ⟨hv4, ok4⟩ := VS.used HV3.out OK3.out u (kpSet w3 g 3 (.int .i64 (u : Int)))
       have hk4 : Kp w (w3.setCell ⟨g, 3, none⟩ (.int .i64 (u : Int))) T := (Kp.of_below HB3.out T).trans ((kpSet w3 g 3 (.int .i64 (u : Int))).mono (fun k e => by subst e; exact .inl (by obtain ⟨_, _, h1, _⟩ := H.out; exact h1)))
       have HV4 := hide hv4
       have OK4 := hide ok4
       have HK4 := hide hk4
       clear hv4 ok4 hk4
       generalize hW4 : (World.setCell w3 ⟨g, 3, none⟩ (.int .i64 (u : Int))).alloc _ = W4 at HSL ⊢
       have hb4 : Below (World.setCell w3 ⟨g, 3, none⟩ (.int .i64 (u : Int))).heap.size (World.setCell w3 ⟨g, 3, none⟩ (.int .i64 (u : Int))) W4 := by rw [← hW4]; exact (Below.refl _ _).alloc (Nat.le_refl _) _
       have HB4 := hide hb4
       clear hb4 hW4
       have HCC := hide (concat_two w3.heap.size _ _ _ _ _ _ W4 HSL.out (by first | (simp; done) | (have := HWL.out; omega)) (by have := HN.out; omega))
       generalize hD5 : _ ++ b = D5 at HCC
       have HD5 := hide hD5
       obtain ⟨n5, hn5'⟩ : ∃ n, D5.length = n := ⟨_, rfl⟩
       rw [hn5'] at HCC
       have HN5' := hide hn5'
       clear hD5 hn5'
       go_wp2_with fail
       refine HCC.out.mono ?_
       rintro e w5 ⟨⟨A5, c5, rfl, hr5, hn5⟩, hb5⟩
       have HR5 := hide hr5
       have HN5 := hide hn5
       have HB5 := hide (below_up HB4.out hb5 HB4.out.size)
       clear hr5 hn5 hb5 HCC HSL
       obtain ⟨hv5, hgr5⟩ := HV4.out.more OK4.out HB5.out (A := A5) (fun a e => ⟨Nat.le_trans HB4.out.size (HN5.out a e).1, (HN5.out a e).2⟩)
       have HP := put_any g { S with used := u } q ⟨A5, c5, ⟨false, D5, 0⟩⟩ T _ w5 hv5 hgr5.2.2.2 HWF.out.rise (by show S.m.length ≤ 100000; have := HWF.out.nodes; have := HWF.out.n10; omega) (by omega) hck HR5.out (fun a e => .inr ⟨a, e, rfl⟩)
       unfold encN at HP
       simp only at HP
       rw [show ((0 : Nat) : Int) = 0 from rfl, HN5'.out] at HP
       have HPP := hide HP
       have HGR := hide hgr5
       clear HP hv5 hgr5
       go_wp2_with fail
       have h9 := HPP.out
       with_reducible refine Calls.mono h9 ?_
       rintro e w6 ⟨rfl, hv6, hk6⟩
       have HV6 := hide hv6
       have HK6 := hide hk6
       clear hv6 hk6
       go_wp2
       go_ret
       rw [HE.out, HD5.out]
       refine ⟨rfl, _, HV6.out, ?_, ?_⟩
       · have g1 := HGR.out
         have s1 := HK4.out.size
         have s2 := HK6.out.size
         exact ⟨fun k h => .inl h, g1.2.1, fun k h => (g1.2.2.1 k h).imp_right (fun h => Nat.le_trans s1 h), fun k hk => ⟨Nat.lt_of_lt_of_le (g1.2.2.2.1 k hk).1 s2, (g1.2.2.2.1 k hk).2⟩, fun k hk => Nat.lt_of_lt_of_le (g1.2.2.2.2 k hk) s2⟩
       · exact (HK4.out.trans (Kp.of_below HB5.out _)).trans (HK6.out.mono (fun k h => .inl h))
theorem write_any (g : Nat) (S : St) (p b : T) (more : Bool) (A : Option Addr) (c : Nat) (T N : Nat → Prop) (w : World) (h : VS g S T N w) (ok : OkTN T N w) (hS : WfS S) (hm : MX w) (hp : p.length ≤ 50000) (hby : S.bytes ≤ 400000) (hbl : b.length ≤ 400000) (hck : S.clock ≤ 1000000000) (hr : RG encB 1 w A b) :
   Calls Tryz.prog 10 #[.pointer (some ⟨g, 0, none⟩), .string (bs p), .slice A b.length c, .bool more] w (FsPost g (writeS S p b more) T N w) := writeL_any g S p b more A c T N w h ok hS hm (.of (by omega)) hby hbl hck hr
end
section
open Go.RowKit Go.Deep Go.Maps Ln Pth Vf
attribute [local go_sem] bt_eq fld0 fld1 fld2 mkMap
theorem FsPost.later {g : Nat} {r : St × Nat} {T N : Nat → Prop} {w w1 w' : World} {e : Ending} (hb : Below w.heap.size w w1) (h : FsPost g r T N w1 e w') : FsPost g r T N w e w' := by
 obtain ⟨h1, N', hv, ⟨g1, g2, g3, g4⟩, hk⟩ := h
 have hs := hb.size
 exact ⟨h1, N', hv, ⟨fun k h => .inl h, g2, fun k h => (g3 k h).imp_right (Nat.le_trans hs), g4⟩, (Kp.of_below hb T).trans (hk.mono (fun k h => .inl h))⟩
theorem node_in {g : Nat} {S : St} {T N : Nat → Prop} {w : World} (h : VS g S T N w) (q : List UInt8) (n : Nd) (hn : getG S.m (bs q) = some n) (hq : q.length ≤ 100000) : ∃ (b : Nat) (e : En), e.nd = n ∧ w.cell? ⟨g, 0, none⟩ = some (.map (some b)) ∧
   (Instr.lookup 66 (.map (some b)) (.string (bs q)) false).run Tryz.prog w = .ok (encN e) w ∧ RG encB 1 w e.A e.nd.data ∧ ∀ a, e.A = some a → N a.block := by
 obtain ⟨b, P, h1, h2, hgb, hg, hm, hS, hx⟩ := h
 have hlk := nlook1 hm (s := bs q) (by rw [bs_size]; omega)
 rw [hS, strip_get] at hn
 cases hgp : getG P (bs q) with
 | none => rw [hgp] at hn; cases hn
 | some e =>
   rw [hgp] at hn hlk
   injection hn with hn
   exact ⟨b, e, hn, cellOf hg (j := 0) rfl, hlk, hx _ (getG_mem hgp)⟩
theorem mkdir_any (g : Nat) (S : St) (p : T) (T N : Nat → Prop) (w : World) (h : VS g S T N w) (ok : OkTN T N w) (hS : WfS S) (hm : MX w) (hp : p.length ≤ 50000) (hck : S.clock ≤ 1000000000) :
   Calls Tryz.prog 17 #[.pointer (some ⟨g, 0, none⟩), .string (bs p)] w (FsPost g (mkdirS S p) T N w) := by
 have HH : Hs (VS g S) w := ⟨T, N, h, ok⟩
 have HA := hide (vabs_any g S p w HH hm hp)
 have hl := absS_len S p
 have hR : mkdirS S p = if (absS S p).2 ≠ 0 then (S, (absS S p).2) else if kindM S.m (absS S p).1 ≠ 0 then (S, 12) else if S.m.length + 1 ≤ S.nodes ∧ S.used ≤ S.bytes then (Vf.putS S (absS S p).1 true [], 0) else (S, 13) := rfl
 unfold AbsPost at HA
 obtain ⟨q, hq⟩ : ∃ q, (absS S p).1 = q := ⟨_, rfl⟩
 obtain ⟨e, he⟩ : ∃ q, (absS S p).2 = q := ⟨_, rfl⟩
 rw [hq] at HA hR hl
 rw [he] at HA hR
 have HK := hide (fun W (hb : Below w.heap.size w W) => kind_any g S q W (HH.below (VS.fr g S) hb) (by omega))
 have HROOM := hide (fun W (hb : Below w.heap.size w W) => room_int g S hS 1 0 W (HH.below (VS.fr g S) hb) (by omega) (by omega) (by omega) (by omega))
 obtain ⟨kk, hkk⟩ : ∃ y, kindM S.m q = y := ⟨_, rfl⟩
 rw [hkk] at HK hR
 have HR := hide hR
 have H := hide h
 have OK := hide ok
 have HWF := hide hS
 clear hR he h ok hS HH hq hm hkk
 by_cases c1 : e = 0
 case neg =>
   obtain ⟨t1, t2⟩ := ne0 c1
   have HE := hide (HR.out.trans (if_pos c1))
   clear c1
   go_enter Tryz.func17, Tryz.ntmps17
   go_wp2_with fail
   refine HA.out.mono ?_
   rintro e w1 ⟨rfl, hb⟩
   have HB := hide hb
   clear hb
   go_wp2
   go_ret
   rw [HE.out]
   exact FsPost.stay H.out OK.out HB.out
 subst c1
 have hRQ := HR.out.trans (if_neg (by simp))
 by_cases k0 : kk = 0
 case neg =>
   obtain ⟨t1, t2⟩ := ne0 k0
   have HE := hide (hRQ.trans (if_pos k0))
   clear k0 hRQ
   go_enter Tryz.func17, Tryz.ntmps17
   go_wp2_with fail
   refine HA.out.mono ?_
   rintro e w1 ⟨rfl, hb⟩
   have HB := hide hb
   clear hb
   go_wp2_with fail
   refine (HK.out w1 HB.out).mono ?_
   rintro e w2 ⟨rfl, hb⟩
   have HB2 := hide (below_up HB.out hb HB.out.size)
   clear hb
   go_wp2
   go_ret
   rw [HE.out]
   exact FsPost.stay H.out OK.out HB2.out
 subst k0
 have HRQ := hide (hRQ.trans (if_neg (by simp)))
 clear hRQ
 go_enter Tryz.func17, Tryz.ntmps17
 go_wp2_with fail
 refine HA.out.mono ?_
 rintro e w1 ⟨rfl, hb⟩
 have HB := hide hb
 clear hb
 go_wp2_with fail
 refine (HK.out w1 HB.out).mono ?_
 rintro e w2 ⟨rfl, hb⟩
 have HB2 := hide (below_up HB.out hb HB.out.size)
 clear hb
 go_wp2_with fail
 refine (HROOM.out w2 HB2.out).mono ?_
 rintro e w3 ⟨rfl, hd⟩
 have HB3 := hide (below_up HB2.out hd.below HB2.out.size)
 clear hd
 obtain ⟨rb, hrb⟩ : ∃ rb, decide ((S.m.length : Int) + 1 ≤ S.nodes ∧ (S.used : Int) + 0 ≤ (S.bytes : Int)) = rb := ⟨_, rfl⟩
 rw [hrb]
 have HRB := hide (show rb = true ↔ (S.m.length + 1 ≤ S.nodes ∧ S.used ≤ S.bytes) by rw [← hrb, decide_eq_true_iff]; omega)
 clear hrb
 cases rb with
 | false =>
   have HE := hide (HRQ.out.trans (if_neg (fun h => by have := HRB.out.2 h; cases this)))
   go_wp2
   go_ret
   rw [HE.out]
   exact FsPost.stay H.out OK.out HB3.out
 | true =>
   have HE := hide (HRQ.out.trans (if_pos (HRB.out.1 rfl)))
   obtain ⟨hv3, ok3⟩ := H.out.stay OK.out HB3.out
   have HP := put_any g S q ⟨none, 0, ⟨true, [], 0⟩⟩ T N w3 hv3 ok3 HWF.out.rise (by have := HWF.out.nodes; have := HWF.out.n10; omega) (by omega) hck (RG.nil _ _) (fun a e => by cases e)
   unfold encN at HP
   simp only [List.length_nil] at HP
   rw [show ((0 : Nat) : Int) = 0 from rfl] at HP
   have HPP := hide HP
   have OK3 := hide ok3
   clear HP hv3 ok3
   go_wp2_with fail
   refine HPP.out.mono ?_
   rintro e w6 ⟨rfl, hv6, hk6⟩
   have HV6 := hide hv6
   have HK6 := hide hk6
   clear hv6 hk6
   go_wp2
   go_ret
   rw [HE.out]
   exact ⟨rfl, N, HV6.out, GrowN.refl OK.out (Nat.le_trans HB3.out.size HK6.out.size), (Kp.of_below HB3.out T).trans (HK6.out.mono (fun k h => .inl h))⟩
theorem touch_any (g : Nat) (S : St) (p : T) (T N : Nat → Prop) (w : World) (h : VS g S T N w) (ok : OkTN T N w) (hS : WfS S) (hm : MX w) (hp : p.length ≤ 50000) (hby : S.bytes ≤ 400000) (hck : S.clock ≤ 1000000000) :
   Calls Tryz.prog 65 #[.pointer (some ⟨g, 0, none⟩), .string (bs p)] w (FsPost g (touchS S p) T N w) := by
 have HH : Hs (VS g S) w := ⟨T, N, h, ok⟩
 have HA := hide (vabs_any g S p w HH hm hp)
 have hl := absS_len S p
 have hR : touchS S p = if (absS S p).2 ≠ 0 then (S, (absS S p).2) else if (absS S p).1 = [47] then (S, 0) else match getG S.m (bs (absS S p).1) with
   | none => writeS S p [] false
   | some n => (Vf.putS S (absS S p).1 n.dir n.data, 0) := rfl
 unfold AbsPost at HA
 obtain ⟨q, hq⟩ : ∃ q, (absS S p).1 = q := ⟨_, rfl⟩
 obtain ⟨e, he⟩ : ∃ q, (absS S p).2 = q := ⟨_, rfl⟩
 rw [hq] at HA hR hl
 rw [he] at HA hR
 have HK := hide (fun W (hb : Below w.heap.size w W) => kind_any g S q W (HH.below (VS.fr g S) hb) (by omega))
 have HW := hide (fun W (hb : Below w.heap.size w W) => (write_any g S p [] false none 0 T N W (h.stay ok hb).1 (h.stay ok hb).2 hS (hm.below hb) hp hby (by simp) hck (RG.nil _ _)).mono (fun _ _ h => FsPost.later hb h))
 have HR := hide hR
 have H := hide h
 have OK := hide ok
 have HWF := hide hS
 clear hR he h ok hS HH hq hm
 by_cases c1 : e = 0
 case neg =>
   obtain ⟨t1, t2⟩ := ne0 c1
   have HE := hide (HR.out.trans (if_pos c1))
   clear c1
   go_enter Tryz.func65, Tryz.ntmps65
   go_wp2_with fail
   refine HA.out.mono ?_
   rintro e w1 ⟨rfl, hb⟩
   have HB := hide hb
   clear hb
   go_wp2
   go_ret
   rw [HE.out]
   exact FsPost.stay H.out OK.out HB.out
 subst c1
 have hRQ := HR.out.trans (if_neg (by simp))
 by_cases q1 : q = [47]
 · have ht : ((bs q).toList == [47]) = true := by rw [bs_toList, q1]; rfl
   have HE := hide (hRQ.trans (if_pos q1))
   clear hRQ q1
   go_enter Tryz.func65, Tryz.ntmps65
   go_wp2_with fail
   refine HA.out.mono ?_
   rintro e w1 ⟨rfl, hb⟩
   have HB := hide hb
   clear hb
   go_wp2
   go_ret
   rw [HE.out]
   exact FsPost.stay H.out OK.out HB.out
 have ht : ((bs q).toList == [47]) = false := by rw [bs_toList]; simpa using q1
 have hRR := hRQ.trans (if_neg q1)
 clear hRQ
 cases hgn : getG S.m (bs q) with
 | none =>
   rw [hgn] at hRR
   have hk : kindM S.m q = 0 := by unfold kindM; rw [if_neg q1, hgn]
   rw [hk] at HK
   have HE := hide hRR
   clear hRR q1 hk hgn
   go_enter Tryz.func65, Tryz.ntmps65
   go_wp2_with fail
   refine HA.out.mono ?_
   rintro e w1 ⟨rfl, hb⟩
   have HB := hide hb
   clear hb
   go_wp2_with fail
   refine (HK.out w1 HB.out).mono ?_
   rintro e w2 ⟨rfl, hb⟩
   have HB2 := hide (below_up HB.out hb HB.out.size)
   clear hb
   have HW2 := HW.out w2 HB2.out
   have HW3 := hide HW2
   clear HW2
   obtain ⟨r, hr⟩ : ∃ r, writeS S p [] false = r := ⟨_, rfl⟩
   rw [hr] at HW3 HE
   unfold FsPost at HW3
   clear hr
   go_wp2_with fail
   refine HW3.out.mono ?_
   rintro e w3 ⟨rfl, h3⟩
   have H3 := hide h3
   clear h3
   go_wp2
   go_ret
   rw [HE.out]
   exact ⟨rfl, H3.out⟩
 | some n =>
   rw [hgn] at hRR
   have hk : kindM S.m q ≠ 0 := by unfold kindM; rw [if_neg q1, hgn]; simp only; split <;> simp
   obtain ⟨kk, hkk⟩ : ∃ y, kindM S.m q = y := ⟨_, rfl⟩
   rw [hkk] at HK hk
   obtain ⟨t1, t2⟩ := ne0 hk
   have HE := hide hRR
   have HGN := hide hgn
   clear hRR q1 hk hgn hkk
   go_enter Tryz.func65, Tryz.ntmps65
   go_wp2_with fail
   refine HA.out.mono ?_
   rintro e w1 ⟨rfl, hb⟩
   have HB := hide hb
   clear hb
   go_wp2_with fail
   refine (HK.out w1 HB.out).mono ?_
   rintro e w2 ⟨rfl, hb⟩
   have HB2 := hide (below_up HB.out hb HB.out.size)
   clear hb
   obtain ⟨hv2, ok2⟩ := H.out.stay OK.out HB2.out
   obtain ⟨bm, en, hen, hc0, hlk, hr2, hn2⟩ := node_in hv2 q n HGN.out (by omega)
   have HP := put_any g S q en T N w2 hv2 ok2 HWF.out.rise (by have := HWF.out.nodes; have := HWF.out.n10; omega) (by omega) hck hr2 hn2
   rw [hen] at HP
   have HPP := hide HP
   clear HP hv2 ok2 hr2 hn2 hen
   obtain ⟨ev, hev⟩ : ∃ v, encN en = v := ⟨_, rfl⟩
   rw [hev] at HPP hlk
   clear hev
   go_wp2_with fail
   refine HPP.out.mono ?_
   rintro e w6 ⟨rfl, hv6, hk6⟩
   have HV6 := hide hv6
   have HK6 := hide hk6
   clear hv6 hk6
   go_wp2
   go_ret
   rw [HE.out]
   exact ⟨rfl, N, HV6.out, GrowN.refl OK.out (Nat.le_trans HB2.out.size HK6.out.size), (Kp.of_below HB2.out T).trans (HK6.out.mono (fun k h => .inl h))⟩
end
section
open Go.RowKit Go.Deep Go.Maps Ln Pth Vf
end
section
open Go.RowKit Go.Deep Go.Maps Ln Pth Vf
attribute [local go_sem] bt_eq
theorem convYY (w : World) (C : Array Value) (n c : Nat) : (convert 29 29 (.slice (some ⟨w.heap.size, 0, none⟩) n c)).run Tryz.prog (w.alloc (.cells C 5)) = .ok (.slice (some ⟨w.heap.size, 0, none⟩) n c) (w.alloc (.cells C 5 (C.size, C.size + 1))) := Lib.run_convert_bytes_const w 29 5 C n c Tryz.underlying29 Tryz.underlying5
attribute [local go_sem] convYY
theorem num4_any (n : Int) (w : World) : Calls Tryz.prog 60 #[.int .i64 n] w fun e w' => e = .returned (.int .i64 n) ∧ w = w' := by
 go_enter Tryz.func60, Tryz.ntmps60
 go_wp2
 go_ret
 exact ⟨rfl, rfl⟩
end
end Go.Proofs.YtmcophlmcloooaaGreatDoor

namespace Go.Proofs.YtmcophlmcloooaaGreatDoor
section
open Go.RowKit Go.Deep Go.Sort
theorem strVals_enc (F : List ByteArray) : strVals F = (F.map fun s => s.data.toList).map encStr := by
 unfold strVals
 rw [List.map_map]
 apply List.map_congr_left
 intro s _
 rfl
theorem enc_strVals (L : List (List UInt8)) : strVals (L.map fun l => (⟨l.toArray⟩ : ByteArray)) = L.map encStr := by
 unfold strVals
 rw [List.map_map]
 rfl
theorem sortOwn_any {w : World} {base : Nat} {v : Value} {F : List ByteArray} (h : OwnS w base v F) (hl : F.length ≤ 100000) :
   Calls Tryz.prog 159 #[v] w fun e w' => e = .returned (.tuple #[]) ∧ OwnS w' base v (((F.map fun s => s.data.toList).mergeSort fun x y => decide (x ≤ y)).map fun l => (⟨l.toArray⟩ : ByteArray)) ∧ w.grownBy w' v.ownBlock := by
 rcases h.2 with ⟨rfl, hn⟩ | ⟨g, cap, cur, rfl, hbg, hh, hc, hm, hs, ht⟩
 · have hF : F = [] := List.eq_nil_of_length_eq_zero hn
   subst hF
   exact (Tryz.slices_Sort_string_none none 0 w).mono fun e w' ⟨h1, h2⟩ => ⟨h1, by rw [h2]; simpa using OwnS.nil w base, by rw [h2]; exact World.grownBy.refl _ _⟩
 · have hlen : (F.map fun s => s.data.toList).length = F.length := by simp
   rw [Nat.mul_one] at ht
   have hH : Holds encStr w g 0 (F.map fun s => s.data.toList).toArray := holds_of_block hh (by rw [hlen, ht, strVals_enc])
   have := Tryz.slices_Sort_string g 0 cap (F.map fun s => s.data.toList) w hH (World.ownsRow.lt h g rfl).2 (by rw [hlen]; omega)
   rw [hlen] at this
   refine this.mono ?_
   rintro e w' ⟨rfl, n, os, rfl⟩
   refine ⟨rfl, ?_, grownBy_sorted _⟩
   have ho := ownsRow_sorted (n := n) (os := os) (ss := F.map fun s => s.data.toList) (ts := (F.map fun s => s.data.toList).mergeSort fun x y => decide (x ≤ y)) (by simp) hbg hh (by rw [hlen]; exact hc) hm hs
   unfold OwnS
   rw [enc_strVals]
   simpa using ho
end
section
open Go.RowKit Go.Deep Go.Maps Ln Pth Vf
attribute [local go_sem] bt_eq fld0 fld1 fld2 mkMap
theorem trim_slash (q : T) : (Lib.trimSuffix (bs q).data.toList [47]) ++ [47] = frontF q := by
 rw [bs_list]
 unfold Lib.trimSuffix Lib.hasSuffix frontF
 have h : ([47] : List UInt8).isSuffixOf q = decide (q.getLast? = some 47) := by
   rw [Bool.eq_iff_iff, List.isSuffixOf_iff_suffix, decide_eq_true_iff]
   constructor
   · rintro ⟨t, rfl⟩; simp
   · intro h
     obtain ⟨t, ht⟩ := List.getLast?_eq_some_iff.1 h
     exact ⟨t, ht.symm⟩
 rw [h]
 by_cases e : q.getLast? = some 47
 · simp only [e, decide_true, if_true]
   rw [List.dropLast_eq_take]; rfl
 · simp only [e, decide_false, if_false]; rfl
theorem front_any (q : T) (w : World) (hq : q.length ≤ 100000) : Calls Tryz.prog 94 #[.string (bs q), .string ⟨#[47]⟩] w fun e w' => ∃ s : ByteArray, e = .returned (.string s) ∧ w = w' ∧ s ++ (⟨#[47]⟩ : ByteArray) = bs (frontF q) ∧ s.size ≤ 100000 := by
 refine (Tryz.strings_TrimSuffix (bs q) ⟨#[47]⟩ w (by rw [bs_size]; omega)).mono ?_
 rintro e w' ⟨h1, h2⟩
 refine ⟨_, h1, h2.symm, ?_, ?_⟩
 · rw [← trim_slash]
   exact bs_app _ [47]
 · rw [show (⟨#[47]⟩ : ByteArray).data.toList = [47] from rfl, bs_list]
   show (bs _).size ≤ _
   rw [bs_size]
   unfold Lib.trimSuffix
   split
   · rw [List.length_take]; omega
   · omega
theorem pre_any (s : ByteArray) (fr : T) (w : World) : Calls Tryz.prog 47 #[.string s, .string (bs fr)] w fun e w' => e = .returned (.bool (preB fr s.data.toList)) ∧ w = w' := by
 refine (Tryz.strings_HasPrefix s (bs fr) w).mono ?_
 rintro e w' ⟨h1, h2⟩
 rw [bs_list] at h1
 exact ⟨h1, h2.symm⟩
abbrev NRng (w : World) (b r : Nat) (P : KV En) (left : Lit → Bool) (cnt : Nat) : Prop := w.ranges Tryz.prog 9 hR b r P.length (datG fN P) left cnt
theorem key_in {P : KV En} {x : ByteArray} {kl : Lit} {y : DataW Value × List MemPlace} (hkey : keyOf Tryz.prog 9 (.string x) = some kl) (hat : ∀ zd, (datG fN P).atKey kl zd = y.1) : kl = kLit x ∧ x ∈ P.map (·.1) := by
 have hk : kl = kLit x := by
   obtain ⟨s, h1, h2, h3⟩ := Go.WideMaps.string_of_keyOf Tryz.underlying9 hkey
   injection h1 with h1
   rw [h1]
   exact h2
 refine ⟨hk, ?_⟩
 subst hk
 cases hg : getG P x with
 | none =>
   have h1 := hat (.lit (.bool true))
   have h2 := hat (.lit (.bool false))
   rw [datG_at, hg] at h1 h2
   simp only at h1 h2
   rw [← h2] at h1
   injection h1 with h1
   injection h1 with h1
   cases h1
 | some e => exact List.mem_map.2 ⟨_, getG_mem hg, rfl⟩
def gone (left : Lit → Bool) (k : ByteArray) : Bool := !left (kLit k)
theorem gone_step (left : Lit → Bool) (x k : ByteArray) : gone (fun z => left z && !z.sameKey (kLit x)) k = (gone left k || decide (k = x)) := by
 unfold gone
 simp only [same_kLit]
 cases left (kLit k) <;> simp
def collB (P : KV En) (fr : T) (left : Lit → Bool) : List ByteArray := (P.map (·.1)).filter fun k => preB fr k.data.toList && gone left k
theorem coll_len (P : KV En) (fr : T) (left : Lit → Bool) : (collB P fr left).length ≤ P.length := by
 unfold collB
 refine Nat.le_trans (List.length_filter_le _ _) ?_
 rw [List.length_map]; exact Nat.le_refl _
theorem coll_start (P : KV En) (fr : T) : collB P fr (Maps.has (datG fN P)) = [] := by
 unfold collB
 rw [List.filter_eq_nil_iff]
 intro k hk
 obtain ⟨x, hx, rfl⟩ := List.mem_map.1 hk
 have : gone (Maps.has (datG fN P)) x.1 = false := by
   unfold gone
   rw [datG_has]
   have : (getG P x.1).isSome = true := by
     unfold getG
     rw [Option.isSome_map, List.find?_isSome]
     exact ⟨x, hx, by simp⟩
   rw [this]; rfl
 rw [this]
 simp
theorem coll_end (P : KV En) (q : T) {left : Lit → Bool} (h : ∀ kl, left kl = false) : (collB P (frontF q) left).map (fun s => s.data.toList) = belowM (stripN P) q := by
 rw [below_map]
 unfold collB stripN gone
 rw [List.map_map]
 congr 1
 apply List.filter_congr
 intro k _
 rw [h]
 simp
theorem below_anyR (g : Nat) (S : St) (hSr : RiseG S.m) (hSn : S.m.length ≤ 10000) (q : T) (w : World) (h : Hs (VS g S) w) (hq : q.length ≤ 90000) :
   Calls Tryz.prog 95 #[.pointer (some ⟨g, 0, none⟩), .string (bs q)] w fun e w' => (∃ v, e = .returned v ∧ OwnS w' w.heap.size v ((belowM S.m q).map bs)) ∧ Below w.heap.size w w' := by
 obtain ⟨b, P, hgb, hg, hm, hsm, _⟩ := VS.opn h
 have hc0 := cellOf hg (j := 0) rfl
 have hbl := hm.lt
 have hrise : RiseG P := strip_rise.1 (hsm ▸ hSr)
 have hnd := rise_nodup hrise
 have hpl : P.length ≤ 10000 := by rw [← strip_len, ← hsm]; exact hSn
 have HF := hide (front_any q w (by omega))
 have HM := hide hm
 have HSM := hide hsm
 have HND := hide hnd
 have HR := hide hrise
 have hfl : (frontF q).length ≤ 90001 := by
   unfold frontF
   rw [List.length_append]
   split
   · rw [List.length_dropLast]; simp; omega
   · simp; omega
 obtain ⟨fr, hfr⟩ : ∃ fr, frontF q = fr := ⟨_, rfl⟩
 rw [hfr] at HF hfl
 have HFR := hide hfr
 have zfr : (bs fr).size = fr.length := bs_size fr
 clear h hSr hSn hg hm hsm hgb hrise hnd hfr
 go_enter Tryz.func95, Tryz.ntmps95
 go_wp2_with fail
 refine HF.out.mono ?_
 rintro e w' ⟨s, rfl, rfl, hsf, hss⟩
 clear HF
 go_wp2_with (at_range; refine wpList_range_own _ rfl _ 66 rfl 9 77 nkeyed Tryz.underlying66 hR b P.length (datG fN P) rfl HM.out ?_; intro w0 hrg0 hg0 hs0)
 have hb0 : Below w.heap.size w w0 := ⟨hg0.os, hg0.tape, hg0.output, hg0.size, fun k hk => hg0.block k hk (by simp)⟩
 have HB0 := hide hb0
 have HG0 := hide hrg0
 have HCS := hide (coll_start P fr)
 clear hb0 hg0 hrg0
 obtain ⟨r, hr⟩ : ∃ r, w.heap.size = r := ⟨_, rfl⟩
 rw [hr] at HG0 hbl hs0 ⊢
 have HRR := hide hr
 clear hr
 go_frame
 go_loopw [6, 7] (fun v6 _ wr => ∃ (acc : List ByteArray) (left : Lit → Bool) (cnt : Nat), NRng wr b r P left cnt ∧ OwnS wr (r + 1) v6 acc ∧ Hid (acc.Perm (collB P fr left)) ∧ r + 1 ≤ wr.heap.size ∧ Below r w wr) (fun _ _ wr => wr.rangeLeft b r)
 case atStart => exact ⟨[], _, _, HG0.out, OwnS.nil _ _, by show List.Perm _ _; rw [HCS.out], by omega, by rw [← HRR.out]; exact HB0.out⟩
 case round =>
   obtain ⟨acc, left, cnt, hrg, ho, HP, hsz, hbw⟩ := hrel
   have HRG := hide hrg
   have HO := hide ho
   have HBW := hide hbw
   clear hrg ho hbw
   go_wp2_with (at_next; refine wpList_next_ranges _ rfl _ rfl 9 nkeyed hR Value.string (fun v : Value => v) (fun key kl h => by obtain ⟨s, h1, _⟩ := Go.WideMaps.string_of_keyOf Tryz.underlying9 h; exact ⟨s, h1⟩) (fun v y _ => ⟨v, rfl⟩) b r P.length (datG fN P) left cnt rfl HRG.out ?_ ?_)
   · intro hc0 hl0
     have HL0 := hide hl0
     clear hl0 hc0
     have hal : acc.length ≤ 100000 := by
       have := HP.out.length_eq
       have := coll_len P fr left
       omega
     have HSO := hide (sortOwn_any HO.out hal)
     have HBQ := hide (show (((acc.map fun s => s.data.toList).mergeSort fun x y => decide (x ≤ y)).map fun l => (⟨l.toArray⟩ : ByteArray)) = (belowM S.m q).map bs by
       have h1 := HP.out.map (fun s : ByteArray => s.data.toList)
       rw [← HFR.out, coll_end P q HL0.out] at h1
       have hr' : RiseG (stripN P) := strip_rise.2 HR.out
       rw [sort_below hr' q h1, HSM.out]
       rfl)
     rw [HBQ.out] at HSO
     clear HRG HP hal
     go_wp2_with fail
     refine HSO.out.mono ?_
     rintro e w2 ⟨rfl, ho2, hg2⟩
     have HO2 := hide ho2
     have HB2 := hide (HBW.out.grown hg2 (by omega) (fun k hk => by have := (World.ownsRow.lt HO.out k hk).1; omega))
     clear ho2 hg2
     go_wp2
     go_ret
     exact ⟨⟨_, rfl, HO2.out.base (by have := HRR.out; omega)⟩, by have := HRR.out; rw [this]; exact HB2.out⟩
   · intro x c kl y1 y2 w1 cnt1 hkey hlk hv hat hrg1 hlt hgr1 hsz1 hen
     obtain ⟨rfl, hxin⟩ := key_in (y := (y1, y2)) hkey hat
     have hgs : gone left x = false := by unfold gone; rw [hlk]; rfl
     have HST := hide (filt_step HND.out hxin (p := fun k => preB fr k.data.toList) (q := gone left) (q' := gone (fun z => left z && !z.sameKey (kLit x))) (fun k => gone_step left x k) hgs)
     have HR1 := hide hrg1
     have HO1 := hide (HO.out.kept hgr1 (.inr (fun e => by have := (World.ownsRow.lt HO.out r e).1; omega)))
     have hb1 : Below r w w1 := HBW.out.grown hgr1 (by omega) (fun k hk => by injection hk with hk; omega)
     have HB1 := hide hb1
     have HCN := hide (show wr.rangeLeft b r = cnt from HRG.out.left_eq)
     have hxl : acc.length ≤ 10000 := by
       have := HP.out.length_eq
       have := coll_len P fr left
       omega
     have hs1a : r + 1 ≤ w1.heap.size := by omega
     clear hkey hlk hv hat hrg1 hgr1 hb1 hxin hgs hsz1
     obtain ⟨pb, hpb⟩ : ∃ b, preB fr x.data.toList = b := ⟨_, rfl⟩
     have HPA := hide (pre_any x fr w1)
     rw [hpb] at HPA
     have HPB := hide hpb
     clear hpb
     go_wp2_with fail
     refine HPA.out.mono ?_
     rintro e w' ⟨rfl, rfl⟩
     cases pb with
     | false =>
       have HE := hide (show acc.Perm (collB P fr (fun z => left z && !z.sameKey (kLit x))) from by
         have h1 := HST.out
         simp only [HPB.out, Bool.false_eq_true, if_false, List.append_nil] at h1
         exact HP.out.trans h1.symm)
       go_wp2
       go_roundw
       case rel => exact ⟨acc, _, cnt1, HR1.out, HO1.out, HE.out, by omega, HB1.out⟩
       case measure => rw [HR1.out.left_eq, HCN.out]; exact hlt
     | true =>
       have HE := hide (show (acc ++ [x]).Perm (collB P fr (fun z => left z && !z.sameKey (kLit x))) from by
         have h1 := HST.out
         simp only [HPB.out, if_true] at h1
         exact (HP.out.append (List.Perm.refl [x])).trans h1.symm)
       obtain ⟨v4, w4, r4, o4, g4, b4⟩ := run_appS (c := 1) (OwnS.alloc HO1.out (.cells #[.string x] 9)) (sr_new w1 x) (by simp; omega) (by simp; omega)
       have HO4 := hide o4
       have HR4 := hide ((HR1.out.alloc (.cells #[.string x] 9)).kept g4 (fun e => by have := (World.ownsRow.lt HO.out b e.symm).1; omega) (fun e => by have := (World.ownsRow.lt HO.out r e.symm).1; omega))
       have HB4 := hide ((HB1.out.alloc (by omega) (.cells #[.string x] 9)).grown g4 (by simp; omega) (fun k hk => by have := (World.ownsRow.lt HO.out k hk).1; omega))
       have hz4 : r + 1 ≤ w4.heap.size := by have := g4.size; simp at this; omega
       clear o4 g4 b4
       go_wp2_with (at_builtin; refine wpList_app_run ?_ (.tmp 23) (.tmp 25) ?_ ?_ ?_ ?_ r4 ?_; exact rfl; exact rfl; exact rfl; exact rfl; exact rfl)
       go_roundw
       case rel => exact ⟨acc ++ [x], _, cnt1, HR4.out, HO4.out, HE.out, hz4, HB4.out⟩
       case measure => rw [HR4.out.left_eq, HCN.out]; exact hlt
theorem below_any (g : Nat) (S : St) (hS : WfS S) (q : T) (w : World) (h : Hs (VS g S) w) (hq : q.length ≤ 90000) :
   Calls Tryz.prog 95 #[.pointer (some ⟨g, 0, none⟩), .string (bs q)] w fun e w' => (∃ v, e = .returned v ∧ OwnS w' w.heap.size v ((belowM S.m q).map bs)) ∧ Below w.heap.size w w' :=
 below_anyR g S hS.rise (by have := hS.nodes; have := hS.n10; omega) q w h hq
theorem names_take {fr : T} {L : List T} {k : Nat} {x : T} (h : L[k]? = some x) : (((L.take (k + 1)).map (List.drop fr.length)).filter fun s => decide (47 ∉ s)) = (((L.take k).map (List.drop fr.length)).filter fun s => decide (47 ∉ s)) ++ if 47 ∈ x.drop fr.length then [] else [x.drop fr.length] := by
 rw [List.take_add_one, h, List.map_append, List.filter_append]
 congr 1
 simp only [Option.toList_some, List.map_cons, List.map_nil, List.filter_cons, List.filter_nil]
 by_cases e : 47 ∈ x.drop fr.length
 · simp [e]
 · simp [e]
theorem has47_any (l : T) (w : World) : Calls Tryz.prog 96 #[.string (bs l), .string ⟨#[47]⟩] w fun e w' => e = .returned (.bool (decide (47 ∈ l))) ∧ w = w' := by
 have := Tryz.strings_Contains_one (bs l) 47 w
 rw [bs_list, show decide (0 ≤ Lib.indexByte l 47) = decide ((47 : UInt8) ∈ l) from decide_eq_decide.2 (ixb_mem 47 l)] at this
 exact this.mono fun e w' ⟨h1, h2⟩ => ⟨h1, h2.symm⟩
theorem names_any (g : Nat) (S : St) (hS : WfS S) (q : T) (w : World) (h : Hs (VS g S) w) (hq : q.length ≤ 90000) :
   Calls Tryz.prog 44 #[.pointer (some ⟨g, 0, none⟩), .string (bs q)] w fun e w' => (∃ v, e = .returned v ∧ OwnS w' w.heap.size v ((namesM S.m q).map bs)) ∧ Below w.heap.size w w' := by
 have HF := hide (front_any q w (by omega))
 have HBL := hide (below_any g S hS q w h hq)
 have hpl : S.m.length ≤ 10000 := by have := hS.nodes; have := hS.n10; omega
 have hbl : (belowM S.m q).length ≤ 10000 := by
   unfold belowM
   refine Nat.le_trans (List.length_filter_le _ _) ?_
   rw [List.length_map]; exact hpl
 have hmem : ∀ x ∈ belowM S.m q, (frontF q).length ≤ x.length ∧ x.length ≤ 200 := by
   intro x hx
   obtain ⟨r, n, rfl, hm⟩ := mem_below.1 hx
   refine ⟨by simp, ?_⟩
   obtain ⟨l, hl, _, e⟩ := hS.good _ hm
   have := hl.len
   rw [← bs_inj e] at this
   exact this
 have hR : namesM S.m q = ((belowM S.m q).map (List.drop (frontF q).length)).filter fun s => decide (47 ∉ s) := rfl
 obtain ⟨L, hL⟩ : ∃ L, belowM S.m q = L := ⟨_, rfl⟩
 obtain ⟨fr, hfr⟩ : ∃ fr, frontF q = fr := ⟨_, rfl⟩
 rw [hL] at HBL hbl hmem hR
 rw [hfr] at HF hmem hR
 have HMEM := hide hmem
 have HR := hide hR
 have zfr : (bs fr).size = fr.length := bs_size fr
 have hfl : fr.length ≤ 90001 := by
   rw [← hfr]
   unfold frontF
   rw [List.length_append]
   split
   · rw [List.length_dropLast]; simp; omega
   · simp; omega
 clear h hS hmem hR hL hfr hpl
 obtain ⟨n, hn⟩ : ∃ n, L.length = n := ⟨_, rfl⟩
 have HN := hide hn
 rw [hn] at hbl
 clear hn
 have hn1 : (n : Int) ≤ 10000 := by omega
 obtain ⟨fl, hfl'⟩ : ∃ k, fr.length = k := ⟨_, rfl⟩
 have HFL := hide hfl'
 rw [hfl'] at zfr hfl
 clear hfl'
 go_enter Tryz.func44, Tryz.ntmps44
 go_wp2_with fail
 refine HF.out.mono ?_
 rintro e w' ⟨s, rfl, rfl, hsf, hss⟩
 clear HF
 go_wp2_with fail
 refine HBL.out.mono ?_
 rintro e w1 ⟨⟨v, rfl, ho⟩, hb⟩
 obtain ⟨A, c, rfl, hc, hsr, _⟩ := ho.slice
 rw [List.length_map, HN.out] at hc ⊢
 have HSR := hide hsr
 have HB1 := hide hb
 clear ho hb hsr
 have hw1 : w.heap.size ≤ w1.heap.size := HB1.out.size
 go_wp2
 go_loopw [6, 8, 9, 17] (fun v6 _ _ v17 wr => ∃ k : Nat, v17 = .int .i64 k ∧ k ≤ n ∧ OwnS wr w1.heap.size v6 ((((L.take k).map (List.drop fr.length)).filter fun s => decide (47 ∉ s)).map bs) ∧ Below w1.heap.size w1 wr) (fun _ _ _ v17 _ => n - (intOf v17).toNat)
 case atStart => exact ⟨0, rfl, by omega, OwnS.nil _ _, Below.refl _ _⟩
 case round =>
   obtain ⟨k, rfl, hk, ho, hb1⟩ := hrel
   have HO := hide ho
   have HB := hide (below_up HB1.out hb1 hw1)
   have HBW := hide hb1
   have HAR := hide (HSR.out.below hb1)
   clear ho hb1
   by_cases hlt : k < n
   · obtain ⟨x, hx⟩ : ∃ x, L[k]? = some x := ⟨L[k]'(by have := HN.out; omega), gE _⟩
     obtain ⟨gs, o, rfl, hg, hc⟩ := HAR.out k (bs x) (by rw [List.getElem?_map, hx]; rfl)
     obtain ⟨hx1, hx2⟩ := HMEM.out x (List.mem_of_getElem? hx)
     rw [HFL.out] at hx1
     have HTK := hide (names_take (fr := fr) hx)
     have zx : (bs x).size = x.length := bs_size x
     obtain ⟨xl, hxl⟩ : ∃ k, x.length = k := ⟨_, rfl⟩
     rw [hxl] at zx hx1 hx2
     have HXL := hide hxl
     have HEX := hide (show (bs x).extract fl (bs x).size = bs (x.drop fr.length) by rw [ext_bs, bs_size, HFL.out, List.take_of_length_le (by rw [List.length_drop]; omega)])
     have HH := hide (has47_any (x.drop fr.length) wr)
     have b1 : (k : Int) < (n : Int) := by omega
     have hql : ((((L.take k).map (List.drop fr.length)).filter fun s => decide (47 ∉ s)).map bs).length ≤ 10000 := by
       rw [List.length_map]
       refine Nat.le_trans (List.length_filter_le _ _) ?_
       rw [List.length_map, List.length_take]
       omega
     have hwr : w1.heap.size ≤ wr.heap.size := HBW.out.size
     clear hx hxl
     rw [zx] at HEX
     rw [← HEX.out] at HH
     obtain ⟨cb, hcb⟩ : ∃ b, decide ((47 : UInt8) ∈ x.drop fr.length) = b := ⟨_, rfl⟩
     rw [hcb] at HH
     have HCB := hide hcb
     clear hcb
     go_wp2_with fail
     refine HH.out.mono ?_
     rintro e w' ⟨rfl, rfl⟩
     cases cb with
     | true =>
       have HE := hide (show (((L.take (k + 1)).map (List.drop fr.length)).filter fun s => decide (47 ∉ s)) = (((L.take k).map (List.drop fr.length)).filter fun s => decide (47 ∉ s)) by rw [HTK.out, if_pos (of_decide_eq_true HCB.out), List.append_nil])
       go_wp2
       go_roundw
       case rel => exact ⟨k + 1, by go_num, by omega, by rw [HE.out]; exact HO.out, HBW.out⟩
       case measure => simp [intOf]; omega
     | false =>
       have HE := hide (show (((L.take (k + 1)).map (List.drop fr.length)).filter fun s => decide (47 ∉ s)) = (((L.take k).map (List.drop fr.length)).filter fun s => decide (47 ∉ s)) ++ [x.drop fr.length] by rw [HTK.out, if_neg (of_decide_eq_false HCB.out)])
       obtain ⟨y, hy⟩ : ∃ y, (bs x).extract fl xl = y := ⟨_, rfl⟩
       have HY := hide hy
       obtain ⟨v4, w4, r4, o4, g4, b4⟩ := run_appS (c := 1) (OwnS.alloc HO.out (.cells #[.string y] 9)) (sr_new wr y) (by simp; omega) (by simp only [List.length_cons, List.length_nil]; omega)
       have HO4 := hide o4
       have HB4 := hide ((HBW.out.alloc hwr (.cells #[.string y] 9)).grown g4 (by simp; omega) (fun q hq => (World.ownsRow.lt HO.out q hq).1))
       have HYB := hide (show y = bs (x.drop fr.length) by rw [← hy]; exact HEX.out)
       clear o4 g4 b4
       go_wp2_with (at_builtin; refine wpList_app_run ?_ (.tmp 28) (.tmp 30) ?_ ?_ ?_ ?_ r4 ?_; exact rfl; exact rfl; exact rfl; exact rfl; exact rfl)
       go_roundw
       case rel => exact ⟨k + 1, by go_num, by omega, by rw [HE.out, List.map_append]; have := HO4.out; rw [HYB.out] at this; exact this, HB4.out⟩
       case measure => simp [intOf]; omega
   · obtain rfl : k = n := by omega
     have HF := hide (show (((L.take k).map (List.drop fr.length)).filter fun s => decide (47 ∉ s)) = namesM S.m q by rw [List.take_of_length_le (by have := HN.out; omega), HR.out])
     rw [HF.out] at HO
     go_wp2
     go_ret
     exact ⟨⟨_, rfl, HO.out.base hw1⟩, HB.out⟩
end
section
open Go.RowKit Go.Deep Go.Maps Ln Pth Vf
attribute [local go_sem] bt_eq fld0 fld1 fld2 mkMap
def ListPost (r : List T × Nat) (w : World) (e : Ending) (w' : World) : Prop := (∃ v, e = .returned (.tuple #[v, .int .i64 r.2]) ∧ OwnS w' w.heap.size v (r.1.map bs)) ∧ Below w.heap.size w w'
theorem list_any (g : Nat) (S : St) (hS : WfS S) (p : T) (w : World) (h : Hs (VS g S) w) (hm : MX w) (hp : p.length ≤ 50000) :
   Calls Tryz.prog 19 #[.pointer (some ⟨g, 0, none⟩), .string (bs p)] w (ListPost (listS S p) w) := by
 have HA := hide (vfound_any g S p w h hm hp)
 have hl : (foundS S p).1.length ≤ 200 := absS_len S p
 have HK := hide (fun W (hb : Below w.heap.size w W) => kind_any g S (foundS S p).1 W (h.below (VS.fr g S) hb) (by omega))
 have HNM := hide (fun W (hb : Below w.heap.size w W) => names_any g S hS (foundS S p).1 W (h.below (VS.fr g S) hb) (by omega))
 have hR : listS S p = if (foundS S p).2 ≠ 0 then ([], (foundS S p).2) else if kindM S.m (foundS S p).1 = 1 then ([], 11) else (namesM S.m (foundS S p).1, 0) := rfl
 unfold AbsPost at HA
 obtain ⟨q, hq⟩ : ∃ q, (foundS S p).1 = q := ⟨_, rfl⟩
 obtain ⟨e, he⟩ : ∃ q, (foundS S p).2 = q := ⟨_, rfl⟩
 rw [hq] at HA HK HNM hR hl
 rw [he] at HA hR
 obtain ⟨y, hy⟩ : ∃ y, kindM S.m q = y := ⟨_, rfl⟩
 rw [hy] at HK hR
 have HR := hide hR
 clear hR hq he hy h hm
 by_cases c1 : e = 0
 case neg =>
   obtain ⟨t1, t2⟩ := ne0 c1
   have HE := hide (HR.out.trans (if_pos c1))
   clear c1
   go_enter Tryz.func19, Tryz.ntmps19
   go_wp2_with fail
   refine HA.out.mono ?_
   rintro e w1 ⟨rfl, hb⟩
   have HB := hide hb
   clear hb
   go_wp2
   go_ret2
   unfold ListPost
   rw [HE.out]
   exact ⟨⟨_, rfl, OwnS.nil _ _⟩, HB.out⟩
 subst c1
 have hRQ := HR.out.trans (if_neg (by simp))
 by_cases c2 : y = 1
 · subst c2
   have HE := hide (hRQ.trans (if_pos rfl))
   clear hRQ
   go_enter Tryz.func19, Tryz.ntmps19
   go_wp2_with fail
   refine HA.out.mono ?_
   rintro e w1 ⟨rfl, hb⟩
   have HB := hide hb
   clear hb
   go_wp2_with fail
   refine (HK.out w1 HB.out).mono ?_
   rintro e w2 ⟨rfl, hb⟩
   have HB2 := hide (below_up HB.out hb HB.out.size)
   clear hb
   go_wp2
   go_ret2
   unfold ListPost
   rw [HE.out]
   exact ⟨⟨_, rfl, OwnS.nil _ _⟩, HB2.out⟩
 · have c2' : ((y : Int) == 1) = false := by simp; omega
   have HE := hide (hRQ.trans (if_neg c2))
   clear hRQ c2
   go_enter Tryz.func19, Tryz.ntmps19
   go_wp2_with fail
   refine HA.out.mono ?_
   rintro e w1 ⟨rfl, hb⟩
   have HB := hide hb
   clear hb
   go_wp2_with fail
   refine (HK.out w1 HB.out).mono ?_
   rintro e w2 ⟨rfl, hb⟩
   have HB2 := hide (below_up HB.out hb HB.out.size)
   clear hb
   go_wp2_with fail
   refine (HNM.out w2 HB2.out).mono ?_
   rintro e w3 ⟨⟨v, rfl, ho⟩, hb⟩
   have HB3 := hide (below_up HB2.out hb HB2.out.size)
   have HO := hide (ho.base HB2.out.size)
   clear hb ho
   go_wp2
   go_ret2
   unfold ListPost
   rw [HE.out]
   exact ⟨⟨_, rfl, HO.out⟩, HB3.out⟩
end
section
open Go.RowKit Go.Deep Go.Maps Ln Pth Vf Qm.Glob
attribute [local go_sem] bt_eq
def plT (p : ByteArray) : Option ByteArray := if plAll (gItems (bt p) p.size) then some (sb (plBytes (gItems (bt p) p.size))) else none
theorem plVal_plT (p : ByteArray) : plVal (plAll (gItems (bt p) p.size)) (plBytes (gItems (bt p) p.size)) = .tuple #[.string ((plT p).getD ⟨#[]⟩), .bool (plT p).isSome] := by
 unfold plVal plT
 split <;> rfl
def dotsB (p : ByteArray) : Bool := match plT p with
 | some q => decide (q = ⟨#[46]⟩) || decide (q = ⟨#[46, 46]⟩)
 | none => false
def fnamesB (fs : St) (a p : ByteArray) : List ByteArray := if dotsB p then [(plT p).getD ⟨#[]⟩] else namesOf p ((listS fs a.data.toList).1.map bs)
def goSp (s : Spt) (n : ByteArray) : Spt := (if s.1 = ⟨#[]⟩ then n else bs (Lib.trimSuffix s.1.data.toList [47]) ++ ⟨#[47]⟩ ++ n, bs (absF s.2.data.toList n.data.toList).1)
def stepB (fs : St) (l : List Spt) (p : ByteArray) : List Spt := l.flatMap fun s => (fnamesB fs s.2 p).map (goSp s)
def sortSp (L : List Spt) : List Spt := L.foldl (fun acc x => putG x acc) []
def firstB (L : List Spt) : List Spt := (sortSp L).take 500
def keepB (fs : St) (p : ByteArray) (s : Spt) : Bool := decide (kindS fs s.2.data.toList ≠ 2) && !dotsB p
theorem toList_eq (a b : ByteArray) : (a.toList == b.toList) = decide (a = b) := by
 rw [ByteArray.toList_eq, ByteArray.toList_eq]
 by_cases h : a = b
 · subst h; simp
 · rw [decide_eq_false h, beq_eq_false_iff_ne]
   intro e
   exact h (ByteArray.ext (Array.toList_inj.1 e))
theorem dots_any (p : ByteArray) (w : World) (hp : p.size ≤ 1000) : Calls Tryz.prog 57 #[.string p] w fun e w' => e = .returned (.bool (dotsB p)) ∧ Below w.heap.size w w' := by
 have HPL := hide (gplain_any p w hp)
 rw [plVal_plT] at HPL
 unfold dotsB
 cases hq : plT p with
 | none =>
   rw [hq] at HPL
   clear hq
   go_enter Tryz.func57, Tryz.ntmps57
   go_wp2_with fail
   refine HPL.out.mono ?_
   rintro e w1 ⟨rfl, hb1⟩
   go_wp2
   go_ret
   exact ⟨rfl, hb1⟩
 | some q =>
   rw [hq] at HPL
   have HPL := hide (show Calls Tryz.prog _ _ _ (fun e w' => e = .returned (.tuple #[.string q, .bool true]) ∧ Below w.heap.size w w') from HPL.out)
   dsimp only
   have e1 : decide (q = ⟨#[46]⟩) = (q.toList == [46]) := by
     rw [← toList_eq, ByteArray.toList_eq ⟨#[46]⟩]
   have e2 : decide (q = ⟨#[46, 46]⟩) = (q.toList == [46, 46]) := by
     rw [← toList_eq, ByteArray.toList_eq ⟨#[46, 46]⟩]
   rw [e1, e2]
   clear hq e1 e2
   by_cases h1 : q.toList = [46]
   · go_enter Tryz.func57, Tryz.ntmps57
     go_wp2_with fail
     refine HPL.out.mono ?_
     rintro e w1 ⟨rfl, hb1⟩
     go_wp2
     go_ret
     exact ⟨by simp [h1], hb1⟩
   · by_cases h2 : q.toList = [46, 46]
     · go_enter Tryz.func57, Tryz.ntmps57
       go_wp2_with fail
       refine HPL.out.mono ?_
       rintro e w1 ⟨rfl, hb1⟩
       go_wp2
       go_ret
       exact ⟨by simp [h1, h2], hb1⟩
     · go_enter Tryz.func57, Tryz.ntmps57
       go_wp2_with fail
       refine HPL.out.mono ?_
       rintro e w1 ⟨rfl, hb1⟩
       go_wp2
       go_ret
       exact ⟨by simp [h1, h2], hb1⟩
theorem dots_some {p : ByteArray} (h : dotsB p = true) : ∃ q, plT p = some q ∧ (q = ⟨#[46]⟩ ∨ q = ⟨#[46, 46]⟩) := by
 unfold dotsB at h
 split at h
 · rename_i q hq
   exact ⟨q, hq, by simpa using h⟩
 · cases h
theorem fnames_any (gf : Nat) (fs : St) (a p : ByteArray) (w : World) (hS : WfS fs) (hv : Hs (VS gf fs) w) (hm : MX w) (hp : p.size ≤ 1000) (ha : a.size ≤ 50000)
   (hn1 : (listS fs a.data.toList).1.length ≤ 1000) (hn2 : ∀ n ∈ (listS fs a.data.toList).1, n.length ≤ 1000) :
   Calls Tryz.prog 106 #[.pointer (some ⟨gf, 0, none⟩), .string a, .string p] w fun e w' => (∃ A c, e = .returned (.slice A (fnamesB fs a p).length c) ∧ SR w' A (fnamesB fs a p) ∧ ∀ a, A = some a → w.heap.size ≤ a.block) ∧ Below w.heap.size w w' := by
 have HD := hide (dots_any p w hp)
 unfold fnamesB
 cases hd : dotsB p with
 | true =>
   obtain ⟨q, hq, _⟩ := dots_some hd
   rw [hd] at HD
   have HPL := hide (fun W => gplain_any p W hp)
   rw [plVal_plT, hq] at HPL
   rw [hq]
   have HPL := hide (show ∀ W, Calls Tryz.prog 46 #[.string p] W (fun e w' => e = .returned (.tuple #[.string q, .bool true]) ∧ Below W.heap.size W w') from HPL.out)
   clear hd hq hv hm
   go_enter Tryz.func106, Tryz.ntmps106
   go_wp2_with fail
   refine HD.out.mono ?_
   rintro e w1 ⟨rfl, hb1⟩
   go_wp2_with fail
   refine (HPL.out _).mono ?_
   rintro e w2 ⟨rfl, hb2⟩
   have HB := hide (hb1.trans (hb2.mono hb1.size))
   clear hb1 hb2
   go_wp2
   go_ret
   exact ⟨⟨some ⟨w2.heap.size, 0, none⟩, ⟨1, rfl⟩, sr_new1 _ _ _, fun a e => by injection e with e; rw [← e]; exact HB.out.size⟩, HB.out.alloc HB.out.size _⟩
 | false =>
   rw [hd] at HD
   have HL := hide (fun W (hb : Below w.heap.size w W) => list_any gf fs hS a.data.toList W (hv.below (VS.fr _ _) hb) (hm.below hb) (by rw [data_len]; exact ha))
   rw [bs_of] at HL
   have HN1 := hide hn1
   have HN2 := hide hn2
   obtain ⟨⟨L, ec⟩, hL⟩ : ∃ z, listS fs a.data.toList = z := ⟨_, rfl⟩
   rw [hL] at HL HN1 HN2
   simp only [Bool.false_eq_true, if_false]
   rw [hL]
   unfold ListPost at HL
   dsimp only at HL HN1 HN2 ⊢
   obtain ⟨NL, hNL⟩ : ∃ z, namesOf p (L.map bs) = z := ⟨_, rfl⟩
   obtain ⟨nl, hnl⟩ : ∃ z, NL.length = z := ⟨_, rfl⟩
   rw [hNL, hnl]
   clear hd hv hm hn1 hn2 hL
   go_enter Tryz.func106, Tryz.ntmps106
   go_wp2_with fail
   refine HD.out.mono ?_
   rintro e w1 ⟨rfl, hb1⟩
   have HB1 := hide hb1
   clear hb1
   go_wp2_with fail
   refine (HL.out _ HB1.out).mono ?_
   rintro e w2 ⟨⟨v, rfl, hov⟩, hb2⟩
   have HB2 := hide (HB1.out.trans (hb2.mono HB1.out.size))
   obtain ⟨A, c, rfl, _, hsr, _⟩ := hov.slice
   have HNM := hide (gnames_any p A c (L.map bs) w2 hp (fun k s hs => by
     obtain ⟨n, hn, rfl⟩ := List.mem_map.1 (List.mem_of_getElem? hs)
     rw [bs_size]; exact HN2.out n hn) (by rw [List.length_map]; exact HN1.out) hsr)
   rw [hNL] at HNM
   rw [hnl] at HNM
   obtain ⟨ml, hml⟩ : ∃ z, (L.map bs).length = z := ⟨_, rfl⟩
   rw [hml] at HNM ⊢
   clear hb2 hov hsr hml
   go_wp2_with fail
   refine HNM.out.mono ?_
   rintro e w3 ⟨⟨A', c', rfl, hs3, _, ha3⟩, hb3⟩
   have HB3 := hide (HB2.out.trans (hb3.mono HB2.out.size))
   have HS3 := hide hs3
   have HA3 := hide (fun a e => Nat.le_trans HB2.out.size (ha3 a e))
   clear hb3 hs3 ha3
   go_wp2
   go_ret
   exact ⟨⟨A', c', rfl, HS3.out, HA3.out⟩, HB3.out⟩
end
section
open Go.RowKit Go.Deep
theorem SR.ofK {w w' : World} {A : Option Addr} {L : List ByteArray} (h : SR w A L) (hs : w.heap.size ≤ w'.heap.size) (hb : ∀ a, A = some a → L ≠ [] → a.block < w.heap.size → w'.heap[a.block]? = w.heap[a.block]?) : SR w' A L := fun k s hk => by
 obtain ⟨g, o, e, hg, h1⟩ := h k s hk
 have hne : L ≠ [] := by rintro rfl; simp at hk
 have := hb _ e hne hg
 exact ⟨g, o, e, by omega, (World.cell?_of_block (a := ⟨g, o + k, none⟩) this).trans h1⟩
end
section
open Go.RowKit Go.Deep Go.Maps Ln Pth Vf Qm.Glob
attribute [local go_sem] bt_eq
structure FsOk (fs : St) : Prop where
 wf : WfS fs
 cnt : ∀ p, (listS fs p).1.length ≤ 200
 nam : ∀ p, ∀ n ∈ (listS fs p).1, n.length ≤ 200
theorem namesOf_le (p : ByteArray) (L : List ByteArray) : (namesOf p L).length ≤ L.length ∧ ∀ x ∈ namesOf p L, x ∈ L := by
 have key : ∀ (M acc : List ByteArray), (M.foldl (fun acc s => putS s acc) acc).length ≤ acc.length + M.length ∧ ∀ x ∈ M.foldl (fun acc s => putS s acc) acc, x ∈ acc ∨ x ∈ M := by
   intro M
   induction M with
   | nil => intro acc; exact ⟨Nat.le_refl _, fun x hx => .inl hx⟩
   | cons m M ih =>
     intro acc
     obtain ⟨h1, h2⟩ := ih (putS m acc)
     have h3 := putS_len m acc
     refine ⟨by rw [List.foldl_cons, List.length_cons]; omega, fun x hx => ?_⟩
     rcases h2 x hx with h | h
     · have : ∀ L : List ByteArray, x ∈ putS m L → x = m ∨ x ∈ L := by
         intro L
         induction L with
         | nil => intro h; simp [putS] at h; exact .inl h
         | cons y L ih =>
           intro h
           rw [putS] at h
           split at h
           · rcases List.mem_cons.1 h with h | h
             · exact .inr (by simp [h])
             · exact (ih h).imp_right (fun h => by simp [h])
           · split at h
             · exact .inr h
             · rcases List.mem_cons.1 h with h | h
               · exact .inl h
               · exact .inr h
       rcases this acc h with h | h
       · exact .inr (by simp [h])
       · exact .inl h
     · exact .inr (by simp [h])
 obtain ⟨h1, h2⟩ := key (L.filter (keepN p)) []
 refine ⟨Nat.le_trans h1 (by simpa using List.length_filter_le _ _), fun x hx => ?_⟩
 rcases h2 x hx with h | h
 · cases h
 · exact (List.mem_filter.1 h).1
theorem fnames_le {fs : St} (h : FsOk fs) (a p : ByteArray) : (fnamesB fs a p).length ≤ 200 ∧ ∀ n ∈ fnamesB fs a p, n.size ≤ 200 := by
 unfold fnamesB
 by_cases hd : dotsB p = true
 · rw [if_pos hd]
   obtain ⟨q, hq, hq2⟩ := dots_some hd
   rw [hq]
   refine ⟨by simp, fun n hn => ?_⟩
   have : n = q := by simpa using hn
   rw [this]
   rcases hq2 with rfl | rfl <;> decide
 · rw [if_neg hd]
   obtain ⟨h1, h2⟩ := namesOf_le p ((listS fs a.data.toList).1.map bs)
   have := h.cnt a.data.toList
   rw [List.length_map] at h1
   refine ⟨by omega, fun n hn => ?_⟩
   obtain ⟨m, hm, rfl⟩ := List.mem_map.1 (h2 n hn)
   rw [bs_size]
   exact h.nam _ m hm
theorem step_len (fs : St) (hf : FsOk fs) (p : ByteArray) : ∀ L : List Spt, (stepB fs L p).length ≤ 200 * L.length
 | [] => by simp [stepB]
 | s :: L => by
   have h1 := (fnames_le hf s.2 p).1
   have h2 := step_len fs hf p L
   unfold stepB at h2 ⊢
   rw [List.flatMap_cons, List.length_append, List.length_map, List.length_cons]
   omega
theorem step_any (gf : Nat) (fs : St) (p : ByteArray) (A : Option Addr) (c : Nat) (L : List Spt) (w : World) (hf : FsOk fs) (hv : Hs (VS gf fs) w) (hm : MX w) (hp : p.size ≤ 1000) (hA : RG encSp 2 w A L) (hl : L.length ≤ 500)
   (hz : ∀ s ∈ L, s.1.size ≤ 1000000 ∧ s.2.size ≤ 50000) :
   Calls Tryz.prog 52 #[.pointer (some ⟨gf, 0, none⟩), .slice A L.length c, .string p] w fun e w' => (∃ v, e = .returned v ∧ OwnSp w' w.heap.size v (stepB fs L p)) ∧ Below w.heap.size w w' := by
 have HF := hide hf
 have HV := hide hv
 have HM := hide hm
 have HA := hide hA
 have HZ := hide hz
 obtain ⟨n, hn⟩ : ∃ n, L.length = n := ⟨_, rfl⟩
 have HN := hide hn
 rw [hn] at hl ⊢
 clear hf hv hm hA hz hn
 go_enter Tryz.func52, Tryz.ntmps52
 go_wp2
 go_loopw [7, 9, 11, 12, 13, 14, 17] (fun v7 _ _ _ _ _ v17 wr => ∃ i : Nat, v17 = .int .i64 i ∧ i ≤ n ∧ Hid (OwnSp wr w.heap.size v7 (stepB fs (L.take i) p)) ∧ Hid (Below w.heap.size w wr)) (fun _ _ _ _ _ _ v17 _ => n - (intOf v17).toNat)
 case atStart => exact ⟨0, rfl, by omega, hide (OwnG.nil _ _), hide (Below.refl _ _)⟩
 case round =>
   obtain ⟨ws, hws⟩ : ∃ Z, Z = wr := ⟨_, rfl⟩
   subst hws
   obtain ⟨i, rfl, hi, HO, HB⟩ := hrel
   by_cases hlt : i < n
   case neg =>
     obtain rfl : i = n := by omega
     have HE := hide (show L.take i = L from List.take_of_length_le (by have := HN.out; omega))
     go_wp2
     go_ret
     exact ⟨⟨_, rfl, by rw [← HE.out]; exact HO.out⟩, HB.out⟩
   have b1 : (i : Int) < (n : Int) := by omega
   obtain ⟨s, hs⟩ : ∃ s, L[i]? = some s := ⟨_, List.getElem?_eq_getElem (by have := HN.out; omega)⟩
   obtain ⟨gs, os, rfl, hg, hcc⟩ := HA.out i s hs
   have hc0 := (HB.out.cell (p := ⟨gs, os + i * 2, none⟩) hg).trans (hcc 0 _ rfl)
   have hc1 := (HB.out.cell (p := ⟨gs, os + i * 2 + 1, none⟩) hg).trans (hcc 1 _ rfl)
   obtain ⟨hz1, hz2⟩ := HZ.out s (List.mem_of_getElem? hs)
   have HSX := hide hs
   have hba : Below ws.heap.size ws (ws.alloc (.cells #[.string s.2, .string s.1] spty)) := (Below.refl _ _).alloc (Nat.le_refl _) _
   have hvr := heapNew ws (.cells #[.string s.2, .string s.1] spty)
   obtain ⟨W, hW⟩ : ∃ Z, ws.alloc (.cells #[.string s.2, .string s.1] spty) = Z := ⟨_, rfl⟩
   rw [hW] at hba hvr
   have HW := hide hW
   have HBW := hide (HB.out.trans (hba.mono HB.out.size))
   have HNM := hide (fnames_any gf fs s.2 p W HF.out.wf (HV.out.below (VS.fr _ _) HBW.out) (HM.out.below HBW.out) hp hz2 (by have := HF.out.cnt s.2.data.toList; omega) (fun n hn => by have := HF.out.nam s.2.data.toList n hn; omega))
   obtain ⟨hnl, hnz⟩ := fnames_le HF.out s.2 p
   have HNZ := hide hnz
   have HST := hide (show stepB fs (L.take (i + 1)) p = stepB fs (L.take i) p ++ (fnamesB fs s.2 p).map (goSp s) by
     unfold stepB
     rw [List.take_add_one, hs, List.flatMap_append]
     simp)
   have hsl := step_len fs HF.out p (L.take i)
   rw [List.length_take] at hsl
   obtain ⟨NL, hNL⟩ : ∃ z, fnamesB fs s.2 p = z := ⟨_, rfl⟩
   rw [hNL] at HNM hnl HNZ HST
   obtain ⟨m, hmm⟩ : ∃ m, NL.length = m := ⟨_, rfl⟩
   have HMM := hide hmm
   rw [hmm] at HNM hnl
   obtain ⟨PS, hPS⟩ : ∃ z, stepB fs (L.take i) p = z := ⟨_, rfl⟩
   rw [hPS] at HO HST hsl
   have hw0 := cellOf hvr (j := 0) rfl
   have hw1 := cellOf hvr (j := 1) rfl
   have HVR := hide hvr
   have HBA := hide hba
   clear hcc hs hba hvr hW hNL hmm hPS hnz
   go_wp2_with fail
   rw [HW.out]
   refine HNM.out.mono ?_
   rintro e w2 ⟨⟨A', c', rfl, hsr, hfr⟩, hb2⟩
   have HB2 := hide (HBW.out.trans (hb2.mono HBW.out.size))
   have HSR := hide hsr
   have HFR := hide (fun a e => Nat.le_trans HBA.out.size (hfr a e))
   have HV2 := hide ((hb2.block ws.heap.size (by have := (Array.getElem?_eq_some_iff.1 HVR.out).1; exact this)).trans HVR.out)
   have HO2 := hide (show OwnSp w2 w.heap.size _ PS from ownsRow_of HO.out fun k e => ((HBA.out.trans (hb2.mono HBA.out.size)).block k (HO.out.lt k e).2))
   clear hsr hfr hb2 hw0 hw1 HNM hc0 hc1
   go_wp2
   go_loopw [7, 11, 12, 13, 14, 27] (fun v7 _ _ _ _ v27 wr => ∃ k : Nat, v27 = .int .i64 k ∧ k ≤ m ∧ Hid (OwnSp wr w.heap.size v7 (PS ++ (NL.take k).map (goSp s))) ∧ Hid (Below w.heap.size w wr) ∧ Hid (wr.heap[ws.heap.size]? = some (.cells #[.string s.2, .string s.1] spty)) ∧ Hid (SR wr A' NL) ∧ Hid (∀ k, v7.ownBlock = some k → k ≠ ws.heap.size ∧ ∀ a, A' = some a → a.block ≠ k)) (fun _ _ _ _ _ v27 _ => m - (intOf v27).toNat)
   case atStart =>
     refine ⟨0, rfl, by omega, by rw [List.take_zero, List.map_nil, List.append_nil]; exact HO2, HB2, HV2, HSR, hide fun k e => ?_⟩
     have := (HO.out.lt k e).2
     exact ⟨by omega, fun a ea => by have := HFR.out a ea; omega⟩
   case round =>
     obtain ⟨wk, hwk⟩ : ∃ Z, Z = wr := ⟨_, rfl⟩
     subst hwk
     obtain ⟨k, rfl, hk, HOK, HBK, HVK, HSK, HAK⟩ := hrel
     obtain ⟨vA, vc, rfl, _⟩ := HOK.out.slice encSp_len
     obtain ⟨ln, hln⟩ : ∃ z, (PS ++ (NL.take k).map (goSp s)).length = z := ⟨_, rfl⟩
     rw [hln] at HOK HAK ⊢
     by_cases hkl : k < m
     case neg =>
       obtain rfl : k = m := by omega
       have HEN := hide (show OwnSp wk w.heap.size _ (stepB fs (L.take (i + 1)) p) by
         rw [HST.out, ← List.take_of_length_le (l := NL) (i := k) (by have := HMM.out; omega)]
         exact HOK.out)
       go_wp2
       go_roundw
       case rel => exact ⟨i + 1, by go_num, by omega, HEN, HBK⟩
       case measure => simp [intOf]; omega
     have b2 : (k : Int) < (m : Int) := by omega
     obtain ⟨x, hx⟩ : ∃ x, NL[k]? = some x := ⟨_, List.getElem?_eq_getElem (by have := HMM.out; omega)⟩
     have hxz := HNZ.out x (List.mem_of_getElem? hx)
     obtain ⟨gx, ox, rfl, hgx, hcx⟩ := HSK.out k x hx
     have hv0 := cellOf HVK.out (j := 0) rfl
     have hv1 := cellOf HVK.out (j := 1) rfl
     have HAB := hide (abs_any s.2.data.toList x.data.toList wk (HM.out.below HBK.out) (by rw [data_len]; omega) (by rw [data_len]; omega))
     unfold AbsPost at HAB
     rw [bs_of, bs_of] at HAB
     have HGO := hide (show goSp s x = (if s.1 = ⟨#[]⟩ then x else bs (Lib.trimSuffix s.1.data.toList [47]) ++ ⟨#[47]⟩ ++ x, bs (absF s.2.data.toList x.data.toList).1) from rfl)
     obtain ⟨aT, haT⟩ : ∃ z, bs (absF s.2.data.toList x.data.toList).1 = z := ⟨_, rfl⟩
     obtain ⟨aE, haE⟩ : ∃ z, (absF s.2.data.toList x.data.toList).2 = z := ⟨_, rfl⟩
     rw [haT, haE] at HAB
     rw [haT] at HGO
     have HTN := hide (show PS ++ (NL.take (k + 1)).map (goSp s) = PS ++ (NL.take k).map (goSp s) ++ [goSp s x] by
       rw [List.take_add_one, hx, List.map_append, List.append_assoc]
       rfl)
     have hpl : (PS ++ (NL.take k).map (goSp s)).length ≤ 200000 := by
       rw [List.length_append, List.length_map, List.length_take]
       omega
     rw [hln] at hpl
     have HPLL := hide hpl
     have HLN := hide hln
     clear hx haT haE hpl hln
     go_wp2_with fail
     refine HAB.out.mono ?_
     rintro e w3 ⟨rfl, hb3⟩
     have HB3 := hide (HBK.out.trans (hb3.mono HBK.out.size))
     have HV3 := hide ((hb3.block ws.heap.size (Array.getElem?_eq_some_iff.1 HVK.out).1).trans HVK.out)
     have HS3 := hide (HSK.out.below hb3)
     have HGX := hide (show gx < w3.heap.size from Nat.lt_of_lt_of_le hgx hb3.size)
     have HO3 := hide (show OwnSp w3 w.heap.size (.slice vA ln vc) (PS ++ (NL.take k).map (goSp s)) from ownsRow_of HOK.out fun k e => hb3.block k (HOK.out.lt k e).2)
     have hv0 := cellOf HV3.out (j := 0) rfl
     have hv1 := cellOf HV3.out (j := 1) rfl
     clear hb3 hcx
     by_cases he : s.1 = ⟨#[]⟩
     · have h0 : s.1.toList = [] := by rw [he, ByteArray.toList_eq]
       have h00 : s.1.toList.isEmpty = true := by rw [h0]; rfl
       have hx3 := rg_new (enc := encSp) (n := 2) w3 (goSp s x) spty
       have hcell : (encSp (goSp s x)).toArray = #[.string aT, .string x] := by rw [HGO.out]; rw [if_pos he]; rfl
       rw [hcell] at hx3
       have hxb : w.heap.size ≤ w3.heap.size := HB3.out.size
       obtain ⟨v4, w4, hrn, ho4, hg4, hv4⟩ := run_appG rowSp encSp_len encSp_one (c := 1) (OwnG.alloc HO3.out (.cells #[.string aT, .string x] spty)) hx3 (by simp; omega) (by have := HPLL.out; have := HLN.out; rw [List.length_singleton]; omega)
       have HRN := hide hrn
       have HO4 := hide (show OwnSp w4 w.heap.size v4 (PS ++ (NL.take (k + 1)).map (goSp s)) by rw [HTN.out]; exact ho4)
       have HB4 := hide (show Below w.heap.size w w4 from (HB3.out.alloc HB3.out.size (.cells #[.string aT, .string x] spty)).grown hg4 (by simp; omega) (fun q e => (HO3.out.lt q e).1))
       have hkeep : ∀ q, q < w3.heap.size → (Value.slice vA ln vc).ownBlock ≠ some q → w4.heap[q]? = w3.heap[q]? := fun q h1 h2 => (hg4.block q (by simp; omega) (fun e => h2 e.symm)).trans (Below.heap_alloc _ _ _ h1)
       have HV4 := hide ((hkeep ws.heap.size (Array.getElem?_eq_some_iff.1 HV3.out).1 (fun e => (HAK.out _ e).1 rfl)).trans HV3.out)
       have HS4 := hide (show SR w4 (some ⟨gx, ox, none⟩) NL from HS3.out.ofK (by have := hg4.size; simp at this; omega) (fun a e hne hla => hkeep _ hla (fun q => (HAK.out _ q).2 a e rfl)))
       have HA4 := hide (show ∀ k, v4.ownBlock = some k → k ≠ ws.heap.size ∧ ∀ a, (some ⟨gx, ox, none⟩ : Option Addr) = some a → a.block ≠ k from fun q e => by
         rcases hv4 with h | h
         · exact HAK.out q (h ▸ e)
         · rw [h] at e
           injection e with e
           have h1 := (Array.getElem?_eq_some_iff.1 HV3.out).1
           simp at e
           refine ⟨by omega, fun a ea => ?_⟩
           injection ea with ea
           rw [← ea]
           have := HGX.out
           show gx ≠ q
           omega)
       clear hx3 hcell hrn ho4 hg4 hv4 hkeep hxb he
       go_wp2_with (at_builtin; refine wpList_app_run ?_ (.tmp 48) (.tmp 52) ?_ ?_ ?_ ?_ HRN.out ?_; exact rfl; exact rfl; exact rfl; exact rfl; exact rfl)
       go_roundw
       case rel => exact ⟨k + 1, by go_num, by omega, HO4, HB4, HV4, HS4, HA4⟩
       case measure => simp [intOf]; omega
     · have h0 : ¬ s.1.toList = [] := by
         intro e
         rw [ByteArray.toList_eq] at e
         exact he (ByteArray.ext (Array.toList_inj.1 e))
       have h00 : s.1.toList.isEmpty = false := by
         cases h : s.1.toList.isEmpty with
         | false => rfl
         | true => exact absurd (List.isEmpty_iff.1 h) h0
       have HTS := hide (fun Z => Tryz.strings_TrimSuffix s.1 ⟨#[47]⟩ Z (by omega))
       obtain ⟨tS, htS⟩ : ∃ z, bs (Lib.trimSuffix s.1.data.toList [47]) = z := ⟨_, rfl⟩
       have htz : tS.size ≤ 1000000 := by
         rw [← htS, bs_size]
         unfold Lib.trimSuffix
         split
         · rw [List.length_take, data_len]; omega
         · rw [data_len]; omega
       have HTT := hide (show ∀ Z, Calls Tryz.prog 94 #[.string s.1, .string ⟨#[47]⟩] Z (fun e w' => e = .returned (.string tS) ∧ w' = Z) by rw [← htS]; exact HTS.out)
       rw [htS] at HGO
       clear htS HTS
       go_wp2_with fail
       refine (HTT.out _).mono ?_
       rintro e w5 ⟨rfl, rfl⟩
       have hx3 := rg_new (enc := encSp) (n := 2) w5 (goSp s x) spty
       have hcell : (encSp (goSp s x)).toArray = #[.string aT, .string (tS ++ ⟨#[47]⟩ ++ x)] := by rw [HGO.out]; rw [if_neg he]; rfl
       rw [hcell] at hx3
       have hxb : w.heap.size ≤ w5.heap.size := HB3.out.size
       obtain ⟨v4, w4, hrn, ho4, hg4, hv4⟩ := run_appG rowSp encSp_len encSp_one (c := 1) (OwnG.alloc HO3.out (.cells #[.string aT, .string (tS ++ ⟨#[47]⟩ ++ x)] spty)) hx3 (by simp; omega) (by have := HPLL.out; have := HLN.out; rw [List.length_singleton]; omega)
       have HRN := hide hrn
       have HO4 := hide (show OwnSp w4 w.heap.size v4 (PS ++ (NL.take (k + 1)).map (goSp s)) by rw [HTN.out]; exact ho4)
       have HB4 := hide (show Below w.heap.size w w4 from (HB3.out.alloc HB3.out.size (.cells #[.string aT, .string (tS ++ ⟨#[47]⟩ ++ x)] spty)).grown hg4 (by simp; omega) (fun q e => (HO3.out.lt q e).1))
       have hkeep : ∀ q, q < w5.heap.size → (Value.slice vA ln vc).ownBlock ≠ some q → w4.heap[q]? = w5.heap[q]? := fun q h1 h2 => (hg4.block q (by simp; omega) (fun e => h2 e.symm)).trans (Below.heap_alloc _ _ _ h1)
       have HV4 := hide ((hkeep ws.heap.size (Array.getElem?_eq_some_iff.1 HV3.out).1 (fun e => (HAK.out _ e).1 rfl)).trans HV3.out)
       have HS4 := hide (show SR w4 (some ⟨gx, ox, none⟩) NL from HS3.out.ofK (by have := hg4.size; simp at this; omega) (fun a e hne hla => hkeep _ hla (fun q => (HAK.out _ q).2 a e rfl)))
       have HA4 := hide (show ∀ k, v4.ownBlock = some k → k ≠ ws.heap.size ∧ ∀ a, (some ⟨gx, ox, none⟩ : Option Addr) = some a → a.block ≠ k from fun q e => by
         rcases hv4 with h | h
         · exact HAK.out q (h ▸ e)
         · rw [h] at e
           injection e with e
           have h1 := (Array.getElem?_eq_some_iff.1 HV3.out).1
           simp at e
           refine ⟨by omega, fun a ea => ?_⟩
           injection ea with ea
           rw [← ea]
           have := HGX.out
           show gx ≠ q
           omega)
       clear hx3 hcell hrn ho4 hg4 hv4 hkeep hxb
       go_wp2_with (at_builtin; refine wpList_app_run ?_ (.tmp 48) (.tmp 52) ?_ ?_ ?_ ?_ HRN.out ?_; exact rfl; exact rfl; exact rfl; exact rfl; exact rfl)
       go_roundw
       case rel => exact ⟨k + 1, by go_num, by omega, HO4, HB4, HV4, HS4, HA4⟩
       case measure => simp [intOf]; omega
end
section
open Go.RowKit Go.Deep Go.Maps Ln Pth Vf Qm.Glob
theorem putG_perm {α : Type} (x : ByteArray × α) : ∀ {P : KV α}, (∀ y ∈ P, y.1 ≠ x.1) → (putG x P).Perm (x :: P)
 | [], _ => List.Perm.refl _
 | y :: P, h => by
   unfold putG
   split
   · exact ((putG_perm x (P := P) fun z hz => h z (by simp [hz])).cons y).trans (List.Perm.swap x y P)
   · rw [if_neg (h y (by simp))]
theorem fold_putG {α : Type} : ∀ (L : List (ByteArray × α)) (A : KV α), RiseG A → ((A ++ L).map (·.1)).Nodup → (L.foldl (fun acc x => putG x acc) A).Perm (A ++ L) ∧ RiseG (L.foldl (fun acc x => putG x acc) A)
 | [], A, hr, _ => by rw [List.append_nil]; exact ⟨List.Perm.refl _, hr⟩
 | x :: L, A, hr, hn => by
   have hx : ∀ y ∈ A, y.1 ≠ x.1 := by
     rw [List.map_append, List.map_cons, List.nodup_append] at hn
     intro y hy
     exact hn.2.2 _ (List.mem_map.2 ⟨y, hy, rfl⟩) _ (by simp)
   have hp := putG_perm x hx
   have hp2 : (putG x A ++ L).Perm (A ++ x :: L) := (hp.append_right L).trans (List.perm_middle.symm)
   obtain ⟨h1, h2⟩ := fold_putG L (putG x A) (hr.put x) ((hp2.map (·.1)).nodup_iff.2 hn)
   exact ⟨h1.trans hp2, h2⟩
theorem sortSp_perm {L : List Spt} (h : (L.map (·.1)).Nodup) : L.Perm (sortSp L) ∧ RiseG (sortSp L) := by
 obtain ⟨h1, h2⟩ := fold_putG L [] RiseG.nil (by simpa using h)
 exact ⟨(show (sortSp L).Perm L from h1).symm, h2⟩
theorem valsG_take {α : Type} {enc : α → List Value} {n : Nat} (he : ∀ x, (enc x).length = n) : ∀ (L : List α) (k : Nat), (valsG enc L).take (k * n) = valsG enc (L.take k)
 | [], k => by simp [valsG]
 | x :: L, 0 => by simp [valsG]
 | x :: L, k + 1 => by
   have ih := valsG_take he L k
   have e : valsG enc (x :: L) = enc x ++ valsG enc L := by simp [valsG]
   have e2 : valsG enc ((x :: L).take (k + 1)) = enc x ++ valsG enc (L.take k) := by simp [valsG]
   rw [e, e2, List.take_append, he, Nat.add_mul, Nat.one_mul, List.take_of_length_le (by rw [he]; omega), show k * n + n - n = k * n from by omega, ih]
theorem firstB_len (L : List Spt) (h : (L.map (·.1)).Nodup) : (firstB L).length = min L.length 500 := by
 unfold firstB
 rw [List.length_take, ← (sortSp_perm h).1.length_eq, Nat.min_comm]
theorem first_any {w : World} {base : Nat} {v : Value} {L : List Spt} (h : OwnSp w base v L) (hn : (L.map (·.1)).Nodup) (hl : L.length ≤ 1000000) :
   Calls Tryz.prog 53 #[v] w fun e w' => (∃ v', e = .returned v' ∧ OwnSp w' base v' (firstB L) ∧ v'.ownBlock = v.ownBlock) ∧ w.grownBy w' v.ownBlock := by
 obtain ⟨hp, hr⟩ := sortSp_perm hn
 have HSO := hide (sortSp_any h hp hr hl)
 have hlen := hp.length_eq
 rcases h.2 with ⟨rfl, hn0⟩ | ⟨g, cap, cur, rfl, hbg, hh, hc, hm, hs, ht⟩
 · have hF : L = [] := List.eq_nil_of_length_eq_zero hn0
   subst hF
   clear h hn0 hp hr hlen hl hn
   go_enter Tryz.func53, Tryz.ntmps53
   go_wp2_with fail
   refine HSO.out.mono ?_
   rintro e w1 ⟨rfl, ho, hg⟩
   go_wp2
   go_ret
   exact ⟨⟨_, rfl, OwnG.nil _ _, rfl⟩, hg⟩
 · obtain ⟨n, hnn⟩ : ∃ n, L.length = n := ⟨_, rfl⟩
   have HFL := hide (firstB_len L hn)
   rw [hnn] at HSO hl hlen HFL hc ⊢
   have HC := hide (show ∀ w', OwnSp w' base (.slice (some ⟨g, 0, none⟩) n cap) (sortSp L) → OwnSp w' base (.slice (some ⟨g, 0, none⟩) (min n 500) cap) (firstB L) from fun w' ho => by
     have ho2 : w'.ownsRow base spty 2 (.slice (some ⟨g, 0, none⟩) n cap) n (valsG encSp (sortSp L)) := by
       have := ho
       unfold OwnSp OwnG at this
       rw [← hlen] at this
       exact this
     have h3 := ownsRow_pre ho2 (k := min n 500) (by omega)
     rw [valsG_take encSp_len] at h3
     have e : (sortSp L).take (min n 500) = firstB L := by
       unfold firstB
       by_cases hq : n ≤ 500
       · rw [Nat.min_eq_left hq, List.take_of_length_le (by omega), List.take_of_length_le (by omega)]
       · rw [Nat.min_eq_right (by omega)]
     rw [e, ← HFL.out] at h3
     rw [← HFL.out]
     exact h3)
   have HCAP := hide hc
   clear h hp hr hlen hn hbg hh hm hs ht hnn HFL
   by_cases hq : n ≤ 500
   · rw [Nat.min_eq_left hq] at HC
     have hq2 : (n : Int) ≤ 500 := by omega
     have hc2 : n ≤ cap := hc
     go_enter Tryz.func53, Tryz.ntmps53
     go_wp2_with fail
     refine HSO.out.mono ?_
     rintro e w1 ⟨rfl, ho, hg⟩
     have HO := hide (HC.out _ ho)
     clear ho
     go_wp2
     go_ret
     refine ⟨⟨_, rfl, ?_, rfl⟩, hg⟩
     show OwnSp w1 base (.slice (some ⟨g, 0, none⟩) (min (n : Int) 500).toNat cap) (firstB L)
     rw [show (min (n : Int) 500).toNat = n from by omega]
     exact HO.out
   · rw [Nat.min_eq_right (by omega)] at HC
     have hq2 : ¬ (n : Int) ≤ 500 := by omega
     have hq3 : (500 : Int) < n := by omega
     have hc2 : 500 ≤ cap := by omega
     go_enter Tryz.func53, Tryz.ntmps53
     go_wp2_with fail
     refine HSO.out.mono ?_
     rintro e w1 ⟨rfl, ho, hg⟩
     have HO := hide (HC.out _ ho)
     clear ho
     go_wp2
     go_ret
     refine ⟨⟨_, rfl, ?_, rfl⟩, hg⟩
     show OwnSp w1 base (.slice (some ⟨g, 0, none⟩) (min (n : Int) 500).toNat cap) (firstB L)
     rw [show (min (n : Int) 500).toNat = 500 from by omega]
     exact HO.out
end
section
open Go.RowKit Go.Deep Go.Maps Ln Pth Vf Qm.Glob
theorem paths1_any (x : ByteArray) (W : World) : Calls Tryz.prog 51 (#[.string x] ++ #[]) W fun e w' => e = .returned (.bool (decide (x = ⟨#[]⟩))) ∧ Below W.heap.size W w' := by
 have HE := hide (toList_eq x ⟨#[]⟩)
 by_cases h : x = ⟨#[]⟩
 · subst h
   clear HE
   go_enter Tryz.func51, Tryz.ntmps51
   go_wp2
   go_ret
   exact ⟨rfl, Below.refl _ _⟩
 · rw [decide_eq_false h]
   have h2 : x.toList.isEmpty = false := by
     cases e : x.toList.isEmpty with
     | false => rfl
     | true =>
       have := List.isEmpty_iff.1 e
       rw [ByteArray.toList_eq] at this
       exact absurd (ByteArray.ext (Array.toList_inj.1 this)) h
   clear HE h
   go_enter Tryz.func51, Tryz.ntmps51
   go_wp2
   go_ret
   exact ⟨by simp [h2], Below.refl _ _⟩
theorem paths2_any (gf gF gN : Nat) (fs : St) (p : ByteArray) (s : Spt) (W : World) (hv : Hs (VS gf fs) W) (hm : MX W) (hp : p.size ≤ 1000) (hz : s.2.size ≤ 50000)
   (hF : W.cell? ⟨gF, 0, none⟩ = some (.pointer (some ⟨gf, 0, none⟩))) (hN : W.cell? ⟨gN, 0, none⟩ = some (.string p)) :
   Calls Tryz.prog 55 (#[.agg #[.string s.2, .string s.1]] ++ #[.pointer (some ⟨gF, 0, none⟩), .pointer (some ⟨gN, 0, none⟩)]) W fun e w' => e = .returned (.bool (keepB fs p s)) ∧ Below W.heap.size W w' := by
 have HK := hide (fun Z (hb : Below W.heap.size W Z) => vkind_any gf fs s.2.data.toList Z (hv.below (VS.fr _ _) hb) (hm.below hb) (by rw [data_len]; exact hz))
 rw [bs_of] at HK
 have HD := hide (fun Z => dots_any p Z hp)
 have hgF := World.block_lt_of_cell? W _ hF
 have hgN := World.block_lt_of_cell? W _ hN
 have HB0 := hide (show Below W.heap.size W (W.alloc (.cells #[.string s.2, .string s.1] spty)) from (Below.refl _ _).alloc (Nat.le_refl _) _)
 have hF0 := (HB0.out.cell (p := ⟨gF, 0, none⟩) hgF).trans hF
 have hN0 := (HB0.out.cell (p := ⟨gN, 0, none⟩) hgN).trans hN
 have hx := heapNew W (.cells #[.string s.2, .string s.1] spty)
 have hx0 := cellOf hx (j := 0) rfl
 unfold keepB
 obtain ⟨kd, hkd⟩ : ∃ z, kindS fs s.2.data.toList = z := ⟨_, rfl⟩
 obtain ⟨db, hdb⟩ : ∃ z, dotsB p = z := ⟨_, rfl⟩
 rw [hkd] at HK ⊢
 rw [hdb] at HD ⊢
 have HN := hide hN
 have HGN := hide hgN
 clear hv hm hF hN hgF hgN hx hkd hdb hp hz
 by_cases h2 : kd = 2
 · subst h2
   have HR := hide (show (decide (¬(2 : Nat) = 2) && !db) = false by simp)
   go_enter Tryz.func55, Tryz.ntmps55
   go_wp2_with fail
   refine (HK.out _ HB0.out).mono ?_
   rintro e w1 ⟨rfl, hb1⟩
   have HB1 := hide (HB0.out.trans (hb1.mono HB0.out.size))
   clear hb1
   go_wp2
   go_ret
   exact ⟨by simp, HB1.out⟩
 · have h3 : ¬ (kd : Int) = 2 := by omega
   go_enter Tryz.func55, Tryz.ntmps55
   go_wp2_with fail
   refine (HK.out _ HB0.out).mono ?_
   rintro e w1 ⟨rfl, hb1⟩
   have HB1 := hide (HB0.out.trans (hb1.mono HB0.out.size))
   have hN1 := (HB1.out.cell (p := ⟨gN, 0, none⟩) HGN.out).trans HN.out
   clear hb1 hN0 hF0 hx0
   go_wp2_with fail
   refine (HD.out _).mono ?_
   rintro e w2 ⟨rfl, hb2⟩
   have HB2 := hide (HB1.out.trans (hb2.mono HB1.out.size))
   clear hb2
   go_wp2
   go_ret
   exact ⟨by simp [h2, h3], HB2.out⟩
def partsQ (p : ByteArray) : List ByteArray := ((spl 47 p.data.toList).map bs).filter fun s => !decide (s = ⟨#[]⟩)
theorem ownS_G {w : World} {base : Nat} {v : Value} {L : List ByteArray} : OwnS w base v L ↔ OwnG encDs 1 9 w base v L := by
 unfold OwnS OwnG
 have : valsG encDs L = strVals L := by
   unfold valsG strVals
   induction L with
   | nil => rfl
   | cons x L ih => rw [List.flatMap_cons, ih]; rfl
 rw [this]
theorem partsQ_any (p : ByteArray) {base : Nat} (w : World) (hb : base ≤ w.heap.size) (hl : p.size ≤ 1000) :
   Calls Tryz.prog 49 #[.slice (some ⟨w.heap.size, 0, none⟩) ((spl 47 p.data.toList).map bs).length ((spl 47 p.data.toList).map bs).length, .func (.func 51) #[] #[]] (w.alloc (.cells (((spl 47 p.data.toList).map bs).map Value.string).toArray 9)) fun e w' => ∃ v, e = .returned v ∧ OwnS w' base v (partsQ p) ∧ Below w.heap.size w w' ∧ ∀ k, v.ownBlock = some k → w.heap.size = k := by
 have eg : ∀ args w, (callFunc 51 args).run Tryz.prog w = .ok (.enter 51 args) w := enters_of Tryz.func51 (by kernel_rfl) rfl
 have hn := spl_len 47 p.data.toList
 rw [data_len] at hn
 have ho := OwnS.newL w ((spl 47 p.data.toList).map bs) hb (by rw [List.length_map]; omega)
 refine (delStr_any (fun s => decide (s = ⟨#[]⟩)) _ #[] eg (ownS_G.1 ho) (by rw [List.length_map]; omega) (fun W x _ _ => paths1_any x W)).mono ?_
 rintro e w' ⟨v, rfl, h1, h2, h3⟩
 have hb1 : Below w.heap.size w (w.alloc (.cells (((spl 47 p.data.toList).map bs).map Value.string).toArray 9)) := (Below.refl _ _).alloc (Nat.le_refl _) _
 have hob : ∀ k, (Value.slice (some ⟨w.heap.size, 0, none⟩) ((spl 47 p.data.toList).map bs).length ((spl 47 p.data.toList).map bs).length).ownBlock = some k → w.heap.size = k := fun k e => Option.some.inj e
 exact ⟨v, rfl, ownS_G.2 h1, h2.below hb1 (Nat.le_refl _) (fun k e => Nat.le_of_eq (hob k e)), fun k e => hob k (h3 k e)⟩
end
end Go.Proofs.YtmcophlmcloooaaGreatDoor
