/- Walks and plain facts that the claim uses. -/
import Derived.Test.YtmcophlmcloooaaGreatDoorFP3
import Derived.Deep.CutBlock
import Derived.Deep.RegionHeld3
import Derived.StillTailTactics
import Derived.Deep.CutRange
import Derived.Deep.LoopGhost
set_option maxRecDepth 100000
set_option maxHeartbeats 16000000
set_option linter.unusedSimpArgs false
set_option linter.unusedVariables false
namespace Go.Proofs.YtmcophlmcloooaaGreatDoor
section
open Go.RowKit Go.Deep Go.Maps Ln Pth Vf Qm.Glob
attribute [local go_sem] bt_eq
theorem lt3a {x y : ByteArray} (h : sLt x y = true) : Op.bytesLess y.toList x.toList = false ∧ (y.toList == x.toList) = false := by
 constructor
 · cases hc : Op.bytesLess y.toList x.toList with
   | false => rfl
   | true =>
     have := sLt_trans _ _ _ h hc
     rw [sLt_irr] at this
     cases this
 · rw [toList_eq, decide_eq_false]
   intro e
   rw [e, sLt_irr] at h
   cases h
theorem lt3b {x y : ByteArray} (h : ¬ sLt x y = true) : (y.toList == x.toList) = true ∨ Op.bytesLess y.toList x.toList = true := by
 rcases sLt_tot x y (by simpa using h) with e | e
 · left
   rw [toList_eq, e]
   simp
 · exact .inr e
theorem take_less {L : List Spt} (h : RiseG L) {k : Nat} {x : ByteArray} {y : Spt} (h0 : 0 < k) (hy : L[k - 1]? = some y) (hl : sLt y.1 x = true) : ∀ z ∈ L.take k, sLt z.1 x = true := by
 intro z hz
 obtain ⟨j, hj⟩ := List.mem_iff_getElem?.1 hz
 rw [List.getElem?_take] at hj
 split at hj
 · rename_i hjk
   by_cases e : j = k - 1
   · subst e
     rw [hy] at hj
     injection hj with hj
     rw [← hj]
     exact hl
   · obtain ⟨i1, e1⟩ := List.getElem?_eq_some_iff.1 hj
     obtain ⟨i2, e2⟩ := List.getElem?_eq_some_iff.1 hy
     have := List.pairwise_iff_getElem.1 h j (k - 1) i1 i2 (by omega)
     rw [e1, e2] at this
     exact sLt_trans _ _ _ this hl
 · cases hj
theorem drop_more {L : List Spt} {k : Nat} {x : ByteArray} (h : ∀ j y, k ≤ j → L[j]? = some y → sLt x y.1 = true) : ∀ y ∈ L.drop k, sLt x y.1 = true := by
 intro y hy
 obtain ⟨j, hj⟩ := List.mem_iff_getElem?.1 hy
 rw [List.getElem?_drop] at hj
 exact h _ _ (Nat.le_add_right _ _) hj
theorem own_some {w : World} {base : Nat} {v : Value} {L : List Spt} (h : OwnFd w base v L) (hne : L ≠ []) : ∃ g c, v = .slice (some ⟨g, 0, none⟩) L.length c ∧ L.length ≤ c ∧ base ≤ g ∧ g < w.heap.size := by
 rcases h.2 with ⟨_, hn⟩ | ⟨g, cap, cur, rfl, hb, hh, hn, _⟩
 · exact absurd (List.eq_nil_of_length_eq_zero hn) hne
 · exact ⟨g, cap, rfl, hn, hb, (Array.getElem?_eq_some_iff.1 hh).1⟩
def KeepPost (w : World) (base : Nat) (v : Value) (L : List Spt) (e : Ending) (w' : World) : Prop :=
 ∃ v', e = .returned v' ∧ OwnFd w' base v' L ∧ w.grownBy w' v.ownBlock ∧ (v'.ownBlock = v.ownBlock ∨ ∃ k, v'.ownBlock = some k ∧ w.heap.size ≤ k)
theorem rkeep_any {w : World} {base : Nat} {v : Value} {L : List Spt} (x : Spt) (h : OwnFd w base v L) (hr : RiseG L) (hl : L.length ≤ 500) (hb : base ≤ w.heap.size) :
   Calls Tryz.prog 75 #[v, .agg #[.string x.1, .string x.2]] w (KeepPost w base v (keepS L x)) := by
 obtain ⟨A, c, rfl, hc, hrg, _, hA0⟩ := h.slice encFd_len
 obtain ⟨n, hn⟩ : ∃ n, L.length = n := ⟨_, rfl⟩
 obtain ⟨wx, hwx⟩ : ∃ Z, w.alloc (.cells #[.string x.1, .string x.2] fdty) = Z := ⟨_, rfl⟩
 have hgx := heapNew w (.cells #[.string x.1, .string x.2] fdty)
 rw [hwx] at hgx
 have hbx : Below w.heap.size w wx := hwx ▸ (Below.refl _ _).alloc (Nat.le_refl _) _
 have HWX := hide hwx
 have HGX := hide hgx
 have HBX := hide hbx
 have HRG := hide (hrg.below hbx)
 have HOX := hide (show OwnFd wx base (.slice A L.length c) L from hwx ▸ OwnG.alloc h _)
 have HR := hide hr
 have HN := hide hn
 have HLT := hide h.lt
 rw [hn] at HOX HLT hl ⊢
 clear h hr hrg hwx hgx hbx hc hn
 go_enter Tryz.func75, Tryz.ntmps75
 go_upto_block 0 with (fail)
 rw [HWX.out]
 go_cut [5] from 8 to 22 (fun v5 wr => ∃ k : Nat, v5 = .int .i64 k ∧ k ≤ n ∧ Hid (∀ j y, k ≤ j → L[j]? = some y → sLt x.1 y.1 = true) ∧ Hid (∀ y, 0 < k → L[k - 1]? = some y → sLt x.1 y.1 = false) ∧ Drew wx wr)
 case first =>
   go_wp2
   go_loopw [5] (fun v5 wr => ∃ k : Nat, v5 = .int .i64 k ∧ k ≤ n ∧ Hid (∀ j y, k ≤ j → L[j]? = some y → sLt x.1 y.1 = true) ∧ Drew wx wr) (fun v5 _ => (intOf v5).toNat)
   case atStart => exact ⟨n, rfl, Nat.le_refl _, hide (fun j y hj hy => by have := (List.getElem?_eq_some_iff.1 hy).1; have := HN.out; omega), Drew.refl _⟩
   case round =>
     obtain ⟨ws, hws⟩ : ∃ Z, Z = wr := ⟨_, rfl⟩
     subst hws
     obtain ⟨k, rfl, hk, HE, hd⟩ := hrel
     have HD := hide hd
     have hx0 := cellOf (HGX.out) (j := 0) rfl
     have hxw : ws.cell? ⟨w.heap.size, 0, none⟩ = some (.string x.1) := by
       obtain ⟨q, rfl⟩ := hd
       exact hx0
     clear hx0 hd
     by_cases hk0 : 0 < k
     · obtain ⟨y, hy⟩ : ∃ y, L[k - 1]? = some y := ⟨_, List.getElem?_eq_getElem (by have := HN.out; omega)⟩
       obtain ⟨g, o, rfl, hg, hcc⟩ := HRG.out (k - 1) y hy
       have hyc := hcc 0 _ rfl
       have hyw : ws.cell? ⟨g, o + (k - 1) * 2, none⟩ = some (.string y.1) := by
         obtain ⟨q, rfl⟩ := HD.out
         exact hyc
       have b1 : (0 : Int) < (k : Int) := by omega
       have hkn : (k : Int) - 1 = ((k - 1 : Nat) : Int) := by omega
       have HY := hide hy
       clear hcc hyc hy
       by_cases hxy : sLt x.1 y.1 = true
       · obtain ⟨hs2, he2⟩ := lt3a hxy
         have HS := hide hxy
         clear hxy
         go_wp2
         go_quiet (fail)
         go_wp2
         go_roundw
         case rel => exact ⟨k - 1, by go_num, by omega, hide (fun j z hj hz => by
             by_cases e : j = k - 1
             · subst e
               have h1 := HY.out
               rw [h1] at hz
               injection hz with hz
               rw [← hz]
               exact HS.out
             · exact HE.out j z (by omega) hz), HD.out.more _⟩
         case measure => simp [intOf]; omega
       · have HS := hide (show ∀ z, 0 < k → L[k - 1]? = some z → sLt x.1 z.1 = false from fun z _ hz => by
           rw [HY.out] at hz
           injection hz with hz
           rw [← hz]
           simpa using hxy)
         rcases lt3b hxy with he | hs2
         · clear hxy
           go_wp2
           go_quiet (fail)
           go_wp2
           go_meet
           exact ⟨k, rfl, hk, HE, HS, HD.out.more _⟩
         · clear hxy
           go_wp2
           go_quiet (fail)
           go_wp2
           go_meet
           exact ⟨k, rfl, hk, HE, HS, HD.out.more _⟩
     · obtain rfl : k = 0 := by omega
       have HS := hide (show ∀ z, 0 < 0 → L[0 - 1]? = some z → sLt x.1 z.1 = false from fun z h => absurd h (by omega))
       go_wp2
       go_quiet (fail)
       go_wp2
       go_meet
       exact ⟨0, rfl, hk, HE, HS, HD.out.more _⟩
 case rest =>
   obtain ⟨k, rfl, hk, HE, HS, q, rfl⟩ := hcut
   have HOW := hide (show OwnFd (wx.drewN q) base (.slice A n c) L from HOX.out)
   have HRW := hide (show RG encFd 2 (wx.drewN q) A L from HRG.out)
   have HXW := hide (show (wx.drewN q).heap[w.heap.size]? = some (.cells #[.string x.1, .string x.2] fdty) from HGX.out)
   have HGB := hide (show w.grownBy (wx.drewN q) none from ⟨HBX.out.os, HBX.out.tape, HBX.out.output, HBX.out.size, fun j hj _ => HBX.out.block j hj⟩)
   obtain ⟨ws, hws⟩ : ∃ Z, wx.drewN q = Z := ⟨_, rfl⟩
   rw [hws] at HOW HRW HXW HGB ⊢
   have hx0 := cellOf (HXW.out) (j := 0) rfl
   clear hws HRG HGX HOX HBX HWX
   by_cases hb : (∃ y, 0 < k ∧ L[k - 1]? = some y ∧ y.1 = x.1) ∨ 500 ≤ k
   case pos =>
     have hk0 : 0 < k := by
       rcases hb with ⟨y, h, _⟩ | h <;> omega
     obtain ⟨y, hy⟩ : ∃ y, L[k - 1]? = some y := ⟨_, List.getElem?_eq_getElem (by have := HN.out; omega)⟩
     obtain ⟨g, o, rfl, hg, hcc⟩ := HRW.out (k - 1) y hy
     have hyc : ws.cell? ⟨g, o + (k - 1) * 2, none⟩ = some (.string y.1) := hcc 0 _ rfl
     have b1 : (0 : Int) < (k : Int) := by omega
     have hkn : (k : Int) - 1 = ((k - 1 : Nat) : Int) := by omega
     have HEND : keepS L x = L → ∀ m, KeepPost w base (.slice (some ⟨g, o, none⟩) n c) (keepS L x) (.returned (.slice (some ⟨g, o, none⟩) n c)) (ws.drewN m) := fun e m => by
       rw [e]
       exact ⟨_, rfl, HOW.out, ⟨HGB.out.os, HGB.out.tape, HGB.out.output, HGB.out.size, fun j hj _ => HGB.out.block j hj (by simp)⟩, .inl rfl⟩
     have HEND := hide HEND
     clear hcc
     by_cases he : y.1 = x.1
     · have hk1 := HEND.out (keepS_there (List.mem_of_getElem? hy) he)
       have HKP := hide (show ∀ m, KeepPost w base (.slice (some ⟨g, o, none⟩) n c) (keepS L x) (.returned (.slice (some ⟨g, o, none⟩) n c)) (ws.drewN m) from hk1)
       have he2 : (y.1.toList == x.1.toList) = true := by rw [toList_eq, he]; simp
       clear hb hy he hk1 HEND
       go_wp2
       go_quiet (fail)
       go_wp2
       go_ret
       exact HKP.out _
     · have h5 : 500 ≤ k := by
         rcases hb with ⟨z, _, hz, e⟩ | h
         · rw [hy] at hz
           injection hz with hz
           rw [← hz] at e
           exact absurd e he
         · exact h
       have hyx : sLt y.1 x.1 = true := by
         rcases sLt_tot x.1 y.1 (HS.out y hk0 hy) with e | e
         · exact absurd e.symm he
         · exact e
       have hall := take_less HR.out hk0 hy hyx
       have hnk : L.length = k := by have := HN.out; omega
       have hk1 := HEND.out (keepS_full (by omega) (by omega) (by rw [← hnk, List.take_length] at hall; exact hall))
       have HKP := hide (show ∀ m, KeepPost w base (.slice (some ⟨g, o, none⟩) n c) (keepS L x) (.returned (.slice (some ⟨g, o, none⟩) n c)) (ws.drewN m) from hk1)
       have he2 : (y.1.toList == x.1.toList) = false := by rw [toList_eq, decide_eq_false he]
       have h50 : (500 : Int) ≤ (k : Int) := by omega
       clear hb hy he hk1 HEND hall hnk hyx
       go_wp2
       go_quiet (fail)
       go_wp2
       go_ret
       exact HKP.out _
   case neg =>
     have hk5 : k < 500 := Nat.lt_of_not_le fun h => hb (.inr h)
     have HT := hide (show keepS L x = (L.take k ++ [x] ++ L.drop k).take 500 from by
       refine keepS_at (by have := HN.out; omega) ?_ (drop_more HE.out)
       by_cases hk0 : 0 < k
       · obtain ⟨y, hy⟩ : ∃ y, L[k - 1]? = some y := ⟨_, List.getElem?_eq_getElem (by have := HN.out; omega)⟩
         have hyx : sLt y.1 x.1 = true := by
           rcases sLt_tot x.1 y.1 (HS.out y hk0 hy) with e | e
           · exact absurd (.inl ⟨y, hk0, hy, e.symm⟩) hb
           · exact e
         exact take_less HR.out hk0 hy hyx
       · obtain rfl : k = 0 := by omega
         simp)
     go_upto_region 4 with (fail)
     go_cut [39] from 23 to 39 (fun v39 wr => v39 = .bool false ∧ Drew ws wr)
     case first =>
       by_cases hk0 : 0 < k
       · obtain ⟨y, hy⟩ : ∃ y, L[k - 1]? = some y := ⟨_, List.getElem?_eq_getElem (by have := HN.out; omega)⟩
         obtain ⟨g, o, rfl, hg, hcc⟩ := HRW.out (k - 1) y hy
         have hyc : ws.cell? ⟨g, o + (k - 1) * 2, none⟩ = some (.string y.1) := hcc 0 _ rfl
         have he : ¬ y.1 = x.1 := fun e => hb (.inl ⟨y, hk0, hy, e⟩)
         have b1 : (0 : Int) < (k : Int) := by omega
         have hkn : (k : Int) - 1 = ((k - 1 : Nat) : Int) := by omega
         have he2 : (y.1.toList == x.1.toList) = false := by rw [toList_eq, decide_eq_false he]
         have h50 : decide ((500 : Int) ≤ (k : Int)) = false := decide_eq_false (by omega)
         have h51 : decide (500 ≤ k) = false := decide_eq_false (by omega)
         clear hcc hy he hb HT
         go_wp2
         go_quiet (fail)
         go_wp2
         go_meet
         exact ⟨rfl, _, rfl⟩
       · obtain rfl : k = 0 := by omega
         clear hb HT
         go_wp2
         go_quiet (fail)
         go_wp2
         go_meet
         exact ⟨rfl, _, rfl⟩
     case rest =>
       obtain ⟨rfl, q2, rfl⟩ := hcut
       have HOD := hide (show OwnFd (ws.drewN q2) base (.slice A n c) L from HOW.out)
       have HXD := hide (show (ws.drewN q2).heap[w.heap.size]? = some (.cells #[.string x.1, .string x.2] fdty) from HXW.out)
       have HGD := hide (show w.grownBy (ws.drewN q2) none from ⟨HGB.out.os, HGB.out.tape, HGB.out.output, HGB.out.size, fun j hj _ => HGB.out.block j hj (by simp)⟩)
       obtain ⟨wd, hwd⟩ : ∃ Z, ws.drewN q2 = Z := ⟨_, rfl⟩
       rw [hwd] at HOD HXD HGD ⊢
       clear hwd HOW HXW HGB HRW hx0 HE HS hb
       have hwd0 : w.heap.size < wd.heap.size := (Array.getElem?_eq_some_iff.1 HXD.out).1
       have hx3 : RG encFd 2 (wd.alloc (.cells #[.string ⟨#[]⟩, .string ⟨#[]⟩] fdty)) (some ⟨wd.heap.size, 0, none⟩) [((⟨#[]⟩ : ByteArray), (⟨#[]⟩ : ByteArray))] := rg_new (enc := encFd) (n := 2) wd (⟨#[]⟩, ⟨#[]⟩) fdty
       obtain ⟨v4, w4, hrn, ho4, hg4, hv4⟩ := run_appG rowFd encFd_len encFd_one (c := 1) (OwnG.alloc HOD.out (.cells #[.string ⟨#[]⟩, .string ⟨#[]⟩] fdty)) hx3 (by simp; omega) (by rw [HN.out]; simp; omega)
       obtain ⟨g4, c4, rfl, hc4, hb4, hg4s⟩ := own_some ho4 (by simp)
       have hlen4 : (L ++ [((⟨#[]⟩ : ByteArray), (⟨#[]⟩ : ByteArray))]).length = n + 1 := by rw [List.length_append, HN.out]; rfl
       rw [hlen4] at hrn ho4 hc4 hv4
       have HX4 := hide (show w4.heap[w.heap.size]? = some (.cells #[.string x.1, .string x.2] fdty) from
         (hg4.block w.heap.size (by simp; omega) (fun e => by have := (HLT.out _ e.symm).2; omega)).trans ((Below.heap_alloc _ _ _ hwd0).trans HXD.out))
       have HO4 := hide ho4
       have HRN := hide hrn
       have HG4 := hide (show w.grownBy w4 (Value.slice A n c).ownBlock from ⟨hg4.os.trans HGD.out.os, hg4.tape.trans HGD.out.tape, hg4.output.trans HGD.out.output, Nat.le_trans HGD.out.size (Nat.le_trans (by simp) hg4.size), fun j hj hne => (hg4.block j (by simp; omega) hne).trans ((Below.heap_alloc _ _ _ (by omega)).trans (HGD.out.block j hj (by simp)))⟩)
       have HV4 := hide (show (Value.slice (some ⟨g4, 0, none⟩) (n + 1) c4).ownBlock = (Value.slice A n c).ownBlock ∨ (Value.slice (some ⟨g4, 0, none⟩) (n + 1) c4).ownBlock = some wd.heap.size ∨ (Value.slice (some ⟨g4, 0, none⟩) (n + 1) c4).ownBlock = some (wd.heap.size + 1) from by
         rcases hv4 with e | e
         · exact .inl e
         · right; right
           rw [e]; simp)
       clear hrn ho4 hg4 hv4 hx3 HOD HXD HGD
       go_wp2_with (at_builtin; refine wpList_app_run ?_ (.tmp 41) (.tmp 43) ?_ ?_ ?_ ?_ HRN.out ?_; exact rfl; exact rfl; exact rfl; exact rfl; exact rfl)
       go_cut [52] from 45 to 52 (fun _ wr => (∃ y, OwnFd wr base (.slice (some ⟨g4, 0, none⟩) (n + 1) c4) (L.take k ++ [y] ++ L.drop k)) ∧ w4.grownBy wr (some g4))
       case first =>
         have hl : L.length = n := HN.out
         by_cases hkn : k < n
         · have b1 : (k : Int) + 1 ≤ (n : Int) + 1 := by omega
           have b2 : (k : Int) + 1 ≤ (c4 : Int) := by omega
           have b3 : (k : Int) ≤ (n : Int) + 1 := by omega
           have b4 : (k : Int) ≤ (c4 : Int) := by omega
           have HO4' := hide (show OwnFd w4.drew base (.slice (some ⟨g4, 0, none⟩) (L.length + 1) c4) (L ++ [((⟨#[]⟩ : ByteArray), (⟨#[]⟩ : ByteArray))]) by rw [hl]; exact HO4.out)
           obtain ⟨w5, hr5, hg5, ho5⟩ := HO4'.out.move (k := k) (by omega) (c4 - (k + 1)) (c4 - k)
           rw [hl] at hr5 ho5
           have hsp : L.take (k + 1) = L.take k ++ [L[k]] := (List.take_append_getElem (by omega)).symm
           rw [hsp] at ho5
           have HO5 := hide (show ∃ y, OwnFd w5 base (.slice (some ⟨g4, 0, none⟩) (n + 1) c4) (L.take k ++ [y] ++ L.drop k) from ⟨_, ho5⟩)
           have HG5 := hide (show w4.grownBy w5 (some g4) from ⟨hg5.os, hg5.tape, hg5.output, hg5.size, hg5.block⟩)
           clear ho5 hg5 hsp
           go_region
           go_wp2
           go_meet
           exact ⟨HO5.out, HG5.out⟩
         · obtain rfl : k = n := by omega
           have hcn : ∀ (d a : Option Addr) (dC sL sC : Nat) (W : World), (Builtin.copy_ #[128, 128] 3 #[.slice d 0 dC, .slice a sL sC]).run Tryz.prog W = .ok (.int .i64 0) W := fun d a dC sL sC W => run_copyN_none Tryz.prog W _ _ _ fdty d a 0 dC sL sC Tryz.underlying128 (by kernel_rfl) (Nat.min_zero _)
           have b2 : (k : Int) + 1 ≤ (c4 : Int) := by omega
           have HO5 := hide (show ∃ y, OwnFd w4 base (.slice (some ⟨g4, 0, none⟩) (k + 1) c4) (L.take k ++ [y] ++ L.drop k) from ⟨((⟨#[]⟩ : ByteArray), (⟨#[]⟩ : ByteArray)), by
             rw [List.take_of_length_le (by omega), List.drop_of_length_le (by omega), List.append_nil]; exact HO4.out⟩)
           by_cases hc5 : c4 = k + 1
           · subst hc5
             go_region
             go_wp2
             go_meet
             exact ⟨HO5.out, ⟨rfl, rfl, rfl, Nat.le_refl _, fun _ _ _ => rfl⟩⟩
           · have hc6 : ¬ (k + 1 = c4) := fun e => hc5 e.symm
             have hc7 : ¬ ((k : Int) + 1 = (c4 : Int)) := by omega
             go_region
             go_wp2
             go_meet
             exact ⟨HO5.out, ⟨rfl, rfl, rfl, Nat.le_refl _, fun _ _ _ => rfl⟩⟩
       case rest =>
         obtain ⟨⟨y, hoc⟩, hgc⟩ := hcut
         have hl : L.length = n := HN.out
         have htl : (L.take k).length = k := by rw [List.length_take]; omega
         obtain ⟨⟨u0, u1, hu0, hf0, hu1, hf1⟩, ho6, hg6⟩ := hoc.put x htl.symm
         have hgw : w.heap.size ≠ g4 := by
           intro e
           rcases HV4.out with h | h | h
           · have := (HLT.out g4 (by rw [← h]; rfl)).2
             omega
           · have : g4 = wd.heap.size := by simpa [Value.ownBlock] using h
             omega
           · have : g4 = wd.heap.size + 1 := by simpa [Value.ownBlock] using h
             omega
         have hxc : wc.heap[w.heap.size]? = some (.cells #[.string x.1, .string x.2] fdty) := (hgc.block _ (by have := (Array.getElem?_eq_some_iff.1 HX4.out).1; exact this) (fun e => hgw (by injection e))).trans HX4.out
         have hx0 := cellOf hxc (j := 0) rfl
         have hx1 := cellOf hxc (j := 1) rfl
         obtain ⟨w6, hw6⟩ : ∃ Z, (wc.setCell ⟨g4, k * 2, none⟩ (.string x.1)).setCell ⟨g4, k * 2 + 1, none⟩ (.string x.2) = Z := ⟨_, rfl⟩
         rw [hw6] at ho6 hg6
         have HO6 := hide ho6
         have HG6 := hide (show w4.grownBy w6 (some g4) from ⟨hg6.os.trans hgc.os, hg6.tape.trans hgc.tape, hg6.output.trans hgc.output, Nat.le_trans hgc.size hg6.size, fun j hj hne => (hg6.block j (Nat.lt_of_lt_of_le hj hgc.size) hne).trans (hgc.block j hj hne)⟩)
         have HW6 := hide hw6
         have b1 : (k : Int) < (n : Int) + 1 := by omega
         clear ho6 hg6 hw6 hoc hgc hxc
         go_upto_region 9 with (fail)
         rw [HW6.out]
         have HTT := hide (show keepS L x = (L.take k ++ [x] ++ L.drop k).take 500 from HT.out)
         have hml : (L.take k ++ [x] ++ L.drop k).length = n + 1 := by rw [List.length_append, List.length_append, List.length_take, List.length_drop, List.length_singleton]; omega
         have HGE := hide (show w.grownBy w6 (Value.slice A n c).ownBlock from by
           refine ⟨HG6.out.os.trans HG4.out.os, HG6.out.tape.trans HG4.out.tape, HG6.out.output.trans HG4.out.output, Nat.le_trans HG4.out.size HG6.out.size, fun j hj hne => ?_⟩
           refine (HG6.out.block j (Nat.lt_of_lt_of_le hj HG4.out.size) ?_).trans (HG4.out.block j hj hne)
           intro e
           injection e with e
           rcases HV4.out with h | h | h
           · exact hne (by rw [← h, e]; rfl)
           · have : g4 = wd.heap.size := by simpa [Value.ownBlock] using h
             omega
           · have : g4 = wd.heap.size + 1 := by simpa [Value.ownBlock] using h
             omega)
         have HVE := hide (show (some g4 : Option Nat) = (Value.slice A n c).ownBlock ∨ ∃ k, (some g4 : Option Nat) = some k ∧ w.heap.size ≤ k from by
           rcases HV4.out with h | h | h
           · exact .inl h
           · exact .inr ⟨_, h, by omega⟩
           · exact .inr ⟨_, h, by omega⟩)
         by_cases hbig : 500 < n + 1
         · have hb5 : (500 : Int) < (n : Int) + 1 := by omega
           have hb6 : (500 : Int) ≤ (c4 : Int) := by omega
           have HEN := hide (HO6.out.take (k := 500) (by omega))
           clear HT hml
           go_wp2
           go_ret
           refine ⟨_, rfl, ?_, HGE.out, HVE.out⟩
           rw [HTT.out]
           exact HEN.out
         · have hb5 : ¬ (500 : Int) < (n : Int) + 1 := by omega
           have HEN := hide (show OwnFd w6 base (.slice (some ⟨g4, 0, none⟩) (n + 1) c4) (keepS L x) by
             rw [HTT.out, List.take_of_length_le (by omega)]
             exact HO6.out)
           clear HT hml
           go_wp2
           go_ret
           exact ⟨_, rfl, HEN.out, HGE.out, HVE.out⟩
end
section
open Go.RowKit Go.Deep Go.Maps Ln Pth Vf Qm.Glob
attribute [local go_sem] bt_eq
theorem rplain2_any (p : ByteArray) (w : World) (hp : p.size ≤ 1000) :
   Calls Tryz.prog 70 #[.string p] w fun e w' => e = .returned (.tuple #[.string ((plT p).getD ⟨#[]⟩), .bool (plT p).isSome]) ∧ Below w.heap.size w w' := by
 have h := rplain_any p w hp
 obtain ⟨h1, h2⟩ := plain_same p
 have e : plVal (rAll (rItems (bt p) p.size)) (rBytes (rItems (bt p) p.size)) = .tuple #[.string ((plT p).getD ⟨#[]⟩), .bool (plT p).isSome] := by
   rw [← plVal_plT, ← h1]
   cases hc : plAll (gItems (bt p) p.size) with
   | true => rw [(h2 hc).1]
   | false => rfl
 rw [e] at h
 exact h
theorem joinF_le {l : List T} (h : GoodP l) {n : T} (hn : n.length ≤ 200) : (joinF (partsF (joinF l) n)).length ≤ 1000 := by
 have := (joinF_len (joinF l) n).1
 have := h.len
 omega
theorem slashed_jn (L : List T) : (slashed L).length ≤ (joinF L).length := by
 unfold joinF
 split
 · rename_i h
   rw [h]
   simp [slashed]
 · exact Nat.le_refl _
theorem lens_le (L : List T) : L.length ≤ (slashed L).length := by
 rw [slashed_len]
 induction L with
 | nil => simp
 | cons x L ih => simp at ih ⊢; omega
theorem rat_way {l : List T} (h : GoodP l) {n : T} (hn : n.length ≤ 200) (w : World) :
   Calls Tryz.prog 121 #[.string (bs (joinF l)), .string (bs n)] w fun e w' => (∃ A c, e = .returned (.slice A (partsF (joinF l) n).length c) ∧ ∀ W, Below w'.heap.size w' W → Calls Tryz.prog 124 #[.slice A (partsF (joinF l) n).length c] W fun e w2 => e = .returned (.string (bs (joinF (partsF (joinF l) n)))) ∧ W = w2) ∧ Below w.heap.size w w' := by
 have hl := h.len
 refine (rparts_any (joinF l) n w (by omega) (by omega)).mono ?_
 rintro e w1 ⟨⟨v, rfl, ho⟩, hb⟩
 obtain ⟨A, c, rfl, hc, hs, _⟩ := ho.slice
 rw [List.length_map]
 have h1 := joinF_le h hn
 have h2 := slashed_jn (partsF (joinF l) n)
 have h3 := lens_le (partsF (joinF l) n)
 exact ⟨⟨A, c, rfl, fun W hW => rwrite_any A c _ W (hs.below hW) (by omega) (by omega)⟩, hb⟩
theorem rstep_any (g : Nat) (S : St) (A : Option Addr) (c : Nat) (P : List NV) (d : Spt) (p : ByteArray) (last sl : Bool) (w : World) (hf : FsOk S) (h : RSO g S A c P w) (ha : AtOk d.2) (hz : d.1.size ≤ 100000) (hp : p.size ≤ 1000) :
   Calls Tryz.prog 74 #[.pointer (some ⟨g, 0, none⟩), .agg #[.string d.1, .string d.2], .string p, .bool last, .bool sl] w fun e w' => (∃ v, e = .returned v ∧ OwnFd w' w.heap.size v (rstepB S d p last sl)) ∧ Below w.heap.size w w' := by
 obtain ⟨l, hl, hd2⟩ := ha
 obtain ⟨dt, da⟩ := d
 dsimp only at hd2 hz ⊢
 subst hd2
 obtain ⟨wx, hwx⟩ : ∃ Z, w.alloc (.cells #[.string dt, .string (bs (joinF l))] fdty) = Z := ⟨_, rfl⟩
 have hgx := heapNew w (.cells #[.string dt, .string (bs (joinF l))] fdty)
 rw [hwx] at hgx
 have hbx : Below w.heap.size w wx := hwx ▸ (Below.refl _ _).alloc (Nat.le_refl _) _
 have HWX := hide hwx
 have HGX := hide hgx
 have HBX := hide hbx
 have HRS := hide (h.below hbx)
 have HF := hide hf
 have HL := hide hl
 have hcx0 := cellOf hgx (j := 0) rfl
 clear h hwx hgx hbx hf hl
 have hzz : ¬ 9223372036854775807 < dt.size + (1 : Nat) := by omega
 go_enter Tryz.func74, Tryz.ntmps74
 go_upto_if 22 with (fail)
 rw [HWX.out]
 go_cut [12] from 22 to 24 (fun v12 wr => v12 = .string (headR sl dt) ∧ wx = wr)
 case first =>
   cases sl with
   | true =>
     go_wp2
     go_meet
     exact ⟨rfl, rfl⟩
   | false =>
     go_wp2
     go_meet
     exact ⟨rfl, rfl⟩
 case rest =>
   obtain ⟨rfl, rfl⟩ := hcut
   have hhs : (headR sl dt).size ≤ 100001 := by
     unfold headR
     split
     · rw [ByteArray.size_append]
       have : (⟨#[47]⟩ : ByteArray).size = 1 := rfl
       omega
     · omega
   obtain ⟨hd, hhd⟩ : ∃ z, headR sl dt = z := ⟨_, rfl⟩
   rw [hhd] at hhs ⊢
   have HHD := hide hhd
   clear hzz hcx0 hhd
   have HPL := hide (rplain2_any p wx hp)
   cases hdots : dotsB p with
   | true =>
     obtain ⟨q0, hq0, hq2⟩ := dots_some hdots
     have hqz : q0.size ≤ 2 := by rcases hq2 with rfl | rfl <;> decide
     rw [hq0] at HPL
     have HPL := hide (show Calls Tryz.prog 70 #[.string p] wx (fun e w' => e = .returned (.tuple #[.string q0, .bool true]) ∧ Below wx.heap.size wx w') from HPL.out)
     have HRE := hide (show rstepB S (dt, bs (joinF l)) p last sl = [(hd ++ q0, bs (joinF (partsF (joinF l) q0.data.toList)))] by
       unfold rstepB
       rw [if_pos hdots, hq0]
       show [rgo sl (dt, bs (joinF l)) q0] = _
       unfold rgo
       dsimp only
       rw [HHD.out, bs_list])
     have hdd : (q0.toList == [46]) = true ∨ ((q0.toList == [46]) = false ∧ (q0.toList == [46, 46]) = true) := by
       rcases hq2 with rfl | rfl
       · exact .inl (by rw [ByteArray.toList_eq]; rfl)
       · exact .inr ⟨by rw [ByteArray.toList_eq]; rfl, by rw [ByteArray.toList_eq]; rfl⟩
     clear hq0 hq2 hdots
     go_wp2_with fail
     refine HPL.out.mono ?_
     rintro e w1 ⟨rfl, hb1⟩
     have HB1 := hide (HBX.out.trans (hb1.mono HBX.out.size))
     have HG1 := hide ((hb1.block w.heap.size (Array.getElem?_eq_some_iff.1 HGX.out).1).trans HGX.out)
     clear hb1 HPL
     go_upto_region 6 with (fail)
     go_cut [38] from 30 to 38 (fun v38 wr => v38 = .bool true ∧ w1 = wr)
     case first =>
       rcases hdd with h1 | ⟨h1, h2⟩
       · go_wp2
         go_meet
         exact ⟨rfl, rfl⟩
       · go_wp2
         go_meet
         exact ⟨rfl, rfl⟩
     case rest =>
       obtain ⟨rfl, rfl⟩ := hcut
       have hc1 := cellOf HG1.out (j := 1) rfl
       have HWY := hide (rat_way HL.out (n := q0.data.toList) (by rw [data_len]; omega) w1)
       rw [bs_of] at HWY
       obtain ⟨aT, haT⟩ : ∃ z, bs (joinF (partsF (joinF l) q0.data.toList)) = z := ⟨_, rfl⟩
       rw [haT] at HRE
       have hcz : ¬ 9223372036854775807 < hd.size + q0.size := by omega
       clear hdd
       go_wp2_with fail
       refine HWY.out.mono ?_
       rintro e w2 ⟨⟨A2, c2, rfl, hwr⟩, hb2⟩
       have HB2 := hide (HB1.out.trans (hb2.mono HB1.out.size))
       have HWR := hide (hwr w2 (Below.refl _ _))
       rw [haT] at HWR
       clear hb2 hwr haT HWY
       go_wp2_with fail
       refine HWR.out.mono ?_
       rintro e w3 ⟨rfl, rfl⟩
       have hx3 : RG encFd 2 (w2.alloc (.cells #[.string (hd ++ q0), .string aT] fdty)) (some ⟨w2.heap.size, 0, none⟩) [(hd ++ q0, aT)] := rg_new (enc := encFd) (n := 2) w2 (hd ++ q0, aT) fdty
       obtain ⟨v4, w4, hrn, ho4, hg4, hv4⟩ := run_appG rowFd encFd_len encFd_one (c := 1) (OwnG.nil (enc := encFd) (n := 2) (E := fdty) (w2.alloc (.cells #[.string (hd ++ q0), .string aT] fdty)) w.heap.size) hx3 (by simp; have := HB2.out.size; omega) (by simp)
       have HRN := hide hrn
       have HO4 := hide ho4
       have HB4 := hide (show Below w.heap.size w w4 from (HB2.out.alloc HB2.out.size (.cells #[.string (hd ++ q0), .string aT] fdty)).grown hg4 (by simp; have := HB2.out.size; omega) (fun q e => by cases e))
       clear hrn ho4 hg4 hv4 hx3
       go_wp2_with (at_builtin; refine wpList_app_run ?_ (.tmp 44) (.tmp 50) ?_ ?_ ?_ ?_ HRN.out ?_; exact rfl; exact rfl; exact rfl; exact rfl; exact rfl)
       go_ret
       refine ⟨⟨_, rfl, ?_⟩, HB4.out⟩
       rw [HRE.out]
       exact HO4.out
   | false =>
     have HPL := hide (show Calls Tryz.prog 70 #[.string p] wx (fun e w' => ∃ q0 b0, e = .returned (.tuple #[.string q0, .bool b0]) ∧ (b0 = false ∨ ((q0.toList == [46]) = false ∧ (q0.toList == [46, 46]) = false)) ∧ Below wx.heap.size wx w') from HPL.out.mono fun e w' ⟨h1, h2⟩ => by
       cases hq : plT p with
       | none =>
         rw [hq] at h1
         exact ⟨_, false, h1, .inl rfl, h2⟩
       | some q0 =>
         rw [hq] at h1
         refine ⟨q0, true, h1, .inr ?_, h2⟩
         unfold dotsB at hdots
         rw [hq] at hdots
         dsimp only at hdots
         obtain ⟨e1, e2⟩ := Bool.or_eq_false_iff.1 hdots
         have e1 := of_decide_eq_false e1
         have e2 := of_decide_eq_false e2
         exact ⟨by rw [show ([46] : List UInt8) = (⟨#[46]⟩ : ByteArray).toList from by rw [ByteArray.toList_eq], toList_eq, decide_eq_false e1], by rw [show ([46, 46] : List UInt8) = (⟨#[46, 46]⟩ : ByteArray).toList from by rw [ByteArray.toList_eq], toList_eq, decide_eq_false e2]⟩)
     go_wp2_with fail
     refine HPL.out.mono ?_
     rintro e w1 ⟨q0, b0, rfl, hor, hb1⟩
     have HB1 := hide (HBX.out.trans (hb1.mono HBX.out.size))
     have HG1 := hide ((hb1.block w.heap.size (Array.getElem?_eq_some_iff.1 HGX.out).1).trans HGX.out)
     have HR1 := hide (HRS.out.below hb1)
     clear hb1 HPL HRS
     go_upto_region 6 with (fail)
     go_cut [38] from 30 to 38 (fun v38 wr => v38 = .bool false ∧ w1 = wr)
     case first =>
       rcases hor with rfl | ⟨h1, h2⟩
       · go_wp2
         go_meet
         exact ⟨rfl, rfl⟩
       · cases b0 with
         | true =>
           go_wp2
           go_meet
           exact ⟨rfl, rfl⟩
         | false =>
           go_wp2
           go_meet
           exact ⟨rfl, rfl⟩
     case rest =>
       obtain ⟨rfl, rfl⟩ := hcut
       have hc1 := cellOf HG1.out (j := 1) rfl
       have HLI := hide (rList_any g S A c P (joinF l) w1 HR1.out HF.out.wf (by have := HL.out.len; omega))
       have HRE := hide (show rstepB S (dt, bs (joinF l)) p last sl = ((namesOf p ((listS S (joinF l)).1.map bs)).map (fun n => (hd ++ n, bs (joinF (partsF (joinF l) n.data.toList))))).filter fun s => last || decide (kindS S s.2.data.toList = 2) by
         unfold rstepB
         rw [if_neg (by rw [hdots]; simp)]
         dsimp only
         rw [bs_list]
         congr 2
         funext n
         unfold rgo
         dsimp only
         rw [HHD.out, bs_list])
       have hlc := HF.out.cnt (joinF l)
       have hls := HF.out.nam (joinF l)
       obtain ⟨⟨LN, ec⟩, hLN⟩ : ∃ z, listS S (joinF l) = z := ⟨_, rfl⟩
       rw [hLN] at HLI HRE hlc hls
       dsimp only at HLI HRE hlc hls
       have HLS := hide hls
       obtain ⟨NL, hNL⟩ : ∃ z, namesOf p (LN.map bs) = z := ⟨_, rfl⟩
       have hnl := namesOf_le p (LN.map bs)
       rw [hNL] at HRE hnl
       rw [List.length_map] at hnl
       have HNZ := hide (show ∀ x ∈ NL, x.size ≤ 200 from fun x hx => by
         obtain ⟨n, hn, rfl⟩ := List.mem_map.1 (hnl.2 x hx)
         rw [bs_size]
         exact HLS.out n hn)
       have HNM := hide (fun B d W (hs : SR W B (LN.map bs)) => grnames_any p B d (LN.map bs) W hp (fun k s hs => by
         obtain ⟨n, hn, rfl⟩ := List.mem_map.1 (List.mem_of_getElem? hs)
         rw [bs_size]
         have := HLS.out n hn
         omega) (by rw [List.length_map]; omega) hs)
       simp only [List.length_map] at HNM
       rw [hNL] at HNM
       obtain ⟨ln, hln⟩ : ∃ z, LN.length = z := ⟨_, rfl⟩
       obtain ⟨m, hm⟩ : ∃ z, NL.length = z := ⟨_, rfl⟩
       rw [hln] at HLI HNM
       rw [hm] at HNM
       have HMM := hide hm
       have hm2 : m ≤ 200 := by have := hnl.1; omega
       clear hor hdots hLN hls hNL hnl hlc hln hm
       go_wp2_with fail
       refine HLI.out.mono ?_
       rintro e w2 ⟨⟨B2, d2, rfl, hs2, _⟩, hb2⟩
       have HB2 := hide (HB1.out.trans (hb2.mono HB1.out.size))
       have HG2 := hide ((hb2.block w.heap.size (Array.getElem?_eq_some_iff.1 HG1.out).1).trans HG1.out)
       have HR2 := hide (HR1.out.below hb2)
       have HNM2 := hide (HNM.out B2 d2 w2 hs2)
       clear hb2 hs2 HLI HNM HR1 hc1
       go_wp2_with fail
       refine HNM2.out.mono ?_
       rintro e w3 ⟨⟨A3, c3, rfl, hs3, _⟩, hb3⟩
       have HB3 := hide (HB2.out.trans (hb3.mono HB2.out.size))
       have HG3 := hide ((hb3.block w.heap.size (Array.getElem?_eq_some_iff.1 HG2.out).1).trans HG2.out)
       have HR3 := hide (HR2.out.below hb3)
       have HS3 := hide hs3
       clear hb3 hs3 HNM2 HR2 HG2
       go_wp2
       go_loopw [11, 18, 19] (fun v11 v18 _ wr => ∃ k : Nat, v18 = .int .i64 k ∧ k ≤ m ∧ Hid (OwnFd wr w3.heap.size v11 (((NL.take k).map (fun n => (hd ++ n, bs (joinF (partsF (joinF l) n.data.toList))))).filter fun s => last || decide (kindS S s.2.data.toList = 2))) ∧ Hid (Below w3.heap.size w3 wr)) (fun _ v18 _ _ => m - (intOf v18).toNat)
       case atStart => exact ⟨0, rfl, by omega, hide (by simp; exact OwnG.nil _ _), hide (Below.refl _ _)⟩
       case round =>
         obtain ⟨wk, hwk⟩ : ∃ Z, Z = wr := ⟨_, rfl⟩
         subst hwk
         obtain ⟨k, rfl, hk, HO, HB⟩ := hrel
         by_cases hkm : k < m
         case neg =>
           obtain rfl : k = m := by omega
           have HEN := hide (show OwnFd wk w.heap.size _ (rstepB S (dt, bs (joinF l)) p last sl) by
             rw [HRE.out]
             have h1 := HO.out
             rw [List.take_of_length_le (by rw [HMM.out]; exact Nat.le_refl _)] at h1
             exact h1.lower HB3.out.size)
           have HEB := hide (HB3.out.trans (HB.out.mono HB3.out.size))
           have b1 : ¬ (k : Int) < (k : Int) := by omega
           clear HO
           go_wp2
           go_ret
           exact ⟨⟨_, rfl, HEN.out⟩, HEB.out⟩
         case pos =>
           have b1 : (k : Int) < (m : Int) := by omega
           obtain ⟨x, hx⟩ : ∃ x, NL[k]? = some x := ⟨_, List.getElem?_eq_getElem (by have := HMM.out; omega)⟩
           have hxz := HNZ.out x (List.mem_of_getElem? hx)
           obtain ⟨gx, ox, rfl, hgx, hcx⟩ := (HS3.out.below HB.out) k x hx
           have hck : wk.cell? ⟨w.heap.size, 1, none⟩ = some (.string (bs (joinF l))) := cellOf ((HB.out.block w.heap.size (Array.getElem?_eq_some_iff.1 HG3.out).1).trans HG3.out) (j := 1) rfl
           have hgl : w.heap.size < wk.heap.size := Nat.lt_of_lt_of_le (Array.getElem?_eq_some_iff.1 HG3.out).1 HB.out.size
           have HWY := hide (fun W => rat_way HL.out (n := x.data.toList) (by rw [data_len]; omega) W)
           rw [bs_of] at HWY
           have hjz := joinF_le HL.out (n := x.data.toList) (by rw [data_len]; omega)
           have hstp : ((NL.take (k + 1)).map (fun n => (hd ++ n, bs (joinF (partsF (joinF l) n.data.toList))))).filter (fun s => last || decide (kindS S s.2.data.toList = 2)) = ((NL.take k).map (fun n => (hd ++ n, bs (joinF (partsF (joinF l) n.data.toList))))).filter (fun s => last || decide (kindS S s.2.data.toList = 2)) ++ (if (last || decide (kindS S (joinF (partsF (joinF l) x.data.toList)) = 2)) = true then [(hd ++ x, bs (joinF (partsF (joinF l) x.data.toList)))] else []) := by
             rw [List.take_add_one, hx, List.map_append, List.filter_append]
             congr 1
             show List.filter _ [(hd ++ x, bs (joinF (partsF (joinF l) x.data.toList)))] = _
             rw [List.filter_cons]
             dsimp only
             rw [bs_list, List.filter_nil]
           have hlen : (((NL.take k).map (fun n => (hd ++ n, bs (joinF (partsF (joinF l) n.data.toList))))).filter (fun s => last || decide (kindS S s.2.data.toList = 2))).length ≤ 200 := by
             refine Nat.le_trans (List.length_filter_le _ _) ?_
             rw [List.length_map, List.length_take]
             omega
           obtain ⟨FK, hFK⟩ : ∃ z, ((NL.take k).map (fun n => (hd ++ n, bs (joinF (partsF (joinF l) n.data.toList))))).filter (fun s => last || decide (kindS S s.2.data.toList = 2)) = z := ⟨_, rfl⟩
           rw [hFK] at hstp hlen HO
           have HKD := hide (fun A' c' P' W (h : RSO g S A' c' P' W) (hl : P'.length ≤ 1000000) => rKind_any g S A' c' P' (joinF (partsF (joinF l) x.data.toList)) W h hl (by omega))
           obtain ⟨qT, hqT⟩ : ∃ z, joinF (partsF (joinF l) x.data.toList) = z := ⟨_, rfl⟩
           rw [hqT] at hstp HKD HWY
           obtain ⟨aT, haT⟩ : ∃ z, bs qT = z := ⟨_, rfl⟩
           rw [haT] at hstp HKD HWY
           have HST := hide hstp
           have hcz : ¬ 9223372036854775807 < hd.size + x.size := by omega
           clear hx hjz hstp hFK hqT haT
           go_upto_region 14 with (fail)
           go_cut [19] from 68 to 75 (fun v19 wr => v19 = .string aT ∧ Below wk.heap.size wk wr)
           case first =>
             go_region_held3 (fun w' => w'.cell? ⟨w.heap.size, 1, none⟩ = some (.string (bs (joinF l))) ∧ w'.cell? ⟨gx, ox + k, none⟩ = some (.string x))
               (first | exact ⟨hck, hcx⟩ | exact ⟨u1, u2⟩ | exact ⟨z1, z2⟩)
               (first
                 | (go_at_call 121; refine (HWY.out _).mono ?_; rintro e w5 ⟨⟨A5, c5, rfl, hwr⟩, hb5⟩; have u1 := (hb5.cell (p := ⟨w.heap.size, 1, none⟩) hgl).trans hck; have u2 := (hb5.cell (p := ⟨gx, ox + k, none⟩) hgx).trans hcx; have HB5 := hide hb5; have HWR := hide hwr; clear hb5 hwr)
                 | (go_at_call 124; refine (HWR.out _ (by first | exact Below.refl _ _ | exact below_drewN (Below.refl _ _) _)).mono ?_; rintro e w6 ⟨rfl, rfl⟩; have z1 := u1; have z2 := u2))
             rename_i hHeld
             clear hHeld u1 u2 z1 z2
             go_wp2
             go_meet
             exact ⟨rfl, (Below.refl wk.heap.size wk).drew.trans (HB5.out.mono (Nat.le_refl _))⟩
           case rest =>
             obtain ⟨rfl, hb5⟩ := hcut
             obtain ⟨wp, hwp⟩ : ∃ z, z = wc := ⟨_, rfl⟩
             subst hwp
             have HB5 := hide (HB.out.trans (hb5.mono HB.out.size))
             have HO5 := hide (show OwnFd wp w3.heap.size _ FK from ownsRow_of HO.out fun k e => hb5.block k (HO.out.lt k e).2)
             have HK5 := hide (HKD.out A c P wp (HR3.out.below HB5.out) (by have := row_len HF.out.wf HR3.out.eq; omega))
             obtain ⟨kd, hkd⟩ : ∃ z, kindS S qT = z := ⟨_, rfl⟩
             rw [hkd] at HST HK5
             have hcx5 := (hb5.cell (p := ⟨gx, ox + k, none⟩) hgx).trans hcx
             obtain ⟨vA, vc, rfl, _⟩ := HO.out.slice encFd_len
             obtain ⟨ln, hln⟩ : ∃ z, FK.length = z := ⟨_, rfl⟩
             have HLN := hide hln
             rw [hln] at HO5 hlen ⊢
             clear hkd hb5 hcx hck hgx hgl HO HB HKD HWY hln
             go_upto_region 15 with (fail)
             go_cut [82] from 76 to 82 (fun v82 wr => v82 = .bool (last || decide (kd = 2)) ∧ Below wp.heap.size wp wr)
             case first =>
               cases last with
               | true =>
                 go_wp2
                 go_meet
                 exact ⟨rfl, Below.refl _ _⟩
               | false =>
                 by_cases hk2 : kd = 2
                 · subst hk2
                   go_wp2_with fail
                   refine HK5.out.mono ?_
                   rintro e w6 ⟨rfl, hb6⟩
                   have HB6 := hide hb6
                   clear hb6
                   go_wp2
                   go_meet
                   exact ⟨rfl, HB6.out⟩
                 · have hk3 : ¬ (kd : Int) = 2 := by omega
                   have HD2 := hide (decide_eq_false hk2)
                   have HK4 := hide (show ((kd : Int) == 2) = false from beq_eq_false_iff_ne.2 hk3)
                   clear hk2
                   go_wp2_with fail
                   refine HK5.out.mono ?_
                   rintro e w6 ⟨rfl, hb6⟩
                   have HB6 := hide hb6
                   clear hb6
                   go_wp2
                   go_meet
                   exact ⟨by rw [HD2.out]; first | rfl | (rw [HK4.out]; rfl), HB6.out⟩
             case rest =>
               obtain ⟨rfl, hb6⟩ := hcut
               have HB6 := hide (HB5.out.trans (hb6.mono HB5.out.size))
               have HO6 := hide (show OwnFd wc w3.heap.size _ FK from ownsRow_of HO5.out fun k e => hb6.block k (HO5.out.lt k e).2)
               have hcx := hcx5
               have hcx := (hb6.cell (p := ⟨gx, ox + k, none⟩) (World.block_lt_of_cell? wp _ hcx5)).trans hcx5
               clear hb6 hcx5 HK5 HO5
               cases hkp : (last || decide (kd = 2)) with
               | false =>
                 rw [hkp] at HST
                 have HNX := hide (show OwnFd wc w3.heap.size _ (((NL.take (k + 1)).map (fun n => (hd ++ n, bs (joinF (partsF (joinF l) n.data.toList))))).filter fun s => last || decide (kindS S s.2.data.toList = 2)) by
                   rw [HST.out, if_neg (by simp), List.append_nil]
                   exact HO6.out)
                 clear HO6 hkp
                 go_wp2
                 go_roundw
                 case rel => exact ⟨k + 1, by go_num, by omega, HNX, HB6⟩
                 case measure => simp [intOf]; omega
               | true =>
                 rw [hkp] at HST
                 have hx3 : RG encFd 2 (wc.alloc (.cells #[.string (hd ++ x), .string aT] fdty)) (some ⟨wc.heap.size, 0, none⟩) [(hd ++ x, aT)] := rg_new (enc := encFd) (n := 2) wc (hd ++ x, aT) fdty
                 obtain ⟨v4, w4, hrn, ho4, hg4, hv4⟩ := run_appG rowFd encFd_len encFd_one (c := 1) (OwnG.alloc HO6.out (.cells #[.string (hd ++ x), .string aT] fdty)) hx3 (by simp; have := HB6.out.size; omega) (by rw [HLN.out]; simp; omega)
                 have HRN := hide hrn
                 have HNX := hide (show OwnFd w4 w3.heap.size v4 (((NL.take (k + 1)).map (fun n => (hd ++ n, bs (joinF (partsF (joinF l) n.data.toList))))).filter fun s => last || decide (kindS S s.2.data.toList = 2)) by
                   rw [HST.out, if_pos rfl]
                   exact ho4)
                 have HB4 := hide (show Below w3.heap.size w3 w4 from (HB6.out.alloc HB6.out.size (.cells #[.string (hd ++ x), .string aT] fdty)).grown hg4 (by simp; have := HB6.out.size; omega) (fun q e => (HO6.out.lt q e).1))
                 clear hrn ho4 hg4 hv4 hx3 HO6 hkp
                 go_wp2_with (at_builtin; refine wpList_app_run ?_ (.tmp 83) (.tmp 92) ?_ ?_ ?_ ?_ HRN.out ?_; exact rfl; exact rfl; exact rfl; exact rfl; exact rfl)
                 go_roundw
                 case rel => exact ⟨k + 1, by go_num, by omega, HNX, HB4⟩
                 case measure => simp [intOf]; omega
end
section
open Go.RowKit Go.Deep Go.Maps Ln Pth Vf Qm.Glob
attribute [local go_sem] bt_eq
theorem ownSp_new (w : World) (s : Spt) {base : Nat} (hb : base ≤ w.heap.size) : OwnSp (w.alloc (.cells #[.string s.2, .string s.1] spty)) base (.slice (some ⟨w.heap.size, 0, none⟩) 1 1) [s] :=
 ⟨rfl, .inr ⟨_, 1, _, rfl, hb, heapNew w _, Nat.le_refl _, by unfold maxLen; omega, by simp, rfl⟩⟩
def outB (fs : St) (s : Spt) (p t : ByteArray) : List ByteArray := if firstB (nowB fs (partsQ p) s (partsQ p).length) = [] then [t] else (firstB (nowB fs (partsQ p) s (partsQ p).length)).map (·.1)
theorem paths_some (gf : Nat) (fs : St) (cwd : ByteArray) (A : Option Addr) (c : Nat) (L : List Pt) (w : World) (hf : FsOk fs) (hv : Hs (VS gf fs) w) (hm : MX w) (hcw : cwd.size ≤ 1000) (hA : RG encPt 6 w A L) (hl : L.length ≤ 1000) (hz : ∀ p ∈ L, p.text.size ≤ 1000) (hz2 : (textS L).length ≤ 1000000) (hp : (bsF (patS L)).size ≤ 200)
   (hpl : plT (bsF (patS L)) = none) (s0 : Spt) (hs0 : startB cwd (bsF (patS L)) = some s0) :
   Calls Tryz.prog 21 #[.pointer (some ⟨gf, 0, none⟩), .string cwd, .slice A L.length c] w fun e w' => (∃ v, e = .returned v ∧ OwnS w' w.heap.size v (outB fs s0 (bsF (patS L)) (bsF (textS L)))) ∧ Below w.heap.size w w' := by
 obtain ⟨w1, hw1⟩ : ∃ Z, w.alloc (.cells #[.pointer (some ⟨gf, 0, none⟩)] 23) = Z := ⟨_, rfl⟩
 have hb0 : Below w.heap.size w w1 := hw1 ▸ (Below.refl _ _).alloc (Nat.le_refl _) _
 have hgF0 := heapNew w (.cells #[.pointer (some ⟨gf, 0, none⟩)] 23)
 rw [hw1] at hgF0
 have hcF := cellOf hgF0 (j := 0) rfl
 have hsz1 : w1.heap.size = w.heap.size + 1 := by rw [← hw1]; simp
 have HPT := hide (pat_any A c L w1 (hA.below hb0) hl hz)
 have HTX := hide (fun Z (hb : Below w.heap.size w Z) => text_any A c L Z (hA.below hb) (by omega) hz2)
 obtain ⟨p, hpp⟩ : ∃ p, bsF (patS L) = p := ⟨_, rfl⟩
 obtain ⟨tx, htx⟩ : ∃ p, bsF (textS L) = p := ⟨_, rfl⟩
 rw [hpp] at HPT hp hpl hs0 ⊢
 rw [htx] at HTX ⊢
 have HPL := hide (fun Z => gplain_any p Z (by omega))
 rw [plVal_plT, hpl] at HPL
 have HPL := hide (show ∀ Z : World, Calls Tryz.prog 46 #[.string p] Z (fun e w' => e = .returned (.tuple #[.string ⟨#[]⟩, .bool false]) ∧ Below Z.heap.size Z w') from HPL.out)
 have HPR := hide (fun W => (Tryz.strings_HasPrefix p ⟨#[47]⟩ W).mono fun e w' ⟨h1, h2⟩ => (⟨h1, h2.symm⟩ : _ ∧ W = w'))
 have hpre := pre_slash p.data.toList
 rw [bs_of] at hpre
 rw [show (⟨#[47]⟩ : ByteArray).data.toList = [47] from rfl, hpre] at HPR
 obtain ⟨rb, hrb⟩ : ∃ z, decide (p.data.toList.head? = some 47) = z := ⟨_, rfl⟩
 rw [hrb] at HPR
 have HRB := hide hrb
 clear hrb
 have HSP := hide (fun W h => split_any p.data.toList 47 W h (by rw [data_len]; omega))
 rw [bs_of] at HSP
 have HAB := hide (fun W h => abs_any [47] cwd.data.toList W h (by simp) (by rw [data_len]; omega))
 unfold AbsPost at HAB
 rw [bs_of, show bs [47] = (⟨#[47]⟩ : ByteArray) from rfl] at HAB
 have HPQ := hide (fun (Z : World) (h : w.heap.size + 1 ≤ Z.heap.size) => partsQ_any p Z h (by omega))
 have hpq := partsQ_sz p
 obtain ⟨n, hn⟩ : ∃ n, L.length = n := ⟨_, rfl⟩
 rw [hn] at HPT HTX ⊢
 have HB0 := hide hb0
 have HCF := hide hcF
 have HV := hide hv
 have HM := hide hm
 have HF := hide hf
 have HW1 := hide hw1
 have HNO := hide (nowB_ok hf (partsQ p) (start_sz hs0))
 have HSZ1 := hide hsz1
 have HST := hide hs0
 have HPS := hide hpq.2
 have HPZ := hide hp
 obtain ⟨OB, hOB⟩ : ∃ z, outB fs s0 p tx = z := ⟨_, rfl⟩
 rw [hOB]
 unfold outB at hOB
 obtain ⟨P, hP⟩ : ∃ z, partsQ p = z := ⟨_, rfl⟩
 obtain ⟨k0, hk0⟩ : ∃ z, P.length = z := ⟨_, rfl⟩
 obtain ⟨SL, hSL⟩ : ∃ z, ((spl 47 p.data.toList).map bs) = z := ⟨_, rfl⟩
 rw [hP] at HPQ HNO HPS hpq hOB
 rw [hk0] at hpq hOB
 have HOB := hide hOB
 clear hOB
 rw [hSL] at HSP HPQ
 obtain ⟨sl, hsl⟩ : ∃ z, SL.length = z := ⟨_, rfl⟩
 rw [hsl] at HSP HPQ
 have HK0 := hide hk0
 have hk1 : k0 ≤ 201 := by omega
 clear hA hz hl hz2 hcw hp hpl hs0 hpp htx hn hb0 hgF0 hcF hsz1 hv hm hf hw1 hpre hpq hP hk0 hSL hsl
 go_enter Tryz.func21, Tryz.ntmps21
 go_wp2_with fail
 rw [HW1.out]
 refine HPT.out.mono ?_
 rintro e w2 ⟨rfl, hb2⟩
 have HB2 := hide (show Below (w.heap.size + 1) w1 w2 by rw [← HSZ1.out]; exact hb2)
 clear hb2
 go_wp2_with fail
 refine (HPL.out _).mono ?_
 rintro e w3 ⟨rfl, hb3⟩
 have HB3 := hide (HB2.out.trans (hb3.mono (by have := HB2.out.size; have := HSZ1.out; omega)))
 clear hb3
 have HO4 := hide (ownSp_new w3 (⟨#[47]⟩, ⟨#[47]⟩) (base := w.heap.size + 1) (by have := HB3.out.size; have := HSZ1.out; omega))
 have HB4 := hide (HB3.out.alloc (by have := HB3.out.size; have := HSZ1.out; omega) (.cells #[.string (⟨#[47]⟩ : ByteArray), .string ⟨#[47]⟩] spty))
 obtain ⟨g4, hg4⟩ : ∃ z, w3.heap.size = z := ⟨_, rfl⟩
 obtain ⟨w4, hw4⟩ : ∃ z, w3.alloc (.cells #[.string (⟨#[47]⟩ : ByteArray), .string ⟨#[47]⟩] spty) = z := ⟨_, rfl⟩
 have HW4 := hide hw4
 have HG4 := hide hg4
 dsimp only at HO4
 rw [hw4] at HO4 HB4
 rw [hg4] at HO4
 clear hw4 hg4
 go_wp2_with fail
 rw [HW4.out]
 refine (HPR.out _).mono ?_
 rintro e w5 ⟨rfl, rfl⟩
 go_upto_if 33 with (fail)
 rw [HG4.out]
 go_cut [10] from 33 to 46 (fun s10 wx => OwnSp wx (w.heap.size + 1) s10 [s0] ∧ Below (w.heap.size + 1) w1 wx)
 case first =>
   cases rb with
   | true =>
     have hr : p.data.toList.head? = some 47 := by simpa using HRB.out
     have he : s0 = (⟨#[47]⟩, ⟨#[47]⟩) := by
       have := HST.out
       unfold startB at this
       rw [if_pos hr] at this
       exact (Option.some.inj this).symm
     have HE := hide he
     clear he hr
     go_wp2
     go_meet
     rw [HE.out]
     exact ⟨HO4.out, HB4.out⟩
   | false =>
     have hr : ¬ p.data.toList.head? = some 47 := by simpa using HRB.out
     have he : (absF [47] cwd.data.toList).2 = 0 ∧ s0 = (⟨#[]⟩, bs (absF [47] cwd.data.toList).1) := by
       have := HST.out
       unfold startB at this
       rw [if_neg hr] at this
       by_cases h0 : (absF [47] cwd.data.toList).2 ≠ 0
       · rw [if_pos h0] at this; cases this
       · rw [if_neg h0] at this
         exact ⟨by omega, (Option.some.inj this).symm⟩
     obtain ⟨he1, he2⟩ := he
     rw [he1] at HAB
     obtain ⟨q, hq⟩ : ∃ z, bs (absF [47] cwd.data.toList).1 = z := ⟨_, rfl⟩
     rw [hq] at HAB he2
     have HE := hide he2
     clear he2 hr he1 hq
     go_wp2_with fail
     have hwx : Below w.heap.size w w4 := HB0.out.trans (HB4.out.mono (by omega))
     refine (HAB.out _ (HM.out.below hwx)).mono ?_
     clear hwx
     rintro e w6 ⟨rfl, hb6⟩
     have HB6 := hide (HB4.out.trans (hb6.mono (by have := HB4.out.size; have := HSZ1.out; omega)))
     clear hb6
     have HO7 := hide (ownSp_new w6 (⟨#[]⟩, q) (base := w.heap.size + 1) (by have := HB6.out.size; have := HSZ1.out; omega))
     have HB7 := hide (HB6.out.alloc (by have := HB6.out.size; have := HSZ1.out; omega) (.cells #[.string q, .string (⟨#[]⟩ : ByteArray)] spty))
     go_wp2
     go_meet
     rw [HE.out]
     exact ⟨HO7.out, HB7.out⟩
 case rest =>
   obtain ⟨ho5, hb5⟩ := hcut
   have HO5 := hide ho5
   have HB5 := hide hb5
   have hs1 : w.heap.size + 1 ≤ wc.heap.size := by have := hb5.size; have := HSZ1.out; omega
   have HP5 := hide (HPQ.out wc hs1)
   clear ho5 hb5 hs1 HAB HO4 HB4 HW4 HG4 HST HRB HPT HPL HPR HB2 HB3 HPQ
   go_wp2_with fail
   have hwx : Below w.heap.size w wc := HB0.out.trans (HB5.out.mono (by omega))
   refine (HSP.out _ (HM.out.below hwx)).mono ?_
   clear hwx
   rintro e w5 ⟨rfl, rfl⟩
   go_wp2_with fail
   refine HP5.out.mono ?_
   rintro e w6 ⟨vP, rfl, hop, hb6, hob⟩
   obtain ⟨PA, pc, rfl, hlc, hsr, hpa⟩ := hop.slice
   have HSR := hide hsr
   have HPA := hide (show ∀ a, PA = some a → a.block < w6.heap.size ∧ a.block = wc.heap.size from fun a e => by
     have := hpa a e
     exact ⟨(World.ownsRow.lt hop _ this).2, (hob _ this).symm⟩)
   have HO6 := hide (show OwnSp w6 (w.heap.size + 1) u10 [s0] from ownsRow_of HO5.out fun k e => hb6.block k (HO5.out.lt k e).2)
   have HB6 := hide (HB5.out.trans (hb6.mono (by have := HB5.out.size; have := HSZ1.out; omega)))
   have HA6 := hide (show ∀ k, u10.ownBlock = some k → ∀ a, PA = some a → a.block ≠ k from fun k e a ea => by
     have := (HO5.out.lt k e).2
     have := (HPA.out a ea).2
     omega)
   clear hop hb6 hob hlc hsr hpa HP5 HO5 HB5 HSP
   rw [HK0.out]
   go_wp2_with fail
   go_loopw [10, 14, 15, 52] (fun v10 _ _ v52 wr => ∃ i : Nat, v52 = .int .i64 i ∧ i ≤ k0 ∧ Hid (OwnSp wr (w.heap.size + 1) v10 (nowB fs P s0 i)) ∧ Hid (Below (w.heap.size + 1) w1 wr) ∧ Hid (SR wr PA P) ∧ Hid (∀ k, v10.ownBlock = some k → ∀ a, PA = some a → a.block ≠ k) ∧ Hid (∀ a, PA = some a → a.block < wr.heap.size)) (fun _ _ _ v52 _ => k0 - (intOf v52).toNat)
   case atStart => exact ⟨0, rfl, by omega, HO6, HB6, HSR, HA6, hide fun a e => (HPA.out a e).1⟩
   case round =>
     obtain ⟨ws, hws⟩ : ∃ Z, Z = wr := ⟨_, rfl⟩
     subst hws
     obtain ⟨i, rfl, hi, HO, HB, HS, HA, HPB⟩ := hrel
     by_cases hlt : i < k0
     case neg =>
       obtain rfl : i = k0 := by omega
       have HFI := hide (first_any HO.out (HNO.out i).ok.nodup (by have := (HNO.out i).len; omega))
       have hlow := fun q e => (HO.out.lt q e).1
       obtain ⟨F, hF⟩ : ∃ z, firstB (nowB fs P s0 i) = z := ⟨_, rfl⟩
       have hm5 := firstB_le (nowB fs P s0 i)
       rw [hF] at HFI hm5
       have HLOW := hide hlow
       have HFE := hide hF
       clear hF hlow
       go_wp2_with fail
       refine HFI.out.mono ?_
       clear HFI
       rintro e w2 ⟨⟨v', rfl, ho, _⟩, hg⟩
       obtain ⟨A3, c3, rfl, _, hrg, _, _⟩ := ho.slice encSp_len
       have hb2 : Below (w.heap.size + 1) w1 w2 := HB.out.grown hg (by have := HB.out.size; have := HSZ1.out; omega) HLOW.out
       have HB2 := hide (show Below w.heap.size w w2 from HB0.out.trans (hb2.mono (by omega)))
       have HRG := hide hrg
       obtain ⟨m, hmm⟩ : ∃ z, F.length = z := ⟨_, rfl⟩
       have HMM := hide hmm
       rw [hmm] at hm5
       rw [hmm]
       clear ho hg hrg hb2 hmm HO HB HS HA HPB HO6 HB6 HSR HA6 HPA HNO HPS HLOW HV HM HF
       go_wp2_with fail
       go_loopw [16, 18, 74] (fun v16 _ v74 wr => ∃ j : Nat, v74 = .int .i64 j ∧ j ≤ m ∧ Hid (OwnS wr w.heap.size v16 ((F.take j).map (·.1))) ∧ Hid (Below w.heap.size w wr) ∧ Hid (RG encSp 2 wr A3 F) ∧ Hid (∀ k, v16.ownBlock = some k → w2.heap.size ≤ k) ∧ Hid (Below w2.heap.size w2 wr)) (fun _ _ v74 _ => m - (intOf v74).toNat)
       case atStart => exact ⟨0, rfl, by omega, hide (OwnS.nil _ _), HB2, HRG, hide (fun k e => by cases e), hide (Below.refl _ _)⟩
       case round =>
         obtain ⟨wk, hwk⟩ : ∃ Z, Z = wr := ⟨_, rfl⟩
         subst hwk
         obtain ⟨j, rfl, hj, HO, HB, HR, HQ, HW2⟩ := hrel
         by_cases hjl : j < m
         case neg =>
           obtain rfl : j = m := by omega
           have HT := hide (show F.take j = F from List.take_of_length_le (by have := HMM.out; omega))
           rw [HT.out] at HO
           obtain ⟨A5, c5, rfl, _, _, _⟩ := HO.out.slice
           rw [List.length_map, HMM.out] at HO ⊢
           by_cases hm0 : j = 0
           · subst hm0
             have HE := hide (show F = [] from List.eq_nil_of_length_eq_zero HMM.out)
             have HTT := hide (HTX.out _ HB.out)
             go_wp2_with fail
             refine HTT.out.mono ?_
             rintro e w9 ⟨rfl, hb9⟩
             have HB9 := hide (HB.out.trans (hb9.mono HB.out.size))
             have HO9 := hide (OwnS.newL w9 [tx] (base := w.heap.size) HB9.out.size (by simp))
             clear hb9
             go_wp2
             go_ret
             have hob := HOB.out
             rw [HFE.out, if_pos HE.out] at hob
             rw [← hob]
             exact ⟨⟨_, rfl, HO9.out⟩, HB9.out.alloc HB9.out.size _⟩
           · have hji : ¬ (j : Int) = 0 := by omega
             have HE := hide (show F ≠ [] from fun e => hm0 (by rw [← HMM.out, e]; rfl))
             go_wp2
             go_ret
             have hob := HOB.out
             rw [HFE.out, if_neg HE.out] at hob
             rw [← hob]
             exact ⟨⟨_, rfl, HO.out⟩, HB.out⟩
         have bj : (j : Int) < (m : Int) := by omega
         obtain ⟨s, hs⟩ : ∃ s, F[j]? = some s := ⟨_, List.getElem?_eq_getElem (by have := HMM.out; omega)⟩
         obtain ⟨gs, os, rfl, hgs, hcs⟩ := HR.out j s hs
         have hc0 : wk.cell? ⟨gs, os + j * 2, none⟩ = some (.string s.2) := hcs 0 _ rfl
         have hc1 : wk.cell? ⟨gs, os + j * 2 + 1, none⟩ = some (.string s.1) := hcs 1 _ rfl
         obtain ⟨vA, vc, rfl, _, _, _⟩ := HO.out.slice
         obtain ⟨ln, hln⟩ : ∃ z, ((F.take j).map (·.1)).length = z := ⟨_, rfl⟩
         have hlj : ln ≤ 500 := by rw [← hln, List.length_map, List.length_take]; omega
         rw [hln] at HO HQ ⊢
         have HTN := hide (show (F.take (j + 1)).map (·.1) = (F.take j).map (·.1) ++ [s.1] by
           rw [List.take_add_one, hs, List.map_append]
           rfl)
         have hva := heapNew wk (.cells #[.string s.2, .string s.1] spty)
         have hv0 := cellOf hva (j := 0) rfl
         have hv1 := cellOf hva (j := 1) rfl
         have hoA := OwnS.alloc (OwnS.alloc HO.out (.cells #[.string s.2, .string s.1] spty)) (.cells #[.string s.1] 9)
         have hbA := (HB.out.alloc HB.out.size (.cells #[.string s.2, .string s.1] spty)).alloc (by have := HB.out.size; simp; omega) (.cells #[.string s.1] 9)
         obtain ⟨v4, w4, hrn, ho4, hg4, hv4⟩ := run_appS (c := 1) hoA (sr_new (wk.alloc (.cells #[.string s.2, .string s.1] spty)) s.1) (by have := HB.out.size; simp; omega) (by rw [hln, List.length_singleton]; omega)
         rw [show (wk.alloc (.cells #[.string s.2, .string s.1] spty)).heap.size = wk.heap.size + 1 by simp] at hrn
         have HRN := hide hrn
         have HO4 := hide (show OwnS w4 w.heap.size v4 ((F.take (j + 1)).map (·.1)) by rw [HTN.out]; exact ho4)
         have HB4 := hide (show Below w.heap.size w w4 from hbA.grown hg4 (by have := HB.out.size; simp; omega) (fun q e => (HO.out.lt q e).1))
         have hbA2 := (HW2.out.alloc HW2.out.size (.cells #[.string s.2, .string s.1] spty)).alloc (by have := HW2.out.size; simp; omega) (.cells #[.string s.1] 9)
         have hb24 : Below w2.heap.size w2 w4 := hbA2.grown hg4 (by have := HW2.out.size; simp; omega) (fun q e => HQ.out q e)
         have HW4 := hide hb24
         have HR4 := hide (HRG.out.below hb24)
         have HQ4 := hide (show ∀ k, v4.ownBlock = some k → w2.heap.size ≤ k from fun k e => by
           rcases hv4 with h | h
           · exact HQ.out k (h ▸ e)
           · rw [h] at e
             injection e with e
             have := HW2.out.size
             simp at e
             omega)
         clear hrn ho4 hg4 hv4 hbA hbA2 hb24 hoA hva hs hcs hln
         go_wp2_with (at_builtin; refine wpList_app_run ?_ (.tmp 78) (.tmp 81) ?_ ?_ ?_ ?_ HRN.out ?_; exact rfl; exact rfl; exact rfl; exact rfl; exact rfl)
         go_roundw
         case rel => exact ⟨j + 1, by go_num, by omega, HO4, HB4, HR4, HQ4, HW4⟩
         case measure => simp [intOf]; omega
     have b1 : (i : Int) < (k0 : Int) := by omega
     obtain ⟨nm, hnm⟩ : ∃ nm, P[i]? = some nm := ⟨_, List.getElem?_eq_getElem (by have := HK0.out; omega)⟩
     have hnz : nm.size ≤ 200 := Nat.le_trans (HPS.out nm (List.mem_of_getElem? hnm)) HPZ.out
     obtain ⟨gx, ox, rfl, hgx, hcx⟩ := HS.out i nm hnm
     have hba : Below ws.heap.size ws (ws.alloc (.cells #[.string nm] 9)) := (Below.refl _ _).alloc (Nat.le_refl _) _
     have hvr := cellOf (heapNew ws (.cells #[.string nm] 9)) (j := 0) rfl
     have hsl : w.heap.size + 1 ≤ ws.heap.size := by have := HB.out.size; have := HSZ1.out; omega
     have hwz : ws.heap.size < (ws.alloc (.cells #[.string nm] 9)).heap.size := by simp
     obtain ⟨W, hW⟩ : ∃ Z, ws.alloc (.cells #[.string nm] 9) = Z := ⟨_, rfl⟩
     rw [hW] at hba hvr hwz
     have HW := hide hW
     have hbw : Below (w.heap.size + 1) w1 W := HB.out.trans (hba.mono hsl)
     have HFS := hide (round_calls gf fs HF.out (w.heap.size + 1) HSZ1.out HB0.out HV.out HM.out ws.heap.size nm (by omega) (some ⟨gx, ox, none⟩) P (nowB fs P s0 i) i (HNO.out i) (by omega) u10 (ownsRow_of HO.out fun k e => hba.block k (HO.out.lt k e).2) hbw hvr (HS.out.below hba) (fun a e => by have := HPB.out a e; omega) (fun k e => ⟨by have := (HO.out.lt k e).2; omega, HA.out k e⟩) HCF.out)
     have hcf : W.cell? ⟨w.heap.size, 0, none⟩ = some (.pointer (some ⟨gf, 0, none⟩)) := (hbw.cell (p := ⟨w.heap.size, 0, none⟩) (by show w.heap.size < w.heap.size + 1; omega)).trans HCF.out
     have HNX := hide (show nowB fs P s0 (i + 1) = if i + 1 < P.length then (stepB fs (firstB (nowB fs P s0 i)) nm).filter (fun x => !keepB fs nm x) else stepB fs (firstB (nowB fs P s0 i)) nm by
       show (match P[i]? with | none => _ | some p => _) = _
       rw [hnm])
     have hno := (HNO.out i).step HF.out nm
     rw [HK0.out] at HNX
     obtain ⟨m, hmm⟩ : ∃ z, (firstB (nowB fs P s0 i)).length = z := ⟨_, rfl⟩
     rw [hmm] at HFS
     obtain ⟨NX, hNX⟩ : ∃ z, stepB fs (firstB (nowB fs P s0 i)) nm = z := ⟨_, rfl⟩
     rw [hNX] at HFS HNX hno
     have HNL := hide hno.2
     have HNZ := hide hnz
     have HSL := hide hsl
     have HWZ := hide hwz
     clear hba hW hmm hNX hnm hno hnz hbw hsl hwz
     go_upto_region 15 with (fail)
     rw [HW.out]
     go_cut [10] from 57 to 61 (fun v10 wx => RoundP (w.heap.size + 1) w1 ws.heap.size nm (some ⟨gx, ox, none⟩) P NX v10 wx)
     case first =>
       rename_i J K' hJ hK
       go_region_with (first
         | (go_at_call 53; refine (HFS.out _ (by first | exact Below.refl _ _ | exact (Below.refl _ _).drew | exact (Below.refl _ _).drew.drew)).mono ?_; rintro e w3 ⟨A3, c3, rfl, hF3, hN3, hst⟩; have HST := hide hst; clear hst)
         | (go_at_call 52; refine (HST.out _ (by first | exact Below.refl _ _ | exact (Below.refl _ _).drew | exact (Below.refl _ _).drew.drew)).mono ?_; rintro e w4 ⟨u, rfl, hr⟩; have HR := hide hr; clear hr))
       all_goals
         go_simp
         refine hK _ _ (Met.intro (hJ _ _ ?_))
         (repeat apply Exists.intro)
         refine ⟨?_, rfl⟩
         exact HR.out
     case rest =>
       obtain ⟨ho7, hb7, hn7, hs7, hne7⟩ := hcut
       have hsz7 : w.heap.size + 1 ≤ wc.heap.size := by have := hb7.size; have := HSZ1.out; omega
       have hw7 : ws.heap.size < wc.heap.size := World.block_lt_of_cell? wc _ hn7
       have hpb : gx < ws.heap.size := HPB.out _ rfl
       by_cases hl2 : i + 1 < k0
       · have b2 : (i : Int) + 1 < (k0 : Int) := by omega
         have eg : ∀ args w, (callFunc 55 args).run Tryz.prog w = .ok (.enter 55 args) w := enters_of Tryz.func55 (by kernel_rfl) rfl
         have hdl := delSp_any (keepB fs nm) 55 #[.pointer (some ⟨w.heap.size, 0, none⟩), .pointer (some ⟨ws.heap.size, 0, none⟩)] eg ho7 (by have := HNL.out.1; omega) (fun W' x hx hk => by
           have hbW : Below (w.heap.size + 1) w1 W' := hk.below hb7 (by have := HSZ1.out; omega) (fun k e => (ho7.lt k e).1)
           have hwW : Below w.heap.size w W' := HB0.out.trans (hbW.mono (by omega))
           exact paths2_any gf w.heap.size ws.heap.size fs nm x W' (HV.out.below (VS.fr _ _) hwW) (HM.out.below hwW) (by have := HNZ.out; omega) (by have := HNL.out.2 x hx; omega) ((hbW.cell (p := ⟨w.heap.size, 0, none⟩) (by show w.heap.size < w.heap.size + 1; omega)).trans HCF.out) (hk.cell hn7 (fun e => (hne7 _ e).1 rfl)))
         have HDL := hide hdl
         have HX := hide (show ∀ (v8 : Value) (w8 : World), OwnSp w8 (w.heap.size + 1) v8 (NX.filter fun x => !keepB fs nm x) → Kp wc w8 (fun k => u10.ownBlock = some k) → (∀ k, v8.ownBlock = some k → u10.ownBlock = some k) → Hid (OwnSp w8 (w.heap.size + 1) v8 (nowB fs P s0 (i + 1))) ∧ Hid (Below (w.heap.size + 1) w1 w8) ∧ Hid (SR w8 (some ⟨gx, ox, none⟩) P) ∧ Hid (∀ k, v8.ownBlock = some k → ∀ a, (some ⟨gx, ox, none⟩ : Option Addr) = some a → a.block ≠ k) ∧ Hid (∀ a, (some ⟨gx, ox, none⟩ : Option Addr) = some a → a.block < w8.heap.size) from fun v8 w8 ho8 hk8 hs8 => by
           refine ⟨hide (by rw [HNX.out, if_pos hl2]; exact ho8), hide (hk8.below hb7 (by have := HSZ1.out; omega) (fun k e => (ho7.lt k e).1)), hide (hs7.ofK hk8.size (fun a ea _ hla => hk8.block _ hla (fun e => (hne7 _ e).2 a ea rfl))), hide (fun k e a ea => (hne7 _ (hs8 k e)).2 a ea), hide (fun a ea => ?_)⟩
           injection ea with ea
           rw [← ea]
           have := hk8.size
           show gx < w8.heap.size
           omega)
         clear hdl ho7 hb7 hn7 hs7 hne7 hsz7 hw7 hpb
         go_wp2_with fail
         refine HDL.out.mono ?_
         rintro e w8 ⟨v8, rfl, ho8, hk8, hs8⟩
         obtain ⟨HO8, HB8, HS8, HA8, HP8⟩ := HX.out v8 w8 ho8 hk8 hs8
         clear ho8 hk8 hs8
         go_wp2
         go_roundw
         case rel => exact ⟨i + 1, by go_num, by omega, HO8, HB8, HS8, HA8, HP8⟩
         case measure => simp [intOf]; omega
       · have b2 : ¬ (i : Int) + 1 < (k0 : Int) := by omega
         have HO8 := hide (show OwnSp wc (w.heap.size + 1) u10 (nowB fs P s0 (i + 1)) by rw [HNX.out, if_neg hl2]; exact ho7)
         have HB8 := hide hb7
         have HS8 := hide hs7
         have HA8 := hide (fun k e => (hne7 k e).2)
         have HP8 := hide (show ∀ a, (some ⟨gx, ox, none⟩ : Option Addr) = some a → a.block < wc.heap.size from fun a ea => by
           injection ea with ea
           rw [← ea]
           show gx < wc.heap.size
           omega)
         clear ho7 hb7 hn7 hs7 hne7 hsz7 hw7 hpb
         go_wp2
         go_roundw
         case rel => exact ⟨i + 1, by go_num, by omega, HO8, HB8, HS8, HA8, HP8⟩
         case measure => simp [intOf]; omega
end
section
open Go.RowKit Go.Deep
attribute [local go_sem] bt_eq
def SpP (w0 : World) (po pn : Nat) (s : Sp) (m : Nat) (w' : World) : Prop := ∃ (out : List FR) (vo vn : Value), out.map FR.L = s.1 ∧ out.length ≤ m ∧ SpI w0 po pn out s.2 vo vn w'
theorem end_any (w0 : World) (po pn : Nat) (s : Sp) (m : Nat) (w : World) (h : SpP w0 po pn s m w) (hm : m ≤ 1000000) (hn : s.2.length ≤ 1000000) :
   Calls Tryz.prog 92 #[.pointer (some ⟨pn, 0, none⟩), .pointer (some ⟨po, 0, none⟩)] w fun e w' => e = .returned (.tuple #[]) ∧ SpP w0 po pn (flushS s) (m + 1) w' := by
 obtain ⟨out, vo, vn, ho1, ho2, hi⟩ := h
 obtain ⟨os, now⟩ := s
 dsimp only at ho1 hi hn
 subst ho1
 obtain ⟨A0, c0, rfl, _, _, _, _⟩ := hi.oo.slice encFR_len
 obtain ⟨A, c, rfl, _, _, _, _⟩ := hi.on.slice encPt_len
 have hcn := cellOfF hi.hn (j := 0) rfl
 have hfn := freeOfF hi.hn 0
 have hco := cellOfF hi.ho (j := 0) rfl
 by_cases hne : now = []
 · subst hne
   have HF := hide hi.flush0
   rw [List.length_nil] at hcn
   clear hi
   go_enter Tryz.func92, Tryz.ntmps92
   go_wp2
   go_end0
   exact ⟨rfl, out, _, _, by simp [flushS], by omega, HF.out⟩
 · obtain ⟨A', c', w4, hrun, ⟨h1, h2⟩, ⟨h3, h4⟩, h5⟩ := hi.flush1 hne (by omega)
   have HF := hide h5
   have hfl : flushS (out.map FR.L, now) = (out.map FR.L ++ [now], []) := by unfold flushS; rw [if_neg hne]
   rw [hfl]
   have hlp : 0 < now.length := List.length_pos_iff.2 hne
   obtain ⟨n, hn2⟩ : ∃ n, now.length = n := ⟨_, rfl⟩
   obtain ⟨n0, hn0⟩ : ∃ n, out.length = n := ⟨_, rfl⟩
   rw [hn2] at hcn hrun h3 hlp
   rw [hn0] at hco hrun h1 h3 h4
   have HN0 := hide hn0
   have hlpi : (0 : Int) < (n : Int) := by omega
   clear hi h5 hne hn2 hfl hn0
   go_enter Tryz.func92, Tryz.ntmps92
   go_wp2_with (at_builtin; refine wpList_app_run ?_ (.tmp 5) (.tmp 7) ?_ ?_ ?_ ?_ hrun ?_; exact rfl; exact rfl; exact rfl; exact rfl; exact rfl)
   go_end0
   have hf := HF.out
   rw [HN0.out] at hf
   exact ⟨rfl, out ++ [⟨A, c, now⟩], _, _, by simp, by rw [List.length_append, List.length_singleton]; omega, hf⟩
end
section
open Go.RowKit Go.Deep
theorem setCell_comm (W : World) (g i g' i' : Nat) (u v : Value) (h : g ≠ g') : (W.setCell ⟨g, i, none⟩ u).setCell ⟨g', i', none⟩ v = (W.setCell ⟨g', i', none⟩ v).setCell ⟨g, i, none⟩ u := by
 unfold World.setCell
 dsimp only
 congr 1
 apply Array.ext_getElem?
 intro k
 simp only [Array.getElem?_modify]
 by_cases h1 : g = k
 · have h2 : ¬ g' = k := fun e => h (h1.trans e.symm)
   simp [h1, h2]
 · by_cases h2 : g' = k
   · simp [h1, h2]
   · simp [h1, h2]
theorem ownsRow_store {w : World} {base : Nat} {e : TypeId} {n g len cap : Nat} {vals : List Value} (h : w.ownsRow base e n (.slice (some ⟨g, 0, none⟩) len cap) len vals) {i : Nat} (hi : i < len * n) (u : Value) :
   (∃ v, w.cell? ⟨g, i, none⟩ = some v) ∧ w.frozen? ⟨g, i, none⟩ = false ∧ (w.setCell ⟨g, i, none⟩ u).ownsRow base e n (.slice (some ⟨g, 0, none⟩) len cap) len (vals.set i u) := by
 obtain ⟨h1, h2⟩ := h
 rcases h2 with ⟨h2, _⟩ | ⟨g', cap', cur, e1, hb, hh, hc, hm, hs, ht⟩
 · cases h2
 injection e1 with e1 e2 e3
 injection e1 with e1
 injection e1 with e1
 subst e1 e3
 have hcur : i < cur.size := by
   rw [hs]
   exact Nat.lt_of_lt_of_le hi (Nat.mul_le_mul_right n hc)
 refine ⟨⟨cur[i], by simp [World.cell?, hh, hcur]⟩, by simp [World.frozen?, hh], by rw [List.length_set]; exact h1, .inr ⟨g, cap, cur.setIfInBounds i u, rfl, hb, ?_, hc, hm, by simpa using hs, ?_⟩⟩
 · simp [World.setCell, Array.getElem?_modify, hh]
 · rw [Array.toList_setIfInBounds, List.take_set, ht]
def set6 (W : World) (g k : Nat) (x : Pt) : World := (((((W.setCell ⟨g, k, none⟩ (.int .i64 x.kind)).setCell ⟨g, k + 1, none⟩ (.string x.text)).setCell ⟨g, k + 2, none⟩ (.string x.name)).setCell ⟨g, k + 3, none⟩ (.string x.op)).setCell ⟨g, k + 4, none⟩ (.slice x.wA x.wn x.wc)).setCell ⟨g, k + 5, none⟩ (.bool x.q)
def Can6 (W : World) (g k : Nat) (x : Pt) : Prop :=
 ((∃ v, W.cell? ⟨g, k, none⟩ = some v) ∧ W.frozen? ⟨g, k, none⟩ = false) ∧
 ((∃ v, (W.setCell ⟨g, k, none⟩ (.int .i64 x.kind)).cell? ⟨g, k + 1, none⟩ = some v) ∧ (W.setCell ⟨g, k, none⟩ (.int .i64 x.kind)).frozen? ⟨g, k + 1, none⟩ = false) ∧
 ((∃ v, ((W.setCell ⟨g, k, none⟩ (.int .i64 x.kind)).setCell ⟨g, k + 1, none⟩ (.string x.text)).cell? ⟨g, k + 2, none⟩ = some v) ∧ ((W.setCell ⟨g, k, none⟩ (.int .i64 x.kind)).setCell ⟨g, k + 1, none⟩ (.string x.text)).frozen? ⟨g, k + 2, none⟩ = false) ∧
 ((∃ v, (((W.setCell ⟨g, k, none⟩ (.int .i64 x.kind)).setCell ⟨g, k + 1, none⟩ (.string x.text)).setCell ⟨g, k + 2, none⟩ (.string x.name)).cell? ⟨g, k + 3, none⟩ = some v) ∧ (((W.setCell ⟨g, k, none⟩ (.int .i64 x.kind)).setCell ⟨g, k + 1, none⟩ (.string x.text)).setCell ⟨g, k + 2, none⟩ (.string x.name)).frozen? ⟨g, k + 3, none⟩ = false) ∧
 ((∃ v, ((((W.setCell ⟨g, k, none⟩ (.int .i64 x.kind)).setCell ⟨g, k + 1, none⟩ (.string x.text)).setCell ⟨g, k + 2, none⟩ (.string x.name)).setCell ⟨g, k + 3, none⟩ (.string x.op)).cell? ⟨g, k + 4, none⟩ = some v) ∧ ((((W.setCell ⟨g, k, none⟩ (.int .i64 x.kind)).setCell ⟨g, k + 1, none⟩ (.string x.text)).setCell ⟨g, k + 2, none⟩ (.string x.name)).setCell ⟨g, k + 3, none⟩ (.string x.op)).frozen? ⟨g, k + 4, none⟩ = false) ∧
 ((∃ v, (((((W.setCell ⟨g, k, none⟩ (.int .i64 x.kind)).setCell ⟨g, k + 1, none⟩ (.string x.text)).setCell ⟨g, k + 2, none⟩ (.string x.name)).setCell ⟨g, k + 3, none⟩ (.string x.op)).setCell ⟨g, k + 4, none⟩ (.slice x.wA x.wn x.wc)).cell? ⟨g, k + 5, none⟩ = some v) ∧ (((((W.setCell ⟨g, k, none⟩ (.int .i64 x.kind)).setCell ⟨g, k + 1, none⟩ (.string x.text)).setCell ⟨g, k + 2, none⟩ (.string x.name)).setCell ⟨g, k + 3, none⟩ (.string x.op)).setCell ⟨g, k + 4, none⟩ (.slice x.wA x.wn x.wc)).frozen? ⟨g, k + 5, none⟩ = false)
theorem set_at {α : Type} {a b : List α} {k j : Nat} (h : a.length = k) (v : α) : (a ++ b).set (k + j) v = a ++ b.set j v := by
 rw [List.set_append, if_neg (by omega)]
 congr 2
 omega
theorem set6_ok {W : World} {base g n c : Nat} {L : List Pt} {y : Pt} (h : OwnG encPt 6 tyP W base (.slice (some ⟨g, 0, none⟩) (n + 1) c) (L ++ [y])) (hn : L.length = n) (x : Pt) :
   Can6 W g (n * 6) x ∧ OwnG encPt 6 tyP (set6 W g (n * 6) x) base (.slice (some ⟨g, 0, none⟩) (n + 1) c) (L ++ [x]) := by
 have hl : (L ++ [y]).length = n + 1 := by simp [hn]
 have hlx : (L ++ [x]).length = n + 1 := by simp [hn]
 unfold OwnG at h ⊢
 rw [hl] at h
 rw [hlx]
 have s0 := ownsRow_store h (i := n * 6) (by omega) (.int .i64 x.kind)
 have s1 := ownsRow_store s0.2.2 (i := n * 6 + 1) (by omega) (.string x.text)
 have s2 := ownsRow_store s1.2.2 (i := n * 6 + 2) (by omega) (.string x.name)
 have s3 := ownsRow_store s2.2.2 (i := n * 6 + 3) (by omega) (.string x.op)
 have s4 := ownsRow_store s3.2.2 (i := n * 6 + 4) (by omega) (.slice x.wA x.wn x.wc)
 have s5 := ownsRow_store s4.2.2 (i := n * 6 + 5) (by omega) (.bool x.q)
 refine ⟨⟨⟨s0.1, s0.2.1⟩, ⟨s1.1, s1.2.1⟩, ⟨s2.1, s2.2.1⟩, ⟨s3.1, s3.2.1⟩, ⟨s4.1, s4.2.1⟩, ⟨s5.1, s5.2.1⟩⟩, ?_⟩
 have hv : (valsG encPt L).length = n * 6 := by rw [valsG_len encPt_len, hn]
 have e : ((((((valsG encPt (L ++ [y])).set (n * 6) (.int .i64 x.kind)).set (n * 6 + 1) (.string x.text)).set (n * 6 + 2) (.string x.name)).set (n * 6 + 3) (.string x.op)).set (n * 6 + 4) (.slice x.wA x.wn x.wc)).set (n * 6 + 5) (.bool x.q) = valsG encPt (L ++ [x]) := by
   rw [valsG_app, valsG_app]
   have h0 := fun (b : List Value) (v : Value) => set_at (b := b) (j := 0) hv v
   simp only [Nat.add_zero] at h0
   rw [h0, set_at hv, set_at hv, set_at hv, set_at hv, set_at hv]
   rfl
 rw [← e]
 exact s5.2.2
theorem set6_kp (W : World) (g k : Nat) (x : Pt) : Kp W (set6 W g k x) (fun b => b = g) := by
 have t : ∀ {A B : World} {i : Nat} {v : Value}, Kp A B (fun b => b = g) → Kp A (B.setCell ⟨g, i, none⟩ v) (fun b => b = g) := fun h => h.trans (objKp.mono fun q e => .inl e)
 exact t (t (t (t (t objKp))))
theorem set6_comm (W : World) (g k : Nat) (x : Pt) (p : Nat) (V : Value) (h : g ≠ p) : set6 (W.setCell ⟨p, 0, none⟩ V) g k x = (set6 W g k x).setCell ⟨p, 0, none⟩ V := by
 unfold set6
 have c := fun (Z : World) i u => setCell_comm Z p 0 g i V u (fun e => h e.symm)
 rw [c, c, c, c, c, c]
theorem SpI.push {w0 w : World} {po pn : Nat} {out : List FR} {now : List Pt} {vo : Value} {A : Option Addr} {n c : Nat} (h : SpI w0 po pn out now vo (.slice A n c) w) (hl : now.length ≤ 1000000) (x : Pt) :
   ∃ g c' w4, (Builtin.append_ #[tyN, tyN] tyN #[.slice A n c, .slice (some ⟨w.heap.size, 0, none⟩) 1 1]).run Tryz.prog (w.alloc (.cells #[.int .i64 0, .string ⟨#[]⟩, .string ⟨#[]⟩, .string ⟨#[]⟩, .slice none 0 0, .bool false] tyP)) = .ok (.slice (some ⟨g, 0, none⟩) (n + 1) c') w4 ∧
     (w4.cell? ⟨pn, 0, none⟩ = some (.slice A n c) ∧ w4.frozen? ⟨pn, 0, none⟩ = false) ∧ Can6 w4 g (n * 6) x ∧
     ((set6 w4 g (n * 6) x).cell? ⟨pn, 0, none⟩ = some (.slice A n c) ∧ (set6 w4 g (n * 6) x).frozen? ⟨pn, 0, none⟩ = false) ∧
     Can6 (w4.setCell ⟨pn, 0, none⟩ (.slice (some ⟨g, 0, none⟩) (n + 1) c')) g (n * 6) x ∧
     set6 (w4.setCell ⟨pn, 0, none⟩ (.slice (some ⟨g, 0, none⟩) (n + 1) c')) g (n * 6) x = (set6 w4 g (n * 6) x).setCell ⟨pn, 0, none⟩ (.slice (some ⟨g, 0, none⟩) (n + 1) c') ∧
     (∀ b, b < w.heap.size → b ≠ pn → (Value.slice A n c).ownBlock ≠ some b → w4.heap[b]? = w.heap[b]? ∧ (set6 w4 g (n * 6) x).heap[b]? = w.heap[b]? ∧ (w4.setCell ⟨pn, 0, none⟩ (.slice (some ⟨g, 0, none⟩) (n + 1) c')).heap[b]? = w.heap[b]? ∧ ((set6 w4 g (n * 6) x).setCell ⟨pn, 0, none⟩ (.slice (some ⟨g, 0, none⟩) (n + 1) c')).heap[b]? = w.heap[b]?) ∧
     SpI w0 po pn out (now ++ [x]) vo (.slice (some ⟨g, 0, none⟩) (n + 1) c') ((set6 w4 g (n * 6) x).setCell ⟨pn, 0, none⟩ (.slice (some ⟨g, 0, none⟩) (n + 1) c')) := by
 obtain ⟨A1, c1, e, hc, hr, hb, _⟩ := h.on.slice encPt_len
 injection e with e1 e2 e3
 subst e1 e2 e3
 have hba := (Below.refl w.heap.size w).alloc (Nat.le_refl _) (.cells #[.int .i64 0, .string ⟨#[]⟩, .string ⟨#[]⟩, .string ⟨#[]⟩, .slice none 0 0, .bool false] tyP)
 have h3 := h.step hba
 have hx : RG encPt 6 (w.alloc (.cells #[.int .i64 0, .string ⟨#[]⟩, .string ⟨#[]⟩, .string ⟨#[]⟩, .slice none 0 0, .bool false] tyP)) (some ⟨w.heap.size, 0, none⟩) [pt0] := rg_new (enc := encPt) (n := 6) w pt0 tyP
 obtain ⟨v4, w4, hrun, ho, hg, hv⟩ := run_appG rowPt encPt_len encPt_one (c := 1) h3.on hx h3.below.size (by simp; omega)
 obtain ⟨A', c', e9, _, _, hb9, hg9⟩ := ho.slice encPt_len
 have hlen : (now ++ [pt0]).length = now.length + 1 := by simp
 rw [hlen] at e9
 subst e9
 have hsz : (w.alloc (.cells #[.int .i64 0, .string ⟨#[]⟩, .string ⟨#[]⟩, .string ⟨#[]⟩, .slice none 0 0, .bool false] tyP)).heap.size = w.heap.size + 1 := by simp
 obtain ⟨g, rfl⟩ : ∃ g, A' = some ⟨g, 0, none⟩ := by
   rcases ho.2 with ⟨e, _⟩ | ⟨g, cap, cur, e, _⟩
   · injection e with e1 e2 e3; simp at e2
   · injection e with e1 e2 e3; exact ⟨g, e1⟩
 have hpn := (Array.getElem?_eq_some_iff.1 h3.hn).1
 have hpn0 := (Array.getElem?_eq_some_iff.1 h.hn).1
 have hpo0 := (Array.getElem?_eq_some_iff.1 h.ho).1
 have hnl : ∀ k, (Value.slice A now.length c).ownBlock = some k → w0.heap.size ≤ k ∧ k < w.heap.size := fun k e => h.on.lt k e
 have hgg : g < w4.heap.size ∧ w0.heap.size ≤ g ∧ g ≠ po ∧ g ≠ pn ∧ vo.ownBlock ≠ some g ∧ (∀ b, b < w.heap.size → (Value.slice A now.length c).ownBlock ≠ some b → g ≠ b) := by
   refine ⟨(ho.lt g rfl).2, (ho.lt g rfl).1, ?_⟩
   rcases hv with q | q
   · have q2 : (Value.slice A now.length c).ownBlock = some g := by rw [← q]; rfl
     obtain ⟨b1, b2, b3⟩ := h.bn g q2
     exact ⟨b1, b2, b3, fun b _ hb e2 => hb (e2 ▸ q2)⟩
   · have q2 : some g = some (w.alloc (.cells #[.int .i64 0, .string ⟨#[]⟩, .string ⟨#[]⟩, .string ⟨#[]⟩, .slice none 0 0, .bool false] tyP)).heap.size := q
     injection q2 with q2
     rw [hsz] at q2
     refine ⟨by omega, by omega, fun e => ?_, fun b hb _ => by omega⟩
     have := (h.oo.lt g e).2
     omega
 have hg2 := (hg.block pn hpn (fun e => (h3.bn pn e.symm).2.1 rfl)).trans h3.hn
 obtain ⟨n, hn⟩ : ∃ n, now.length = n := ⟨_, rfl⟩
 unfold OwnG at ho
 rw [hlen] at ho
 have ho' : OwnG encPt 6 tyP w4 w0.heap.size (.slice (some ⟨g, 0, none⟩) (now.length + 1) c') (now ++ [pt0]) := by unfold OwnG; rw [hlen]; exact ho
 have hk1 : Kp w4 (w4.setCell ⟨pn, 0, none⟩ (.slice (some ⟨g, 0, none⟩) (now.length + 1) c')) (fun k => k = pn) := objKp
 have ho2 : OwnG encPt 6 tyP (w4.setCell ⟨pn, 0, none⟩ (.slice (some ⟨g, 0, none⟩) (now.length + 1) c')) w0.heap.size (.slice (some ⟨g, 0, none⟩) (now.length + 1) c') (now ++ [pt0]) := ho'.of fun k e => hk1.block k (ho'.lt k e).2 (by
   have e' : some g = some k := e
   injection e' with e'
   exact e' ▸ hgg.2.2.2.1)
 obtain ⟨k1, k2⟩ := set6_ok ho' rfl x
 obtain ⟨k3, k4⟩ := set6_ok ho2 rfl x
 have hcm := set6_comm w4 g (now.length * 6) x pn (.slice (some ⟨g, 0, none⟩) (now.length + 1) c') hgg.2.2.2.1
 have hks := set6_kp w4 g (now.length * 6) x
 have hs2 := (hks.block pn (Nat.lt_of_lt_of_le hpn hg.size) (fun e => hgg.2.2.2.1 e.symm)).trans hg2
 have hk5 : Kp (set6 w4 g (now.length * 6) x) ((set6 w4 g (now.length * 6) x).setCell ⟨pn, 0, none⟩ (.slice (some ⟨g, 0, none⟩) (now.length + 1) c')) (fun k => k = pn) := objKp
 have hs3 : ((set6 w4 g (now.length * 6) x).setCell ⟨pn, 0, none⟩ (.slice (some ⟨g, 0, none⟩) (now.length + 1) c')).heap[pn]? = some (.cells #[.slice (some ⟨g, 0, none⟩) (now.length + 1) c'] tyN) := by simpa using objSet (j := 0) (vs := [.slice A now.length c]) hs2 (.slice (some ⟨g, 0, none⟩) (now.length + 1) c')
 have hs4 := hg.size
 have hw4 : ∀ b, b < w.heap.size → (Value.slice A now.length c).ownBlock ≠ some b → w4.heap[b]? = w.heap[b]? := fun b hb1 hb2 => (hg.block b (by omega) (fun e => hb2 e.symm)).trans (Below.heap_alloc _ _ _ hb1)
 have hall : ∀ b, b < w.heap.size → b ≠ pn → (Value.slice A now.length c).ownBlock ≠ some b → w4.heap[b]? = w.heap[b]? ∧ (set6 w4 g (now.length * 6) x).heap[b]? = w.heap[b]? ∧ (w4.setCell ⟨pn, 0, none⟩ (.slice (some ⟨g, 0, none⟩) (now.length + 1) c')).heap[b]? = w.heap[b]? ∧ ((set6 w4 g (now.length * 6) x).setCell ⟨pn, 0, none⟩ (.slice (some ⟨g, 0, none⟩) (now.length + 1) c')).heap[b]? = w.heap[b]? := fun b q1 q2 q3 => by
   have r1 := hw4 b q1 q3
   have hb4 : b < w4.heap.size := by omega
   have r2 := (hks.block b hb4 (fun e => hgg.2.2.2.2.2 b q1 q3 e.symm)).trans r1
   exact ⟨r1, r2, (hk1.block b hb4 q2).trans r1, (hk5.block b (Nat.lt_of_lt_of_le hb4 hks.size) q2).trans r2⟩
 refine ⟨g, c', w4, hrun, ⟨cellOfF hg2 (j := 0) rfl, freeOfF hg2 0⟩, k1, ⟨cellOfF hs2 (j := 0) rfl, freeOfF hs2 0⟩, k3, hcm, hall, ?_⟩
 have hbl : Below w0.heap.size w0 ((set6 w4 g (now.length * 6) x).setCell ⟨pn, 0, none⟩ (.slice (some ⟨g, 0, none⟩) (now.length + 1) c')) := by
   have b1 : Below w0.heap.size w0 w4 := h3.below.trans (Below.of_gb hg h3.below.size (fun k e => (hnl k e).1))
   have b2 := hks.below b1 (Nat.le_refl _) (fun k e => e ▸ hgg.2.1)
   exact hk5.below b2 (Nat.le_refl _) (fun k e => e ▸ h.lo.2.1)
 have hne : ∀ b, b < w.heap.size → (∀ k, vo.ownBlock = some k → True) → True := fun _ _ _ => trivial
 have hvo : ∀ k, vo.ownBlock = some k → k < w.heap.size ∧ k ≠ pn ∧ (Value.slice A now.length c).ownBlock ≠ some k := fun k e => ⟨(h.oo.lt k e).2, (h.bo k e).2, fun e2 => (h.bn k e2).2.2 e⟩
 have hpo : po < w.heap.size ∧ po ≠ pn ∧ (Value.slice A now.length c).ownBlock ≠ some po := ⟨hpo0, h.lo.2.2, fun e => (h.bn po e).1 rfl⟩
 refine ⟨hbl, h.lo, (hall po hpo.1 hpo.2.1 hpo.2.2).2.2.2.trans h.ho, hs3, h.oo.of fun k e => (hall k (hvo k e).1 (hvo k e).2.1 (hvo k e).2.2).2.2.2, ?_, h.bo, ?_, fun r hr2 => ?_⟩
 · refine k2.of fun k e => hk5.block k (k2.lt k e).2 ?_
   have e' : some g = some k := e
   injection e' with e'
   exact e' ▸ hgg.2.2.2.1
 · intro k e
   have e' : some g = some k := e
   injection e' with e'
   subst e'
   exact ⟨hgg.2.2.1, hgg.2.2.2.1, hgg.2.2.2.2.1⟩
 · obtain ⟨r1, r2, r3, r4⟩ := h.rows r hr2
   have hsz2 : w.heap.size ≤ ((set6 w4 g (now.length * 6) x).setCell ⟨pn, 0, none⟩ (.slice (some ⟨g, 0, none⟩) (now.length + 1) c')).heap.size := by
     have := hks.size
     have := hk5.size
     omega
   refine ⟨r1.of hsz2 fun a e hl2 => ?_, r2, r3, fun a e => ?_⟩
   · obtain ⟨q1, q2, q3, q4, q5⟩ := r4 a e
     exact (hall _ hl2 q3 q5).2.2.2
   · obtain ⟨q1, q2, q3, q4, q5⟩ := r4 a e
     refine ⟨by omega, q2, q3, q4, fun e2 => ?_⟩
     have e' : some g = some a.block := e2
     injection e' with e'
     exact hgg.2.2.2.2.2 a.block q1 q5 e'
end
section
section
variable {P : Program} {ops : Array Oper} {Q : Exit → Act → World → Prop} {md : Region.Mode} {S : World → Prop}
theorem wpAnyH_tk {i d : Nat} {oi : Oper} {v : Value} {fuel : Nat} {listed : Array Bool} {a : Act} {w : World} (hi : ops[i]? = some oi) (hd : oi.dst = some d)
   (hs : Region.noSelect ops = true) (hf : Region.free md ops listed i = true) (hr : (Region.ready md ops listed).contains i = true)
   (hQ : ∀ c a w, Q (.panic c) (a.put oi.dst v) w → Q (.panic c) a w) (hy : YieldsIf P ops S oi v a) (hS : S w)
   (h : wpAnyH P md ops Q S fuel (listed.setIfInBounds i true) { a with tmps := a.tmps.setIfInBounds d v } w) : wpAnyH P md ops Q S (fuel + 1) listed a w :=
 wpAnyH_take hi hs hf hr hQ hy hS (by rw [hd]; exact h)
theorem wpAnyH_off {i d : Nat} {oi : Oper} {fuel : Nat} {listed : Array Bool} {a : Act} {w : World} (hi : ops[i]? = some oi) (hd : oi.dst = some d)
   (hs : Region.noSelect ops = true) (hf : Region.free md ops listed i = true) (hr : (Region.ready md ops listed).contains i = true)
   (hQ : ∀ c a w, Q (.panic c) (a.put oi.dst undef) w → Q (.panic c) a w) (hy : Region.wanted oi (yielded ops a.tmps) = false) (hS : S w)
   (h : wpAnyH P md ops Q S fuel (listed.setIfInBounds i true) { a with tmps := a.tmps.setIfInBounds d undef } w) : wpAnyH P md ops Q S (fuel + 1) listed a w :=
 wpAnyH_tk hi hd hs hf hr hQ (Or.inr ⟨hy, rfl⟩) hS h
theorem tq {i d : Nat} {oi : Oper} {v : Value} {fuel : Nat} {listed : Array Bool} {a : Act} {w : World} (hi : ops[i]? = some oi) (hd : oi.dst = some d)
   (hc : (Region.noSelect ops && (Region.free md ops listed i && ((Region.ready md ops listed).contains i && Region.wanted oi (yielded ops a.tmps)))) = true)
   (hQ : ∀ c a w, Q (.panic c) (a.put oi.dst v) w → Q (.panic c) a w) (hy : ∀ w, S w → (execOp a.eval oi).run P w = .ok (.value v) w) (hS : S w)
   (h : wpAnyH P md ops Q S fuel (listed.setIfInBounds i true) { a with tmps := a.tmps.setIfInBounds d v } w) : wpAnyH P md ops Q S (fuel + 1) listed a w := by
 simp only [Bool.and_eq_true] at hc
 exact wpAnyH_tk hi hd hc.1 hc.2.1 hc.2.2.1 hQ (Or.inl ⟨hc.2.2.2, hy⟩) hS h
theorem rq {k : Nat} {o : Oper} {fuel : Nat} {listed : Array Bool} {a : Act} {w : World} (ho : ops[k]? = some o) (hr : Region.ready md ops listed = [k]) (hw : Region.wanted o (yielded ops a.tmps) = true)
   (h : ∀ K' : Act → World → Prop, Shut (∀ a w, S w → (S w → wpAnyH P md ops Q S fuel (listed.setIfInBounds k true) a w) → K' a w) → Oper.wp P o a w K' Q) : wpAnyH P md ops Q S (fuel + 1) listed a w :=
 wpAnyH_ready hr (by simp) (AllReadyH.cons ho (fun K hK => by rw [if_pos hw]; exact h K hK) AllReadyH.nil)
theorem sA {α : Type} {l : List α} {i : Nat} {a : α} : l.toArray.setIfInBounds i a = (l.set i a).toArray := List.setIfInBounds_toArray l i a
theorem sB {α : Type} {x : α} {xs : List α} {a : α} : (x :: xs).set 0 a = a :: xs := List.set_cons_zero
theorem sC {α : Type} {x : α} {xs : List α} {i : Nat} {a : α} : (x :: xs).set (i + 1) a = x :: xs.set i a := List.set_cons_succ
theorem step_app_run {o : Oper} {a : Act} {w : World} {K : Act → World → Prop} {X : Prop} {t : TypeId} {v xv v' : Value} {w' : World} (hgd : o.guard = none) (s x : Operand)
   (ho : o.op = .call { callee := .builtin .append, args := #[s, x], argTypes := #[t, t] }) (ht : o.type = t) (hs : a.eval s = v) (hx : a.eval x = xv)
   (hrun : (Builtin.append_ #[t, t] t #[v, xv]).run P w = .ok v' w') (hk : K (a.put o.dst v') w') : if Region.wanted o (yielded ops a.tmps) = true then Oper.wp P o a w K Q else X := by
 have hw : Region.wanted o (yielded ops a.tmps) = true := by simp [Region.wanted, hgd]
 rw [if_pos hw]
 unfold Oper.wp execOp
 simp only [ho, resolve, invoke, builtin, Sem.run_bind, Sem.run_pure, Result.andThen_ok, List.map_toArray, List.map_cons, List.map_nil, hs, hx, ht, hrun]
 exact hk
end
end
section
open Go.RowKit Go.Deep
attribute [local go_sem] bt_eq
def SplitP (R : List (List Pt)) (w : World) (e : Ending) (w' : World) : Prop := ∃ (out : List FR) (A : Option Addr) (c : Nat), e = .returned (.slice A out.length c) ∧ out.map FR.L = R ∧ RG encFR 1 w' A out ∧ (∀ r ∈ out, RG encPt 6 w' r.A r.L ∧ r.L.length ≤ r.c ∧ r.L ≠ []) ∧ Below w.heap.size w w'
theorem SpI.made (w : World) : SpI w w.heap.size (w.heap.size + 1) [] [] (.slice none 0 0) (.slice none 0 0) ((w.alloc (.cells #[.slice none 0 0] tyF)).alloc (.cells #[.slice none 0 0] tyN)) := by
 have h1 := heapNew w (.cells #[.slice none 0 0] tyF)
 have h2 := heapNew (w.alloc (.cells #[.slice none 0 0] tyF)) (.cells #[.slice none 0 0] tyN)
 simp only [World.size_alloc] at h2
 exact ⟨((Below.refl _ _).alloc (Nat.le_refl _) _).alloc (by simp) _, ⟨Nat.le_refl _, by omega, by omega⟩, (Below.heap_alloc _ _ _ (by simp)).trans h1, h2, OwnG.nil _ _, OwnG.nil _ _, fun k e => by simp [Value.ownBlock] at e, fun k e => by simp [Value.ownBlock] at e, fun r hr => by cases hr⟩
theorem flush_len (s : Sp) : (flushS s).2.length = 0 := by
 unfold flushS
 split
 · rename_i h; rw [h]; rfl
 · rfl
theorem SpP.mono {w0 w : World} {po pn : Nat} {s : Sp} {m m' : Nat} (h : SpP w0 po pn s m w) (hm : m ≤ m') : SpP w0 po pn s m' w := by
 obtain ⟨out, vo, vn, h1, h2, h3⟩ := h
 exact ⟨out, vo, vn, h1, Nat.le_trans h2 hm, h3⟩
theorem SpP.step {w0 w w' : World} {po pn : Nat} {s : Sp} {m : Nat} (h : SpP w0 po pn s m w) (hb : Below w.heap.size w w') : SpP w0 po pn s m w' := by
 obtain ⟨out, vo, vn, h1, h2, h3⟩ := h
 exact ⟨out, vo, vn, h1, h2, h3.step hb⟩
theorem ownB_len {A : Option Addr} {n m c k : Nat} (h : (Value.slice A n c).ownBlock = some k) : (Value.slice A m c).ownBlock = some k := by
 cases A with
 | none => exact h
 | some a => exact h
theorem push_pack {w0 W : World} {po pn : Nat} {s : Sp} {m : Nat} (h : SpP w0 po pn s m W) (hl : s.2.length ≤ 1000000) (x : Pt) :
   ∃ (A : Option Addr) (n c g c' : Nat) (w4 : World), n = s.2.length ∧ W.cell? ⟨pn, 0, none⟩ = some (.slice A n c) ∧
     (W.alloc (.cells #[.int .i64 0, .string ⟨#[]⟩, .string ⟨#[]⟩, .string ⟨#[]⟩, .slice none 0 0, .bool false] tyP)).cell? ⟨pn, 0, none⟩ = some (.slice A n c) ∧
     (Builtin.append_ #[tyN, tyN] tyN #[.slice A n c, .slice (some ⟨W.heap.size, 0, none⟩) 1 1]).run Tryz.prog (W.drew.alloc (.cells #[.int .i64 0, .string ⟨#[]⟩, .string ⟨#[]⟩, .string ⟨#[]⟩, .slice none 0 0, .bool false] tyP)) = .ok (.slice (some ⟨g, 0, none⟩) (n + 1) c') w4 ∧
     (w4.cell? ⟨pn, 0, none⟩ = some (.slice A n c) ∧ w4.frozen? ⟨pn, 0, none⟩ = false) ∧ Can6 w4 g (n * 6) x ∧
     ((set6 w4 g (n * 6) x).cell? ⟨pn, 0, none⟩ = some (.slice A n c) ∧ (set6 w4 g (n * 6) x).frozen? ⟨pn, 0, none⟩ = false) ∧
     Can6 (w4.setCell ⟨pn, 0, none⟩ (.slice (some ⟨g, 0, none⟩) (n + 1) c')) g (n * 6) x ∧
     SpP w0 po pn (s.1, s.2 ++ [x]) m ((set6 w4 g (n * 6) x).setCell ⟨pn, 0, none⟩ (.slice (some ⟨g, 0, none⟩) (n + 1) c')) ∧
     SpP w0 po pn (s.1, s.2 ++ [x]) m (set6 (w4.setCell ⟨pn, 0, none⟩ (.slice (some ⟨g, 0, none⟩) (n + 1) c')) g (n * 6) x) := by
 obtain ⟨out, vo, vn, ho1, ho2, hi⟩ := h
 obtain ⟨A, c, rfl, _, _, _, _⟩ := hi.on.slice encPt_len
 have hid := hi.step (Below.refl _ _).drew
 obtain ⟨g, c', w4, hrun, hp, k1, hp2, k3, hcm, _, hfin⟩ := hid.push hl x
 have hcn := cellOfF hi.hn (j := 0) (v := .slice A s.2.length c) rfl
 have hpn := (Array.getElem?_eq_some_iff.1 hi.hn).1
 refine ⟨A, s.2.length, c, g, c', w4, rfl, hcn, ?_, hrun, hp, k1, hp2, k3, ⟨out, vo, _, ho1, ho2, hfin⟩, ?_⟩
 · rw [World.cell?_of_block (Below.heap_alloc W _ pn hpn)]
   exact hcn
 · rw [hcm]
   exact ⟨out, vo, _, ho1, ho2, hfin⟩
theorem fsplit_any (A : Option Addr) (c : Nat) (L : List Pt) (w : World) (hA : RG encPt 6 w A L) (hl : L.length ≤ 100) (hz : ∀ p ∈ L, p.text.size ≤ 5000) :
   Calls Tryz.prog 42 #[.slice A L.length c] w (SplitP (splitS L) w) := by
 have HA := hide hA
 have HZ := hide hz
 obtain ⟨n, hn⟩ : ∃ n, L.length = n := ⟨_, rfl⟩
 have HN := hide hn
 rw [hn] at hl ⊢
 have hni : (n : Int) ≤ 100 := by omega
 have HI0 := hide (show SpP w w.heap.size (w.heap.size + 1) ([], []) 0 _ from ⟨[], _, _, rfl, Nat.le_refl _, SpI.made w⟩)
 clear hA hz hn
 go_enter Tryz.func42, Tryz.ntmps42
 go_wp2
 go_loopw [7, 8, 9, 13] (fun _ _ _ v13 wr => ∃ k : Nat, v13 = .int .i64 k ∧ k ≤ n ∧ Hid (SpP w w.heap.size (w.heap.size + 1) ((L.take k).foldl stS ([], [])) (k * 5001) wr) ∧ Hid (((L.take k).foldl stS ([], [])).2.length ≤ k * 5001)) (fun _ _ _ v13 _ => n - (intOf v13).toNat)
 case atStart => exact ⟨0, rfl, by omega, by simpa using HI0, hide (by simp)⟩
 case round =>
   obtain ⟨wo, hwo⟩ : ∃ Z, Z = wr := ⟨_, rfl⟩
   subst hwo
   obtain ⟨k, rfl, hk, HSP, HLN⟩ := hrel
   obtain ⟨out, vo, vn, ho1, ho2, hi⟩ := HSP.out
   have HI := hide hi
   by_cases hlt : k < n
   case neg =>
     obtain rfl : k = n := by omega
     have htk : L.take k = L := List.take_of_length_le (by have := HN.out; omega)
     have hsp := HSP.out
     have hln := HLN.out
     rw [htk] at hsp hln
     have HEN := hide (end_any w w.heap.size (w.heap.size + 1) _ _ wo hsp (by omega) (by omega))
     clear hsp hln htk hi
     go_wp2_with fail
     refine HEN.out.mono ?_
     rintro e wf ⟨rfl, hsp⟩
     obtain ⟨out2, vo2, vn2, ho3, ho4, hi2⟩ := hsp
     obtain ⟨A2, c2, rfl, _, hrg, _, _⟩ := hi2.oo.slice encFR_len
     have hco := cellOfF hi2.ho (j := 0) (v := .slice A2 out2.length c2) rfl
     have HF := hide (show SplitP (splitS L) w (.returned (.slice A2 out2.length c2)) wf from ⟨out2, A2, c2, rfl, ho3, hrg, fun r hr => ⟨(hi2.rows r hr).1, (hi2.rows r hr).2.1, (hi2.rows r hr).2.2.1⟩, hi2.below⟩)
     clear ho3 hrg hi2
     go_wp2
     go_ret
     exact HF.out
   obtain ⟨x, hx⟩ : ∃ x, L[k]? = some x := ⟨L[k]'(by have := HN.out; omega), gE _⟩
   obtain ⟨g, o, rfl, hg, hc⟩ := HA.out.below hi.below k x hx
   have hc0 : wo.cell? ⟨g, o + k * 6, none⟩ = some (.int .i64 x.kind) := by have := hc 0 _ rfl; simpa using this
   have hc1 : wo.cell? ⟨g, o + k * 6 + 1, none⟩ = some (.string x.text) := hc 1 _ rfl
   have hc2 : wo.cell? ⟨g, o + k * 6 + 2, none⟩ = some (.string x.name) := hc 2 _ rfl
   have hc3 : wo.cell? ⟨g, o + k * 6 + 3, none⟩ = some (.string x.op) := hc 3 _ rfl
   have hc4 : wo.cell? ⟨g, o + k * 6 + 4, none⟩ = some (.slice x.wA x.wn x.wc) := hc 4 _ rfl
   have hc5 : wo.cell? ⟨g, o + k * 6 + 5, none⟩ = some (.bool x.q) := hc 5 _ rfl
   have b1 : (k : Int) < (n : Int) := by omega
   have hz := HZ.out x (List.mem_of_getElem? hx)
   have hst : (L.take (k + 1)).foldl stS ([], []) = stS ((L.take k).foldl stS ([], [])) x := by rw [List.take_add_one, hx, List.foldl_append]; rfl
   have HST := hide hst
   obtain ⟨sk, hsk⟩ : ∃ s, (L.take k).foldl stS ([], []) = s := ⟨_, rfl⟩
   rw [hsk] at HSP HLN HST ho1 HI
   obtain ⟨kd, tx, nm, op, wA, wn, wk, q⟩ := x
   dsimp only at hc0 hc1 hc2 hc3 hc4 hc5 hz
   have HBX := hide (heapNew wo (.cells #[.int .i64 kd, .string tx, .string nm, .string op, .slice wA wn wk, .bool q] tyP))
   have HI1 := hide (HI.out.step ((Below.refl _ _).alloc (Nat.le_refl _) (.cells #[.int .i64 kd, .string tx, .string nm, .string op, .slice wA wn wk, .bool q] tyP)))
   clear hi hc hx hst hsk
   by_cases hkd : kd = 1
   case neg =>
     have t1 : (kd != 1) = true := by simpa using hkd
     have t2 : ¬ kd = 1 := hkd
     go_wp2_with fail
     go_step3
     go_upto_region 8 with (fail)
     obtain ⟨A1, c1, rfl, _, _, _, _⟩ := HI1.out.on.slice encPt_len
     obtain ⟨gp, hgp⟩ : ∃ g, wo.heap.size = g := ⟨_, rfl⟩
     obtain ⟨w1, hw1⟩ : ∃ W, wo.alloc (.cells #[.int .i64 kd, .string tx, .string nm, .string op, .slice wA wn wk, .bool q] tyP) = W := ⟨_, rfl⟩
     rw [hw1, hgp] at HBX
     rw [hw1] at HI1
     have HID := hide (HI1.out.step (Below.refl _ _).drew)
     obtain ⟨pn, hpn⟩ : ∃ k, w.heap.size + 1 = k := ⟨_, rfl⟩
     obtain ⟨g9, c9, w4, hrun, ⟨p1, p2⟩, k1, ⟨p3, p4⟩, k3, hcm, hall, hfin⟩ := HID.out.push (by have := HLN.out; omega) ⟨kd, tx, nm, op, wA, wn, wk, q⟩
     have hnw := HLN.out
     obtain ⟨nw, hnw2⟩ : ∃ m, sk.2.length = m := ⟨_, rfl⟩
     rw [hnw2] at hrun p1 p3 k1 k3 hcm hall hfin
     rw [hpn] at p1 p2 p3 p4 k3 hcm hall
     have hwn : wo.heap.size < w1.heap.size := by rw [← hw1]; simp
     have hw1n : w.heap.size + 1 < wo.heap.size := (Array.getElem?_eq_some_iff.1 HI.out.hn).1
     have hgq := hall gp (by rw [← hgp]; exact hwn) (by rw [← hgp, ← hpn]; omega) (fun e => by have := (HI.out.on.lt gp (ownB_len e)).2; omega)
     have HQ := hide (fun (Z : World) (e : Z.heap[gp]? = some (.cells #[.int .i64 kd, .string tx, .string nm, .string op, .slice wA wn wk, .bool q] tyP)) => show (fun Z => Z.cell? ⟨gp, 0, none⟩ = some (.int .i64 kd) ∧ Z.cell? ⟨gp, 1, none⟩ = some (.string tx) ∧ Z.cell? ⟨gp, 2, none⟩ = some (.string nm) ∧ Z.cell? ⟨gp, 3, none⟩ = some (.string op) ∧ Z.cell? ⟨gp, 4, none⟩ = some (.slice wA wn wk) ∧ Z.cell? ⟨gp, 5, none⟩ = some (.bool q)) Z from ⟨cellOfF e (j := 0) rfl, cellOfF e (j := 1) rfl, cellOfF e (j := 2) rfl, cellOfF e (j := 3) rfl, cellOfF e (j := 4) rfl, cellOfF e (j := 5) rfl⟩)
     have hgd : w1.drew.heap[gp]? = some (.cells #[.int .i64 kd, .string tx, .string nm, .string op, .slice wA wn wk, .bool q] tyP) := HBX.out
     have HGD := hide hgd
     have HGA := hide ((Below.heap_alloc w1.drew (.cells #[.int .i64 0, .string ⟨#[]⟩, .string ⟨#[]⟩, .string ⟨#[]⟩, .slice none 0 0, .bool false] tyP) gp (by rw [← hgp]; exact hwn)).trans hgd)
     have HG4 := hide (hgq.1.trans hgd)
     have HG6 := hide (hgq.2.1.trans hgd)
     have HGN := hide (hgq.2.2.1.trans hgd)
     have HGF := hide (hgq.2.2.2.trans hgd)
     have HGF2 := hide (show (set6 (w4.setCell ⟨pn, 0, none⟩ (.slice (some ⟨g9, 0, none⟩) (nw + 1) c9)) g9 (nw * 6) ⟨kd, tx, nm, op, wA, wn, wk, q⟩).heap[gp]? = some (.cells #[.int .i64 kd, .string tx, .string nm, .string op, .slice wA wn wk, .bool q] tyP) from by rw [hcm]; exact hgq.2.2.2.trans hgd)
     have HFIN := hide (show SpP w w.heap.size (w.heap.size + 1) (sk.1, sk.2 ++ [⟨kd, tx, nm, op, wA, wn, wk, q⟩]) (k * 5001) ((set6 w4 g9 (nw * 6) ⟨kd, tx, nm, op, wA, wn, wk, q⟩).setCell ⟨pn, 0, none⟩ (.slice (some ⟨g9, 0, none⟩) (nw + 1) c9)) from by rw [← hpn]; exact ⟨out, vo, _, ho1, ho2, hfin⟩)
     have HFIN2 := hide (show SpP w w.heap.size (w.heap.size + 1) (sk.1, sk.2 ++ [⟨kd, tx, nm, op, wA, wn, wk, q⟩]) (k * 5001) (set6 (w4.setCell ⟨pn, 0, none⟩ (.slice (some ⟨g9, 0, none⟩) (nw + 1) c9)) g9 (nw * 6) ⟨kd, tx, nm, op, wA, wn, wk, q⟩) from by rw [hcm]; exact HFIN.out)
     have hcn := cellOfF HID.out.hn (j := 0) (v := .slice A1 sk.2.length c1) rfl
     rw [hnw2, hpn] at hcn
     have hcnA : (w1.alloc (.cells #[.int .i64 0, .string ⟨#[]⟩, .string ⟨#[]⟩, .string ⟨#[]⟩, .slice none 0 0, .bool false] tyP)).cell? ⟨pn, 0, none⟩ = some (.slice A1 nw c1) := by
       rw [World.cell?_of_block (Below.heap_alloc w1 _ pn (by rw [← hpn]; show w.heap.size + 1 < w1.heap.size; omega))]
       exact hcn
     unfold Can6 at k1 k3
     dsimp only at k1 k3
     unfold set6 at p3 p4
     dsimp only at p3 p4
     obtain ⟨⟨⟨_, a0⟩, a1⟩, ⟨⟨_, a2⟩, a3⟩, ⟨⟨_, a4⟩, a5⟩, ⟨⟨_, a6⟩, a7⟩, ⟨⟨_, a8⟩, a9⟩, ⟨⟨_, a10⟩, a11⟩⟩ := k1
     obtain ⟨⟨⟨_, d0⟩, d1⟩, ⟨⟨_, d2⟩, d3⟩, ⟨⟨_, d4⟩, d5⟩, ⟨⟨_, d6⟩, d7⟩, ⟨⟨_, d8⟩, d9⟩, ⟨⟨_, d10⟩, d11⟩⟩ := k3
     have HRW := hide hpn
     have HW1 := hide hw1
     have HGP := hide hgp
     have nwi : (nw : Int) ≤ 600000 := by omega
     have bnw : (nw : Int) < (nw : Int) + 1 := by omega
     clear hall hfin hcm hgq hgd hw1n hwn hnw hnw2
     rw [HW1.out, HGP.out, HRW.out]
     go_cut [25] from 20 to 25 (fun _ w' => SpP w w.heap.size (w.heap.size + 1) (sk.1, sk.2 ++ [⟨kd, tx, nm, op, wA, wn, wk, q⟩]) (k * 5001) w')
     case first =>
       refine wp_region_held_drew (S := (fun Z => Z.cell? ⟨gp, 0, none⟩ = some (.int .i64 kd) ∧ Z.cell? ⟨gp, 1, none⟩ = some (.string tx) ∧ Z.cell? ⟨gp, 2, none⟩ = some (.string nm) ∧ Z.cell? ⟨gp, 3, none⟩ = some (.string op) ∧ Z.cell? ⟨gp, 4, none⟩ = some (.slice wA wn wk) ∧ Z.cell? ⟨gp, 5, none⟩ = some (.bool q))) (by kernel_rfl) (HQ.out _ HGD.out) (fun hHeld => ?_)
       refine tq (i := 1) (v := ?vP1) rfl rfl (by kernel_rfl) (fun _ _ _ h => h) ?yP1 (by assumption) ?rP1
       case yP1 => intro w h; (try dsimp only at h); go_simp; try with_reducible rfl
       try simp only [sA, sB, sC]
       refine wpAnyH_ready (rs := [0, 3]) (by kernel_rfl) (by simp) ?_
       refine AllReadyH.cons (o := _) rfl (fun K hK => ?way1) (AllReadyH.cons (o := _) rfl (fun K hK => ?way2) AllReadyH.nil)
       case way1 =>
         rw [if_pos (by kernel_rfl)]
         go_simp
         refine hK.out _ _ (HQ.out _ HGD.out) (fun _ => ?_)
         clear hK K
         try simp only [Act.put, sA, sB, sC]
         refine tq (i := 2) (v := ?vP1b2) rfl rfl (by kernel_rfl) (fun _ _ _ h => h) ?yP1b2 (by assumption) ?rP1b2
         case yP1b2 => intro w h; (try dsimp only at h); go_simp; try with_reducible rfl
         try simp only [sA, sB, sC]
         refine rq (k := 3) rfl (by kernel_rfl) (by kernel_rfl) (fun K hK => ?_)
         go_simp
         refine hK.out _ _ (HQ.out _ HGA.out) (fun _ => ?_)
         clear hK K
         try simp only [Act.put, sA, sB, sC]
         refine wpAnyH_ready (rs := [4]) (by kernel_rfl) (by simp) ?_
         refine AllReadyH.cons (o := _) rfl (fun K hK => ?_) AllReadyH.nil
         refine step_app_run rfl _ _ rfl rfl rfl rfl hrun ?_
         refine hK.out _ _ (HQ.out _ HG4.out) (fun _ => ?_)
         clear hK K
         try simp only [Act.put, sA, sB, sC]
         refine tq (i := 5) (v := ?vP1b5) rfl rfl (by kernel_rfl) (fun _ _ _ h => h) ?yP1b5 (by assumption) ?rP1b5
         case yP1b5 => intro w h; (try dsimp only at h); go_simp; try with_reducible rfl
         try simp only [sA, sB, sC]
         refine wpAnyH_ready (rs := [6, 7]) (by kernel_rfl) (by simp) ?_
         refine AllReadyH.cons (o := _) rfl (fun K hK => ?wa) (AllReadyH.cons (o := _) rfl (fun K hK => ?wb) AllReadyH.nil)
         case wa =>
           rw [if_pos (by kernel_rfl)]
           go_simp
           refine hK.out _ _ (HQ.out _ HG6.out) (fun _ => ?_)
           clear hK K
           try simp only [Act.put, sA, sB, sC]
           refine rq (k := 7) rfl (by kernel_rfl) (by kernel_rfl) (fun K hK => ?_)
           go_simp
           refine hK.out _ _ (HQ.out _ HGF.out) (fun _ => ?_)
           clear hK K
           try simp only [Act.put, sA, sB, sC]
           refine wpAnyH_done (by kernel_rfl) ?_ _
           go_wp2
           go_meet
           exact HFIN.out
         case wb =>
           rw [if_pos (by kernel_rfl)]
           go_simp
           refine hK.out _ _ (HQ.out _ HGN.out) (fun _ => ?_)
           clear hK K
           try simp only [Act.put, sA, sB, sC]
           refine rq (k := 6) rfl (by kernel_rfl) (by kernel_rfl) (fun K hK => ?_)
           go_simp
           refine hK.out _ _ (HQ.out _ HGF2.out) (fun _ => ?_)
           clear hK K
           try simp only [Act.put, sA, sB, sC]
           refine wpAnyH_done (by kernel_rfl) ?_ _
           go_wp2
           go_meet
           exact HFIN2.out
       case way2 =>
         rw [if_pos (by kernel_rfl)]
         go_simp
         refine hK.out _ _ (HQ.out _ HGA.out) (fun _ => ?_)
         clear hK K
         try simp only [Act.put, sA, sB, sC]
         refine rq (k := 0) rfl (by kernel_rfl) (by kernel_rfl) (fun K hK => ?_)
         go_simp
         refine hK.out _ _ (HQ.out _ HGA.out) (fun _ => ?_)
         clear hK K
         try simp only [Act.put, sA, sB, sC]
         refine tq (i := 2) (v := ?vP2b2) rfl rfl (by kernel_rfl) (fun _ _ _ h => h) ?yP2b2 (by assumption) ?rP2b2
         case yP2b2 => intro w h; (try dsimp only at h); go_simp; try with_reducible rfl
         try simp only [sA, sB, sC]
         refine wpAnyH_ready (rs := [4]) (by kernel_rfl) (by simp) ?_
         refine AllReadyH.cons (o := _) rfl (fun K hK => ?_) AllReadyH.nil
         refine step_app_run rfl _ _ rfl rfl rfl rfl hrun ?_
         refine hK.out _ _ (HQ.out _ HG4.out) (fun _ => ?_)
         clear hK K
         try simp only [Act.put, sA, sB, sC]
         refine tq (i := 5) (v := ?vP2b5) rfl rfl (by kernel_rfl) (fun _ _ _ h => h) ?yP2b5 (by assumption) ?rP2b5
         case yP2b5 => intro w h; (try dsimp only at h); go_simp; try with_reducible rfl
         try simp only [sA, sB, sC]
         refine wpAnyH_ready (rs := [6, 7]) (by kernel_rfl) (by simp) ?_
         refine AllReadyH.cons (o := _) rfl (fun K hK => ?wa) (AllReadyH.cons (o := _) rfl (fun K hK => ?wb) AllReadyH.nil)
         case wa =>
           rw [if_pos (by kernel_rfl)]
           go_simp
           refine hK.out _ _ (HQ.out _ HG6.out) (fun _ => ?_)
           clear hK K
           try simp only [Act.put, sA, sB, sC]
           refine rq (k := 7) rfl (by kernel_rfl) (by kernel_rfl) (fun K hK => ?_)
           go_simp
           refine hK.out _ _ (HQ.out _ HGF.out) (fun _ => ?_)
           clear hK K
           try simp only [Act.put, sA, sB, sC]
           refine wpAnyH_done (by kernel_rfl) ?_ _
           go_wp2
           go_meet
           exact HFIN.out
         case wb =>
           rw [if_pos (by kernel_rfl)]
           go_simp
           refine hK.out _ _ (HQ.out _ HGN.out) (fun _ => ?_)
           clear hK K
           try simp only [Act.put, sA, sB, sC]
           refine rq (k := 6) rfl (by kernel_rfl) (by kernel_rfl) (fun K hK => ?_)
           go_simp
           refine hK.out _ _ (HQ.out _ HGF2.out) (fun _ => ?_)
           clear hK K
           try simp only [Act.put, sA, sB, sC]
           refine wpAnyH_done (by kernel_rfl) ?_ _
           go_wp2
           go_meet
           exact HFIN2.out
     case rest =>
     obtain ⟨wz, hwz⟩ : ∃ Z, Z = wc := ⟨_, rfl⟩
     have HC := hide hcut
     have hst : stS sk ⟨kd, tx, nm, op, wA, wn, wk, q⟩ = (sk.1, sk.2 ++ [⟨kd, tx, nm, op, wA, wn, wk, q⟩]) := by unfold stS; rw [if_neg t2]
     have HS2 := hide (HST.out.trans hst)
     have hpn := HRW.out
     have hgp := HGP.out
     subst hpn
     subst hgp
     clear hcut hst HQ HGD HGA HG4 HG6 HGN HGF HGF2 HFIN HFIN2 HBX HI1 HID hrun p1 p2 p3 p4 hcn hcnA a0 a1 a2 a3 a4 a5 a6 a7 a8 a9 a10 a11 d0 d1 d2 d3 d4 d5 d6 d7 d8 d9 d10 d11
     go_wp2
     refine ⟨⟨k + 1, by go_num, by omega, hide ?_, hide ?_⟩, by simp [intOf]; omega⟩
     · rw [HS2.out]; exact HC.out.mono (by omega)
     · rw [HS2.out]
       have := HLN.out
       show (sk.2 ++ [_]).length ≤ _
       rw [List.length_append, List.length_singleton]
       omega
   subst hkd
   have t1 : ((1 : Int) != 1) = false := rfl
   go_wp2_with fail
   go_step3
   go_wp2_with fail
   go_step3
   go_wp2_with fail
   have HS0 := hide (show SpP w w.heap.size (w.heap.size + 1) sk (k * 5001) (wo.alloc (.cells #[.int .i64 1, .string tx, .string nm, .string op, .slice wA wn wk, .bool q] tyP)) from ⟨out, vo, vn, ho1, ho2, HI1.out⟩)
   clear HI1 HBX HI hc0 hc1 hc2 hc3 hc4 hc5
   go_loopg [8, 9] tx.size (fun g8 v8 _ wr => ∃ (rest : ByteArray) (s : Sp) (m : Nat), v8 = .string rest ∧ g8 = rest.size ∧ rest.size ≤ tx.size ∧ Hid (txS [] rest.data.toList s = txS [] tx.data.toList sk) ∧ Hid (SpP w w.heap.size (w.heap.size + 1) s m wr) ∧ m + rest.size ≤ k * 5001 + 5000 ∧ Hid (s.2.length ≤ k * 5001))
   case atStart => exact ⟨tx, sk, k * 5001, rfl, rfl, Nat.le_refl _, hide rfl, HS0, by omega, HLN⟩
   case round =>
     obtain ⟨wq, hwq⟩ : ∃ Z, Z = wr := ⟨_, rfl⟩
     subst hwq
     obtain ⟨rest, s, m, rfl, hg8, hrt, HTX, HSQ, hm, HSL⟩ := hrel
     have hbel := HSQ.out
     by_cases hr0 : rest.size = 0
     · have hre : rest.data.toList = [] := List.length_eq_zero_iff.1 (by rw [← Lib.size_eq]; exact hr0)
       have hem : rest.toList.isEmpty = true := by rw [Lib.toList_data, hre]; rfl
       have htx := HTX.out
       rw [hre] at htx
       have HE := hide (show stS sk ⟨1, tx, nm, op, wA, wn, wk, q⟩ = s from by unfold stS; rw [if_pos rfl]; exact htx.symm)
       clear hbel htx hre hr0
       go_wp2
       rw [Exit.noGoto_normal]
       go_wp2
       refine ⟨⟨k + 1, by go_num, by omega, hide ?_, hide ?_⟩, by simp [intOf]; omega⟩
       · rw [HST.out, HE.out]; exact HSQ.out.mono (by omega)
       · rw [HST.out, HE.out]
         have := HSL.out
         omega
     have hem : rest.toList.isEmpty = false := by
       rw [Lib.toList_data]
       cases h : rest.data.toList with
       | nil => exact absurd (by rw [Lib.size_eq, h]; rfl) hr0
       | cons _ _ => rfl
     have hrz : rest.size ≤ 5000 := by omega
     have HIA := hide (iany_any rest wq (by omega))
     have HB0 := HSQ.out
     rcases ixB_cases rest.data.toList with ⟨hx, hno⟩ | ⟨a, b, r2, hsp, hx, hna, hbb⟩
     · rw [hx] at HIA
       have HE := hide (show stS sk ⟨1, tx, nm, op, wA, wn, wk, q⟩ = (s.1, s.2 ++ [⟨1, rest, ⟨#[]⟩, ⟨#[]⟩, none, 0, 0, false⟩]) from by
         unfold stS
         rw [if_pos rfl]
         have h1 := HTX.out
         rw [txS_no _ _ _ hno, List.nil_append] at h1
         rw [← h1]
         unfold pushS
         rw [if_neg (by intro e; rw [Lib.size_eq, e] at hr0; exact hr0 rfl)]
         rfl)
       clear hbel HB0 hx hno hr0
       go_wp2_with fail
       refine HIA.out.mono ?_
       rintro e w9 ⟨rfl, hb9⟩
       have HS9 := hide (HSQ.out.step hb9)
       clear hb9
       go_upto_region 13 with (fail)
       obtain ⟨A1, nw, c1, g9, c9, w4, hnw, hcn, hcnA, hrun, ⟨p1, p2⟩, k1, ⟨p3, p4⟩, k3, hfin, hfin2⟩ := push_pack HS9.out (by have := HSL.out; omega) ⟨1, rest, ⟨#[]⟩, ⟨#[]⟩, none, 0, 0, false⟩
       unfold Can6 at k1 k3
       dsimp only at k1 k3
       have HFIN := hide hfin
       have HFIN2 := hide hfin2
       unfold set6 at p3 p4
       dsimp only at p3 p4
       obtain ⟨⟨⟨_, a0⟩, a1⟩, ⟨⟨_, a2⟩, a3⟩, ⟨⟨_, a4⟩, a5⟩, ⟨⟨_, a6⟩, a7⟩, ⟨⟨_, a8⟩, a9⟩, ⟨⟨_, a10⟩, a11⟩⟩ := k1
       obtain ⟨⟨⟨_, d0⟩, d1⟩, ⟨⟨_, d2⟩, d3⟩, ⟨⟨_, d4⟩, d5⟩, ⟨⟨_, d6⟩, d7⟩, ⟨⟨_, d8⟩, d9⟩, ⟨⟨_, d10⟩, d11⟩⟩ := k3
       have nwi : (nw : Int) ≤ 600000 := by have := HSL.out; omega
       have bnw : (nw : Int) < (nw : Int) + 1 := by omega
       clear hfin hfin2 hnw
       go_cut [40] from 34 to 40 (fun _ w' => SpP w w.heap.size (w.heap.size + 1) (s.1, s.2 ++ [⟨1, rest, ⟨#[]⟩, ⟨#[]⟩, none, 0, 0, false⟩]) m w')
       case first =>
         refine wp_region_held_drew (S := (fun _ => True)) (by kernel_rfl) trivial (fun hHeld => ?_)
         refine tq (i := 1) (v := ?vQ1) rfl rfl (by kernel_rfl) (fun _ _ _ h => h) ?yQ1 (by assumption) ?rQ1
         case yQ1 => intro w h; (try dsimp only at h); go_simp; try with_reducible rfl
         try simp only [sA, sB, sC]
         refine tq (i := 2) (v := ?vQ2) rfl rfl (by kernel_rfl) (fun _ _ _ h => h) ?yQ2 (by assumption) ?rQ2
         case yQ2 => intro w h; (try dsimp only at h); go_simp; try with_reducible rfl
         try simp only [sA, sB, sC]
         refine wpAnyH_ready (rs := [0, 4]) (by kernel_rfl) (by simp) ?_
         refine AllReadyH.cons (o := _) rfl (fun K hK => ?way1) (AllReadyH.cons (o := _) rfl (fun K hK => ?way2) AllReadyH.nil)
         case way1 =>
           rw [if_pos (by kernel_rfl)]
           go_simp
           refine hK.out _ _ trivial (fun _ => ?_)
           clear hK K
           try simp only [Act.put, sA, sB, sC]
           refine tq (i := 3) (v := ?vQ1b3) rfl rfl (by kernel_rfl) (fun _ _ _ h => h) ?yQ1b3 (by assumption) ?rQ1b3
           case yQ1b3 => intro w h; (try dsimp only at h); go_simp; try with_reducible rfl
           try simp only [sA, sB, sC]
           refine rq (k := 4) rfl (by kernel_rfl) (by kernel_rfl) (fun K hK => ?_)
           go_simp
           refine hK.out _ _ trivial (fun _ => ?_)
           clear hK K
           try simp only [Act.put, sA, sB, sC]
           refine wpAnyH_ready (rs := [5]) (by kernel_rfl) (by simp) ?_
           refine AllReadyH.cons (o := _) rfl (fun K hK => ?_) AllReadyH.nil
           refine step_app_run rfl _ _ rfl rfl rfl rfl hrun ?_
           refine hK.out _ _ trivial (fun _ => ?_)
           clear hK K
           try simp only [Act.put, sA, sB, sC]
           refine tq (i := 6) (v := ?vQ1b6) rfl rfl (by kernel_rfl) (fun _ _ _ h => h) ?yQ1b6 (by assumption) ?rQ1b6
           case yQ1b6 => intro w h; (try dsimp only at h); go_simp; try with_reducible rfl
           try simp only [sA, sB, sC]
           refine wpAnyH_ready (rs := [7, 8]) (by kernel_rfl) (by simp) ?_
           refine AllReadyH.cons (o := _) rfl (fun K hK => ?wa) (AllReadyH.cons (o := _) rfl (fun K hK => ?wb) AllReadyH.nil)
           case wa =>
             rw [if_pos (by kernel_rfl)]
             go_simp
             refine hK.out _ _ trivial (fun _ => ?_)
             clear hK K
             try simp only [Act.put, sA, sB, sC]
             refine rq (k := 8) rfl (by kernel_rfl) (by kernel_rfl) (fun K hK => ?_)
             go_simp
             refine hK.out _ _ trivial (fun _ => ?_)
             clear hK K
             try simp only [Act.put, sA, sB, sC]
             refine wpAnyH_done (by kernel_rfl) ?_ _
             go_wp2
             go_meet
             exact HFIN.out
           case wb =>
             rw [if_pos (by kernel_rfl)]
             go_simp
             refine hK.out _ _ trivial (fun _ => ?_)
             clear hK K
             try simp only [Act.put, sA, sB, sC]
             refine rq (k := 7) rfl (by kernel_rfl) (by kernel_rfl) (fun K hK => ?_)
             go_simp
             refine hK.out _ _ trivial (fun _ => ?_)
             clear hK K
             try simp only [Act.put, sA, sB, sC]
             refine wpAnyH_done (by kernel_rfl) ?_ _
             go_wp2
             go_meet
             exact HFIN2.out
         case way2 =>
           rw [if_pos (by kernel_rfl)]
           go_simp
           refine hK.out _ _ trivial (fun _ => ?_)
           clear hK K
           try simp only [Act.put, sA, sB, sC]
           refine rq (k := 0) rfl (by kernel_rfl) (by kernel_rfl) (fun K hK => ?_)
           go_simp
           refine hK.out _ _ trivial (fun _ => ?_)
           clear hK K
           try simp only [Act.put, sA, sB, sC]
           refine tq (i := 3) (v := ?vQ2b3) rfl rfl (by kernel_rfl) (fun _ _ _ h => h) ?yQ2b3 (by assumption) ?rQ2b3
           case yQ2b3 => intro w h; (try dsimp only at h); go_simp; try with_reducible rfl
           try simp only [sA, sB, sC]
           refine wpAnyH_ready (rs := [5]) (by kernel_rfl) (by simp) ?_
           refine AllReadyH.cons (o := _) rfl (fun K hK => ?_) AllReadyH.nil
           refine step_app_run rfl _ _ rfl rfl rfl rfl hrun ?_
           refine hK.out _ _ trivial (fun _ => ?_)
           clear hK K
           try simp only [Act.put, sA, sB, sC]
           refine tq (i := 6) (v := ?vQ2b6) rfl rfl (by kernel_rfl) (fun _ _ _ h => h) ?yQ2b6 (by assumption) ?rQ2b6
           case yQ2b6 => intro w h; (try dsimp only at h); go_simp; try with_reducible rfl
           try simp only [sA, sB, sC]
           refine wpAnyH_ready (rs := [7, 8]) (by kernel_rfl) (by simp) ?_
           refine AllReadyH.cons (o := _) rfl (fun K hK => ?wa) (AllReadyH.cons (o := _) rfl (fun K hK => ?wb) AllReadyH.nil)
           case wa =>
             rw [if_pos (by kernel_rfl)]
             go_simp
             refine hK.out _ _ trivial (fun _ => ?_)
             clear hK K
             try simp only [Act.put, sA, sB, sC]
             refine rq (k := 8) rfl (by kernel_rfl) (by kernel_rfl) (fun K hK => ?_)
             go_simp
             refine hK.out _ _ trivial (fun _ => ?_)
             clear hK K
             try simp only [Act.put, sA, sB, sC]
             refine wpAnyH_done (by kernel_rfl) ?_ _
             go_wp2
             go_meet
             exact HFIN.out
           case wb =>
             rw [if_pos (by kernel_rfl)]
             go_simp
             refine hK.out _ _ trivial (fun _ => ?_)
             clear hK K
             try simp only [Act.put, sA, sB, sC]
             refine rq (k := 7) rfl (by kernel_rfl) (by kernel_rfl) (fun K hK => ?_)
             go_simp
             refine hK.out _ _ trivial (fun _ => ?_)
             clear hK K
             try simp only [Act.put, sA, sB, sC]
             refine wpAnyH_done (by kernel_rfl) ?_ _
             go_wp2
             go_meet
             exact HFIN2.out
       case rest =>
       have HC := hide hcut
       clear hcut HFIN HFIN2 hrun p1 p2 p3 p4 hcn hcnA a0 a1 a2 a3 a4 a5 a6 a7 a8 a9 a10 a11 d0 d1 d2 d3 d4 d5 d6 d7 d8 d9 d10 d11
       go_wp2
       rw [Exit.noGoto_normal]
       go_wp2
       refine ⟨⟨k + 1, by go_num, by omega, hide ?_, hide ?_⟩, by simp [intOf]; omega⟩
       · rw [HST.out, HE.out]; exact HC.out.mono (by omega)
       · rw [HST.out, HE.out]
         have := HSL.out
         show (s.2 ++ [_]).length ≤ _
         rw [List.length_append, List.length_singleton]
         omega
     · rw [hx] at HIA
       have hlen : rest.size = a.length + 1 + r2.length := by rw [Lib.size_eq, hsp, List.length_append, List.length_cons]; omega
       have hex : (rest.extract (a.length + 1) rest.size).data.toList = r2 := by
         rw [Lib.extract_data, hsp, List.take_of_length_le (by rw [List.length_drop, List.length_append, List.length_cons]; omega)]
         rw [show a ++ b :: r2 = (a ++ [b]) ++ r2 by simp, List.drop_left' (by simp)]
       have HTX2 := hide (show txS [] (rest.extract (a.length + 1) rest.size).data.toList (flushS (pushS a s)) = txS [] tx.data.toList sk from by
         rw [hex, ← HTX.out, hsp, txS_at a [] b r2 s hna hbb, List.nil_append])
       have hez : (rest.extract (a.length + 1) rest.size).size = r2.length := by rw [Lib.size_eq, hex]
       have hea : rest.extract 0 a.length = bsF a := by
         rw [Lib.extract_eq, hsp, List.drop_zero, Nat.sub_zero, List.take_left' rfl]; rfl
       have HEZ := hide hez
       obtain ⟨an, han⟩ : ∃ n, a.length = n := ⟨_, rfl⟩
       rw [han] at HIA HTX2 HEZ hlen hea
       have HPS := hide (show pushS a s = if an = 0 then s else (s.1, s.2 ++ [⟨1, rest.extract 0 an, ⟨#[]⟩, ⟨#[]⟩, none, 0, 0, false⟩]) from by
         unfold pushS
         by_cases h0 : a = []
         · rw [if_pos h0, if_pos (by rw [← han, h0]; rfl)]
         · rw [if_neg h0, if_neg (by rw [← han]; intro e; exact h0 (List.length_eq_zero_iff.1 e)), hea]
           rfl)
       have hl1 : an + 1 ≤ rest.size := by omega
       have HLR := hide (show r2.length + an + 1 = rest.size by omega)
       have hl2 : (an : Int) + 1 ≤ (rest.size : Int) := by omega
       have hl3 : (an : Int) ≤ (rest.size : Int) := by omega
       have hl4 : ¬ (an : Int) < 0 := by omega
       have hl5 : an ≤ rest.size := by omega
       have hani : (an : Int) ≤ 5000 := by omega
       clear hbel HB0 hx hna hbb hsp hex hez hea hr0 hlen
       by_cases ha0 : an = 0
       · subst ha0
         have hps := HPS.out
         rw [if_pos rfl] at hps
         go_wp2_with fail
         refine HIA.out.mono ?_
         rintro e w9 ⟨rfl, hb9⟩
         have HS9 := hide (HSQ.out.step hb9)
         have HEN := hide (end_any w w.heap.size (w.heap.size + 1) s m w9 HS9.out (by omega) (by have := HSL.out; omega))
         rw [hps] at HTX2
         clear hb9 hps HPS
         go_wp2_with fail
         refine HEN.out.mono ?_
         rintro e wf ⟨rfl, hsp⟩
         have HSP2 := hide hsp
         clear hsp HEN
         go_wp2
         go_roundg (rest.extract 1 rest.size).size
         case measure => have := HEZ.out; have := HLR.out; simp only [Nat.zero_add] at *; omega
         case rel => exact ⟨rest.extract 1 rest.size, flushS s, m + 1, rfl, rfl, by have := HEZ.out; have := HLR.out; simp only [Nat.zero_add] at *; omega, HTX2, HSP2, by have := HEZ.out; have := HLR.out; simp only [Nat.zero_add] at *; omega, hide (by rw [flush_len]; omega)⟩
       · have hps := HPS.out
         rw [if_neg ha0] at hps
         rw [hps] at HTX2
         have hap : (0 : Int) < (an : Int) := by omega
         clear hps HPS
         go_wp2_with fail
         refine HIA.out.mono ?_
         rintro e w9 ⟨rfl, hb9⟩
         have HS9 := hide (HSQ.out.step hb9)
         clear hb9
         go_upto_region 15 with (fail)
         obtain ⟨A1, nw, c1, g9, c9, w4, hnw, hcn, hcnA, hrun, ⟨p1, p2⟩, k1, ⟨p3, p4⟩, k3, hfin, hfin2⟩ := push_pack HS9.out (by have := HSL.out; omega) ⟨1, rest.extract 0 an, ⟨#[]⟩, ⟨#[]⟩, none, 0, 0, false⟩
         unfold Can6 at k1 k3
         dsimp only at k1 k3
         have HFIN := hide hfin
         have HFIN2 := hide hfin2
         unfold set6 at p3 p4
         dsimp only at p3 p4
         obtain ⟨⟨⟨_, a0⟩, a1⟩, ⟨⟨_, a2⟩, a3⟩, ⟨⟨_, a4⟩, a5⟩, ⟨⟨_, a6⟩, a7⟩, ⟨⟨_, a8⟩, a9⟩, ⟨⟨_, a10⟩, a11⟩⟩ := k1
         obtain ⟨⟨⟨_, d0⟩, d1⟩, ⟨⟨_, d2⟩, d3⟩, ⟨⟨_, d4⟩, d5⟩, ⟨⟨_, d6⟩, d7⟩, ⟨⟨_, d8⟩, d9⟩, ⟨⟨_, d10⟩, d11⟩⟩ := k3
         have nwi : (nw : Int) ≤ 600000 := by have := HSL.out; omega
         have bnw : (nw : Int) < (nw : Int) + 1 := by omega
         clear hfin hfin2 hnw
         go_cut [51] from 42 to 51 (fun _ w' => SpP w w.heap.size (w.heap.size + 1) (s.1, s.2 ++ [⟨1, rest.extract 0 an, ⟨#[]⟩, ⟨#[]⟩, none, 0, 0, false⟩]) m w')
         case first =>
           refine wp_region_held_drew (S := (fun _ => True)) (by kernel_rfl) trivial (fun hHeld => ?_)
           refine tq (i := 1) (v := ?vR1) rfl rfl (by kernel_rfl) (fun _ _ _ h => h) ?yR1 (by assumption) ?rR1
           case yR1 => intro w h; (try dsimp only at h); go_simp; try with_reducible rfl
           try simp only [sA, sB, sC]
           refine tq (i := 2) (v := ?vR2) rfl rfl (by kernel_rfl) (fun _ _ _ h => h) ?yR2 (by assumption) ?rR2
           case yR2 => intro w h; (try dsimp only at h); go_simp; try with_reducible rfl
           try simp only [sA, sB, sC]
           refine tq (i := 3) (v := ?vR3) rfl rfl (by kernel_rfl) (fun _ _ _ h => h) ?yR3 (by assumption) ?rR3
           case yR3 => intro w h; (try dsimp only at h); go_simp; try with_reducible rfl
           try simp only [sA, sB, sC]
           refine tq (i := 4) (v := ?vR4) rfl rfl (by kernel_rfl) (fun _ _ _ h => h) ?yR4 (by assumption) ?rR4
           case yR4 => intro w h; (try dsimp only at h); go_simp; try with_reducible rfl
           try simp only [sA, sB, sC]
           refine wpAnyH_ready (rs := [0, 6]) (by kernel_rfl) (by simp) ?_
           refine AllReadyH.cons (o := _) rfl (fun K hK => ?way1) (AllReadyH.cons (o := _) rfl (fun K hK => ?way2) AllReadyH.nil)
           case way1 =>
             rw [if_pos (by kernel_rfl)]
             go_simp
             refine hK.out _ _ trivial (fun _ => ?_)
             clear hK K
             try simp only [Act.put, sA, sB, sC]
             refine tq (i := 5) (v := ?vR1b5) rfl rfl (by kernel_rfl) (fun _ _ _ h => h) ?yR1b5 (by assumption) ?rR1b5
             case yR1b5 => intro w h; (try dsimp only at h); go_simp; try with_reducible rfl
             try simp only [sA, sB, sC]
             refine rq (k := 6) rfl (by kernel_rfl) (by kernel_rfl) (fun K hK => ?_)
             go_simp
             refine hK.out _ _ trivial (fun _ => ?_)
             clear hK K
             try simp only [Act.put, sA, sB, sC]
             refine wpAnyH_ready (rs := [7]) (by kernel_rfl) (by simp) ?_
             refine AllReadyH.cons (o := _) rfl (fun K hK => ?_) AllReadyH.nil
             refine step_app_run rfl _ _ rfl rfl rfl rfl hrun ?_
             refine hK.out _ _ trivial (fun _ => ?_)
             clear hK K
             try simp only [Act.put, sA, sB, sC]
             refine tq (i := 8) (v := ?vR1b8) rfl rfl (by kernel_rfl) (fun _ _ _ h => h) ?yR1b8 (by assumption) ?rR1b8
             case yR1b8 => intro w h; (try dsimp only at h); go_simp; try with_reducible rfl
             try simp only [sA, sB, sC]
             refine wpAnyH_ready (rs := [9, 10]) (by kernel_rfl) (by simp) ?_
             refine AllReadyH.cons (o := _) rfl (fun K hK => ?wa) (AllReadyH.cons (o := _) rfl (fun K hK => ?wb) AllReadyH.nil)
             case wa =>
               rw [if_pos (by kernel_rfl)]
               go_simp
               refine hK.out _ _ trivial (fun _ => ?_)
               clear hK K
               try simp only [Act.put, sA, sB, sC]
               refine rq (k := 10) rfl (by kernel_rfl) (by kernel_rfl) (fun K hK => ?_)
               go_simp
               refine hK.out _ _ trivial (fun _ => ?_)
               clear hK K
               try simp only [Act.put, sA, sB, sC]
               refine wpAnyH_done (by kernel_rfl) ?_ _
               go_wp2
               go_meet
               exact HFIN.out
             case wb =>
               rw [if_pos (by kernel_rfl)]
               go_simp
               refine hK.out _ _ trivial (fun _ => ?_)
               clear hK K
               try simp only [Act.put, sA, sB, sC]
               refine rq (k := 9) rfl (by kernel_rfl) (by kernel_rfl) (fun K hK => ?_)
               go_simp
               refine hK.out _ _ trivial (fun _ => ?_)
               clear hK K
               try simp only [Act.put, sA, sB, sC]
               refine wpAnyH_done (by kernel_rfl) ?_ _
               go_wp2
               go_meet
               exact HFIN2.out
           case way2 =>
             rw [if_pos (by kernel_rfl)]
             go_simp
             refine hK.out _ _ trivial (fun _ => ?_)
             clear hK K
             try simp only [Act.put, sA, sB, sC]
             refine rq (k := 0) rfl (by kernel_rfl) (by kernel_rfl) (fun K hK => ?_)
             go_simp
             refine hK.out _ _ trivial (fun _ => ?_)
             clear hK K
             try simp only [Act.put, sA, sB, sC]
             refine tq (i := 5) (v := ?vR2b5) rfl rfl (by kernel_rfl) (fun _ _ _ h => h) ?yR2b5 (by assumption) ?rR2b5
             case yR2b5 => intro w h; (try dsimp only at h); go_simp; try with_reducible rfl
             try simp only [sA, sB, sC]
             refine wpAnyH_ready (rs := [7]) (by kernel_rfl) (by simp) ?_
             refine AllReadyH.cons (o := _) rfl (fun K hK => ?_) AllReadyH.nil
             refine step_app_run rfl _ _ rfl rfl rfl rfl hrun ?_
             refine hK.out _ _ trivial (fun _ => ?_)
             clear hK K
             try simp only [Act.put, sA, sB, sC]
             refine tq (i := 8) (v := ?vR2b8) rfl rfl (by kernel_rfl) (fun _ _ _ h => h) ?yR2b8 (by assumption) ?rR2b8
             case yR2b8 => intro w h; (try dsimp only at h); go_simp; try with_reducible rfl
             try simp only [sA, sB, sC]
             refine wpAnyH_ready (rs := [9, 10]) (by kernel_rfl) (by simp) ?_
             refine AllReadyH.cons (o := _) rfl (fun K hK => ?wa) (AllReadyH.cons (o := _) rfl (fun K hK => ?wb) AllReadyH.nil)
             case wa =>
               rw [if_pos (by kernel_rfl)]
               go_simp
               refine hK.out _ _ trivial (fun _ => ?_)
               clear hK K
               try simp only [Act.put, sA, sB, sC]
               refine rq (k := 10) rfl (by kernel_rfl) (by kernel_rfl) (fun K hK => ?_)
               go_simp
               refine hK.out _ _ trivial (fun _ => ?_)
               clear hK K
               try simp only [Act.put, sA, sB, sC]
               refine wpAnyH_done (by kernel_rfl) ?_ _
               go_wp2
               go_meet
               exact HFIN.out
             case wb =>
               rw [if_pos (by kernel_rfl)]
               go_simp
               refine hK.out _ _ trivial (fun _ => ?_)
               clear hK K
               try simp only [Act.put, sA, sB, sC]
               refine rq (k := 9) rfl (by kernel_rfl) (by kernel_rfl) (fun K hK => ?_)
               go_simp
               refine hK.out _ _ trivial (fun _ => ?_)
               clear hK K
               try simp only [Act.put, sA, sB, sC]
               refine wpAnyH_done (by kernel_rfl) ?_ _
               go_wp2
               go_meet
               exact HFIN2.out
         case rest =>
         obtain ⟨wv, hwv⟩ : ∃ Z, Z = wc := ⟨_, rfl⟩
         subst hwv
         have HEN := hide (end_any w w.heap.size (w.heap.size + 1) _ m wv hcut (by omega) (by
           have := HSL.out
           show (s.2 ++ [_]).length ≤ _
           rw [List.length_append, List.length_singleton]
           omega))
         clear hcut HFIN HFIN2 hrun p1 p2 p3 p4 hcn hcnA a0 a1 a2 a3 a4 a5 a6 a7 a8 a9 a10 a11 d0 d1 d2 d3 d4 d5 d6 d7 d8 d9 d10 d11
         go_wp2_with fail
         refine HEN.out.mono ?_
         rintro e wf ⟨rfl, hsp⟩
         have HSP2 := hide hsp
         clear hsp HEN
         go_wp2
         go_roundg (rest.extract (an + 1) rest.size).size
         case measure => have := HEZ.out; have := HLR.out; omega
         case rel => exact ⟨rest.extract (an + 1) rest.size, _, m + 1, rfl, rfl, by have := HEZ.out; have := HLR.out; omega, HTX2, HSP2, by have := HEZ.out; have := HLR.out; omega, hide (by rw [flush_len]; omega)⟩
end
section
open Go.RowKit Go.Deep
theorem ne_toList {s : ByteArray} (h : s ≠ ⟨#[]⟩) : ¬ s.toList = [] := by
 intro e
 rw [ByteArray.toList_eq] at e
 exact h (ByteArray.ext (Array.toList_inj.1 e))
def okP (x : Pt) : Bool := decide (x.text.size ≤ 300) && (decide (x.kind = 1) || decide (x.kind = 2)) && decide (x.name = ⟨#[]⟩) && decide (x.op = ⟨#[]⟩) && decide (x.wn = 0) && !x.q
def bigP (L : List Pt) : Bool := !(L.all okP && decide (L.length ≤ 40))
theorem big12_any (A : Option Addr) (c : Nat) (L : List Pt) (w : World) (h : RG encPt 6 w A L) (hl : L.length ≤ 9223372036854775807) (hs : ∀ x ∈ L, x.text.size ≤ 9223372036854775807 ∧ x.wn ≤ 9223372036854775807) :
   Calls Tryz.prog 23 #[.slice A L.length c] w fun e w' => e = .returned (.bool (bigP L)) ∧ w = w' := by
 have HR := hide h
 have HS := hide hs
 obtain ⟨n, hn⟩ : ∃ n, L.length = n := ⟨_, rfl⟩
 have HN := hide hn
 rw [hn] at hl ⊢
 clear h hs hn
 go_enter Tryz.func23, Tryz.ntmps23
 go_wp2
 go_loopw [3] (fun v3 wr => ∃ k : Nat, v3 = .int .i64 k ∧ k ≤ n ∧ Hid ((L.take k).all okP = true) ∧ w = wr) (fun v3 _ => n - (intOf v3).toNat)
 case atStart => exact ⟨0, rfl, by omega, rfl, rfl⟩
 case round =>
   obtain ⟨k, rfl, hk, HOK, rfl⟩ := hrel
   by_cases hlt : k < n
   · obtain ⟨x, hx⟩ : ∃ x, L[k]? = some x := ⟨L[k]'(by have := HN.out; omega), gE _⟩
     obtain ⟨gs, o, rfl, hgs, hc⟩ := HR.out k x hx
     obtain ⟨z1, z2⟩ := HS.out x (List.mem_of_getElem? hx)
     have hc0 : w.cell? ⟨gs, o + k * 6, none⟩ = some (.int .i64 x.kind) := by have := hc 0 _ rfl; simpa using this
     have hc1 : w.cell? ⟨gs, o + k * 6 + 1, none⟩ = some (.string x.text) := hc 1 _ rfl
     have hc2 : w.cell? ⟨gs, o + k * 6 + 2, none⟩ = some (.string x.name) := hc 2 _ rfl
     have hc3 : w.cell? ⟨gs, o + k * 6 + 3, none⟩ = some (.string x.op) := hc 3 _ rfl
     have hc4 : w.cell? ⟨gs, o + k * 6 + 4, none⟩ = some (.slice x.wA x.wn x.wc) := hc 4 _ rfl
     have hc5 : w.cell? ⟨gs, o + k * 6 + 5, none⟩ = some (.bool x.q) := hc 5 _ rfl
     have b1 : (k : Int) < (n : Int) := by omega
     have HX := hide hx
     have HBAD := hide (fun (h : okP x = false) => show bigP L = true from by
       unfold bigP
       have : L.all okP = false := by
         rw [List.all_eq_false]
         exact ⟨x, List.mem_of_getElem? HX.out, by rw [h]; simp⟩
       rw [this]
       rfl)
     have HOX := hide (show okP x = (decide (x.text.size ≤ 300) && (decide (x.kind = 1) || decide (x.kind = 2)) && decide (x.name = ⟨#[]⟩) && decide (x.op = ⟨#[]⟩) && decide (x.wn = 0) && !x.q) from rfl)
     clear hc hx hgs
     obtain ⟨kd, tx, nm, op, wA, wn, wk, q⟩ := x
     dsimp only at hc0 hc1 hc2 hc3 hc4 hc5 z1 z2 HOX
     by_cases p3 : 300 < tx.size
     · have pi : (300 : Int) < (tx.size : Int) := by omega
       have HE := hide (HBAD.out (by rw [HOX.out]; simp; omega))
       go_wp2
       go_ret
       rw [HE.out]
       exact ⟨rfl, rfl⟩
     have pi : ¬ (300 : Int) < (tx.size : Int) := by omega
     by_cases k3 : kd ≠ 1 ∧ kd ≠ 2
     · have ki : (kd != 1) = true := by simpa using k3.1
       have kj : (kd != 2) = true := by simpa using k3.2
       have kk : ¬ kd = 1 := k3.1
       have kl : ¬ kd = 2 := k3.2
       have HE := hide (HBAD.out (by rw [HOX.out]; simp [k3.1, k3.2]))
       go_wp2
       go_ret
       rw [HE.out]
       exact ⟨rfl, rfl⟩
     have kor : kd = 1 ∨ kd = 2 := by omega
     rcases kor with rfl | rfl
     · have k1 : ((1 : Int) != 1) = false := rfl
       by_cases n3 : nm ≠ ⟨#[]⟩
       · have ni : ¬ nm.toList = [] := ne_toList n3
         have HE := hide (HBAD.out (by rw [HOX.out]; simp [n3]))
         go_wp2
         go_ret
         rw [HE.out]
         exact ⟨rfl, rfl⟩
       obtain rfl : nm = ⟨#[]⟩ := Classical.not_not.1 n3
       by_cases o3 : op ≠ ⟨#[]⟩
       · have oi : ¬ op.toList = [] := ne_toList o3
         have HE := hide (HBAD.out (by rw [HOX.out]; simp [o3]))
         go_wp2
         go_ret
         rw [HE.out]
         exact ⟨rfl, rfl⟩
       obtain rfl : op = ⟨#[]⟩ := Classical.not_not.1 o3
       by_cases w3 : 0 < wn
       · have wi : (0 : Int) < (wn : Int) := by omega
         have HE := hide (HBAD.out (by rw [HOX.out]; simp [w3]; try omega))
         go_wp2
         go_ret
         rw [HE.out]
         exact ⟨rfl, rfl⟩
       obtain rfl : wn = 0 := by omega
       by_cases q3 : q = true
       · subst q3
         have HE := hide (HBAD.out (by rw [HOX.out]; simp))
         go_wp2
         go_ret
         rw [HE.out]
         exact ⟨rfl, rfl⟩
       obtain rfl : q = false := by simpa using q3
       have HE := hide (show okP ⟨1, tx, ⟨#[]⟩, ⟨#[]⟩, wA, 0, wk, false⟩ = true by rw [HOX.out]; simp; omega)
       go_wp2
       refine ⟨⟨k + 1, by go_num, by omega, ?_, trivial⟩, by simp [intOf]; omega⟩
       show (L.take (k + 1)).all okP = true
       rw [List.take_add_one, HX.out, List.all_append, HOK.out]
       simp [HE.out]
     · have k1 : ((2 : Int) != 1) = true := rfl
       have k2 : ((2 : Int) != 2) = false := rfl
       by_cases n3 : nm ≠ ⟨#[]⟩
       · have ni : ¬ nm.toList = [] := ne_toList n3
         have HE := hide (HBAD.out (by rw [HOX.out]; simp [n3]))
         go_wp2
         go_ret
         rw [HE.out]
         exact ⟨rfl, rfl⟩
       obtain rfl : nm = ⟨#[]⟩ := Classical.not_not.1 n3
       by_cases o3 : op ≠ ⟨#[]⟩
       · have oi : ¬ op.toList = [] := ne_toList o3
         have HE := hide (HBAD.out (by rw [HOX.out]; simp [o3]))
         go_wp2
         go_ret
         rw [HE.out]
         exact ⟨rfl, rfl⟩
       obtain rfl : op = ⟨#[]⟩ := Classical.not_not.1 o3
       by_cases w3 : 0 < wn
       · have wi : (0 : Int) < (wn : Int) := by omega
         have HE := hide (HBAD.out (by rw [HOX.out]; simp [w3]; try omega))
         go_wp2
         go_ret
         rw [HE.out]
         exact ⟨rfl, rfl⟩
       obtain rfl : wn = 0 := by omega
       by_cases q3 : q = true
       · subst q3
         have HE := hide (HBAD.out (by rw [HOX.out]; simp))
         go_wp2
         go_ret
         rw [HE.out]
         exact ⟨rfl, rfl⟩
       obtain rfl : q = false := by simpa using q3
       have HE := hide (show okP ⟨2, tx, ⟨#[]⟩, ⟨#[]⟩, wA, 0, wk, false⟩ = true by rw [HOX.out]; simp; omega)
       go_wp2
       refine ⟨⟨k + 1, by go_num, by omega, ?_, trivial⟩, by simp [intOf]; omega⟩
       show (L.take (k + 1)).all okP = true
       rw [List.take_add_one, HX.out, List.all_append, HOK.out]
       simp [HE.out]
   · obtain rfl : n = k := by omega
     have htk : L.take n = L := List.take_of_length_le (by have := HN.out; omega)
     rw [htk] at HOK
     by_cases n6 : 40 < n
     · have ni : (40 : Int) < (n : Int) := by omega
       have HE := hide (show bigP L = true by unfold bigP; rw [HN.out, decide_eq_false (by omega)]; simp)
       clear htk
       go_wp2
       go_ret
       rw [HE.out]
       exact ⟨by simp, rfl⟩
     · have ni : ¬ (40 : Int) < (n : Int) := by omega
       have HE := hide (show bigP L = false by unfold bigP; rw [HOK.out, HN.out, decide_eq_true (by omega)]; rfl)
       clear htk
       go_wp2
       go_ret
       rw [HE.out]
       exact ⟨by simp, rfl⟩
theorem alive12_any (w : World) : Calls Tryz.prog 16 #[] w fun e w' => e = .returned (.bool true) ∧ Below w.heap.size w w' := by
 have hrow : RG encPt 6 (w.alloc (.cells #[.int .i64 1, .string ⟨#[97, 32, 98]⟩, .string ⟨#[]⟩, .string ⟨#[]⟩, .slice none 0 0, .bool false] tyP)) (some ⟨w.heap.size, 0, none⟩) [ptT [97, 32, 98]] := rg_new (enc := encPt) w (ptT [97, 32, 98]) tyP
 have HSP := hide (fsplit_any (some ⟨w.heap.size, 0, none⟩) 1 [ptT [97, 32, 98]] _ hrow (by decide) (by intro p hp; simp at hp; subst hp; decide))
 have HB := hide ((Below.refl w.heap.size w).alloc (Nat.le_refl _) (.cells #[.int .i64 1, .string ⟨#[97, 32, 98]⟩, .string ⟨#[]⟩, .string ⟨#[]⟩, .slice none 0 0, .bool false] tyP))
 have hsl : (splitS [ptT [97, 32, 98]]).length = 2 := by decide
 have HSL := hide hsl
 clear hrow hsl
 go_enter Tryz.func16, Tryz.ntmps16
 go_wp2_with fail
 refine HSP.out.mono ?_
 rintro e wf hp
 obtain ⟨out, A, c, rfl, ho, _, _, hb⟩ := hp
 have hol : out.length = 2 := by rw [← HSL.out, ← ho, List.length_map]
 rw [hol]
 have HF := hide (HB.out.trans (hb.mono HB.out.size))
 clear hb ho hol
 go_wp2
 go_ret
 exact ⟨rfl, HF.out⟩
end
section
open Go.RowKit Go.Deep Go.Maps Ln Pth Vf Qm.Glob
attribute [local go_sem] bt_eq
theorem plain_bytes (s : ByteArray) (h : ∀ j, j < s.size → bt s j ≠ 42 ∧ bt s j ≠ 63 ∧ bt s j ≠ 91 ∧ bt s j ≠ 92) : plAll (gItems (bt s) s.size) = true ∧ plBytes (gItems (bt s) s.size) = bytesOf s := by
 have e := gItems_parts (bt s) s.size s.size (Nat.le_refl _) (fun j hj => ⟨(h j hj).2.2.1, (h j hj).2.2.2⟩)
 have e2 : gItems (sh (bt s) s.size) (s.size - s.size) = [] := by rw [Nat.sub_self]; rfl
 have e3 : (List.range s.size).map (fun j => simp1 (bt s j)) = (List.range s.size).map (fun j => giOne (bt s j)) := List.map_congr_left fun j hj => by
   have := h j (List.mem_range.1 hj)
   unfold simp1
   simp [this.1, this.2.1]
 rw [e, e2, e3, List.append_nil]
 refine ⟨?_, ?_⟩
 · simp [plAll, giOne]
 · simp [plBytes, giOne, bytesOf]
end
section
open Go.RowKit Go.Deep Go.Maps Ln Pth Vf Qm.Glob
def neT (L : List T) : List T := L.filter fun s => !decide (s = [])
theorem neT_cons (s : T) (L : List T) : neT (s :: L) = (if s = [] then [] else [s]) ++ neT L := by
 unfold neT
 by_cases h : s = []
 · simp [h]
 · simp [h]
theorem parts_ne (p : ByteArray) : partsQ p = (neT (spl 47 p.data.toList)).map bs := by
 unfold partsQ neT
 rw [List.filter_map]
 congr 1
 apply List.filter_congr
 intro s _
 have : decide (bs s = (⟨#[]⟩ : ByteArray)) = decide (s = []) := by
   apply decide_eq_decide.2
   constructor
   · intro e
     have := congrArg (fun b : ByteArray => b.data.toList) e
     simpa [bs_list] using this
   · rintro rfl
     rfl
 simp only [Function.comp, this]
theorem fold_ok {L : List Spt} {x : List Spt} (h : RiseG L ∧ L.length ≤ 500) : RiseG (x.foldl keepS L) ∧ (x.foldl keepS L).length ≤ 500 := by
 induction x generalizing L with
 | nil => exact h
 | cons y x ih => exact ih ⟨keepS_rise h.1, keepS_len h.2⟩
theorem fold_nil_ok (x : List Spt) : RiseG (x.foldl keepS []) ∧ (x.foldl keepS []).length ≤ 500 := fold_ok ⟨RiseG.nil, Nat.zero_le _⟩
theorem rnow_ok {S : St} (hf : FsOk S) (P : List ByteArray) {root : Bool} {s : Spt} (hs : StOk root s) (i : Nat) (hi : i ≤ 201) : (rnowB S P s root i).length ≤ 500 ∧ ∀ d ∈ rnowB S P s root i, AtOk d.2 ∧ d.1.size ≤ 100000 := by
 unfold rnowB
 split
 · refine ⟨by simp, fun d hd => ?_⟩
   obtain rfl : d = startR root s := by simpa using hd
   refine ⟨hs.at', ?_⟩
   unfold startR
   split
   · exact Nat.zero_le _
   · have := (start_size hs).1
     show s.1.size ≤ 100000
     omega
 · have h1 := nowB_ok hf P (start_size hs) i
   refine ⟨firstB_le _, fun d hd => ?_⟩
   have hm := firstB_mem h1.ok hd
   refine ⟨now_at hf P hs i d hm, ?_⟩
   have := (h1.sz d hm).1
   omega
theorem start_ok {cwd p : ByteArray} {s : Spt} (h : startB cwd p = some s) : StOk (decide (p.data.toList.head? = some 47)) s := by
 unfold startB at h
 split at h
 · rename_i hh
   injection h with h
   subst h
   exact ⟨⟨[], ⟨by simp, by simp, by simp, by simp, by decide⟩, rfl⟩, fun _ => rfl, fun e => by simp [hh] at e⟩
 · rename_i hh
   split at h
   · cases h
   · rename_i h0
     injection h with h
     subst h
     refine ⟨?_, fun e => by simp [hh] at e, fun _ => rfl⟩
     rcases absF_cases [47] cwd.data.toList with ⟨l, hl, e, _⟩ | ⟨_, e⟩
     · exact ⟨l, hl, by rw [e]⟩
     · exact absurd e (by omega)
theorem spl_empty : ∀ l : T, neT (spl 47 l) = [] → ∀ c ∈ l, c = 47
 | [], _, c, hc => by cases hc
 | b :: l, h, c, hc => by
   by_cases hb : b = 47
   · subst hb
     rw [spl, if_pos rfl, neT_cons, if_pos rfl, List.nil_append] at h
     rcases List.mem_cons.1 hc with e | e
     · exact e
     · exact spl_empty l h c e
   · obtain ⟨x, t, _, h2⟩ := spl_cons_ne hb l
     rw [h2, neT_cons, if_neg (by simp)] at h
     cases h
theorem plain_slashes (p : ByteArray) (h : plT p = none) : partsQ p ≠ [] := by
 intro e
 rw [parts_ne] at e
 have he := spl_empty _ (List.map_eq_nil_iff.1 e)
 have hb : ∀ j, j < p.size → bt p j = 47 := fun j hj => by
   have hm : p.data.toList[j]'(by rw [data_len]; exact hj) = 47 := he _ (List.getElem_mem _)
   rw [← bt_eq p j hj]
   have : (p[j]).toNat = (p.data.toList[j]'(by rw [data_len]; exact hj)).toNat := rfl
   rw [this, hm]
   rfl
 have := (plain_bytes p fun j hj => by rw [hb j hj]; decide).1
 unfold plT at h
 rw [if_pos this] at h
 cases h
theorem ownFd_new (w : World) (d : Spt) {base : Nat} (hb : base ≤ w.heap.size) : OwnFd (w.alloc (.cells #[.string d.1, .string d.2] fdty)) base (.slice (some ⟨w.heap.size, 0, none⟩) 1 1) [d] :=
 ⟨rfl, .inr ⟨_, 1, _, rfl, hb, heapNew w _, Nat.le_refl _, by unfold maxLen; omega, by simp, rfl⟩⟩
def gatB (S : St) (p : ByteArray) (last sl : Bool) (L : List Spt) : List Spt := (L.flatMap fun d => rstepB S d p last sl).foldl keepS []
theorem gat_succ {S : St} {p : ByteArray} {last sl : Bool} {L : List Spt} {k : Nat} {d : Spt} (h : L[k]? = some d) : gatB S p last sl (L.take (k + 1)) = (rstepB S d p last sl).foldl keepS (gatB S p last sl (L.take k)) := by
 unfold gatB
 rw [List.take_add_one, h, List.flatMap_append, List.foldl_append]
 simp
theorem gat_ok (S : St) (p : ByteArray) (last sl : Bool) (L : List Spt) : RiseG (gatB S p last sl L) ∧ (gatB S p last sl L).length ≤ 500 := fold_nil_ok _
theorem gat_round {S : St} (hf : FsOk S) (P : List ByteArray) {root : Bool} {s : Spt} (hs : StOk root s) {i : Nat} {p : ByteArray} (hp : P[i]? = some p) : gatB S p (decide (i + 1 = P.length)) (root || decide (0 < i)) (rnowB S P s root i) = rnowB S P s root (i + 1) := round_first hf P hs hp
theorem rstep_len {S : St} (hf : FsOk S) (d : Spt) (p : ByteArray) (last sl : Bool) : (rstepB S d p last sl).length ≤ 1000 := by
 unfold rstepB
 split
 · simp
 · refine Nat.le_trans (List.length_filter_le _ _) ?_
   rw [List.length_map]
   have h1 := (namesOf_le p ((listS S d.2.data.toList).1.map bs)).1
   rw [List.length_map] at h1
   have := hf.cnt d.2.data.toList
   omega
end
section
open Go.RowKit Go.Deep Go.Maps Ln Pth Vf Qm.Glob
attribute [local go_sem] bt_eq
theorem rpaths_some (g : Nat) (S : St) (A : Option Addr) (c : Nat) (P : List NV) (cwd : ByteArray) (A2 : Option Addr) (c2 : Nat) (L : List Pt) (w : World) (hf : FsOk S) (h : RSO g S A c P w) (hm : MX w) (hcw : cwd.size ≤ 1000) (hA : RG encPt 6 w A2 L) (hl : L.length ≤ 1000) (hz : ∀ p ∈ L, p.text.size ≤ 1000) (hz2 : (textS L).length ≤ 1000000) (hp : (bsF (patS L)).size ≤ 200)
   (hpl : plT (bsF (patS L)) = none) (s0 : Spt) (hs0 : startB cwd (bsF (patS L)) = some s0) :
   Calls Tryz.prog 27 #[.pointer (some ⟨g, 0, none⟩), .string cwd, .slice A2 L.length c2] w fun e w' => (∃ v, e = .returned v ∧ OwnS w' w.heap.size v (outB S s0 (bsF (patS L)) (bsF (textS L)))) ∧ Below w.heap.size w w' := by
 have HPT := hide (rpat_any A2 c2 L w hA hl hz)
 have HTX := hide (fun Z (hb : Below w.heap.size w Z) => rtext_any A2 c2 L Z (hA.below hb) (by omega) hz2)
 obtain ⟨p, hpp⟩ : ∃ p, bsF (patS L) = p := ⟨_, rfl⟩
 obtain ⟨tx, htx⟩ : ∃ p, bsF (textS L) = p := ⟨_, rfl⟩
 rw [hpp] at HPT hp hpl hs0 ⊢
 rw [htx] at HTX ⊢
 have HPL := hide (fun Z => rplain2_any p Z (by omega))
 rw [hpl] at HPL
 have HPL := hide (show ∀ Z : World, Calls Tryz.prog 70 #[.string p] Z (fun e w' => e = .returned (.tuple #[.string ⟨#[]⟩, .bool false]) ∧ Below Z.heap.size Z w') from HPL.out)
 have HPR := hide (fun W => rbegins_any p ⟨#[47]⟩ W)
 have hpre := pre_slash p.data.toList
 rw [bs_of] at hpre
 rw [show (⟨#[47]⟩ : ByteArray).data.toList = [47] from rfl, hpre] at HPR
 have hsok := start_ok hs0
 obtain ⟨rb, hrb⟩ : ∃ z, decide (p.data.toList.head? = some 47) = z := ⟨_, rfl⟩
 rw [hrb] at HPR hsok
 have HRB := hide hrb
 have HSO := hide hsok
 have HAB := hide (fun W => rabs_any [47] cwd.data.toList W (by simp) (by rw [data_len]; omega))
 rw [bs_of, show bs [47] = (⟨#[47]⟩ : ByteArray) from rfl] at HAB
 have hne := plain_slashes p hpl
 have hps := partsQ_sz p
 obtain ⟨n, hn⟩ : ∃ n, L.length = n := ⟨_, rfl⟩
 rw [hn] at HPT HTX ⊢
 have HST := hide hs0
 have HF := hide hf
 have HRS := hide h
 have HNE := hide hne
 have HPS := hide hps
 have HZ := hide hp
 clear hA hz hl hz2 hcw hpl hs0 hpp htx hn h hf hrb hsok hpre hne hps hm
 go_enter Tryz.func27, Tryz.ntmps27
 go_wp2_with fail
 refine HPT.out.mono ?_
 rintro e w1 ⟨rfl, hb1⟩
 have HB1 := hide hb1
 clear hb1 HPT
 go_wp2_with fail
 refine (HPL.out _).mono ?_
 rintro e w2 ⟨rfl, hb2⟩
 have HB2 := hide (HB1.out.trans (hb2.mono HB1.out.size))
 clear hb2 HPL
 go_wp2_with fail
 refine (HPR.out _).mono ?_
 rintro e w3 ⟨rfl, rfl⟩
 obtain ⟨gs, hgs⟩ : ∃ z, w2.heap.size = z := ⟨_, rfl⟩
 have hh4 := heapNew w2 (.cells #[.string (⟨#[]⟩ : ByteArray), .string (⟨#[47]⟩ : ByteArray)] fdty)
 have HB4 := hide (HB2.out.alloc HB2.out.size (.cells #[.string (⟨#[]⟩ : ByteArray), .string (⟨#[47]⟩ : ByteArray)] fdty))
 have hgw : w.heap.size ≤ gs := hgs ▸ HB2.out.size
 go_upto_if 39 with (fail)
 obtain ⟨w4, hw4⟩ : ∃ z, w2.alloc (.cells #[.string (⟨#[]⟩ : ByteArray), .string (⟨#[47]⟩ : ByteArray)] fdty) = z := ⟨_, rfl⟩
 rw [hw4] at hh4 HB4 ⊢
 rw [hgs] at hh4
 have HH4 := hide hh4
 clear hh4 hw4 hgs HB2
 go_cut [12, 13] from 39 to 51 (fun _ _ wr => wr.heap[gs]? = some (.cells #[.string (startR rb s0).1, .string s0.2] fdty) ∧ Below w.heap.size w wr)
 case first =>
   have hst := HST.out
   unfold startB at hst
   cases rb with
   | true =>
     have hr : p.data.toList.head? = some 47 := by simpa using HRB.out
     rw [if_pos hr] at hst
     injection hst with hst
     subst hst
     go_wp2
     go_meet
     exact ⟨HH4.out, HB4.out⟩
   | false =>
     have hr : ¬ p.data.toList.head? = some 47 := by simpa using HRB.out
     rw [if_neg hr] at hst
     by_cases h0 : (absF [47] cwd.data.toList).2 ≠ 0
     · rw [if_pos h0] at hst
       cases hst
     rw [if_neg h0] at hst
     injection hst with hst
     subst hst
     have h00 : (absF [47] cwd.data.toList).2 = 0 := by omega
     unfold AbsPost at HAB
     rw [h00] at HAB
     obtain ⟨q, hq⟩ : ∃ z, bs (absF [47] cwd.data.toList).1 = z := ⟨_, rfl⟩
     rw [hq] at HAB
     have HQ := hide hq
     clear hr h0 h00 hq
     go_wp2_with fail
     refine (HAB.out _).mono ?_
     rintro e w6 ⟨rfl, hb6⟩
     have HB6 := hide (HB4.out.trans (hb6.mono HB4.out.size))
     have hh6 := (hb6.block gs (Array.getElem?_eq_some_iff.1 HH4.out).1).trans HH4.out
     have hc6 := cellOf hh6 (j := 1) rfl
     have hf6 := freeOf hh6 1
     have HH7 := hide (heapSet hh6 (j := 1) (.string q))
     clear hb6 hh6 HAB
     have HB7 := hide (HB6.out.trans (show Below w.heap.size w6 (w6.setCell ⟨gs, 1, none⟩ (.string q)) from ⟨rfl, rfl, rfl, by simp, fun k hk => Below.heap_setCell _ _ _ _ (by intro e; have e2 : k = gs := e; omega)⟩))
     go_wp2
     go_meet
     rw [HQ.out]
     exact ⟨HH7.out, HB7.out⟩
 case rest =>
   obtain ⟨hgc, hbc⟩ := hcut
   have HGC := hide hgc
   have HBC := hide hbc
   obtain ⟨wa, hwa⟩ : ∃ z, z = wc := ⟨_, rfl⟩
   subst hwa
   have hz := HZ.out
   obtain ⟨n0, hn0⟩ : ∃ z, p.size = z := ⟨_, rfl⟩
   have hpq := parts_ne p
   obtain ⟨pl, hpl⟩ : ∃ l : T, p = bs l := ⟨p.data.toList, (bs_of p).symm⟩
   rw [hpl, bs_list] at hpq
   have hpn : pl.length = n0 := by rw [← hn0, hpl, bs_size]
   have HPQ := hide (show partsQ p = (neT (spl 47 pl)).map bs by rw [hpl]; exact hpq)
   have HPL := hide hpl
   have HPN := hide hpn
   have HN0 := hide hn0
   have hn2 : n0 ≤ 200 := by omega
   clear hgc hbc HAB HPR HH4 HB4 HST hn0 hpq hpl hpn hz
   go_wp2_with fail
   go_loopw [14, 15, 16] (fun v14 v15 v16 wr => ∃ (i a : Nat) (K : List T), v15 = .int .i64 a ∧ v16 = .int .i64 i ∧ i ≤ n0 + 1 ∧ a ≤ i ∧ Hid (OwnS wr wa.heap.size v14 (K.map bs)) ∧ Hid (i ≤ n0 → 47 ∉ (pl.drop a).take (i - a)) ∧ Hid ((if i ≤ n0 then K ++ neT (spl 47 (pl.drop a)) else K) = neT (spl 47 pl)) ∧ Hid (K.length ≤ i) ∧ Hid (Below wa.heap.size wa wr)) (fun _ _ v16 _ => n0 + 1 - (intOf v16).toNat)
   case atStart => exact ⟨0, 0, [], rfl, rfl, by omega, Nat.le_refl _, hide (OwnS.nil _ _), hide (fun _ => by simp), hide (by rw [if_pos (Nat.zero_le _), List.drop_zero]; rfl), hide (Nat.zero_le _), hide (Below.refl _ _)⟩
   case round =>
     obtain ⟨ws, hws⟩ : ∃ Z, Z = wr := ⟨_, rfl⟩
     subst hws
     obtain ⟨i, a, K, rfl, rfl, hi, ha, HO, HNO, HFN, HKL, HB⟩ := hrel
     by_cases hin : i ≤ n0
     case pos =>
       have hno := HNO.out hin
       have hfn := HFN.out
       rw [if_pos hin] at hfn
       obtain ⟨s, hs⟩ : ∃ s, (pl.drop a).take (i - a) = s := ⟨_, rfl⟩
       have hsl : s.length = i - a := by rw [← hs, List.length_take, List.length_drop]; have := HPN.out; omega
       have hex : p.extract a i = bs s := by rw [HPL.out, ext_bs, hs]
       have hai : (a : Int) ≤ (i : Int) := by omega
       have hii : (i : Int) ≤ (n0 : Int) := by omega
       rw [hs] at hno
       have hps : p.size = n0 := HN0.out
       obtain ⟨vA, vc, rfl, _⟩ := HO.out.slice
       have hkm : (K.map bs).length = K.length := List.length_map _
       rw [hkm] at HO ⊢
       have HKM := hide hkm
       obtain ⟨kn, hkn⟩ : ∃ k, K.length = k := ⟨_, rfl⟩
       have HKN := hide hkn
       have hkl : kn ≤ i := hkn ▸ HKL.out
       rw [hkn] at HO ⊢
       have hbw : wa.heap.size ≤ ws.heap.size := HB.out.size
       clear hkm hkn HKL
       by_cases hsep : i = n0 ∨ bt p i = 47
       case neg =>
         have hi1 : i < n0 := by
           rcases Nat.lt_or_ge i n0 with h | h
           · exact h
           · exact absurd (.inl (by omega)) hsep
         have hbt : ¬ (bt p i : Int) = 47 := fun e => hsep (.inr (by omega))
         have hne : ¬ (i : Int) = (n0 : Int) := by omega
         have hilt : (i : Int) < (n0 : Int) := by omega
         have hbq : ((bt p i : Int) == 47) = false := beq_eq_false_iff_ne.2 hbt
         have hnq : ((i : Int) == (n0 : Int)) = false := beq_eq_false_iff_ne.2 hne
         have HNX := hide (show i + 1 ≤ n0 → 47 ∉ (pl.drop a).take (i + 1 - a) from fun _ => by
           rw [takeT ha (by have := HPN.out; omega), hs]
           intro hm
           rcases List.mem_append.1 hm with hm | hm
           · exact hno hm
           · apply hsep
             right
             rw [HPL.out]
             unfold bt bs
             have hm2 := List.mem_singleton.1 hm
             have hlt2 : i < pl.length := by have := HPN.out; omega
             simp [hlt2, ← hm2])
         have HFX := hide (show (if i + 1 ≤ n0 then K ++ neT (spl 47 (pl.drop a)) else K) = neT (spl 47 pl) by rw [if_pos (by omega)]; exact hfn)
         have HKX := hide (show K.length ≤ i + 1 by rw [HKN.out]; omega)
         clear hsep hno hfn hs hsl hex hbt hne
         go_wp2
         go_roundw
         case rel => exact ⟨i + 1, a, K, rfl, by go_num, by omega, by omega, HO, HNX, HFX, HKX, HB⟩
         case measure => simp [intOf]; omega
       case pos =>
         have hnx : (if i + 1 ≤ n0 then (K ++ if s = [] then [] else [s]) ++ neT (spl 47 (pl.drop (i + 1))) else (K ++ if s = [] then [] else [s])) = neT (spl 47 pl) := by
           by_cases hi1 : i < n0
           · have hch : pl[i]'(by have := HPN.out; omega) = 47 := by
               rcases hsep with h | h
               · omega
               · rw [HPL.out] at h
                 unfold bt bs at h
                 have hlt2 : i < pl.length := by have := HPN.out; omega
                 simp [hlt2] at h
                 exact UInt8.toNat_inj.1 h
             have hdr := dropT (p := pl) ha (by have := HPN.out; omega)
             rw [hch, hs] at hdr
             rw [hdr, spl_app _ hno, neT_cons] at hfn
             rw [if_pos (by omega), ← hfn, List.append_assoc]
           · have hda : pl.drop a = s := by rw [← hs, List.take_of_length_le (by rw [List.length_drop]; have := HPN.out; omega)]
             rw [hda, spl_none hno, neT_cons] at hfn
             rw [if_neg (by omega), ← hfn]
             show _ = K ++ ((if s = [] then [] else [s]) ++ [])
             rw [List.append_nil]
         have HNX := hide (show i + 1 ≤ n0 → 47 ∉ (pl.drop (i + 1)).take (i + 1 - (i + 1)) from fun _ => by simp)
         have hcond : (i : Int) = (n0 : Int) ∨ (¬ (i : Int) = (n0 : Int) ∧ (i : Int) < (n0 : Int) ∧ (bt p i : Int) = 47) := by
           by_cases e : i = n0
           · left; omega
           · right
             refine ⟨by omega, by omega, ?_⟩
             rcases hsep with h | h
             · exact absurd h e
             · omega
         clear hsep hno hfn hs
         go_upto_region 17 with (fail)
         go_cut [67] from 58 to 67 (fun v67 wr => v67 = .bool true ∧ ws = wr)
         case first =>
           rcases hcond with h | ⟨h1, h2, h3⟩
           · go_wp2
             go_meet
             exact ⟨rfl, rfl⟩
           · go_wp2
             go_meet
             exact ⟨rfl, rfl⟩
         case rest =>
           obtain ⟨rfl, rfl⟩ := hcut
           clear hcond
           by_cases hia : i = a
           · have h0 : s = [] := List.eq_nil_of_length_eq_zero (by omega)
             rw [if_pos h0, List.append_nil] at hnx
             have HFX := hide hnx
             have HKX := hide (show K.length ≤ i + 1 by rw [HKN.out]; omega)
             have hgt : ¬ (a : Int) < (i : Int) := by omega
             clear hnx h0 hex hsl
             go_wp2
             go_roundw
             case rel => exact ⟨i + 1, i + 1, K, by go_num, by go_num, by omega, by omega, HO, HNX, HFX, HKX, HB⟩
             case measure => simp [intOf]; omega
           · have h0 : ¬ s = [] := fun e => hia (by rw [e] at hsl; simp at hsl; omega)
             rw [if_neg h0] at hnx
             have HFX := hide hnx
             have hgt : (a : Int) < (i : Int) := by omega
             obtain ⟨v5, w5, r5, o5, g5, b5⟩ := run_appS (c := 1) (OwnS.alloc HO.out (.cells #[.string (p.extract a i)] 9)) (sr_new ws (p.extract a i)) (by simp; omega) (by rw [HKM.out, HKN.out]; simp; omega)
             have HR5 := hide r5
             have HO5 := hide (show OwnS w5 wa.heap.size v5 ((K ++ [s]).map bs) by rw [List.map_append, List.map_singleton, ← hex]; exact o5)
             have HB5 := hide (show Below wa.heap.size wa w5 from (HB.out.alloc HB.out.size (.cells #[.string (p.extract a i)] 9)).grown g5 (by simp; omega) (fun q hq => (World.ownsRow.lt HO.out q hq).1))
             have HKX := hide (show (K ++ [s]).length ≤ i + 1 by rw [List.length_append, HKN.out]; simp; omega)
             clear hnx h0 hsl hex r5 o5 g5 b5
             go_wp2_with (at_builtin; refine wpList_app_run ?_ (.tmp 71) (.tmp 76) ?_ ?_ ?_ ?_ HR5.out ?_; exact rfl; exact rfl; exact rfl; exact rfl; exact rfl)
             go_roundw
             case rel => exact ⟨i + 1, i + 1, K ++ [s], by go_num, by go_num, by omega, by omega, HO5, HNX, HFX, HKX, HB5⟩
             case measure => simp [intOf]; omega
     case neg =>
       have hfn := HFN.out
       rw [if_neg hin] at hfn
       obtain ⟨PN, hPN⟩ : ∃ z, partsQ p = z := ⟨_, rfl⟩
       have hkp : K.map bs = PN := by rw [hfn, ← HPQ.out, hPN]
       rw [hkp] at HO
       have hpz := HPS.out
       have hpne := HNE.out
       rw [hPN] at hpz hpne
       obtain ⟨k0, hk0⟩ : ∃ z, PN.length = z := ⟨_, rfl⟩
       have hk201 : k0 ≤ 201 := by have := hpz.1; have := HN0.out; omega
       have hk1 : 0 < k0 := hk0 ▸ List.length_pos_iff.2 hpne
       obtain ⟨A14, c14, rfl, _, hs14, _⟩ := HO.out.slice
       have hgs := (HB.out.block gs (Array.getElem?_eq_some_iff.1 HGC.out).1).trans HGC.out
       have hc0 := cellOf hgs (j := 0) rfl
       have hc1 := cellOf hgs (j := 1) rfl
       have HS14 := hide hs14
       have HBS := hide (HBC.out.trans (HB.out.mono HBC.out.size))
       have HK0 := hide hk0
       have HPNZ := hide (show ∀ x ∈ PN, x.size ≤ 1000 from fun x hx => by have := hpz.2 x hx; have := HN0.out; omega)
       have HON := hide (ownFd_new ws (startR rb s0) (Nat.le_refl _))
       have HBN := hide ((Below.refl ws.heap.size ws).alloc (Nat.le_refl _) (.cells #[.string (startR rb s0).1, .string (startR rb s0).2] fdty))
       have HOB := hide (show outB S s0 p tx = if firstB (nowB S PN s0 k0) = [] then [tx] else (firstB (nowB S PN s0 k0)).map (·.1) by unfold outB; rw [hPN, hk0])
       rw [hk0]
       have hps : p.size = n0 := HN0.out
       have b1 : ¬ (i : Int) ≤ (n0 : Int) := by omega
       clear hfn hkp hpz hpne hPN hs14 hgs HO HNO HFN HKL HPQ HPL HPN HN0 HNE HPS HB HGC HBC HB1 hk0
       go_wp2_with fail
       have e2 : (startR rb s0).2 = s0.2 := rfl
       rw [e2] at HON HBN
       obtain ⟨w5, hw5⟩ : ∃ z, ws.alloc (.cells #[.string (startR rb s0).1, .string s0.2] fdty) = z := ⟨_, rfl⟩
       rw [hw5] at HON HBN ⊢
       clear hw5 e2 hc0 hc1
       go_loopw [17, 18, 19, 20, 21, 22] (fun v17 v18 _ _ _ _ wr => ∃ i : Nat, v18 = .int .i64 i ∧ i ≤ k0 ∧ Hid (OwnFd wr ws.heap.size v17 (rnowB S PN s0 rb i)) ∧ Hid (Below ws.heap.size ws wr)) (fun _ v18 _ _ _ _ _ => k0 - (intOf v18).toNat)
       case atStart => exact ⟨0, rfl, by omega, HON, HBN⟩
       case round =>
         obtain ⟨wi, hwi⟩ : ∃ Z, Z = wr := ⟨_, rfl⟩
         subst hwi
         obtain ⟨i2, rfl, hi2, HO2, HB2⟩ := hrel
         clear HON HBN
         by_cases hi2k : i2 < k0
         case pos =>
           obtain ⟨nm, hnm⟩ : ∃ x, PN[i2]? = some x := ⟨_, List.getElem?_eq_getElem (by have := HK0.out; omega)⟩
           have hnmz := HPNZ.out nm (List.mem_of_getElem? hnm)
           obtain ⟨hrl, hro⟩ := rnow_ok HF.out PN HSO.out i2 (by omega)
           have hgr := gat_round HF.out PN HSO.out hnm
           rw [HK0.out] at hgr
           have HGR := hide hgr
           have HRO := hide hro
           obtain ⟨A17, c17, rfl, _, hrg, _, _⟩ := HO2.out.slice encFd_len
           have HRG := hide hrg
           obtain ⟨RN, hRN⟩ : ∃ z, rnowB S PN s0 rb i2 = z := ⟨_, rfl⟩
           rw [hRN] at HGR HRO HRG hrl ⊢
           obtain ⟨m, hm⟩ : ∃ z, RN.length = z := ⟨_, rfl⟩
           rw [hm] at hrl ⊢
           have HMM := hide hm
           have hwi : ws.heap.size ≤ wi.heap.size := HB2.out.size
           obtain ⟨g14, o14, rfl, hg14, hc14⟩ := (HS14.out.below HB2.out) i2 nm hnm
           have hik : (i2 : Int) < (k0 : Int) := by omega
           obtain ⟨lb, hlb⟩ : ∃ z, decide (i2 + 1 = k0) = z := ⟨_, rfl⟩
           obtain ⟨sb', hsb⟩ : ∃ z, (rb || decide (0 < i2)) = z := ⟨_, rfl⟩
           rw [hlb, hsb] at HGR
           have HLB := hide hlb
           have HSB := hide hsb
           clear hnm hgr hro hrg hRN hm hlb hsb HO2
           go_wp2_with fail
           go_loopw [19, 20, 21, 22] (fun v19 v20 _ _ wr => ∃ k : Nat, v20 = .int .i64 k ∧ k ≤ m ∧ Hid (OwnFd wr wi.heap.size v19 (gatB S nm lb sb' (RN.take k))) ∧ Hid (Below wi.heap.size wi wr)) (fun _ v20 _ _ _ => m - (intOf v20).toNat)
           case atStart => exact ⟨0, rfl, by omega, hide (OwnG.nil _ _), hide (Below.refl _ _)⟩
           case round =>
             obtain ⟨wk, hwk⟩ : ∃ Z, Z = wr := ⟨_, rfl⟩
             subst hwk
             obtain ⟨k, rfl, hk, HO3, HB3⟩ := hrel
             by_cases hkm : k < m
             case neg =>
               obtain rfl : k = m := by omega
               have HNX := hide (show OwnFd wk ws.heap.size _ (rnowB S PN s0 rb (i2 + 1)) by
                 have h1 := HO3.out
                 rw [List.take_of_length_le (by rw [HMM.out]; exact Nat.le_refl _), HGR.out] at h1
                 exact h1.lower hwi)
               have HBX := hide (HB2.out.trans (HB3.out.mono hwi))
               have b1 : ¬ (k : Int) < (k : Int) := by omega
               clear HO3
               go_wp2
               go_roundw
               case rel => exact ⟨i2 + 1, by go_num, by omega, HNX, HBX⟩
               case measure => simp [intOf]; omega
             case pos =>
               have b1 : (k : Int) < (m : Int) := by omega
               obtain ⟨d, hd⟩ : ∃ x, RN[k]? = some x := ⟨_, List.getElem?_eq_getElem (by have := HMM.out; omega)⟩
               obtain ⟨hat, hdz⟩ := HRO.out d (List.mem_of_getElem? hd)
               obtain ⟨g17, o17, rfl, hg17, hcc⟩ := (HRG.out.below HB3.out) k d hd
               have hd0 : wk.cell? ⟨g17, o17 + k * 2, none⟩ = some (.string d.1) := hcc 0 _ rfl
               have hd1 : wk.cell? ⟨g17, o17 + k * 2 + 1, none⟩ = some (.string d.2) := hcc 1 _ rfl
               have hcn : wk.cell? ⟨g14, o14 + i2, none⟩ = some (.string nm) := (HB3.out.cell (p := ⟨g14, o14 + i2, none⟩) hg14).trans hc14
               have hg14k : g14 < wk.heap.size := Nat.lt_of_lt_of_le hg14 HB3.out.size
               have HST := hide (fun W (hb : Below wk.heap.size wk W) => rstep_any g S A c P d nm lb sb' W HF.out ((((HRS.out.below HBS.out).below HB2.out).below HB3.out).below hb) hat hdz hnmz)
               have HGS := hide (gat_succ (S := S) (p := nm) (last := lb) (sl := sb') hd)
               have hgok := gat_ok S nm lb sb' (RN.take k)
               have hsl := rstep_len HF.out d nm lb sb'
               obtain ⟨X, hX⟩ : ∃ z, gatB S nm lb sb' (RN.take k) = z := ⟨_, rfl⟩
               rw [hX] at HO3 HGS hgok
               obtain ⟨LD, hLD⟩ : ∃ z, rstepB S d nm lb sb' = z := ⟨_, rfl⟩
               rw [hLD] at HST HGS hsl
               have HGOK := hide hgok
               clear hd hat hdz hcc hX hLD hgok
               have hlw : IntKind.i64.wrap ((i2 : Int) + 1) = (i2 : Int) + 1 := IntWalk.i64_in _ (by omega)
               have hlq : ((i2 : Int) + 1 == (k0 : Int)) = lb := by
                 rw [← HLB.out, Bool.eq_iff_iff, beq_iff_eq, decide_eq_true_iff]
                 omega
               have hlp : decide ((i2 : Int) + 1 = (k0 : Int)) = lb := by
                 rw [← HLB.out]
                 apply decide_eq_decide.2
                 omega
               go_upto_region 29 with (fail)
               go_cut [21] from 94 to 113 (fun v21 wr => OwnFd wr wk.heap.size v21 LD ∧ Below wk.heap.size wk wr)
               case first =>
                 have hsb := HSB.out
                 clear HGR HGS HLB HSB
                 cases rb with
                 | true =>
                   have hsb : sb' = true := by rw [← hsb]; rfl
                   subst hsb
                   refine wp_region_held_drew (S := (fun w' => w'.cell? ⟨g17, o17 + k * 2, none⟩ = some (.string d.1) ∧ w'.cell? ⟨g17, o17 + k * 2 + 1, none⟩ = some (.string d.2) ∧ w'.cell? ⟨g14, o14 + i2, none⟩ = some (.string nm))) (by kernel_rfl) ⟨hd0, hd1, hcn⟩ (fun hHeld => ?_)
                   refine tq (i := 0) (v := ?vA0) rfl rfl (by kernel_rfl) (fun _ _ _ h => h) ?yA0 (by assumption) ?rA0
                   case yA0 => intro w h; (try dsimp only at h); go_simp; try with_reducible rfl
                   try simp only [sA, sB, sC]
                   refine tq (i := 1) (v := ?vA1) rfl rfl (by kernel_rfl) (fun _ _ _ h => h) ?yA1 (by assumption) ?rA1
                   case yA1 => intro w h; (try dsimp only at h); go_simp; try with_reducible rfl
                   try simp only [sA, sB, sC]
                   refine tq (i := 2) (v := ?vA2) rfl rfl (by kernel_rfl) (fun _ _ _ h => h) ?yA2 (by assumption) ?rA2
                   case yA2 => intro w h; (try dsimp only at h); go_simp; try with_reducible rfl
                   try simp only [sA, sB, sC]
                   refine tq (i := 3) (v := ?vA3) rfl rfl (by kernel_rfl) (fun _ _ _ h => h) ?yA3 (by assumption) ?rA3
                   case yA3 => intro w h; (try dsimp only at h); go_simp; try with_reducible rfl
                   try simp only [sA, sB, sC]
                   refine tq (i := 4) (v := ?vA4) rfl rfl (by kernel_rfl) (fun _ _ _ h => h) ?yA4 (by assumption) ?rA4
                   case yA4 => intro w h; (try dsimp only at h); go_simp; try with_reducible rfl
                   try simp only [sA, sB, sC]
                   refine tq (i := 5) (v := ?vA5) rfl rfl (by kernel_rfl) (fun _ _ _ h => h) ?yA5 (by assumption) ?rA5
                   case yA5 => intro w h; (try dsimp only at h); go_simp; try with_reducible rfl
                   try simp only [sA, sB, sC]
                   refine tq (i := 6) (v := ?vA6) rfl rfl (by kernel_rfl) (fun _ _ _ h => h) ?yA6 (by assumption) ?rA6
                   case yA6 => intro w h; (try dsimp only at h); go_simp; try with_reducible rfl
                   try simp only [sA, sB, sC]
                   refine tq (i := 7) (v := ?vA7) rfl rfl (by kernel_rfl) (fun _ _ _ h => h) ?yA7 (by assumption) ?rA7
                   case yA7 => intro w h; (try dsimp only at h); go_simp; try with_reducible rfl
                   try simp only [sA, sB, sC]
                   refine tq (i := 8) (v := ?vA8) rfl rfl (by kernel_rfl) (fun _ _ _ h => h) ?yA8 (by assumption) ?rA8
                   case yA8 => intro w h; (try dsimp only at h); go_simp; try with_reducible rfl
                   try simp only [sA, sB, sC]
                   refine tq (i := 9) (v := ?vA9) rfl rfl (by kernel_rfl) (fun _ _ _ h => h) ?yA9 (by assumption) ?rA9
                   case yA9 => intro w h; (try dsimp only at h); go_simp; try with_reducible rfl
                   try simp only [sA, sB, sC]
                   refine tq (i := 10) (v := ?vA10) rfl rfl (by kernel_rfl) (fun _ _ _ h => h) ?yA10 (by assumption) ?rA10
                   case yA10 => intro w h; (try dsimp only at h); go_simp; try with_reducible rfl
                   try simp only [sA, sB, sC]
                   refine tq (i := 11) (v := ?vA11) rfl rfl (by kernel_rfl) (fun _ _ _ h => h) ?yA11 (by assumption) ?rA11
                   case yA11 => intro w h; (try dsimp only at h); go_simp; try with_reducible rfl
                   try simp only [sA, sB, sC]
                   refine tq (i := 12) (v := ?vA12) rfl rfl (by kernel_rfl) (fun _ _ _ h => h) ?yA12 (by assumption) ?rA12
                   case yA12 => intro w h; (try dsimp only at h); go_simp; try with_reducible rfl
                   try simp only [sA, sB, sC]
                   refine tq (i := 13) (v := ?vA13) rfl rfl (by kernel_rfl) (fun _ _ _ h => h) ?yA13 (by assumption) ?rA13
                   case yA13 => intro w h; (try dsimp only at h); go_simp; try with_reducible rfl
                   try simp only [sA, sB, sC]
                   refine tq (i := 14) (v := ?vA14) rfl rfl (by kernel_rfl) (fun _ _ _ h => h) ?yA14 (by assumption) ?rA14
                   case yA14 => intro w h; (try dsimp only at h); go_simp; try with_reducible rfl
                   try simp only [sA, sB, sC]
                   refine tq (i := 15) (v := ?vA15) rfl rfl (by kernel_rfl) (fun _ _ _ h => h) ?yA15 (by assumption) ?rA15
                   case yA15 => intro w h; (try dsimp only at h); go_simp; try with_reducible rfl
                   try simp only [sA, sB, sC]
                   refine wpAnyH_off (i := 16) (oi := _) rfl rfl (by kernel_rfl) (by kernel_rfl) (by kernel_rfl) (fun _ _ _ h => h) (by kernel_rfl) (by assumption) ?_
                   try simp only [sA, sB, sC]
                   refine wpAnyH_off (i := 17) (oi := _) rfl rfl (by kernel_rfl) (by kernel_rfl) (by kernel_rfl) (fun _ _ _ h => h) (by kernel_rfl) (by assumption) ?_
                   try simp only [sA, sB, sC]
                   refine tq (i := 18) (v := ?vA18) rfl rfl (by kernel_rfl) (fun _ _ _ h => h) ?yA18 (by assumption) ?rA18
                   case yA18 => intro w h; (try dsimp only at h); go_simp; try with_reducible rfl
                   try simp only [sA, sB, sC]
                   refine rq (k := 19) rfl (by kernel_rfl) (by kernel_rfl) (fun K hK => ?_)
                   go_simp
                   go_at_call 74
                   refine (HST.out _ (by first | exact Below.refl _ _ | exact below_drewN (Below.refl _ _) _)).mono ?_
                   rintro e w5 ⟨⟨v, rfl, ho5⟩, hb5⟩
                   have u1 := (hb5.cell (p := ⟨g17, o17 + k * 2, none⟩) hg17).trans hd0
                   have u2 := (hb5.cell (p := ⟨g17, o17 + k * 2 + 1, none⟩) hg17).trans hd1
                   have u3 := (hb5.cell (p := ⟨g14, o14 + i2, none⟩) hg14k).trans hcn
                   have HO5 := hide ho5
                   have HB5 := hide hb5
                   clear hb5 ho5
                   refine hK.out _ _ ⟨u1, u2, u3⟩ (fun _ => ?_)
                   clear hK K
                   try simp only [Act.put, sA, sB, sC]
                   refine tq (i := 20) (v := ?vA20) rfl rfl (by kernel_rfl) (fun _ _ _ h => h) ?yA20 (by assumption) ?rA20
                   case yA20 => intro w h; (try dsimp only at h); go_simp; try with_reducible rfl
                   try simp only [sA, sB, sC]
                   refine wpAnyH_done (by kernel_rfl) ?_ _
                   go_wp2
                   go_meet
                   exact ⟨HO5.out, (Below.refl wk.heap.size wk).drew.trans (HB5.out.mono (Nat.le_refl _))⟩
                 | false =>
                   have hsq : decide ((0 : Int) < (i2 : Int)) = sb' := by
                     rw [← hsb, Bool.false_or]
                     apply decide_eq_decide.2
                     omega
                   have hsq2 : decide (0 < i2) = sb' := by rw [← hsb, Bool.false_or]
                   clear hsb
                   refine wp_region_held_drew (S := (fun w' => w'.cell? ⟨g17, o17 + k * 2, none⟩ = some (.string d.1) ∧ w'.cell? ⟨g17, o17 + k * 2 + 1, none⟩ = some (.string d.2) ∧ w'.cell? ⟨g14, o14 + i2, none⟩ = some (.string nm))) (by kernel_rfl) ⟨hd0, hd1, hcn⟩ (fun hHeld => ?_)
                   refine tq (i := 0) (v := ?vB0) rfl rfl (by kernel_rfl) (fun _ _ _ h => h) ?yB0 (by assumption) ?rB0
                   case yB0 => intro w h; (try dsimp only at h); go_simp; try with_reducible rfl
                   try simp only [sA, sB, sC]
                   refine tq (i := 1) (v := ?vB1) rfl rfl (by kernel_rfl) (fun _ _ _ h => h) ?yB1 (by assumption) ?rB1
                   case yB1 => intro w h; (try dsimp only at h); go_simp; try with_reducible rfl
                   try simp only [sA, sB, sC]
                   refine tq (i := 2) (v := ?vB2) rfl rfl (by kernel_rfl) (fun _ _ _ h => h) ?yB2 (by assumption) ?rB2
                   case yB2 => intro w h; (try dsimp only at h); go_simp; try with_reducible rfl
                   try simp only [sA, sB, sC]
                   refine tq (i := 3) (v := ?vB3) rfl rfl (by kernel_rfl) (fun _ _ _ h => h) ?yB3 (by assumption) ?rB3
                   case yB3 => intro w h; (try dsimp only at h); go_simp; try with_reducible rfl
                   try simp only [sA, sB, sC]
                   refine tq (i := 4) (v := ?vB4) rfl rfl (by kernel_rfl) (fun _ _ _ h => h) ?yB4 (by assumption) ?rB4
                   case yB4 => intro w h; (try dsimp only at h); go_simp; try with_reducible rfl
                   try simp only [sA, sB, sC]
                   refine tq (i := 5) (v := ?vB5) rfl rfl (by kernel_rfl) (fun _ _ _ h => h) ?yB5 (by assumption) ?rB5
                   case yB5 => intro w h; (try dsimp only at h); go_simp; try with_reducible rfl
                   try simp only [sA, sB, sC]
                   refine tq (i := 6) (v := ?vB6) rfl rfl (by kernel_rfl) (fun _ _ _ h => h) ?yB6 (by assumption) ?rB6
                   case yB6 => intro w h; (try dsimp only at h); go_simp; try with_reducible rfl
                   try simp only [sA, sB, sC]
                   refine tq (i := 7) (v := ?vB7) rfl rfl (by kernel_rfl) (fun _ _ _ h => h) ?yB7 (by assumption) ?rB7
                   case yB7 => intro w h; (try dsimp only at h); go_simp; try with_reducible rfl
                   try simp only [sA, sB, sC]
                   refine tq (i := 8) (v := ?vB8) rfl rfl (by kernel_rfl) (fun _ _ _ h => h) ?yB8 (by assumption) ?rB8
                   case yB8 => intro w h; (try dsimp only at h); go_simp; try with_reducible rfl
                   try simp only [sA, sB, sC]
                   refine tq (i := 9) (v := ?vB9) rfl rfl (by kernel_rfl) (fun _ _ _ h => h) ?yB9 (by assumption) ?rB9
                   case yB9 => intro w h; (try dsimp only at h); go_simp; try with_reducible rfl
                   try simp only [sA, sB, sC]
                   refine tq (i := 10) (v := ?vB10) rfl rfl (by kernel_rfl) (fun _ _ _ h => h) ?yB10 (by assumption) ?rB10
                   case yB10 => intro w h; (try dsimp only at h); go_simp; try with_reducible rfl
                   try simp only [sA, sB, sC]
                   refine tq (i := 11) (v := ?vB11) rfl rfl (by kernel_rfl) (fun _ _ _ h => h) ?yB11 (by assumption) ?rB11
                   case yB11 => intro w h; (try dsimp only at h); go_simp; try with_reducible rfl
                   try simp only [sA, sB, sC]
                   refine tq (i := 12) (v := ?vB12) rfl rfl (by kernel_rfl) (fun _ _ _ h => h) ?yB12 (by assumption) ?rB12
                   case yB12 => intro w h; (try dsimp only at h); go_simp; try with_reducible rfl
                   try simp only [sA, sB, sC]
                   refine tq (i := 13) (v := ?vB13) rfl rfl (by kernel_rfl) (fun _ _ _ h => h) ?yB13 (by assumption) ?rB13
                   case yB13 => intro w h; (try dsimp only at h); go_simp; try with_reducible rfl
                   try simp only [sA, sB, sC]
                   refine tq (i := 14) (v := ?vB14) rfl rfl (by kernel_rfl) (fun _ _ _ h => h) ?yB14 (by assumption) ?rB14
                   case yB14 => intro w h; (try dsimp only at h); go_simp; try with_reducible rfl
                   try simp only [sA, sB, sC]
                   refine tq (i := 15) (v := ?vB15) rfl rfl (by kernel_rfl) (fun _ _ _ h => h) ?yB15 (by assumption) ?rB15
                   case yB15 => intro w h; (try dsimp only at h); go_simp; try with_reducible rfl
                   try simp only [sA, sB, sC]
                   refine tq (i := 16) (v := ?vB16) rfl rfl (by kernel_rfl) (fun _ _ _ h => h) ?yB16 (by assumption) ?rB16
                   case yB16 => intro w h; (try dsimp only at h); go_simp; try with_reducible rfl
                   try simp only [sA, sB, sC]
                   refine tq (i := 17) (v := ?vB17) rfl rfl (by kernel_rfl) (fun _ _ _ h => h) ?yB17 (by assumption) ?rB17
                   case yB17 => intro w h; (try dsimp only at h); go_simp; try with_reducible rfl
                   try simp only [sA, sB, sC]
                   refine tq (i := 18) (v := ?vB18) rfl rfl (by kernel_rfl) (fun _ _ _ h => h) ?yB18 (by assumption) ?rB18
                   case yB18 => intro w h; (try dsimp only at h); go_simp; try with_reducible rfl
                   try simp only [sA, sB, sC]
                   refine rq (k := 19) rfl (by kernel_rfl) (by kernel_rfl) (fun K hK => ?_)
                   go_simp
                   go_at_call 74
                   refine (HST.out _ (by first | exact Below.refl _ _ | exact below_drewN (Below.refl _ _) _)).mono ?_
                   rintro e w5 ⟨⟨v, rfl, ho5⟩, hb5⟩
                   have u1 := (hb5.cell (p := ⟨g17, o17 + k * 2, none⟩) hg17).trans hd0
                   have u2 := (hb5.cell (p := ⟨g17, o17 + k * 2 + 1, none⟩) hg17).trans hd1
                   have u3 := (hb5.cell (p := ⟨g14, o14 + i2, none⟩) hg14k).trans hcn
                   have HO5 := hide ho5
                   have HB5 := hide hb5
                   clear hb5 ho5
                   refine hK.out _ _ ⟨u1, u2, u3⟩ (fun _ => ?_)
                   clear hK K
                   try simp only [Act.put, sA, sB, sC]
                   refine tq (i := 20) (v := ?vB20) rfl rfl (by kernel_rfl) (fun _ _ _ h => h) ?yB20 (by assumption) ?rB20
                   case yB20 => intro w h; (try dsimp only at h); go_simp; try with_reducible rfl
                   try simp only [sA, sB, sC]
                   refine wpAnyH_done (by kernel_rfl) ?_ _
                   go_wp2
                   go_meet
                   exact ⟨HO5.out, (Below.refl wk.heap.size wk).drew.trans (HB5.out.mono (Nat.le_refl _))⟩
               case rest =>
                 obtain ⟨hod, hbd⟩ := hcut
                 obtain ⟨w6, hw6⟩ : ∃ z, z = wc := ⟨_, rfl⟩
                 subst hw6
                 have HO6 := hide (show OwnFd w6 wi.heap.size _ X from ownsRow_of HO3.out fun q e => hbd.block q (HO3.out.lt q e).2)
                 have HB6 := hide (HB3.out.trans (hbd.mono HB3.out.size))
                 obtain ⟨A21, c21, rfl, _, hrg21, _, hA21⟩ := hod.slice encFd_len
                 have HRG6 := hide hrg21
                 have HNE6 := hide (show ∀ q, u19.ownBlock = some q → ∀ a, A21 = some a → LD ≠ [] → a.block ≠ q from fun q e a ea hl he => by
                   obtain ⟨gg, cc, e1, _, h1, _⟩ := own_some hod hl
                   injection e1 with e1
                   rw [e1] at ea
                   injection ea with ea
                   have := (HO3.out.lt q e).2
                   rw [← ea] at he
                   have he2 : gg = q := he
                   omega)
                 have hgb21 : ∀ a, A21 = some a → LD ≠ [] → a.block < w6.heap.size := fun a ea hl => by
                   obtain ⟨gg, cc, e1, _, _, h2⟩ := own_some hod hl
                   injection e1 with e1
                   rw [e1] at ea
                   injection ea with ea
                   rw [← ea]
                   exact h2
                 have HLT6 := hide hgb21
                 obtain ⟨ml, hml⟩ : ∃ z, LD.length = z := ⟨_, rfl⟩
                 have HML := hide hml
                 rw [hml] at hsl ⊢
                 clear hod hbd hrg21 hA21 hgb21 hml HO3 HST hd0 hd1 hcn hg17 hg14k hlq hlp hlw HRG HPNZ
                 go_wp2_with fail
                 go_loopw [19, 22] (fun v19 v22 wr => ∃ j : Nat, v22 = .int .i64 j ∧ j ≤ ml ∧ Hid (OwnFd wr wi.heap.size v19 ((LD.take j).foldl keepS X)) ∧ Hid (Below wi.heap.size wi wr) ∧ Hid (RG encFd 2 wr A21 LD) ∧ Hid (∀ q, v19.ownBlock = some q → ∀ a, A21 = some a → LD ≠ [] → a.block ≠ q) ∧ Hid (∀ a, A21 = some a → LD ≠ [] → a.block < wr.heap.size)) (fun _ v22 _ => ml - (intOf v22).toNat)
                 case atStart => exact ⟨0, rfl, by omega, HO6, HB6, HRG6, HNE6, HLT6⟩
                 case round =>
                   obtain ⟨wj, hwj⟩ : ∃ Z, Z = wr := ⟨_, rfl⟩
                   subst hwj
                   obtain ⟨j, rfl, hj, HOJ, HBJ, HRJ, HNJ, HLJ⟩ := hrel
                   by_cases hjm : j < ml
                   case neg =>
                     obtain rfl : j = ml := by omega
                     have HNX := hide (show OwnFd wj wi.heap.size _ (gatB S nm lb sb' (RN.take (k + 1))) by
                       rw [HGS.out]
                       have h1 := HOJ.out
                       rw [List.take_of_length_le (by rw [HML.out]; exact Nat.le_refl _)] at h1
                       exact h1)
                     have b3 : ¬ (j : Int) < (j : Int) := by omega
                     clear HOJ HNJ HLJ HRJ
                     go_wp2
                     go_roundw
                     case rel => exact ⟨k + 1, by go_num, by omega, HNX, HBJ⟩
                     case measure => simp [intOf]; omega
                   case pos =>
                     have b3 : (j : Int) < (ml : Int) := by omega
                     obtain ⟨x, hx⟩ : ∃ x, LD[j]? = some x := ⟨_, List.getElem?_eq_getElem (by have := HML.out; omega)⟩
                     have hne : LD ≠ [] := by rintro rfl; simp at hx
                     obtain ⟨g21, o21, rfl, hg21, hcc⟩ := HRJ.out j x hx
                     have hx0 : wj.cell? ⟨g21, o21 + j * 2, none⟩ = some (.string x.1) := hcc 0 _ rfl
                     have hx1 : wj.cell? ⟨g21, o21 + j * 2 + 1, none⟩ = some (.string x.2) := hcc 1 _ rfl
                     have hfo := fold_ok (x := LD.take j) HGOK.out
                     have hst : (LD.take (j + 1)).foldl keepS X = keepS ((LD.take j).foldl keepS X) x := by
                       rw [List.take_add_one, hx, List.foldl_append]
                       rfl
                     obtain ⟨Y, hY⟩ : ∃ z, (LD.take j).foldl keepS X = z := ⟨_, rfl⟩
                     rw [hY] at hfo hst HOJ
                     have HKP := hide (rkeep_any x HOJ.out hfo.1 hfo.2 HBJ.out.size)
                     have HSTP := hide hst
                     have HNEL := hide hne
                     clear hx hcc hfo hst hY hne
                     go_wp2_with fail
                     refine HKP.out.mono ?_
                     rintro e w7 ⟨v7, rfl, ho7, hg7, hv7⟩
                     have HO7 := hide (show OwnFd w7 wi.heap.size v7 ((LD.take (j + 1)).foldl keepS X) by rw [HSTP.out]; exact ho7)
                     have HB7 := hide (HBJ.out.grown hg7 HBJ.out.size (fun q e => (HOJ.out.lt q e).1))
                     have HR7 := hide (show RG encFd 2 w7 (some ⟨g21, o21, none⟩) LD from HRJ.out.gb hg7 (fun a ea e => HNJ.out _ e.symm a ea HNEL.out rfl))
                     have HN7 := hide (show ∀ q, v7.ownBlock = some q → ∀ a, (some ⟨g21, o21, none⟩ : Option Addr) = some a → LD ≠ [] → a.block ≠ q from fun q e a ea hl => by
                       rcases hv7 with h | ⟨kk, h, hk7⟩
                       · exact HNJ.out q (h ▸ e) a ea hl
                       · rw [h] at e
                         injection e with e
                         have := HLJ.out a ea hl
                         omega)
                     have HL7 := hide (show ∀ a, (some ⟨g21, o21, none⟩ : Option Addr) = some a → LD ≠ [] → a.block < w7.heap.size from fun a ea hl => Nat.lt_of_lt_of_le (HLJ.out a ea hl) hg7.size)
                     clear ho7 hg7 hv7 HKP hx0 hx1 hg21
                     go_wp2
                     go_roundw
                     case rel => exact ⟨j + 1, by go_num, by omega, HO7, HB7, HR7, HN7, HL7⟩
                     case measure => simp [intOf]; omega
         case neg =>
           obtain rfl : i2 = k0 := by omega
           have hrn : rnowB S PN s0 rb i2 = firstB (nowB S PN s0 i2) := by unfold rnowB; rw [if_neg (by omega)]
           rw [hrn] at HO2
           have hfl := firstB_le (nowB S PN s0 i2)
           obtain ⟨F, hF⟩ : ∃ z, firstB (nowB S PN s0 i2) = z := ⟨_, rfl⟩
           rw [hF] at HO2 HOB hfl
           obtain ⟨A17, c17, rfl, _, hrg, _, _⟩ := HO2.out.slice encFd_len
           have HRG := hide hrg
           obtain ⟨m, hm⟩ : ∃ z, F.length = z := ⟨_, rfl⟩
           rw [hm] at hfl ⊢
           have HMM := hide hm
           have HBW := hide (HBS.out.trans (HB2.out.mono HBS.out.size))
           have b1 : ¬ (i2 : Int) < (i2 : Int) := by omega
           have b2 : (0 : Int) < (i2 : Int) := by omega
           clear hrn hF hrg hm HO2 HS14 HPNZ HK0
           go_wp2_with fail
           go_loopw [23, 24] (fun v23 v24 wr => ∃ k : Nat, v24 = .int .i64 k ∧ k ≤ m ∧ Hid (OwnS wr wi.heap.size v23 ((F.take k).map (·.1))) ∧ Hid (Below wi.heap.size wi wr)) (fun _ v24 _ => m - (intOf v24).toNat)
           case atStart => exact ⟨0, rfl, by omega, hide (OwnS.nil _ _), hide (Below.refl _ _)⟩
           case round =>
             obtain ⟨wk, hwk⟩ : ∃ Z, Z = wr := ⟨_, rfl⟩
             subst hwk
             obtain ⟨k, rfl, hk, HO3, HB3⟩ := hrel
             obtain ⟨A23, c23, rfl, _, hs23, _⟩ := HO3.out.slice
             have hln : ((F.take k).map (·.1)).length = k := by rw [List.length_map, List.length_take, HMM.out]; omega
             rw [hln] at HO3 ⊢
             have HLN := hide hln
             clear hln hs23
             by_cases hkm : k < m
             case neg =>
               obtain rfl : k = m := by omega
               have b3 : ¬ (k : Int) < (k : Int) := by omega
               have hft : (F.take k).map (·.1) = F.map (·.1) := by rw [List.take_of_length_le (by rw [HMM.out]; exact Nat.le_refl _)]
               by_cases hk0 : k = 0
               · subst hk0
                 have hF0 : F = [] := List.eq_nil_of_length_eq_zero HMM.out
                 have HE := hide (show outB S s0 p tx = [tx] by rw [HOB.out, if_pos hF0])
                 have HBX := hide (HBW.out.trans (HB3.out.mono HBW.out.size))
                 have HTT := hide (HTX.out wk HBX.out)
                 clear hft hF0 HO3
                 go_wp2_with fail
                 refine HTT.out.mono ?_
                 rintro e w8 ⟨rfl, rfl⟩
                 go_wp2
                 go_ret
                 refine ⟨⟨_, rfl, ?_⟩, HBX.out.alloc HBX.out.size _⟩
                 rw [HE.out]
                 exact OwnS.newL wk [tx] HBX.out.size (by simp)
               · have HE := hide (show outB S s0 p tx = F.map (·.1) by
                   rw [HOB.out, if_neg (fun e => hk0 (by rw [← HMM.out, e]; rfl))])
                 have HBX := hide (HBW.out.trans (HB3.out.mono HBW.out.size))
                 have HOF := hide (show OwnS wk w.heap.size (.slice A23 k c23) (F.map (·.1)) by
                   rw [← hft]
                   exact HO3.out.base HBW.out.size)
                 have b4 : ¬ (k : Int) = 0 := by omega
                 clear hft HO3
                 go_wp2
                 go_ret
                 refine ⟨⟨_, rfl, ?_⟩, HBX.out⟩
                 rw [HE.out]
                 exact HOF.out
             case pos =>
               have b3 : (k : Int) < (m : Int) := by omega
               obtain ⟨x, hx⟩ : ∃ x, F[k]? = some x := ⟨_, List.getElem?_eq_getElem (by have := HMM.out; omega)⟩
               obtain ⟨g17, o17, rfl, hg17, hcc⟩ := (HRG.out.below HB3.out) k x hx
               have hx0 : wk.cell? ⟨g17, o17 + k * 2, none⟩ = some (.string x.1) := hcc 0 _ rfl
               have hst : (F.take (k + 1)).map (·.1) = (F.take k).map (·.1) ++ [x.1] := by
                 rw [List.take_add_one, hx, List.map_append]
                 rfl
               obtain ⟨v5, w5, r5, o5, g5, b5⟩ := run_appS (c := 1) (OwnS.alloc HO3.out (.cells #[.string x.1] 9)) (sr_new wk x.1) (by simp; have := HB3.out.size; omega) (by rw [HLN.out]; simp; omega)
               have HR5 := hide r5
               have HO5 := hide (show OwnS w5 wi.heap.size v5 ((F.take (k + 1)).map (·.1)) by rw [hst]; exact o5)
               have HB5 := hide (show Below wi.heap.size wi w5 from (HB3.out.alloc HB3.out.size (.cells #[.string x.1] 9)).grown g5 (by simp; have := HB3.out.size; omega) (fun q hq => (World.ownsRow.lt HO3.out q hq).1))
               clear hx hcc hst r5 o5 g5 b5
               go_wp2_with (at_builtin; refine wpList_app_run ?_ (.tmp 138) (.tmp 144) ?_ ?_ ?_ ?_ HR5.out ?_; exact rfl; exact rfl; exact rfl; exact rfl; exact rfl)
               go_roundw
               case rel => exact ⟨k + 1, by go_num, by omega, HO5, HB5⟩
               case measure => simp [intOf]; omega
end
section
open Go.RowKit Go.Deep Go.Maps Ln Pth Vf Qm.Glob
attribute [local go_sem] bt_eq
theorem paths_none (gf : Nat) (fs : St) (cwd : ByteArray) (A : Option Addr) (c : Nat) (L : List Pt) (w : World) (hf : FsOk fs) (hv : Hs (VS gf fs) w) (hm : MX w) (hcw : cwd.size ≤ 1000) (hA : RG encPt 6 w A L) (hl : L.length ≤ 1000) (hz : ∀ p ∈ L, p.text.size ≤ 1000) (hz2 : (textS L).length ≤ 1000000) (hp : (bsF (patS L)).size ≤ 200)
   (hpl : plT (bsF (patS L)) = none) (hs0 : startB cwd (bsF (patS L)) = none) :
   Calls Tryz.prog 21 #[.pointer (some ⟨gf, 0, none⟩), .string cwd, .slice A L.length c] w fun e w' => (∃ v, e = .returned v ∧ OwnS w' w.heap.size v [bsF (textS L)]) ∧ Below w.heap.size w w' := by
 obtain ⟨w1, hw1⟩ : ∃ Z, w.alloc (.cells #[.pointer (some ⟨gf, 0, none⟩)] 23) = Z := ⟨_, rfl⟩
 have hb0 : Below w.heap.size w w1 := hw1 ▸ (Below.refl _ _).alloc (Nat.le_refl _) _
 have hgF0 := heapNew w (.cells #[.pointer (some ⟨gf, 0, none⟩)] 23)
 rw [hw1] at hgF0
 have hcF := cellOf hgF0 (j := 0) rfl
 have hsz1 : w1.heap.size = w.heap.size + 1 := by rw [← hw1]; simp
 have HPT := hide (pat_any A c L w1 (hA.below hb0) hl hz)
 have HTX := hide (fun Z (hb : Below w.heap.size w Z) => text_any A c L Z (hA.below hb) (by omega) hz2)
 obtain ⟨p, hpp⟩ : ∃ p, bsF (patS L) = p := ⟨_, rfl⟩
 obtain ⟨tx, htx⟩ : ∃ p, bsF (textS L) = p := ⟨_, rfl⟩
 rw [hpp] at HPT hp hpl hs0
 rw [htx] at HTX ⊢
 have HPL := hide (fun Z => gplain_any p Z (by omega))
 rw [plVal_plT, hpl] at HPL
 have HPL := hide (show ∀ Z : World, Calls Tryz.prog 46 #[.string p] Z (fun e w' => e = .returned (.tuple #[.string ⟨#[]⟩, .bool false]) ∧ Below Z.heap.size Z w') from HPL.out)
 have HPR := hide (fun W => (Tryz.strings_HasPrefix p ⟨#[47]⟩ W).mono fun e w' ⟨h1, h2⟩ => (⟨h1, h2.symm⟩ : _ ∧ W = w'))
 have hpre := pre_slash p.data.toList
 rw [bs_of] at hpre
 rw [show (⟨#[47]⟩ : ByteArray).data.toList = [47] from rfl, hpre] at HPR
 obtain ⟨rb, hrb⟩ : ∃ z, decide (p.data.toList.head? = some 47) = z := ⟨_, rfl⟩
 rw [hrb] at HPR
 have HRB := hide hrb
 clear hrb
 have HAB := hide (fun W h => abs_any [47] cwd.data.toList W h (by simp) (by rw [data_len]; omega))
 unfold AbsPost at HAB
 rw [bs_of, show bs [47] = (⟨#[47]⟩ : ByteArray) from rfl] at HAB
 obtain ⟨n, hn⟩ : ∃ n, L.length = n := ⟨_, rfl⟩
 rw [hn] at HPT HTX ⊢
 have HB0 := hide hb0
 have HCF := hide hcF
 have HV := hide hv
 have HM := hide hm
 have HF := hide hf
 have HW1 := hide hw1
 have HSZ1 := hide hsz1
 have HST := hide hs0
 have HPZ := hide hp
 clear hA hz hl hz2 hcw hp hpl hs0 hpp htx hn hb0 hgF0 hcF hsz1 hv hm hf hw1 hpre
 go_enter Tryz.func21, Tryz.ntmps21
 go_wp2_with fail
 rw [HW1.out]
 refine HPT.out.mono ?_
 rintro e w2 ⟨rfl, hb2⟩
 have HB2 := hide (show Below (w.heap.size + 1) w1 w2 by rw [← HSZ1.out]; exact hb2)
 clear hb2
 go_wp2_with fail
 refine (HPL.out _).mono ?_
 rintro e w3 ⟨rfl, hb3⟩
 have HB3 := hide (HB2.out.trans (hb3.mono (by have := HB2.out.size; have := HSZ1.out; omega)))
 clear hb3
 have HB4 := hide (HB3.out.alloc (by have := HB3.out.size; have := HSZ1.out; omega) (.cells #[.string (⟨#[47]⟩ : ByteArray), .string ⟨#[47]⟩] spty))
 have hno : ¬ p.data.toList.head? = some 47 ∧ ¬ (absF [47] cwd.data.toList).2 = 0 := by
   have := HST.out
   unfold startB at this
   by_cases h0 : p.data.toList.head? = some 47
   · rw [if_pos h0] at this; cases this
   · rw [if_neg h0] at this
     refine ⟨h0, fun e => ?_⟩
     rw [if_neg (by omega)] at this
     cases this
 have hrb2 := HRB.out
 rw [decide_eq_false hno.1] at hrb2
 subst hrb2
 obtain ⟨q, hq⟩ : ∃ z, bs (absF [47] cwd.data.toList).1 = z := ⟨_, rfl⟩
 obtain ⟨ec, hec⟩ : ∃ z, (absF [47] cwd.data.toList).2 = z := ⟨_, rfl⟩
 rw [hq, hec] at HAB
 have hecn : ¬ (ec : Int) = 0 := by have := hno.2; omega
 obtain ⟨w4, hw4⟩ : ∃ z, w3.alloc (.cells #[.string (⟨#[47]⟩ : ByteArray), .string ⟨#[47]⟩] spty) = z := ⟨_, rfl⟩
 have HW4 := hide hw4
 rw [hw4] at HB4
 clear hw4 hno hq hec
 go_wp2_with fail
 rw [HW4.out]
 refine (HPR.out _).mono ?_
 rintro e w5 ⟨rfl, rfl⟩
 go_wp2_with fail
 have hwx : Below w.heap.size w w4 := HB0.out.trans (HB4.out.mono (by omega))
 refine (HAB.out _ (HM.out.below hwx)).mono ?_
 rintro e w6 ⟨rfl, hb6⟩
 have HB6 := hide (hwx.trans (hb6.mono hwx.size))
 clear hwx hb6
 go_wp2_with fail
 refine (HTX.out _ HB6.out).mono ?_
 rintro e w9 ⟨rfl, hb9⟩
 have HB9 := hide (HB6.out.trans (hb9.mono HB6.out.size))
 have HO9 := hide (OwnS.newL w9 [tx] (base := w.heap.size) HB9.out.size (by simp))
 clear hb9
 go_wp2
 go_ret
 exact ⟨⟨_, rfl, HO9.out⟩, HB9.out.alloc HB9.out.size _⟩
end
section
open Go.RowKit Go.Deep Go.Maps Ln Pth Vf Qm.Glob
attribute [local go_sem] bt_eq
def pathsF (S : St) (cwd p tx : ByteArray) : List ByteArray := match plT p with
 | some s => [s]
 | none => match startB cwd p with
   | none => [tx]
   | some s0 => outB S s0 p tx
theorem plT_all {p s : ByteArray} (h : plT p = some s) : plAll (gItems (bt p) p.size) = true ∧ sb (plBytes (gItems (bt p) p.size)) = s := by
 unfold plT at h
 split at h
 · rename_i hc
   injection h with h
   exact ⟨hc, h⟩
 · cases h
theorem startB_none {cwd p : ByteArray} (h : startB cwd p = none) : ¬ p.data.toList.head? = some 47 ∧ (absF [47] cwd.data.toList).2 ≠ 0 := by
 unfold startB at h
 split at h
 · cases h
 · rename_i h1
   split at h
   · rename_i h2
     exact ⟨h1, h2⟩
   · cases h
theorem ppaths_any (gf : Nat) (fs : St) (cwd : ByteArray) (A : Option Addr) (c : Nat) (L : List Pt) (w : World) (hf : FsOk fs) (hv : Hs (VS gf fs) w) (hm : MX w) (hcw : cwd.size ≤ 1000) (hA : RG encPt 6 w A L) (hl : L.length ≤ 1000) (hz : ∀ p ∈ L, p.text.size ≤ 1000) (hz2 : (textS L).length ≤ 1000000) (hp : (bsF (patS L)).size ≤ 200) :
   Calls Tryz.prog 21 #[.pointer (some ⟨gf, 0, none⟩), .string cwd, .slice A L.length c] w fun e w' => (∃ A' c', e = .returned (.slice A' (pathsF fs cwd (bsF (patS L)) (bsF (textS L))).length c') ∧ SR w' A' (pathsF fs cwd (bsF (patS L)) (bsF (textS L)))) ∧ Below w.heap.size w w' := by
 unfold pathsF
 cases hpl : plT (bsF (patS L)) with
 | some s =>
   obtain ⟨h1, h2⟩ := plT_all hpl
   refine (paths_plain gf cwd A c L w hA hl hz s (by omega) h1 h2).mono ?_
   rintro e w' ⟨⟨g, rfl, hs⟩, hb⟩
   exact ⟨⟨_, _, rfl, hs⟩, hb⟩
 | none =>
   cases hs0 : startB cwd (bsF (patS L)) with
   | none =>
     refine (paths_none gf fs cwd A c L w hf hv hm hcw hA hl hz hz2 hp hpl hs0).mono ?_
     rintro e w' ⟨⟨v, rfl, ho⟩, hb⟩
     obtain ⟨A', c', rfl, _, hs, _⟩ := ho.slice
     exact ⟨⟨_, _, rfl, hs⟩, hb⟩
   | some s0 =>
     refine (paths_some gf fs cwd A c L w hf hv hm hcw hA hl hz hz2 hp hpl s0 hs0).mono ?_
     rintro e w' ⟨⟨v, rfl, ho⟩, hb⟩
     obtain ⟨A', c', rfl, _, hs, _⟩ := ho.slice
     exact ⟨⟨_, _, rfl, hs⟩, hb⟩
theorem rpaths_plain (g : Nat) (cwd : ByteArray) (A2 : Option Addr) (c2 : Nat) (L : List Pt) (w : World) (hA : RG encPt 6 w A2 L) (hl : L.length ≤ 1000) (hz : ∀ p ∈ L, p.text.size ≤ 1000) (hp : (bsF (patS L)).size ≤ 200) (s : ByteArray)
   (hpl : plT (bsF (patS L)) = some s) :
   Calls Tryz.prog 27 #[.pointer (some ⟨g, 0, none⟩), .string cwd, .slice A2 L.length c2] w fun e w' => (∃ A' c', e = .returned (.slice A' 1 c') ∧ SR w' A' [s]) ∧ Below w.heap.size w w' := by
 have HPT := hide (rpat_any A2 c2 L w hA hl hz)
 obtain ⟨p, hpp⟩ : ∃ p, bsF (patS L) = p := ⟨_, rfl⟩
 rw [hpp] at HPT hp hpl
 have HPL := hide (fun Z => rplain2_any p Z (by omega))
 rw [hpl] at HPL
 have HPL := hide (show ∀ Z : World, Calls Tryz.prog 70 #[.string p] Z (fun e w' => e = .returned (.tuple #[.string s, .bool true]) ∧ Below Z.heap.size Z w') from HPL.out)
 obtain ⟨n, hn⟩ : ∃ n, L.length = n := ⟨_, rfl⟩
 rw [hn] at HPT ⊢
 clear hA hz hl hpl hpp hn
 go_enter Tryz.func27, Tryz.ntmps27
 go_wp2_with fail
 refine HPT.out.mono ?_
 rintro e w1 ⟨rfl, hb1⟩
 have HB1 := hide hb1
 clear hb1 HPT
 go_wp2_with fail
 refine (HPL.out _).mono ?_
 rintro e w2 ⟨rfl, hb2⟩
 have HB2 := hide (HB1.out.trans (hb2.mono HB1.out.size))
 clear hb2 HPL
 go_wp2
 go_ret
 exact ⟨⟨_, _, rfl, sr_new w2 s⟩, HB2.out.alloc HB2.out.size _⟩
theorem rpaths_none (g : Nat) (cwd : ByteArray) (A2 : Option Addr) (c2 : Nat) (L : List Pt) (w : World) (hcw : cwd.size ≤ 1000) (hA : RG encPt 6 w A2 L) (hl : L.length ≤ 1000) (hz : ∀ p ∈ L, p.text.size ≤ 1000) (hz2 : (textS L).length ≤ 1000000) (hp : (bsF (patS L)).size ≤ 200)
   (hpl : plT (bsF (patS L)) = none) (hs0 : startB cwd (bsF (patS L)) = none) :
   Calls Tryz.prog 27 #[.pointer (some ⟨g, 0, none⟩), .string cwd, .slice A2 L.length c2] w fun e w' => (∃ A' c', e = .returned (.slice A' 1 c') ∧ SR w' A' [bsF (textS L)]) ∧ Below w.heap.size w w' := by
 have HPT := hide (rpat_any A2 c2 L w hA hl hz)
 have HTX := hide (fun Z (hb : Below w.heap.size w Z) => rtext_any A2 c2 L Z (hA.below hb) (by omega) hz2)
 obtain ⟨p, hpp⟩ : ∃ p, bsF (patS L) = p := ⟨_, rfl⟩
 obtain ⟨tx, htx⟩ : ∃ p, bsF (textS L) = p := ⟨_, rfl⟩
 rw [hpp] at HPT hp hpl hs0
 rw [htx] at HTX ⊢
 have HPL := hide (fun Z => rplain2_any p Z (by omega))
 rw [hpl] at HPL
 have HPL := hide (show ∀ Z : World, Calls Tryz.prog 70 #[.string p] Z (fun e w' => e = .returned (.tuple #[.string ⟨#[]⟩, .bool false]) ∧ Below Z.heap.size Z w') from HPL.out)
 obtain ⟨h1, h2⟩ := startB_none hs0
 have HPR := hide (fun W => rbegins_any p ⟨#[47]⟩ W)
 have hpre := pre_slash p.data.toList
 rw [bs_of] at hpre
 rw [show (⟨#[47]⟩ : ByteArray).data.toList = [47] from rfl, hpre, decide_eq_false h1] at HPR
 have HAB := hide (fun W => rabs_any [47] cwd.data.toList W (by simp) (by rw [data_len]; omega))
 unfold AbsPost at HAB
 rw [bs_of, show bs [47] = (⟨#[47]⟩ : ByteArray) from rfl] at HAB
 obtain ⟨q, hq⟩ : ∃ z, bs (absF [47] cwd.data.toList).1 = z := ⟨_, rfl⟩
 obtain ⟨ec, hec⟩ : ∃ z, (absF [47] cwd.data.toList).2 = z := ⟨_, rfl⟩
 rw [hq, hec] at HAB
 rw [hec] at h2
 obtain ⟨n, hn⟩ : ∃ n, L.length = n := ⟨_, rfl⟩
 rw [hn] at HPT HTX ⊢
 have h3 : ¬ (ec : Int) = 0 := by omega
 clear hA hz hl hz2 hcw hpl hs0 hpp htx hn h1 hpre hq hec h2
 go_enter Tryz.func27, Tryz.ntmps27
 go_wp2_with fail
 refine HPT.out.mono ?_
 rintro e w1 ⟨rfl, hb1⟩
 have HB1 := hide hb1
 clear hb1 HPT
 go_wp2_with fail
 refine (HPL.out _).mono ?_
 rintro e w2 ⟨rfl, hb2⟩
 have HB2 := hide (HB1.out.trans (hb2.mono HB1.out.size))
 clear hb2 HPL
 go_wp2_with fail
 refine (HPR.out _).mono ?_
 rintro e w3 ⟨rfl, rfl⟩
 have HB4 := hide (HB2.out.alloc HB2.out.size (.cells #[.string (⟨#[]⟩ : ByteArray), .string (⟨#[47]⟩ : ByteArray)] fdty))
 go_wp2_with fail
 refine (HAB.out _).mono ?_
 rintro e w6 ⟨rfl, hb6⟩
 have HB6 := hide (HB4.out.trans (hb6.mono HB4.out.size))
 have HTT := hide (HTX.out w6 HB6.out)
 clear hb6 HAB
 go_wp2_with fail
 refine HTT.out.mono ?_
 rintro e w8 ⟨rfl, rfl⟩
 go_wp2
 go_ret
 exact ⟨⟨_, _, rfl, sr_new w6 tx⟩, HB6.out.alloc HB6.out.size _⟩
theorem rpaths_any (g : Nat) (S : St) (A : Option Addr) (c : Nat) (P : List NV) (cwd : ByteArray) (A2 : Option Addr) (c2 : Nat) (L : List Pt) (w : World) (hf : FsOk S) (h : RSO g S A c P w) (hm : MX w) (hcw : cwd.size ≤ 1000) (hA : RG encPt 6 w A2 L) (hl : L.length ≤ 1000) (hz : ∀ p ∈ L, p.text.size ≤ 1000) (hz2 : (textS L).length ≤ 1000000) (hp : (bsF (patS L)).size ≤ 200) :
   Calls Tryz.prog 27 #[.pointer (some ⟨g, 0, none⟩), .string cwd, .slice A2 L.length c2] w fun e w' => (∃ A' c', e = .returned (.slice A' (pathsF S cwd (bsF (patS L)) (bsF (textS L))).length c') ∧ SR w' A' (pathsF S cwd (bsF (patS L)) (bsF (textS L)))) ∧ Below w.heap.size w w' := by
 unfold pathsF
 cases hpl : plT (bsF (patS L)) with
 | some s => exact rpaths_plain g cwd A2 c2 L w hA hl hz hp s hpl
 | none =>
   cases hs0 : startB cwd (bsF (patS L)) with
   | none => exact rpaths_none g cwd A2 c2 L w hcw hA hl hz hz2 hp hpl hs0
   | some s0 =>
     refine (rpaths_some g S A c P cwd A2 c2 L w hf h hm hcw hA hl hz hz2 hp hpl s0 hs0).mono ?_
     rintro e w' ⟨⟨v, rfl, ho⟩, hb⟩
     obtain ⟨A', c', rfl, _, hs, _⟩ := ho.slice
     exact ⟨⟨_, _, rfl, hs⟩, hb⟩
end
end Go.Proofs.YtmcophlmcloooaaGreatDoor
