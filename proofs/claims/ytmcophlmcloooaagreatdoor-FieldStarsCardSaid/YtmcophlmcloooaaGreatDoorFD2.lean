/- Walks and plain facts that the claim uses. -/
import Derived.Test.YtmcophlmcloooaaGreatDoorFD1
import Derived.Lib.SlBytesConst
import Derived.Sort.OwnSorted
import Derived.Maps.RangeWalk
import Derived.StringKeys
import Derived.StillTailTactics
import Derived.Deep.RegionHeld3
import Derived.Deep.CutRange
import Derived.Deep.LoopGhost
import Derived.Deep.CutBlock
import Derived.Deep.SlicePairs
import Derived.OpenShut
import Derived.ProofKit
import Derived.SliceStrings
import Derived.Test.YtmcophlmcloooaaGreatDoorProg
import Derived.Lib.SlicesS
import Derived.SizedLaws
set_option maxRecDepth 100000
set_option maxHeartbeats 16000000
set_option linter.unusedSimpArgs false
set_option linter.unusedVariables false
namespace Go.Proofs.YtmcophlmcloooaaGreatDoor
section
open Go.RowKit Go.Deep Go.Maps Ln Pth Vf
def T0 (b : Nat) (k : Nat) : Prop := b ≤ k ∧ k < b + 2
def TA (b : Nat) (w0 : World) (S : St) (wr : World) : Prop := ∃ N, VS (b + 1) S (T0 b) N wr ∧ OkTN (T0 b) N wr ∧ Below w0.heap.size w0 wr
theorem TA.writeL {b : Nat} {w0 wr : World} {S : St} (h : TA b w0 S wr) (h0 : w0.heap.size ≤ b) (hm : MX w0) (hS : WfS S) (hby : S.bytes ≤ 400000) (hck : S.clock ≤ 1000000000) (p : T) (hp : PB p) (d : T) (hd : d.length ≤ 400000) (more : Bool) (A : Option Addr) (c : Nat) (hA : RG encB 1 wr A d) :
   Calls Tryz.prog 10 #[.pointer (some ⟨b + 1, 0, none⟩), .string (bs p), .slice A d.length c, .bool more] wr fun e w' => e = .returned (.int .i64 (writeS S p d more).2) ∧ TA b w0 (writeS S p d more).1 w' ∧ Kp wr w' (T0 b) := by
 obtain ⟨N, hv, ok, hb⟩ := h
 refine (writeL_any (b + 1) S p d more A c (T0 b) N wr hv ok hS (hm.below hb) hp hby hd hck hA).mono ?_
 rintro e w' ⟨rfl, N', hv', hg, hk⟩
 exact ⟨rfl, ⟨N', hv', hg.2.2.2, hk.below hb (Nat.le_refl _) (fun k h => by unfold T0 at h; omega)⟩, hk⟩
theorem TA.new {w0 w1 w2 : World} (h0 : Below w0.heap.size w0 w1) (n m : Int) (hb : Below w1.heap.size w1 w2) (hv : VS (w1.heap.size + 1) (newS n m) (fun k => w1.heap.size ≤ k ∧ k < w2.heap.size) (fun _ => False) w2) (hs : w2.heap.size = w1.heap.size + 2) : TA w1.heap.size w0 (newS n m) w2 := by
 rw [show (fun k => w1.heap.size ≤ k ∧ k < w2.heap.size) = T0 w1.heap.size by funext k; unfold T0; rw [hs]] at hv
 exact ⟨_, hv, ⟨fun k hk => ⟨by unfold T0 at hk; omega, fun h => h⟩, fun k h => h.elim⟩, below_up h0 hb h0.size⟩
theorem TA.hs {b : Nat} {w0 wr : World} {S : St} (h : TA b w0 S wr) : Hs (VS (b + 1) S) wr := by
 obtain ⟨N, hv, ok, _⟩ := h
 exact ⟨_, N, hv, ok⟩
theorem TA.below {b : Nat} {w0 wr : World} {S : St} (h : TA b w0 S wr) : Below w0.heap.size w0 wr := by
 obtain ⟨N, hv, ok, hb⟩ := h
 exact hb
end
section
open Go.RowKit Go.Deep Go.Maps Ln Pth Vf
attribute [local go_sem] bt_eq
theorem convYY (w : World) (C : Array Value) (n c : Nat) : (convert 29 29 (.slice (some ⟨w.heap.size, 0, none⟩) n c)).run Tryz.prog (w.alloc (.cells C 5)) = .ok (.slice (some ⟨w.heap.size, 0, none⟩) n c) (w.alloc (.cells C 5 (C.size, C.size + 1))) := Lib.run_convert_bytes_const w 29 5 C n c Tryz.underlying29 Tryz.underlying5
attribute [local go_sem] convYY
end
end Go.Proofs.YtmcophlmcloooaaGreatDoor

namespace Go.Proofs.YtmcophlmcloooaaGreatDoor
section
open Go.RowKit Go.Deep Go.Sort
theorem strVals_enc (F : List ByteArray) : strVals F = (F.map fun s => s.data.toList).map encStr := by
 unfold strVals
 rw [List.map_map]
 apply List.map_congr_left
 intro s _
 rfl
theorem enc_strVals (L : List (List UInt8)) : strVals (L.map fun l => (⟨l.toArray⟩ : ByteArray)) = L.map encStr := by
 unfold strVals
 rw [List.map_map]
 rfl
theorem sortOwn_any {w : World} {base : Nat} {v : Value} {F : List ByteArray} (h : OwnS w base v F) (hl : F.length ≤ 100000) :
   Calls Tryz.prog 159 #[v] w fun e w' => e = .returned (.tuple #[]) ∧ OwnS w' base v (((F.map fun s => s.data.toList).mergeSort fun x y => decide (x ≤ y)).map fun l => (⟨l.toArray⟩ : ByteArray)) ∧ w.grownBy w' v.ownBlock := by
 rcases h.2 with ⟨rfl, hn⟩ | ⟨g, cap, cur, rfl, hbg, hh, hc, hm, hs, ht⟩
 · have hF : F = [] := List.eq_nil_of_length_eq_zero hn
   subst hF
   exact (Tryz.slices_Sort_string_none none 0 w).mono fun e w' ⟨h1, h2⟩ => ⟨h1, by rw [h2]; simpa using OwnS.nil w base, by rw [h2]; exact World.grownBy.refl _ _⟩
 · have hlen : (F.map fun s => s.data.toList).length = F.length := by simp
   rw [Nat.mul_one] at ht
   have hH : Holds encStr w g 0 (F.map fun s => s.data.toList).toArray := holds_of_block hh (by rw [hlen, ht, strVals_enc])
   have := Tryz.slices_Sort_string g 0 cap (F.map fun s => s.data.toList) w hH (World.ownsRow.lt h g rfl).2 (by rw [hlen]; omega)
   rw [hlen] at this
   refine this.mono ?_
   rintro e w' ⟨rfl, n, os, rfl⟩
   refine ⟨rfl, ?_, grownBy_sorted _⟩
   have ho := ownsRow_sorted (n := n) (os := os) (ss := F.map fun s => s.data.toList) (ts := (F.map fun s => s.data.toList).mergeSort fun x y => decide (x ≤ y)) (by simp) hbg hh (by rw [hlen]; exact hc) hm hs
   unfold OwnS
   rw [enc_strVals]
   simpa using ho
end
section
open Go.RowKit Go.Deep Go.Maps Ln Pth Vf
attribute [local go_sem] bt_eq fld0 fld1 fld2 mkMap
theorem trim_slash (q : T) : (Lib.trimSuffix (bs q).data.toList [47]) ++ [47] = frontF q := by
 rw [bs_list]
 unfold Lib.trimSuffix Lib.hasSuffix frontF
 have h : ([47] : List UInt8).isSuffixOf q = decide (q.getLast? = some 47) := by
   rw [Bool.eq_iff_iff, List.isSuffixOf_iff_suffix, decide_eq_true_iff]
   constructor
   · rintro ⟨t, rfl⟩; simp
   · intro h
     obtain ⟨t, ht⟩ := List.getLast?_eq_some_iff.1 h
     exact ⟨t, ht.symm⟩
 rw [h]
 by_cases e : q.getLast? = some 47
 · simp only [e, decide_true, if_true]
   rw [List.dropLast_eq_take]; rfl
 · simp only [e, decide_false, if_false]; rfl
theorem front_any (q : T) (w : World) (hq : q.length ≤ 100000) : Calls Tryz.prog 94 #[.string (bs q), .string ⟨#[47]⟩] w fun e w' => ∃ s : ByteArray, e = .returned (.string s) ∧ w = w' ∧ s ++ (⟨#[47]⟩ : ByteArray) = bs (frontF q) ∧ s.size ≤ 100000 := by
 refine (Tryz.strings_TrimSuffix (bs q) ⟨#[47]⟩ w (by rw [bs_size]; omega)).mono ?_
 rintro e w' ⟨h1, h2⟩
 refine ⟨_, h1, h2.symm, ?_, ?_⟩
 · rw [← trim_slash]
   exact bs_app _ [47]
 · rw [show (⟨#[47]⟩ : ByteArray).data.toList = [47] from rfl, bs_list]
   show (bs _).size ≤ _
   rw [bs_size]
   unfold Lib.trimSuffix
   split
   · rw [List.length_take]; omega
   · omega
theorem pre_any (s : ByteArray) (fr : T) (w : World) : Calls Tryz.prog 47 #[.string s, .string (bs fr)] w fun e w' => e = .returned (.bool (preB fr s.data.toList)) ∧ w = w' := by
 refine (Tryz.strings_HasPrefix s (bs fr) w).mono ?_
 rintro e w' ⟨h1, h2⟩
 rw [bs_list] at h1
 exact ⟨h1, h2.symm⟩
abbrev NRng (w : World) (b r : Nat) (P : KV En) (left : Lit → Bool) (cnt : Nat) : Prop := w.ranges Tryz.prog 9 hR b r P.length (datG fN P) left cnt
theorem key_in {P : KV En} {x : ByteArray} {kl : Lit} {y : DataW Value × List MemPlace} (hkey : keyOf Tryz.prog 9 (.string x) = some kl) (hat : ∀ zd, (datG fN P).atKey kl zd = y.1) : kl = kLit x ∧ x ∈ P.map (·.1) := by
 have hk : kl = kLit x := by
   obtain ⟨s, h1, h2, h3⟩ := Go.WideMaps.string_of_keyOf Tryz.underlying9 hkey
   injection h1 with h1
   rw [h1]
   exact h2
 refine ⟨hk, ?_⟩
 subst hk
 cases hg : getG P x with
 | none =>
   have h1 := hat (.lit (.bool true))
   have h2 := hat (.lit (.bool false))
   rw [datG_at, hg] at h1 h2
   simp only at h1 h2
   rw [← h2] at h1
   injection h1 with h1
   injection h1 with h1
   cases h1
 | some e => exact List.mem_map.2 ⟨_, getG_mem hg, rfl⟩
def gone (left : Lit → Bool) (k : ByteArray) : Bool := !left (kLit k)
theorem gone_step (left : Lit → Bool) (x k : ByteArray) : gone (fun z => left z && !z.sameKey (kLit x)) k = (gone left k || decide (k = x)) := by
 unfold gone
 simp only [same_kLit]
 cases left (kLit k) <;> simp
def collB (P : KV En) (fr : T) (left : Lit → Bool) : List ByteArray := (P.map (·.1)).filter fun k => preB fr k.data.toList && gone left k
theorem coll_len (P : KV En) (fr : T) (left : Lit → Bool) : (collB P fr left).length ≤ P.length := by
 unfold collB
 refine Nat.le_trans (List.length_filter_le _ _) ?_
 rw [List.length_map]; exact Nat.le_refl _
theorem coll_start (P : KV En) (fr : T) : collB P fr (Maps.has (datG fN P)) = [] := by
 unfold collB
 rw [List.filter_eq_nil_iff]
 intro k hk
 obtain ⟨x, hx, rfl⟩ := List.mem_map.1 hk
 have : gone (Maps.has (datG fN P)) x.1 = false := by
   unfold gone
   rw [datG_has]
   have : (getG P x.1).isSome = true := by
     unfold getG
     rw [Option.isSome_map, List.find?_isSome]
     exact ⟨x, hx, by simp⟩
   rw [this]; rfl
 rw [this]
 simp
theorem coll_end (P : KV En) (q : T) {left : Lit → Bool} (h : ∀ kl, left kl = false) : (collB P (frontF q) left).map (fun s => s.data.toList) = belowM (stripN P) q := by
 rw [below_map]
 unfold collB stripN gone
 rw [List.map_map]
 congr 1
 apply List.filter_congr
 intro k _
 rw [h]
 simp
theorem below_anyR (g : Nat) (S : St) (hSr : RiseG S.m) (hSn : S.m.length ≤ 10000) (q : T) (w : World) (h : Hs (VS g S) w) (hq : q.length ≤ 90000) :
   Calls Tryz.prog 95 #[.pointer (some ⟨g, 0, none⟩), .string (bs q)] w fun e w' => (∃ v, e = .returned v ∧ OwnS w' w.heap.size v ((belowM S.m q).map bs)) ∧ Below w.heap.size w w' := by
 obtain ⟨b, P, hgb, hg, hm, hsm, _⟩ := VS.opn h
 have hc0 := cellOf hg (j := 0) rfl
 have hbl := hm.lt
 have hrise : RiseG P := strip_rise.1 (hsm ▸ hSr)
 have hnd := rise_nodup hrise
 have hpl : P.length ≤ 10000 := by rw [← strip_len, ← hsm]; exact hSn
 have HF := hide (front_any q w (by omega))
 have HM := hide hm
 have HSM := hide hsm
 have HND := hide hnd
 have HR := hide hrise
 have hfl : (frontF q).length ≤ 90001 := by
   unfold frontF
   rw [List.length_append]
   split
   · rw [List.length_dropLast]; simp; omega
   · simp; omega
 obtain ⟨fr, hfr⟩ : ∃ fr, frontF q = fr := ⟨_, rfl⟩
 rw [hfr] at HF hfl
 have HFR := hide hfr
 have zfr : (bs fr).size = fr.length := bs_size fr
 clear h hSr hSn hg hm hsm hgb hrise hnd hfr
 go_enter Tryz.func95, Tryz.ntmps95
 go_wp2_with fail
 refine HF.out.mono ?_
 rintro e w' ⟨s, rfl, rfl, hsf, hss⟩
 clear HF
 go_wp2_with (at_range; refine wpList_range_own _ rfl _ 66 rfl 9 77 nkeyed Tryz.underlying66 hR b P.length (datG fN P) rfl HM.out ?_; intro w0 hrg0 hg0 hs0)
 have hb0 : Below w.heap.size w w0 := ⟨hg0.os, hg0.tape, hg0.output, hg0.size, fun k hk => hg0.block k hk (by simp)⟩
 have HB0 := hide hb0
 have HG0 := hide hrg0
 have HCS := hide (coll_start P fr)
 clear hb0 hg0 hrg0
 obtain ⟨r, hr⟩ : ∃ r, w.heap.size = r := ⟨_, rfl⟩
 rw [hr] at HG0 hbl hs0 ⊢
 have HRR := hide hr
 clear hr
 go_frame
 go_loopw [6, 7] (fun v6 _ wr => ∃ (acc : List ByteArray) (left : Lit → Bool) (cnt : Nat), NRng wr b r P left cnt ∧ OwnS wr (r + 1) v6 acc ∧ Hid (acc.Perm (collB P fr left)) ∧ r + 1 ≤ wr.heap.size ∧ Below r w wr) (fun _ _ wr => wr.rangeLeft b r)
 case atStart => exact ⟨[], _, _, HG0.out, OwnS.nil _ _, by show List.Perm _ _; rw [HCS.out], by omega, by rw [← HRR.out]; exact HB0.out⟩
 case round =>
   obtain ⟨acc, left, cnt, hrg, ho, HP, hsz, hbw⟩ := hrel
   have HRG := hide hrg
   have HO := hide ho
   have HBW := hide hbw
   clear hrg ho hbw
   go_wp2_with (at_next; refine wpList_next_ranges _ rfl _ rfl 9 nkeyed hR Value.string (fun v : Value => v) (fun key kl h => by obtain ⟨s, h1, _⟩ := Go.WideMaps.string_of_keyOf Tryz.underlying9 h; exact ⟨s, h1⟩) (fun v y _ => ⟨v, rfl⟩) b r P.length (datG fN P) left cnt rfl HRG.out ?_ ?_)
   · intro hc0 hl0
     have HL0 := hide hl0
     clear hl0 hc0
     have hal : acc.length ≤ 100000 := by
       have := HP.out.length_eq
       have := coll_len P fr left
       omega
     have HSO := hide (sortOwn_any HO.out hal)
     have HBQ := hide (show (((acc.map fun s => s.data.toList).mergeSort fun x y => decide (x ≤ y)).map fun l => (⟨l.toArray⟩ : ByteArray)) = (belowM S.m q).map bs by
       have h1 := HP.out.map (fun s : ByteArray => s.data.toList)
       rw [← HFR.out, coll_end P q HL0.out] at h1
       have hr' : RiseG (stripN P) := strip_rise.2 HR.out
       rw [sort_below hr' q h1, HSM.out]
       rfl)
     rw [HBQ.out] at HSO
     clear HRG HP hal
     go_wp2_with fail
     refine HSO.out.mono ?_
     rintro e w2 ⟨rfl, ho2, hg2⟩
     have HO2 := hide ho2
     have HB2 := hide (HBW.out.grown hg2 (by omega) (fun k hk => by have := (World.ownsRow.lt HO.out k hk).1; omega))
     clear ho2 hg2
     go_wp2
     go_ret
     exact ⟨⟨_, rfl, HO2.out.base (by have := HRR.out; omega)⟩, by have := HRR.out; rw [this]; exact HB2.out⟩
   · intro x c kl y1 y2 w1 cnt1 hkey hlk hv hat hrg1 hlt hgr1 hsz1 hen
     obtain ⟨rfl, hxin⟩ := key_in (y := (y1, y2)) hkey hat
     have hgs : gone left x = false := by unfold gone; rw [hlk]; rfl
     have HST := hide (filt_step HND.out hxin (p := fun k => preB fr k.data.toList) (q := gone left) (q' := gone (fun z => left z && !z.sameKey (kLit x))) (fun k => gone_step left x k) hgs)
     have HR1 := hide hrg1
     have HO1 := hide (HO.out.kept hgr1 (.inr (fun e => by have := (World.ownsRow.lt HO.out r e).1; omega)))
     have hb1 : Below r w w1 := HBW.out.grown hgr1 (by omega) (fun k hk => by injection hk with hk; omega)
     have HB1 := hide hb1
     have HCN := hide (show wr.rangeLeft b r = cnt from HRG.out.left_eq)
     have hxl : acc.length ≤ 10000 := by
       have := HP.out.length_eq
       have := coll_len P fr left
       omega
     have hs1a : r + 1 ≤ w1.heap.size := by omega
     clear hkey hlk hv hat hrg1 hgr1 hb1 hxin hgs hsz1
     obtain ⟨pb, hpb⟩ : ∃ b, preB fr x.data.toList = b := ⟨_, rfl⟩
     have HPA := hide (pre_any x fr w1)
     rw [hpb] at HPA
     have HPB := hide hpb
     clear hpb
     go_wp2_with fail
     refine HPA.out.mono ?_
     rintro e w' ⟨rfl, rfl⟩
     cases pb with
     | false =>
       have HE := hide (show acc.Perm (collB P fr (fun z => left z && !z.sameKey (kLit x))) from by
         have h1 := HST.out
         simp only [HPB.out, Bool.false_eq_true, if_false, List.append_nil] at h1
         exact HP.out.trans h1.symm)
       go_wp2
       go_roundw
       case rel => exact ⟨acc, _, cnt1, HR1.out, HO1.out, HE.out, by omega, HB1.out⟩
       case measure => rw [HR1.out.left_eq, HCN.out]; exact hlt
     | true =>
       have HE := hide (show (acc ++ [x]).Perm (collB P fr (fun z => left z && !z.sameKey (kLit x))) from by
         have h1 := HST.out
         simp only [HPB.out, if_true] at h1
         exact (HP.out.append (List.Perm.refl [x])).trans h1.symm)
       obtain ⟨v4, w4, r4, o4, g4, b4⟩ := run_appS (c := 1) (OwnS.alloc HO1.out (.cells #[.string x] 9)) (sr_new w1 x) (by simp; omega) (by simp; omega)
       have HO4 := hide o4
       have HR4 := hide ((HR1.out.alloc (.cells #[.string x] 9)).kept g4 (fun e => by have := (World.ownsRow.lt HO.out b e.symm).1; omega) (fun e => by have := (World.ownsRow.lt HO.out r e.symm).1; omega))
       have HB4 := hide ((HB1.out.alloc (by omega) (.cells #[.string x] 9)).grown g4 (by simp; omega) (fun k hk => by have := (World.ownsRow.lt HO.out k hk).1; omega))
       have hz4 : r + 1 ≤ w4.heap.size := by have := g4.size; simp at this; omega
       clear o4 g4 b4
       go_wp2_with (at_builtin; refine wpList_app_run ?_ (.tmp 23) (.tmp 25) ?_ ?_ ?_ ?_ r4 ?_; exact rfl; exact rfl; exact rfl; exact rfl; exact rfl)
       go_roundw
       case rel => exact ⟨acc ++ [x], _, cnt1, HR4.out, HO4.out, HE.out, hz4, HB4.out⟩
       case measure => rw [HR4.out.left_eq, HCN.out]; exact hlt
theorem below_any (g : Nat) (S : St) (hS : WfS S) (q : T) (w : World) (h : Hs (VS g S) w) (hq : q.length ≤ 90000) :
   Calls Tryz.prog 95 #[.pointer (some ⟨g, 0, none⟩), .string (bs q)] w fun e w' => (∃ v, e = .returned v ∧ OwnS w' w.heap.size v ((belowM S.m q).map bs)) ∧ Below w.heap.size w w' :=
 below_anyR g S hS.rise (by have := hS.nodes; have := hS.n10; omega) q w h hq
theorem names_take {fr : T} {L : List T} {k : Nat} {x : T} (h : L[k]? = some x) : (((L.take (k + 1)).map (List.drop fr.length)).filter fun s => decide (47 ∉ s)) = (((L.take k).map (List.drop fr.length)).filter fun s => decide (47 ∉ s)) ++ if 47 ∈ x.drop fr.length then [] else [x.drop fr.length] := by
 rw [List.take_add_one, h, List.map_append, List.filter_append]
 congr 1
 simp only [Option.toList_some, List.map_cons, List.map_nil, List.filter_cons, List.filter_nil]
 by_cases e : 47 ∈ x.drop fr.length
 · simp [e]
 · simp [e]
theorem has47_any (l : T) (w : World) : Calls Tryz.prog 96 #[.string (bs l), .string ⟨#[47]⟩] w fun e w' => e = .returned (.bool (decide (47 ∈ l))) ∧ w = w' := by
 have := Tryz.strings_Contains_one (bs l) 47 w
 rw [bs_list, show decide (0 ≤ Lib.indexByte l 47) = decide ((47 : UInt8) ∈ l) from decide_eq_decide.2 (ixb_mem 47 l)] at this
 exact this.mono fun e w' ⟨h1, h2⟩ => ⟨h1, h2.symm⟩
theorem names_any (g : Nat) (S : St) (hS : WfS S) (q : T) (w : World) (h : Hs (VS g S) w) (hq : q.length ≤ 90000) :
   Calls Tryz.prog 44 #[.pointer (some ⟨g, 0, none⟩), .string (bs q)] w fun e w' => (∃ v, e = .returned v ∧ OwnS w' w.heap.size v ((namesM S.m q).map bs)) ∧ Below w.heap.size w w' := by
 have HF := hide (front_any q w (by omega))
 have HBL := hide (below_any g S hS q w h hq)
 have hpl : S.m.length ≤ 10000 := by have := hS.nodes; have := hS.n10; omega
 have hbl : (belowM S.m q).length ≤ 10000 := by
   unfold belowM
   refine Nat.le_trans (List.length_filter_le _ _) ?_
   rw [List.length_map]; exact hpl
 have hmem : ∀ x ∈ belowM S.m q, (frontF q).length ≤ x.length ∧ x.length ≤ 200 := by
   intro x hx
   obtain ⟨r, n, rfl, hm⟩ := mem_below.1 hx
   refine ⟨by simp, ?_⟩
   obtain ⟨l, hl, _, e⟩ := hS.good _ hm
   have := hl.len
   rw [← bs_inj e] at this
   exact this
 have hR : namesM S.m q = ((belowM S.m q).map (List.drop (frontF q).length)).filter fun s => decide (47 ∉ s) := rfl
 obtain ⟨L, hL⟩ : ∃ L, belowM S.m q = L := ⟨_, rfl⟩
 obtain ⟨fr, hfr⟩ : ∃ fr, frontF q = fr := ⟨_, rfl⟩
 rw [hL] at HBL hbl hmem hR
 rw [hfr] at HF hmem hR
 have HMEM := hide hmem
 have HR := hide hR
 have zfr : (bs fr).size = fr.length := bs_size fr
 have hfl : fr.length ≤ 90001 := by
   rw [← hfr]
   unfold frontF
   rw [List.length_append]
   split
   · rw [List.length_dropLast]; simp; omega
   · simp; omega
 clear h hS hmem hR hL hfr hpl
 obtain ⟨n, hn⟩ : ∃ n, L.length = n := ⟨_, rfl⟩
 have HN := hide hn
 rw [hn] at hbl
 clear hn
 have hn1 : (n : Int) ≤ 10000 := by omega
 obtain ⟨fl, hfl'⟩ : ∃ k, fr.length = k := ⟨_, rfl⟩
 have HFL := hide hfl'
 rw [hfl'] at zfr hfl
 clear hfl'
 go_enter Tryz.func44, Tryz.ntmps44
 go_wp2_with fail
 refine HF.out.mono ?_
 rintro e w' ⟨s, rfl, rfl, hsf, hss⟩
 clear HF
 go_wp2_with fail
 refine HBL.out.mono ?_
 rintro e w1 ⟨⟨v, rfl, ho⟩, hb⟩
 obtain ⟨A, c, rfl, hc, hsr, _⟩ := ho.slice
 rw [List.length_map, HN.out] at hc ⊢
 have HSR := hide hsr
 have HB1 := hide hb
 clear ho hb hsr
 have hw1 : w.heap.size ≤ w1.heap.size := HB1.out.size
 go_wp2
 go_loopw [6, 8, 9, 17] (fun v6 _ _ v17 wr => ∃ k : Nat, v17 = .int .i64 k ∧ k ≤ n ∧ OwnS wr w1.heap.size v6 ((((L.take k).map (List.drop fr.length)).filter fun s => decide (47 ∉ s)).map bs) ∧ Below w1.heap.size w1 wr) (fun _ _ _ v17 _ => n - (intOf v17).toNat)
 case atStart => exact ⟨0, rfl, by omega, OwnS.nil _ _, Below.refl _ _⟩
 case round =>
   obtain ⟨k, rfl, hk, ho, hb1⟩ := hrel
   have HO := hide ho
   have HB := hide (below_up HB1.out hb1 hw1)
   have HBW := hide hb1
   have HAR := hide (HSR.out.below hb1)
   clear ho hb1
   by_cases hlt : k < n
   · obtain ⟨x, hx⟩ : ∃ x, L[k]? = some x := ⟨L[k]'(by have := HN.out; omega), gE _⟩
     obtain ⟨gs, o, rfl, hg, hc⟩ := HAR.out k (bs x) (by rw [List.getElem?_map, hx]; rfl)
     obtain ⟨hx1, hx2⟩ := HMEM.out x (List.mem_of_getElem? hx)
     rw [HFL.out] at hx1
     have HTK := hide (names_take (fr := fr) hx)
     have zx : (bs x).size = x.length := bs_size x
     obtain ⟨xl, hxl⟩ : ∃ k, x.length = k := ⟨_, rfl⟩
     rw [hxl] at zx hx1 hx2
     have HXL := hide hxl
     have HEX := hide (show (bs x).extract fl (bs x).size = bs (x.drop fr.length) by rw [ext_bs, bs_size, HFL.out, List.take_of_length_le (by rw [List.length_drop]; omega)])
     have HH := hide (has47_any (x.drop fr.length) wr)
     have b1 : (k : Int) < (n : Int) := by omega
     have hql : ((((L.take k).map (List.drop fr.length)).filter fun s => decide (47 ∉ s)).map bs).length ≤ 10000 := by
       rw [List.length_map]
       refine Nat.le_trans (List.length_filter_le _ _) ?_
       rw [List.length_map, List.length_take]
       omega
     have hwr : w1.heap.size ≤ wr.heap.size := HBW.out.size
     clear hx hxl
     rw [zx] at HEX
     rw [← HEX.out] at HH
     obtain ⟨cb, hcb⟩ : ∃ b, decide ((47 : UInt8) ∈ x.drop fr.length) = b := ⟨_, rfl⟩
     rw [hcb] at HH
     have HCB := hide hcb
     clear hcb
     go_wp2_with fail
     refine HH.out.mono ?_
     rintro e w' ⟨rfl, rfl⟩
     cases cb with
     | true =>
       have HE := hide (show (((L.take (k + 1)).map (List.drop fr.length)).filter fun s => decide (47 ∉ s)) = (((L.take k).map (List.drop fr.length)).filter fun s => decide (47 ∉ s)) by rw [HTK.out, if_pos (of_decide_eq_true HCB.out), List.append_nil])
       go_wp2
       go_roundw
       case rel => exact ⟨k + 1, by go_num, by omega, by rw [HE.out]; exact HO.out, HBW.out⟩
       case measure => simp [intOf]; omega
     | false =>
       have HE := hide (show (((L.take (k + 1)).map (List.drop fr.length)).filter fun s => decide (47 ∉ s)) = (((L.take k).map (List.drop fr.length)).filter fun s => decide (47 ∉ s)) ++ [x.drop fr.length] by rw [HTK.out, if_neg (of_decide_eq_false HCB.out)])
       obtain ⟨y, hy⟩ : ∃ y, (bs x).extract fl xl = y := ⟨_, rfl⟩
       have HY := hide hy
       obtain ⟨v4, w4, r4, o4, g4, b4⟩ := run_appS (c := 1) (OwnS.alloc HO.out (.cells #[.string y] 9)) (sr_new wr y) (by simp; omega) (by simp only [List.length_cons, List.length_nil]; omega)
       have HO4 := hide o4
       have HB4 := hide ((HBW.out.alloc hwr (.cells #[.string y] 9)).grown g4 (by simp; omega) (fun q hq => (World.ownsRow.lt HO.out q hq).1))
       have HYB := hide (show y = bs (x.drop fr.length) by rw [← hy]; exact HEX.out)
       clear o4 g4 b4
       go_wp2_with (at_builtin; refine wpList_app_run ?_ (.tmp 28) (.tmp 30) ?_ ?_ ?_ ?_ r4 ?_; exact rfl; exact rfl; exact rfl; exact rfl; exact rfl)
       go_roundw
       case rel => exact ⟨k + 1, by go_num, by omega, by rw [HE.out, List.map_append]; have := HO4.out; rw [HYB.out] at this; exact this, HB4.out⟩
       case measure => simp [intOf]; omega
   · obtain rfl : k = n := by omega
     have HF := hide (show (((L.take k).map (List.drop fr.length)).filter fun s => decide (47 ∉ s)) = namesM S.m q by rw [List.take_of_length_le (by have := HN.out; omega), HR.out])
     rw [HF.out] at HO
     go_wp2
     go_ret
     exact ⟨⟨_, rfl, HO.out.base hw1⟩, HB.out⟩
end
section
open Go.RowKit Go.Deep Go.Maps Ln Pth Vf
attribute [local go_sem] bt_eq fld0 fld1 fld2 mkMap
def ListPost (r : List T × Nat) (w : World) (e : Ending) (w' : World) : Prop := (∃ v, e = .returned (.tuple #[v, .int .i64 r.2]) ∧ OwnS w' w.heap.size v (r.1.map bs)) ∧ Below w.heap.size w w'
theorem list_any (g : Nat) (S : St) (hS : WfS S) (p : T) (w : World) (h : Hs (VS g S) w) (hm : MX w) (hp : p.length ≤ 50000) :
   Calls Tryz.prog 19 #[.pointer (some ⟨g, 0, none⟩), .string (bs p)] w (ListPost (listS S p) w) := by
 have HA := hide (vfound_any g S p w h hm hp)
 have hl : (foundS S p).1.length ≤ 200 := absS_len S p
 have HK := hide (fun W (hb : Below w.heap.size w W) => kind_any g S (foundS S p).1 W (h.below (VS.fr g S) hb) (by omega))
 have HNM := hide (fun W (hb : Below w.heap.size w W) => names_any g S hS (foundS S p).1 W (h.below (VS.fr g S) hb) (by omega))
 have hR : listS S p = if (foundS S p).2 ≠ 0 then ([], (foundS S p).2) else if kindM S.m (foundS S p).1 = 1 then ([], 11) else (namesM S.m (foundS S p).1, 0) := rfl
 unfold AbsPost at HA
 obtain ⟨q, hq⟩ : ∃ q, (foundS S p).1 = q := ⟨_, rfl⟩
 obtain ⟨e, he⟩ : ∃ q, (foundS S p).2 = q := ⟨_, rfl⟩
 rw [hq] at HA HK HNM hR hl
 rw [he] at HA hR
 obtain ⟨y, hy⟩ : ∃ y, kindM S.m q = y := ⟨_, rfl⟩
 rw [hy] at HK hR
 have HR := hide hR
 clear hR hq he hy h hm
 by_cases c1 : e = 0
 case neg =>
   obtain ⟨t1, t2⟩ := ne0 c1
   have HE := hide (HR.out.trans (if_pos c1))
   clear c1
   go_enter Tryz.func19, Tryz.ntmps19
   go_wp2_with fail
   refine HA.out.mono ?_
   rintro e w1 ⟨rfl, hb⟩
   have HB := hide hb
   clear hb
   go_wp2
   go_ret2
   unfold ListPost
   rw [HE.out]
   exact ⟨⟨_, rfl, OwnS.nil _ _⟩, HB.out⟩
 subst c1
 have hRQ := HR.out.trans (if_neg (by simp))
 by_cases c2 : y = 1
 · subst c2
   have HE := hide (hRQ.trans (if_pos rfl))
   clear hRQ
   go_enter Tryz.func19, Tryz.ntmps19
   go_wp2_with fail
   refine HA.out.mono ?_
   rintro e w1 ⟨rfl, hb⟩
   have HB := hide hb
   clear hb
   go_wp2_with fail
   refine (HK.out w1 HB.out).mono ?_
   rintro e w2 ⟨rfl, hb⟩
   have HB2 := hide (below_up HB.out hb HB.out.size)
   clear hb
   go_wp2
   go_ret2
   unfold ListPost
   rw [HE.out]
   exact ⟨⟨_, rfl, OwnS.nil _ _⟩, HB2.out⟩
 · have c2' : ((y : Int) == 1) = false := by simp; omega
   have HE := hide (hRQ.trans (if_neg c2))
   clear hRQ c2
   go_enter Tryz.func19, Tryz.ntmps19
   go_wp2_with fail
   refine HA.out.mono ?_
   rintro e w1 ⟨rfl, hb⟩
   have HB := hide hb
   clear hb
   go_wp2_with fail
   refine (HK.out w1 HB.out).mono ?_
   rintro e w2 ⟨rfl, hb⟩
   have HB2 := hide (below_up HB.out hb HB.out.size)
   clear hb
   go_wp2_with fail
   refine (HNM.out w2 HB2.out).mono ?_
   rintro e w3 ⟨⟨v, rfl, ho⟩, hb⟩
   have HB3 := hide (below_up HB2.out hb HB2.out.size)
   have HO := hide (ho.base HB2.out.size)
   clear hb ho
   go_wp2
   go_ret2
   unfold ListPost
   rw [HE.out]
   exact ⟨⟨_, rfl, HO.out⟩, HB3.out⟩
end
section
open Go.RowKit Go.Deep Go.Maps Ln Pth Vf Qm.Glob
attribute [local go_sem] bt_eq
def plT (p : ByteArray) : Option ByteArray := if plAll (gItems (bt p) p.size) then some (sb (plBytes (gItems (bt p) p.size))) else none
theorem plVal_plT (p : ByteArray) : plVal (plAll (gItems (bt p) p.size)) (plBytes (gItems (bt p) p.size)) = .tuple #[.string ((plT p).getD ⟨#[]⟩), .bool (plT p).isSome] := by
 unfold plVal plT
 split <;> rfl
def dotsB (p : ByteArray) : Bool := match plT p with
 | some q => decide (q = ⟨#[46]⟩) || decide (q = ⟨#[46, 46]⟩)
 | none => false
def fnamesB (fs : St) (a p : ByteArray) : List ByteArray := if dotsB p then [(plT p).getD ⟨#[]⟩] else namesOf p ((listS fs a.data.toList).1.map bs)
def goSp (s : Spt) (n : ByteArray) : Spt := (if s.1 = ⟨#[]⟩ then n else bs (Lib.trimSuffix s.1.data.toList [47]) ++ ⟨#[47]⟩ ++ n, bs (absF s.2.data.toList n.data.toList).1)
def stepB (fs : St) (l : List Spt) (p : ByteArray) : List Spt := l.flatMap fun s => (fnamesB fs s.2 p).map (goSp s)
def sortSp (L : List Spt) : List Spt := L.foldl (fun acc x => putG x acc) []
def firstB (L : List Spt) : List Spt := (sortSp L).take 500
def keepB (fs : St) (p : ByteArray) (s : Spt) : Bool := decide (kindS fs s.2.data.toList ≠ 2) && !dotsB p
theorem toList_eq (a b : ByteArray) : (a.toList == b.toList) = decide (a = b) := by
 rw [ByteArray.toList_eq, ByteArray.toList_eq]
 by_cases h : a = b
 · subst h; simp
 · rw [decide_eq_false h, beq_eq_false_iff_ne]
   intro e
   exact h (ByteArray.ext (Array.toList_inj.1 e))
theorem dots_any (p : ByteArray) (w : World) (hp : p.size ≤ 1000) : Calls Tryz.prog 57 #[.string p] w fun e w' => e = .returned (.bool (dotsB p)) ∧ Below w.heap.size w w' := by
 have HPL := hide (gplain_any p w hp)
 rw [plVal_plT] at HPL
 unfold dotsB
 cases hq : plT p with
 | none =>
   rw [hq] at HPL
   clear hq
   go_enter Tryz.func57, Tryz.ntmps57
   go_wp2_with fail
   refine HPL.out.mono ?_
   rintro e w1 ⟨rfl, hb1⟩
   go_wp2
   go_ret
   exact ⟨rfl, hb1⟩
 | some q =>
   rw [hq] at HPL
   have HPL := hide (show Calls Tryz.prog _ _ _ (fun e w' => e = .returned (.tuple #[.string q, .bool true]) ∧ Below w.heap.size w w') from HPL.out)
   dsimp only
   have e1 : decide (q = ⟨#[46]⟩) = (q.toList == [46]) := by
     rw [← toList_eq, ByteArray.toList_eq ⟨#[46]⟩]
   have e2 : decide (q = ⟨#[46, 46]⟩) = (q.toList == [46, 46]) := by
     rw [← toList_eq, ByteArray.toList_eq ⟨#[46, 46]⟩]
   rw [e1, e2]
   clear hq e1 e2
   by_cases h1 : q.toList = [46]
   · go_enter Tryz.func57, Tryz.ntmps57
     go_wp2_with fail
     refine HPL.out.mono ?_
     rintro e w1 ⟨rfl, hb1⟩
     go_wp2
     go_ret
     exact ⟨by simp [h1], hb1⟩
   · by_cases h2 : q.toList = [46, 46]
     · go_enter Tryz.func57, Tryz.ntmps57
       go_wp2_with fail
       refine HPL.out.mono ?_
       rintro e w1 ⟨rfl, hb1⟩
       go_wp2
       go_ret
       exact ⟨by simp [h1, h2], hb1⟩
     · go_enter Tryz.func57, Tryz.ntmps57
       go_wp2_with fail
       refine HPL.out.mono ?_
       rintro e w1 ⟨rfl, hb1⟩
       go_wp2
       go_ret
       exact ⟨by simp [h1, h2], hb1⟩
theorem dots_some {p : ByteArray} (h : dotsB p = true) : ∃ q, plT p = some q ∧ (q = ⟨#[46]⟩ ∨ q = ⟨#[46, 46]⟩) := by
 unfold dotsB at h
 split at h
 · rename_i q hq
   exact ⟨q, hq, by simpa using h⟩
 · cases h
theorem fnames_any (gf : Nat) (fs : St) (a p : ByteArray) (w : World) (hS : WfS fs) (hv : Hs (VS gf fs) w) (hm : MX w) (hp : p.size ≤ 1000) (ha : a.size ≤ 50000)
   (hn1 : (listS fs a.data.toList).1.length ≤ 1000) (hn2 : ∀ n ∈ (listS fs a.data.toList).1, n.length ≤ 1000) :
   Calls Tryz.prog 106 #[.pointer (some ⟨gf, 0, none⟩), .string a, .string p] w fun e w' => (∃ A c, e = .returned (.slice A (fnamesB fs a p).length c) ∧ SR w' A (fnamesB fs a p) ∧ ∀ a, A = some a → w.heap.size ≤ a.block) ∧ Below w.heap.size w w' := by
 have HD := hide (dots_any p w hp)
 unfold fnamesB
 cases hd : dotsB p with
 | true =>
   obtain ⟨q, hq, _⟩ := dots_some hd
   rw [hd] at HD
   have HPL := hide (fun W => gplain_any p W hp)
   rw [plVal_plT, hq] at HPL
   rw [hq]
   have HPL := hide (show ∀ W, Calls Tryz.prog 46 #[.string p] W (fun e w' => e = .returned (.tuple #[.string q, .bool true]) ∧ Below W.heap.size W w') from HPL.out)
   clear hd hq hv hm
   go_enter Tryz.func106, Tryz.ntmps106
   go_wp2_with fail
   refine HD.out.mono ?_
   rintro e w1 ⟨rfl, hb1⟩
   go_wp2_with fail
   refine (HPL.out _).mono ?_
   rintro e w2 ⟨rfl, hb2⟩
   have HB := hide (hb1.trans (hb2.mono hb1.size))
   clear hb1 hb2
   go_wp2
   go_ret
   exact ⟨⟨some ⟨w2.heap.size, 0, none⟩, ⟨1, rfl⟩, sr_new1 _ _ _, fun a e => by injection e with e; rw [← e]; exact HB.out.size⟩, HB.out.alloc HB.out.size _⟩
 | false =>
   rw [hd] at HD
   have HL := hide (fun W (hb : Below w.heap.size w W) => list_any gf fs hS a.data.toList W (hv.below (VS.fr _ _) hb) (hm.below hb) (by rw [data_len]; exact ha))
   rw [bs_of] at HL
   have HN1 := hide hn1
   have HN2 := hide hn2
   obtain ⟨⟨L, ec⟩, hL⟩ : ∃ z, listS fs a.data.toList = z := ⟨_, rfl⟩
   rw [hL] at HL HN1 HN2
   simp only [Bool.false_eq_true, if_false]
   rw [hL]
   unfold ListPost at HL
   dsimp only at HL HN1 HN2 ⊢
   obtain ⟨NL, hNL⟩ : ∃ z, namesOf p (L.map bs) = z := ⟨_, rfl⟩
   obtain ⟨nl, hnl⟩ : ∃ z, NL.length = z := ⟨_, rfl⟩
   rw [hNL, hnl]
   clear hd hv hm hn1 hn2 hL
   go_enter Tryz.func106, Tryz.ntmps106
   go_wp2_with fail
   refine HD.out.mono ?_
   rintro e w1 ⟨rfl, hb1⟩
   have HB1 := hide hb1
   clear hb1
   go_wp2_with fail
   refine (HL.out _ HB1.out).mono ?_
   rintro e w2 ⟨⟨v, rfl, hov⟩, hb2⟩
   have HB2 := hide (HB1.out.trans (hb2.mono HB1.out.size))
   obtain ⟨A, c, rfl, _, hsr, _⟩ := hov.slice
   have HNM := hide (gnames_any p A c (L.map bs) w2 hp (fun k s hs => by
     obtain ⟨n, hn, rfl⟩ := List.mem_map.1 (List.mem_of_getElem? hs)
     rw [bs_size]; exact HN2.out n hn) (by rw [List.length_map]; exact HN1.out) hsr)
   rw [hNL] at HNM
   rw [hnl] at HNM
   obtain ⟨ml, hml⟩ : ∃ z, (L.map bs).length = z := ⟨_, rfl⟩
   rw [hml] at HNM ⊢
   clear hb2 hov hsr hml
   go_wp2_with fail
   refine HNM.out.mono ?_
   rintro e w3 ⟨⟨A', c', rfl, hs3, _, ha3⟩, hb3⟩
   have HB3 := hide (HB2.out.trans (hb3.mono HB2.out.size))
   have HS3 := hide hs3
   have HA3 := hide (fun a e => Nat.le_trans HB2.out.size (ha3 a e))
   clear hb3 hs3 ha3
   go_wp2
   go_ret
   exact ⟨⟨A', c', rfl, HS3.out, HA3.out⟩, HB3.out⟩
end
section
open Go.RowKit Go.Deep
theorem SR.ofK {w w' : World} {A : Option Addr} {L : List ByteArray} (h : SR w A L) (hs : w.heap.size ≤ w'.heap.size) (hb : ∀ a, A = some a → L ≠ [] → a.block < w.heap.size → w'.heap[a.block]? = w.heap[a.block]?) : SR w' A L := fun k s hk => by
 obtain ⟨g, o, e, hg, h1⟩ := h k s hk
 have hne : L ≠ [] := by rintro rfl; simp at hk
 have := hb _ e hne hg
 exact ⟨g, o, e, by omega, (World.cell?_of_block (a := ⟨g, o + k, none⟩) this).trans h1⟩
end
section
open Go.RowKit Go.Deep Go.Maps Ln Pth Vf Qm.Glob
attribute [local go_sem] bt_eq
structure FsOk (fs : St) : Prop where
 wf : WfS fs
 cnt : ∀ p, (listS fs p).1.length ≤ 200
 nam : ∀ p, ∀ n ∈ (listS fs p).1, n.length ≤ 200
theorem namesOf_le (p : ByteArray) (L : List ByteArray) : (namesOf p L).length ≤ L.length ∧ ∀ x ∈ namesOf p L, x ∈ L := by
 have key : ∀ (M acc : List ByteArray), (M.foldl (fun acc s => putS s acc) acc).length ≤ acc.length + M.length ∧ ∀ x ∈ M.foldl (fun acc s => putS s acc) acc, x ∈ acc ∨ x ∈ M := by
   intro M
   induction M with
   | nil => intro acc; exact ⟨Nat.le_refl _, fun x hx => .inl hx⟩
   | cons m M ih =>
     intro acc
     obtain ⟨h1, h2⟩ := ih (putS m acc)
     have h3 := putS_len m acc
     refine ⟨by rw [List.foldl_cons, List.length_cons]; omega, fun x hx => ?_⟩
     rcases h2 x hx with h | h
     · have : ∀ L : List ByteArray, x ∈ putS m L → x = m ∨ x ∈ L := by
         intro L
         induction L with
         | nil => intro h; simp [putS] at h; exact .inl h
         | cons y L ih =>
           intro h
           rw [putS] at h
           split at h
           · rcases List.mem_cons.1 h with h | h
             · exact .inr (by simp [h])
             · exact (ih h).imp_right (fun h => by simp [h])
           · split at h
             · exact .inr h
             · rcases List.mem_cons.1 h with h | h
               · exact .inl h
               · exact .inr h
       rcases this acc h with h | h
       · exact .inr (by simp [h])
       · exact .inl h
     · exact .inr (by simp [h])
 obtain ⟨h1, h2⟩ := key (L.filter (keepN p)) []
 refine ⟨Nat.le_trans h1 (by simpa using List.length_filter_le _ _), fun x hx => ?_⟩
 rcases h2 x hx with h | h
 · cases h
 · exact (List.mem_filter.1 h).1
theorem fnames_le {fs : St} (h : FsOk fs) (a p : ByteArray) : (fnamesB fs a p).length ≤ 200 ∧ ∀ n ∈ fnamesB fs a p, n.size ≤ 200 := by
 unfold fnamesB
 by_cases hd : dotsB p = true
 · rw [if_pos hd]
   obtain ⟨q, hq, hq2⟩ := dots_some hd
   rw [hq]
   refine ⟨by simp, fun n hn => ?_⟩
   have : n = q := by simpa using hn
   rw [this]
   rcases hq2 with rfl | rfl <;> decide
 · rw [if_neg hd]
   obtain ⟨h1, h2⟩ := namesOf_le p ((listS fs a.data.toList).1.map bs)
   have := h.cnt a.data.toList
   rw [List.length_map] at h1
   refine ⟨by omega, fun n hn => ?_⟩
   obtain ⟨m, hm, rfl⟩ := List.mem_map.1 (h2 n hn)
   rw [bs_size]
   exact h.nam _ m hm
theorem step_len (fs : St) (hf : FsOk fs) (p : ByteArray) : ∀ L : List Spt, (stepB fs L p).length ≤ 200 * L.length
 | [] => by simp [stepB]
 | s :: L => by
   have h1 := (fnames_le hf s.2 p).1
   have h2 := step_len fs hf p L
   unfold stepB at h2 ⊢
   rw [List.flatMap_cons, List.length_append, List.length_map, List.length_cons]
   omega
theorem step_any (gf : Nat) (fs : St) (p : ByteArray) (A : Option Addr) (c : Nat) (L : List Spt) (w : World) (hf : FsOk fs) (hv : Hs (VS gf fs) w) (hm : MX w) (hp : p.size ≤ 1000) (hA : RG encSp 2 w A L) (hl : L.length ≤ 500)
   (hz : ∀ s ∈ L, s.1.size ≤ 1000000 ∧ s.2.size ≤ 50000) :
   Calls Tryz.prog 52 #[.pointer (some ⟨gf, 0, none⟩), .slice A L.length c, .string p] w fun e w' => (∃ v, e = .returned v ∧ OwnSp w' w.heap.size v (stepB fs L p)) ∧ Below w.heap.size w w' := by
 have HF := hide hf
 have HV := hide hv
 have HM := hide hm
 have HA := hide hA
 have HZ := hide hz
 obtain ⟨n, hn⟩ : ∃ n, L.length = n := ⟨_, rfl⟩
 have HN := hide hn
 rw [hn] at hl ⊢
 clear hf hv hm hA hz hn
 go_enter Tryz.func52, Tryz.ntmps52
 go_wp2
 go_loopw [7, 9, 11, 12, 13, 14, 17] (fun v7 _ _ _ _ _ v17 wr => ∃ i : Nat, v17 = .int .i64 i ∧ i ≤ n ∧ Hid (OwnSp wr w.heap.size v7 (stepB fs (L.take i) p)) ∧ Hid (Below w.heap.size w wr)) (fun _ _ _ _ _ _ v17 _ => n - (intOf v17).toNat)
 case atStart => exact ⟨0, rfl, by omega, hide (OwnG.nil _ _), hide (Below.refl _ _)⟩
 case round =>
   obtain ⟨ws, hws⟩ : ∃ Z, Z = wr := ⟨_, rfl⟩
   subst hws
   obtain ⟨i, rfl, hi, HO, HB⟩ := hrel
   by_cases hlt : i < n
   case neg =>
     obtain rfl : i = n := by omega
     have HE := hide (show L.take i = L from List.take_of_length_le (by have := HN.out; omega))
     go_wp2
     go_ret
     exact ⟨⟨_, rfl, by rw [← HE.out]; exact HO.out⟩, HB.out⟩
   have b1 : (i : Int) < (n : Int) := by omega
   obtain ⟨s, hs⟩ : ∃ s, L[i]? = some s := ⟨_, List.getElem?_eq_getElem (by have := HN.out; omega)⟩
   obtain ⟨gs, os, rfl, hg, hcc⟩ := HA.out i s hs
   have hc0 := (HB.out.cell (p := ⟨gs, os + i * 2, none⟩) hg).trans (hcc 0 _ rfl)
   have hc1 := (HB.out.cell (p := ⟨gs, os + i * 2 + 1, none⟩) hg).trans (hcc 1 _ rfl)
   obtain ⟨hz1, hz2⟩ := HZ.out s (List.mem_of_getElem? hs)
   have HSX := hide hs
   have hba : Below ws.heap.size ws (ws.alloc (.cells #[.string s.2, .string s.1] spty)) := (Below.refl _ _).alloc (Nat.le_refl _) _
   have hvr := heapNew ws (.cells #[.string s.2, .string s.1] spty)
   obtain ⟨W, hW⟩ : ∃ Z, ws.alloc (.cells #[.string s.2, .string s.1] spty) = Z := ⟨_, rfl⟩
   rw [hW] at hba hvr
   have HW := hide hW
   have HBW := hide (HB.out.trans (hba.mono HB.out.size))
   have HNM := hide (fnames_any gf fs s.2 p W HF.out.wf (HV.out.below (VS.fr _ _) HBW.out) (HM.out.below HBW.out) hp hz2 (by have := HF.out.cnt s.2.data.toList; omega) (fun n hn => by have := HF.out.nam s.2.data.toList n hn; omega))
   obtain ⟨hnl, hnz⟩ := fnames_le HF.out s.2 p
   have HNZ := hide hnz
   have HST := hide (show stepB fs (L.take (i + 1)) p = stepB fs (L.take i) p ++ (fnamesB fs s.2 p).map (goSp s) by
     unfold stepB
     rw [List.take_add_one, hs, List.flatMap_append]
     simp)
   have hsl := step_len fs HF.out p (L.take i)
   rw [List.length_take] at hsl
   obtain ⟨NL, hNL⟩ : ∃ z, fnamesB fs s.2 p = z := ⟨_, rfl⟩
   rw [hNL] at HNM hnl HNZ HST
   obtain ⟨m, hmm⟩ : ∃ m, NL.length = m := ⟨_, rfl⟩
   have HMM := hide hmm
   rw [hmm] at HNM hnl
   obtain ⟨PS, hPS⟩ : ∃ z, stepB fs (L.take i) p = z := ⟨_, rfl⟩
   rw [hPS] at HO HST hsl
   have hw0 := cellOf hvr (j := 0) rfl
   have hw1 := cellOf hvr (j := 1) rfl
   have HVR := hide hvr
   have HBA := hide hba
   clear hcc hs hba hvr hW hNL hmm hPS hnz
   go_wp2_with fail
   rw [HW.out]
   refine HNM.out.mono ?_
   rintro e w2 ⟨⟨A', c', rfl, hsr, hfr⟩, hb2⟩
   have HB2 := hide (HBW.out.trans (hb2.mono HBW.out.size))
   have HSR := hide hsr
   have HFR := hide (fun a e => Nat.le_trans HBA.out.size (hfr a e))
   have HV2 := hide ((hb2.block ws.heap.size (by have := (Array.getElem?_eq_some_iff.1 HVR.out).1; exact this)).trans HVR.out)
   have HO2 := hide (show OwnSp w2 w.heap.size _ PS from ownsRow_of HO.out fun k e => ((HBA.out.trans (hb2.mono HBA.out.size)).block k (HO.out.lt k e).2))
   clear hsr hfr hb2 hw0 hw1 HNM hc0 hc1
   go_wp2
   go_loopw [7, 11, 12, 13, 14, 27] (fun v7 _ _ _ _ v27 wr => ∃ k : Nat, v27 = .int .i64 k ∧ k ≤ m ∧ Hid (OwnSp wr w.heap.size v7 (PS ++ (NL.take k).map (goSp s))) ∧ Hid (Below w.heap.size w wr) ∧ Hid (wr.heap[ws.heap.size]? = some (.cells #[.string s.2, .string s.1] spty)) ∧ Hid (SR wr A' NL) ∧ Hid (∀ k, v7.ownBlock = some k → k ≠ ws.heap.size ∧ ∀ a, A' = some a → a.block ≠ k)) (fun _ _ _ _ _ v27 _ => m - (intOf v27).toNat)
   case atStart =>
     refine ⟨0, rfl, by omega, by rw [List.take_zero, List.map_nil, List.append_nil]; exact HO2, HB2, HV2, HSR, hide fun k e => ?_⟩
     have := (HO.out.lt k e).2
     exact ⟨by omega, fun a ea => by have := HFR.out a ea; omega⟩
   case round =>
     obtain ⟨wk, hwk⟩ : ∃ Z, Z = wr := ⟨_, rfl⟩
     subst hwk
     obtain ⟨k, rfl, hk, HOK, HBK, HVK, HSK, HAK⟩ := hrel
     obtain ⟨vA, vc, rfl, _⟩ := HOK.out.slice encSp_len
     obtain ⟨ln, hln⟩ : ∃ z, (PS ++ (NL.take k).map (goSp s)).length = z := ⟨_, rfl⟩
     rw [hln] at HOK HAK ⊢
     by_cases hkl : k < m
     case neg =>
       obtain rfl : k = m := by omega
       have HEN := hide (show OwnSp wk w.heap.size _ (stepB fs (L.take (i + 1)) p) by
         rw [HST.out, ← List.take_of_length_le (l := NL) (i := k) (by have := HMM.out; omega)]
         exact HOK.out)
       go_wp2
       go_roundw
       case rel => exact ⟨i + 1, by go_num, by omega, HEN, HBK⟩
       case measure => simp [intOf]; omega
     have b2 : (k : Int) < (m : Int) := by omega
     obtain ⟨x, hx⟩ : ∃ x, NL[k]? = some x := ⟨_, List.getElem?_eq_getElem (by have := HMM.out; omega)⟩
     have hxz := HNZ.out x (List.mem_of_getElem? hx)
     obtain ⟨gx, ox, rfl, hgx, hcx⟩ := HSK.out k x hx
     have hv0 := cellOf HVK.out (j := 0) rfl
     have hv1 := cellOf HVK.out (j := 1) rfl
     have HAB := hide (abs_any s.2.data.toList x.data.toList wk (HM.out.below HBK.out) (by rw [data_len]; omega) (by rw [data_len]; omega))
     unfold AbsPost at HAB
     rw [bs_of, bs_of] at HAB
     have HGO := hide (show goSp s x = (if s.1 = ⟨#[]⟩ then x else bs (Lib.trimSuffix s.1.data.toList [47]) ++ ⟨#[47]⟩ ++ x, bs (absF s.2.data.toList x.data.toList).1) from rfl)
     obtain ⟨aT, haT⟩ : ∃ z, bs (absF s.2.data.toList x.data.toList).1 = z := ⟨_, rfl⟩
     obtain ⟨aE, haE⟩ : ∃ z, (absF s.2.data.toList x.data.toList).2 = z := ⟨_, rfl⟩
     rw [haT, haE] at HAB
     rw [haT] at HGO
     have HTN := hide (show PS ++ (NL.take (k + 1)).map (goSp s) = PS ++ (NL.take k).map (goSp s) ++ [goSp s x] by
       rw [List.take_add_one, hx, List.map_append, List.append_assoc]
       rfl)
     have hpl : (PS ++ (NL.take k).map (goSp s)).length ≤ 200000 := by
       rw [List.length_append, List.length_map, List.length_take]
       omega
     rw [hln] at hpl
     have HPLL := hide hpl
     have HLN := hide hln
     clear hx haT haE hpl hln
     go_wp2_with fail
     refine HAB.out.mono ?_
     rintro e w3 ⟨rfl, hb3⟩
     have HB3 := hide (HBK.out.trans (hb3.mono HBK.out.size))
     have HV3 := hide ((hb3.block ws.heap.size (Array.getElem?_eq_some_iff.1 HVK.out).1).trans HVK.out)
     have HS3 := hide (HSK.out.below hb3)
     have HGX := hide (show gx < w3.heap.size from Nat.lt_of_lt_of_le hgx hb3.size)
     have HO3 := hide (show OwnSp w3 w.heap.size (.slice vA ln vc) (PS ++ (NL.take k).map (goSp s)) from ownsRow_of HOK.out fun k e => hb3.block k (HOK.out.lt k e).2)
     have hv0 := cellOf HV3.out (j := 0) rfl
     have hv1 := cellOf HV3.out (j := 1) rfl
     clear hb3 hcx
     by_cases he : s.1 = ⟨#[]⟩
     · have h0 : s.1.toList = [] := by rw [he, ByteArray.toList_eq]
       have h00 : s.1.toList.isEmpty = true := by rw [h0]; rfl
       have hx3 := rg_new (enc := encSp) (n := 2) w3 (goSp s x) spty
       have hcell : (encSp (goSp s x)).toArray = #[.string aT, .string x] := by rw [HGO.out]; rw [if_pos he]; rfl
       rw [hcell] at hx3
       have hxb : w.heap.size ≤ w3.heap.size := HB3.out.size
       obtain ⟨v4, w4, hrn, ho4, hg4, hv4⟩ := run_appG rowSp encSp_len encSp_one (c := 1) (OwnG.alloc HO3.out (.cells #[.string aT, .string x] spty)) hx3 (by simp; omega) (by have := HPLL.out; have := HLN.out; rw [List.length_singleton]; omega)
       have HRN := hide hrn
       have HO4 := hide (show OwnSp w4 w.heap.size v4 (PS ++ (NL.take (k + 1)).map (goSp s)) by rw [HTN.out]; exact ho4)
       have HB4 := hide (show Below w.heap.size w w4 from (HB3.out.alloc HB3.out.size (.cells #[.string aT, .string x] spty)).grown hg4 (by simp; omega) (fun q e => (HO3.out.lt q e).1))
       have hkeep : ∀ q, q < w3.heap.size → (Value.slice vA ln vc).ownBlock ≠ some q → w4.heap[q]? = w3.heap[q]? := fun q h1 h2 => (hg4.block q (by simp; omega) (fun e => h2 e.symm)).trans (Below.heap_alloc _ _ _ h1)
       have HV4 := hide ((hkeep ws.heap.size (Array.getElem?_eq_some_iff.1 HV3.out).1 (fun e => (HAK.out _ e).1 rfl)).trans HV3.out)
       have HS4 := hide (show SR w4 (some ⟨gx, ox, none⟩) NL from HS3.out.ofK (by have := hg4.size; simp at this; omega) (fun a e hne hla => hkeep _ hla (fun q => (HAK.out _ q).2 a e rfl)))
       have HA4 := hide (show ∀ k, v4.ownBlock = some k → k ≠ ws.heap.size ∧ ∀ a, (some ⟨gx, ox, none⟩ : Option Addr) = some a → a.block ≠ k from fun q e => by
         rcases hv4 with h | h
         · exact HAK.out q (h ▸ e)
         · rw [h] at e
           injection e with e
           have h1 := (Array.getElem?_eq_some_iff.1 HV3.out).1
           simp at e
           refine ⟨by omega, fun a ea => ?_⟩
           injection ea with ea
           rw [← ea]
           have := HGX.out
           show gx ≠ q
           omega)
       clear hx3 hcell hrn ho4 hg4 hv4 hkeep hxb he
       go_wp2_with (at_builtin; refine wpList_app_run ?_ (.tmp 48) (.tmp 52) ?_ ?_ ?_ ?_ HRN.out ?_; exact rfl; exact rfl; exact rfl; exact rfl; exact rfl)
       go_roundw
       case rel => exact ⟨k + 1, by go_num, by omega, HO4, HB4, HV4, HS4, HA4⟩
       case measure => simp [intOf]; omega
     · have h0 : ¬ s.1.toList = [] := by
         intro e
         rw [ByteArray.toList_eq] at e
         exact he (ByteArray.ext (Array.toList_inj.1 e))
       have h00 : s.1.toList.isEmpty = false := by
         cases h : s.1.toList.isEmpty with
         | false => rfl
         | true => exact absurd (List.isEmpty_iff.1 h) h0
       have HTS := hide (fun Z => Tryz.strings_TrimSuffix s.1 ⟨#[47]⟩ Z (by omega))
       obtain ⟨tS, htS⟩ : ∃ z, bs (Lib.trimSuffix s.1.data.toList [47]) = z := ⟨_, rfl⟩
       have htz : tS.size ≤ 1000000 := by
         rw [← htS, bs_size]
         unfold Lib.trimSuffix
         split
         · rw [List.length_take, data_len]; omega
         · rw [data_len]; omega
       have HTT := hide (show ∀ Z, Calls Tryz.prog 94 #[.string s.1, .string ⟨#[47]⟩] Z (fun e w' => e = .returned (.string tS) ∧ w' = Z) by rw [← htS]; exact HTS.out)
       rw [htS] at HGO
       clear htS HTS
       go_wp2_with fail
       refine (HTT.out _).mono ?_
       rintro e w5 ⟨rfl, rfl⟩
       have hx3 := rg_new (enc := encSp) (n := 2) w5 (goSp s x) spty
       have hcell : (encSp (goSp s x)).toArray = #[.string aT, .string (tS ++ ⟨#[47]⟩ ++ x)] := by rw [HGO.out]; rw [if_neg he]; rfl
       rw [hcell] at hx3
       have hxb : w.heap.size ≤ w5.heap.size := HB3.out.size
       obtain ⟨v4, w4, hrn, ho4, hg4, hv4⟩ := run_appG rowSp encSp_len encSp_one (c := 1) (OwnG.alloc HO3.out (.cells #[.string aT, .string (tS ++ ⟨#[47]⟩ ++ x)] spty)) hx3 (by simp; omega) (by have := HPLL.out; have := HLN.out; rw [List.length_singleton]; omega)
       have HRN := hide hrn
       have HO4 := hide (show OwnSp w4 w.heap.size v4 (PS ++ (NL.take (k + 1)).map (goSp s)) by rw [HTN.out]; exact ho4)
       have HB4 := hide (show Below w.heap.size w w4 from (HB3.out.alloc HB3.out.size (.cells #[.string aT, .string (tS ++ ⟨#[47]⟩ ++ x)] spty)).grown hg4 (by simp; omega) (fun q e => (HO3.out.lt q e).1))
       have hkeep : ∀ q, q < w5.heap.size → (Value.slice vA ln vc).ownBlock ≠ some q → w4.heap[q]? = w5.heap[q]? := fun q h1 h2 => (hg4.block q (by simp; omega) (fun e => h2 e.symm)).trans (Below.heap_alloc _ _ _ h1)
       have HV4 := hide ((hkeep ws.heap.size (Array.getElem?_eq_some_iff.1 HV3.out).1 (fun e => (HAK.out _ e).1 rfl)).trans HV3.out)
       have HS4 := hide (show SR w4 (some ⟨gx, ox, none⟩) NL from HS3.out.ofK (by have := hg4.size; simp at this; omega) (fun a e hne hla => hkeep _ hla (fun q => (HAK.out _ q).2 a e rfl)))
       have HA4 := hide (show ∀ k, v4.ownBlock = some k → k ≠ ws.heap.size ∧ ∀ a, (some ⟨gx, ox, none⟩ : Option Addr) = some a → a.block ≠ k from fun q e => by
         rcases hv4 with h | h
         · exact HAK.out q (h ▸ e)
         · rw [h] at e
           injection e with e
           have h1 := (Array.getElem?_eq_some_iff.1 HV3.out).1
           simp at e
           refine ⟨by omega, fun a ea => ?_⟩
           injection ea with ea
           rw [← ea]
           have := HGX.out
           show gx ≠ q
           omega)
       clear hx3 hcell hrn ho4 hg4 hv4 hkeep hxb
       go_wp2_with (at_builtin; refine wpList_app_run ?_ (.tmp 48) (.tmp 52) ?_ ?_ ?_ ?_ HRN.out ?_; exact rfl; exact rfl; exact rfl; exact rfl; exact rfl)
       go_roundw
       case rel => exact ⟨k + 1, by go_num, by omega, HO4, HB4, HV4, HS4, HA4⟩
       case measure => simp [intOf]; omega
end
section
open Go.RowKit Go.Deep Go.Maps Ln Pth Vf Qm.Glob
theorem putG_perm {α : Type} (x : ByteArray × α) : ∀ {P : KV α}, (∀ y ∈ P, y.1 ≠ x.1) → (putG x P).Perm (x :: P)
 | [], _ => List.Perm.refl _
 | y :: P, h => by
   unfold putG
   split
   · exact ((putG_perm x (P := P) fun z hz => h z (by simp [hz])).cons y).trans (List.Perm.swap x y P)
   · rw [if_neg (h y (by simp))]
theorem fold_putG {α : Type} : ∀ (L : List (ByteArray × α)) (A : KV α), RiseG A → ((A ++ L).map (·.1)).Nodup → (L.foldl (fun acc x => putG x acc) A).Perm (A ++ L) ∧ RiseG (L.foldl (fun acc x => putG x acc) A)
 | [], A, hr, _ => by rw [List.append_nil]; exact ⟨List.Perm.refl _, hr⟩
 | x :: L, A, hr, hn => by
   have hx : ∀ y ∈ A, y.1 ≠ x.1 := by
     rw [List.map_append, List.map_cons, List.nodup_append] at hn
     intro y hy
     exact hn.2.2 _ (List.mem_map.2 ⟨y, hy, rfl⟩) _ (by simp)
   have hp := putG_perm x hx
   have hp2 : (putG x A ++ L).Perm (A ++ x :: L) := (hp.append_right L).trans (List.perm_middle.symm)
   obtain ⟨h1, h2⟩ := fold_putG L (putG x A) (hr.put x) ((hp2.map (·.1)).nodup_iff.2 hn)
   exact ⟨h1.trans hp2, h2⟩
theorem sortSp_perm {L : List Spt} (h : (L.map (·.1)).Nodup) : L.Perm (sortSp L) ∧ RiseG (sortSp L) := by
 obtain ⟨h1, h2⟩ := fold_putG L [] RiseG.nil (by simpa using h)
 exact ⟨(show (sortSp L).Perm L from h1).symm, h2⟩
theorem valsG_take {α : Type} {enc : α → List Value} {n : Nat} (he : ∀ x, (enc x).length = n) : ∀ (L : List α) (k : Nat), (valsG enc L).take (k * n) = valsG enc (L.take k)
 | [], k => by simp [valsG]
 | x :: L, 0 => by simp [valsG]
 | x :: L, k + 1 => by
   have ih := valsG_take he L k
   have e : valsG enc (x :: L) = enc x ++ valsG enc L := by simp [valsG]
   have e2 : valsG enc ((x :: L).take (k + 1)) = enc x ++ valsG enc (L.take k) := by simp [valsG]
   rw [e, e2, List.take_append, he, Nat.add_mul, Nat.one_mul, List.take_of_length_le (by rw [he]; omega), show k * n + n - n = k * n from by omega, ih]
theorem firstB_len (L : List Spt) (h : (L.map (·.1)).Nodup) : (firstB L).length = min L.length 500 := by
 unfold firstB
 rw [List.length_take, ← (sortSp_perm h).1.length_eq, Nat.min_comm]
theorem first_any {w : World} {base : Nat} {v : Value} {L : List Spt} (h : OwnSp w base v L) (hn : (L.map (·.1)).Nodup) (hl : L.length ≤ 1000000) :
   Calls Tryz.prog 53 #[v] w fun e w' => (∃ v', e = .returned v' ∧ OwnSp w' base v' (firstB L) ∧ v'.ownBlock = v.ownBlock) ∧ w.grownBy w' v.ownBlock := by
 obtain ⟨hp, hr⟩ := sortSp_perm hn
 have HSO := hide (sortSp_any h hp hr hl)
 have hlen := hp.length_eq
 rcases h.2 with ⟨rfl, hn0⟩ | ⟨g, cap, cur, rfl, hbg, hh, hc, hm, hs, ht⟩
 · have hF : L = [] := List.eq_nil_of_length_eq_zero hn0
   subst hF
   clear h hn0 hp hr hlen hl hn
   go_enter Tryz.func53, Tryz.ntmps53
   go_wp2_with fail
   refine HSO.out.mono ?_
   rintro e w1 ⟨rfl, ho, hg⟩
   go_wp2
   go_ret
   exact ⟨⟨_, rfl, OwnG.nil _ _, rfl⟩, hg⟩
 · obtain ⟨n, hnn⟩ : ∃ n, L.length = n := ⟨_, rfl⟩
   have HFL := hide (firstB_len L hn)
   rw [hnn] at HSO hl hlen HFL hc ⊢
   have HC := hide (show ∀ w', OwnSp w' base (.slice (some ⟨g, 0, none⟩) n cap) (sortSp L) → OwnSp w' base (.slice (some ⟨g, 0, none⟩) (min n 500) cap) (firstB L) from fun w' ho => by
     have ho2 : w'.ownsRow base spty 2 (.slice (some ⟨g, 0, none⟩) n cap) n (valsG encSp (sortSp L)) := by
       have := ho
       unfold OwnSp OwnG at this
       rw [← hlen] at this
       exact this
     have h3 := ownsRow_pre ho2 (k := min n 500) (by omega)
     rw [valsG_take encSp_len] at h3
     have e : (sortSp L).take (min n 500) = firstB L := by
       unfold firstB
       by_cases hq : n ≤ 500
       · rw [Nat.min_eq_left hq, List.take_of_length_le (by omega), List.take_of_length_le (by omega)]
       · rw [Nat.min_eq_right (by omega)]
     rw [e, ← HFL.out] at h3
     rw [← HFL.out]
     exact h3)
   have HCAP := hide hc
   clear h hp hr hlen hn hbg hh hm hs ht hnn HFL
   by_cases hq : n ≤ 500
   · rw [Nat.min_eq_left hq] at HC
     have hq2 : (n : Int) ≤ 500 := by omega
     have hc2 : n ≤ cap := hc
     go_enter Tryz.func53, Tryz.ntmps53
     go_wp2_with fail
     refine HSO.out.mono ?_
     rintro e w1 ⟨rfl, ho, hg⟩
     have HO := hide (HC.out _ ho)
     clear ho
     go_wp2
     go_ret
     refine ⟨⟨_, rfl, ?_, rfl⟩, hg⟩
     show OwnSp w1 base (.slice (some ⟨g, 0, none⟩) (min (n : Int) 500).toNat cap) (firstB L)
     rw [show (min (n : Int) 500).toNat = n from by omega]
     exact HO.out
   · rw [Nat.min_eq_right (by omega)] at HC
     have hq2 : ¬ (n : Int) ≤ 500 := by omega
     have hq3 : (500 : Int) < n := by omega
     have hc2 : 500 ≤ cap := by omega
     go_enter Tryz.func53, Tryz.ntmps53
     go_wp2_with fail
     refine HSO.out.mono ?_
     rintro e w1 ⟨rfl, ho, hg⟩
     have HO := hide (HC.out _ ho)
     clear ho
     go_wp2
     go_ret
     refine ⟨⟨_, rfl, ?_, rfl⟩, hg⟩
     show OwnSp w1 base (.slice (some ⟨g, 0, none⟩) (min (n : Int) 500).toNat cap) (firstB L)
     rw [show (min (n : Int) 500).toNat = 500 from by omega]
     exact HO.out
end
section
open Go.RowKit Go.Deep Go.Maps Ln Pth Vf Qm.Glob
theorem paths1_any (x : ByteArray) (W : World) : Calls Tryz.prog 51 (#[.string x] ++ #[]) W fun e w' => e = .returned (.bool (decide (x = ⟨#[]⟩))) ∧ Below W.heap.size W w' := by
 have HE := hide (toList_eq x ⟨#[]⟩)
 by_cases h : x = ⟨#[]⟩
 · subst h
   clear HE
   go_enter Tryz.func51, Tryz.ntmps51
   go_wp2
   go_ret
   exact ⟨rfl, Below.refl _ _⟩
 · rw [decide_eq_false h]
   have h2 : x.toList.isEmpty = false := by
     cases e : x.toList.isEmpty with
     | false => rfl
     | true =>
       have := List.isEmpty_iff.1 e
       rw [ByteArray.toList_eq] at this
       exact absurd (ByteArray.ext (Array.toList_inj.1 this)) h
   clear HE h
   go_enter Tryz.func51, Tryz.ntmps51
   go_wp2
   go_ret
   exact ⟨by simp [h2], Below.refl _ _⟩
theorem paths2_any (gf gF gN : Nat) (fs : St) (p : ByteArray) (s : Spt) (W : World) (hv : Hs (VS gf fs) W) (hm : MX W) (hp : p.size ≤ 1000) (hz : s.2.size ≤ 50000)
   (hF : W.cell? ⟨gF, 0, none⟩ = some (.pointer (some ⟨gf, 0, none⟩))) (hN : W.cell? ⟨gN, 0, none⟩ = some (.string p)) :
   Calls Tryz.prog 55 (#[.agg #[.string s.2, .string s.1]] ++ #[.pointer (some ⟨gF, 0, none⟩), .pointer (some ⟨gN, 0, none⟩)]) W fun e w' => e = .returned (.bool (keepB fs p s)) ∧ Below W.heap.size W w' := by
 have HK := hide (fun Z (hb : Below W.heap.size W Z) => vkind_any gf fs s.2.data.toList Z (hv.below (VS.fr _ _) hb) (hm.below hb) (by rw [data_len]; exact hz))
 rw [bs_of] at HK
 have HD := hide (fun Z => dots_any p Z hp)
 have hgF := World.block_lt_of_cell? W _ hF
 have hgN := World.block_lt_of_cell? W _ hN
 have HB0 := hide (show Below W.heap.size W (W.alloc (.cells #[.string s.2, .string s.1] spty)) from (Below.refl _ _).alloc (Nat.le_refl _) _)
 have hF0 := (HB0.out.cell (p := ⟨gF, 0, none⟩) hgF).trans hF
 have hN0 := (HB0.out.cell (p := ⟨gN, 0, none⟩) hgN).trans hN
 have hx := heapNew W (.cells #[.string s.2, .string s.1] spty)
 have hx0 := cellOf hx (j := 0) rfl
 unfold keepB
 obtain ⟨kd, hkd⟩ : ∃ z, kindS fs s.2.data.toList = z := ⟨_, rfl⟩
 obtain ⟨db, hdb⟩ : ∃ z, dotsB p = z := ⟨_, rfl⟩
 rw [hkd] at HK ⊢
 rw [hdb] at HD ⊢
 have HN := hide hN
 have HGN := hide hgN
 clear hv hm hF hN hgF hgN hx hkd hdb hp hz
 by_cases h2 : kd = 2
 · subst h2
   have HR := hide (show (decide (¬(2 : Nat) = 2) && !db) = false by simp)
   go_enter Tryz.func55, Tryz.ntmps55
   go_wp2_with fail
   refine (HK.out _ HB0.out).mono ?_
   rintro e w1 ⟨rfl, hb1⟩
   have HB1 := hide (HB0.out.trans (hb1.mono HB0.out.size))
   clear hb1
   go_wp2
   go_ret
   exact ⟨by simp, HB1.out⟩
 · have h3 : ¬ (kd : Int) = 2 := by omega
   go_enter Tryz.func55, Tryz.ntmps55
   go_wp2_with fail
   refine (HK.out _ HB0.out).mono ?_
   rintro e w1 ⟨rfl, hb1⟩
   have HB1 := hide (HB0.out.trans (hb1.mono HB0.out.size))
   have hN1 := (HB1.out.cell (p := ⟨gN, 0, none⟩) HGN.out).trans HN.out
   clear hb1 hN0 hF0 hx0
   go_wp2_with fail
   refine (HD.out _).mono ?_
   rintro e w2 ⟨rfl, hb2⟩
   have HB2 := hide (HB1.out.trans (hb2.mono HB1.out.size))
   clear hb2
   go_wp2
   go_ret
   exact ⟨by simp [h2, h3], HB2.out⟩
def partsQ (p : ByteArray) : List ByteArray := ((spl 47 p.data.toList).map bs).filter fun s => !decide (s = ⟨#[]⟩)
theorem ownS_G {w : World} {base : Nat} {v : Value} {L : List ByteArray} : OwnS w base v L ↔ OwnG encDs 1 9 w base v L := by
 unfold OwnS OwnG
 have : valsG encDs L = strVals L := by
   unfold valsG strVals
   induction L with
   | nil => rfl
   | cons x L ih => rw [List.flatMap_cons, ih]; rfl
 rw [this]
theorem partsQ_any (p : ByteArray) {base : Nat} (w : World) (hb : base ≤ w.heap.size) (hl : p.size ≤ 1000) :
   Calls Tryz.prog 49 #[.slice (some ⟨w.heap.size, 0, none⟩) ((spl 47 p.data.toList).map bs).length ((spl 47 p.data.toList).map bs).length, .func (.func 51) #[] #[]] (w.alloc (.cells (((spl 47 p.data.toList).map bs).map Value.string).toArray 9)) fun e w' => ∃ v, e = .returned v ∧ OwnS w' base v (partsQ p) ∧ Below w.heap.size w w' ∧ ∀ k, v.ownBlock = some k → w.heap.size = k := by
 have eg : ∀ args w, (callFunc 51 args).run Tryz.prog w = .ok (.enter 51 args) w := enters_of Tryz.func51 (by kernel_rfl) rfl
 have hn := spl_len 47 p.data.toList
 rw [data_len] at hn
 have ho := OwnS.newL w ((spl 47 p.data.toList).map bs) hb (by rw [List.length_map]; omega)
 refine (delStr_any (fun s => decide (s = ⟨#[]⟩)) _ #[] eg (ownS_G.1 ho) (by rw [List.length_map]; omega) (fun W x _ _ => paths1_any x W)).mono ?_
 rintro e w' ⟨v, rfl, h1, h2, h3⟩
 have hb1 : Below w.heap.size w (w.alloc (.cells (((spl 47 p.data.toList).map bs).map Value.string).toArray 9)) := (Below.refl _ _).alloc (Nat.le_refl _) _
 have hob : ∀ k, (Value.slice (some ⟨w.heap.size, 0, none⟩) ((spl 47 p.data.toList).map bs).length ((spl 47 p.data.toList).map bs).length).ownBlock = some k → w.heap.size = k := fun k e => Option.some.inj e
 exact ⟨v, rfl, ownS_G.2 h1, h2.below hb1 (Nat.le_refl _) (fun k e => Nat.le_of_eq (hob k e)), fun k e => hob k (h3 k e)⟩
end
end Go.Proofs.YtmcophlmcloooaaGreatDoor
namespace Go.Proofs.YtmcophlmcloooaaGreatDoor.Vf
open Ln Pth
def tgt (a b q : T) : T := b ++ q.drop a.length
structure MvOk (a b : T) (L : List T) : Prop where
 nd : L.Nodup
 inj : ∀ q ∈ L, ∀ q' ∈ L, tgt a b q = tgt a b q' → q = q'
 apart : ∀ q ∈ L, ∀ q' ∈ L, tgt a b q ≠ q'
end Go.Proofs.YtmcophlmcloooaaGreatDoor.Vf
namespace Go.Proofs.YtmcophlmcloooaaGreatDoor.Pth
open Ln
end Go.Proofs.YtmcophlmcloooaaGreatDoor.Pth
namespace Go.Proofs.YtmcophlmcloooaaGreatDoor.Vf
open Ln Pth
theorem wayL_iff (m : Mp) : ∀ (rest pre : List T), wayL m pre rest = 0 ↔ ∀ k, k < rest.length → kindM m (joinF (pre ++ rest.take k)) = 2
 | [], pre => by simp [wayL]
 | s :: r, pre => by
   have hk := kind_le m (joinF pre)
   rw [wayL]
   constructor
   · intro h k hkl
     split at h
     · cases h
     · split at h
       · cases h
       · cases k with
         | zero => rw [List.take_zero, List.append_nil]; omega
         | succ k =>
           have := (wayL_iff m r (pre ++ [s])).1 h k (by simpa using hkl)
           rwa [List.append_assoc] at this
   · intro h
     have h0 := h 0 (by simp)
     rw [List.take_zero, List.append_nil] at h0
     rw [if_neg (by omega), if_neg (by omega)]
     refine (wayL_iff m r (pre ++ [s])).2 (fun k hk => ?_)
     have := h (k + 1) (by simpa using hk)
     rwa [List.take_succ_cons, ← List.singleton_append, ← List.append_assoc] at this
theorem way_iff (m : Mp) {l : List T} (h : ∀ s ∈ l, okN s) : wayM m (joinF l) = 0 ↔ ∀ k, 0 < k → k < l.length → kindM m (joinF (l.take k)) = 2 := by
 have h47 : ∀ s ∈ l, 47 ∉ s := fun s hs => (h s hs).2.2.2
 cases l with
 | nil => rw [way_join m h47]; simp
 | cons s r =>
   rw [way_join m h47]
   dsimp only
   rw [wayL_iff]
   constructor
   · intro h k h0 hk
     obtain ⟨j, rfl⟩ : ∃ j, k = j + 1 := ⟨k - 1, by omega⟩
     have := h j (by simpa using hk)
     simpa using this
   · intro h k hk
     have := h (k + 1) (by omega) (by simpa using hk)
     simpa using this
structure HangS (S : St) : Prop where
 hang : ∀ l s, GoodP (l ++ [s]) → getG S.m (bs (joinF (l ++ [s]))) ≠ none → kindM S.m (joinF l) = 2
 dirs : ∀ k n, getG S.m k = some n → n.dir = true → n.data = []
 times : ∀ k n, getG S.m k = some n → 1 ≤ n.time ∧ n.time ≤ S.clock
 dist : ∀ k k' n n', getG S.m k = some n → getG S.m k' = some n' → n.time = n'.time → k = k'
theorem snoc_of {l : List T} (h : l ≠ []) : ∃ a s, l = a ++ [s] := ⟨l.dropLast, l.getLast h, (List.dropLast_concat_getLast h).symm⟩
theorem way_dir {m : Mp} {l : List T} {s : T} (h : ∀ x ∈ l ++ [s], okN x) (hw : wayM m (joinF (l ++ [s])) = 0) : kindM m (joinF l) = 2 := by
 cases hl : l with
 | nil => rfl
 | cons x r =>
   rw [← hl]
   have := (way_iff m h).1 hw l.length (by rw [hl]; simp) (by simp)
   rwa [List.take_left' rfl] at this
theorem abs_dir {S : St} {p : T} (h : (absS S p).2 = 0) (hq : (absS S p).1 ≠ [47]) : ∃ l s, GoodP (l ++ [s]) ∧ (absS S p).1 = joinF (l ++ [s]) ∧ kindM S.m (joinF l) = 2 := by
 obtain ⟨l, hl, e, _, hw⟩ := absS_good h
 obtain ⟨a, s, rfl⟩ := snoc_of (good_ne e hq)
 exact ⟨a, s, hl, e, way_dir hl.ok hw⟩
end Go.Proofs.YtmcophlmcloooaaGreatDoor.Vf
namespace Go.Proofs.YtmcophlmcloooaaGreatDoor.Vf
open Ln Pth
structure MvS (S : St) (a b : List T) : Prop where
 wf : WfS S
 hang : HangS S
 ga : GoodP a
 gb : GoodP b
 nea : a ≠ []
 neb : b ≠ []
 there : kindM S.m (joinF a) ≠ 0
 wayb : wayM S.m (joinF b) = 0
 nab : ¬ a <+: b
 bel : belowM S.m (joinF b) = []
 kind : kindM S.m (joinF b) ≠ 0 → kindM S.m (joinF b) = kindM S.m (joinF a)
 fine : ∀ r, r ≠ [] → getG S.m (bs (joinF (a ++ r))) ≠ none → (∀ s ∈ a ++ r, okN s) → GoodP (b ++ r)
structure MvG (m m' : Mp) (a b : List T) (clock : Nat) : Prop where
 rise : RiseG m'
 gone : ∀ r, (∀ s ∈ a ++ r, okN s) → getG m' (bs (joinF (a ++ r))) = none
 node : ∀ n, getG m (bs (joinF a)) = some n → getG m' (bs (joinF b)) = some ⟨n.dir, n.data, clock + 1⟩
 deep : ∀ r, r ≠ [] → (∀ s ∈ b ++ r, okN s) → getG m' (bs (joinF (b ++ r))) = getG m (bs (joinF (a ++ r)))
 rest : ∀ l, (∀ s ∈ l, okN s) → l ≠ [] → ¬ a <+: l → ¬ b <+: l → getG m' (bs (joinF l)) = getG m (bs (joinF l))
 odd : ∀ k, (∀ l, (∀ s ∈ l, okN s) → l ≠ [] → k ≠ bs (joinF l)) → getG m' k = none
end Go.Proofs.YtmcophlmcloooaaGreatDoor.Vf
namespace Go.Proofs.YtmcophlmcloooaaGreatDoor.Vf
open Ln Pth
end Go.Proofs.YtmcophlmcloooaaGreatDoor.Vf
namespace Go.Proofs.YtmcophlmcloooaaGreatDoor.Vf
open Ln Pth
end Go.Proofs.YtmcophlmcloooaaGreatDoor.Vf
namespace Go.Proofs.YtmcophlmcloooaaGreatDoor
section
open Go.RowKit Go.Deep Go.Maps Ln Pth Vf
attribute [local go_sem] bt_eq
theorem vfront_len (q : T) : q.length ≤ (frontF q).length := by
 unfold frontF
 rw [List.length_append]
 split
 · rw [List.length_dropLast]; simp; omega
 · simp
theorem below_mem {S : St} (hS : WfS S) {a x : T} (h : x ∈ belowM S.m a) : a.length ≤ x.length ∧ x.length ≤ 200 := by
 obtain ⟨r, n, rfl, hm⟩ := mem_below.1 h
 refine ⟨by have := vfront_len a; rw [List.length_append]; omega, ?_⟩
 obtain ⟨l, hl, _, e⟩ := hS.good _ hm
 have := hl.len
 rw [← bs_inj e] at this
 exact this
end
section
open Go.RowKit Go.Deep Go.Maps Ln Pth Vf Qm.Glob Qm.Base
theorem slashed_last {l : List T} (h : ∀ s ∈ l, okN s) (hne : l ≠ []) : (slashed l).getLast? ≠ some 47 := by
 obtain ⟨l', s, rfl⟩ : ∃ l' s, l = l' ++ [s] := ⟨l.dropLast, l.getLast hne, (List.dropLast_concat_getLast hne).symm⟩
 have hs := h s (by simp)
 intro e
 rw [slashed_app, show slashed [s] = 47 :: s from by simp [slashed], List.getLast?_append] at e
 cases s with
 | nil => exact hs.1 rfl
 | cons c s =>
   rw [List.getLast?_cons_cons] at e
   have hl : ((c :: s).getLast?).isSome := by simp
   obtain ⟨z, hz⟩ := Option.isSome_iff_exists.1 hl
   rw [hz] at e
   simp at e
   subst e
   exact hs.2.2.2 (List.mem_of_getLast? hz)
theorem names_ne {S : St} (hS : WfS S) {q x : T} (h : x ∈ namesM S.m q) : x ≠ [] := by
 rintro rfl
 obtain ⟨_, n, hn⟩ := mem_names.1 h
 obtain ⟨l, hl, hne, e⟩ := hS.good _ hn
 have e2 : frontF q ++ [] = joinF l := by
   have := congrArg (fun b : ByteArray => b.data.toList) e
   simpa [bs_list] using this
 unfold joinF at e2
 rw [if_neg hne, List.append_nil] at e2
 have h1 := slashed_last hl.ok hne
 rw [← e2] at h1
 apply h1
 unfold frontF
 simp
theorem names_sz {S : St} (hS : WfS S) {q x : T} (h : x ∈ namesM S.m q) : x.length ≤ 200 := by
 unfold namesM at h
 obtain ⟨h1, _⟩ := List.mem_filter.1 h
 obtain ⟨y, hy, rfl⟩ := List.mem_map.1 h1
 have := (below_mem hS hy).2
 rw [List.length_drop]
 omega
theorem names_cnt (m : Mp) (q : T) : (namesM m q).length ≤ m.length := by
 unfold namesM belowM
 refine Nat.le_trans (List.length_filter_le _ _) ?_
 rw [List.length_map]
 refine Nat.le_trans (List.length_filter_le _ _) ?_
 rw [List.length_map]
 exact Nat.le_refl _
theorem listS_mem {S : St} {p x : T} (h : x ∈ (listS S p).1) : ∃ q, x ∈ namesM S.m q := by
 unfold listS at h
 split at h
 · cases h
 · split at h
   · cases h
   · exact ⟨_, h⟩
theorem fsOk_of {fs : St} (h : WfS fs) (hn : fs.nodes ≤ 200) : FsOk fs := by
 refine ⟨h, fun p => ?_, fun p n hm => ?_⟩
 · have h1 := h.nodes
   unfold listS
   split
   · exact Nat.zero_le _
   · split
     · exact Nat.zero_le _
     · have := names_cnt fs.m (foundS fs p).1
       dsimp only
       omega
 · obtain ⟨q, hq⟩ := listS_mem hm
   exact names_sz h hq
def NameOk (n : ByteArray) : Prop := n.data.toList ≠ [] ∧ 47 ∉ n.data.toList
theorem namesOf_nodup (p : ByteArray) (L : List ByteArray) : (namesOf p L).Nodup := by
 have key : ∀ (M acc : List ByteArray), Ris (acc.map tl) → Ris ((M.foldl (fun acc s => putS s acc) acc).map tl) := by
   intro M
   induction M with
   | nil => intro acc h; exact h
   | cons m M ih => intro acc h; exact ih _ (by rw [putS_tl]; exact putT_ris h)
 have h := key (L.filter (keepN p)) [] List.Pairwise.nil
 have h2 : ((namesOf p L).map tl).Nodup := List.Pairwise.imp (fun {a b} (hab : a < b) (e : a = b) => tx_irrefl b (e ▸ hab)) h
 exact (List.pairwise_map.1 h2).imp fun hab e => hab (congrArg tl e)
theorem fnames_good {fs : St} (h : FsOk fs) (a p : ByteArray) : (fnamesB fs a p).Nodup ∧ ∀ n ∈ fnamesB fs a p, NameOk n := by
 unfold fnamesB
 by_cases hd : dotsB p = true
 · rw [if_pos hd]
   obtain ⟨q, hq, hq2⟩ := dots_some hd
   rw [hq]
   refine ⟨by simp, fun n hn => ?_⟩
   have : n = q := by simpa using hn
   rw [this]
   rcases hq2 with rfl | rfl <;> exact ⟨by simp, by decide⟩
 · rw [if_neg hd]
   refine ⟨namesOf_nodup _ _, fun n hn => ?_⟩
   obtain ⟨m, hm, rfl⟩ := List.mem_map.1 ((namesOf_le p _).2 n hn)
   obtain ⟨q, hq⟩ := listS_mem hm
   unfold NameOk
   rw [bs_list]
   exact ⟨names_ne h.wf hq, (mem_names.1 hq).1⟩
def TxEnd (t : ByteArray) : Prop := t.data.toList ≠ [] ∧ t.data.toList.getLast? ≠ some 47
def Dist (L : List Spt) : Prop := L.Pairwise fun a b => a.1 ≠ b.1
def OkNow (L : List Spt) : Prop := (∃ s, L = [s]) ∨ (Dist L ∧ ∀ s ∈ L, TxEnd s.1)
theorem Dist.nodup {L : List Spt} (h : Dist L) : (L.map (·.1)).Nodup := by
 unfold List.Nodup
 rw [List.pairwise_map]
 exact h
theorem OkNow.nodup {L : List Spt} (h : OkNow L) : (L.map (·.1)).Nodup := by
 rcases h with ⟨s, rfl⟩ | ⟨h, _⟩
 · simp
 · exact Dist.nodup h
theorem OkNow.first {L : List Spt} (h : OkNow L) : OkNow (firstB L) := by
 obtain ⟨h1, h2⟩ := sortSp_perm h.nodup
 rcases h with ⟨s, rfl⟩ | ⟨h, h3⟩
 · left
   exact ⟨s, rfl⟩
 · right
   have hn : ((sortSp L).map (·.1)).Nodup := (h1.map (·.1)).nodup_iff.1 (Dist.nodup h)
   unfold List.Nodup at hn
   rw [List.pairwise_map] at hn
   refine ⟨hn.sublist (List.take_sublist _ _), fun s hs => h3 s (h1.mem_iff.2 (List.mem_of_mem_take hs))⟩
theorem firstB_mem {L : List Spt} (h : OkNow L) {s : Spt} (hs : s ∈ firstB L) : s ∈ L := (sortSp_perm h.nodup).1.mem_iff.2 (List.mem_of_mem_take hs)
theorem firstB_le (L : List Spt) : (firstB L).length ≤ 500 := by unfold firstB; rw [List.length_take]; omega
def headT (t : ByteArray) : T := if t = ⟨#[]⟩ then [] else Lib.trimSuffix t.data.toList [47] ++ [47]
theorem goSp_tx (s : Spt) (n : ByteArray) : (goSp s n).1.data.toList = headT s.1 ++ n.data.toList := by
 unfold goSp headT
 dsimp only
 split
 · simp
 · rw [ByteArray.data_append, ByteArray.data_append, Array.toList_append, Array.toList_append, bs_list]
theorem headT_end {t : ByteArray} (h : TxEnd t) : headT t = t.data.toList ++ [47] := by
 unfold headT
 rw [if_neg (by rintro rfl; exact h.1 rfl)]
 congr 1
 unfold Lib.trimSuffix
 rw [if_neg]
 intro e
 apply h.2
 unfold Lib.hasSuffix at e
 obtain ⟨u, hu⟩ := List.isSuffixOf_iff_suffix.1 e
 rw [← hu]
 simp
theorem goSp_end (s : Spt) {n : ByteArray} (h : NameOk n) : TxEnd (goSp s n).1 := by
 unfold TxEnd
 rw [goSp_tx]
 refine ⟨by simp [h.1], fun e => ?_⟩
 rw [List.getLast?_append] at e
 have hl : (n.data.toList.getLast?).isSome := by simpa using h.1
 obtain ⟨z, hz⟩ := Option.isSome_iff_exists.1 hl
 rw [hz] at e
 simp at e
 subst e
 exact h.2 (List.mem_of_getLast? hz)
theorem cut_last {a b x y : T} (hx : 47 ∉ x) (hy : 47 ∉ y) (h : a ++ [47] ++ x = b ++ [47] ++ y) : a = b ∧ x = y := by
 rw [List.append_assoc, List.append_assoc] at h
 rcases List.append_eq_append_iff.1 h with ⟨c, e1, e2⟩ | ⟨c, e1, e2⟩
 · cases c with
   | nil => simp at e1 e2; exact ⟨e1.symm, e2⟩
   | cons z c =>
     simp at e2
     exact absurd (by rw [e2.2]; simp) hx
 · cases c with
   | nil => simp at e1 e2; exact ⟨e1, e2.symm⟩
   | cons z c =>
     simp at e2
     exact absurd (by rw [e2.2]; simp) hy
theorem stepB_ok {fs : St} (hf : FsOk fs) (p : ByteArray) {L : List Spt} (h : OkNow L) : Dist (stepB fs L p) ∧ ∀ s ∈ stepB fs L p, TxEnd s.1 := by
 constructor
 · unfold stepB Dist
   rw [List.pairwise_flatMap]
   constructor
   · intro s _
     rw [List.pairwise_map]
     refine (fnames_good hf s.2 p).1.imp fun {a b} hab e => hab ?_
     have e2 := congrArg (fun z : ByteArray => z.data.toList) e
     simp only [goSp_tx] at e2
     exact ByteArray.ext (Array.toList_inj.1 (List.append_cancel_left e2))
   · rcases h with ⟨s, rfl⟩ | ⟨h1, h2⟩
     · simp
     · refine (List.Pairwise.imp_of_mem (fun {a b} ha hb hab => ?_) h1)
       intro x hx y hy e
       obtain ⟨n, hn, rfl⟩ := List.mem_map.1 hx
       obtain ⟨m, hm, rfl⟩ := List.mem_map.1 hy
       have e2 := congrArg (fun z : ByteArray => z.data.toList) e
       simp only [goSp_tx, headT_end (h2 a ha), headT_end (h2 b hb)] at e2
       have := (cut_last ((fnames_good hf a.2 p).2 n hn).2 ((fnames_good hf b.2 p).2 m hm).2 e2).1
       exact hab (ByteArray.ext (Array.toList_inj.1 this))
 · intro s hs
   unfold stepB at hs
   obtain ⟨a, _, h2⟩ := List.mem_flatMap.1 hs
   obtain ⟨n, hn, rfl⟩ := List.mem_map.1 h2
   exact goSp_end a ((fnames_good hf a.2 p).2 n hn)
theorem OkNow.filter {L : List Spt} (h : Dist L ∧ ∀ s ∈ L, TxEnd s.1) (q : Spt → Bool) : OkNow (L.filter q) := .inr ⟨h.1.filter q, fun s hs => h.2 s (List.mem_filter.1 hs).1⟩
theorem step_size {fs : St} (hf : FsOk fs) (p : ByteArray) {L : List Spt} {b : Nat} (h : ∀ s ∈ L, s.1.size ≤ b) : ∀ s ∈ stepB fs L p, s.1.size ≤ b + 201 ∧ s.2.size ≤ 200 := by
 intro s hs
 unfold stepB at hs
 obtain ⟨a, ha, h2⟩ := List.mem_flatMap.1 hs
 obtain ⟨n, hn, rfl⟩ := List.mem_map.1 h2
 have h1 := h a ha
 have h3 := (fnames_le hf a.2 p).2 n hn
 constructor
 · rw [← data_len, goSp_tx, List.length_append, data_len]
   have : (headT a.1).length ≤ a.1.size + 1 := by
     unfold headT
     split
     · exact Nat.zero_le _
     · rw [List.length_append, ← data_len]
       unfold Lib.trimSuffix
       split
       · rw [List.length_take, List.length_singleton]; omega
       · exact Nat.le_refl _
   omega
 · show (bs (absF a.2.data.toList n.data.toList).1).size ≤ 200
   rw [bs_size]
   rcases absF_cases a.2.data.toList n.data.toList with ⟨l, hl, e, _⟩ | ⟨e, _⟩
   · rw [e]; exact hl.len
   · rw [e]; exact Nat.zero_le _
end
section
open Go.RowKit Go.Deep Go.Maps Ln Pth Vf Qm.Glob
def startB (cwd p : ByteArray) : Option Spt := if p.data.toList.head? = some 47 then some (⟨#[47]⟩, ⟨#[47]⟩) else if (absF [47] cwd.data.toList).2 ≠ 0 then none else some (⟨#[]⟩, bs (absF [47] cwd.data.toList).1)
def nowB (fs : St) (P : List ByteArray) (s : Spt) : Nat → List Spt
 | 0 => [s]
 | i + 1 => match P[i]? with
   | none => nowB fs P s i
   | some p => if i + 1 < P.length then (stepB fs (firstB (nowB fs P s i)) p).filter (fun x => !keepB fs p x) else stepB fs (firstB (nowB fs P s i)) p
structure NowOk (L : List Spt) (i : Nat) : Prop where
 ok : OkNow L
 len : L.length ≤ 100000
 sz : ∀ s ∈ L, s.1.size ≤ 1 + 201 * i ∧ s.2.size ≤ 200
theorem NowOk.step {fs : St} (hf : FsOk fs) {L : List Spt} {i : Nat} (h : NowOk L i) (p : ByteArray) : (Dist (stepB fs (firstB L) p) ∧ ∀ s ∈ stepB fs (firstB L) p, TxEnd s.1) ∧ (stepB fs (firstB L) p).length ≤ 100000 ∧ ∀ s ∈ stepB fs (firstB L) p, s.1.size ≤ 1 + 201 * (i + 1) ∧ s.2.size ≤ 200 := by
 have h1 := step_len fs hf p (firstB L)
 have h2 := firstB_le L
 refine ⟨stepB_ok hf p h.ok.first, by omega, fun s hs => ?_⟩
 have := step_size hf p (fun s hs => (h.sz s (firstB_mem h.ok hs)).1) s hs
 omega
theorem nowB_ok {fs : St} (hf : FsOk fs) (P : List ByteArray) {s : Spt} (hs : s.1.size ≤ 1 ∧ s.2.size ≤ 200) : ∀ i, NowOk (nowB fs P s i) i
 | 0 => ⟨.inl ⟨s, rfl⟩, by simp [nowB], fun x hx => by
   have hx2 : x = s := by simpa [nowB] using hx
   rw [hx2]
   omega⟩
 | i + 1 => by
   have ih := nowB_ok hf P hs i
   unfold nowB
   split
   · exact ⟨ih.ok, ih.len, fun x hx => by have := ih.sz x hx; omega⟩
   · rename_i p _
     obtain ⟨h1, h2, h3⟩ := ih.step hf p
     split
     · exact ⟨OkNow.filter h1 _, Nat.le_trans (List.length_filter_le _ _) h2, fun x hx => h3 x (List.mem_filter.1 hx).1⟩
     · exact ⟨.inr h1, h2, h3⟩
theorem start_sz {cwd p : ByteArray} {s : Spt} (h : startB cwd p = some s) : s.1.size ≤ 1 ∧ s.2.size ≤ 200 := by
 unfold startB at h
 split at h
 · injection h with h
   subst h
   decide
 · split at h
   · cases h
   · injection h with h
     subst h
     refine ⟨Nat.zero_le _, ?_⟩
     show (bs _).size ≤ 200
     rw [bs_size]
     rcases absF_cases [47] cwd.data.toList with ⟨l, hl, e, _⟩ | ⟨e, _⟩
     · rw [e]; exact hl.len
     · rw [e]; exact Nat.zero_le _
theorem OwnG.lower {α : Type} {enc : α → List Value} {n : Nat} {E : TypeId} {w : World} {base base' : Nat} {v : Value} {L : List α} (h : OwnG enc n E w base v L) (hb : base' ≤ base) : OwnG enc n E w base' v L :=
 ⟨h.1, h.2.imp id fun ⟨g, cap, cur, e, hg, r⟩ => ⟨g, cap, cur, e, by omega, r⟩⟩
theorem partsQ_sz (p : ByteArray) : (partsQ p).length ≤ p.size + 1 ∧ ∀ s ∈ partsQ p, s.size ≤ p.size := by
 unfold partsQ
 refine ⟨?_, fun s hs => ?_⟩
 · refine Nat.le_trans (List.length_filter_le _ _) ?_
   rw [List.length_map]
   have := spl_len 47 p.data.toList
   rw [data_len] at this
   exact this
 · obtain ⟨x, hx, rfl⟩ := List.mem_map.1 (List.mem_filter.1 hs).1
   rw [bs_size]
   have h1 := sum_spl 47 p.data.toList
   have h2 : x.length + 1 ≤ ((spl 47 p.data.toList).map (·.length + 1)).sum := by
     have : ∀ (M : List T), x ∈ M → x.length + 1 ≤ (M.map (·.length + 1)).sum := by
       intro M
       induction M with
       | nil => intro h; cases h
       | cons m M ih =>
         intro h
         rw [List.map_cons, List.sum_cons]
         rcases List.mem_cons.1 h with rfl | h
         · omega
         · have := ih h; omega
     exact this _ hx
   rw [h1, data_len] at h2
   omega
def RoundP (b1 : Nat) (w1 : World) (gN : Nat) (nm : ByteArray) (PA : Option Addr) (P : List ByteArray) (N : List Spt) (v : Value) (w : World) : Prop :=
 OwnSp w b1 v N ∧ Below b1 w1 w ∧ w.cell? ⟨gN, 0, none⟩ = some (.string nm) ∧ SR w PA P ∧ ∀ k, v.ownBlock = some k → gN ≠ k ∧ ∀ a, PA = some a → a.block ≠ k
theorem round_calls (gf : Nat) (fs : St) (hf : FsOk fs) {w w1 W : World} (b1 : Nat) (hb1 : w1.heap.size = b1) (hb01 : Below w.heap.size w w1) (hv : Hs (VS gf fs) w) (hm : MX w) (gN : Nat) (nm : ByteArray) (hnm : nm.size ≤ 1000) (PA : Option Addr) (P : List ByteArray)
   (L : List Spt) (i : Nat) (hL : NowOk L i) (hi : i ≤ 1000) (v : Value) (ho : OwnSp W b1 v L) (hb : Below b1 w1 W) (hN : W.cell? ⟨gN, 0, none⟩ = some (.string nm)) (hS : SR W PA P) (hPW : ∀ a, PA = some a → a.block < W.heap.size) (hne : ∀ k, v.ownBlock = some k → gN ≠ k ∧ ∀ a, PA = some a → a.block ≠ k) {gF : Nat} {uF : Value} (hF : w1.cell? ⟨gF, 0, none⟩ = some uF) :
   ∀ Z, Below W.heap.size W Z → Calls Tryz.prog 53 #[v] Z fun e w3 => ∃ A3 c3, e = .returned (.slice A3 (firstB L).length c3) ∧ w3.cell? ⟨gF, 0, none⟩ = some uF ∧ w3.cell? ⟨gN, 0, none⟩ = some (.string nm) ∧
     ∀ Z2, Below w3.heap.size w3 Z2 → Calls Tryz.prog 52 #[.pointer (some ⟨gf, 0, none⟩), .slice A3 (firstB L).length c3, .string nm] Z2 fun e w4 => ∃ u, e = .returned u ∧ RoundP b1 w1 gN nm PA P (stepB fs (firstB L) nm) u w4 := by
 intro Z hZ
 have hoZ : OwnSp Z b1 v L := ownsRow_of ho fun k e => hZ.block k (ho.lt k e).2
 have hbZ : Below b1 w1 Z := hb.trans (hZ.mono (by have := hb.size; omega))
 refine (first_any hoZ hL.ok.nodup (by have := hL.len; omega)).mono ?_
 rintro e w3 ⟨⟨v', rfl, ho', hv'⟩, hg⟩
 obtain ⟨A3, c3, rfl, _, hrg, _, _⟩ := ho'.slice encSp_len
 have hgN : gN < W.heap.size := World.block_lt_of_cell? W _ hN
 have hgF : gF < w1.heap.size := World.block_lt_of_cell? w1 _ hF
 have hb3 : Below b1 w1 w3 := hbZ.grown hg (by have := hbZ.size; omega) (fun q e => (hoZ.lt q e).1)
 have hk : ∀ q, q < W.heap.size → v.ownBlock ≠ some q → w3.heap[q]? = W.heap[q]? := fun q h1 h2 => (hg.block q (Nat.lt_of_lt_of_le h1 hZ.size) (fun e => h2 e.symm)).trans (hZ.block q h1)
 have hN3 : w3.cell? ⟨gN, 0, none⟩ = some (.string nm) := (World.cell?_of_block (hk gN hgN (fun e => (hne _ e).1 rfl))).trans hN
 have hS3 : SR w3 PA P := hS.ofK (Nat.le_trans hZ.size hg.size) (fun a e _ hla => hk _ hla (fun q => (hne _ q).2 a e rfl))
 refine ⟨A3, c3, rfl, (hb3.cell (p := ⟨gF, 0, none⟩) (by rw [← hb1]; exact hgF)).trans hF, hN3, fun Z2 hZ2 => ?_⟩
 have hb4 : Below b1 w1 Z2 := hb3.trans (hZ2.mono (by have := hb3.size; omega))
 have hw4 : Below w.heap.size w Z2 := hb01.trans (hb4.mono (by have := hb01.size; omega))
 refine (step_any gf fs nm A3 c3 (firstB L) Z2 hf (hv.below (VS.fr _ _) hw4) (hm.below hw4) hnm (hrg.below hZ2) (firstB_le L) (fun s hs => by have := hL.sz s (firstB_mem hL.ok hs); omega)).mono ?_
 rintro e w4 ⟨⟨u, rfl, ho4⟩, hb5⟩
 have hsz := hg.size
 have hsz2 := hZ2.size
 have hsz0 := hZ.size
 have hbz := hb4.size
 refine ⟨u, rfl, ho4.lower (by omega), hb4.trans (hb5.mono (by omega)), ?_, (hS3.below hZ2).below hb5, fun k e => ?_⟩
 · exact (hb5.cell (p := ⟨gN, 0, none⟩) (by show gN < Z2.heap.size; omega)).trans ((hZ2.cell (p := ⟨gN, 0, none⟩) (by show gN < w3.heap.size; omega)).trans hN3)
 · have := (ho4.lt k e).1
   exact ⟨by omega, fun a ea => by have := hPW a ea; omega⟩
end
section
open Go.RowKit Go.Deep Go.Maps Ln Pth Vf Qm.Glob
attribute [local go_sem] bt_eq
theorem ownSp_new (w : World) (s : Spt) {base : Nat} (hb : base ≤ w.heap.size) : OwnSp (w.alloc (.cells #[.string s.2, .string s.1] spty)) base (.slice (some ⟨w.heap.size, 0, none⟩) 1 1) [s] :=
 ⟨rfl, .inr ⟨_, 1, _, rfl, hb, heapNew w _, Nat.le_refl _, by unfold maxLen; omega, by simp, rfl⟩⟩
def outB (fs : St) (s : Spt) (p t : ByteArray) : List ByteArray := if firstB (nowB fs (partsQ p) s (partsQ p).length) = [] then [t] else (firstB (nowB fs (partsQ p) s (partsQ p).length)).map (·.1)
theorem paths_some (gf : Nat) (fs : St) (cwd : ByteArray) (A : Option Addr) (c : Nat) (L : List Pt) (w : World) (hf : FsOk fs) (hv : Hs (VS gf fs) w) (hm : MX w) (hcw : cwd.size ≤ 1000) (hA : RG encPt 6 w A L) (hl : L.length ≤ 1000) (hz : ∀ p ∈ L, p.text.size ≤ 1000) (hz2 : (textS L).length ≤ 1000000) (hp : (bsF (patS L)).size ≤ 200)
   (hpl : plT (bsF (patS L)) = none) (s0 : Spt) (hs0 : startB cwd (bsF (patS L)) = some s0) :
   Calls Tryz.prog 21 #[.pointer (some ⟨gf, 0, none⟩), .string cwd, .slice A L.length c] w fun e w' => (∃ v, e = .returned v ∧ OwnS w' w.heap.size v (outB fs s0 (bsF (patS L)) (bsF (textS L)))) ∧ Below w.heap.size w w' := by
 obtain ⟨w1, hw1⟩ : ∃ Z, w.alloc (.cells #[.pointer (some ⟨gf, 0, none⟩)] 23) = Z := ⟨_, rfl⟩
 have hb0 : Below w.heap.size w w1 := hw1 ▸ (Below.refl _ _).alloc (Nat.le_refl _) _
 have hgF0 := heapNew w (.cells #[.pointer (some ⟨gf, 0, none⟩)] 23)
 rw [hw1] at hgF0
 have hcF := cellOf hgF0 (j := 0) rfl
 have hsz1 : w1.heap.size = w.heap.size + 1 := by rw [← hw1]; simp
 have HPT := hide (pat_any A c L w1 (hA.below hb0) hl hz)
 have HTX := hide (fun Z (hb : Below w.heap.size w Z) => text_any A c L Z (hA.below hb) (by omega) hz2)
 obtain ⟨p, hpp⟩ : ∃ p, bsF (patS L) = p := ⟨_, rfl⟩
 obtain ⟨tx, htx⟩ : ∃ p, bsF (textS L) = p := ⟨_, rfl⟩
 rw [hpp] at HPT hp hpl hs0 ⊢
 rw [htx] at HTX ⊢
 have HPL := hide (fun Z => gplain_any p Z (by omega))
 rw [plVal_plT, hpl] at HPL
 have HPL := hide (show ∀ Z : World, Calls Tryz.prog 46 #[.string p] Z (fun e w' => e = .returned (.tuple #[.string ⟨#[]⟩, .bool false]) ∧ Below Z.heap.size Z w') from HPL.out)
 have HPR := hide (fun W => (Tryz.strings_HasPrefix p ⟨#[47]⟩ W).mono fun e w' ⟨h1, h2⟩ => (⟨h1, h2.symm⟩ : _ ∧ W = w'))
 have hpre := pre_slash p.data.toList
 rw [bs_of] at hpre
 rw [show (⟨#[47]⟩ : ByteArray).data.toList = [47] from rfl, hpre] at HPR
 obtain ⟨rb, hrb⟩ : ∃ z, decide (p.data.toList.head? = some 47) = z := ⟨_, rfl⟩
 rw [hrb] at HPR
 have HRB := hide hrb
 clear hrb
 have HSP := hide (fun W h => split_any p.data.toList 47 W h (by rw [data_len]; omega))
 rw [bs_of] at HSP
 have HAB := hide (fun W h => abs_any [47] cwd.data.toList W h (by simp) (by rw [data_len]; omega))
 unfold AbsPost at HAB
 rw [bs_of, show bs [47] = (⟨#[47]⟩ : ByteArray) from rfl] at HAB
 have HPQ := hide (fun (Z : World) (h : w.heap.size + 1 ≤ Z.heap.size) => partsQ_any p Z h (by omega))
 have hpq := partsQ_sz p
 obtain ⟨n, hn⟩ : ∃ n, L.length = n := ⟨_, rfl⟩
 rw [hn] at HPT HTX ⊢
 have HB0 := hide hb0
 have HCF := hide hcF
 have HV := hide hv
 have HM := hide hm
 have HF := hide hf
 have HW1 := hide hw1
 have HNO := hide (nowB_ok hf (partsQ p) (start_sz hs0))
 have HSZ1 := hide hsz1
 have HST := hide hs0
 have HPS := hide hpq.2
 have HPZ := hide hp
 obtain ⟨OB, hOB⟩ : ∃ z, outB fs s0 p tx = z := ⟨_, rfl⟩
 rw [hOB]
 unfold outB at hOB
 obtain ⟨P, hP⟩ : ∃ z, partsQ p = z := ⟨_, rfl⟩
 obtain ⟨k0, hk0⟩ : ∃ z, P.length = z := ⟨_, rfl⟩
 obtain ⟨SL, hSL⟩ : ∃ z, ((spl 47 p.data.toList).map bs) = z := ⟨_, rfl⟩
 rw [hP] at HPQ HNO HPS hpq hOB
 rw [hk0] at hpq hOB
 have HOB := hide hOB
 clear hOB
 rw [hSL] at HSP HPQ
 obtain ⟨sl, hsl⟩ : ∃ z, SL.length = z := ⟨_, rfl⟩
 rw [hsl] at HSP HPQ
 have HK0 := hide hk0
 have hk1 : k0 ≤ 201 := by omega
 clear hA hz hl hz2 hcw hp hpl hs0 hpp htx hn hb0 hgF0 hcF hsz1 hv hm hf hw1 hpre hpq hP hk0 hSL hsl
 go_enter Tryz.func21, Tryz.ntmps21
 go_wp2_with fail
 rw [HW1.out]
 refine HPT.out.mono ?_
 rintro e w2 ⟨rfl, hb2⟩
 have HB2 := hide (show Below (w.heap.size + 1) w1 w2 by rw [← HSZ1.out]; exact hb2)
 clear hb2
 go_wp2_with fail
 refine (HPL.out _).mono ?_
 rintro e w3 ⟨rfl, hb3⟩
 have HB3 := hide (HB2.out.trans (hb3.mono (by have := HB2.out.size; have := HSZ1.out; omega)))
 clear hb3
 have HO4 := hide (ownSp_new w3 (⟨#[47]⟩, ⟨#[47]⟩) (base := w.heap.size + 1) (by have := HB3.out.size; have := HSZ1.out; omega))
 have HB4 := hide (HB3.out.alloc (by have := HB3.out.size; have := HSZ1.out; omega) (.cells #[.string (⟨#[47]⟩ : ByteArray), .string ⟨#[47]⟩] spty))
 obtain ⟨g4, hg4⟩ : ∃ z, w3.heap.size = z := ⟨_, rfl⟩
 obtain ⟨w4, hw4⟩ : ∃ z, w3.alloc (.cells #[.string (⟨#[47]⟩ : ByteArray), .string ⟨#[47]⟩] spty) = z := ⟨_, rfl⟩
 have HW4 := hide hw4
 have HG4 := hide hg4
 dsimp only at HO4
 rw [hw4] at HO4 HB4
 rw [hg4] at HO4
 clear hw4 hg4
 go_wp2_with fail
 rw [HW4.out]
 refine (HPR.out _).mono ?_
 rintro e w5 ⟨rfl, rfl⟩
 go_upto_if 33 with (fail)
 rw [HG4.out]
 go_cut [10] from 33 to 46 (fun s10 wx => OwnSp wx (w.heap.size + 1) s10 [s0] ∧ Below (w.heap.size + 1) w1 wx)
 case first =>
   cases rb with
   | true =>
     have hr : p.data.toList.head? = some 47 := by simpa using HRB.out
     have he : s0 = (⟨#[47]⟩, ⟨#[47]⟩) := by
       have := HST.out
       unfold startB at this
       rw [if_pos hr] at this
       exact (Option.some.inj this).symm
     have HE := hide he
     clear he hr
     go_wp2
     go_meet
     rw [HE.out]
     exact ⟨HO4.out, HB4.out⟩
   | false =>
     have hr : ¬ p.data.toList.head? = some 47 := by simpa using HRB.out
     have he : (absF [47] cwd.data.toList).2 = 0 ∧ s0 = (⟨#[]⟩, bs (absF [47] cwd.data.toList).1) := by
       have := HST.out
       unfold startB at this
       rw [if_neg hr] at this
       by_cases h0 : (absF [47] cwd.data.toList).2 ≠ 0
       · rw [if_pos h0] at this; cases this
       · rw [if_neg h0] at this
         exact ⟨by omega, (Option.some.inj this).symm⟩
     obtain ⟨he1, he2⟩ := he
     rw [he1] at HAB
     obtain ⟨q, hq⟩ : ∃ z, bs (absF [47] cwd.data.toList).1 = z := ⟨_, rfl⟩
     rw [hq] at HAB he2
     have HE := hide he2
     clear he2 hr he1 hq
     go_wp2_with fail
     have hwx : Below w.heap.size w w4 := HB0.out.trans (HB4.out.mono (by omega))
     refine (HAB.out _ (HM.out.below hwx)).mono ?_
     clear hwx
     rintro e w6 ⟨rfl, hb6⟩
     have HB6 := hide (HB4.out.trans (hb6.mono (by have := HB4.out.size; have := HSZ1.out; omega)))
     clear hb6
     have HO7 := hide (ownSp_new w6 (⟨#[]⟩, q) (base := w.heap.size + 1) (by have := HB6.out.size; have := HSZ1.out; omega))
     have HB7 := hide (HB6.out.alloc (by have := HB6.out.size; have := HSZ1.out; omega) (.cells #[.string q, .string (⟨#[]⟩ : ByteArray)] spty))
     go_wp2
     go_meet
     rw [HE.out]
     exact ⟨HO7.out, HB7.out⟩
 case rest =>
   obtain ⟨ho5, hb5⟩ := hcut
   have HO5 := hide ho5
   have HB5 := hide hb5
   have hs1 : w.heap.size + 1 ≤ wc.heap.size := by have := hb5.size; have := HSZ1.out; omega
   have HP5 := hide (HPQ.out wc hs1)
   clear ho5 hb5 hs1 HAB HO4 HB4 HW4 HG4 HST HRB HPT HPL HPR HB2 HB3 HPQ
   go_wp2_with fail
   have hwx : Below w.heap.size w wc := HB0.out.trans (HB5.out.mono (by omega))
   refine (HSP.out _ (HM.out.below hwx)).mono ?_
   clear hwx
   rintro e w5 ⟨rfl, rfl⟩
   go_wp2_with fail
   refine HP5.out.mono ?_
   rintro e w6 ⟨vP, rfl, hop, hb6, hob⟩
   obtain ⟨PA, pc, rfl, hlc, hsr, hpa⟩ := hop.slice
   have HSR := hide hsr
   have HPA := hide (show ∀ a, PA = some a → a.block < w6.heap.size ∧ a.block = wc.heap.size from fun a e => by
     have := hpa a e
     exact ⟨(World.ownsRow.lt hop _ this).2, (hob _ this).symm⟩)
   have HO6 := hide (show OwnSp w6 (w.heap.size + 1) u10 [s0] from ownsRow_of HO5.out fun k e => hb6.block k (HO5.out.lt k e).2)
   have HB6 := hide (HB5.out.trans (hb6.mono (by have := HB5.out.size; have := HSZ1.out; omega)))
   have HA6 := hide (show ∀ k, u10.ownBlock = some k → ∀ a, PA = some a → a.block ≠ k from fun k e a ea => by
     have := (HO5.out.lt k e).2
     have := (HPA.out a ea).2
     omega)
   clear hop hb6 hob hlc hsr hpa HP5 HO5 HB5 HSP
   rw [HK0.out]
   go_wp2_with fail
   go_loopw [10, 14, 15, 52] (fun v10 _ _ v52 wr => ∃ i : Nat, v52 = .int .i64 i ∧ i ≤ k0 ∧ Hid (OwnSp wr (w.heap.size + 1) v10 (nowB fs P s0 i)) ∧ Hid (Below (w.heap.size + 1) w1 wr) ∧ Hid (SR wr PA P) ∧ Hid (∀ k, v10.ownBlock = some k → ∀ a, PA = some a → a.block ≠ k) ∧ Hid (∀ a, PA = some a → a.block < wr.heap.size)) (fun _ _ _ v52 _ => k0 - (intOf v52).toNat)
   case atStart => exact ⟨0, rfl, by omega, HO6, HB6, HSR, HA6, hide fun a e => (HPA.out a e).1⟩
   case round =>
     obtain ⟨ws, hws⟩ : ∃ Z, Z = wr := ⟨_, rfl⟩
     subst hws
     obtain ⟨i, rfl, hi, HO, HB, HS, HA, HPB⟩ := hrel
     by_cases hlt : i < k0
     case neg =>
       obtain rfl : i = k0 := by omega
       have HFI := hide (first_any HO.out (HNO.out i).ok.nodup (by have := (HNO.out i).len; omega))
       have hlow := fun q e => (HO.out.lt q e).1
       obtain ⟨F, hF⟩ : ∃ z, firstB (nowB fs P s0 i) = z := ⟨_, rfl⟩
       have hm5 := firstB_le (nowB fs P s0 i)
       rw [hF] at HFI hm5
       have HLOW := hide hlow
       have HFE := hide hF
       clear hF hlow
       go_wp2_with fail
       refine HFI.out.mono ?_
       clear HFI
       rintro e w2 ⟨⟨v', rfl, ho, _⟩, hg⟩
       obtain ⟨A3, c3, rfl, _, hrg, _, _⟩ := ho.slice encSp_len
       have hb2 : Below (w.heap.size + 1) w1 w2 := HB.out.grown hg (by have := HB.out.size; have := HSZ1.out; omega) HLOW.out
       have HB2 := hide (show Below w.heap.size w w2 from HB0.out.trans (hb2.mono (by omega)))
       have HRG := hide hrg
       obtain ⟨m, hmm⟩ : ∃ z, F.length = z := ⟨_, rfl⟩
       have HMM := hide hmm
       rw [hmm] at hm5
       rw [hmm]
       clear ho hg hrg hb2 hmm HO HB HS HA HPB HO6 HB6 HSR HA6 HPA HNO HPS HLOW HV HM HF
       go_wp2_with fail
       go_loopw [16, 18, 74] (fun v16 _ v74 wr => ∃ j : Nat, v74 = .int .i64 j ∧ j ≤ m ∧ Hid (OwnS wr w.heap.size v16 ((F.take j).map (·.1))) ∧ Hid (Below w.heap.size w wr) ∧ Hid (RG encSp 2 wr A3 F) ∧ Hid (∀ k, v16.ownBlock = some k → w2.heap.size ≤ k) ∧ Hid (Below w2.heap.size w2 wr)) (fun _ _ v74 _ => m - (intOf v74).toNat)
       case atStart => exact ⟨0, rfl, by omega, hide (OwnS.nil _ _), HB2, HRG, hide (fun k e => by cases e), hide (Below.refl _ _)⟩
       case round =>
         obtain ⟨wk, hwk⟩ : ∃ Z, Z = wr := ⟨_, rfl⟩
         subst hwk
         obtain ⟨j, rfl, hj, HO, HB, HR, HQ, HW2⟩ := hrel
         by_cases hjl : j < m
         case neg =>
           obtain rfl : j = m := by omega
           have HT := hide (show F.take j = F from List.take_of_length_le (by have := HMM.out; omega))
           rw [HT.out] at HO
           obtain ⟨A5, c5, rfl, _, _, _⟩ := HO.out.slice
           rw [List.length_map, HMM.out] at HO ⊢
           by_cases hm0 : j = 0
           · subst hm0
             have HE := hide (show F = [] from List.eq_nil_of_length_eq_zero HMM.out)
             have HTT := hide (HTX.out _ HB.out)
             go_wp2_with fail
             refine HTT.out.mono ?_
             rintro e w9 ⟨rfl, hb9⟩
             have HB9 := hide (HB.out.trans (hb9.mono HB.out.size))
             have HO9 := hide (OwnS.newL w9 [tx] (base := w.heap.size) HB9.out.size (by simp))
             clear hb9
             go_wp2
             go_ret
             have hob := HOB.out
             rw [HFE.out, if_pos HE.out] at hob
             rw [← hob]
             exact ⟨⟨_, rfl, HO9.out⟩, HB9.out.alloc HB9.out.size _⟩
           · have hji : ¬ (j : Int) = 0 := by omega
             have HE := hide (show F ≠ [] from fun e => hm0 (by rw [← HMM.out, e]; rfl))
             go_wp2
             go_ret
             have hob := HOB.out
             rw [HFE.out, if_neg HE.out] at hob
             rw [← hob]
             exact ⟨⟨_, rfl, HO.out⟩, HB.out⟩
         have bj : (j : Int) < (m : Int) := by omega
         obtain ⟨s, hs⟩ : ∃ s, F[j]? = some s := ⟨_, List.getElem?_eq_getElem (by have := HMM.out; omega)⟩
         obtain ⟨gs, os, rfl, hgs, hcs⟩ := HR.out j s hs
         have hc0 : wk.cell? ⟨gs, os + j * 2, none⟩ = some (.string s.2) := hcs 0 _ rfl
         have hc1 : wk.cell? ⟨gs, os + j * 2 + 1, none⟩ = some (.string s.1) := hcs 1 _ rfl
         obtain ⟨vA, vc, rfl, _, _, _⟩ := HO.out.slice
         obtain ⟨ln, hln⟩ : ∃ z, ((F.take j).map (·.1)).length = z := ⟨_, rfl⟩
         have hlj : ln ≤ 500 := by rw [← hln, List.length_map, List.length_take]; omega
         rw [hln] at HO HQ ⊢
         have HTN := hide (show (F.take (j + 1)).map (·.1) = (F.take j).map (·.1) ++ [s.1] by
           rw [List.take_add_one, hs, List.map_append]
           rfl)
         have hva := heapNew wk (.cells #[.string s.2, .string s.1] spty)
         have hv0 := cellOf hva (j := 0) rfl
         have hv1 := cellOf hva (j := 1) rfl
         have hoA := OwnS.alloc (OwnS.alloc HO.out (.cells #[.string s.2, .string s.1] spty)) (.cells #[.string s.1] 9)
         have hbA := (HB.out.alloc HB.out.size (.cells #[.string s.2, .string s.1] spty)).alloc (by have := HB.out.size; simp; omega) (.cells #[.string s.1] 9)
         obtain ⟨v4, w4, hrn, ho4, hg4, hv4⟩ := run_appS (c := 1) hoA (sr_new (wk.alloc (.cells #[.string s.2, .string s.1] spty)) s.1) (by have := HB.out.size; simp; omega) (by rw [hln, List.length_singleton]; omega)
         rw [show (wk.alloc (.cells #[.string s.2, .string s.1] spty)).heap.size = wk.heap.size + 1 by simp] at hrn
         have HRN := hide hrn
         have HO4 := hide (show OwnS w4 w.heap.size v4 ((F.take (j + 1)).map (·.1)) by rw [HTN.out]; exact ho4)
         have HB4 := hide (show Below w.heap.size w w4 from hbA.grown hg4 (by have := HB.out.size; simp; omega) (fun q e => (HO.out.lt q e).1))
         have hbA2 := (HW2.out.alloc HW2.out.size (.cells #[.string s.2, .string s.1] spty)).alloc (by have := HW2.out.size; simp; omega) (.cells #[.string s.1] 9)
         have hb24 : Below w2.heap.size w2 w4 := hbA2.grown hg4 (by have := HW2.out.size; simp; omega) (fun q e => HQ.out q e)
         have HW4 := hide hb24
         have HR4 := hide (HRG.out.below hb24)
         have HQ4 := hide (show ∀ k, v4.ownBlock = some k → w2.heap.size ≤ k from fun k e => by
           rcases hv4 with h | h
           · exact HQ.out k (h ▸ e)
           · rw [h] at e
             injection e with e
             have := HW2.out.size
             simp at e
             omega)
         clear hrn ho4 hg4 hv4 hbA hbA2 hb24 hoA hva hs hcs hln
         go_wp2_with (at_builtin; refine wpList_app_run ?_ (.tmp 78) (.tmp 81) ?_ ?_ ?_ ?_ HRN.out ?_; exact rfl; exact rfl; exact rfl; exact rfl; exact rfl)
         go_roundw
         case rel => exact ⟨j + 1, by go_num, by omega, HO4, HB4, HR4, HQ4, HW4⟩
         case measure => simp [intOf]; omega
     have b1 : (i : Int) < (k0 : Int) := by omega
     obtain ⟨nm, hnm⟩ : ∃ nm, P[i]? = some nm := ⟨_, List.getElem?_eq_getElem (by have := HK0.out; omega)⟩
     have hnz : nm.size ≤ 200 := Nat.le_trans (HPS.out nm (List.mem_of_getElem? hnm)) HPZ.out
     obtain ⟨gx, ox, rfl, hgx, hcx⟩ := HS.out i nm hnm
     have hba : Below ws.heap.size ws (ws.alloc (.cells #[.string nm] 9)) := (Below.refl _ _).alloc (Nat.le_refl _) _
     have hvr := cellOf (heapNew ws (.cells #[.string nm] 9)) (j := 0) rfl
     have hsl : w.heap.size + 1 ≤ ws.heap.size := by have := HB.out.size; have := HSZ1.out; omega
     have hwz : ws.heap.size < (ws.alloc (.cells #[.string nm] 9)).heap.size := by simp
     obtain ⟨W, hW⟩ : ∃ Z, ws.alloc (.cells #[.string nm] 9) = Z := ⟨_, rfl⟩
     rw [hW] at hba hvr hwz
     have HW := hide hW
     have hbw : Below (w.heap.size + 1) w1 W := HB.out.trans (hba.mono hsl)
     have HFS := hide (round_calls gf fs HF.out (w.heap.size + 1) HSZ1.out HB0.out HV.out HM.out ws.heap.size nm (by omega) (some ⟨gx, ox, none⟩) P (nowB fs P s0 i) i (HNO.out i) (by omega) u10 (ownsRow_of HO.out fun k e => hba.block k (HO.out.lt k e).2) hbw hvr (HS.out.below hba) (fun a e => by have := HPB.out a e; omega) (fun k e => ⟨by have := (HO.out.lt k e).2; omega, HA.out k e⟩) HCF.out)
     have hcf : W.cell? ⟨w.heap.size, 0, none⟩ = some (.pointer (some ⟨gf, 0, none⟩)) := (hbw.cell (p := ⟨w.heap.size, 0, none⟩) (by show w.heap.size < w.heap.size + 1; omega)).trans HCF.out
     have HNX := hide (show nowB fs P s0 (i + 1) = if i + 1 < P.length then (stepB fs (firstB (nowB fs P s0 i)) nm).filter (fun x => !keepB fs nm x) else stepB fs (firstB (nowB fs P s0 i)) nm by
       show (match P[i]? with | none => _ | some p => _) = _
       rw [hnm])
     have hno := (HNO.out i).step HF.out nm
     rw [HK0.out] at HNX
     obtain ⟨m, hmm⟩ : ∃ z, (firstB (nowB fs P s0 i)).length = z := ⟨_, rfl⟩
     rw [hmm] at HFS
     obtain ⟨NX, hNX⟩ : ∃ z, stepB fs (firstB (nowB fs P s0 i)) nm = z := ⟨_, rfl⟩
     rw [hNX] at HFS HNX hno
     have HNL := hide hno.2
     have HNZ := hide hnz
     have HSL := hide hsl
     have HWZ := hide hwz
     clear hba hW hmm hNX hnm hno hnz hbw hsl hwz
     go_upto_region 15 with (fail)
     rw [HW.out]
     go_cut [10] from 57 to 61 (fun v10 wx => RoundP (w.heap.size + 1) w1 ws.heap.size nm (some ⟨gx, ox, none⟩) P NX v10 wx)
     case first =>
       rename_i J K' hJ hK
       go_region_with (first
         | (go_at_call 53; refine (HFS.out _ (by first | exact Below.refl _ _ | exact (Below.refl _ _).drew | exact (Below.refl _ _).drew.drew)).mono ?_; rintro e w3 ⟨A3, c3, rfl, hF3, hN3, hst⟩; have HST := hide hst; clear hst)
         | (go_at_call 52; refine (HST.out _ (by first | exact Below.refl _ _ | exact (Below.refl _ _).drew | exact (Below.refl _ _).drew.drew)).mono ?_; rintro e w4 ⟨u, rfl, hr⟩; have HR := hide hr; clear hr))
       all_goals
         go_simp
         refine hK _ _ (Met.intro (hJ _ _ ?_))
         (repeat apply Exists.intro)
         refine ⟨?_, rfl⟩
         exact HR.out
     case rest =>
       obtain ⟨ho7, hb7, hn7, hs7, hne7⟩ := hcut
       have hsz7 : w.heap.size + 1 ≤ wc.heap.size := by have := hb7.size; have := HSZ1.out; omega
       have hw7 : ws.heap.size < wc.heap.size := World.block_lt_of_cell? wc _ hn7
       have hpb : gx < ws.heap.size := HPB.out _ rfl
       by_cases hl2 : i + 1 < k0
       · have b2 : (i : Int) + 1 < (k0 : Int) := by omega
         have eg : ∀ args w, (callFunc 55 args).run Tryz.prog w = .ok (.enter 55 args) w := enters_of Tryz.func55 (by kernel_rfl) rfl
         have hdl := delSp_any (keepB fs nm) 55 #[.pointer (some ⟨w.heap.size, 0, none⟩), .pointer (some ⟨ws.heap.size, 0, none⟩)] eg ho7 (by have := HNL.out.1; omega) (fun W' x hx hk => by
           have hbW : Below (w.heap.size + 1) w1 W' := hk.below hb7 (by have := HSZ1.out; omega) (fun k e => (ho7.lt k e).1)
           have hwW : Below w.heap.size w W' := HB0.out.trans (hbW.mono (by omega))
           exact paths2_any gf w.heap.size ws.heap.size fs nm x W' (HV.out.below (VS.fr _ _) hwW) (HM.out.below hwW) (by have := HNZ.out; omega) (by have := HNL.out.2 x hx; omega) ((hbW.cell (p := ⟨w.heap.size, 0, none⟩) (by show w.heap.size < w.heap.size + 1; omega)).trans HCF.out) (hk.cell hn7 (fun e => (hne7 _ e).1 rfl)))
         have HDL := hide hdl
         have HX := hide (show ∀ (v8 : Value) (w8 : World), OwnSp w8 (w.heap.size + 1) v8 (NX.filter fun x => !keepB fs nm x) → Kp wc w8 (fun k => u10.ownBlock = some k) → (∀ k, v8.ownBlock = some k → u10.ownBlock = some k) → Hid (OwnSp w8 (w.heap.size + 1) v8 (nowB fs P s0 (i + 1))) ∧ Hid (Below (w.heap.size + 1) w1 w8) ∧ Hid (SR w8 (some ⟨gx, ox, none⟩) P) ∧ Hid (∀ k, v8.ownBlock = some k → ∀ a, (some ⟨gx, ox, none⟩ : Option Addr) = some a → a.block ≠ k) ∧ Hid (∀ a, (some ⟨gx, ox, none⟩ : Option Addr) = some a → a.block < w8.heap.size) from fun v8 w8 ho8 hk8 hs8 => by
           refine ⟨hide (by rw [HNX.out, if_pos hl2]; exact ho8), hide (hk8.below hb7 (by have := HSZ1.out; omega) (fun k e => (ho7.lt k e).1)), hide (hs7.ofK hk8.size (fun a ea _ hla => hk8.block _ hla (fun e => (hne7 _ e).2 a ea rfl))), hide (fun k e a ea => (hne7 _ (hs8 k e)).2 a ea), hide (fun a ea => ?_)⟩
           injection ea with ea
           rw [← ea]
           have := hk8.size
           show gx < w8.heap.size
           omega)
         clear hdl ho7 hb7 hn7 hs7 hne7 hsz7 hw7 hpb
         go_wp2_with fail
         refine HDL.out.mono ?_
         rintro e w8 ⟨v8, rfl, ho8, hk8, hs8⟩
         obtain ⟨HO8, HB8, HS8, HA8, HP8⟩ := HX.out v8 w8 ho8 hk8 hs8
         clear ho8 hk8 hs8
         go_wp2
         go_roundw
         case rel => exact ⟨i + 1, by go_num, by omega, HO8, HB8, HS8, HA8, HP8⟩
         case measure => simp [intOf]; omega
       · have b2 : ¬ (i : Int) + 1 < (k0 : Int) := by omega
         have HO8 := hide (show OwnSp wc (w.heap.size + 1) u10 (nowB fs P s0 (i + 1)) by rw [HNX.out, if_neg hl2]; exact ho7)
         have HB8 := hide hb7
         have HS8 := hide hs7
         have HA8 := hide (fun k e => (hne7 k e).2)
         have HP8 := hide (show ∀ a, (some ⟨gx, ox, none⟩ : Option Addr) = some a → a.block < wc.heap.size from fun a ea => by
           injection ea with ea
           rw [← ea]
           show gx < wc.heap.size
           omega)
         clear ho7 hb7 hn7 hs7 hne7 hsz7 hw7 hpb
         go_wp2
         go_roundw
         case rel => exact ⟨i + 1, by go_num, by omega, HO8, HB8, HS8, HA8, HP8⟩
         case measure => simp [intOf]; omega
end
section
open Go.RowKit Go.Deep
attribute [local go_sem] bt_eq
def SpP (w0 : World) (po pn : Nat) (s : Sp) (m : Nat) (w' : World) : Prop := ∃ (out : List FR) (vo vn : Value), out.map FR.L = s.1 ∧ out.length ≤ m ∧ SpI w0 po pn out s.2 vo vn w'
theorem end_any (w0 : World) (po pn : Nat) (s : Sp) (m : Nat) (w : World) (h : SpP w0 po pn s m w) (hm : m ≤ 1000000) (hn : s.2.length ≤ 1000000) :
   Calls Tryz.prog 92 #[.pointer (some ⟨pn, 0, none⟩), .pointer (some ⟨po, 0, none⟩)] w fun e w' => e = .returned (.tuple #[]) ∧ SpP w0 po pn (flushS s) (m + 1) w' := by
 obtain ⟨out, vo, vn, ho1, ho2, hi⟩ := h
 obtain ⟨os, now⟩ := s
 dsimp only at ho1 hi hn
 subst ho1
 obtain ⟨A0, c0, rfl, _, _, _, _⟩ := hi.oo.slice encFR_len
 obtain ⟨A, c, rfl, _, _, _, _⟩ := hi.on.slice encPt_len
 have hcn := cellOfF hi.hn (j := 0) rfl
 have hfn := freeOfF hi.hn 0
 have hco := cellOfF hi.ho (j := 0) rfl
 by_cases hne : now = []
 · subst hne
   have HF := hide hi.flush0
   rw [List.length_nil] at hcn
   clear hi
   go_enter Tryz.func92, Tryz.ntmps92
   go_wp2
   go_end0
   exact ⟨rfl, out, _, _, by simp [flushS], by omega, HF.out⟩
 · obtain ⟨A', c', w4, hrun, ⟨h1, h2⟩, ⟨h3, h4⟩, h5⟩ := hi.flush1 hne (by omega)
   have HF := hide h5
   have hfl : flushS (out.map FR.L, now) = (out.map FR.L ++ [now], []) := by unfold flushS; rw [if_neg hne]
   rw [hfl]
   have hlp : 0 < now.length := List.length_pos_iff.2 hne
   obtain ⟨n, hn2⟩ : ∃ n, now.length = n := ⟨_, rfl⟩
   obtain ⟨n0, hn0⟩ : ∃ n, out.length = n := ⟨_, rfl⟩
   rw [hn2] at hcn hrun h3 hlp
   rw [hn0] at hco hrun h1 h3 h4
   have HN0 := hide hn0
   have hlpi : (0 : Int) < (n : Int) := by omega
   clear hi h5 hne hn2 hfl hn0
   go_enter Tryz.func92, Tryz.ntmps92
   go_wp2_with (at_builtin; refine wpList_app_run ?_ (.tmp 5) (.tmp 7) ?_ ?_ ?_ ?_ hrun ?_; exact rfl; exact rfl; exact rfl; exact rfl; exact rfl)
   go_end0
   have hf := HF.out
   rw [HN0.out] at hf
   exact ⟨rfl, out ++ [⟨A, c, now⟩], _, _, by simp, by rw [List.length_append, List.length_singleton]; omega, hf⟩
end
section
open Go.RowKit Go.Deep
theorem setCell_comm (W : World) (g i g' i' : Nat) (u v : Value) (h : g ≠ g') : (W.setCell ⟨g, i, none⟩ u).setCell ⟨g', i', none⟩ v = (W.setCell ⟨g', i', none⟩ v).setCell ⟨g, i, none⟩ u := by
 unfold World.setCell
 dsimp only
 congr 1
 apply Array.ext_getElem?
 intro k
 simp only [Array.getElem?_modify]
 by_cases h1 : g = k
 · have h2 : ¬ g' = k := fun e => h (h1.trans e.symm)
   simp [h1, h2]
 · by_cases h2 : g' = k
   · simp [h1, h2]
   · simp [h1, h2]
theorem ownsRow_store {w : World} {base : Nat} {e : TypeId} {n g len cap : Nat} {vals : List Value} (h : w.ownsRow base e n (.slice (some ⟨g, 0, none⟩) len cap) len vals) {i : Nat} (hi : i < len * n) (u : Value) :
   (∃ v, w.cell? ⟨g, i, none⟩ = some v) ∧ w.frozen? ⟨g, i, none⟩ = false ∧ (w.setCell ⟨g, i, none⟩ u).ownsRow base e n (.slice (some ⟨g, 0, none⟩) len cap) len (vals.set i u) := by
 obtain ⟨h1, h2⟩ := h
 rcases h2 with ⟨h2, _⟩ | ⟨g', cap', cur, e1, hb, hh, hc, hm, hs, ht⟩
 · cases h2
 injection e1 with e1 e2 e3
 injection e1 with e1
 injection e1 with e1
 subst e1 e3
 have hcur : i < cur.size := by
   rw [hs]
   exact Nat.lt_of_lt_of_le hi (Nat.mul_le_mul_right n hc)
 refine ⟨⟨cur[i], by simp [World.cell?, hh, hcur]⟩, by simp [World.frozen?, hh], by rw [List.length_set]; exact h1, .inr ⟨g, cap, cur.setIfInBounds i u, rfl, hb, ?_, hc, hm, by simpa using hs, ?_⟩⟩
 · simp [World.setCell, Array.getElem?_modify, hh]
 · rw [Array.toList_setIfInBounds, List.take_set, ht]
def set6 (W : World) (g k : Nat) (x : Pt) : World := (((((W.setCell ⟨g, k, none⟩ (.int .i64 x.kind)).setCell ⟨g, k + 1, none⟩ (.string x.text)).setCell ⟨g, k + 2, none⟩ (.string x.name)).setCell ⟨g, k + 3, none⟩ (.string x.op)).setCell ⟨g, k + 4, none⟩ (.slice x.wA x.wn x.wc)).setCell ⟨g, k + 5, none⟩ (.bool x.q)
def Can6 (W : World) (g k : Nat) (x : Pt) : Prop :=
 ((∃ v, W.cell? ⟨g, k, none⟩ = some v) ∧ W.frozen? ⟨g, k, none⟩ = false) ∧
 ((∃ v, (W.setCell ⟨g, k, none⟩ (.int .i64 x.kind)).cell? ⟨g, k + 1, none⟩ = some v) ∧ (W.setCell ⟨g, k, none⟩ (.int .i64 x.kind)).frozen? ⟨g, k + 1, none⟩ = false) ∧
 ((∃ v, ((W.setCell ⟨g, k, none⟩ (.int .i64 x.kind)).setCell ⟨g, k + 1, none⟩ (.string x.text)).cell? ⟨g, k + 2, none⟩ = some v) ∧ ((W.setCell ⟨g, k, none⟩ (.int .i64 x.kind)).setCell ⟨g, k + 1, none⟩ (.string x.text)).frozen? ⟨g, k + 2, none⟩ = false) ∧
 ((∃ v, (((W.setCell ⟨g, k, none⟩ (.int .i64 x.kind)).setCell ⟨g, k + 1, none⟩ (.string x.text)).setCell ⟨g, k + 2, none⟩ (.string x.name)).cell? ⟨g, k + 3, none⟩ = some v) ∧ (((W.setCell ⟨g, k, none⟩ (.int .i64 x.kind)).setCell ⟨g, k + 1, none⟩ (.string x.text)).setCell ⟨g, k + 2, none⟩ (.string x.name)).frozen? ⟨g, k + 3, none⟩ = false) ∧
 ((∃ v, ((((W.setCell ⟨g, k, none⟩ (.int .i64 x.kind)).setCell ⟨g, k + 1, none⟩ (.string x.text)).setCell ⟨g, k + 2, none⟩ (.string x.name)).setCell ⟨g, k + 3, none⟩ (.string x.op)).cell? ⟨g, k + 4, none⟩ = some v) ∧ ((((W.setCell ⟨g, k, none⟩ (.int .i64 x.kind)).setCell ⟨g, k + 1, none⟩ (.string x.text)).setCell ⟨g, k + 2, none⟩ (.string x.name)).setCell ⟨g, k + 3, none⟩ (.string x.op)).frozen? ⟨g, k + 4, none⟩ = false) ∧
 ((∃ v, (((((W.setCell ⟨g, k, none⟩ (.int .i64 x.kind)).setCell ⟨g, k + 1, none⟩ (.string x.text)).setCell ⟨g, k + 2, none⟩ (.string x.name)).setCell ⟨g, k + 3, none⟩ (.string x.op)).setCell ⟨g, k + 4, none⟩ (.slice x.wA x.wn x.wc)).cell? ⟨g, k + 5, none⟩ = some v) ∧ (((((W.setCell ⟨g, k, none⟩ (.int .i64 x.kind)).setCell ⟨g, k + 1, none⟩ (.string x.text)).setCell ⟨g, k + 2, none⟩ (.string x.name)).setCell ⟨g, k + 3, none⟩ (.string x.op)).setCell ⟨g, k + 4, none⟩ (.slice x.wA x.wn x.wc)).frozen? ⟨g, k + 5, none⟩ = false)
theorem set_at {α : Type} {a b : List α} {k j : Nat} (h : a.length = k) (v : α) : (a ++ b).set (k + j) v = a ++ b.set j v := by
 rw [List.set_append, if_neg (by omega)]
 congr 2
 omega
theorem set6_ok {W : World} {base g n c : Nat} {L : List Pt} {y : Pt} (h : OwnG encPt 6 tyP W base (.slice (some ⟨g, 0, none⟩) (n + 1) c) (L ++ [y])) (hn : L.length = n) (x : Pt) :
   Can6 W g (n * 6) x ∧ OwnG encPt 6 tyP (set6 W g (n * 6) x) base (.slice (some ⟨g, 0, none⟩) (n + 1) c) (L ++ [x]) := by
 have hl : (L ++ [y]).length = n + 1 := by simp [hn]
 have hlx : (L ++ [x]).length = n + 1 := by simp [hn]
 unfold OwnG at h ⊢
 rw [hl] at h
 rw [hlx]
 have s0 := ownsRow_store h (i := n * 6) (by omega) (.int .i64 x.kind)
 have s1 := ownsRow_store s0.2.2 (i := n * 6 + 1) (by omega) (.string x.text)
 have s2 := ownsRow_store s1.2.2 (i := n * 6 + 2) (by omega) (.string x.name)
 have s3 := ownsRow_store s2.2.2 (i := n * 6 + 3) (by omega) (.string x.op)
 have s4 := ownsRow_store s3.2.2 (i := n * 6 + 4) (by omega) (.slice x.wA x.wn x.wc)
 have s5 := ownsRow_store s4.2.2 (i := n * 6 + 5) (by omega) (.bool x.q)
 refine ⟨⟨⟨s0.1, s0.2.1⟩, ⟨s1.1, s1.2.1⟩, ⟨s2.1, s2.2.1⟩, ⟨s3.1, s3.2.1⟩, ⟨s4.1, s4.2.1⟩, ⟨s5.1, s5.2.1⟩⟩, ?_⟩
 have hv : (valsG encPt L).length = n * 6 := by rw [valsG_len encPt_len, hn]
 have e : ((((((valsG encPt (L ++ [y])).set (n * 6) (.int .i64 x.kind)).set (n * 6 + 1) (.string x.text)).set (n * 6 + 2) (.string x.name)).set (n * 6 + 3) (.string x.op)).set (n * 6 + 4) (.slice x.wA x.wn x.wc)).set (n * 6 + 5) (.bool x.q) = valsG encPt (L ++ [x]) := by
   rw [valsG_app, valsG_app]
   have h0 := fun (b : List Value) (v : Value) => set_at (b := b) (j := 0) hv v
   simp only [Nat.add_zero] at h0
   rw [h0, set_at hv, set_at hv, set_at hv, set_at hv, set_at hv]
   rfl
 rw [← e]
 exact s5.2.2
theorem set6_kp (W : World) (g k : Nat) (x : Pt) : Kp W (set6 W g k x) (fun b => b = g) := by
 have t : ∀ {A B : World} {i : Nat} {v : Value}, Kp A B (fun b => b = g) → Kp A (B.setCell ⟨g, i, none⟩ v) (fun b => b = g) := fun h => h.trans (objKp.mono fun q e => .inl e)
 exact t (t (t (t (t objKp))))
theorem set6_comm (W : World) (g k : Nat) (x : Pt) (p : Nat) (V : Value) (h : g ≠ p) : set6 (W.setCell ⟨p, 0, none⟩ V) g k x = (set6 W g k x).setCell ⟨p, 0, none⟩ V := by
 unfold set6
 have c := fun (Z : World) i u => setCell_comm Z p 0 g i V u (fun e => h e.symm)
 rw [c, c, c, c, c, c]
theorem SpI.push {w0 w : World} {po pn : Nat} {out : List FR} {now : List Pt} {vo : Value} {A : Option Addr} {n c : Nat} (h : SpI w0 po pn out now vo (.slice A n c) w) (hl : now.length ≤ 1000000) (x : Pt) :
   ∃ g c' w4, (Builtin.append_ #[tyN, tyN] tyN #[.slice A n c, .slice (some ⟨w.heap.size, 0, none⟩) 1 1]).run Tryz.prog (w.alloc (.cells #[.int .i64 0, .string ⟨#[]⟩, .string ⟨#[]⟩, .string ⟨#[]⟩, .slice none 0 0, .bool false] tyP)) = .ok (.slice (some ⟨g, 0, none⟩) (n + 1) c') w4 ∧
     (w4.cell? ⟨pn, 0, none⟩ = some (.slice A n c) ∧ w4.frozen? ⟨pn, 0, none⟩ = false) ∧ Can6 w4 g (n * 6) x ∧
     ((set6 w4 g (n * 6) x).cell? ⟨pn, 0, none⟩ = some (.slice A n c) ∧ (set6 w4 g (n * 6) x).frozen? ⟨pn, 0, none⟩ = false) ∧
     Can6 (w4.setCell ⟨pn, 0, none⟩ (.slice (some ⟨g, 0, none⟩) (n + 1) c')) g (n * 6) x ∧
     set6 (w4.setCell ⟨pn, 0, none⟩ (.slice (some ⟨g, 0, none⟩) (n + 1) c')) g (n * 6) x = (set6 w4 g (n * 6) x).setCell ⟨pn, 0, none⟩ (.slice (some ⟨g, 0, none⟩) (n + 1) c') ∧
     (∀ b, b < w.heap.size → b ≠ pn → (Value.slice A n c).ownBlock ≠ some b → w4.heap[b]? = w.heap[b]? ∧ (set6 w4 g (n * 6) x).heap[b]? = w.heap[b]? ∧ (w4.setCell ⟨pn, 0, none⟩ (.slice (some ⟨g, 0, none⟩) (n + 1) c')).heap[b]? = w.heap[b]? ∧ ((set6 w4 g (n * 6) x).setCell ⟨pn, 0, none⟩ (.slice (some ⟨g, 0, none⟩) (n + 1) c')).heap[b]? = w.heap[b]?) ∧
     SpI w0 po pn out (now ++ [x]) vo (.slice (some ⟨g, 0, none⟩) (n + 1) c') ((set6 w4 g (n * 6) x).setCell ⟨pn, 0, none⟩ (.slice (some ⟨g, 0, none⟩) (n + 1) c')) := by
 obtain ⟨A1, c1, e, hc, hr, hb, _⟩ := h.on.slice encPt_len
 injection e with e1 e2 e3
 subst e1 e2 e3
 have hba := (Below.refl w.heap.size w).alloc (Nat.le_refl _) (.cells #[.int .i64 0, .string ⟨#[]⟩, .string ⟨#[]⟩, .string ⟨#[]⟩, .slice none 0 0, .bool false] tyP)
 have h3 := h.step hba
 have hx : RG encPt 6 (w.alloc (.cells #[.int .i64 0, .string ⟨#[]⟩, .string ⟨#[]⟩, .string ⟨#[]⟩, .slice none 0 0, .bool false] tyP)) (some ⟨w.heap.size, 0, none⟩) [pt0] := rg_new (enc := encPt) (n := 6) w pt0 tyP
 obtain ⟨v4, w4, hrun, ho, hg, hv⟩ := run_appG rowPt encPt_len encPt_one (c := 1) h3.on hx h3.below.size (by simp; omega)
 obtain ⟨A', c', e9, _, _, hb9, hg9⟩ := ho.slice encPt_len
 have hlen : (now ++ [pt0]).length = now.length + 1 := by simp
 rw [hlen] at e9
 subst e9
 have hsz : (w.alloc (.cells #[.int .i64 0, .string ⟨#[]⟩, .string ⟨#[]⟩, .string ⟨#[]⟩, .slice none 0 0, .bool false] tyP)).heap.size = w.heap.size + 1 := by simp
 obtain ⟨g, rfl⟩ : ∃ g, A' = some ⟨g, 0, none⟩ := by
   rcases ho.2 with ⟨e, _⟩ | ⟨g, cap, cur, e, _⟩
   · injection e with e1 e2 e3; simp at e2
   · injection e with e1 e2 e3; exact ⟨g, e1⟩
 have hpn := (Array.getElem?_eq_some_iff.1 h3.hn).1
 have hpn0 := (Array.getElem?_eq_some_iff.1 h.hn).1
 have hpo0 := (Array.getElem?_eq_some_iff.1 h.ho).1
 have hnl : ∀ k, (Value.slice A now.length c).ownBlock = some k → w0.heap.size ≤ k ∧ k < w.heap.size := fun k e => h.on.lt k e
 have hgg : g < w4.heap.size ∧ w0.heap.size ≤ g ∧ g ≠ po ∧ g ≠ pn ∧ vo.ownBlock ≠ some g ∧ (∀ b, b < w.heap.size → (Value.slice A now.length c).ownBlock ≠ some b → g ≠ b) := by
   refine ⟨(ho.lt g rfl).2, (ho.lt g rfl).1, ?_⟩
   rcases hv with q | q
   · have q2 : (Value.slice A now.length c).ownBlock = some g := by rw [← q]; rfl
     obtain ⟨b1, b2, b3⟩ := h.bn g q2
     exact ⟨b1, b2, b3, fun b _ hb e2 => hb (e2 ▸ q2)⟩
   · have q2 : some g = some (w.alloc (.cells #[.int .i64 0, .string ⟨#[]⟩, .string ⟨#[]⟩, .string ⟨#[]⟩, .slice none 0 0, .bool false] tyP)).heap.size := q
     injection q2 with q2
     rw [hsz] at q2
     refine ⟨by omega, by omega, fun e => ?_, fun b hb _ => by omega⟩
     have := (h.oo.lt g e).2
     omega
 have hg2 := (hg.block pn hpn (fun e => (h3.bn pn e.symm).2.1 rfl)).trans h3.hn
 obtain ⟨n, hn⟩ : ∃ n, now.length = n := ⟨_, rfl⟩
 unfold OwnG at ho
 rw [hlen] at ho
 have ho' : OwnG encPt 6 tyP w4 w0.heap.size (.slice (some ⟨g, 0, none⟩) (now.length + 1) c') (now ++ [pt0]) := by unfold OwnG; rw [hlen]; exact ho
 have hk1 : Kp w4 (w4.setCell ⟨pn, 0, none⟩ (.slice (some ⟨g, 0, none⟩) (now.length + 1) c')) (fun k => k = pn) := objKp
 have ho2 : OwnG encPt 6 tyP (w4.setCell ⟨pn, 0, none⟩ (.slice (some ⟨g, 0, none⟩) (now.length + 1) c')) w0.heap.size (.slice (some ⟨g, 0, none⟩) (now.length + 1) c') (now ++ [pt0]) := ho'.of fun k e => hk1.block k (ho'.lt k e).2 (by
   have e' : some g = some k := e
   injection e' with e'
   exact e' ▸ hgg.2.2.2.1)
 obtain ⟨k1, k2⟩ := set6_ok ho' rfl x
 obtain ⟨k3, k4⟩ := set6_ok ho2 rfl x
 have hcm := set6_comm w4 g (now.length * 6) x pn (.slice (some ⟨g, 0, none⟩) (now.length + 1) c') hgg.2.2.2.1
 have hks := set6_kp w4 g (now.length * 6) x
 have hs2 := (hks.block pn (Nat.lt_of_lt_of_le hpn hg.size) (fun e => hgg.2.2.2.1 e.symm)).trans hg2
 have hk5 : Kp (set6 w4 g (now.length * 6) x) ((set6 w4 g (now.length * 6) x).setCell ⟨pn, 0, none⟩ (.slice (some ⟨g, 0, none⟩) (now.length + 1) c')) (fun k => k = pn) := objKp
 have hs3 : ((set6 w4 g (now.length * 6) x).setCell ⟨pn, 0, none⟩ (.slice (some ⟨g, 0, none⟩) (now.length + 1) c')).heap[pn]? = some (.cells #[.slice (some ⟨g, 0, none⟩) (now.length + 1) c'] tyN) := by simpa using objSet (j := 0) (vs := [.slice A now.length c]) hs2 (.slice (some ⟨g, 0, none⟩) (now.length + 1) c')
 have hs4 := hg.size
 have hw4 : ∀ b, b < w.heap.size → (Value.slice A now.length c).ownBlock ≠ some b → w4.heap[b]? = w.heap[b]? := fun b hb1 hb2 => (hg.block b (by omega) (fun e => hb2 e.symm)).trans (Below.heap_alloc _ _ _ hb1)
 have hall : ∀ b, b < w.heap.size → b ≠ pn → (Value.slice A now.length c).ownBlock ≠ some b → w4.heap[b]? = w.heap[b]? ∧ (set6 w4 g (now.length * 6) x).heap[b]? = w.heap[b]? ∧ (w4.setCell ⟨pn, 0, none⟩ (.slice (some ⟨g, 0, none⟩) (now.length + 1) c')).heap[b]? = w.heap[b]? ∧ ((set6 w4 g (now.length * 6) x).setCell ⟨pn, 0, none⟩ (.slice (some ⟨g, 0, none⟩) (now.length + 1) c')).heap[b]? = w.heap[b]? := fun b q1 q2 q3 => by
   have r1 := hw4 b q1 q3
   have hb4 : b < w4.heap.size := by omega
   have r2 := (hks.block b hb4 (fun e => hgg.2.2.2.2.2 b q1 q3 e.symm)).trans r1
   exact ⟨r1, r2, (hk1.block b hb4 q2).trans r1, (hk5.block b (Nat.lt_of_lt_of_le hb4 hks.size) q2).trans r2⟩
 refine ⟨g, c', w4, hrun, ⟨cellOfF hg2 (j := 0) rfl, freeOfF hg2 0⟩, k1, ⟨cellOfF hs2 (j := 0) rfl, freeOfF hs2 0⟩, k3, hcm, hall, ?_⟩
 have hbl : Below w0.heap.size w0 ((set6 w4 g (now.length * 6) x).setCell ⟨pn, 0, none⟩ (.slice (some ⟨g, 0, none⟩) (now.length + 1) c')) := by
   have b1 : Below w0.heap.size w0 w4 := h3.below.trans (Below.of_gb hg h3.below.size (fun k e => (hnl k e).1))
   have b2 := hks.below b1 (Nat.le_refl _) (fun k e => e ▸ hgg.2.1)
   exact hk5.below b2 (Nat.le_refl _) (fun k e => e ▸ h.lo.2.1)
 have hne : ∀ b, b < w.heap.size → (∀ k, vo.ownBlock = some k → True) → True := fun _ _ _ => trivial
 have hvo : ∀ k, vo.ownBlock = some k → k < w.heap.size ∧ k ≠ pn ∧ (Value.slice A now.length c).ownBlock ≠ some k := fun k e => ⟨(h.oo.lt k e).2, (h.bo k e).2, fun e2 => (h.bn k e2).2.2 e⟩
 have hpo : po < w.heap.size ∧ po ≠ pn ∧ (Value.slice A now.length c).ownBlock ≠ some po := ⟨hpo0, h.lo.2.2, fun e => (h.bn po e).1 rfl⟩
 refine ⟨hbl, h.lo, (hall po hpo.1 hpo.2.1 hpo.2.2).2.2.2.trans h.ho, hs3, h.oo.of fun k e => (hall k (hvo k e).1 (hvo k e).2.1 (hvo k e).2.2).2.2.2, ?_, h.bo, ?_, fun r hr2 => ?_⟩
 · refine k2.of fun k e => hk5.block k (k2.lt k e).2 ?_
   have e' : some g = some k := e
   injection e' with e'
   exact e' ▸ hgg.2.2.2.1
 · intro k e
   have e' : some g = some k := e
   injection e' with e'
   subst e'
   exact ⟨hgg.2.2.1, hgg.2.2.2.1, hgg.2.2.2.2.1⟩
 · obtain ⟨r1, r2, r3, r4⟩ := h.rows r hr2
   have hsz2 : w.heap.size ≤ ((set6 w4 g (now.length * 6) x).setCell ⟨pn, 0, none⟩ (.slice (some ⟨g, 0, none⟩) (now.length + 1) c')).heap.size := by
     have := hks.size
     have := hk5.size
     omega
   refine ⟨r1.of hsz2 fun a e hl2 => ?_, r2, r3, fun a e => ?_⟩
   · obtain ⟨q1, q2, q3, q4, q5⟩ := r4 a e
     exact (hall _ hl2 q3 q5).2.2.2
   · obtain ⟨q1, q2, q3, q4, q5⟩ := r4 a e
     refine ⟨by omega, q2, q3, q4, fun e2 => ?_⟩
     have e' : some g = some a.block := e2
     injection e' with e'
     exact hgg.2.2.2.2.2 a.block q1 q5 e'
end
section
section
variable {P : Program} {ops : Array Oper} {Q : Exit → Act → World → Prop} {md : Region.Mode} {S : World → Prop}
theorem wpAnyH_tk {i d : Nat} {oi : Oper} {v : Value} {fuel : Nat} {listed : Array Bool} {a : Act} {w : World} (hi : ops[i]? = some oi) (hd : oi.dst = some d)
   (hs : Region.noSelect ops = true) (hf : Region.free md ops listed i = true) (hr : (Region.ready md ops listed).contains i = true)
   (hQ : ∀ c a w, Q (.panic c) (a.put oi.dst v) w → Q (.panic c) a w) (hy : YieldsIf P ops S oi v a) (hS : S w)
   (h : wpAnyH P md ops Q S fuel (listed.setIfInBounds i true) { a with tmps := a.tmps.setIfInBounds d v } w) : wpAnyH P md ops Q S (fuel + 1) listed a w :=
 wpAnyH_take hi hs hf hr hQ hy hS (by rw [hd]; exact h)
theorem tq {i d : Nat} {oi : Oper} {v : Value} {fuel : Nat} {listed : Array Bool} {a : Act} {w : World} (hi : ops[i]? = some oi) (hd : oi.dst = some d)
   (hc : (Region.noSelect ops && (Region.free md ops listed i && ((Region.ready md ops listed).contains i && Region.wanted oi (yielded ops a.tmps)))) = true)
   (hQ : ∀ c a w, Q (.panic c) (a.put oi.dst v) w → Q (.panic c) a w) (hy : ∀ w, S w → (execOp a.eval oi).run P w = .ok (.value v) w) (hS : S w)
   (h : wpAnyH P md ops Q S fuel (listed.setIfInBounds i true) { a with tmps := a.tmps.setIfInBounds d v } w) : wpAnyH P md ops Q S (fuel + 1) listed a w := by
 simp only [Bool.and_eq_true] at hc
 exact wpAnyH_tk hi hd hc.1 hc.2.1 hc.2.2.1 hQ (Or.inl ⟨hc.2.2.2, hy⟩) hS h
theorem rq {k : Nat} {o : Oper} {fuel : Nat} {listed : Array Bool} {a : Act} {w : World} (ho : ops[k]? = some o) (hr : Region.ready md ops listed = [k]) (hw : Region.wanted o (yielded ops a.tmps) = true)
   (h : ∀ K' : Act → World → Prop, Shut (∀ a w, S w → (S w → wpAnyH P md ops Q S fuel (listed.setIfInBounds k true) a w) → K' a w) → Oper.wp P o a w K' Q) : wpAnyH P md ops Q S (fuel + 1) listed a w :=
 wpAnyH_ready hr (by simp) (AllReadyH.cons ho (fun K hK => by rw [if_pos hw]; exact h K hK) AllReadyH.nil)
theorem sA {α : Type} {l : List α} {i : Nat} {a : α} : l.toArray.setIfInBounds i a = (l.set i a).toArray := List.setIfInBounds_toArray l i a
theorem sB {α : Type} {x : α} {xs : List α} {a : α} : (x :: xs).set 0 a = a :: xs := List.set_cons_zero
theorem sC {α : Type} {x : α} {xs : List α} {i : Nat} {a : α} : (x :: xs).set (i + 1) a = x :: xs.set i a := List.set_cons_succ
theorem step_app_run {o : Oper} {a : Act} {w : World} {K : Act → World → Prop} {X : Prop} {t : TypeId} {v xv v' : Value} {w' : World} (hgd : o.guard = none) (s x : Operand)
   (ho : o.op = .call { callee := .builtin .append, args := #[s, x], argTypes := #[t, t] }) (ht : o.type = t) (hs : a.eval s = v) (hx : a.eval x = xv)
   (hrun : (Builtin.append_ #[t, t] t #[v, xv]).run P w = .ok v' w') (hk : K (a.put o.dst v') w') : if Region.wanted o (yielded ops a.tmps) = true then Oper.wp P o a w K Q else X := by
 have hw : Region.wanted o (yielded ops a.tmps) = true := by simp [Region.wanted, hgd]
 rw [if_pos hw]
 unfold Oper.wp execOp
 simp only [ho, resolve, invoke, builtin, Sem.run_bind, Sem.run_pure, Result.andThen_ok, List.map_toArray, List.map_cons, List.map_nil, hs, hx, ht, hrun]
 exact hk
end
end
section
open Go.RowKit Go.Deep
attribute [local go_sem] bt_eq
def SplitP (R : List (List Pt)) (w : World) (e : Ending) (w' : World) : Prop := ∃ (out : List FR) (A : Option Addr) (c : Nat), e = .returned (.slice A out.length c) ∧ out.map FR.L = R ∧ RG encFR 1 w' A out ∧ (∀ r ∈ out, RG encPt 6 w' r.A r.L ∧ r.L.length ≤ r.c ∧ r.L ≠ []) ∧ Below w.heap.size w w'
theorem SpI.made (w : World) : SpI w w.heap.size (w.heap.size + 1) [] [] (.slice none 0 0) (.slice none 0 0) ((w.alloc (.cells #[.slice none 0 0] tyF)).alloc (.cells #[.slice none 0 0] tyN)) := by
 have h1 := heapNew w (.cells #[.slice none 0 0] tyF)
 have h2 := heapNew (w.alloc (.cells #[.slice none 0 0] tyF)) (.cells #[.slice none 0 0] tyN)
 simp only [World.size_alloc] at h2
 exact ⟨((Below.refl _ _).alloc (Nat.le_refl _) _).alloc (by simp) _, ⟨Nat.le_refl _, by omega, by omega⟩, (Below.heap_alloc _ _ _ (by simp)).trans h1, h2, OwnG.nil _ _, OwnG.nil _ _, fun k e => by simp [Value.ownBlock] at e, fun k e => by simp [Value.ownBlock] at e, fun r hr => by cases hr⟩
theorem flush_len (s : Sp) : (flushS s).2.length = 0 := by
 unfold flushS
 split
 · rename_i h; rw [h]; rfl
 · rfl
theorem SpP.mono {w0 w : World} {po pn : Nat} {s : Sp} {m m' : Nat} (h : SpP w0 po pn s m w) (hm : m ≤ m') : SpP w0 po pn s m' w := by
 obtain ⟨out, vo, vn, h1, h2, h3⟩ := h
 exact ⟨out, vo, vn, h1, Nat.le_trans h2 hm, h3⟩
theorem SpP.step {w0 w w' : World} {po pn : Nat} {s : Sp} {m : Nat} (h : SpP w0 po pn s m w) (hb : Below w.heap.size w w') : SpP w0 po pn s m w' := by
 obtain ⟨out, vo, vn, h1, h2, h3⟩ := h
 exact ⟨out, vo, vn, h1, h2, h3.step hb⟩
theorem ownB_len {A : Option Addr} {n m c k : Nat} (h : (Value.slice A n c).ownBlock = some k) : (Value.slice A m c).ownBlock = some k := by
 cases A with
 | none => exact h
 | some a => exact h
theorem push_pack {w0 W : World} {po pn : Nat} {s : Sp} {m : Nat} (h : SpP w0 po pn s m W) (hl : s.2.length ≤ 1000000) (x : Pt) :
   ∃ (A : Option Addr) (n c g c' : Nat) (w4 : World), n = s.2.length ∧ W.cell? ⟨pn, 0, none⟩ = some (.slice A n c) ∧
     (W.alloc (.cells #[.int .i64 0, .string ⟨#[]⟩, .string ⟨#[]⟩, .string ⟨#[]⟩, .slice none 0 0, .bool false] tyP)).cell? ⟨pn, 0, none⟩ = some (.slice A n c) ∧
     (Builtin.append_ #[tyN, tyN] tyN #[.slice A n c, .slice (some ⟨W.heap.size, 0, none⟩) 1 1]).run Tryz.prog (W.drew.alloc (.cells #[.int .i64 0, .string ⟨#[]⟩, .string ⟨#[]⟩, .string ⟨#[]⟩, .slice none 0 0, .bool false] tyP)) = .ok (.slice (some ⟨g, 0, none⟩) (n + 1) c') w4 ∧
     (w4.cell? ⟨pn, 0, none⟩ = some (.slice A n c) ∧ w4.frozen? ⟨pn, 0, none⟩ = false) ∧ Can6 w4 g (n * 6) x ∧
     ((set6 w4 g (n * 6) x).cell? ⟨pn, 0, none⟩ = some (.slice A n c) ∧ (set6 w4 g (n * 6) x).frozen? ⟨pn, 0, none⟩ = false) ∧
     Can6 (w4.setCell ⟨pn, 0, none⟩ (.slice (some ⟨g, 0, none⟩) (n + 1) c')) g (n * 6) x ∧
     SpP w0 po pn (s.1, s.2 ++ [x]) m ((set6 w4 g (n * 6) x).setCell ⟨pn, 0, none⟩ (.slice (some ⟨g, 0, none⟩) (n + 1) c')) ∧
     SpP w0 po pn (s.1, s.2 ++ [x]) m (set6 (w4.setCell ⟨pn, 0, none⟩ (.slice (some ⟨g, 0, none⟩) (n + 1) c')) g (n * 6) x) := by
 obtain ⟨out, vo, vn, ho1, ho2, hi⟩ := h
 obtain ⟨A, c, rfl, _, _, _, _⟩ := hi.on.slice encPt_len
 have hid := hi.step (Below.refl _ _).drew
 obtain ⟨g, c', w4, hrun, hp, k1, hp2, k3, hcm, _, hfin⟩ := hid.push hl x
 have hcn := cellOfF hi.hn (j := 0) (v := .slice A s.2.length c) rfl
 have hpn := (Array.getElem?_eq_some_iff.1 hi.hn).1
 refine ⟨A, s.2.length, c, g, c', w4, rfl, hcn, ?_, hrun, hp, k1, hp2, k3, ⟨out, vo, _, ho1, ho2, hfin⟩, ?_⟩
 · rw [World.cell?_of_block (Below.heap_alloc W _ pn hpn)]
   exact hcn
 · rw [hcm]
   exact ⟨out, vo, _, ho1, ho2, hfin⟩
theorem fsplit_any (A : Option Addr) (c : Nat) (L : List Pt) (w : World) (hA : RG encPt 6 w A L) (hl : L.length ≤ 100) (hz : ∀ p ∈ L, p.text.size ≤ 5000) :
   Calls Tryz.prog 42 #[.slice A L.length c] w (SplitP (splitS L) w) := by
 have HA := hide hA
 have HZ := hide hz
 obtain ⟨n, hn⟩ : ∃ n, L.length = n := ⟨_, rfl⟩
 have HN := hide hn
 rw [hn] at hl ⊢
 have hni : (n : Int) ≤ 100 := by omega
 have HI0 := hide (show SpP w w.heap.size (w.heap.size + 1) ([], []) 0 _ from ⟨[], _, _, rfl, Nat.le_refl _, SpI.made w⟩)
 clear hA hz hn
 go_enter Tryz.func42, Tryz.ntmps42
 go_wp2
 go_loopw [7, 8, 9, 13] (fun _ _ _ v13 wr => ∃ k : Nat, v13 = .int .i64 k ∧ k ≤ n ∧ Hid (SpP w w.heap.size (w.heap.size + 1) ((L.take k).foldl stS ([], [])) (k * 5001) wr) ∧ Hid (((L.take k).foldl stS ([], [])).2.length ≤ k * 5001)) (fun _ _ _ v13 _ => n - (intOf v13).toNat)
 case atStart => exact ⟨0, rfl, by omega, by simpa using HI0, hide (by simp)⟩
 case round =>
   obtain ⟨wo, hwo⟩ : ∃ Z, Z = wr := ⟨_, rfl⟩
   subst hwo
   obtain ⟨k, rfl, hk, HSP, HLN⟩ := hrel
   obtain ⟨out, vo, vn, ho1, ho2, hi⟩ := HSP.out
   have HI := hide hi
   by_cases hlt : k < n
   case neg =>
     obtain rfl : k = n := by omega
     have htk : L.take k = L := List.take_of_length_le (by have := HN.out; omega)
     have hsp := HSP.out
     have hln := HLN.out
     rw [htk] at hsp hln
     have HEN := hide (end_any w w.heap.size (w.heap.size + 1) _ _ wo hsp (by omega) (by omega))
     clear hsp hln htk hi
     go_wp2_with fail
     refine HEN.out.mono ?_
     rintro e wf ⟨rfl, hsp⟩
     obtain ⟨out2, vo2, vn2, ho3, ho4, hi2⟩ := hsp
     obtain ⟨A2, c2, rfl, _, hrg, _, _⟩ := hi2.oo.slice encFR_len
     have hco := cellOfF hi2.ho (j := 0) (v := .slice A2 out2.length c2) rfl
     have HF := hide (show SplitP (splitS L) w (.returned (.slice A2 out2.length c2)) wf from ⟨out2, A2, c2, rfl, ho3, hrg, fun r hr => ⟨(hi2.rows r hr).1, (hi2.rows r hr).2.1, (hi2.rows r hr).2.2.1⟩, hi2.below⟩)
     clear ho3 hrg hi2
     go_wp2
     go_ret
     exact HF.out
   obtain ⟨x, hx⟩ : ∃ x, L[k]? = some x := ⟨L[k]'(by have := HN.out; omega), gE _⟩
   obtain ⟨g, o, rfl, hg, hc⟩ := HA.out.below hi.below k x hx
   have hc0 : wo.cell? ⟨g, o + k * 6, none⟩ = some (.int .i64 x.kind) := by have := hc 0 _ rfl; simpa using this
   have hc1 : wo.cell? ⟨g, o + k * 6 + 1, none⟩ = some (.string x.text) := hc 1 _ rfl
   have hc2 : wo.cell? ⟨g, o + k * 6 + 2, none⟩ = some (.string x.name) := hc 2 _ rfl
   have hc3 : wo.cell? ⟨g, o + k * 6 + 3, none⟩ = some (.string x.op) := hc 3 _ rfl
   have hc4 : wo.cell? ⟨g, o + k * 6 + 4, none⟩ = some (.slice x.wA x.wn x.wc) := hc 4 _ rfl
   have hc5 : wo.cell? ⟨g, o + k * 6 + 5, none⟩ = some (.bool x.q) := hc 5 _ rfl
   have b1 : (k : Int) < (n : Int) := by omega
   have hz := HZ.out x (List.mem_of_getElem? hx)
   have hst : (L.take (k + 1)).foldl stS ([], []) = stS ((L.take k).foldl stS ([], [])) x := by rw [List.take_add_one, hx, List.foldl_append]; rfl
   have HST := hide hst
   obtain ⟨sk, hsk⟩ : ∃ s, (L.take k).foldl stS ([], []) = s := ⟨_, rfl⟩
   rw [hsk] at HSP HLN HST ho1 HI
   obtain ⟨kd, tx, nm, op, wA, wn, wk, q⟩ := x
   dsimp only at hc0 hc1 hc2 hc3 hc4 hc5 hz
   have HBX := hide (heapNew wo (.cells #[.int .i64 kd, .string tx, .string nm, .string op, .slice wA wn wk, .bool q] tyP))
   have HI1 := hide (HI.out.step ((Below.refl _ _).alloc (Nat.le_refl _) (.cells #[.int .i64 kd, .string tx, .string nm, .string op, .slice wA wn wk, .bool q] tyP)))
   clear hi hc hx hst hsk
   by_cases hkd : kd = 1
   case neg =>
     have t1 : (kd != 1) = true := by simpa using hkd
     have t2 : ¬ kd = 1 := hkd
     go_wp2_with fail
     go_step3
     go_upto_region 8 with (fail)
     obtain ⟨A1, c1, rfl, _, _, _, _⟩ := HI1.out.on.slice encPt_len
     obtain ⟨gp, hgp⟩ : ∃ g, wo.heap.size = g := ⟨_, rfl⟩
     obtain ⟨w1, hw1⟩ : ∃ W, wo.alloc (.cells #[.int .i64 kd, .string tx, .string nm, .string op, .slice wA wn wk, .bool q] tyP) = W := ⟨_, rfl⟩
     rw [hw1, hgp] at HBX
     rw [hw1] at HI1
     have HID := hide (HI1.out.step (Below.refl _ _).drew)
     obtain ⟨pn, hpn⟩ : ∃ k, w.heap.size + 1 = k := ⟨_, rfl⟩
     obtain ⟨g9, c9, w4, hrun, ⟨p1, p2⟩, k1, ⟨p3, p4⟩, k3, hcm, hall, hfin⟩ := HID.out.push (by have := HLN.out; omega) ⟨kd, tx, nm, op, wA, wn, wk, q⟩
     have hnw := HLN.out
     obtain ⟨nw, hnw2⟩ : ∃ m, sk.2.length = m := ⟨_, rfl⟩
     rw [hnw2] at hrun p1 p3 k1 k3 hcm hall hfin
     rw [hpn] at p1 p2 p3 p4 k3 hcm hall
     have hwn : wo.heap.size < w1.heap.size := by rw [← hw1]; simp
     have hw1n : w.heap.size + 1 < wo.heap.size := (Array.getElem?_eq_some_iff.1 HI.out.hn).1
     have hgq := hall gp (by rw [← hgp]; exact hwn) (by rw [← hgp, ← hpn]; omega) (fun e => by have := (HI.out.on.lt gp (ownB_len e)).2; omega)
     have HQ := hide (fun (Z : World) (e : Z.heap[gp]? = some (.cells #[.int .i64 kd, .string tx, .string nm, .string op, .slice wA wn wk, .bool q] tyP)) => show (fun Z => Z.cell? ⟨gp, 0, none⟩ = some (.int .i64 kd) ∧ Z.cell? ⟨gp, 1, none⟩ = some (.string tx) ∧ Z.cell? ⟨gp, 2, none⟩ = some (.string nm) ∧ Z.cell? ⟨gp, 3, none⟩ = some (.string op) ∧ Z.cell? ⟨gp, 4, none⟩ = some (.slice wA wn wk) ∧ Z.cell? ⟨gp, 5, none⟩ = some (.bool q)) Z from ⟨cellOfF e (j := 0) rfl, cellOfF e (j := 1) rfl, cellOfF e (j := 2) rfl, cellOfF e (j := 3) rfl, cellOfF e (j := 4) rfl, cellOfF e (j := 5) rfl⟩)
     have hgd : w1.drew.heap[gp]? = some (.cells #[.int .i64 kd, .string tx, .string nm, .string op, .slice wA wn wk, .bool q] tyP) := HBX.out
     have HGD := hide hgd
     have HGA := hide ((Below.heap_alloc w1.drew (.cells #[.int .i64 0, .string ⟨#[]⟩, .string ⟨#[]⟩, .string ⟨#[]⟩, .slice none 0 0, .bool false] tyP) gp (by rw [← hgp]; exact hwn)).trans hgd)
     have HG4 := hide (hgq.1.trans hgd)
     have HG6 := hide (hgq.2.1.trans hgd)
     have HGN := hide (hgq.2.2.1.trans hgd)
     have HGF := hide (hgq.2.2.2.trans hgd)
     have HGF2 := hide (show (set6 (w4.setCell ⟨pn, 0, none⟩ (.slice (some ⟨g9, 0, none⟩) (nw + 1) c9)) g9 (nw * 6) ⟨kd, tx, nm, op, wA, wn, wk, q⟩).heap[gp]? = some (.cells #[.int .i64 kd, .string tx, .string nm, .string op, .slice wA wn wk, .bool q] tyP) from by rw [hcm]; exact hgq.2.2.2.trans hgd)
     have HFIN := hide (show SpP w w.heap.size (w.heap.size + 1) (sk.1, sk.2 ++ [⟨kd, tx, nm, op, wA, wn, wk, q⟩]) (k * 5001) ((set6 w4 g9 (nw * 6) ⟨kd, tx, nm, op, wA, wn, wk, q⟩).setCell ⟨pn, 0, none⟩ (.slice (some ⟨g9, 0, none⟩) (nw + 1) c9)) from by rw [← hpn]; exact ⟨out, vo, _, ho1, ho2, hfin⟩)
     have HFIN2 := hide (show SpP w w.heap.size (w.heap.size + 1) (sk.1, sk.2 ++ [⟨kd, tx, nm, op, wA, wn, wk, q⟩]) (k * 5001) (set6 (w4.setCell ⟨pn, 0, none⟩ (.slice (some ⟨g9, 0, none⟩) (nw + 1) c9)) g9 (nw * 6) ⟨kd, tx, nm, op, wA, wn, wk, q⟩) from by rw [hcm]; exact HFIN.out)
     have hcn := cellOfF HID.out.hn (j := 0) (v := .slice A1 sk.2.length c1) rfl
     rw [hnw2, hpn] at hcn
     have hcnA : (w1.alloc (.cells #[.int .i64 0, .string ⟨#[]⟩, .string ⟨#[]⟩, .string ⟨#[]⟩, .slice none 0 0, .bool false] tyP)).cell? ⟨pn, 0, none⟩ = some (.slice A1 nw c1) := by
       rw [World.cell?_of_block (Below.heap_alloc w1 _ pn (by rw [← hpn]; show w.heap.size + 1 < w1.heap.size; omega))]
       exact hcn
     unfold Can6 at k1 k3
     dsimp only at k1 k3
     unfold set6 at p3 p4
     dsimp only at p3 p4
     obtain ⟨⟨⟨_, a0⟩, a1⟩, ⟨⟨_, a2⟩, a3⟩, ⟨⟨_, a4⟩, a5⟩, ⟨⟨_, a6⟩, a7⟩, ⟨⟨_, a8⟩, a9⟩, ⟨⟨_, a10⟩, a11⟩⟩ := k1
     obtain ⟨⟨⟨_, d0⟩, d1⟩, ⟨⟨_, d2⟩, d3⟩, ⟨⟨_, d4⟩, d5⟩, ⟨⟨_, d6⟩, d7⟩, ⟨⟨_, d8⟩, d9⟩, ⟨⟨_, d10⟩, d11⟩⟩ := k3
     have HRW := hide hpn
     have HW1 := hide hw1
     have HGP := hide hgp
     have nwi : (nw : Int) ≤ 600000 := by omega
     have bnw : (nw : Int) < (nw : Int) + 1 := by omega
     clear hall hfin hcm hgq hgd hw1n hwn hnw hnw2
     rw [HW1.out, HGP.out, HRW.out]
     go_cut [25] from 20 to 25 (fun _ w' => SpP w w.heap.size (w.heap.size + 1) (sk.1, sk.2 ++ [⟨kd, tx, nm, op, wA, wn, wk, q⟩]) (k * 5001) w')
     case first =>
       refine wp_region_held_drew (S := (fun Z => Z.cell? ⟨gp, 0, none⟩ = some (.int .i64 kd) ∧ Z.cell? ⟨gp, 1, none⟩ = some (.string tx) ∧ Z.cell? ⟨gp, 2, none⟩ = some (.string nm) ∧ Z.cell? ⟨gp, 3, none⟩ = some (.string op) ∧ Z.cell? ⟨gp, 4, none⟩ = some (.slice wA wn wk) ∧ Z.cell? ⟨gp, 5, none⟩ = some (.bool q))) (by kernel_rfl) (HQ.out _ HGD.out) (fun hHeld => ?_)
       refine tq (i := 1) (v := ?vP1) rfl rfl (by kernel_rfl) (fun _ _ _ h => h) ?yP1 (by assumption) ?rP1
       case yP1 => intro w h; (try dsimp only at h); go_simp; try with_reducible rfl
       try simp only [sA, sB, sC]
       refine wpAnyH_ready (rs := [0, 3]) (by kernel_rfl) (by simp) ?_
       refine AllReadyH.cons (o := _) rfl (fun K hK => ?way1) (AllReadyH.cons (o := _) rfl (fun K hK => ?way2) AllReadyH.nil)
       case way1 =>
         rw [if_pos (by kernel_rfl)]
         go_simp
         refine hK.out _ _ (HQ.out _ HGD.out) (fun _ => ?_)
         clear hK K
         try simp only [Act.put, sA, sB, sC]
         refine tq (i := 2) (v := ?vP1b2) rfl rfl (by kernel_rfl) (fun _ _ _ h => h) ?yP1b2 (by assumption) ?rP1b2
         case yP1b2 => intro w h; (try dsimp only at h); go_simp; try with_reducible rfl
         try simp only [sA, sB, sC]
         refine rq (k := 3) rfl (by kernel_rfl) (by kernel_rfl) (fun K hK => ?_)
         go_simp
         refine hK.out _ _ (HQ.out _ HGA.out) (fun _ => ?_)
         clear hK K
         try simp only [Act.put, sA, sB, sC]
         refine wpAnyH_ready (rs := [4]) (by kernel_rfl) (by simp) ?_
         refine AllReadyH.cons (o := _) rfl (fun K hK => ?_) AllReadyH.nil
         refine step_app_run rfl _ _ rfl rfl rfl rfl hrun ?_
         refine hK.out _ _ (HQ.out _ HG4.out) (fun _ => ?_)
         clear hK K
         try simp only [Act.put, sA, sB, sC]
         refine tq (i := 5) (v := ?vP1b5) rfl rfl (by kernel_rfl) (fun _ _ _ h => h) ?yP1b5 (by assumption) ?rP1b5
         case yP1b5 => intro w h; (try dsimp only at h); go_simp; try with_reducible rfl
         try simp only [sA, sB, sC]
         refine wpAnyH_ready (rs := [6, 7]) (by kernel_rfl) (by simp) ?_
         refine AllReadyH.cons (o := _) rfl (fun K hK => ?wa) (AllReadyH.cons (o := _) rfl (fun K hK => ?wb) AllReadyH.nil)
         case wa =>
           rw [if_pos (by kernel_rfl)]
           go_simp
           refine hK.out _ _ (HQ.out _ HG6.out) (fun _ => ?_)
           clear hK K
           try simp only [Act.put, sA, sB, sC]
           refine rq (k := 7) rfl (by kernel_rfl) (by kernel_rfl) (fun K hK => ?_)
           go_simp
           refine hK.out _ _ (HQ.out _ HGF.out) (fun _ => ?_)
           clear hK K
           try simp only [Act.put, sA, sB, sC]
           refine wpAnyH_done (by kernel_rfl) ?_ _
           go_wp2
           go_meet
           exact HFIN.out
         case wb =>
           rw [if_pos (by kernel_rfl)]
           go_simp
           refine hK.out _ _ (HQ.out _ HGN.out) (fun _ => ?_)
           clear hK K
           try simp only [Act.put, sA, sB, sC]
           refine rq (k := 6) rfl (by kernel_rfl) (by kernel_rfl) (fun K hK => ?_)
           go_simp
           refine hK.out _ _ (HQ.out _ HGF2.out) (fun _ => ?_)
           clear hK K
           try simp only [Act.put, sA, sB, sC]
           refine wpAnyH_done (by kernel_rfl) ?_ _
           go_wp2
           go_meet
           exact HFIN2.out
       case way2 =>
         rw [if_pos (by kernel_rfl)]
         go_simp
         refine hK.out _ _ (HQ.out _ HGA.out) (fun _ => ?_)
         clear hK K
         try simp only [Act.put, sA, sB, sC]
         refine rq (k := 0) rfl (by kernel_rfl) (by kernel_rfl) (fun K hK => ?_)
         go_simp
         refine hK.out _ _ (HQ.out _ HGA.out) (fun _ => ?_)
         clear hK K
         try simp only [Act.put, sA, sB, sC]
         refine tq (i := 2) (v := ?vP2b2) rfl rfl (by kernel_rfl) (fun _ _ _ h => h) ?yP2b2 (by assumption) ?rP2b2
         case yP2b2 => intro w h; (try dsimp only at h); go_simp; try with_reducible rfl
         try simp only [sA, sB, sC]
         refine wpAnyH_ready (rs := [4]) (by kernel_rfl) (by simp) ?_
         refine AllReadyH.cons (o := _) rfl (fun K hK => ?_) AllReadyH.nil
         refine step_app_run rfl _ _ rfl rfl rfl rfl hrun ?_
         refine hK.out _ _ (HQ.out _ HG4.out) (fun _ => ?_)
         clear hK K
         try simp only [Act.put, sA, sB, sC]
         refine tq (i := 5) (v := ?vP2b5) rfl rfl (by kernel_rfl) (fun _ _ _ h => h) ?yP2b5 (by assumption) ?rP2b5
         case yP2b5 => intro w h; (try dsimp only at h); go_simp; try with_reducible rfl
         try simp only [sA, sB, sC]
         refine wpAnyH_ready (rs := [6, 7]) (by kernel_rfl) (by simp) ?_
         refine AllReadyH.cons (o := _) rfl (fun K hK => ?wa) (AllReadyH.cons (o := _) rfl (fun K hK => ?wb) AllReadyH.nil)
         case wa =>
           rw [if_pos (by kernel_rfl)]
           go_simp
           refine hK.out _ _ (HQ.out _ HG6.out) (fun _ => ?_)
           clear hK K
           try simp only [Act.put, sA, sB, sC]
           refine rq (k := 7) rfl (by kernel_rfl) (by kernel_rfl) (fun K hK => ?_)
           go_simp
           refine hK.out _ _ (HQ.out _ HGF.out) (fun _ => ?_)
           clear hK K
           try simp only [Act.put, sA, sB, sC]
           refine wpAnyH_done (by kernel_rfl) ?_ _
           go_wp2
           go_meet
           exact HFIN.out
         case wb =>
           rw [if_pos (by kernel_rfl)]
           go_simp
           refine hK.out _ _ (HQ.out _ HGN.out) (fun _ => ?_)
           clear hK K
           try simp only [Act.put, sA, sB, sC]
           refine rq (k := 6) rfl (by kernel_rfl) (by kernel_rfl) (fun K hK => ?_)
           go_simp
           refine hK.out _ _ (HQ.out _ HGF2.out) (fun _ => ?_)
           clear hK K
           try simp only [Act.put, sA, sB, sC]
           refine wpAnyH_done (by kernel_rfl) ?_ _
           go_wp2
           go_meet
           exact HFIN2.out
     case rest =>
     obtain ⟨wz, hwz⟩ : ∃ Z, Z = wc := ⟨_, rfl⟩
     have HC := hide hcut
     have hst : stS sk ⟨kd, tx, nm, op, wA, wn, wk, q⟩ = (sk.1, sk.2 ++ [⟨kd, tx, nm, op, wA, wn, wk, q⟩]) := by unfold stS; rw [if_neg t2]
     have HS2 := hide (HST.out.trans hst)
     have hpn := HRW.out
     have hgp := HGP.out
     subst hpn
     subst hgp
     clear hcut hst HQ HGD HGA HG4 HG6 HGN HGF HGF2 HFIN HFIN2 HBX HI1 HID hrun p1 p2 p3 p4 hcn hcnA a0 a1 a2 a3 a4 a5 a6 a7 a8 a9 a10 a11 d0 d1 d2 d3 d4 d5 d6 d7 d8 d9 d10 d11
     go_wp2
     refine ⟨⟨k + 1, by go_num, by omega, hide ?_, hide ?_⟩, by simp [intOf]; omega⟩
     · rw [HS2.out]; exact HC.out.mono (by omega)
     · rw [HS2.out]
       have := HLN.out
       show (sk.2 ++ [_]).length ≤ _
       rw [List.length_append, List.length_singleton]
       omega
   subst hkd
   have t1 : ((1 : Int) != 1) = false := rfl
   go_wp2_with fail
   go_step3
   go_wp2_with fail
   go_step3
   go_wp2_with fail
   have HS0 := hide (show SpP w w.heap.size (w.heap.size + 1) sk (k * 5001) (wo.alloc (.cells #[.int .i64 1, .string tx, .string nm, .string op, .slice wA wn wk, .bool q] tyP)) from ⟨out, vo, vn, ho1, ho2, HI1.out⟩)
   clear HI1 HBX HI hc0 hc1 hc2 hc3 hc4 hc5
   go_loopg [8, 9] tx.size (fun g8 v8 _ wr => ∃ (rest : ByteArray) (s : Sp) (m : Nat), v8 = .string rest ∧ g8 = rest.size ∧ rest.size ≤ tx.size ∧ Hid (txS [] rest.data.toList s = txS [] tx.data.toList sk) ∧ Hid (SpP w w.heap.size (w.heap.size + 1) s m wr) ∧ m + rest.size ≤ k * 5001 + 5000 ∧ Hid (s.2.length ≤ k * 5001))
   case atStart => exact ⟨tx, sk, k * 5001, rfl, rfl, Nat.le_refl _, hide rfl, HS0, by omega, HLN⟩
   case round =>
     obtain ⟨wq, hwq⟩ : ∃ Z, Z = wr := ⟨_, rfl⟩
     subst hwq
     obtain ⟨rest, s, m, rfl, hg8, hrt, HTX, HSQ, hm, HSL⟩ := hrel
     have hbel := HSQ.out
     by_cases hr0 : rest.size = 0
     · have hre : rest.data.toList = [] := List.length_eq_zero_iff.1 (by rw [← Lib.size_eq]; exact hr0)
       have hem : rest.toList.isEmpty = true := by rw [Lib.toList_data, hre]; rfl
       have htx := HTX.out
       rw [hre] at htx
       have HE := hide (show stS sk ⟨1, tx, nm, op, wA, wn, wk, q⟩ = s from by unfold stS; rw [if_pos rfl]; exact htx.symm)
       clear hbel htx hre hr0
       go_wp2
       rw [Exit.noGoto_normal]
       go_wp2
       refine ⟨⟨k + 1, by go_num, by omega, hide ?_, hide ?_⟩, by simp [intOf]; omega⟩
       · rw [HST.out, HE.out]; exact HSQ.out.mono (by omega)
       · rw [HST.out, HE.out]
         have := HSL.out
         omega
     have hem : rest.toList.isEmpty = false := by
       rw [Lib.toList_data]
       cases h : rest.data.toList with
       | nil => exact absurd (by rw [Lib.size_eq, h]; rfl) hr0
       | cons _ _ => rfl
     have hrz : rest.size ≤ 5000 := by omega
     have HIA := hide (iany_any rest wq (by omega))
     have HB0 := HSQ.out
     rcases ixB_cases rest.data.toList with ⟨hx, hno⟩ | ⟨a, b, r2, hsp, hx, hna, hbb⟩
     · rw [hx] at HIA
       have HE := hide (show stS sk ⟨1, tx, nm, op, wA, wn, wk, q⟩ = (s.1, s.2 ++ [⟨1, rest, ⟨#[]⟩, ⟨#[]⟩, none, 0, 0, false⟩]) from by
         unfold stS
         rw [if_pos rfl]
         have h1 := HTX.out
         rw [txS_no _ _ _ hno, List.nil_append] at h1
         rw [← h1]
         unfold pushS
         rw [if_neg (by intro e; rw [Lib.size_eq, e] at hr0; exact hr0 rfl)]
         rfl)
       clear hbel HB0 hx hno hr0
       go_wp2_with fail
       refine HIA.out.mono ?_
       rintro e w9 ⟨rfl, hb9⟩
       have HS9 := hide (HSQ.out.step hb9)
       clear hb9
       go_upto_region 13 with (fail)
       obtain ⟨A1, nw, c1, g9, c9, w4, hnw, hcn, hcnA, hrun, ⟨p1, p2⟩, k1, ⟨p3, p4⟩, k3, hfin, hfin2⟩ := push_pack HS9.out (by have := HSL.out; omega) ⟨1, rest, ⟨#[]⟩, ⟨#[]⟩, none, 0, 0, false⟩
       unfold Can6 at k1 k3
       dsimp only at k1 k3
       have HFIN := hide hfin
       have HFIN2 := hide hfin2
       unfold set6 at p3 p4
       dsimp only at p3 p4
       obtain ⟨⟨⟨_, a0⟩, a1⟩, ⟨⟨_, a2⟩, a3⟩, ⟨⟨_, a4⟩, a5⟩, ⟨⟨_, a6⟩, a7⟩, ⟨⟨_, a8⟩, a9⟩, ⟨⟨_, a10⟩, a11⟩⟩ := k1
       obtain ⟨⟨⟨_, d0⟩, d1⟩, ⟨⟨_, d2⟩, d3⟩, ⟨⟨_, d4⟩, d5⟩, ⟨⟨_, d6⟩, d7⟩, ⟨⟨_, d8⟩, d9⟩, ⟨⟨_, d10⟩, d11⟩⟩ := k3
       have nwi : (nw : Int) ≤ 600000 := by have := HSL.out; omega
       have bnw : (nw : Int) < (nw : Int) + 1 := by omega
       clear hfin hfin2 hnw
       go_cut [40] from 34 to 40 (fun _ w' => SpP w w.heap.size (w.heap.size + 1) (s.1, s.2 ++ [⟨1, rest, ⟨#[]⟩, ⟨#[]⟩, none, 0, 0, false⟩]) m w')
       case first =>
         refine wp_region_held_drew (S := (fun _ => True)) (by kernel_rfl) trivial (fun hHeld => ?_)
         refine tq (i := 1) (v := ?vQ1) rfl rfl (by kernel_rfl) (fun _ _ _ h => h) ?yQ1 (by assumption) ?rQ1
         case yQ1 => intro w h; (try dsimp only at h); go_simp; try with_reducible rfl
         try simp only [sA, sB, sC]
         refine tq (i := 2) (v := ?vQ2) rfl rfl (by kernel_rfl) (fun _ _ _ h => h) ?yQ2 (by assumption) ?rQ2
         case yQ2 => intro w h; (try dsimp only at h); go_simp; try with_reducible rfl
         try simp only [sA, sB, sC]
         refine wpAnyH_ready (rs := [0, 4]) (by kernel_rfl) (by simp) ?_
         refine AllReadyH.cons (o := _) rfl (fun K hK => ?way1) (AllReadyH.cons (o := _) rfl (fun K hK => ?way2) AllReadyH.nil)
         case way1 =>
           rw [if_pos (by kernel_rfl)]
           go_simp
           refine hK.out _ _ trivial (fun _ => ?_)
           clear hK K
           try simp only [Act.put, sA, sB, sC]
           refine tq (i := 3) (v := ?vQ1b3) rfl rfl (by kernel_rfl) (fun _ _ _ h => h) ?yQ1b3 (by assumption) ?rQ1b3
           case yQ1b3 => intro w h; (try dsimp only at h); go_simp; try with_reducible rfl
           try simp only [sA, sB, sC]
           refine rq (k := 4) rfl (by kernel_rfl) (by kernel_rfl) (fun K hK => ?_)
           go_simp
           refine hK.out _ _ trivial (fun _ => ?_)
           clear hK K
           try simp only [Act.put, sA, sB, sC]
           refine wpAnyH_ready (rs := [5]) (by kernel_rfl) (by simp) ?_
           refine AllReadyH.cons (o := _) rfl (fun K hK => ?_) AllReadyH.nil
           refine step_app_run rfl _ _ rfl rfl rfl rfl hrun ?_
           refine hK.out _ _ trivial (fun _ => ?_)
           clear hK K
           try simp only [Act.put, sA, sB, sC]
           refine tq (i := 6) (v := ?vQ1b6) rfl rfl (by kernel_rfl) (fun _ _ _ h => h) ?yQ1b6 (by assumption) ?rQ1b6
           case yQ1b6 => intro w h; (try dsimp only at h); go_simp; try with_reducible rfl
           try simp only [sA, sB, sC]
           refine wpAnyH_ready (rs := [7, 8]) (by kernel_rfl) (by simp) ?_
           refine AllReadyH.cons (o := _) rfl (fun K hK => ?wa) (AllReadyH.cons (o := _) rfl (fun K hK => ?wb) AllReadyH.nil)
           case wa =>
             rw [if_pos (by kernel_rfl)]
             go_simp
             refine hK.out _ _ trivial (fun _ => ?_)
             clear hK K
             try simp only [Act.put, sA, sB, sC]
             refine rq (k := 8) rfl (by kernel_rfl) (by kernel_rfl) (fun K hK => ?_)
             go_simp
             refine hK.out _ _ trivial (fun _ => ?_)
             clear hK K
             try simp only [Act.put, sA, sB, sC]
             refine wpAnyH_done (by kernel_rfl) ?_ _
             go_wp2
             go_meet
             exact HFIN.out
           case wb =>
             rw [if_pos (by kernel_rfl)]
             go_simp
             refine hK.out _ _ trivial (fun _ => ?_)
             clear hK K
             try simp only [Act.put, sA, sB, sC]
             refine rq (k := 7) rfl (by kernel_rfl) (by kernel_rfl) (fun K hK => ?_)
             go_simp
             refine hK.out _ _ trivial (fun _ => ?_)
             clear hK K
             try simp only [Act.put, sA, sB, sC]
             refine wpAnyH_done (by kernel_rfl) ?_ _
             go_wp2
             go_meet
             exact HFIN2.out
         case way2 =>
           rw [if_pos (by kernel_rfl)]
           go_simp
           refine hK.out _ _ trivial (fun _ => ?_)
           clear hK K
           try simp only [Act.put, sA, sB, sC]
           refine rq (k := 0) rfl (by kernel_rfl) (by kernel_rfl) (fun K hK => ?_)
           go_simp
           refine hK.out _ _ trivial (fun _ => ?_)
           clear hK K
           try simp only [Act.put, sA, sB, sC]
           refine tq (i := 3) (v := ?vQ2b3) rfl rfl (by kernel_rfl) (fun _ _ _ h => h) ?yQ2b3 (by assumption) ?rQ2b3
           case yQ2b3 => intro w h; (try dsimp only at h); go_simp; try with_reducible rfl
           try simp only [sA, sB, sC]
           refine wpAnyH_ready (rs := [5]) (by kernel_rfl) (by simp) ?_
           refine AllReadyH.cons (o := _) rfl (fun K hK => ?_) AllReadyH.nil
           refine step_app_run rfl _ _ rfl rfl rfl rfl hrun ?_
           refine hK.out _ _ trivial (fun _ => ?_)
           clear hK K
           try simp only [Act.put, sA, sB, sC]
           refine tq (i := 6) (v := ?vQ2b6) rfl rfl (by kernel_rfl) (fun _ _ _ h => h) ?yQ2b6 (by assumption) ?rQ2b6
           case yQ2b6 => intro w h; (try dsimp only at h); go_simp; try with_reducible rfl
           try simp only [sA, sB, sC]
           refine wpAnyH_ready (rs := [7, 8]) (by kernel_rfl) (by simp) ?_
           refine AllReadyH.cons (o := _) rfl (fun K hK => ?wa) (AllReadyH.cons (o := _) rfl (fun K hK => ?wb) AllReadyH.nil)
           case wa =>
             rw [if_pos (by kernel_rfl)]
             go_simp
             refine hK.out _ _ trivial (fun _ => ?_)
             clear hK K
             try simp only [Act.put, sA, sB, sC]
             refine rq (k := 8) rfl (by kernel_rfl) (by kernel_rfl) (fun K hK => ?_)
             go_simp
             refine hK.out _ _ trivial (fun _ => ?_)
             clear hK K
             try simp only [Act.put, sA, sB, sC]
             refine wpAnyH_done (by kernel_rfl) ?_ _
             go_wp2
             go_meet
             exact HFIN.out
           case wb =>
             rw [if_pos (by kernel_rfl)]
             go_simp
             refine hK.out _ _ trivial (fun _ => ?_)
             clear hK K
             try simp only [Act.put, sA, sB, sC]
             refine rq (k := 7) rfl (by kernel_rfl) (by kernel_rfl) (fun K hK => ?_)
             go_simp
             refine hK.out _ _ trivial (fun _ => ?_)
             clear hK K
             try simp only [Act.put, sA, sB, sC]
             refine wpAnyH_done (by kernel_rfl) ?_ _
             go_wp2
             go_meet
             exact HFIN2.out
       case rest =>
       have HC := hide hcut
       clear hcut HFIN HFIN2 hrun p1 p2 p3 p4 hcn hcnA a0 a1 a2 a3 a4 a5 a6 a7 a8 a9 a10 a11 d0 d1 d2 d3 d4 d5 d6 d7 d8 d9 d10 d11
       go_wp2
       rw [Exit.noGoto_normal]
       go_wp2
       refine ⟨⟨k + 1, by go_num, by omega, hide ?_, hide ?_⟩, by simp [intOf]; omega⟩
       · rw [HST.out, HE.out]; exact HC.out.mono (by omega)
       · rw [HST.out, HE.out]
         have := HSL.out
         show (s.2 ++ [_]).length ≤ _
         rw [List.length_append, List.length_singleton]
         omega
     · rw [hx] at HIA
       have hlen : rest.size = a.length + 1 + r2.length := by rw [Lib.size_eq, hsp, List.length_append, List.length_cons]; omega
       have hex : (rest.extract (a.length + 1) rest.size).data.toList = r2 := by
         rw [Lib.extract_data, hsp, List.take_of_length_le (by rw [List.length_drop, List.length_append, List.length_cons]; omega)]
         rw [show a ++ b :: r2 = (a ++ [b]) ++ r2 by simp, List.drop_left' (by simp)]
       have HTX2 := hide (show txS [] (rest.extract (a.length + 1) rest.size).data.toList (flushS (pushS a s)) = txS [] tx.data.toList sk from by
         rw [hex, ← HTX.out, hsp, txS_at a [] b r2 s hna hbb, List.nil_append])
       have hez : (rest.extract (a.length + 1) rest.size).size = r2.length := by rw [Lib.size_eq, hex]
       have hea : rest.extract 0 a.length = bsF a := by
         rw [Lib.extract_eq, hsp, List.drop_zero, Nat.sub_zero, List.take_left' rfl]; rfl
       have HEZ := hide hez
       obtain ⟨an, han⟩ : ∃ n, a.length = n := ⟨_, rfl⟩
       rw [han] at HIA HTX2 HEZ hlen hea
       have HPS := hide (show pushS a s = if an = 0 then s else (s.1, s.2 ++ [⟨1, rest.extract 0 an, ⟨#[]⟩, ⟨#[]⟩, none, 0, 0, false⟩]) from by
         unfold pushS
         by_cases h0 : a = []
         · rw [if_pos h0, if_pos (by rw [← han, h0]; rfl)]
         · rw [if_neg h0, if_neg (by rw [← han]; intro e; exact h0 (List.length_eq_zero_iff.1 e)), hea]
           rfl)
       have hl1 : an + 1 ≤ rest.size := by omega
       have HLR := hide (show r2.length + an + 1 = rest.size by omega)
       have hl2 : (an : Int) + 1 ≤ (rest.size : Int) := by omega
       have hl3 : (an : Int) ≤ (rest.size : Int) := by omega
       have hl4 : ¬ (an : Int) < 0 := by omega
       have hl5 : an ≤ rest.size := by omega
       have hani : (an : Int) ≤ 5000 := by omega
       clear hbel HB0 hx hna hbb hsp hex hez hea hr0 hlen
       by_cases ha0 : an = 0
       · subst ha0
         have hps := HPS.out
         rw [if_pos rfl] at hps
         go_wp2_with fail
         refine HIA.out.mono ?_
         rintro e w9 ⟨rfl, hb9⟩
         have HS9 := hide (HSQ.out.step hb9)
         have HEN := hide (end_any w w.heap.size (w.heap.size + 1) s m w9 HS9.out (by omega) (by have := HSL.out; omega))
         rw [hps] at HTX2
         clear hb9 hps HPS
         go_wp2_with fail
         refine HEN.out.mono ?_
         rintro e wf ⟨rfl, hsp⟩
         have HSP2 := hide hsp
         clear hsp HEN
         go_wp2
         go_roundg (rest.extract 1 rest.size).size
         case measure => have := HEZ.out; have := HLR.out; simp only [Nat.zero_add] at *; omega
         case rel => exact ⟨rest.extract 1 rest.size, flushS s, m + 1, rfl, rfl, by have := HEZ.out; have := HLR.out; simp only [Nat.zero_add] at *; omega, HTX2, HSP2, by have := HEZ.out; have := HLR.out; simp only [Nat.zero_add] at *; omega, hide (by rw [flush_len]; omega)⟩
       · have hps := HPS.out
         rw [if_neg ha0] at hps
         rw [hps] at HTX2
         have hap : (0 : Int) < (an : Int) := by omega
         clear hps HPS
         go_wp2_with fail
         refine HIA.out.mono ?_
         rintro e w9 ⟨rfl, hb9⟩
         have HS9 := hide (HSQ.out.step hb9)
         clear hb9
         go_upto_region 15 with (fail)
         obtain ⟨A1, nw, c1, g9, c9, w4, hnw, hcn, hcnA, hrun, ⟨p1, p2⟩, k1, ⟨p3, p4⟩, k3, hfin, hfin2⟩ := push_pack HS9.out (by have := HSL.out; omega) ⟨1, rest.extract 0 an, ⟨#[]⟩, ⟨#[]⟩, none, 0, 0, false⟩
         unfold Can6 at k1 k3
         dsimp only at k1 k3
         have HFIN := hide hfin
         have HFIN2 := hide hfin2
         unfold set6 at p3 p4
         dsimp only at p3 p4
         obtain ⟨⟨⟨_, a0⟩, a1⟩, ⟨⟨_, a2⟩, a3⟩, ⟨⟨_, a4⟩, a5⟩, ⟨⟨_, a6⟩, a7⟩, ⟨⟨_, a8⟩, a9⟩, ⟨⟨_, a10⟩, a11⟩⟩ := k1
         obtain ⟨⟨⟨_, d0⟩, d1⟩, ⟨⟨_, d2⟩, d3⟩, ⟨⟨_, d4⟩, d5⟩, ⟨⟨_, d6⟩, d7⟩, ⟨⟨_, d8⟩, d9⟩, ⟨⟨_, d10⟩, d11⟩⟩ := k3
         have nwi : (nw : Int) ≤ 600000 := by have := HSL.out; omega
         have bnw : (nw : Int) < (nw : Int) + 1 := by omega
         clear hfin hfin2 hnw
         go_cut [51] from 42 to 51 (fun _ w' => SpP w w.heap.size (w.heap.size + 1) (s.1, s.2 ++ [⟨1, rest.extract 0 an, ⟨#[]⟩, ⟨#[]⟩, none, 0, 0, false⟩]) m w')
         case first =>
           refine wp_region_held_drew (S := (fun _ => True)) (by kernel_rfl) trivial (fun hHeld => ?_)
           refine tq (i := 1) (v := ?vR1) rfl rfl (by kernel_rfl) (fun _ _ _ h => h) ?yR1 (by assumption) ?rR1
           case yR1 => intro w h; (try dsimp only at h); go_simp; try with_reducible rfl
           try simp only [sA, sB, sC]
           refine tq (i := 2) (v := ?vR2) rfl rfl (by kernel_rfl) (fun _ _ _ h => h) ?yR2 (by assumption) ?rR2
           case yR2 => intro w h; (try dsimp only at h); go_simp; try with_reducible rfl
           try simp only [sA, sB, sC]
           refine tq (i := 3) (v := ?vR3) rfl rfl (by kernel_rfl) (fun _ _ _ h => h) ?yR3 (by assumption) ?rR3
           case yR3 => intro w h; (try dsimp only at h); go_simp; try with_reducible rfl
           try simp only [sA, sB, sC]
           refine tq (i := 4) (v := ?vR4) rfl rfl (by kernel_rfl) (fun _ _ _ h => h) ?yR4 (by assumption) ?rR4
           case yR4 => intro w h; (try dsimp only at h); go_simp; try with_reducible rfl
           try simp only [sA, sB, sC]
           refine wpAnyH_ready (rs := [0, 6]) (by kernel_rfl) (by simp) ?_
           refine AllReadyH.cons (o := _) rfl (fun K hK => ?way1) (AllReadyH.cons (o := _) rfl (fun K hK => ?way2) AllReadyH.nil)
           case way1 =>
             rw [if_pos (by kernel_rfl)]
             go_simp
             refine hK.out _ _ trivial (fun _ => ?_)
             clear hK K
             try simp only [Act.put, sA, sB, sC]
             refine tq (i := 5) (v := ?vR1b5) rfl rfl (by kernel_rfl) (fun _ _ _ h => h) ?yR1b5 (by assumption) ?rR1b5
             case yR1b5 => intro w h; (try dsimp only at h); go_simp; try with_reducible rfl
             try simp only [sA, sB, sC]
             refine rq (k := 6) rfl (by kernel_rfl) (by kernel_rfl) (fun K hK => ?_)
             go_simp
             refine hK.out _ _ trivial (fun _ => ?_)
             clear hK K
             try simp only [Act.put, sA, sB, sC]
             refine wpAnyH_ready (rs := [7]) (by kernel_rfl) (by simp) ?_
             refine AllReadyH.cons (o := _) rfl (fun K hK => ?_) AllReadyH.nil
             refine step_app_run rfl _ _ rfl rfl rfl rfl hrun ?_
             refine hK.out _ _ trivial (fun _ => ?_)
             clear hK K
             try simp only [Act.put, sA, sB, sC]
             refine tq (i := 8) (v := ?vR1b8) rfl rfl (by kernel_rfl) (fun _ _ _ h => h) ?yR1b8 (by assumption) ?rR1b8
             case yR1b8 => intro w h; (try dsimp only at h); go_simp; try with_reducible rfl
             try simp only [sA, sB, sC]
             refine wpAnyH_ready (rs := [9, 10]) (by kernel_rfl) (by simp) ?_
             refine AllReadyH.cons (o := _) rfl (fun K hK => ?wa) (AllReadyH.cons (o := _) rfl (fun K hK => ?wb) AllReadyH.nil)
             case wa =>
               rw [if_pos (by kernel_rfl)]
               go_simp
               refine hK.out _ _ trivial (fun _ => ?_)
               clear hK K
               try simp only [Act.put, sA, sB, sC]
               refine rq (k := 10) rfl (by kernel_rfl) (by kernel_rfl) (fun K hK => ?_)
               go_simp
               refine hK.out _ _ trivial (fun _ => ?_)
               clear hK K
               try simp only [Act.put, sA, sB, sC]
               refine wpAnyH_done (by kernel_rfl) ?_ _
               go_wp2
               go_meet
               exact HFIN.out
             case wb =>
               rw [if_pos (by kernel_rfl)]
               go_simp
               refine hK.out _ _ trivial (fun _ => ?_)
               clear hK K
               try simp only [Act.put, sA, sB, sC]
               refine rq (k := 9) rfl (by kernel_rfl) (by kernel_rfl) (fun K hK => ?_)
               go_simp
               refine hK.out _ _ trivial (fun _ => ?_)
               clear hK K
               try simp only [Act.put, sA, sB, sC]
               refine wpAnyH_done (by kernel_rfl) ?_ _
               go_wp2
               go_meet
               exact HFIN2.out
           case way2 =>
             rw [if_pos (by kernel_rfl)]
             go_simp
             refine hK.out _ _ trivial (fun _ => ?_)
             clear hK K
             try simp only [Act.put, sA, sB, sC]
             refine rq (k := 0) rfl (by kernel_rfl) (by kernel_rfl) (fun K hK => ?_)
             go_simp
             refine hK.out _ _ trivial (fun _ => ?_)
             clear hK K
             try simp only [Act.put, sA, sB, sC]
             refine tq (i := 5) (v := ?vR2b5) rfl rfl (by kernel_rfl) (fun _ _ _ h => h) ?yR2b5 (by assumption) ?rR2b5
             case yR2b5 => intro w h; (try dsimp only at h); go_simp; try with_reducible rfl
             try simp only [sA, sB, sC]
             refine wpAnyH_ready (rs := [7]) (by kernel_rfl) (by simp) ?_
             refine AllReadyH.cons (o := _) rfl (fun K hK => ?_) AllReadyH.nil
             refine step_app_run rfl _ _ rfl rfl rfl rfl hrun ?_
             refine hK.out _ _ trivial (fun _ => ?_)
             clear hK K
             try simp only [Act.put, sA, sB, sC]
             refine tq (i := 8) (v := ?vR2b8) rfl rfl (by kernel_rfl) (fun _ _ _ h => h) ?yR2b8 (by assumption) ?rR2b8
             case yR2b8 => intro w h; (try dsimp only at h); go_simp; try with_reducible rfl
             try simp only [sA, sB, sC]
             refine wpAnyH_ready (rs := [9, 10]) (by kernel_rfl) (by simp) ?_
             refine AllReadyH.cons (o := _) rfl (fun K hK => ?wa) (AllReadyH.cons (o := _) rfl (fun K hK => ?wb) AllReadyH.nil)
             case wa =>
               rw [if_pos (by kernel_rfl)]
               go_simp
               refine hK.out _ _ trivial (fun _ => ?_)
               clear hK K
               try simp only [Act.put, sA, sB, sC]
               refine rq (k := 10) rfl (by kernel_rfl) (by kernel_rfl) (fun K hK => ?_)
               go_simp
               refine hK.out _ _ trivial (fun _ => ?_)
               clear hK K
               try simp only [Act.put, sA, sB, sC]
               refine wpAnyH_done (by kernel_rfl) ?_ _
               go_wp2
               go_meet
               exact HFIN.out
             case wb =>
               rw [if_pos (by kernel_rfl)]
               go_simp
               refine hK.out _ _ trivial (fun _ => ?_)
               clear hK K
               try simp only [Act.put, sA, sB, sC]
               refine rq (k := 9) rfl (by kernel_rfl) (by kernel_rfl) (fun K hK => ?_)
               go_simp
               refine hK.out _ _ trivial (fun _ => ?_)
               clear hK K
               try simp only [Act.put, sA, sB, sC]
               refine wpAnyH_done (by kernel_rfl) ?_ _
               go_wp2
               go_meet
               exact HFIN2.out
         case rest =>
         obtain ⟨wv, hwv⟩ : ∃ Z, Z = wc := ⟨_, rfl⟩
         subst hwv
         have HEN := hide (end_any w w.heap.size (w.heap.size + 1) _ m wv hcut (by omega) (by
           have := HSL.out
           show (s.2 ++ [_]).length ≤ _
           rw [List.length_append, List.length_singleton]
           omega))
         clear hcut HFIN HFIN2 hrun p1 p2 p3 p4 hcn hcnA a0 a1 a2 a3 a4 a5 a6 a7 a8 a9 a10 a11 d0 d1 d2 d3 d4 d5 d6 d7 d8 d9 d10 d11
         go_wp2_with fail
         refine HEN.out.mono ?_
         rintro e wf ⟨rfl, hsp⟩
         have HSP2 := hide hsp
         clear hsp HEN
         go_wp2
         go_roundg (rest.extract (an + 1) rest.size).size
         case measure => have := HEZ.out; have := HLR.out; omega
         case rel => exact ⟨rest.extract (an + 1) rest.size, _, m + 1, rfl, rfl, by have := HEZ.out; have := HLR.out; omega, HTX2, HSP2, by have := HEZ.out; have := HLR.out; omega, hide (by rw [flush_len]; omega)⟩
end
section
open Go.RowKit Go.Deep
theorem alive12_any (w : World) : Calls Tryz.prog 16 #[] w fun e w' => e = .returned (.bool true) ∧ Below w.heap.size w w' := by
 have hrow : RG encPt 6 (w.alloc (.cells #[.int .i64 1, .string ⟨#[97, 32, 98]⟩, .string ⟨#[]⟩, .string ⟨#[]⟩, .slice none 0 0, .bool false] tyP)) (some ⟨w.heap.size, 0, none⟩) [ptT [97, 32, 98]] := rg_new (enc := encPt) w (ptT [97, 32, 98]) tyP
 have HSP := hide (fsplit_any (some ⟨w.heap.size, 0, none⟩) 1 [ptT [97, 32, 98]] _ hrow (by decide) (by intro p hp; simp at hp; subst hp; decide))
 have HB := hide ((Below.refl w.heap.size w).alloc (Nat.le_refl _) (.cells #[.int .i64 1, .string ⟨#[97, 32, 98]⟩, .string ⟨#[]⟩, .string ⟨#[]⟩, .slice none 0 0, .bool false] tyP))
 have hsl : (splitS [ptT [97, 32, 98]]).length = 2 := by decide
 have HSL := hide hsl
 clear hrow hsl
 go_enter Tryz.func16, Tryz.ntmps16
 go_wp2_with fail
 refine HSP.out.mono ?_
 rintro e wf hp
 obtain ⟨out, A, c, rfl, ho, _, _, hb⟩ := hp
 have hol : out.length = 2 := by rw [← HSL.out, ← ho, List.length_map]
 rw [hol]
 have HF := hide (HB.out.trans (hb.mono HB.out.size))
 clear hb ho hol
 go_wp2
 go_ret
 exact ⟨rfl, HF.out⟩
end
section
open Go.RowKit Go.Deep Go.Maps Ln Pth Vf Qm.Glob
attribute [local go_sem] bt_eq
def ptK (k : Int) (s : ByteArray) : Pt := ⟨k, s, ⟨#[]⟩, ⟨#[]⟩, none, 0, 0, false⟩
theorem pat_one (p : Pt) : bsF (patS [p]) = patP p := by
 unfold patS bsF
 simp
theorem patP_quote (s : ByteArray) : patP (ptK 2 s) = sb (qb (bt s) s.size) := rfl
end
section
open Go.RowKit Go.Deep Go.ChangeShapes Go.WideShapes
theorem choose_list {α : Type} {P : Nat → α → Prop} : ∀ n, (∀ i, i < n → ∃ x, P i x) → ∃ L : List α, L.length = n ∧ ∀ i x, L[i]? = some x → P i x
 | 0, _ => ⟨[], rfl, fun i x h => by simp at h⟩
 | n + 1, h => by
   obtain ⟨L, hl, hL⟩ := choose_list n (fun i hi => h i (by omega))
   obtain ⟨x, hx⟩ := h n (by omega)
   refine ⟨L ++ [x], by simp [hl], fun i y hy => ?_⟩
   by_cases hi : i < L.length
   · rw [List.getElem?_append_left hi] at hy
     exact hL i y hy
   · rw [List.getElem?_append_right (by omega)] at hy
     have : i - L.length = 0 := by
       have := (List.getElem?_eq_some_iff.1 hy).1
       simp at this
       omega
     rw [this] at hy
     simp at hy
     subst hy
     rw [show i = n by omega]
     exact hx
theorem add_offR (b off k : Nat) : (Addr.mk b off none).add k = ⟨b, off + k, none⟩ := by
 unfold Addr.add
 split
 · rename_i h0; subst h0; rfl
 · rfl
def CellsAt (w : World) (g o : Nat) (cs : List Value) : Prop := ∀ j v, cs[j]? = some v → w.cell? ⟨g, o + j, none⟩ = some v
def RowsAt {α : Type} (n : Nat) (good : World → α → List Value → Prop) (w : World) (A : Option Addr) (L : List α) : Prop :=
 ∀ k x, L[k]? = some x → ∃ g o cs, A = some ⟨g, o, none⟩ ∧ g < w.heap.size ∧ cs.length = n ∧ CellsAt w g (o + k * n) cs ∧ good w x cs
end
section
open Go.RowKit Go.Deep Go.ChangeShapes Go.WideShapes
end
section
open Go.RowKit Go.Deep Go.ChangeShapes Go.WideShapes
end
section
open Go.RowKit Go.Deep Go.ChangeShapes Go.WideShapes
end
section
open Go.RowKit
abbrev SRow := Option Addr × Nat × List ByteArray
def sv (x : SRow) : Value := .slice x.1 x.2.2.length x.2.1
structure Rl where
 tg : SRow
 nd : SRow
 rc : SRow
def encRl (r : Rl) : List Value := [sv r.tg, sv r.nd, sv r.rc]
structure RlOk (w : World) (r : Rl) : Prop where
 tg : SR w r.tg.1 r.tg.2.2
 nd : SR w r.nd.1 r.nd.2.2
 rc : SR w r.rc.1 r.rc.2.2
 t1 : r.tg.2.2.length ≤ 100000
 n1 : r.nd.2.2.length ≤ 100000
 r1 : r.rc.2.2.length ≤ 100000
end
section
open Go.RowKit Go.Deep Go.ChangeShapes Go.WideShapes
structure SmallD (H : Type) (K : Nat) where
 P : TypeId → DataW H → Prop
 elem : ∀ {t e : TypeId} {elems spare : List (DataW H)} {d : DataW H}, Tryz.prog.underlying t = some (.slice e) → P t (.slice elems spare) → d ∈ elems → P e d
 part : ∀ {t : TypeId} {fs : Array Field} {parts : List (DataW H)} {j : Nat} {f : Field} {d : DataW H}, Tryz.prog.underlying t = some (.struct fs) → P t (.agg parts) → fs[j]? = some f → parts[j]? = some d → P f.type d
 str : ∀ {t : TypeId} {b : List UInt8}, P t (.lit (.string b)) → b.length ≤ K
theorem weightsAll_mem {H : Type} {P : Program} {e : TypeId} {n : Nat} {d : DataW H} (hn : n ∈ d.weights P e) : ∀ {l : List (DataW H)}, d ∈ l → n ∈ DataW.weightsAll P e l
 | [], h => by cases h
 | x :: l, h => by
   simp only [DataW.weightsAll, List.mem_append]
   rcases List.mem_cons.1 h with rfl | h
   · exact .inl hn
   · exact .inr (weightsAll_mem hn h)
def weighD (H : Type) : SmallD H reachBytes where
 P := fun t d => ∀ n ∈ d.weights Tryz.prog t, n ≤ reachBytes
 elem := fun {t e elems spare d} hu h hd n hn => h n (by
   simp only [DataW.weights, hu, List.mem_cons, List.mem_append]
   exact .inr (.inl (weightsAll_mem hn hd)))
 part := fun {t fs parts j f d} hu h hf hd n hn => h n (by
   simp only [DataW.weights, hu]
   exact DataW.weights_mem_each (j := j) (t := f.type) (by rw [List.getElem?_map, Array.getElem?_toList, hf]; rfl) hd n hn)
 str := fun {t b} h => h b.length (by simp [DataW.weights])
theorem weighD_arg {H : Type} {ts : List TypeId} {ds : List (DataW H)} (h : (DataW.weightsEach Tryz.prog ts ds).all (· ≤ reachBytes) = true) {j : Nat} {t : TypeId} {d : DataW H} (ht : ts[j]? = some t) (hd : ds[j]? = some d) : (weighD H).P t d := fun n hn => by
 have := List.all_eq_true.1 h _ (DataW.weights_mem_each ht hd n hn)
 simpa using this
theorem open_rowsD {H α : Type} {enc : TypeId × Value → H} {w : World} {spare : Nat → Bool} {held : Bool} {K : Nat} (S : SmallD H K) {t e : TypeId} {n : Nat} (ht : Tryz.prog.underlying t = some (.slice e)) (hn : Tryz.prog.cellsOf e = n) (h0 : 0 < n) (good : World → α → List Value → Prop)
   (each : ∀ fuel cs y, cs.length = n → S.P e y.1 → DataW.trod enc Tryz.prog w 0 spare held fuel e cs = some y → ∃ x, good w x cs)
   {a0 : Option Addr} {len cap : Nat} {d : DataW H} {ps : List MemPlace} (h : DataW.Trod enc Tryz.prog w 0 spare held t (.slice a0 len cap) d ps) (hS : S.P t d) :
   ∃ L : List α, L.length = len ∧ L.length ≤ maxLen ∧ (∀ x ∈ L, ∃ cs, good w x cs) ∧ RowsAt n good w a0 L := by
 obtain ⟨fuel, hf⟩ := h
 rcases open_slice ht hf with ⟨hcs, hx⟩ | ⟨a, len', cap', m, fl, D, Pl, hcs, _, hl, hm, hmm, hdd, hx⟩
 · simp [Value.cells] at hcs
   obtain ⟨rfl, rfl, rfl⟩ := hcs
   exact ⟨[], rfl, Nat.zero_le _, fun x hx => by simp at hx, fun k x hk => by simp at hk⟩
 · simp [Value.cells] at hcs
   obtain ⟨rfl, rfl, rfl⟩ := hcs
   have hd1 := congrArg Prod.fst hdd
   simp only at hd1
   rw [hd1] at hS
   have hlm : len ≤ m := by rw [hmm]; split <;> omega
   obtain ⟨L, hL, hLx⟩ := choose_list (P := fun i x => ∃ cs, cs.length = n ∧ (∀ j v, cs[j]? = some v → w.cell? ((a.add (i * n)).add j) = some v) ∧ good w x cs) len (fun i hi => by
     obtain ⟨cs', h1, h2⟩ := hx i (by omega)
     rw [hn] at h1
     obtain ⟨_, hlen, hcell⟩ := World.cells?_some h1
     obtain ⟨x, hx⟩ := each _ _ _ hlen (S.elem ht hS (List.mem_map.2 ⟨i, List.mem_range.2 hi, rfl⟩)) h2
     refine ⟨x, cs', hlen, fun j v hj => ?_, hx⟩
     have hjn : j < n := by
       have := (List.getElem?_eq_some_iff.1 hj).1
       omega
     have := hcell j hjn
     rw [hj] at this
     exact this)
   refine ⟨L, hL, by omega, fun x hx => ?_, fun k x hk => ?_⟩
   · obtain ⟨i, hi⟩ := List.getElem?_of_mem hx
     obtain ⟨cs, _, _, hg⟩ := hLx i x hi
     exact ⟨cs, hg⟩
   · obtain ⟨cs, h1, h2, h3⟩ := hLx k x hk
     obtain ⟨b, off, spot⟩ := a
     have hk2 : k < len := by
       have := (List.getElem?_eq_some_iff.1 hk).1
       omega
     obtain ⟨v0, hv0⟩ : ∃ v, cs[0]? = some v := ⟨cs[0]'(by omega), gE _⟩
     have hc0 := h2 0 v0 hv0
     have hspot : spot = none := by
       obtain ⟨x0, hx0⟩ : ∃ x, L[0]? = some x := ⟨L[0]'(by omega), gE _⟩
       obtain ⟨cs0, q1, q2, _⟩ := hLx 0 x0 hx0
       obtain ⟨u0, hu0⟩ : ∃ v, cs0[0]? = some v := ⟨cs0[0]'(by omega), gE _⟩
       have := q2 0 u0 hu0
       rw [Nat.zero_mul] at this
       simpa [Addr.add] using World.cell?_spot this
     subst hspot
     refine ⟨b, off, cs, rfl, ?_, h1, fun j v hj => ?_, h3⟩
     · rw [add_offR, add_offR] at hc0
       exact World.block_lt_of_cell? w _ hc0
     · have := h2 j v hj
       rw [add_offR, add_offR] at this
       exact this
theorem open_SRD {H : Type} {enc : TypeId × Value → H} {W : World} {K : Nat} (S : SmallD H K) {a0 : Option Addr} {len cap : Nat} {d : DataW H} {ps : List MemPlace} (h : DataW.Trod enc Tryz.prog W 0 (fun _ => true) true 42 (.slice a0 len cap) d ps) (hS : S.P 42 d) :
   ∃ L : List ByteArray, L.length = len ∧ L.length ≤ maxLen ∧ (∀ s ∈ L, s.size ≤ K) ∧ SR W a0 L := by
 obtain ⟨L, h1, h2, h3, h4⟩ := open_rowsD S (n := 1) Tryz.underlying42 (by kernel_rfl) (by omega) (fun _ (s : ByteArray) cs => cs = [.string s] ∧ s.size ≤ K) (fun fuel cs y hlen hP hy => by
   obtain ⟨s, rfl, rfl, _⟩ := DataW.trod_string Tryz.underlying9 hy
   have := S.str hP
   exact ⟨s, rfl, by simpa using this⟩) h hS
 refine ⟨L, h1, h2, fun s hs => by obtain ⟨cs, hg⟩ := h3 s hs; exact hg.2, fun k s hk => ?_⟩
 obtain ⟨g, o, cs, e, hg, _, hc, rfl, _⟩ := h4 k s hk
 refine ⟨g, o, e, hg, ?_⟩
 have := hc 0 _ rfl
 simpa using this
structure RlIn (K : Nat) (w : World) (r : Rl) : Prop where
 tg : SR w r.tg.1 r.tg.2.2
 nd : SR w r.nd.1 r.nd.2.2
 rc : SR w r.rc.1 r.rc.2.2
 t1 : r.tg.2.2.length ≤ maxLen
 n1 : r.nd.2.2.length ≤ maxLen
 r1 : r.rc.2.2.length ≤ maxLen
 t2 : ∀ s ∈ r.tg.2.2, s.size ≤ K
 n2 : ∀ s ∈ r.nd.2.2, s.size ≤ K
 r2 : ∀ s ∈ r.rc.2.2, s.size ≤ K
def RLI (K : Nat) (w : World) (A : Option Addr) (L : List Rl) : Prop := RG encRl 3 w A L ∧ ∀ r ∈ L, RlIn K w r
structure MkV where
 ma : Option Addr
 mc : Nat
 ml : List Pr
 ra : Option Addr
 rc : Nat
 rl : List Rl
structure MkIn (K : Nat) (w : World) (x : MkV) : Prop where
 m1 : x.ml.length ≤ maxLen
 r1 : x.rl.length ≤ maxLen
 m2 : ∀ p ∈ x.ml, p.1.size ≤ K ∧ p.2.size ≤ K
 mr : PR w x.ma x.ml
 rr : RLI K w x.ra x.rl
end
section
open Go.RowKit Go.Deep Go.ChangeShapes Go.WideShapes Ln Pth Vf
structure Ac4 where
 way : Int
 p : ByteArray
 q : ByteArray
 A : Option Addr
 c : Nat
 b : T
 more : Bool
end
end Go.Proofs.YtmcophlmcloooaaGreatDoor
